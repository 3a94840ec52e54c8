/- A region that draws its order, some operations of which make new things in any order. -/
import Derived.Test.YtmphklmhhcmbnaaXs
namespace Go.Proofs.YtmphklmhhcmbnaaW.Ax
open Go Go.RowKit
set_option linter.unusedVariables false

def schedQ (ops : Array Oper) (fl : Nat → Bool) (k : Array Bool → Bool) : List Nat → Array Bool → Bool
  | [], listed => k listed
  | i :: qs, listed => qOk ops fl listed i && schedQ ops fl k qs (listed.setIfInBounds i true)
def schedM (ops : Array Oper) (M : List Nat) (k : Array Bool → Bool) : Nat → Array Bool → Bool
  | 0, listed => M.all (fun i => listed.getD i false) && k listed
  | f + 1, listed => !(Region.ready .any ops listed).isEmpty && (Region.ready .any ops listed).all fun i => M.contains i && schedM ops M k f (listed.setIfInBounds i true)
def drawOkM (ops : Array Oper) (qs M post : List Nat) (ms : List Md) : Bool :=
  Region.noSelect ops && (qs.length + (M.length + post.length) == ops.size && (M.all (fun i => match ops[i]? with | some o => o.guard.isNone | none => false) &&
    schedQ ops (fun j => qs.contains j || M.contains j || flagOf post ms j) (fun li => M.all (fun i => !(li.getD i false)) && schedM ops M (schedB ops (fun j => qs.contains j || M.contains j || flagOf post ms j) none post ms) M.length li) qs (Array.replicate ops.size false)))
def allQ (n : Nat) : List Md := List.replicate n .q

section
variable {P : Program} {T : Nat → Prop} {st0 : St} {N : Nat} {ops : Array Oper} {Q : Aa → St → Prop} {μ0 : Nat → Loc} {w0 : World} {Q' : Exit → Act → World → Prop} {fl : Nat → Bool}

/-- What is known while some of the makers have gone. -/
structure JM (M : List Nat) (d : Nat → Nat) (Φ : Nat → AV → St → Prop) (a0 : Aa) (st : St) (listed : Array Bool) (a : Aa) (st' : St) : Prop where
  ex : Ex st st'
  phi : ∀ i ∈ M, listed.getD i false = true → Φ i (a.s (d i)) st'
  slot : ∀ t, t ∉ M.map d → a.s t = a0.s t ∧ a.p t = a0.p t
  box : a.x = a0.x

theorem wpX_of_M (hQ : ∀ ca w, Good T μ0 st0 w0 N Q ca w → Q' .normal ca w) (hQn : ∀ e ca w, e ≠ .normal → ¬ Q' e ca w) (hs : Region.noSelect ops = true) (hd : ∀ (i : Nat) o, ops[i]? = some o → ∀ x, o.dst = some x → x < N)
    (M : List Nat) (d : Nat → Nat) (Φ : Nat → AV → St → Prop) (hst : ∀ i v st st', Φ i v st → Ex st st' → Φ i v st') (hinj : ∀ i ∈ M, ∀ j ∈ M, d i = d j → i = j) (hg : ∀ i ∈ M, ∀ o, ops[i]? = some o → o.guard = none) (a0 : Aa) (st : St)
    (hstep : ∀ i ∈ M, ∀ o, ops[i]? = some o → ∀ a st', Ex st st' → (∀ j ∈ M, (∃ e ∈ o.after, Region.binds .any e = true ∧ e.on = j) → Φ j (a.s (d j)) st') → (∀ t, t ∉ M.map d → a.s t = a0.s t ∧ a.p t = a0.p t) → a.x = a0.x →
      ALeaf P T st0 N o .f (fun a' st'' => ∃ v, a' = a.put (some (d i)) (.v v) ∧ Φ i v st'' ∧ Ex st' st'') a st')
    (post : List Nat) (ms : List Md) (hfin : ∀ a st', JM M d Φ a0 st (Array.replicate 0 true) a st' → (∀ i ∈ M, Φ i (a.s (d i)) st') → AOps P T st0 N ops Q ms (post.filterMap (ops[·]?)) a st') :
    ∀ (f : Nat) (listed : Array Bool), schedM ops M (schedB ops fl none post ms) f listed = true → ∀ ca w, Good T μ0 st0 w0 N (JM M d Φ a0 st listed) ca w → wpX P ops Q' (PwS fl none (fun _ => False)) (f + post.length) listed ca w
  | 0, listed, hB, ca, w, h => by
    simp only [schedM, Bool.and_eq_true, List.all_eq_true] at hB
    rw [Nat.zero_add]
    refine wpX_of_AOps hQ hQn hs hd post ms listed hB.2 ca w (h.mono fun a st' hj => ?_)
    exact hfin a st' ⟨hj.ex, fun i hi hl => by simp at hl, hj.slot, hj.box⟩ fun i hi => hj.phi i hi (hB.1 i hi)
  | f + 1, listed, hB, ca, w, h => by
    simp only [schedM, Bool.and_eq_true, List.all_eq_true, Bool.not_eq_true', List.isEmpty_eq_false_iff, List.contains_iff_mem] at hB
    obtain ⟨hne, hall⟩ := hB
    rw [Nat.add_right_comm]
    refine ⟨fun e => absurd e hne, fun i hi => ?_⟩
    obtain ⟨hiM, hB'⟩ := hall i hi
    obtain ⟨hun, oi, hoi, hdep⟩ := mem_ready.1 hi
    obtain ⟨β, a, μ, st', hinv, hj⟩ := h
    have hlf := hstep i hiM oi hoi a st' hj.ex (fun j hjM ⟨e, he, hb, hej⟩ => hj.phi j hjM (hej ▸ hdep e he hb)) hj.slot hj.box
    unfold wpOp
    simp only [hoi]
    rw [if_pos (by simp [Region.wanted, hg i hiM oi hoi])]
    refine .inl (Oper.wp_mono (fun ca' w' hk => ?_) (hlf (hd i oi hoi) μ0 w0 β μ w ca hinv Q'))
    refine ⟨⟨fun _ => hk.1 rfl, fun e => by cases e⟩, wpX_of_M hQ hQn hs hd M d Φ hst hinj hg a0 st hstep post ms hfin f _ hB' ca' w' (hk.2.mono fun a' st'' hr => ?_)⟩
    obtain ⟨v, rfl, hphi, hex⟩ := hr
    have hin : i < listed.size := by
      rcases Nat.lt_or_ge i listed.size with h' | h'
      · exact h'
      · rw [Array.getD_eq_getD_getElem?, Array.getElem?_eq_none h'] at hun; cases hun
    refine ⟨hj.ex.tr hex, fun j hjM hl => ?_, fun t ht => ?_, (put_x ..).trans hj.box⟩
    · by_cases hji : j = i
      · subst hji
        show Φ j (upd a.s (d j) v (d j)) st''
        rw [upd_same]; exact hphi
      · have hne' : d j ≠ d i := fun e => hji (hinj j hjM i hiM e)
        show Φ j (upd a.s (d i) v (d j)) st''
        rw [upd_ne _ _ hne']
        rw [getD_set_ne false (Ne.symm hji)] at hl
        exact hst _ _ _ _ (hj.phi j hjM hl) hex
    · have hne' : t ≠ d i := fun e => ht (e ▸ List.mem_map.2 ⟨i, hiM, rfl⟩)
      show upd a.s (d i) v t = _ ∧ upd a.p (d i) none t = _
      rw [upd_ne _ _ hne', upd_ne _ _ hne']
      exact hj.slot t ht

theorem wpX_of_Q (hQn : ∀ e ca w, e ≠ .normal → ¬ Q' e ca w) (hs : Region.noSelect ops = true) (hd : ∀ (i : Nat) o, ops[i]? = some o → ∀ x, o.dst = some x → x < N) {s : Option Nat} {B : Nat → Prop} (k : Array Bool → Bool) (Cont : Aa → St → Prop) (fuel : Nat)
    (hk : ∀ listed, k listed = true → ∀ ca w, Good T μ0 st0 w0 N Cont ca w → wpX P ops Q' (PwS fl s B) fuel listed ca w) :
    ∀ (qs : List Nat) (listed : Array Bool), schedQ ops fl k qs listed = true → ∀ ca w, Good T μ0 st0 w0 N (AOps P T st0 N ops Cont (allQ qs.length) (qs.filterMap (ops[·]?))) ca w → wpX P ops Q' (PwS fl s B) (qs.length + fuel) listed ca w
  | [], listed, hB, ca, w, h => by
    rw [List.length_nil, Nat.zero_add]
    exact hk listed hB ca w h
  | i :: qs, listed, hB, ca, w, h => by
    simp only [schedQ, Bool.and_eq_true] at hB
    obtain ⟨hq, hB⟩ := hB
    obtain ⟨β, a, μ, st, hi, hr⟩ := h
    have hin : i ∈ Region.ready .any ops listed := by
      have h' := hq
      simp only [qOk, Bool.and_eq_true] at h'
      simpa using h'.1.1
    obtain ⟨hjun, oi, hoi, hall⟩ := mem_ready.1 hin
    simp only [List.filterMap_cons, hoi, AOps, allQ, List.length_cons, List.replicate_succ, List.headD_cons, List.tail_cons] at hr
    have key : ∃ v, (∃ r, RR st.n μ β r v ∧ AOps P T st0 N ops Cont (allQ qs.length) (qs.filterMap (ops[·]?)) (a.put oi.dst r) st) ∧ YX P ops Pre oi v ca w := by
      cases hg : oi.guard with
      | none =>
        rw [hg] at hr
        obtain ⟨r, haq, hr⟩ := hr
        obtain ⟨cv, h1, h2⟩ := haq μ0 w0 β μ w ca hi
        exact ⟨cv, ⟨r, h1, hr⟩, .inl ⟨by simp [Region.wanted, hg], h2⟩⟩
      | some jw =>
        obtain ⟨j, want⟩ := jw
        rw [hg] at hr
        obtain ⟨t, ht, ⟨hsb, hr⟩ | ⟨hsb, hr⟩⟩ := hr
        · have hy := yielded_of hi ht hsb
          obtain ⟨r, haq, hr⟩ := hr
          obtain ⟨cv, h1, h2⟩ := haq μ0 w0 β μ w ca hi
          exact ⟨cv, ⟨r, h1, hr⟩, .inl ⟨by simp [Region.wanted, hg, hy], h2⟩⟩
        · have hy := yielded_not hi ht hsb
          exact ⟨undef, ⟨.v .und, by simp [RR, VR], hr⟩, .inr ⟨by simp [Region.wanted, hg, hy], rfl⟩⟩
    obtain ⟨v, ⟨r, hrr, hrest⟩, hy⟩ := key
    have ih := wpX_of_Q hQn hs hd k Cont fuel hk qs _ hB (ca.put oi.dst v) w ⟨β, _, μ, st, hi.put (hd i oi hoi) hrr, hrest⟩
    rw [List.length_cons, show qs.length + 1 + fuel = (qs.length + fuel) + 1 by omega]
    exact first_of (R := Pre) Pre.refl (fun a b c h k => h.trans k) hQn hs hq hoi (fun w => PwS.refl ..) (fun j hj w w' hp => hp.1 hj) hy ih
end
section
variable {P : Program} {T : Nat → Prop} {st0 : St} {N : Nat} {a : Aa} {st : St} {Q : AX → Aa → St → Prop} {id : Nat} {l : List Oper} {y : Code}
/-- Reads first ('qs'), then makers in any order ('M': what each yields is told by Φ, in the slots d), then the rest. -/
theorem c_dM {tb : Tb} [TbOk P tb] (qs M post : List Nat) (ms : List Md) (d : Nat → Nat) (Φ : Nat → AV → St → Prop) (hd : dstsOk N l = true) (hB : drawOkM l.toArray qs M post ms = true) (hst : ∀ i v st st', Φ i v st → Ex st st' → Φ i v st') (hinj : (M.all fun i => M.all fun j => !(d i == d j) || i == j) = true)
    (h : AOps P T st0 N l.toArray (fun a0 st1 => st1 = st ∧ (∀ i ∈ M, ∀ o, l.toArray[i]? = some o → ∀ a st', Ex st st' → (∀ j ∈ M, (∃ e ∈ o.after, Region.binds .any e = true ∧ e.on = j) → Φ j (a.s (d j)) st') → (∀ t, t ∉ M.map d → a.s t = a0.s t ∧ a.p t = a0.p t) → a.x = a0.x →
        ALeaf P T st0 N o .f (fun a' st'' => ∃ v, a' = a.put (some (d i)) (.v v) ∧ Φ i v st'' ∧ Ex st' st'') a st') ∧
      (∀ a st', Ex st st' → (∀ i ∈ M, Φ i (a.s (d i)) st') → (∀ t, t ∉ M.map d → a.s t = a0.s t ∧ a.p t = a0.p t) → a.x = a0.x → AOps P T st0 N l.toArray (ACode P T st0 N y Q) ms (post.filterMap (l.toArray[·]?)) a st')) (allQ qs.length) (qs.filterMap (l.toArray[·]?)) a st) : ACode P T st0 N (.seq (.region id l.toArray true) y) Q a st := by
  refine c_seq ?_
  intro μ0 w0 β μ w ca hi
  simp only [drawOkM, Bool.and_eq_true, beq_iff_eq, List.all_eq_true] at hB
  obtain ⟨hs, hlen, hg, hB⟩ := hB
  simp only [List.all_eq_true, Bool.or_eq_true, Bool.not_eq_true', beq_eq_false_iff_ne, beq_iff_eq] at hinj
  have hdd : ∀ (i : Nat) o, l.toArray[i]? = some o → ∀ x, o.dst = some x → x < N := fun i o ho x hx => dstsOk_spec hd o (by simpa using List.mem_of_getElem? (by simpa using ho)) x hx
  refine wp_mono (wp_region_any (Q := fun e ca w => e = .normal ∧ Good T μ0 st0 w0 N (ACode P T st0 N y Q) ca w) (TbOk.mixed (tb := tb)) (wpAny_of_wpX (Pw := PwS (fun j => qs.contains j || M.contains j || flagOf post ms j) none (fun _ => False)) _ _ _ _ ?_)) fun e ca' w' hq => by obtain ⟨rfl, hq⟩ := hq; exact hq
  have hQ : ∀ (ca : Act) (w : World), Good T μ0 st0 w0 N (ACode P T st0 N y Q) ca w → Exit.normal = Exit.normal ∧ Good T μ0 st0 w0 N (ACode P T st0 N y Q) ca w := fun ca w h => ⟨rfl, h⟩
  have hQn : ∀ (e : Exit) (ca : Act) (w : World), e ≠ .normal → ¬ (e = .normal ∧ Good T μ0 st0 w0 N (ACode P T st0 N y Q) ca w) := fun e ca w hne hq => hne hq.1
  rw [← hlen] at hB ⊢
  refine wpX_of_Q hQn hs hdd _ _ _ (fun listed hk ca w hgood => ?_) qs _ hB ca _ ⟨β, a, μ, st, hi.pre (Pre.drew w), h⟩
  obtain ⟨β1, a0, μ1, st1, hi1, rfl, hstep, hfin⟩ := hgood
  simp only [Bool.and_eq_true, List.all_eq_true, Bool.not_eq_true'] at hk
  obtain ⟨hun, hk⟩ := hk
  refine wpX_of_M hQ hQn hs hdd M d Φ hst (fun i hi j hj e => ?_) (fun i hi o ho => ?_) a0 st1 hstep post ms (fun a st' hj hphi => hfin a st' hj.ex hphi hj.slot hj.box) M.length listed hk ca w ⟨β1, a0, μ1, st1, hi1, Ext.refl _ _, fun i hi hl => ?_, fun t _ => ⟨rfl, rfl⟩, rfl⟩
  · rcases hinj i hi j hj with h | h
    · exact absurd e h
    · exact h
  · have := hg i hi
    rw [ho] at this
    simpa using this
  · rw [hun i hi] at hl; cases hl
end
end Go.Proofs.YtmphklmhhcmbnaaW.Ax
