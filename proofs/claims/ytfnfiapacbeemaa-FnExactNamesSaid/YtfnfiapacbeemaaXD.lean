/- A region that draws its order: makers in any order, variables of the frame's own born among them, and plain moves as soon as they may. -/
import Derived.Test.YtfnfiapacbeemaaXB
import Derived.Test.YtfnfiapacbeemaaXC
namespace Go.Proofs.YtfnfiapacbeemaaW.Ax
open Go Go.RowKit
set_option linter.unusedVariables false

def isMove2 (o : Oper) : Bool := (match o.op with | .move _ => true | .assign _ => true | .extract _ _ => true | _ => false) && o.guard.isNone
def nextV (ops : Array Oper) (V : List Nat) (listed : Array Bool) : Option Nat := V.find? fun i => qOk ops (fun _ => true) listed i && (match ops[i]? with | some o => isMove2 o | none => false)
def schedMV (ops : Array Oper) (V M L : List Nat) (k : Array Bool → Bool) : Nat → Array Bool → Bool
  | 0, listed => L.all (fun i => listed.getD i false) && k listed
  | f + 1, listed => match nextV ops V listed with
    | some i => schedMV ops V M L k f (listed.setIfInBounds i true)
    | none => !(Region.ready .any ops listed).isEmpty && (Region.ready .any ops listed).all fun i => M.contains i && schedMV ops V M L k f (listed.setIfInBounds i true)
/-- Whether one waits for another. -/
def bnd (ops : Array Oper) (i j : Nat) : Bool := match ops[i]? with | some o => o.after.any (fun e => Region.binds .any e && e.on == j) | none => false
def locOk (ops : Array Oper) (L : List Nat) (d : Nat → Nat) (K : Nat → List Nat) : Bool := L.all fun i => (K i).all fun t => t == d i || L.any fun j => t == d j && bnd ops i j
def drawOkA (ops : Array Oper) (qs V M W A post : List Nat) (ms : List Md) (d : Nat → Nat) (K : Nat → List Nat) : Bool :=
  Region.noSelect ops && (qs.length + ((V ++ (M ++ W) ++ A).length + post.length) == ops.size && (((M ++ W) ++ A).all (fun i => match ops[i]? with | some o => o.guard.isNone | none => false) && (((V ++ (M ++ W) ++ A).all fun i => (V ++ (M ++ W) ++ A).all fun j => !(d i == d j) || i == j) && (A.all (fun i => !((V ++ (M ++ W)).contains i)) && (locOk ops (V ++ (M ++ W)) d K &&
    schedQ ops (fun j => qs.contains j || (V ++ M ++ A).contains j && !(W.contains j) || flagOf post ms j) (fun li => (V ++ (M ++ W) ++ A).all (fun i => !(li.getD i false)) && schedMV ops V ((M ++ W) ++ A) (V ++ (M ++ W) ++ A) (schedB ops (fun j => qs.contains j || (V ++ M ++ A).contains j && !(W.contains j) || flagOf post ms j) none post ms) (V ++ (M ++ W) ++ A).length li) qs (Array.replicate ops.size false))))))

/-- What is known while some of the makers have gone. -/
structure JN (ops : Array Oper) (B A : List Nat) (ki : Nat → List Nat) (d : Nat → Nat) (z : Nat → List AV) (Φ : Nat → (Nat → AV) → St → Prop) (a0 : Aa) (st : St) (listed : Array Bool) (a : Aa) (st' : St) : Prop where
  ex : Ex st st'
  phi : ∀ i ∈ B, listed.getD i false = true → (∀ k ∈ ki i, listed.getD k false = false) → Φ i a.s st'
  dep : ∀ i ∈ B, listed.getD i false = true → ∀ j ∈ B, bnd ops i j = true → listed.getD j false = true
  al : ∀ i ∈ A, listed.getD i false = true → a.p (d i) = some (d i, 0) ∧ a.x (d i) = some (z i)
  slot : ∀ t, t ∉ (B ++ A).map d → a.s t = a0.s t
  pl : ∀ t, t ∉ (B ++ A).map d → ∀ k o, a0.p t = some (k, o) → k ∉ A.map d → a.p t = some (k, o)
  box : ∀ k, k ∉ A.map d → a.x k = a0.x k

section
variable {P : Program} {T : Nat → Prop} {st0 : St} {N : Nat} {ops : Array Oper} {Q : Aa → St → Prop} {μ0 : Nat → Loc} {w0 : World} {Q' : Exit → Act → World → Prop} {fl : Nat → Bool}
variable {B A : List Nat} {ki : Nat → List Nat} {d : Nat → Nat} {z : Nat → List AV} {K : Nat → List Nat} {Φ : Nat → (Nat → AV) → St → Prop}
theorem JN.put (hloc : ∀ i s s' st, (∀ t ∈ K i, s' t = s t) → Φ i s st → Φ i s' st) (hinj : ∀ i ∈ B ++ A, ∀ j ∈ B ++ A, d i = d j → i = j) (hdj : ∀ i ∈ A, i ∉ B) (hK : locOk ops B d K = true) {a0 : Aa} {st : St} {listed : Array Bool} {a : Aa} {st' st'' : St} {v : AV} {i : Nat}
    (hj : JN ops B A ki d z Φ a0 st listed a st') (hiB : i ∈ B) (hin : i < listed.size) (hun : listed.getD i false = false) (hdp : ∀ j ∈ B, bnd ops i j = true → listed.getD j false = true)
    (hphi : Φ i (upd a.s (d i) v) st'') (hst : ∀ j ∈ B, i ∉ ki j → j ≠ i → bnd ops j i = false → Φ j a.s st' → Φ j a.s st'') (hex : Ex st st'') : JN ops B A ki d z Φ a0 st (listed.setIfInBounds i true) (a.put (some (d i)) (.v v)) st'' := by
  have hiL : i ∈ B ++ A := List.mem_append_left _ hiB
  have hmono : ∀ j, listed.getD j false = true → (listed.setIfInBounds i true).getD j false = true := fun j h => by
    by_cases e : j = i
    · subst e; rw [hun] at h; cases h
    · rw [getD_set_ne false (Ne.symm e)]; exact h
  refine ⟨hex, fun j hjB hl hki => ?_, fun j hjB hl k hk hb => ?_, fun j hjA hl => ?_, fun t ht => ?_, fun t ht k o h hk => ?_, fun k hk => hj.box k hk⟩
  · by_cases hji : j = i
    · subst hji; exact hphi
    · rw [getD_set_ne false (Ne.symm hji)] at hl
      have hbji : bnd ops j i = false := by
        cases hb : bnd ops j i with
        | false => rfl
        | true => rw [hj.dep j hjB hl i hiB hb] at hun; cases hun
      have hki' : ∀ k ∈ ki j, k ≠ i ∧ listed.getD k false = false := fun k hk => by
        have h := hki k hk
        by_cases e : k = i
        · subst e
          rw [Array.getD_eq_getD_getElem?, Array.getElem?_setIfInBounds] at h
          have hsz := hin
          simp [hsz] at h
        · rw [getD_set_ne false (Ne.symm e)] at h; exact ⟨e, h⟩
      refine hloc j a.s _ _ (fun t ht => ?_) (hst j hjB (fun h => (hki' i h).1 rfl) hji hbji (hj.phi j hjB hl fun k hk => (hki' k hk).2))
      simp only [locOk, List.all_eq_true, Bool.or_eq_true, beq_iff_eq, List.any_eq_true, Bool.and_eq_true] at hK
      refine upd_ne _ _ ?_
      rcases hK j hjB t ht with e | ⟨k, hkB, e, hb⟩
      · exact fun e2 => hji (hinj j (List.mem_append_left _ hjB) i hiL (e.symm.trans e2))
      · intro e2
        have := hinj k (List.mem_append_left _ hkB) i hiL (e.symm.trans e2)
        subst this
        rw [hj.dep j hjB hl k hkB hb] at hun; cases hun
  · by_cases hji : j = i
    · subst hji; exact hmono _ (hdp k hk hb)
    · rw [getD_set_ne false (Ne.symm hji)] at hl
      exact hmono _ (hj.dep j hjB hl k hk hb)
  · have hji : j ≠ i := fun e => hdj j hjA (e ▸ hiB)
    have hne' : d j ≠ d i := fun e => hji (hinj j (List.mem_append_right _ hjA) i hiL e)
    rw [getD_set_ne false (Ne.symm hji)] at hl
    obtain ⟨h1, h2⟩ := hj.al j hjA hl
    exact ⟨(upd_ne _ _ hne').trans h1, h2⟩
  · have hne' : t ≠ d i := fun e => ht (e ▸ List.mem_map.2 ⟨i, hiL, rfl⟩)
    exact (upd_ne _ _ hne').trans (hj.slot t ht)
  · have hne' : t ≠ d i := fun e => ht (e ▸ List.mem_map.2 ⟨i, hiL, rfl⟩)
    exact (upd_ne _ _ hne').trans (hj.pl t ht k o h hk)
theorem JN.boxA (hloc : ∀ i s s' st, (∀ t ∈ K i, s' t = s t) → Φ i s st → Φ i s' st) (hinj : ∀ i ∈ B ++ A, ∀ j ∈ B ++ A, d i = d j → i = j) (hdj : ∀ i ∈ A, i ∉ B) (hK : locOk ops B d K = true) (hkA : ∀ j ∈ B, ∀ k ∈ ki j, k ∉ A) {a0 : Aa} {st : St} {listed : Array Bool} {a : Aa} {st' : St} {i : Nat}
    (hj : JN ops B A ki d z Φ a0 st listed a st') (hiA : i ∈ A) : JN ops B A ki d z Φ a0 st (listed.setIfInBounds i true) (a.box (d i) (z i)) st' := by
  have hiL : i ∈ B ++ A := List.mem_append_right _ hiA
  have hB : ∀ j ∈ B, j ≠ i := fun j hjB e => hdj i hiA (e ▸ hjB)
  have hc : ∀ t k o, a.p t = some (k, o) → k ≠ d i → clr a.p (d i) t = some (k, o) := fun t k o h hk => by
    unfold clr
    rw [h]
    have : Nat.beq k (d i) = false := by
      cases hb : Nat.beq k (d i) with
      | false => rfl
      | true => exact absurd (Nat.eq_of_beq_eq_true hb) hk
    simp [this]
  refine ⟨hj.ex, fun j hjB hl hki => ?_, fun j hjB hl k hk hb => ?_, fun j hjA hl => ?_, fun t ht => ?_, fun t ht k o h hk => ?_, fun k hk => ?_⟩
  · rw [getD_set_ne false (Ne.symm (hB j hjB))] at hl
    refine hloc j a.s _ _ (fun t ht => ?_) (hj.phi j hjB hl fun k hk => ?_)
    · simp only [locOk, List.all_eq_true, Bool.or_eq_true, beq_iff_eq, List.any_eq_true, Bool.and_eq_true] at hK
      refine upd_ne _ _ ?_
      rcases hK j hjB t ht with e | ⟨k, hkB, e, hb⟩
      · exact fun e2 => hB j hjB (hinj j (List.mem_append_left _ hjB) i hiL (e.symm.trans e2))
      · exact fun e2 => hB k hkB (hinj k (List.mem_append_left _ hkB) i hiL (e.symm.trans e2))
    · have h := hki k hk
      by_cases e : k = i
      · subst e; exact absurd (hkA j hjB _ hk) (fun h => h hiA)
      · rw [getD_set_ne false (Ne.symm e)] at h; exact h
  · rw [getD_set_ne false (Ne.symm (hB j hjB))] at hl
    rw [getD_set_ne false (Ne.symm (hB k hk))]
    exact hj.dep j hjB hl k hk hb
  · by_cases hji : j = i
    · subst hji
      exact ⟨upd_same _ _ _, upd_same _ _ _⟩
    · have hne' : d j ≠ d i := fun e => hji (hinj j (List.mem_append_right _ hjA) i hiL e)
      rw [getD_set_ne false (Ne.symm hji)] at hl
      obtain ⟨h1, h2⟩ := hj.al j hjA hl
      exact ⟨(upd_ne _ _ hne').trans (hc _ _ _ h1 hne'), (upd_ne _ _ hne').trans h2⟩
  · have hne' : t ≠ d i := fun e => ht (e ▸ List.mem_map.2 ⟨i, hiL, rfl⟩)
    exact (upd_ne _ _ hne').trans (hj.slot t ht)
  · have hne' : t ≠ d i := fun e => ht (e ▸ List.mem_map.2 ⟨i, hiL, rfl⟩)
    exact (upd_ne _ _ hne').trans (hc _ _ _ (hj.pl t ht k o h hk) fun e => hk (e ▸ List.mem_map.2 ⟨i, hiA, rfl⟩))
  · have hne' : k ≠ d i := fun e => hk (e ▸ List.mem_map.2 ⟨i, hiA, rfl⟩)
    exact (upd_ne _ _ hne').trans (hj.box k hk)

theorem wpX_of_A (hQ : ∀ ca w, Good T μ0 st0 w0 N Q ca w → Q' .normal ca w) (hQn : ∀ e ca w, e ≠ .normal → ¬ Q' e ca w) (hs : Region.noSelect ops = true) (hd : ∀ (i : Nat) o, ops[i]? = some o → ∀ x, o.dst = some x → x < N)
    (V M W A : List Nat) (ki : Nat → List Nat) (d : Nat → Nat) (z : Nat → List AV) (K : Nat → List Nat) (Φ : Nat → (Nat → AV) → St → Prop) (hst : ∀ i s st st', Φ i s st → Ex st st' → Φ i s st') (hloc : ∀ i s s' st, (∀ t ∈ K i, s' t = s t) → Φ i s st → Φ i s' st) (hinj : ∀ i ∈ V ++ (M ++ W) ++ A, ∀ j ∈ V ++ (M ++ W) ++ A, d i = d j → i = j) (hdj : ∀ i ∈ A, i ∉ V ++ (M ++ W)) (hK : locOk ops (V ++ (M ++ W)) d K = true) (hkA : ∀ j ∈ V ++ (M ++ W), ∀ k ∈ ki j, k ∈ W)
    (hg : ∀ i ∈ (M ++ W) ++ A, ∀ o, ops[i]? = some o → o.guard = none) (a0 : Aa) (st : St)
    (hstepV : ∀ i ∈ V, ∀ o, ops[i]? = some o → ∀ a st', Ex st st' → (∀ j ∈ V ++ (M ++ W), bnd ops i j = true → (∀ k ∈ ki j, k = i ∨ bnd ops k i = true) → Φ j a.s st') → (∀ t, t ∉ (V ++ (M ++ W) ++ A).map d → a.s t = a0.s t) →
      o.dst = some (d i) ∧ ∃ v, AQ P T st0 N o (.v v) a st' ∧ Φ i (upd a.s (d i) v) st')
    (hstep : ∀ i ∈ M, ∀ o, ops[i]? = some o → ∀ a st', Ex st st' → (∀ j ∈ V ++ (M ++ W), bnd ops i j = true → (∀ k ∈ ki j, k = i ∨ bnd ops k i = true) → Φ j a.s st') → (∀ t, t ∉ (V ++ (M ++ W) ++ A).map d → a.s t = a0.s t) →
      ALeaf P T st0 N o .f (fun a' st'' => ∃ v, a' = a.put (some (d i)) (.v v) ∧ Φ i (upd a.s (d i) v) st'' ∧ Ex st' st'') a st')
    (hstepW : ∀ i ∈ W, ∀ o, ops[i]? = some o → ∀ a st', Ex st st' → (∀ j ∈ V ++ (M ++ W), bnd ops i j = true → (∀ k ∈ ki j, k = i ∨ bnd ops k i = true) → Φ j a.s st') → (∀ t, t ∉ (V ++ (M ++ W) ++ A).map d → a.s t = a0.s t) →
      ALeaf P T st0 N o .n (fun a' st'' => ∃ v, a' = a.put (some (d i)) (.v v) ∧ Φ i (upd a.s (d i) v) st'' ∧ Ex st st'' ∧ ∀ j ∈ V ++ (M ++ W), i ∉ ki j → j ≠ i → bnd ops j i = false → Φ j a.s st' → Φ j a.s st'') a st')
    (hfl : ∀ i ∈ W, fl i = false) (hstepA : ∀ i ∈ A, ∀ o, ops[i]? = some o → ∀ a st', ALeaf P T st0 N o .f (fun a' st'' => a' = a.box (d i) (z i) ∧ st'' = st') a st')
    (post : List Nat) (ms : List Md) (hfin : ∀ a st', JN ops (V ++ (M ++ W)) A ki d z Φ a0 st (Array.replicate 0 true) a st' → (∀ i ∈ V ++ (M ++ W), ki i = [] → Φ i a.s st') → (∀ i ∈ A, a.p (d i) = some (d i, 0) ∧ a.x (d i) = some (z i)) → AOps P T st0 N ops Q ms (post.filterMap (ops[·]?)) a st') :
    ∀ (f : Nat) (listed : Array Bool), schedMV ops V ((M ++ W) ++ A) (V ++ (M ++ W) ++ A) (schedB ops fl none post ms) f listed = true → ∀ ca w, Good T μ0 st0 w0 N (JN ops (V ++ (M ++ W)) A ki d z Φ a0 st listed) ca w → wpX P ops Q' (PwS fl none (fun _ => False)) (f + post.length) listed ca w
  | 0, listed, hB, ca, w, h => by
    simp only [schedMV, Bool.and_eq_true, List.all_eq_true] at hB
    rw [Nat.zero_add]
    refine wpX_of_AOps hQ hQn hs hd post ms listed hB.2 ca w (h.mono fun a st' hj => ?_)
    exact hfin a st' ⟨hj.ex, fun i hi hl => by simp at hl, fun i hi hl => by simp at hl, fun i hi hl => by simp at hl, hj.slot, hj.pl, hj.box⟩ (fun i hi hk => hj.phi i hi (hB.1 i (List.mem_append_left _ hi)) fun k h => by rw [hk] at h; cases h) fun i hi => hj.al i hi (hB.1 i (List.mem_append_right _ hi))
  | f + 1, listed, hB, ca, w, h => by
    rw [schedMV] at hB
    have hbd : ∀ i oi, ops[i]? = some oi → (∀ e ∈ oi.after, Region.binds .any e = true → listed.getD e.on false = true) → ∀ j, bnd ops i j = true → listed.getD j false = true := fun i oi hoi hdep j hb => by
      unfold bnd at hb
      rw [hoi] at hb
      obtain ⟨e, he, hb⟩ := Array.any_eq_true'.1 hb
      simp only [Bool.and_eq_true, beq_iff_eq] at hb
      exact hb.2 ▸ hdep e he hb.1
    have hunf : ∀ i, listed.getD i true = false → listed.getD i false = false := fun i h => by
      rw [Array.getD_eq_getD_getElem?] at h ⊢
      cases hg : listed[i]? with
      | none => rfl
      | some b => rw [hg] at h; exact h
    have hsz : ∀ i, listed.getD i true = false → i < listed.size := fun i h => by
      rcases Nat.lt_or_ge i listed.size with h' | h'
      · exact h'
      · rw [Array.getD_eq_getD_getElem?, Array.getElem?_eq_none h'] at h; cases h
    cases hv : nextV ops V listed with
    | some i =>
      rw [hv] at hB
      have hB : schedMV ops V ((M ++ W) ++ A) (V ++ (M ++ W) ++ A) (schedB ops fl none post ms) f (listed.setIfInBounds i true) = true := hB
      have hiV : i ∈ V := List.mem_of_find?_eq_some hv
      have hc := List.find?_some hv
      simp only [Bool.and_eq_true] at hc
      obtain ⟨hq, hmv⟩ := hc
      obtain ⟨β, a, μ, st', hi, hj⟩ := h
      have hin : i ∈ Region.ready .any ops listed := by
        have h' := hq
        simp only [qOk, Bool.and_eq_true] at h'
        simpa using h'.1.1
      obtain ⟨hun, oi, hoi, hdep⟩ := mem_ready.1 hin
      rw [hoi] at hmv
      simp only [isMove2, Bool.and_eq_true, Option.isNone_iff_eq_none] at hmv
      obtain ⟨hmv, hg'⟩ := hmv
      have hbi := hbd i oi hoi hdep
      have hkl : ∀ j ∈ V ++ (M ++ W), ∀ k ∈ ki j, k = i ∨ bnd ops k i = true → listed.getD k false = false := fun j hjB k hk hor => by
        rcases hor with rfl | hb
        · exact hunf _ hun
        · cases hlk : listed.getD k false with
          | false => rfl
          | true =>
            have := hj.dep k (List.mem_append_right _ (List.mem_append_right _ (hkA j hjB k hk))) hlk i (List.mem_append_left _ hiV) hb
            rw [hunf i hun] at this; cases this
      obtain ⟨hdst, v, haq, hphi⟩ := hstepV i hiV oi hoi a st' hj.ex (fun j hjM hb hk => hj.phi j hjM (hbi j hb) fun k h => hkl j hjM k h (hk k h)) hj.slot
      obtain ⟨cv, h1, h2⟩ := haq μ0 w0 β μ w ca hi
      have hall : ∀ w', (execOp ca.eval oi).run P w' = .ok (.value cv) w' := fun w' => by
        have h3 := h2 w (Pre.refl w)
        obtain ⟨dst, op, ty, pos, aft, gd⟩ := oi
        cases op <;> try (cases hmv)
        case extract x n =>
          simp [execOp, Instr.extract] at h3 ⊢
          revert h3
          split
          · split <;> simp
          · simp
        all_goals
          simp [execOp] at h3 ⊢
          exact h3
      have hy : YX P ops (fun _ _ => True) oi cv ca w := .inl ⟨by simp [Region.wanted, hg'], fun w' _ => hall w'⟩
      have hin' : Inv T μ0 st0 w0 N β (a.put oi.dst (.v v)) μ st' w (ca.put oi.dst cv) := hi.put (hd i oi hoi) h1
      have hjm : JN ops (V ++ (M ++ W)) A ki d z Φ a0 st (listed.setIfInBounds i true) (a.put oi.dst (.v v)) st' := by
        rw [hdst]
        exact hj.put hloc hinj hdj hK (List.mem_append_left _ hiV) (hsz i hun) (hunf i hun) (fun j _ hb => hbi j hb) hphi (fun _ _ _ _ _ h => h) hj.ex
      have ih := wpX_of_A hQ hQn hs hd V M W A ki d z K Φ hst hloc hinj hdj hK hkA hg a0 st hstepV hstep hstepW hfl hstepA post ms hfin f _ hB (ca.put oi.dst cv) w ⟨β, _, μ, st', hin', hjm⟩
      rw [show f + 1 + post.length = (f + post.length) + 1 by omega]
      exact first_of (R := fun _ _ => True) (fun _ => trivial) (fun _ _ _ _ _ => trivial) hQn hs hq hoi (fun w => PwS.refl ..) (fun j hj w w' hp => trivial) hy ih
    | none =>
      rw [hv] at hB
      simp only [Bool.and_eq_true, List.all_eq_true, Bool.not_eq_true', List.isEmpty_eq_false_iff, List.contains_iff_mem] at hB
      obtain ⟨hne, hall⟩ := hB
      rw [Nat.add_right_comm]
      refine ⟨fun e => absurd e hne, fun i hi => ?_⟩
      obtain ⟨hiM, hB'⟩ := hall i hi
      obtain ⟨hun, oi, hoi, hdep⟩ := mem_ready.1 hi
      have hbi := hbd i oi hoi hdep
      obtain ⟨β, a, μ, st', hinv, hj⟩ := h
      unfold wpOp
      simp only [hoi]
      rw [if_pos (by simp [Region.wanted, hg i hiM oi hoi])]
      have go : ∀ ca' w', Good T μ0 st0 w0 N (JN ops (V ++ (M ++ W)) A ki d z Φ a0 st (listed.setIfInBounds i true)) ca' w' → wpX P ops Q' (PwS fl none (fun _ => False)) (f + post.length) (listed.setIfInBounds i true) ca' w' :=
        fun ca' w' hk => wpX_of_A hQ hQn hs hd V M W A ki d z K Φ hst hloc hinj hdj hK hkA hg a0 st hstepV hstep hstepW hfl hstepA post ms hfin f _ hB' ca' w' hk
      rcases List.mem_append.1 hiM with hiM | hiA
      · rcases List.mem_append.1 hiM with hiM | hiW
        rotate_left
        · have hkl : ∀ j ∈ V ++ (M ++ W), ∀ k ∈ ki j, k = i ∨ bnd ops k i = true → listed.getD k false = false := fun j hjB k hk hor => by
            rcases hor with rfl | hb
            · exact hunf _ hun
            · cases hlk : listed.getD k false with
              | false => rfl
              | true =>
                have := hj.dep k (List.mem_append_right _ (List.mem_append_right _ (hkA j hjB k hk))) hlk i (List.mem_append_right _ (List.mem_append_right _ hiW)) hb
                rw [hunf i hun] at this; cases this
          have hlf := hstepW i hiW oi hoi a st' hj.ex (fun j hjM hb hk => hj.phi j hjM (hbi j hb) fun k h => hkl j hjM k h (hk k h)) hj.slot
          refine .inl (Oper.wp_mono (fun ca' w' hk => ?_) (hlf (hd i oi hoi) μ0 w0 β μ w ca hinv Q'))
          refine ⟨⟨fun e => absurd (hfl i hiW) (by rw [e]; exact Bool.noConfusion), fun e => by cases e⟩, go ca' w' (hk.2.mono fun a' st'' hr => ?_)⟩
          obtain ⟨v, rfl, hphi, hex, hkeep⟩ := hr
          exact hj.put hloc hinj hdj hK (List.mem_append_right _ (List.mem_append_right _ hiW)) (hsz i hun) (hunf i hun) (fun j _ hb => hbi j hb) hphi hkeep hex
        have hkl : ∀ j ∈ V ++ (M ++ W), ∀ k ∈ ki j, k = i ∨ bnd ops k i = true → listed.getD k false = false := fun j hjB k hk hor => by
          rcases hor with rfl | hb
          · exact hunf _ hun
          · cases hlk : listed.getD k false with
            | false => rfl
            | true =>
              have := hj.dep k (List.mem_append_right _ (List.mem_append_right _ (hkA j hjB k hk))) hlk i (List.mem_append_right _ (List.mem_append_left _ hiM)) hb
              rw [hunf i hun] at this; cases this
        have hlf := hstep i hiM oi hoi a st' hj.ex (fun j hjM hb hk => hj.phi j hjM (hbi j hb) fun k h => hkl j hjM k h (hk k h)) hj.slot
        refine .inl (Oper.wp_mono (fun ca' w' hk => ?_) (hlf (hd i oi hoi) μ0 w0 β μ w ca hinv Q'))
        refine ⟨⟨fun _ => hk.1 rfl, fun e => by cases e⟩, go ca' w' (hk.2.mono fun a' st'' hr => ?_)⟩
        obtain ⟨v, rfl, hphi, hex⟩ := hr
        exact hj.put hloc hinj hdj hK (List.mem_append_right _ (List.mem_append_left _ hiM)) (hsz i hun) (hunf i hun) (fun j _ hb => hbi j hb) hphi (fun j _ _ _ _ h => hst _ _ _ _ h hex) (hj.ex.tr hex)
      · have hlf := hstepA i hiA oi hoi a st'
        refine .inl (Oper.wp_mono (fun ca' w' hk => ?_) (hlf (hd i oi hoi) μ0 w0 β μ w ca hinv Q'))
        refine ⟨⟨fun _ => hk.1 rfl, fun e => by cases e⟩, go ca' w' (hk.2.mono fun a' st'' hr => ?_)⟩
        obtain ⟨rfl, rfl⟩ := hr
        exact hj.boxA hloc hinj hdj hK (fun j hjB k hk hA => hdj k hA (List.mem_append_right _ (List.mem_append_right _ (hkA j hjB k hk)))) hiA
end
section
variable {P : Program} {T : Nat → Prop} {st0 : St} {N : Nat} {a : Aa} {st : St} {Q : AX → Aa → St → Prop} {id : Nat} {l : List Oper} {y : Code}
/-- Reads first ('qs'), then makers in any order ('M'), variables of the frame's own ('A') and moves as soon as they may ('V'), then the rest. What each yields is told by Φ, in the slots d. -/
theorem c_dA {tb : Tb} [TbOk P tb] (qs V M W A post : List Nat) (ms : List Md) (ki : Nat → List Nat) (d : Nat → Nat) (z : Nat → List AV) (K : Nat → List Nat) (Φ : Nat → (Nat → AV) → St → Prop) (hd : dstsOk N l = true) (hB : drawOkA l.toArray qs V M W A post ms d K = true) (hkB : (((V ++ (M ++ W)).all fun j => (ki j).all fun k => W.contains k) && W.all fun i => !(qs.contains i || (V ++ M ++ A).contains i && !(W.contains i) || flagOf post ms i)) = true) (hst : ∀ i s st st', Φ i s st → Ex st st' → Φ i s st') (hloc : ∀ i s s' st, (∀ t ∈ K i, s' t = s t) → Φ i s st → Φ i s' st)
    (hA : ∀ i ∈ A, ∀ o, l.toArray[i]? = some o → ∀ a st', ALeaf P T st0 N o .f (fun a' st'' => a' = a.box (d i) (z i) ∧ st'' = st') a st')
    (h : AOps P T st0 N l.toArray (fun a0 st1 => st1 = st ∧ (∀ i ∈ V, ∀ o, l.toArray[i]? = some o → ∀ a st', Ex st st' → (∀ j ∈ V ++ (M ++ W), bnd l.toArray i j = true → (∀ k ∈ ki j, k = i ∨ bnd l.toArray k i = true) → Φ j a.s st') → (∀ t, t ∉ (V ++ (M ++ W) ++ A).map d → a.s t = a0.s t) →
        o.dst = some (d i) ∧ ∃ v, AQ P T st0 N o (.v v) a st' ∧ Φ i (upd a.s (d i) v) st') ∧
      (∀ i ∈ M, ∀ o, l.toArray[i]? = some o → ∀ a st', Ex st st' → (∀ j ∈ V ++ (M ++ W), bnd l.toArray i j = true → (∀ k ∈ ki j, k = i ∨ bnd l.toArray k i = true) → Φ j a.s st') → (∀ t, t ∉ (V ++ (M ++ W) ++ A).map d → a.s t = a0.s t) →
        ALeaf P T st0 N o .f (fun a' st'' => ∃ v, a' = a.put (some (d i)) (.v v) ∧ Φ i (upd a.s (d i) v) st'' ∧ Ex st' st'') a st') ∧
      (∀ i ∈ W, ∀ o, l.toArray[i]? = some o → ∀ a st', Ex st st' → (∀ j ∈ V ++ (M ++ W), bnd l.toArray i j = true → (∀ k ∈ ki j, k = i ∨ bnd l.toArray k i = true) → Φ j a.s st') → (∀ t, t ∉ (V ++ (M ++ W) ++ A).map d → a.s t = a0.s t) →
        ALeaf P T st0 N o .n (fun a' st'' => ∃ v, a' = a.put (some (d i)) (.v v) ∧ Φ i (upd a.s (d i) v) st'' ∧ Ex st st'' ∧ ∀ j ∈ V ++ (M ++ W), i ∉ ki j → j ≠ i → bnd l.toArray j i = false → Φ j a.s st' → Φ j a.s st'') a st') ∧
      (∀ a st', Ex st st' → (∀ i ∈ V ++ (M ++ W), ki i = [] → Φ i a.s st') → (∀ i ∈ A, a.p (d i) = some (d i, 0) ∧ a.x (d i) = some (z i)) → (∀ t, t ∉ (V ++ (M ++ W) ++ A).map d → a.s t = a0.s t) → (∀ t, t ∉ (V ++ (M ++ W) ++ A).map d → ∀ k o, a0.p t = some (k, o) → k ∉ A.map d → a.p t = some (k, o)) → (∀ k, k ∉ A.map d → a.x k = a0.x k) →
        AOps P T st0 N l.toArray (ACode P T st0 N y Q) ms (post.filterMap (l.toArray[·]?)) a st')) (allQ qs.length) (qs.filterMap (l.toArray[·]?)) a st) : ACode P T st0 N (.seq (.region id l.toArray true) y) Q a st := by
  refine c_seq ?_
  intro μ0 w0 β μ w ca hi
  simp only [drawOkA, Bool.and_eq_true, beq_iff_eq] at hB
  obtain ⟨hs, hlen, hg, hinj, hdj, hK, hB⟩ := hB
  rw [List.all_eq_true] at hg hdj
  simp only [List.all_eq_true, Bool.or_eq_true, Bool.not_eq_true', beq_eq_false_iff_ne, beq_iff_eq] at hinj
  have hdd : ∀ (i : Nat) o, l.toArray[i]? = some o → ∀ x, o.dst = some x → x < N := fun i o ho x hx => dstsOk_spec hd o (by simpa using List.mem_of_getElem? (by simpa using ho)) x hx
  refine wp_mono (wp_region_any (Q := fun e ca w => e = .normal ∧ Good T μ0 st0 w0 N (ACode P T st0 N y Q) ca w) (TbOk.mixed (tb := tb)) (wpAny_of_wpX (Pw := PwS (fun j => qs.contains j || (V ++ M ++ A).contains j && !(W.contains j) || flagOf post ms j) none (fun _ => False)) _ _ _ _ ?_)) fun e ca' w' hq => by obtain ⟨rfl, hq⟩ := hq; exact hq
  have hQ : ∀ (ca : Act) (w : World), Good T μ0 st0 w0 N (ACode P T st0 N y Q) ca w → Exit.normal = Exit.normal ∧ Good T μ0 st0 w0 N (ACode P T st0 N y Q) ca w := fun ca w h => ⟨rfl, h⟩
  have hQn : ∀ (e : Exit) (ca : Act) (w : World), e ≠ .normal → ¬ (e = .normal ∧ Good T μ0 st0 w0 N (ACode P T st0 N y Q) ca w) := fun e ca w hne hq => hne hq.1
  rw [← hlen] at hB ⊢
  refine wpX_of_Q hQn hs hdd _ _ _ (fun listed hk ca w hgood => ?_) qs _ hB ca _ ⟨β, a, μ, st, hi.pre (Pre.drew w), h⟩
  obtain ⟨β1, a0, μ1, st1, hi1, rfl, hstepV, hstep, hstepW, hfin⟩ := hgood
  simp only [Bool.and_eq_true] at hk
  obtain ⟨hun, hk⟩ := hk
  rw [List.all_eq_true] at hun
  have hno : ∀ i ∈ V ++ (M ++ W) ++ A, listed.getD i false = true → False := fun i hi hl => by
    have := hun i hi
    rw [hl] at this; cases this
  refine wpX_of_A hQ hQn hs hdd V M W A ki d z K Φ hst hloc (fun i hi j hj e => ?_) (fun i hi hm => ?_) hK (fun j hj k hk => ?_) (fun i hi o ho => ?_) a0 st1 hstepV hstep hstepW (fun i hi => ?_) hA post ms (fun a st' hj hphi hal => hfin a st' hj.ex hphi hal hj.slot hj.pl hj.box) (V ++ (M ++ W) ++ A).length listed hk ca w
    ⟨β1, a0, μ1, st1, hi1, Ext.refl _ _, fun i hi hl _ => (hno i (List.mem_append_left _ hi) hl).elim, fun i hi hl => (hno i (List.mem_append_left _ hi) hl).elim, fun i hi hl => (hno i (List.mem_append_right _ hi) hl).elim, fun t _ => rfl, fun t _ k o h _ => h, fun k _ => rfl⟩
  · rcases hinj i hi j hj with h | h
    · exact absurd e h
    · exact h
  · have := hdj i hi
    rw [List.contains_iff_mem.2 hm] at this; cases this
  · simp only [Bool.and_eq_true, List.all_eq_true] at hkB
    simpa using hkB.1 j hj k hk
  · have := hg i hi
    rw [ho] at this
    simpa using this
  · simp only [Bool.and_eq_true, List.all_eq_true] at hkB
    have h := hkB.2 i hi
    rw [Bool.not_eq_true'] at h
    exact h
end
section
variable {P : Program} {T : Nat → Prop} {st0 : St} {N : Nat} {a : Aa} {st : St}
theorem q_mk {o : Oper} {r : RV} (s : List (Nat × AV)) (x : List (Nat × Nat × List AV)) (hs : leS a s) (hx : leX a x) (h : AQ P T st0 N o r (mk s x) st) : AQ P T st0 N o r a st := by
  obtain ⟨h1, h2, h3⟩ := mk_le s x hs hx
  exact fun μ0 w0 β μ w ca hi => h μ0 w0 β μ w ca (hi.weak h1 h2 h3)
end
end Go.Proofs.YtfnfiapacbeemaaW.Ax
