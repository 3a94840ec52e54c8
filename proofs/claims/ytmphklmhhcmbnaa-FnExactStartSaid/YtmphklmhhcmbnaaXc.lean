/- A region that draws its order: one walk, in one order, serves every order. -/
import Derived.Test.YtmphklmhhcmbnaaXb
namespace Go.Proofs.YtmphklmhhcmbnaaW.Ax
open Go Go.RowKit
set_option linter.unusedVariables false

section
variable {P : Program} {ops : Array Oper} {Q' : Exit → Act → World → Prop} {fl : Nat → Bool}

def wpE (P : Program) (ops : Array Oper) (Q' : Exit → Act → World → Prop) (fl : Nat → Bool) : Nat → Array Bool → Act → World → Prop
  | 0, listed, ca, w => Region.ready .any ops listed = [] ∧ Q' .normal ca w
  | fuel + 1, listed, ca, w => (Region.ready .any ops listed = [] → Q' .normal ca w) ∧
      ∀ i ∈ Region.ready .any ops listed, wpOp P ops Q' i (fun ca' w' => (fl i = true → Pre w w') ∧ wpE P ops Q' fl fuel (listed.setIfInBounds i true) ca' w') ca w

theorem wpAny_of_wpE : ∀ (fuel : Nat) (listed : Array Bool) (ca : Act) (w : World), wpE P ops Q' fl fuel listed ca w → wpAny P .any ops Q' fuel listed ca w
  | 0, _, _, _, h => h
  | fuel + 1, _, _, _, h => ⟨h.1, fun i hi => wpOp_mono (fun ca' w' hk => wpAny_of_wpE fuel _ ca' w' hk.2) (h.2 i hi)⟩

/-- 'o' yields 'v' here, and in every world in which what is here still is. -/
def YQ (P : Program) (ops : Array Oper) (o : Oper) (v : Value) (ca : Act) (w : World) : Prop :=
  (Region.wanted o (yielded ops ca.tmps) = true ∧ ∀ w', Pre w w' → (execOp ca.eval o).run P w' = .ok (.value v) w') ∨ (Region.wanted o (yielded ops ca.tmps) = false ∧ v = undef)

theorem YQ.pre {o : Oper} {v : Value} {ca : Act} {w w' : World} (h : YQ P ops o v ca w) (hp : Pre w w') : YQ P ops o v ca w' :=
  h.imp (fun h => ⟨h.1, fun w'' hp' => h.2 w'' (hp.trans hp')⟩) id
theorem YQ.same {o : Oper} {v : Value} {ca ca' : Act} {w : World} (h : YQ P ops o v ca w) (he : execOp ca'.eval o = execOp ca.eval o) (hw : Region.wanted o (yielded ops ca'.tmps) = Region.wanted o (yielded ops ca.tmps)) : YQ P ops o v ca' w := by
  unfold YQ at *
  rw [he, hw]
  exact h
theorem YQ.op {i : Nat} {o : Oper} {v : Value} {ca : Act} {w : World} (hi : ops[i]? = some o) (h : YQ P ops o v ca w) {K : Act → World → Prop} (hk : K (ca.put o.dst v) w) : wpOp P ops Q' i K ca w := by
  unfold wpOp
  simp only [hi]
  rcases h with ⟨h1, h2⟩ | ⟨h1, rfl⟩
  · rw [if_pos h1]
    refine .inl ?_
    unfold Oper.wp
    rw [h2 w (Pre.refl w)]
    exact hk
  · rw [if_neg (by simp [h1])]
    exact hk

/-- Another operation, apart from one that only reads: it goes the same whether that one's value lies in its slot already or not. -/
theorem wpOp_swap {j : Nat} {oi oj : Oper} {v : Value} (hj : ops[j]? = some oj) (hap : oi.apart ops oj = true) (hsj : ∀ cs b, oj.op ≠ .select cs b)
    (hQ : ∀ e ca w, e ≠ .normal → ¬ Q' e ca w) {K : Act → World → Prop} {Y : Act → Prop} {ca : Act} {w : World} (hY : ∀ d u, Y ({ ca with defers := d }.put oj.dst u)) (h : wpOp P ops Q' j K (ca.put oi.dst v) w) :
    wpOp P ops Q' j (fun ca' w' => Y ca' ∧ K (ca'.put oi.dst v) w') ca w := by
  obtain ⟨h1, h2, h3⟩ := Oper.apart_spec hap
  have hY' : ∀ u, Y (ca.put oj.dst u) := fun u => hY ca.defers u
  unfold wpOp at *
  simp only [hj] at *
  rw [wanted_put oj ca oi.dst v h1] at h
  split
  · rename_i hw
    simp only [hw, if_true] at h
    rcases h with h | ⟨_, a0, w0, h⟩
    case inr => exact absurd h (hQ _ _ _ (by simp))
    refine .inl ?_
    unfold Oper.wp at *
    rw [execOp_put oj hsj ca oi.dst v h1] at h
    generalize (execOp ca.eval oj).run P w = r at *
    cases r with
    | ok n w' =>
      cases n <;> simp only [Oper.upon] at h ⊢
      case value u => exact ⟨hY' u, by rw [← Act.put_comm ca v u h2]; exact h⟩
      case skip => exact ⟨hY' _, by rw [← Act.put_comm ca v undef h2]; exact h⟩
      case defer d =>
        refine ⟨hY _ _, ?_⟩
        rw [Act.put_defers] at h
        rw [← Act.put_comm _ v undef h2]
        exact h
      case enter f args =>
        refine h.mono fun e w'' he => ?_
        cases e with
        | returned u =>
          refine ⟨hY' u, ?_⟩
          rw [← Act.put_comm ca v u h2]
          exact he
        | panicked ch => exact absurd he (hQ _ _ _ (by simp))
        | outgrown => obtain ⟨a0, w0, he⟩ := he; exact absurd he (hQ _ _ _ (by simp))
      case row row args =>
        refine h.mono fun u w'' he => ?_
        refine ⟨hY' u, ?_⟩
        rw [← Act.put_comm ca v u h2]
        exact he
    | halt x w' => cases x <;> simp only [Oper.upon] at h ⊢; exact absurd h (hQ _ _ _ (by simp))
  · rename_i hw
    simp only [hw] at h
    exact ⟨hY' _, by rw [← Act.put_comm ca v undef h2]; exact h⟩

theorem wpE_first {i : Nat} {oi : Oper} {v : Value} (hi : ops[i]? = some oi) (hsel : ∀ (j : Nat) (o : Oper) cs b, ops[j]? = some o → o.op ≠ .select cs b) (hQ : ∀ e ca w, e ≠ .normal → ¬ Q' e ca w) :
    ∀ (fuel : Nat) (listed : Array Bool) (ca : Act) (w : World),
      (∀ j oj, ops[j]? = some oj → j ≠ i → listed.getD j true = false → (∀ e ∈ oj.after, Region.binds .any e = true → e.on ≠ i) → oi.apart ops oj = true ∧ fl j = true) →
      i ∈ Region.ready .any ops listed → YQ P ops oi v ca w → wpE P ops Q' fl fuel (listed.setIfInBounds i true) (ca.put oi.dst v) w → wpE P ops Q' fl (fuel + 1) listed ca w := by
  intro fuel
  induction fuel with
  | zero =>
    intro listed ca w _ hr hy H
    refine ⟨fun h => (by rw [h] at hr; cases hr), fun j hj => ?_⟩
    by_cases hji : j = i
    · subst hji; exact hy.op hi ⟨fun _ => Pre.refl w, H⟩
    · have := ready_mono hj hji
      rw [H.1] at this
      cases this
  | succ fuel ih =>
    intro listed ca w hfree hr hy H
    refine ⟨fun h => (by rw [h] at hr; cases hr), fun j hj => ?_⟩
    by_cases hji : j = i
    · subst hji; exact hy.op hi ⟨fun _ => Pre.refl w, H⟩
    · have h1 := H.2 j (ready_mono hj hji)
      obtain ⟨hjun, oj, hoj, hall⟩ := mem_ready.1 hj
      have hnot : ∀ e ∈ oj.after, Region.binds .any e = true → e.on ≠ i := fun e he hb heq => by
        have h1 := hall e he hb
        have h0 := (mem_ready.1 hr).1
        rw [heq] at h1
        rcases Nat.lt_or_ge i listed.size with h' | h'
        · simp [h'] at h0 h1; rw [h0] at h1; cases h1
        · simp [Array.getElem?_eq_none h'] at h1
      obtain ⟨hap, hfl⟩ := hfree j oj hoj hji hjun hnot
      obtain ⟨_, _, h3⟩ := Oper.apart_spec hap
      have h2 := wpOp_swap (oi := oi) (v := v) hoj hap (fun cs b => hsel j oj cs b hoj) hQ (Y := fun ca' => YQ P ops oi v ca' w)
        (fun d u => YQ.same hy ((execOp_put oi (fun cs b => hsel i oi cs b hi) { ca with defers := d } oj.dst u h3).trans rfl) ((wanted_put oi { ca with defers := d } oj.dst u h3).trans rfl)) h1
      have hfree' : ∀ k ok, ops[k]? = some ok → k ≠ i → (listed.setIfInBounds j true).getD k true = false →
          (∀ e ∈ ok.after, Region.binds .any e = true → e.on ≠ i) → oi.apart ops ok = true ∧ fl k = true := fun k ok hk hki hun hno => by
        refine hfree k ok hk hki ?_ hno
        by_cases hjk : j = k
        · subst hjk; exact hjun
        · rw [getD_set_ne true hjk] at hun; exact hun
      refine wpOp_mono (fun ca' w' h3 => ?_) h2
      obtain ⟨hy', hp, hE⟩ := h3
      refine ⟨hp, ih (listed.setIfInBounds j true) ca' w' hfree' (ready_mono hr (Ne.symm hji)) (hy'.pre (hp hfl)) ?_⟩
      rw [Array.setIfInBounds_comm _ _ hji]
      exact hE

theorem wpE_sole {i : Nat} {fuel : Nat} {listed : Array Bool} {ca : Act} {w : World} (hr : Region.ready .any ops listed = [i])
    (h : wpOp P ops Q' i (fun ca' w' => (fl i = true → Pre w w') ∧ wpE P ops Q' fl fuel (listed.setIfInBounds i true) ca' w') ca w) : wpE P ops Q' fl (fuel + 1) listed ca w :=
  ⟨fun h => (by rw [hr] at h; cases h), fun j hj => by rw [hr, List.mem_singleton] at hj; subst hj; exact h⟩
end

/-- What is asked of an order ('sch') and of the ways ('ms', in that order): what only reads comes as soon as it may, and what else may come ahead of it leaves all as it was; all else comes up alone. -/
def flagOf (sch : List Nat) (ms : List Md) (j : Nat) : Bool :=
  (sch.zipIdx.any fun (i, p) => i == j && (ms.getD p .n != .n))
def schedOk (ops : Array Oper) (fl : Nat → Bool) : List Nat → List Md → Array Bool → Bool
  | [], _, listed => (Region.ready .any ops listed).isEmpty
  | i :: sch, ms, listed =>
    (match ms.headD .n with
     | .q => (Region.ready .any ops listed).contains i && (List.range ops.size).all fun j => j == i || listed.getD j true || (match ops[j]?, ops[i]? with
         | some oj, some oi => oj.after.any (fun e => Region.binds .any e && e.on == i) || (oi.apart ops oj && fl j)
         | _, _ => true)
     | .f => fl i && Region.ready .any ops listed == [i]
     | .n => !fl i && Region.ready .any ops listed == [i]) && schedOk ops fl sch ms.tail (listed.setIfInBounds i true)
def drawOk (ops : Array Oper) (sch : List Nat) (ms : List Md) : Bool :=
  Region.noSelect ops && sch.length == ops.size && schedOk ops (flagOf sch ms) sch ms (Array.replicate ops.size false)

section
variable {P : Program} {T : Nat → Prop} {st0 : St} {N : Nat} {ops : Array Oper} {Q : Aa → St → Prop} {μ0 : Nat → Loc} {w0 : World} {Q' : Exit → Act → World → Prop} {fl : Nat → Bool}

theorem wpE_of_AOps (hQ : ∀ ca w, Good T μ0 st0 w0 N Q ca w → Q' .normal ca w) (hQn : ∀ e ca w, e ≠ .normal → ¬ Q' e ca w) (hs : Region.noSelect ops = true) (hd : ∀ (i : Nat) o, ops[i]? = some o → ∀ x, o.dst = some x → x < N) :
    ∀ (sch : List Nat) (ms : List Md) (listed : Array Bool), schedOk ops fl sch ms listed = true → ∀ ca w, Good T μ0 st0 w0 N (AOps P T st0 N ops Q ms (sch.filterMap (ops[·]?))) ca w →
      wpE P ops Q' fl sch.length listed ca w
  | [], _, listed, hB, ca, w, h => ⟨by simpa [schedOk] using hB, hQ ca w (h.mono fun _ _ h => h)⟩
  | i :: sch, ms, listed, hB, ca, w, h => by
    obtain ⟨β, a, μ, st, hi, hr⟩ := h
    simp only [schedOk, Bool.and_eq_true] at hB
    obtain ⟨hB, hB'⟩ := hB
    have ih := fun ca w => wpE_of_AOps hQ hQn hs hd sch ms.tail (listed.setIfInBounds i true) hB' ca w
    have hin : i ∈ Region.ready .any ops listed := by
      cases hm : ms.headD .n <;> rw [hm] at hB <;> simp only [Bool.and_eq_true, beq_iff_eq] at hB
      · simpa using hB.1
      · rw [hB.2]; simp
      · rw [hB.2]; simp
    obtain ⟨hjun, oi, hoi, hall⟩ := mem_ready.1 hin
    have hd0 := hd i oi hoi
    simp only [List.filterMap_cons, hoi, AOps] at hr
    -- what is met of the operation
    have key : (∃ v, (∃ r, RR st.n μ β r v ∧ AOps P T st0 N ops Q ms.tail (sch.filterMap (ops[·]?)) (a.put oi.dst r) st) ∧ YQ P ops oi v ca w) ∨
        (ms.headD .n ≠ .q ∧ wpOp P ops Q' i (fun ca' w' => (fl i = true → Pre w w') ∧ Good T μ0 st0 w0 N (AOps P T st0 N ops Q ms.tail (sch.filterMap (ops[·]?))) ca' w') ca w) := by
      have leaf : Region.wanted oi (yielded ops ca.tmps) = true → ALeaf P T st0 N oi (ms.headD .n) (AOps P T st0 N ops Q ms.tail (sch.filterMap (ops[·]?))) a st → _ := fun hw hl => by
        show (∃ v, (∃ r, RR st.n μ β r v ∧ AOps P T st0 N ops Q ms.tail (sch.filterMap (ops[·]?)) (a.put oi.dst r) st) ∧ YQ P ops oi v ca w) ∨
          (ms.headD .n ≠ .q ∧ wpOp P ops Q' i (fun ca' w' => (fl i = true → Pre w w') ∧ Good T μ0 st0 w0 N (AOps P T st0 N ops Q ms.tail (sch.filterMap (ops[·]?))) ca' w') ca w)
        cases hm : ms.headD .n with
        | q =>
          rw [hm] at hl
          obtain ⟨r, hq, hr⟩ := hl
          obtain ⟨cv, h1, h2⟩ := hq μ0 w0 β μ w ca hi
          exact .inl ⟨cv, ⟨r, h1, hr⟩, .inl ⟨hw, h2⟩⟩
        | f =>
          rw [hm] at hl
          refine .inr ⟨by simp, ?_⟩
          unfold wpOp
          simp only [hoi, hw, if_true]
          exact .inl (Oper.wp_mono (fun ca' w' hk => ⟨fun _ => hk.1 rfl, hk.2⟩) (hl hd0 _ _ _ _ _ _ hi Q'))
        | n =>
          rw [hm] at hl hB
          refine .inr ⟨by simp, ?_⟩
          unfold wpOp
          simp only [hoi, hw, if_true]
          refine .inl (Oper.wp_mono (fun ca' w' hk => ⟨fun hf => ?_, hk.2⟩) (hl hd0 _ _ _ _ _ _ hi Q'))
          simp [hf] at hB
      cases hg : oi.guard with
      | none =>
        rw [hg] at hr
        exact leaf (by simp [Region.wanted, hg]) hr
      | some jw =>
        obtain ⟨j, want⟩ := jw
        rw [hg] at hr
        obtain ⟨t, ht, ⟨hsb, hr⟩ | ⟨hsb, hr⟩⟩ := hr
        · have hy := yielded_of hi ht hsb
          exact leaf (by simp [Region.wanted, hg, hy]) hr
        · have hy := yielded_not hi ht hsb
          exact .inl ⟨undef, ⟨.v .und, by simp [RR, VR], hr⟩, .inr ⟨by simp [Region.wanted, hg, hy], rfl⟩⟩
    rcases key with ⟨v, ⟨r, hrr, hrest⟩, hy⟩ | ⟨hne, hop⟩
    · have hgood : Good T μ0 st0 w0 N (AOps P T st0 N ops Q ms.tail (sch.filterMap (ops[·]?))) (ca.put oi.dst v) w := ⟨β, _, μ, st, hi.put hd0 hrr, hrest⟩
      cases hm : ms.headD .n with
      | q =>
        rw [hm] at hB
        simp only [Bool.and_eq_true, List.all_eq_true, List.mem_range] at hB
        refine wpE_first hoi (Region.noSelect_spec hs) hQn sch.length listed ca w (fun j oj hj hne hun hno => ?_) hin hy (ih _ _ hgood)
        have h1 := hB.2 j (Array.getElem?_eq_some_iff.1 hj).1
        simp only [hj, hoi, Bool.or_eq_true, beq_iff_eq, hne, false_or, hun, Bool.false_eq_true, Bool.and_eq_true] at h1
        rcases h1 with h1 | h1
        · obtain ⟨e, he, hb⟩ := Array.any_eq_true'.1 h1
          simp only [Bool.and_eq_true, beq_iff_eq] at hb
          exact absurd hb.2 (hno e he hb.1)
        · exact h1
      | f =>
        rw [hm] at hB
        simp only [Bool.and_eq_true, beq_iff_eq] at hB
        exact wpE_sole hB.2 (hy.op hoi ⟨fun _ => Pre.refl w, ih _ _ hgood⟩)
      | n =>
        rw [hm] at hB
        simp only [Bool.and_eq_true, beq_iff_eq] at hB
        exact wpE_sole hB.2 (hy.op hoi ⟨fun _ => Pre.refl w, ih _ _ hgood⟩)
    · have hsole : Region.ready .any ops listed = [i] := by
        cases hm : ms.headD .n <;> rw [hm] at hB hne <;> simp only [Bool.and_eq_true, beq_iff_eq] at hB
        · exact absurd rfl hne
        · exact hB.2
        · exact hB.2
      exact wpE_sole hsole (wpOp_mono (fun ca' w' hk => ⟨hk.1, ih ca' w' hk.2⟩) hop)
end

theorem c_draw {P : Program} {T : Nat → Prop} {st0 : St} {N : Nat} {Q : AX → Aa → St → Prop} {a : Aa} {st : St} {id : Nat} {l : List Oper} (hm : P.follows .mixedOrders = true) (sch : List Nat) (ms : List Md) (hd : dstsOk N l = true) (hB : drawOk l.toArray sch ms = true)
    (h : AOps P T st0 N l.toArray (Q .normal) ms (sch.filterMap (l.toArray[·]?)) a st) : ACode P T st0 N (.region id l.toArray true) Q a st := by
  intro μ0 w0 β μ w ca hi
  simp only [drawOk, Bool.and_eq_true, beq_iff_eq] at hB
  obtain ⟨⟨hs, hlen⟩, hB⟩ := hB
  refine wp_mono (wp_region_any (Q := fun e ca w => e = .normal ∧ Good T μ0 st0 w0 N (Q .normal) ca w) hm (wpAny_of_wpE (fl := flagOf sch ms) _ _ _ _ ?_)) fun e ca' w' hq => by obtain ⟨rfl, hq⟩ := hq; exact hq
  rw [← hlen] at hB ⊢
  exact wpE_of_AOps (fun ca w h => ⟨rfl, h⟩) (fun e ca w hne hq => hne hq.1) hs (fun i o ho x hx => dstsOk_spec hd o (by simpa using List.mem_of_getElem? (by simpa using ho)) x hx) sch ms _ hB ca _ ⟨β, a, μ, st, hi.pre (Pre.drew w), h⟩
end Go.Proofs.YtmphklmhhcmbnaaW.Ax
