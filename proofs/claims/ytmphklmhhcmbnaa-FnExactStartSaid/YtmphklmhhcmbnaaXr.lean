/- Regions that draw their order, once more: what waits for what through others; a store that may come ahead of reads of the frame's own boxes. -/
import Derived.Test.YtmphklmhhcmbnaaXq
namespace Go.Proofs.YtmphklmhhcmbnaaW.Ax
open Go Go.RowKit
set_option linter.unusedVariables false

section
variable {P : Program} {ops : Array Oper} {Q' : Exit → Act → World → Prop} {Pw : Nat → World → World → Prop}

def wpX (P : Program) (ops : Array Oper) (Q' : Exit → Act → World → Prop) (Pw : Nat → World → World → Prop) : Nat → Array Bool → Act → World → Prop
  | 0, listed, ca, w => Region.ready .any ops listed = [] ∧ Q' .normal ca w
  | fuel + 1, listed, ca, w => (Region.ready .any ops listed = [] → Q' .normal ca w) ∧
      ∀ i ∈ Region.ready .any ops listed, wpOp P ops Q' i (fun ca' w' => Pw i w w' ∧ wpX P ops Q' Pw fuel (listed.setIfInBounds i true) ca' w') ca w
theorem wpAny_of_wpX : ∀ (fuel : Nat) (listed : Array Bool) (ca : Act) (w : World), wpX P ops Q' Pw fuel listed ca w → wpAny P .any ops Q' fuel listed ca w
  | 0, _, _, _, h => h
  | fuel + 1, _, _, _, h => ⟨h.1, fun i hi => wpOp_mono (fun ca' w' hk => wpAny_of_wpX fuel _ ca' w' hk.2) (h.2 i hi)⟩

/-- 'o' yields 'v' here, and in every world to which 'R' leads. -/
def YX (P : Program) (ops : Array Oper) (R : World → World → Prop) (o : Oper) (v : Value) (ca : Act) (w : World) : Prop :=
  (Region.wanted o (yielded ops ca.tmps) = true ∧ ∀ w', R w w' → (execOp ca.eval o).run P w' = .ok (.value v) w') ∨ (Region.wanted o (yielded ops ca.tmps) = false ∧ v = undef)
variable {R : World → World → Prop}
theorem YX.pre (htr : ∀ a b c, R a b → R b c → R a c) {o : Oper} {v : Value} {ca : Act} {w w' : World} (h : YX P ops R o v ca w) (hp : R w w') : YX P ops R o v ca w' :=
  h.imp (fun h => ⟨h.1, fun w'' hp' => h.2 w'' (htr _ _ _ hp hp')⟩) id
theorem YX.same {o : Oper} {v : Value} {ca ca' : Act} {w : World} (h : YX P ops R o v ca w) (he : execOp ca'.eval o = execOp ca.eval o) (hw : Region.wanted o (yielded ops ca'.tmps) = Region.wanted o (yielded ops ca.tmps)) : YX P ops R o v ca' w := by
  unfold YX at *
  rw [he, hw]
  exact h
theorem YX.op (hrf : ∀ w, R w w) {i : Nat} {o : Oper} {v : Value} {ca : Act} {w : World} (hi : ops[i]? = some o) (h : YX P ops R o v ca w) {K : Act → World → Prop} (hk : K (ca.put o.dst v) w) : wpOp P ops Q' i K ca w := by
  unfold wpOp
  simp only [hi]
  rcases h with ⟨h1, h2⟩ | ⟨h1, rfl⟩
  · rw [if_pos h1]
    refine .inl ?_
    unfold Oper.wp
    rw [h2 w (hrf w)]
    exact hk
  · rw [if_neg (by simp [h1])]
    exact hk

theorem wpX_first (hrf : ∀ w, R w w) (htr : ∀ a b c, R a b → R b c → R a c) {i : Nat} {oi : Oper} {v : Value} (hi : ops[i]? = some oi) (hsel : ∀ (j : Nat) (o : Oper) cs b, ops[j]? = some o → o.op ≠ .select cs b) (hQ : ∀ e ca w, e ≠ .normal → ¬ Q' e ca w)
    (hPi : ∀ w, Pw i w w) (D : Nat → Bool) (hD : ∀ j oj, ops[j]? = some oj → D j = true → ∃ e ∈ oj.after, Region.binds .any e = true ∧ (e.on = i ∨ D e.on = true)) :
    ∀ (fuel : Nat) (listed : Array Bool) (ca : Act) (w : World), (∀ j, D j = true → listed.getD j false = false) →
      (∀ j oj, ops[j]? = some oj → j ≠ i → listed.getD j true = false → D j = false → oi.apart ops oj = true ∧ ∀ w w', Pw j w w' → R w w') →
      i ∈ Region.ready .any ops listed → YX P ops R oi v ca w → wpX P ops Q' Pw fuel (listed.setIfInBounds i true) (ca.put oi.dst v) w → wpX P ops Q' Pw (fuel + 1) listed ca w := by
  intro fuel
  induction fuel with
  | zero =>
    intro listed ca w _ _ hr hy H
    refine ⟨fun h => (by rw [h] at hr; cases hr), fun j hj => ?_⟩
    by_cases hji : j = i
    · subst hji; exact hy.op hrf hi ⟨hPi w, H⟩
    · have := ready_mono hj hji
      rw [H.1] at this
      cases this
  | succ fuel ih =>
    intro listed ca w hDl hfree hr hy H
    refine ⟨fun h => (by rw [h] at hr; cases hr), fun j hj => ?_⟩
    by_cases hji : j = i
    · subst hji; exact hy.op hrf hi ⟨hPi w, H⟩
    · have h1 := H.2 j (ready_mono hj hji)
      obtain ⟨hjun, oj, hoj, hall⟩ := mem_ready.1 hj
      have hDj : D j = false := by
        cases hd : D j with
        | false => rfl
        | true =>
          obtain ⟨e, he, hb, h2⟩ := hD j oj hoj hd
          have h3 := hall e he hb
          rcases h2 with h2 | h2
          · have h0 := (mem_ready.1 hr).1
            rw [h2] at h3
            rcases Nat.lt_or_ge i listed.size with h' | h'
            · simp [h'] at h0 h3; rw [h0] at h3; cases h3
            · simp [Array.getElem?_eq_none h'] at h3
          · rw [hDl _ h2] at h3; cases h3
      obtain ⟨hap, hfl⟩ := hfree j oj hoj hji hjun hDj
      obtain ⟨_, _, h3⟩ := Oper.apart_spec hap
      have h2 := wpOp_swap (oi := oi) (v := v) hoj hap (fun cs b => hsel j oj cs b hoj) hQ (Y := fun ca' => YX P ops R oi v ca' w)
        (fun d u => YX.same hy ((execOp_put oi (fun cs b => hsel i oi cs b hi) { ca with defers := d } oj.dst u h3).trans rfl) ((wanted_put oi { ca with defers := d } oj.dst u h3).trans rfl)) h1
      have hDl' : ∀ k, D k = true → (listed.setIfInBounds j true).getD k false = false := fun k hk => by
        have hjk : j ≠ k := fun e => by rw [e, hk] at hDj; cases hDj
        rw [getD_set_ne false hjk]; exact hDl k hk
      have hfree' : ∀ k ok, ops[k]? = some ok → k ≠ i → (listed.setIfInBounds j true).getD k true = false → D k = false → oi.apart ops ok = true ∧ ∀ w w', Pw k w w' → R w w' := fun k ok hk hki hun hno => by
        refine hfree k ok hk hki ?_ hno
        by_cases hjk : j = k
        · subst hjk; exact hjun
        · rw [getD_set_ne true hjk] at hun; exact hun
      refine wpOp_mono (fun ca' w' h3 => ?_) h2
      obtain ⟨hy', hp, hE⟩ := h3
      refine ⟨hp, ih (listed.setIfInBounds j true) ca' w' hDl' hfree' (ready_mono hr (Ne.symm hji)) (hy'.pre htr (hfl _ _ hp)) ?_⟩
      rw [Array.setIfInBounds_comm _ _ hji]
      exact hE
theorem wpX_sole {i : Nat} {fuel : Nat} {listed : Array Bool} {ca : Act} {w : World} (hr : Region.ready .any ops listed = [i])
    (h : wpOp P ops Q' i (fun ca' w' => Pw i w w' ∧ wpX P ops Q' Pw fuel (listed.setIfInBounds i true) ca' w') ca w) : wpX P ops Q' Pw (fuel + 1) listed ca w :=
  ⟨fun h => (by rw [hr] at h; cases h), fun j hj => by rw [hr, List.mem_singleton] at hj; subst hj; exact h⟩
end

/-- What waits for 'i', itself or through others. -/
def reachD (ops : Array Oper) (listed : Array Bool) (i : Nat) : Nat → List Nat → List Nat
  | 0, D => D
  | n + 1, D => reachD ops listed i n ((List.range ops.size).filter fun j => j != i && !listed.getD j true && (match ops[j]? with | some oj => oj.after.any (fun e => Region.binds .any e && (e.on == i || D.contains e.on)) | none => false))
def dOk (ops : Array Oper) (listed : Array Bool) (i : Nat) (D : List Nat) : Bool :=
  (List.range ops.size).all (fun j => !D.contains j || (match ops[j]? with | some oj => oj.after.any (fun e => Region.binds .any e && (e.on == i || D.contains e.on)) | none => false)) && D.all (fun j => !listed.getD j false && Nat.blt j ops.size)
/-- What only reads comes as soon as it may. -/
def qOk (ops : Array Oper) (okx : Nat → Bool) (listed : Array Bool) (i : Nat) : Bool :=
  (Region.ready .any ops listed).contains i && dOk ops listed i (reachD ops listed i 4 []) && (List.range ops.size).all fun j => j == i || listed.getD j true || (reachD ops listed i 4 []).contains j || (match ops[j]?, ops[i]? with
    | some oj, some oi => oi.apart ops oj && okx j
    | _, _ => true)
def schedB (ops : Array Oper) (fl : Nat → Bool) (s : Option Nat) : List Nat → List Md → Array Bool → Bool
  | [], _, listed => (Region.ready .any ops listed).isEmpty
  | i :: sch, ms, listed =>
    !(s == some i) && (match ms.headD .n with
     | .q => qOk ops fl listed i
     | .f => fl i && Region.ready .any ops listed == [i]
     | .n => !fl i && Region.ready .any ops listed == [i]) && schedB ops fl s sch ms.tail (listed.setIfInBounds i true)
def drawOk2 (ops : Array Oper) (sch : List Nat) (ms : List Md) : Bool :=
  Region.noSelect ops && sch.length == ops.size && schedB ops (flagOf sch ms) none sch ms (Array.replicate ops.size false)

/-- These blocks stay. -/
def PreB (B : Nat → Prop) (w w' : World) : Prop := w.heap.size ≤ w'.heap.size ∧ ∀ b, B b → b < w.heap.size → w'.heap[b]? = w.heap[b]?
theorem PreB.refl (B : Nat → Prop) (w : World) : PreB B w w := ⟨Nat.le_refl _, fun _ _ _ => rfl⟩
theorem PreB.trans {B : Nat → Prop} (a b c : World) (h : PreB B a b) (k : PreB B b c) : PreB B a c := ⟨Nat.le_trans h.1 k.1, fun i hi hl => (k.2 i hi (Nat.lt_of_lt_of_le hl h.1)).trans (h.2 i hi hl)⟩
theorem PreB.of {B : Nat → Prop} {w w' : World} (h : Pre w w') : PreB B w w' := ⟨h.size, fun b _ hb => h.blk b hb⟩
def PwS (fl : Nat → Bool) (s : Option Nat) (B : Nat → Prop) (j : Nat) (w w' : World) : Prop := (fl j = true → Pre w w') ∧ (s = some j → PreB B w w')
theorem PwS.refl (fl : Nat → Bool) (s : Option Nat) (B : Nat → Prop) (j : Nat) (w : World) : PwS fl s B j w w := ⟨fun _ => Pre.refl w, fun _ => PreB.refl B w⟩

section
variable {P : Program} {T : Nat → Prop} {st0 : St} {N : Nat} {ops : Array Oper} {Q : Aa → St → Prop} {μ0 : Nat → Loc} {w0 : World} {Q' : Exit → Act → World → Prop} {fl : Nat → Bool} {s : Option Nat} {B : Nat → Prop}

theorem first_of {R : World → World → Prop} {Pw : Nat → World → World → Prop} (hrf : ∀ w, R w w) (htr : ∀ a b c, R a b → R b c → R a c) (hQn : ∀ e ca w, e ≠ .normal → ¬ Q' e ca w) (hs : Region.noSelect ops = true) {okx : Nat → Bool} {listed : Array Bool} {i : Nat} {oi : Oper} {v : Value} {ca : Act} {w : World} {fuel : Nat}
    (hB : qOk ops okx listed i = true) (hoi : ops[i]? = some oi) (hPi : ∀ w, Pw i w w) (hPj : ∀ j, okx j = true → ∀ w w', Pw j w w' → R w w') (hy : YX P ops R oi v ca w) (h : wpX P ops Q' Pw fuel (listed.setIfInBounds i true) (ca.put oi.dst v) w) : wpX P ops Q' Pw (fuel + 1) listed ca w := by
  simp only [qOk, Bool.and_eq_true, List.all_eq_true, List.mem_range, List.contains_iff_mem] at hB
  obtain ⟨⟨hin, hD⟩, hall⟩ := hB
  generalize reachD ops listed i 4 [] = D at hD hall
  simp only [dOk, Bool.and_eq_true, List.all_eq_true, List.mem_range] at hD
  obtain ⟨hD1, hD2⟩ := hD
  refine wpX_first hrf htr hoi (Region.noSelect_spec hs) hQn hPi (fun j => D.contains j) (fun j oj hj hd => ?_) fuel listed ca w (fun j hj => ?_) (fun j oj hj hne hun hd => ?_) hin hy h
  · have h1 := hD1 j (Array.getElem?_eq_some_iff.1 hj).1
    simp only [hd, Bool.not_true, Bool.false_or, hj] at h1
    obtain ⟨e, he, hb⟩ := Array.any_eq_true'.1 h1
    simp only [Bool.and_eq_true, Bool.or_eq_true, beq_iff_eq] at hb
    exact ⟨e, he, hb.1, hb.2⟩
  · have h1 := hD2 j (by simpa using hj)
    simpa using h1.1
  · have h1 := hall j (Array.getElem?_eq_some_iff.1 hj).1
    have hd' : D.contains j = false := hd
    simp only [hj, hoi, Bool.or_eq_true, beq_iff_eq, hne, false_or, hun, Bool.false_eq_true, hd', Bool.and_eq_true] at h1
    exact ⟨h1.1, fun w w' hp => hPj j h1.2 w w' hp⟩

theorem wpX_of_AOps (hQ : ∀ ca w, Good T μ0 st0 w0 N Q ca w → Q' .normal ca w) (hQn : ∀ e ca w, e ≠ .normal → ¬ Q' e ca w) (hs : Region.noSelect ops = true) (hd : ∀ (i : Nat) o, ops[i]? = some o → ∀ x, o.dst = some x → x < N) :
    ∀ (sch : List Nat) (ms : List Md) (listed : Array Bool), schedB ops fl s sch ms listed = true → ∀ ca w, Good T μ0 st0 w0 N (AOps P T st0 N ops Q ms (sch.filterMap (ops[·]?))) ca w →
      wpX P ops Q' (PwS fl s B) sch.length listed ca w
  | [], _, listed, hB, ca, w, h => ⟨by simpa [schedB] using hB, hQ ca w (h.mono fun _ _ h => h)⟩
  | i :: sch, ms, listed, hB, ca, w, h => by
    obtain ⟨β, a, μ, st, hi, hr⟩ := h
    simp only [schedB, Bool.and_eq_true] at hB
    obtain ⟨⟨hsi, hB⟩, hB'⟩ := hB
    have hsi : s ≠ some i := by simpa using hsi
    have pw : ∀ w', (fl i = true → Pre w w') → PwS fl s B i w w' := fun w' h => ⟨h, fun e => absurd e hsi⟩
    have ih := fun ca w => wpX_of_AOps hQ hQn hs hd sch ms.tail (listed.setIfInBounds i true) hB' ca w
    have hin : i ∈ Region.ready .any ops listed := by
      cases hm : ms.headD .n <;> rw [hm] at hB
      · simp only [qOk, Bool.and_eq_true] at hB
        simpa using hB.1.1
      · simp only [Bool.and_eq_true, beq_iff_eq] at hB
        rw [hB.2]; simp
      · simp only [Bool.and_eq_true, beq_iff_eq] at hB
        rw [hB.2]; simp
    obtain ⟨hjun, oi, hoi, hall⟩ := mem_ready.1 hin
    have hd0 := hd i oi hoi
    simp only [List.filterMap_cons, hoi, AOps] at hr
    have key : (∃ v, (∃ r, RR st.n μ β r v ∧ AOps P T st0 N ops Q ms.tail (sch.filterMap (ops[·]?)) (a.put oi.dst r) st) ∧ YX P ops Pre oi v ca w) ∨
        (ms.headD .n ≠ .q ∧ wpOp P ops Q' i (fun ca' w' => (fl i = true → Pre w w') ∧ Good T μ0 st0 w0 N (AOps P T st0 N ops Q ms.tail (sch.filterMap (ops[·]?))) ca' w') ca w) := by
      have leaf : Region.wanted oi (yielded ops ca.tmps) = true → ALeaf P T st0 N oi (ms.headD .n) (AOps P T st0 N ops Q ms.tail (sch.filterMap (ops[·]?))) a st → _ := fun hw hl => by
        show (∃ v, (∃ r, RR st.n μ β r v ∧ AOps P T st0 N ops Q ms.tail (sch.filterMap (ops[·]?)) (a.put oi.dst r) st) ∧ YX P ops Pre oi v ca w) ∨
          (ms.headD .n ≠ .q ∧ wpOp P ops Q' i (fun ca' w' => (fl i = true → Pre w w') ∧ Good T μ0 st0 w0 N (AOps P T st0 N ops Q ms.tail (sch.filterMap (ops[·]?))) ca' w') ca w)
        cases hm : ms.headD .n with
        | q =>
          rw [hm] at hl
          obtain ⟨r, hq, hr⟩ := hl
          obtain ⟨cv, h1, h2⟩ := hq μ0 w0 β μ w ca hi
          exact .inl ⟨cv, ⟨r, h1, hr⟩, .inl ⟨hw, h2⟩⟩
        | f =>
          rw [hm] at hl
          refine .inr ⟨by simp, ?_⟩
          unfold wpOp
          simp only [hoi, hw, if_true]
          exact .inl (Oper.wp_mono (fun ca' w' hk => ⟨fun _ => hk.1 rfl, hk.2⟩) (hl hd0 _ _ _ _ _ _ hi Q'))
        | n =>
          rw [hm] at hl hB
          refine .inr ⟨by simp, ?_⟩
          unfold wpOp
          simp only [hoi, hw, if_true]
          refine .inl (Oper.wp_mono (fun ca' w' hk => ⟨fun hf => ?_, hk.2⟩) (hl hd0 _ _ _ _ _ _ hi Q'))
          simp [hf] at hB
      cases hg : oi.guard with
      | none =>
        rw [hg] at hr
        exact leaf (by simp [Region.wanted, hg]) hr
      | some jw =>
        obtain ⟨j, want⟩ := jw
        rw [hg] at hr
        obtain ⟨t, ht, ⟨hsb, hr⟩ | ⟨hsb, hr⟩⟩ := hr
        · have hy := yielded_of hi ht hsb
          exact leaf (by simp [Region.wanted, hg, hy]) hr
        · have hy := yielded_not hi ht hsb
          exact .inl ⟨undef, ⟨.v .und, by simp [RR, VR], hr⟩, .inr ⟨by simp [Region.wanted, hg, hy], rfl⟩⟩
    rcases key with ⟨v, ⟨r, hrr, hrest⟩, hy⟩ | ⟨hne, hop⟩
    · have hgood : Good T μ0 st0 w0 N (AOps P T st0 N ops Q ms.tail (sch.filterMap (ops[·]?))) (ca.put oi.dst v) w := ⟨β, _, μ, st, hi.put hd0 hrr, hrest⟩
      cases hm : ms.headD .n with
      | q =>
        rw [hm] at hB
        exact first_of (R := Pre) Pre.refl (fun a b c h k => h.trans k) hQn hs hB hoi (fun w => PwS.refl ..) (fun j hj w w' hp => hp.1 hj) hy (ih _ _ hgood)
      | f =>
        rw [hm] at hB
        simp only [Bool.and_eq_true, beq_iff_eq] at hB
        exact wpX_sole hB.2 (hy.op Pre.refl hoi ⟨PwS.refl .., ih _ _ hgood⟩)
      | n =>
        rw [hm] at hB
        simp only [Bool.and_eq_true, beq_iff_eq] at hB
        exact wpX_sole hB.2 (hy.op Pre.refl hoi ⟨PwS.refl .., ih _ _ hgood⟩)
    · have hsole : Region.ready .any ops listed = [i] := by
        cases hm : ms.headD .n <;> rw [hm] at hB hne
        · exact absurd rfl hne
        · simp only [Bool.and_eq_true, beq_iff_eq] at hB; exact hB.2
        · simp only [Bool.and_eq_true, beq_iff_eq] at hB; exact hB.2
      exact wpX_sole hsole (wpOp_mono (fun ca' w' hk => ⟨pw w' hk.1, ih ca' w' hk.2⟩) hop)
end

theorem c_draw2 {P : Program} {T : Nat → Prop} {st0 : St} {N : Nat} {Q : AX → Aa → St → Prop} {a : Aa} {st : St} {id : Nat} {l : List Oper} (hm : P.follows .mixedOrders = true) (sch : List Nat) (ms : List Md) (hd : dstsOk N l = true) (hB : drawOk2 l.toArray sch ms = true)
    (h : AOps P T st0 N l.toArray (Q .normal) ms (sch.filterMap (l.toArray[·]?)) a st) : ACode P T st0 N (.region id l.toArray true) Q a st := by
  intro μ0 w0 β μ w ca hi
  simp only [drawOk2, Bool.and_eq_true, beq_iff_eq] at hB
  obtain ⟨⟨hs, hlen⟩, hB⟩ := hB
  refine wp_mono (wp_region_any (Q := fun e ca w => e = .normal ∧ Good T μ0 st0 w0 N (Q .normal) ca w) hm (wpAny_of_wpX (Pw := PwS (flagOf sch ms) none (fun _ => False)) _ _ _ _ ?_)) fun e ca' w' hq => by obtain ⟨rfl, hq⟩ := hq; exact hq
  rw [← hlen] at hB ⊢
  exact wpX_of_AOps (fun ca w h => ⟨rfl, h⟩) (fun e ca w hne hq => hne hq.1) hs (fun i o ho x hx => dstsOk_spec hd o (by simpa using List.mem_of_getElem? (by simpa using ho)) x hx) sch ms _ hB ca _ ⟨β, a, μ, st, hi.pre (Pre.drew w), h⟩
section
variable {P : Program} {T : Nat → Prop} {st0 : St} {N : Nat} {a : Aa} {st : St} {Q : AX → Aa → St → Prop} {id : Nat} {l : List Oper} {y : Code}
/-- A region that draws its order; what waits for a thing through others counts as well. -/
theorem c_dt {tb' : Tb} [TbOk P tb'] (sch : List Nat) (ms : List Md) (hd : dstsOk N l = true) (hB : drawOk2 l.toArray sch ms = true) (h : AOps P T st0 N l.toArray (ACode P T st0 N y Q) ms (sch.filterMap (l.toArray[·]?)) a st) : ACode P T st0 N (.seq (.region id l.toArray true) y) Q a st :=
  c_seq (c_draw2 (TbOk.mixed (tb := tb')) sch ms hd hB h)
end
end Go.Proofs.YtmphklmhhcmbnaaW.Ax
