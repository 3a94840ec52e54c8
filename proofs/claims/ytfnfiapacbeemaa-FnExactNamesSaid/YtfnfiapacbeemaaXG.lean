/- A region that draws its order: calls and makers, one behind the other, that leave the frame's own boxes; what reads those alone may come as soon as it may. -/
import Derived.Test.YtfnfiapacbeemaaXD
namespace Go.Proofs.YtfnfiapacbeemaaW.Ax
open Go Go.RowKit
set_option linter.unusedVariables false
set_option linter.unusedSimpArgs false

/-- A frame of which more is known. -/
structure Le (a a' : Aa) : Prop where
  s : ∀ i, a.s i = a'.s i ∨ a.s i = .junk
  p : ∀ i, a.p i = a'.p i ∨ a.p i = none
  x : ∀ k, a.x k = a'.x k ∨ a.x k = none
theorem Le.refl (a : Aa) : Le a a := ⟨fun _ => .inl rfl, fun _ => .inl rfl, fun _ => .inl rfl⟩
theorem Le.put {a a' : Aa} (h : Le a a') (d : Option Nat) (r : RV) : Le (a.put d r) (a'.put d r) := by
  cases d with
  | none => exact h
  | some d =>
    cases r with
    | v v =>
      refine ⟨fun i => ?_, fun i => ?_, h.x⟩
      · show upd a.s d v i = upd a'.s d v i ∨ _
        by_cases e : i = d
        · subst e; rw [upd_same, upd_same]; exact .inl rfl
        · rw [upd_ne _ _ e, upd_ne _ _ e]; exact (h.s i).imp id fun h => (by show upd a.s d v i = _; rw [upd_ne _ _ e]; exact h)
      · show upd a.p d none i = upd a'.p d none i ∨ _
        by_cases e : i = d
        · subst e; rw [upd_same, upd_same]; exact .inl rfl
        · rw [upd_ne _ _ e, upd_ne _ _ e]; exact (h.p i).imp id fun h => (by show upd a.p d none i = _; rw [upd_ne _ _ e]; exact h)
    | lp k o =>
      refine ⟨fun i => ?_, fun i => ?_, h.x⟩
      · show upd a.s d .junk i = upd a'.s d .junk i ∨ _
        by_cases e : i = d
        · subst e; rw [upd_same, upd_same]; exact .inl rfl
        · rw [upd_ne _ _ e, upd_ne _ _ e]; exact (h.s i).imp id fun h => (by show upd a.s d .junk i = _; rw [upd_ne _ _ e]; exact h)
      · show upd a.p d (some (k, o)) i = upd a'.p d (some (k, o)) i ∨ _
        by_cases e : i = d
        · subst e; rw [upd_same, upd_same]; exact .inl rfl
        · rw [upd_ne _ _ e, upd_ne _ _ e]; exact (h.p i).imp id fun h => (by show upd a.p d (some (k, o)) i = _; rw [upd_ne _ _ e]; exact h)
theorem Inv.le {T : Nat → Prop} {μ0 : Nat → Loc} {st0 : St} {w0 : World} {N : Nat} {β : Nat → Nat} {a a' : Aa} {μ : Nat → Loc} {st : St} {w : World} {ca : Act} (h : Inv T μ0 st0 w0 N β a' μ st w ca) (hl : Le a a') : Inv T μ0 st0 w0 N β a μ st w ca := h.weak hl.s hl.p hl.x
/-- An operation that leaves these boxes of the frame as they are. -/
def ALeafB (P : Program) (T : Nat → Prop) (st0 : St) (N : Nat) (K : List Nat) (o : Oper) (R : Aa → St → Prop) (a : Aa) (st : St) : Prop :=
  (∀ x, o.dst = some x → x < N) → ∀ μ0 w0 β μ w ca a', Le a a' → Inv T μ0 st0 w0 N β a' μ st w ca → ∀ Q' : Exit → Act → World → Prop,
    o.wp P ca w (fun ca' w' => PreB (fun b => ∃ k ∈ K, a'.x k ≠ none ∧ b = β k) w w' ∧ ∃ v μ' st', Inv T μ0 st0 w0 N β (a'.put o.dst (.v v)) μ' st' w' ca' ∧ R (a.put o.dst (.v v)) st') Q'
/-- What it reads of boxes: nothing, if it is no load. -/
def kBox (K : List Nat) (o : Oper) : List Nat := match o.op with | .load _ _ => K | _ => []
def noLoad (ops : Array Oper) (i : Nat) : Bool := match ops[i]? with | some o => (match o.op with | .load _ _ => false | _ => true) | none => false
/-- No pointer to one of these boxes. -/
def lpOk (ds : List Nat) (r : RV) : Bool := match r with | .lp k _ => !ds.contains k | _ => true
def AXs (P : Program) (T : Nat → Prop) (st0 : St) (N : Nat) (K ds : List Nat) (Q : Aa → St → Prop) : List Bool → List Oper → Aa → St → Prop
  | _, [], a, st => Q a st
  | ms, o :: l, a, st => o.guard = none ∧ match ms.headD false with
    | true => ALeafB P T st0 N K o (AXs P T st0 N K ds Q ms.tail l) a st
    | false => ∃ r, lpOk ds r = true ∧ AQX P T st0 N (kBox K o) o r a st ∧ AXs P T st0 N K ds Q ms.tail l (a.put o.dst r) st
/-- The frame's own variables that are born meanwhile: which operations, where, what they hold. -/
def dOf (ops : Array Oper) (i : Nat) : Nat := match ops[i]? with | some o => o.dst.getD 0 | none => 0
def zOf (tb : Tb) (ops : Array Oper) (i : Nat) : List AV := match ops[i]? with
  | some o => (match o.op with | .alloc t => (match look tb t with | some k => (match forceL (k.zero.map Z.av) with | some l => l | none => []) | none => []) | _ => [])
  | none => []
def allocOk (tb : Tb) (N : Nat) (ops : Array Oper) (i : Nat) : Bool := match ops[i]? with
  | some o => (match o.op, o.dst, o.guard with | .alloc t, some d, none => Nat.blt d N && (match look tb t with | some k => (match forceL (k.zero.map Z.av) with | some _ => true | none => false) | none => false) | _, _, _ => false)
  | none => false
def schedX (ops : Array Oper) (fl sb : Nat → Bool) (A : List Nat) (post : List Nat) (ms : List Md) : Nat → List Nat → List Bool → Array Bool → Bool
  | f, [], _, listed => cond (A.all fun i => listed.getD i false)
      ((List.range ops.size).all (fun j => listed.getD j true || !sb j) && (f == 0 && schedB ops fl none post ms listed))
      (match f with
       | 0 => false
       | f + 1 => !(Region.ready .any ops listed).isEmpty && (Region.ready .any ops listed).all fun i => A.contains i && schedX ops fl sb A post ms f [] [] (listed.setIfInBounds i true))
  | 0, _ :: _, _, _ => false
  | f + 1, i :: pre, bs, listed => match bs.headD false with
      | true => (Region.ready .any ops listed).contains i && (Region.ready .any ops listed).all fun j =>
          cond (j == i) (sb i && (!fl i && schedX ops fl sb A post ms f pre bs.tail (listed.setIfInBounds i true))) (A.contains j && schedX ops fl sb A post ms f (i :: pre) bs (listed.setIfInBounds j true))
      | false => qOk ops (fun j => fl j || (sb j || noLoad ops i)) listed i && schedX ops fl sb A post ms f pre bs.tail (listed.setIfInBounds i true)
def bOf : List Nat → List Bool → Nat → Bool
  | [], _, _ => false
  | i :: pre, bs, j => (bs.headD false && i == j) || bOf pre bs.tail j
def xOf : List Nat → List Bool → Nat → Bool
  | [], _, _ => false
  | i :: pre, bs, j => (!bs.headD false && i == j) || xOf pre bs.tail j
def drawOkX (tb : Tb) (N : Nat) (ops : Array Oper) (K A : List Nat) (pre : List Nat) (bs : List Bool) (post : List Nat) (ms : List Md) : Bool :=
  Region.noSelect ops && (A.all (fun i => allocOk tb N ops i && (!K.contains (dOf ops i) && (!bOf pre bs i && A.all fun j => i == j || !(dOf ops i == dOf ops j)))) && (pre.length + A.length + post.length == ops.size &&
    (pre.all (fun j => match ops[j]? with | some o => (match o.dst with | some d => !(A.map (dOf ops)).contains d | none => true) | none => true) &&
    (schedX ops (fun j => xOf pre bs j || (A.contains j || flagOf post ms j)) (bOf pre bs) A post ms (pre.length + A.length) pre bs (Array.replicate ops.size false)))))
theorem put_s_ne {a : Aa} {d : Option Nat} (r : RV) {t : Nat} (h : d ≠ some t) : (a.put d r).s t = a.s t := by
  cases d with
  | none => rfl
  | some d => cases r <;> exact upd_ne _ _ fun e => h (by rw [e])
theorem put_p_ne {a : Aa} {d : Option Nat} (r : RV) {t : Nat} (h : d ≠ some t) : (a.put d r).p t = a.p t := by
  cases d with
  | none => rfl
  | some d => cases r <;> exact upd_ne _ _ fun e => h (by rw [e])
theorem put_p_of {a : Aa} {d : Option Nat} {r : RV} {j k o : Nat} (h : (a.put d r).p j = some (k, o)) : a.p j = some (k, o) ∨ ∃ o', r = .lp k o' := by
  cases d with
  | none => exact .inl h
  | some d =>
    cases r with
    | v v =>
      have h : upd a.p d none j = some (k, o) := h
      by_cases e : j = d
      · subst e; rw [upd_same] at h; cases h
      · rw [upd_ne _ _ e] at h; exact .inl h
    | lp k' o' =>
      have h : upd a.p d (some (k', o')) j = some (k, o) := h
      by_cases e : j = d
      · subst e
        rw [upd_same] at h
        injection h with h
        injection h with h1 h2
        exact .inr ⟨o', by rw [h1]⟩
      · rw [upd_ne _ _ e] at h; exact .inl h
def PwB (fl sb : Nat → Bool) (B : Nat → Prop) (j : Nat) (w w' : World) : Prop := (fl j = true → Pre w w') ∧ (sb j = true → PreB B w w')
theorem PwB.refl (fl sb : Nat → Bool) (B : Nat → Prop) (j : Nat) (w : World) : PwB fl sb B j w w := ⟨fun _ => Pre.refl w, fun _ => PreB.refl B w⟩
/-- A frame with the variables born. -/
def born (tb : Tb) (ops : Array Oper) (A : List Nat) (a : Aa) : Aa := A.foldl (fun a i => a.box (dOf ops i) (zOf tb ops i)) a
/-- A frame without them. -/
def unborn (ops : Array Oper) (A : List Nat) (a : Aa) : Aa := ⟨fun i => cond ((A.map (dOf ops)).contains i) .junk (a.s i), fun i => cond ((A.map (dOf ops)).contains i) none (match a.p i with | some (k, o) => cond ((A.map (dOf ops)).contains k) none (some (k, o)) | none => none), fun k => cond ((A.map (dOf ops)).contains k) none (a.x k)⟩
theorem unborn_le (ops : Array Oper) (A : List Nat) (a : Aa) : Le (unborn ops A a) a := by
  refine ⟨fun i => ?_, fun i => ?_, fun k => ?_⟩
  · show cond _ _ _ = _ ∨ cond _ _ _ = _
    cases (A.map (dOf ops)).contains i
    · exact .inl rfl
    · exact .inr rfl
  · show cond _ _ _ = _ ∨ cond _ _ _ = _
    cases (A.map (dOf ops)).contains i
    · simp only [cond_false]
      cases h : a.p i with
      | none => exact .inl rfl
      | some q =>
        obtain ⟨k, o⟩ := q
        simp only
        cases (A.map (dOf ops)).contains k
        · exact .inl rfl
        · exact .inr rfl
    · exact .inr rfl
  · show cond _ _ _ = _ ∨ cond _ _ _ = _
    cases (A.map (dOf ops)).contains k
    · exact .inl rfl
    · exact .inr rfl
/-- What is known of a frame while some of the variables have been born. -/
structure Bo (tb : Tb) (ops : Array Oper) (A : List Nat) (listed : Array Bool) (a a' : Aa) : Prop where
  le : Le a a'
  s : ∀ i ∈ A, a.s (dOf ops i) = .junk
  p : ∀ i ∈ A, a.p (dOf ops i) = none
  x : ∀ i ∈ A, a.x (dOf ops i) = none
  np : ∀ j k o, a.p j = some (k, o) → ∀ i ∈ A, k ≠ dOf ops i
  al : ∀ i ∈ A, listed.getD i false = true → a'.p (dOf ops i) = some (dOf ops i, 0) ∧ a'.x (dOf ops i) = some (zOf tb ops i)

section
variable {P : Program} {tb : Tb} [TbOk P tb] {T : Nat → Prop} {st0 : St} {N : Nat} {ops : Array Oper} {Q : Aa → St → Prop} {μ0 : Nat → Loc} {w0 : World} {Q' : Exit → Act → World → Prop} {fl sb : Nat → Bool} {K A : List Nat}
omit [TbOk P tb] in
theorem wpX_mono {Pw Pw' : Nat → World → World → Prop} : ∀ (fuel : Nat) (listed : Array Bool) (ca : Act) (w : World), (∀ j, j < ops.size → listed.getD j true = false → ∀ w w', Pw j w w' → Pw' j w w') → wpX P ops Q' Pw fuel listed ca w → wpX P ops Q' Pw' fuel listed ca w
  | 0, _, _, _, _, h => h
  | fuel + 1, listed, ca, w, hp, h => ⟨h.1, fun i hi => wpOp_mono (fun ca' w' hk => ⟨by
      obtain ⟨hun, oi, hoi, _⟩ := mem_ready.1 hi
      exact hp i (Array.getElem?_eq_some_iff.1 hoi).1 hun _ _ hk.1, wpX_mono fuel _ ca' w' (fun j hj hun => by
        by_cases e : i = j
        · subst e
          intro w w' h'
          exact hp i hj (mem_ready.1 hi).1 _ _ h'
        · rw [getD_set_ne true e] at hun
          exact hp j hj hun) hk.2⟩) (h.2 i hi)⟩
/-- A variable is born. -/
theorem alloc_step {i : Nat} (hA : allocOk tb N ops i = true) {β : Nat → Nat} {a' : Aa} {μ : Nat → Loc} {st : St} {ca : Act} {w : World} (hi : Inv T μ0 st0 w0 N β a' μ st w ca) {Kc : Act → World → Prop}
    (h : ∀ ca' w' β', Pre w w' → (∀ k, k ≠ dOf ops i → β' k = β k) → Inv T μ0 st0 w0 N β' (a'.box (dOf ops i) (zOf tb ops i)) μ st w' ca' → Kc ca' w') : wpOp P ops Q' i Kc ca w := by
  unfold allocOk at hA
  split at hA
  · rename_i o ho
    obtain ⟨dst, op, ty, pos, aft, gd⟩ := o
    simp only at hA
    split at hA
    · rename_i t d
      simp only [Bool.and_eq_true] at hA
      obtain ⟨hd, hA⟩ := hA
      have hd : d < N := Nat.le_of_ble_eq_true hd
      split at hA
      · rename_i k hk
        split at hA
        · rename_i l hl
          have e1 : dOf ops i = d := by unfold dOf; rw [ho]; rfl
          have e2 : zOf tb ops i = l := by unfold zOf; simp only [ho, hk, hl]
          have hle := forceL_eq _ _ hl
          obtain ⟨z, hz, hzv, hzs⟩ := (tyR (P := P) hk).zeroV st.n μ
          have hr : (execOp ca.eval ⟨some d, .alloc t, ty, pos, aft, none⟩).run P w = .ok (.value (.pointer (some ⟨w.heap.size, 0, none⟩))) (w.alloc (.cells z.cells t)) := by
            simp [execOp, Instr.alloc, hz, newVar, newRow]
          rw [← hle] at hzv
          unfold wpOp
          simp only [ho]
          rw [if_pos (by simp [Region.wanted])]
          refine .inl ?_
          unfold Oper.wp
          rw [hr]
          refine h _ _ (upd β d w.heap.size) (pre_alloc w _) (fun k hk => upd_ne _ _ (by rw [← e1]; exact hk)) ?_
          rw [e1, e2]
          exact hi.box_new hd hzv
        · cases hA
      · cases hA
    · cases hA
  · cases hA
omit [TbOk P tb] in
theorem Bo.step {listed : Array Bool} {a a' : Aa} {i : Nat} (h : Bo tb ops A listed a a') (hi : i ∈ A) (hin : listed.getD i true = false) (hinj : ∀ j ∈ A, i = j ∨ dOf ops i ≠ dOf ops j) : Bo tb ops A (listed.setIfInBounds i true) a (a'.box (dOf ops i) (zOf tb ops i)) := by
  refine ⟨⟨fun j => ?_, fun j => ?_, fun k => ?_⟩, h.s, h.p, h.x, h.np, fun j hj hl => ?_⟩
  · show a.s j = upd a'.s (dOf ops i) .junk j ∨ _
    by_cases e : j = dOf ops i
    · subst e; exact .inr (h.s i hi)
    · rw [upd_ne _ _ e]; exact h.le.s j
  · show a.p j = upd (clr a'.p (dOf ops i)) (dOf ops i) (some (dOf ops i, 0)) j ∨ _
    by_cases e : j = dOf ops i
    · subst e; exact .inr (h.p i hi)
    · rw [upd_ne _ _ e]
      rcases h.le.p j with h1 | h1
      · cases hp : a.p j with
        | none => exact .inr rfl
        | some q =>
          obtain ⟨k, o⟩ := q
          have hk := h.np j k o hp i hi
          left
          unfold clr
          rw [← h1, hp]
          have : Nat.beq k (dOf ops i) = false := by
            cases hb : Nat.beq k (dOf ops i) with
            | false => rfl
            | true => exact absurd (Nat.eq_of_beq_eq_true hb) hk
          simp [this]
      · exact .inr h1
  · show a.x k = upd a'.x (dOf ops i) _ k ∨ _
    by_cases e : k = dOf ops i
    · subst e; exact .inr (h.x i hi)
    · rw [upd_ne _ _ e]; exact h.le.x k
  · by_cases e : i = j
    · subst e
      exact ⟨upd_same _ _ _, upd_same _ _ _⟩
    · rw [getD_set_ne false e] at hl
      obtain ⟨h1, h2⟩ := h.al j hj hl
      have hne : dOf ops j ≠ dOf ops i := fun e2 => (hinj j hj).elim e fun h => h e2.symm
      refine ⟨?_, (upd_ne _ _ hne).trans h2⟩
      show upd (clr a'.p (dOf ops i)) (dOf ops i) _ (dOf ops j) = _
      rw [upd_ne _ _ hne]
      unfold clr
      rw [h1]
      have : Nat.beq (dOf ops j) (dOf ops i) = false := by
        cases hb : Nat.beq (dOf ops j) (dOf ops i) with
        | false => rfl
        | true => exact absurd (Nat.eq_of_beq_eq_true hb) hne
      simp [this]
omit [TbOk P tb] in
theorem born_le {ops : Array Oper} {a' : Aa} : ∀ (A : List Nat) {a : Aa}, (∀ i, a.s i = a'.s i ∨ a.s i = .junk) → (∀ i, a.p i = a'.p i ∨ a.p i = none) → (∀ k, a.x k = a'.x k ∨ a.x k = none) →
    (∀ i ∈ A, a'.p (dOf ops i) = some (dOf ops i, 0) ∧ a'.x (dOf ops i) = some (zOf tb ops i)) → Le (born tb ops A a) a'
  | [], a, hs, hp, hx, _ => ⟨hs, hp, hx⟩
  | i :: A, a, hs, hp, hx, hal => by
    obtain ⟨h1, h2⟩ := hal i List.mem_cons_self
    refine born_le A (a := a.box (dOf ops i) (zOf tb ops i)) (fun j => ?_) (fun j => ?_) (fun k => ?_) fun j hj => hal j (List.mem_cons_of_mem _ hj)
    · show upd a.s (dOf ops i) .junk j = _ ∨ upd a.s (dOf ops i) .junk j = _
      by_cases e : j = dOf ops i
      · subst e; rw [upd_same]; exact .inr rfl
      · rw [upd_ne _ _ e]; exact hs j
    · show upd (clr a.p (dOf ops i)) (dOf ops i) (some (dOf ops i, 0)) j = _ ∨ upd (clr a.p (dOf ops i)) (dOf ops i) (some (dOf ops i, 0)) j = _
      by_cases e : j = dOf ops i
      · subst e; rw [upd_same]; exact .inl h1.symm
      · rw [upd_ne _ _ e]
        unfold clr
        cases hpj : a.p j with
        | none => exact .inr rfl
        | some q =>
          obtain ⟨k, o⟩ := q
          simp only
          cases Nat.beq k (dOf ops i) with
          | true => exact .inr rfl
          | false => rcases hp j with h | h
                     · left; rw [← h, hpj]; rfl
                     · rw [hpj] at h; cases h
    · show upd a.x (dOf ops i) (some (zOf tb ops i)) k = _ ∨ upd a.x (dOf ops i) (some (zOf tb ops i)) k = _
      by_cases e : k = dOf ops i
      · subst e; rw [upd_same]; exact .inl h2.symm
      · rw [upd_ne _ _ e]; exact hx k
theorem wpX_of_X (hQ : ∀ ca w, Good T μ0 st0 w0 N Q ca w → Q' .normal ca w) (hQn : ∀ e ca w, e ≠ .normal → ¬ Q' e ca w) (hs : Region.noSelect ops = true) (hd : ∀ (i : Nat) o, ops[i]? = some o → ∀ x, o.dst = some x → x < N) (post : List Nat) (ms : List Md) (β0 : Nat → Nat) (xs : Nat → Option (List AV))
    (hA : ∀ i ∈ A, allocOk tb N ops i = true) (hAK : ∀ i ∈ A, dOf ops i ∉ K) (hAb : ∀ i ∈ A, sb i = false) (hinj : ∀ i ∈ A, ∀ j ∈ A, i = j ∨ dOf ops i ≠ dOf ops j) :
    ∀ (f : Nat) (pre : List Nat) (bs : List Bool) (listed : Array Bool), schedX ops fl sb A post ms f pre bs listed = true → (∀ i ∈ pre, ∀ o, ops[i]? = some o → ∀ d, o.dst = some d → ∀ j ∈ A, d ≠ dOf ops j) → ∀ (a a' : Aa) (β : Nat → Nat) μ (st : St) ca w, a.x = xs → (∀ k ∈ K, xs k ≠ none → β k = β0 k) → Bo tb ops A listed a a' → Inv T μ0 st0 w0 N β a' μ st w ca →
      AXs P T st0 N K (A.map (dOf ops)) (fun a' st' => AOps P T st0 N ops Q ms (post.filterMap (ops[·]?)) (born tb ops A a') st') bs (pre.filterMap (ops[·]?)) a st →
      wpX P ops Q' (PwB fl sb (fun b => ∃ k ∈ K, xs k ≠ none ∧ b = β0 k)) (f + post.length) listed ca w := by
  have alc : ∀ (f : Nat) (listed : Array Bool) (a a' : Aa) (β : Nat → Nat) (μ : Nat → Loc) (st : St) (ca : Act) (w : World) (j : Nat), j ∈ A → j ∈ Region.ready .any ops listed → (∀ k ∈ K, xs k ≠ none → β k = β0 k) → Bo tb ops A listed a a' → Inv T μ0 st0 w0 N β a' μ st w ca →
      (∀ a'' β' ca' w', (∀ k ∈ K, xs k ≠ none → β' k = β0 k) → Bo tb ops A (listed.setIfInBounds j true) a a'' → Inv T μ0 st0 w0 N β' a'' μ st w' ca' → wpX P ops Q' (PwB fl sb (fun b => ∃ k ∈ K, xs k ≠ none ∧ b = β0 k)) f (listed.setIfInBounds j true) ca' w') →
      wpOp P ops Q' j (fun ca' w' => PwB fl sb (fun b => ∃ k ∈ K, xs k ≠ none ∧ b = β0 k) j w w' ∧ wpX P ops Q' (PwB fl sb (fun b => ∃ k ∈ K, xs k ≠ none ∧ b = β0 k)) f (listed.setIfInBounds j true) ca' w') ca w := by
    intro f listed a a' β μ st ca w j hjA hj hβ hb hi ih
    refine alloc_step (hA j hjA) hi fun ca' w' β' hp hb' hi' => ⟨⟨fun _ => hp, fun e => (by rw [hAb j hjA] at e; cases e)⟩, ih _ β' ca' w' (fun k hk hxk => ?_) (hb.step hjA (mem_ready.1 hj).1 (hinj j hjA)) hi'⟩
    rw [hb' k (fun e => hAK j hjA (e ▸ hk))]
    exact hβ k hk hxk
  intro f
  induction f with
  | zero =>
    intro pre bs listed hB hpd a a' β μ st ca w hax hβ hb hi h
    cases pre with
    | cons i pre => simp [schedX] at hB
    | nil =>
      unfold schedX at hB
      cases hall : (A.all fun i => listed.getD i false) with
      | false => rw [hall] at hB; simp at hB
      | true =>
        rw [hall] at hB
        simp only [cond_true, Bool.and_eq_true, List.all_eq_true, List.mem_range, Bool.or_eq_true, Bool.not_eq_true'] at hB
        obtain ⟨hn, _, hB⟩ := hB
        simp only [List.filterMap_nil, AXs] at h
        rw [Nat.zero_add]
        have hle := born_le (tb := tb) A hb.le.s hb.le.p hb.le.x fun i hiA => hb.al i hiA (by simpa using List.all_eq_true.1 hall i hiA)
        refine wpX_mono (Pw := PwS fl none (fun _ => False)) _ _ _ _ (fun j hj hun w w' hp => ⟨hp.1, fun hsb => ?_⟩) (wpX_of_AOps hQ hQn hs hd post ms listed hB ca w ⟨β, _, μ, st, hi.le hle, h⟩)
        rcases hn j hj with h1 | h1
        · rw [h1] at hun; cases hun
        · rw [h1] at hsb; cases hsb
  | succ f ih =>
    intro pre bs listed hB hpd a a' β μ st ca w hax hβ hb hi h
    cases pre with
    | nil =>
      unfold schedX at hB
      cases hall : (A.all fun i => listed.getD i false) with
      | true =>
        rw [hall] at hB
        simp only [cond_true, Bool.and_eq_true] at hB
        have := hB.2.1
        simp at this
      | false =>
        rw [hall] at hB
        simp only [cond_false, Bool.and_eq_true, Bool.not_eq_true', List.isEmpty_eq_false_iff, List.all_eq_true, List.contains_iff_mem] at hB
        obtain ⟨hne, hB⟩ := hB
        rw [show f + 1 + post.length = (f + post.length) + 1 by omega]
        refine ⟨fun e => absurd e hne, fun j hj => ?_⟩
        obtain ⟨hjA, hBj⟩ := hB j hj
        refine alc (f + post.length) listed a a' β μ st ca w j hjA hj hβ hb hi fun a'' β' ca' w' hβ' hb' hi' => ?_
        refine ih [] [] _ hBj (fun i hi => by simp at hi) a a'' β' μ st ca' w' hax hβ' hb' hi' ?_
        simp only [List.filterMap_nil, AXs] at h ⊢
        exact h
    | cons i pre =>
      rw [show f + 1 + post.length = (f + post.length) + 1 by omega]
      unfold schedX at hB
      cases hm : bs.headD false with
      | false =>
        rw [hm] at hB
        simp only [Bool.and_eq_true] at hB
        obtain ⟨hq, hB⟩ := hB
        have hin : i ∈ Region.ready .any ops listed := by
          simp only [qOk, Bool.and_eq_true] at hq
          simpa using hq.1.1
        obtain ⟨hjun, oi, hoi, hallr⟩ := mem_ready.1 hin
        simp only [List.filterMap_cons, hoi, AXs, hm] at h
        obtain ⟨hg, rr, hlp, hax', hrest⟩ := h
        obtain ⟨cv, h1, h2⟩ := hax' μ0 w0 β μ w ca (hi.le hb.le)
        have hnd : ∀ j ∈ A, oi.dst ≠ some (dOf ops j) := fun j hj e => hpd i List.mem_cons_self oi hoi _ e j hj rfl
        have hb' : Bo tb ops A (listed.setIfInBounds i true) (a.put oi.dst rr) (a'.put oi.dst rr) := by
          refine ⟨hb.le.put _ _, fun j hj => ?_, fun j hj => ?_, fun j hj => by rw [put_x]; exact hb.x j hj, fun j k o hp m hmA => ?_, fun j hj hl => ?_⟩
          · rw [put_s_ne _ (hnd j hj)]; exact hb.s j hj
          · rw [put_p_ne _ (hnd j hj)]; exact hb.p j hj
          · rcases put_p_of hp with hp | ⟨o', hp⟩
            · exact hb.np j k o hp m hmA
            · intro e
              rw [hp] at hlp
              simp only [lpOk, Bool.not_eq_true', List.contains_eq_mem, decide_eq_false_iff_not, List.mem_map, not_exists, not_and] at hlp
              exact hlp m hmA e.symm
          · have hjl : listed.getD j false = true := by
              by_cases e : i = j
              · subst e
                cases hd' : oi.dst with
                | none =>
                  have := hA _ hj
                  unfold allocOk at this
                  simp only [hoi, hd'] at this
                  split at this
                  · rename_i h3 _; cases h3
                  · cases this
                | some d =>
                  have : dOf ops i = d := by unfold dOf; rw [hoi]; simp [hd']
                  exact absurd (by rw [hd', this]) (hnd i hj)
              · rwa [getD_set_ne false e] at hl
            obtain ⟨h3, h4⟩ := hb.al j hj hjl
            rw [put_p_ne _ (hnd j hj), put_x]
            exact ⟨h3, h4⟩
        have ih' := ih pre bs.tail _ hB (fun j hj => hpd j (List.mem_cons_of_mem _ hj)) (a.put oi.dst rr) (a'.put oi.dst rr) β μ st (ca.put oi.dst cv) w ((put_x ..).trans hax) hβ hb' (hi.put (hd i oi hoi) h1) hrest
        cases hpu : noLoad ops i with
        | true =>
          have hK : kBox K oi = [] := by
            unfold noLoad at hpu
            simp only [hoi] at hpu
            unfold kBox
            split at hpu
            · cases hpu
            · rfl
          have hy : YX P ops (fun _ _ => True) oi cv ca w := .inl ⟨by simp [Region.wanted, hg], fun w' _ => h2 w' fun k hk => (by rw [hK] at hk; simp at hk)⟩
          exact first_of (R := fun _ _ => True) (fun _ => trivial) (fun _ _ _ _ _ => trivial) hQn hs hq hoi (fun w => PwB.refl ..) (fun j hj w w' hp => trivial) hy ih'
        | false =>
          have hK : kBox K oi = K := by
            unfold noLoad at hpu
            simp only [hoi] at hpu
            unfold kBox
            split at hpu
            · rename_i t x e; simp only [e]
            · cases hpu
          have hy : YX P ops (PreB fun b => ∃ k ∈ K, xs k ≠ none ∧ b = β0 k) oi cv ca w := .inl ⟨by simp [Region.wanted, hg], fun w' hp => h2 w' fun k hk hxk => hp.2 _ ⟨k, by rwa [hK] at hk, by rw [← hax]; exact hxk, hβ k (by rwa [hK] at hk) (by rw [← hax]; exact hxk)⟩ ((hi.le hb.le).blt hxk)⟩
          refine first_of (PreB.refl _) PreB.trans hQn hs hq hoi (fun w => PwB.refl ..) (fun j hj w w' hp => ?_) hy ih'
          simp only [Bool.or_eq_true, hpu, Bool.false_eq_true, or_false] at hj
          rcases hj with hj | hj
          · exact PreB.of (hp.1 hj)
          · exact hp.2 hj
      | true =>
        rw [hm] at hB
        simp only [Bool.and_eq_true, List.contains_iff_mem, List.all_eq_true] at hB
        obtain ⟨hin, hB⟩ := hB
        refine ⟨fun e => (by rw [e] at hin; cases hin), fun j hj => ?_⟩
        have hBj := hB j hj
        by_cases hji : j = i
        · subst hji
          simp only [beq_self_eq_true, cond_true, Bool.and_eq_true, Bool.not_eq_true'] at hBj
          obtain ⟨hsb, hfl, hBj⟩ := hBj
          obtain ⟨hjun, oi, hoi, hallr⟩ := mem_ready.1 hj
          simp only [List.filterMap_cons, hoi, AXs, hm] at h
          obtain ⟨hg, h⟩ := h
          have hnd : ∀ m ∈ A, oi.dst ≠ some (dOf ops m) := fun m hm e => hpd j List.mem_cons_self oi hoi _ e m hm rfl
          unfold wpOp
          simp only [hoi]
          rw [if_pos (by simp [Region.wanted, hg])]
          refine .inl (Oper.wp_mono (fun ca' w' hk => ?_) (h (hd j oi hoi) μ0 w0 β μ w ca a' hb.le hi Q'))
          obtain ⟨hpre, v, μ', st', hi', hr'⟩ := hk
          refine ⟨⟨fun e => ?_, fun _ => ?_⟩, ih pre bs.tail _ hBj (fun m hm => hpd m (List.mem_cons_of_mem _ hm)) _ _ β μ' st' ca' w' ((put_x ..).trans hax) hβ ?_ hi' hr'⟩
          · rw [hfl] at e; cases e
          · refine ⟨hpre.1, fun b ⟨k, hk, hxk, e⟩ hlt => hpre.2 b ⟨k, hk, ?_, ?_⟩ hlt⟩
            · rcases hb.le.x k with h3 | h3
              · rw [← h3, hax]; exact hxk
              · rw [hax] at h3; exact absurd h3 hxk
            · rw [e, hβ k hk hxk]
          · refine ⟨hb.le.put _ _, fun m hm => ?_, fun m hm => ?_, fun m hm => by rw [put_x]; exact hb.x m hm, fun m k o hp q hq => ?_, fun m hm hl => ?_⟩
            · rw [put_s_ne _ (hnd m hm)]; exact hb.s m hm
            · rw [put_p_ne _ (hnd m hm)]; exact hb.p m hm
            · rcases put_p_of hp with hp | ⟨o', hp⟩
              · exact hb.np m k o hp q hq
              · cases hp
            · have hml : listed.getD m false = true := by
                by_cases e : j = m
                · subst e
                  have := hAb _ hm
                  rw [hsb] at this; cases this
                · rwa [getD_set_ne false e] at hl
              obtain ⟨h3, h4⟩ := hb.al m hm hml
              rw [put_p_ne _ (hnd m hm), put_x]
              exact ⟨h3, h4⟩
        · simp only [beq_eq_false_iff_ne.2 hji, cond_false, Bool.and_eq_true, List.contains_iff_mem] at hBj
          obtain ⟨hjA, hBj⟩ := hBj
          exact alc (f + post.length) listed a a' β μ st ca w j hjA hj hβ hb hi fun a'' β' ca' w' hβ' hb' hi' => ih (i :: pre) bs _ hBj hpd a a'' β' μ st ca' w' hax hβ' hb' hi' h
end
section
variable {P : Program} {T : Nat → Prop} {st0 : St} {N : Nat} {a : Aa} {st : St} {Q : AX → Aa → St → Prop} {id : Nat} {l : List Oper} {y : Code}
/-- First what reads the frame's boxes alone ('false') and, one behind the other, calls and makers ('true'), while variables of the frame's own ('A') are born; then the rest, as ever. -/
theorem c_dx1 {tb : Tb} [TbOk P tb] (K A pre : List Nat) (bs : List Bool) (post : List Nat) (ms : List Md) (hd : dstsOk N l = true) (hB : drawOkX tb N l.toArray K A pre bs post ms = true)
    (h : AXs P T st0 N K (A.map (dOf l.toArray)) (fun a' st' => AOps P T st0 N l.toArray (Q .normal) ms (post.filterMap (l.toArray[·]?)) (born tb l.toArray A a') st') bs (pre.filterMap (l.toArray[·]?)) (unborn l.toArray A a) st) : ACode P T st0 N (.region id l.toArray true) Q a st := by
  intro μ0 w0 β μ w ca hi
  simp only [drawOkX, Bool.and_eq_true, beq_iff_eq, List.all_eq_true, List.mem_range, Bool.or_eq_true, Bool.not_eq_true'] at hB
  obtain ⟨hs, hA, hlen, hpd, hB⟩ := hB
  refine wp_mono (wp_region_any (Q := fun e ca w => e = .normal ∧ Good T μ0 st0 w0 N (Q .normal) ca w) (TbOk.mixed (tb := tb)) (wpAny_of_wpX (Pw := PwB (fun j => xOf pre bs j || (A.contains j || flagOf post ms j)) (bOf pre bs) (fun b => ∃ k ∈ K, (unborn l.toArray A a).x k ≠ none ∧ b = β k)) _ _ _ _ ?_)) fun e ca' w' hq => by obtain ⟨rfl, hq⟩ := hq; exact hq
  rw [← hlen] at hB ⊢
  refine wpX_of_X (tb := tb) (A := A) (fun ca w h => ⟨rfl, h⟩) (fun e ca w hne hq => hne hq.1) hs (fun i o ho x hx => dstsOk_spec hd o (by simpa using List.mem_of_getElem? (by simpa using ho)) x hx) post ms β (unborn l.toArray A a).x (fun i hi => (hA i hi).1) (fun i hi hk => ?_) (fun i hi => (hA i hi).2.2.1) (fun i hi j hj => ((hA i hi).2.2.2 j hj).imp (fun h => h) fun h => by simpa using h) _ pre bs _ hB (fun i hi o ho d hd' j hj e => ?_) (unborn l.toArray A a) (unborn l.toArray A a) β μ st ca _ rfl (fun _ _ _ => rfl) ?_ ((hi.pre (Pre.drew w)).le (unborn_le _ _ _)) h
  · have := (hA i hi).2.1
    rw [List.contains_eq_mem, decide_eq_false_iff_not] at this
    exact this hk
  · have h1 := hpd i hi
    rw [ho] at h1
    simp only [hd', List.contains_eq_mem, Bool.not_eq_true', decide_eq_false_iff_not, List.mem_map, not_exists, not_and] at h1
    exact h1 j hj e.symm
  · have hc : ∀ i ∈ A, (A.map (dOf l.toArray)).contains (dOf l.toArray i) = true := fun i hi => by
      rw [List.contains_iff_mem]; exact List.mem_map.2 ⟨i, hi, rfl⟩
    refine ⟨Le.refl _, fun i hi => ?_, fun i hi => ?_, fun i hi => ?_, fun j k o hp i hi e => ?_, fun i hi hl => ?_⟩
    · show cond _ _ _ = _; rw [hc i hi]; rfl
    · show cond _ _ _ = _; rw [hc i hi]; rfl
    · show cond _ _ _ = _; rw [hc i hi]; rfl
    · have hp : cond ((A.map (dOf l.toArray)).contains j) none (match a.p j with | some (k, o) => cond ((A.map (dOf l.toArray)).contains k) none (some (k, o)) | none => none) = some (k, o) := hp
      cases hcj : (A.map (dOf l.toArray)).contains j with
      | true => rw [hcj] at hp; cases hp
      | false =>
        rw [hcj] at hp
        simp only [cond_false] at hp
        split at hp
        · rename_i k' o' hpj
          cases hck : (A.map (dOf l.toArray)).contains k' with
          | true => rw [hck] at hp; cases hp
          | false =>
            rw [hck] at hp
            simp only [cond_false, Option.some.injEq, Prod.mk.injEq] at hp
            rw [hp.1, e, hc i hi] at hck; cases hck
        · cases hp
    · simp [Array.getD_eq_getD_getElem?, Array.getElem?_replicate] at hl
      split at hl <;> simp at hl
theorem c_dx {tb : Tb} [TbOk P tb] (K A pre : List Nat) (bs : List Bool) (post : List Nat) (ms : List Md) (hd : dstsOk N l = true) (hB : drawOkX tb N l.toArray K A pre bs post ms = true)
    (h : AXs P T st0 N K (A.map (dOf l.toArray)) (fun a' st' => AOps P T st0 N l.toArray (ACode P T st0 N y Q) ms (post.filterMap (l.toArray[·]?)) (born tb l.toArray A a') st') bs (pre.filterMap (l.toArray[·]?)) (unborn l.toArray A a) st) : ACode P T st0 N (.seq (.region id l.toArray true) y) Q a st :=
  c_seq (c_dx1 (tb := tb) K A pre bs post ms hd hB h)
end

section
variable {P : Program} {tb : Tb} [TbOk P tb] {T : Nat → Prop} {st0 : St} {N : Nat} {a : Aa} {st : St} {K : List Nat} {R : Aa → St → Prop}
variable {dst : Option Nat} {ty : Nat} {pos : String} {aft : Array Edge} {gd : Option (Nat × Bool)}
omit [TbOk P tb] in
theorem leafB_val {o : Oper} {T' : Nat → Prop} (v : AV) (st' : St) (hT : ∀ i, i < st0.n → T' i → T i)
    (h : ∀ μ0 w0 β μ w ca, Inv T μ0 st0 w0 N β a μ st w ca → ∃ cv μ' w', (execOp ca.eval o).run P w = .ok (.value cv) w' ∧ VR st'.n μ' v cv ∧ Rel μ' st' w' ∧ Stp T' μ st w μ' st' w')
    (hR : R (a.put o.dst (.v v)) st') : ALeafB P T st0 N K o R a st := by
  intro hd μ0 w0 β μ w ca a' hle hi Q'
  obtain ⟨cv, μ', w', hrun, hv, hr, hs⟩ := h μ0 w0 β μ w ca (hi.le hle)
  unfold Oper.wp
  rw [hrun]
  exact ⟨⟨hs.size, fun b ⟨k, _, hk, e⟩ hb => e ▸ hs.blk _ (hi.blt hk) fun i hi' _ hown => hi.bst k i hk hi' (Ob.live_of_own hown)⟩, v, μ', st', (hi.step hr hs hT).put (r := .v v) hd hv, hR⟩
/-- A call under a contract leaves the frame's boxes. -/
theorem b_call {x : Operand} {args : Array Operand} {types : Array Nat} {f : Nat} {cap : List AV} {T' : Nat → Prop} {Post : AV → St → Prop} (hx : av a x = .fn f cap) (h : ACalls P f (avs a args.toList ++ cap) st T' Post) (hT : ∀ i, i < st0.n → T' i → T i)
    (hR : ∀ v st', Post v st' → Ext T' st st' → R (a.put dst (.v v)) st') : ALeafB P T st0 N K ⟨dst, .call ⟨.value x, args, types⟩, ty, pos, aft, gd⟩ R a st := by
  intro hd μ0 w0 β μ w ca a' hle hi Q'
  obtain ⟨hgo, hc⟩ := h
  have hia := hi.le hle
  have hxv := av_vr hia x
  rw [hx] at hxv
  simp only [VR] at hxv
  obtain ⟨lc, hxe, hlc⟩ := hxv
  have hargs : VRL st.n μ (avs a args.toList ++ cap) (args.toList.map ca.eval ++ lc) := (avs_vr hia args.toList).append hlc
  have hrun : (execOp ca.eval ⟨dst, .call ⟨.value x, args, types⟩, ty, pos, aft, gd⟩).run P w = .ok (.enter f (args.toList.map ca.eval ++ lc).toArray) w := by
    unfold goes at hgo
    cases hf : P.funcs[f]? with
    | none => rw [hf] at hgo; cases hgo
    | some fn =>
      rw [hf] at hgo
      simp only [Bool.and_eq_true, Bool.not_eq_true'] at hgo
      obtain ⟨hb, hn⟩ := hgo
      have hb' : fn.body.isNone = false := by cases hbb : fn.body <;> simp_all
      have he : (args.map ca.eval ++ lc.toArray) = (args.toList.map ca.eval ++ lc).toArray := by
        cases args; simp
      have hn2 : ¬ fn.name = "runtime.NumGoroutine" := by simpa using hn
      have hb2 : ¬ fn.body = none := by intro hh; rw [hh] at hb; cases hb
      simp [execOp, resolve, hxe, Deferred.ofValue, invoke, callFunc, hf, hn2, hb2, he]
  unfold Oper.wp
  rw [hrun]
  refine (hc μ w _ hi.rel hargs).mono fun e w' hp => ?_
  obtain ⟨v, cv, μ', st', rfl, hv, hr, hs, hpost⟩ := hp
  have hi' := hi.step hr hs hT
  exact ⟨⟨hs.size, fun b ⟨k, _, hk, e⟩ hb => e ▸ hs.blk _ (hi.blt hk) fun i hi' _ hown => hi.bst k i hk hi' (Ob.live_of_own hown)⟩, v, μ', st', hi'.put (r := .v v) hd hv, hR v st' hpost hs.ext⟩
theorem b_bslice {t len : Nat} {parts : Array (Nat × Operand)} {e : Nat} {z : Z} {b : Nat} {l : List AV} (ht : elem1 tb t = some (e, z, b)) (hlen : len ≤ 16777216) (hl : setA (List.replicate len z.av) (partsA a parts.toList) = some l) (hone : ((partsA a parts.toList).all fun p => oneA p.2) = true)
    (hR : R (a.put dst (.v (.sl (some st.n) 0 len))) (st.push (.row true l))) : ALeafB P T st0 N K ⟨dst, .buildSlice t len parts, ty, pos, aft, gd⟩ R a st := by
  refine leafB_val _ _ no_T (fun μ0 w0 β μ w ca hi => ?_) hR
  obtain ⟨hu, hz1⟩ := elem1_ok (P := P) ht
  obtain ⟨inf, zv, e1, e2, e3, e4, e5, e6⟩ := one1_info (P := P) hz1
  obtain ⟨zc, hzc, hzg⟩ : ∃ cs : Array Value, (if len = 0 then #[] else zv.cells) = cs ∧ (0 < len → cs = zv.cells) := ⟨_, rfl, fun h => by rw [if_neg (by omega)]⟩
  have hbase : VRL st.n μ (List.replicate len z.av) ((Array.range len).map (zc[· % zc.size]!)).toList := by
    refine VRL.of_get (by simp) fun j hj => ?_
    have hj' : j < len := by simpa using hj
    have h1 := zeroRow_get zv.cells len j e5 hj'
    rw [hzg (by omega)]
    have h2 : ((Array.range len).map (zv.cells[· % zv.cells.size]!)).toList.getD j undef = ((Array.range len).map (zv.cells[· % zv.cells.size]!)).getD j undef := by rw [List.getD, Array.getD_eq_getD_getElem?, Array.getElem?_toList]
    rw [h2, h1]
    have : (List.replicate len z.av).getD j .junk = z.av := by simp [List.getD, hj']
    rw [this]
    exact e6 _ _
  obtain ⟨cs, hf, hv⟩ := setA_ok (partsA a parts.toList) (parts.map fun (p : Nat × Operand) => (p.1, ca.eval p.2)).toList (List.replicate len z.av) l ((Array.range len).map (zc[· % zc.size]!)) (fun j => some (j * 1, 1)) hl hbase
    (fun j hj => by simp) (by rw [partsA_map]; simp [List.map_map, Function.comp_def])
    (fun j p q hp hq => by
      rw [partsA_get] at hp
      have hq' : (parts.toList[j]?).map (fun (p : Nat × Operand) => (p.1, ca.eval p.2)) = some q := by simpa using hq
      cases hx : parts.toList[j]? with
      | none => rw [hx] at hp; cases hp
      | some x =>
        rw [hx] at hp hq'
        simp only [Option.map_some, Option.some.injEq] at hp hq'
        subst hp; subst hq'
        refine ⟨av_vr hi x.2, ?_⟩
        have := List.all_eq_true.1 hone (x.1, av a x.2) (List.mem_iff_getElem?.2 ⟨j, by rw [partsA_get, hx]; rfl⟩)
        exact this)
  have hvl := hv.length
  have hll : l.length = len := by
    have : ∀ (ps : List (Nat × AV)) (l s : List AV), setA l ps = some s → s.length = l.length := by
      intro ps
      induction ps with
      | nil => intro l s h; simp only [setA] at h; injection h with h; rw [h]
      | cons p ps ih =>
        obtain ⟨i, v⟩ := p
        intro l s h
        simp only [setA] at h
        cases hb : Nat.blt i l.length with
        | false => rw [hb] at h; simp at h
        | true => rw [hb] at h; simp only [cond_true] at h; rw [ih _ _ h, List.length_set]
    rw [this _ _ _ hl]; simp
  obtain ⟨r1, r2⟩ := push_row hi.rel (Pre.refl w) rfl (l := l) (cs := cs) (E := e) (by simp at hvl; omega) (fun j hj => by simpa using hv.get j)
  refine ⟨.slice (some ⟨w.heap.size, 0, none⟩) len len, _, _, ?_, ?_, r1, r2⟩
  · have hparts : (parts.map fun (x : Nat × Operand) => match x with | (i, x) => (i, ca.eval x)) = (parts.map fun (p : Nat × Operand) => (p.1, ca.eval p.2)) := rfl
    have hbig : ¬ 16777216 < len := by omega
    simp only [execOp, hparts]
    simp [-Array.toList_map, Instr.buildSlice, underlying, hu, sizeOf, typeInfo, e1, e2, hbig, newRow]
    split
    · rename_i h0
      subst h0
      have hf' := hf
      simp only [Nat.mul_one] at hf'
      have e0 : ∀ f : Nat → Value, (Array.range 0).map f = #[] := fun f => Array.eq_empty_of_size_eq_zero (by simp)
      rw [e0] at hf'
      simp [-Array.toList_map, e0, hf']
    · rename_i h0
      rw [hzg (by omega)] at hf
      simp only [Nat.mul_one] at hf
      simp [-Array.toList_map, zeroValue, typeInfo, e1, e4, hf]
  · simp only [VR]
    refine ⟨Nat.lt_succ_self _, _, len, rfl, Nat.le_refl _, .inr ?_⟩
    rw [upd_same]
    simp at hvl
    exact ⟨rfl, by simp; omega, by omega⟩

theorem b_ints {T : Nat → Prop} {t len : Nat} {parts : Array (Nat × Operand)} {e : Nat} (ys : List Int) (ht : elem1 tb t = some (e, .int .i64, 8)) (hlen : len ≤ 16777216) (hl : setA (List.replicate len (I 0)) (partsA a parts.toList) = some (ys.map I)) (hone : ((partsA a parts.toList).all fun p => oneA p.2) = true) (hn : len = ys.length)
    (hR : ∀ q st', Fr st.n st' (some q) ys → Ex st st' → R (a.put dst (.v (.sl (some q) 0 ys.length))) st') : ALeafB P T st0 N K ⟨dst, .buildSlice t len parts, ty, pos, aft, gd⟩ R a st := by
  subst hn
  exact b_bslice (l := ys.map I) ht hlen hl hone (hR st.n _ (fr_push st ys) (ex_push _ _))
theorem b_blk {T : Nat → Prop} {t len : Nat} {parts : Array (Nat × Operand)} {e : Nat} {z : Z} {b : Nat} (l : List AV) (ht : elem1 tb t = some (e, z, b)) (hlen : len ≤ 16777216) (hl : setA (List.replicate len z.av) (partsA a parts.toList) = some l) (hone : ((partsA a parts.toList).all fun p => oneA p.2) = true)
    (hR : ∀ q st', st.n ≤ q → q < st'.n → (∀ j, cell st' (some q) j = l[j]?) → Ex st st' → R (a.put dst (.v (.sl (some q) 0 len))) st') : ALeafB P T st0 N K ⟨dst, .buildSlice t len parts, ty, pos, aft, gd⟩ R a st :=
  b_bslice ht hlen hl hone (hR st.n _ (Nat.le_refl _) (Nat.lt_succ_self _) (fun j => cell_row (st := st.push (.row true l)) (i := st.n) (Nat.lt_succ_self _) (push_ob _ _) j) (ex_push _ _))
omit [TbOk P tb] in
theorem x_assign {x : Operand} {r : RV} (h : mvA a x = some r) : AQX P T st0 N K ⟨dst, .assign x, ty, pos, aft, gd⟩ r a st := by
  intro μ0 w0 β μ w ca hi
  rw [mvA_eq h]
  exact ⟨ca.eval x, rv_rr hi x, fun w' _ => by simp [execOp]⟩
omit [TbOk P tb] in
theorem x_bin {op : BinOp} {t : Nat} {x y : Operand} {yt : Nat} {v : AV} (hv : binA op (av a x) (av a y) = some v) : AQX P T st0 N K ⟨dst, .binOp op t x y yt, ty, pos, aft, gd⟩ (.v v) a st := by
  intro μ0 w0 β μ w ca hi
  have hx := av_vr hi x
  have hy := av_vr hi y
  obtain ⟨c, h1, h2⟩ := binA_ok hv hx hy
  refine ⟨c, h1, fun w' _ => ?_⟩
  have hg : (eqGuard op t x y (ca.eval x) (ca.eval y)).run P w' = .ok () w' := by
    have : (∃ k n, ca.eval x = .int k n) ∨ ∃ s, ca.eval x = .string s := by
      cases hxa : av a x <;> rw [hxa] at hv hx <;> simp only [binA] at hv <;> try (cases hv; done)
      · simp only [VR] at hx; exact .inl ⟨_, _, hx⟩
      · simp only [VR] at hx; exact .inr ⟨_, hx⟩
    rcases this with ⟨k, n, e⟩ | ⟨s, e⟩
    · rw [e]; exact eqGuard_int op t x y k n _ w'
    · rw [e]; exact eqGuard_str op t x y s _ w'
  simp only [execOp, Sem.run_bind, hg, Result.andThen_ok, h2, Sem.run_pure]
omit [TbOk P tb] in
theorem x_ar {op : BinOp} {t yt : Nat} {x y : Operand} {m' n' z : Int} (hx : av a x = .int .i64 m') (hy : av a y = .int .i64 n') (hz : arA op m' n' = some z) (h0 : -9223372036854775808 ≤ z) (h1 : z ≤ 9223372036854775807) : AQX P T st0 N K ⟨dst, .binOp op t x y yt, ty, pos, aft, gd⟩ (.v (.int .i64 z)) a st := by
  have hw : IntKind.i64.wrap z = z := by rw [IntKind.wrap_i64]; omega
  refine x_bin ?_
  unfold arA at hz
  split at hz <;> first | (cases hz; done) | (injection hz with hz; subst hz; simp [hx, hy, binA, kidx, hw])
omit [TbOk P tb] in
theorem x_extract {x : Operand} {i : Nat} {r : RV} (h : run1 tb a (.extract x i) = some r) : AQX P T st0 N K ⟨dst, .extract x i, ty, pos, aft, gd⟩ r a st := by
  intro μ0 w0 β μ w ca hi
  have hx := av_vr hi x
  simp only [run1] at h
  split at h
  · rename_i l hl
    rw [hl] at hx
    simp only [VR] at hx
    obtain ⟨cs, hx, hv⟩ := hx
    obtain ⟨cv, cs', e1, v, e2, e3⟩ := headA_ok h (hv.drop i)
    subst e2
    refine ⟨cv, e3, fun w' _ => ?_⟩
    have hcs : cs[i]? = some cv := by
      have : (cs.drop i)[0]? = some cv := by rw [e1]; rfl
      simpa using this
    simp [execOp, hx, Instr.extract, hcs]
  · cases h
theorem x_len {c : Call} {r : RV} (h : run1 tb a (.call c) = some r) : AQX P T st0 N K ⟨dst, .call c, ty, pos, aft, gd⟩ r a st := by
  intro μ0 w0 β μ w ca hi
  obtain ⟨callee, args, types⟩ := c
  simp only [run1] at h
  split at h
  · split at h
    · split at h
      · rename_i x t hx ht
        have ha : args = #[x] := by cases args; simp at hx; simp [hx]
        have hty : types = #[t] := by cases types; simp at ht; simp [ht]
        subst ha; subst hty
        have hv := av_vr hi x
        split at h
        · rename_i i hi'
          split at h
          · rename_i e _ _ n hk hn
            rw [hn] at hv
            injection h with h
            subst h
            have : ∃ A c, ca.eval x = .slice A n c := by
              rename_i r' o'
              cases r' with
              | none => simp only [VR] at hv; obtain ⟨_, h0, A, hA⟩ := hv; exact ⟨A, 0, by rw [hA, h0]⟩
              | some q => simp only [VR] at hv; obtain ⟨_, A, c, hv, _⟩ := hv; exact ⟨some A, c, hv⟩
            obtain ⟨A, c, hv⟩ := this
            exact ⟨.int .i64 n, by simp [RR, VR], fun w' _ => by simp [execOp, resolve, invoke, builtin, hv, run_len_slice (P := P) hi' hk]⟩
          · rename_i s hk hn
            rw [hn] at hv
            simp only [VR] at hv
            injection h with h
            subst h
            exact ⟨.int .i64 s.size, by simp [RR, VR], fun w' _ => by simp [execOp, resolve, invoke, builtin, hv, run_len_str (P := P) hi' hk]⟩
          · cases h
        · cases h
      · cases h
    · cases h
  · cases h
variable {Q : Aa → St → Prop} {ds : List Nat}
/-- What reads boxes, so many at once. -/
def runY (tb : Tb) (K ds : List Nat) : Nat → List Bool → List Oper → Aa → Option (List Bool × List Oper × Aa)
  | 0, bs, l, a => some (bs, l, a)
  | n + 1, bs, l, a => match l with
    | [] => none
    | o :: l =>
      match o.guard, bs.headD false with
      | none, false =>
        match o.op with
        | .move x => (match mvA a x with | some r => cond (lpOk ds r) (runY tb K ds n bs.tail l (a.put o.dst r)) none | none => none)
        | .assign x => (match mvA a x with | some r => cond (lpOk ds r) (runY tb K ds n bs.tail l (a.put o.dst r)) none | none => none)
        | .load t x => (match rv a x with
          | .lp k _ => cond (K.contains k) (match run1 tb a (.load t x) with | some r => cond (lpOk ds r) (runY tb K ds n bs.tail l (a.put o.dst r)) none | none => none) none
          | _ => none)
        | .fieldAddr t x f => (match rv a x with
          | .lp k of => (match structN tb t with | some m => cond (Nat.blt f m) (cond (lpOk ds (.lp k (of + f))) (runY tb K ds n bs.tail l (a.put o.dst (.lp k (of + f)))) none) none | none => none)
          | _ => none)
        | .extract x i => (match run1 tb a (.extract x i) with | some r => cond (lpOk ds r) (runY tb K ds n bs.tail l (a.put o.dst r)) none | none => none)
        | .call c => (match run1 tb a (.call c) with | some r => cond (lpOk ds r) (runY tb K ds n bs.tail l (a.put o.dst r)) none | none => none)
        | _ => none
      | _, _ => none
theorem y_run : ∀ (n : Nat) {bs bs' : List Bool} {l l' : List Oper} {a a' : Aa} {st : St}, runY tb K ds n bs l a = some (bs', l', a') → AXs P T st0 N K ds Q bs' l' a' st → AXs P T st0 N K ds Q bs l a st
  | 0, bs, bs', l, l', a, a', st, h, hq => by
    simp only [runY, Option.some.injEq, Prod.mk.injEq] at h
    obtain ⟨rfl, rfl, rfl⟩ := h
    exact hq
  | n + 1, bs, bs', [], l', a, a', st, h, hq => by simp [runY] at h
  | n + 1, bs, bs', ⟨dst, op, ty, pos, aft, gd⟩ :: l, l', a, a', st, h, hq => by
    simp only [runY] at h
    cases gd with
    | some g => cases h
    | none =>
      cases hb : bs.headD false with
      | true => rw [hb] at h; cases h
      | false =>
        rw [hb] at h
        have go : ∀ {r : RV}, AQX P T st0 N (kBox K ⟨dst, op, ty, pos, aft, none⟩) ⟨dst, op, ty, pos, aft, none⟩ r a st → cond (lpOk ds r) (runY tb K ds n bs.tail l (a.put dst r)) none = some (bs', l', a') → AXs P T st0 N K ds Q bs (⟨dst, op, ty, pos, aft, none⟩ :: l) a st := fun {r} h1 h2 => by
          cases hlp : lpOk ds r with
          | false => rw [hlp] at h2; cases h2
          | true =>
            rw [hlp] at h2
            refine ⟨rfl, ?_⟩
            rw [hb]
            exact ⟨r, hlp, h1, y_run n h2 hq⟩
        cases op
        case move x =>
          simp only at h
          split at h
          · rename_i r hr
            exact go (x_move hr) h
          · cases h
        case assign x =>
          simp only at h
          split at h
          · rename_i r hr
            exact go (x_assign hr) h
          · cases h
        case load t x =>
          simp only at h
          split at h
          · rename_i k o hk
            cases hc : K.contains k with
            | false => rw [hc] at h; cases h
            | true =>
              rw [hc] at h
              simp only [cond_true] at h
              split at h
              · rename_i r hr
                exact go (x_load hr (by rw [hk]; exact hc)) h
              · cases h
          · cases h
        case fieldAddr t x f =>
          simp only at h
          split at h
          · rename_i k o hk
            split at h
            · rename_i m hm
              cases hc : Nat.blt f m with
              | false => rw [hc] at h; cases h
              | true =>
                rw [hc] at h
                exact go (x_field hk hm hc) h
            · cases h
          · cases h
        case extract x i =>
          simp only at h
          split at h
          · rename_i r hr
            exact go (x_extract hr) h
          · cases h
        case call c =>
          simp only at h
          split at h
          · rename_i r hr
            exact go (x_len hr) h
          · cases h
        all_goals (simp only at h; cases h)
theorem y_op {o : Oper} {l : List Oper} {bs : List Bool} {r : RV} (hg : o.guard = none) (hb : bs.headD false = false) (hr : lpOk ds r = true) (h : AQX P T st0 N (kBox K o) o r a st) (hq : AXs P T st0 N K ds Q bs.tail l (a.put o.dst r) st) : AXs P T st0 N K ds Q bs (o :: l) a st := ⟨hg, by rw [hb]; exact ⟨r, hr, h, hq⟩⟩
theorem y_b {o : Oper} {l : List Oper} {bs : List Bool} (hg : o.guard = none) (hb : bs.headD false = true) (h : ALeafB P T st0 N K o (AXs P T st0 N K ds Q bs.tail l) a st) : AXs P T st0 N K ds Q bs (o :: l) a st := ⟨hg, by rw [hb]; exact h⟩
theorem y_end {bs : List Bool} (h : Q a st) : AXs P T st0 N K ds Q bs [] a st := h
end
end Go.Proofs.YtfnfiapacbeemaaW.Ax
