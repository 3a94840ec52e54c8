/- What the operations yield that only read a frame: the law. -/
import Derived.Test.YtmphklmhhcmbnaaXd
import Derived.Laws.Rows
import Derived.Laws.Cells
namespace Go.Proofs.YtmphklmhhcmbnaaW.Ax
open Go Go.RowKit
set_option linter.unusedVariables false
set_option linter.unusedSimpArgs false

def headA (l : List AV) : Option RV := match l with | v :: _ => seen v | [] => none
def takeA : Nat → List AV → Option (List AV)
  | 0, _ => some []
  | n + 1, l => match l with | v :: r => (match takeA n r with | some s => some (v :: s) | none => none) | [] => none
theorem takeA_eq : ∀ (n : Nat) (l s : List AV), takeA n l = some s → s = l.take n ∧ n ≤ l.length
  | 0, l, s, h => by simp [takeA] at h; simp [← h]
  | n + 1, [], s, h => by simp [takeA] at h
  | n + 1, v :: r, s, h => by
    simp only [takeA] at h
    cases hh : takeA n r with
    | none => rw [hh] at h; cases h
    | some u =>
      rw [hh] at h
      injection h with h
      obtain ⟨h1, h2⟩ := takeA_eq n r u hh
      subst h
      simp [h1, h2]
def structN (tb : Tb) (t : Nat) : Option Nat := match look tb t with | some i => (match i.k with | .struct n => some n | _ => none) | none => none
def setA : List AV → List (Nat × AV) → Option (List AV)
  | l, [] => some l
  | l, (i, v) :: r => match (cond (Nat.blt i l.length) (some (l.set i v)) none) with | some l' => setA l' r | none => none
def partsA (a : Aa) : List (Nat × Operand) → List (Nat × AV)
  | [] => []
  | (i, x) :: r => (i, av a x) :: partsA a r
def oneA : AV → Bool
  | .int _ _ | .bool _ | .str _ | .sl _ _ _ | .ptr _ _ | .map _ | .fn _ _ => true
  | _ => false

def run1 (tb : Tb) (a : Aa) (op : Op) : Option RV :=
  match op with
  | .move x => mvA a x
  | .assign x => mvA a x
  | .pick c x y =>
    match av a c with
    | .bool b =>
      match av a x, av a y with
      | .bool p, .bool q => some (.v (.bool (cond b p q)))
      | .bool p, _ => cond b (some (.v (.bool p))) none
      | _, .bool q => cond b none (some (.v (.bool q)))
      | _, _ => none
    | _ => none
  | .unOp u _ x =>
    match u with
    | .not => (match av a x with | .bool b => some (.v (.bool (!b))) | _ => none)
    | _ => none
  | .binOp op _ x y _ => match binA op (av a x) (av a y) with | some v => some (.v v) | none => none
  | .load t x =>
    match rv a x with
    | .lp k o =>
      match a.x k with
      | some l =>
        match look tb t with
        | some i => cond i.agg (match takeA i.zero.length (l.drop o) with | some s => some (.v (.agg s)) | none => none) (headA (l.drop o))
        | none => none
      | none => none
    | _ => none
  | .fieldAddr t x f =>
    match rv a x with
    | .lp k o => match structN tb t with | some n => cond (Nat.blt f n) (some (.lp k (o + f))) none | none => none
    | .v (.ptr r o) => match structN tb t with | some n => cond (Nat.blt f n) (some (.v (.ptr r (o + f)))) none | none => none
    | _ => none
  | .field t x f =>
    match av a x with
    | .agg l => match structN tb t with | some n => cond (Nat.blt f n) (headA (l.drop f)) none | none => none
    | _ => none
  | .nilCheck x =>
    match rv a x with
    | .lp k o => some (.lp k o)
    | .v (.ptr r o) => some (.v (.ptr r o))
    | _ => none
  | .extract x i => match av a x with | .tup l => headA (l.drop i) | _ => none
  | .convert s d x =>
    match av a x with
    | .int k n =>
      match look tb s with
      | some _ => (match look tb d with | some i => (match i.k with | .int j => some (.v (.int j (j.wrap n))) | _ => none) | none => none)
      | none => none
    | _ => none
  | .makeFunc f first cap =>
    match f with
    | .func f => (match first.toList with | [] => some (.v (.fn f (avs a cap.toList))) | _ => none)
    | _ => none
  | .build t parts =>
    match structN tb t with
    | some n => (match look tb t with | some i => cond (Nat.beq i.zero.length n && (partsA a parts.toList).all fun p => oneA p.2) (match setA (i.zero.map Z.av) (partsA a parts.toList) with | some l => some (.v (.agg l)) | none => none) none | none => none)
    | none => none
  | .call c =>
    match c.callee with
    | .builtin b =>
      match b with
      | .len =>
        match c.args.toList, c.argTypes.toList with
        | [x], [t] =>
          match look tb t with
          | some i =>
            match i.k, av a x with
            | .slice _, .sl _ _ n => some (.v (.int .i64 n))
            | .str, .str s => some (.v (.int .i64 s.size))
            | _, _ => none
          | none => none
        | _, _ => none
      | _ => none
    | _ => none
  | _ => none

section
variable {P : Program} {tb : Tb} [TbOk P tb] {T : Nat → Prop} {μ0 : Nat → Loc} {st0 : St} {w0 : World} {N : Nat} {β : Nat → Nat} {a : Aa} {μ : Nat → Loc} {st : St} {w : World} {ca : Act}

theorem VR.one {n : Nat} {μ : Nat → Loc} {v : AV} {cv : Value} (h : VR n μ v cv) (ho : oneA v = true) : cv.oneCell' = true ∧ cv.cells = #[cv] := by
  cases v <;> simp only [oneA] at ho <;> try (cases ho; done)
  case sl r o m =>
    cases r with
    | none => simp only [VR] at h; rw [h.2.2]; exact ⟨rfl, rfl⟩
    | some r => simp only [VR] at h; obtain ⟨_, A, c, rfl, _⟩ := h; exact ⟨rfl, rfl⟩
  case ptr r o =>
    cases r with
    | none => simp [VR] at h
    | some r => simp only [VR] at h; rw [h.2]; exact ⟨rfl, rfl⟩
  case map r => simp only [VR] at h; rw [h.2]; exact ⟨rfl, rfl⟩
  case fn f c => simp only [VR] at h; obtain ⟨l, rfl, _⟩ := h; exact ⟨rfl, rfl⟩
  all_goals (simp only [VR] at h; rw [h]; exact ⟨rfl, rfl⟩)

theorem headA_ok {n : Nat} {μ : Nat → Loc} {l : List AV} {cs : List Value} {r : RV} (h : headA l = some r) (hv : VRL n μ l cs) : ∃ cv cs', cs = cv :: cs' ∧ ∃ v, r = .v v ∧ VR n μ v cv := by
  cases l with
  | nil => cases h
  | cons v rest =>
    simp only [VRL] at hv
    obtain ⟨cv, cs', rfl, h1, _⟩ := hv
    exact ⟨cv, cs', rfl, v, seen_eq h, h1⟩
theorem VRL.drop {n : Nat} {μ : Nat → Loc} : ∀ (k : Nat) {l : List AV} {cs : List Value}, VRL n μ l cs → VRL n μ (l.drop k) (cs.drop k)
  | 0, _, _, h => by simpa using h
  | k + 1, [], cs, h => by simp only [VRL] at h; subst h; simp [VRL]
  | k + 1, v :: l, cs, h => by
    simp only [VRL] at h
    obtain ⟨cv, cs', rfl, _, h2⟩ := h
    simpa using VRL.drop k h2
theorem VRL.take {n : Nat} {μ : Nat → Loc} : ∀ (k : Nat) {l : List AV} {cs : List Value}, VRL n μ l cs → VRL n μ (l.take k) (cs.take k)
  | 0, _, _, h => by simp [VRL]
  | k + 1, [], cs, h => by simp only [VRL] at h; subst h; simp [VRL]
  | k + 1, v :: l, cs, h => by
    simp only [VRL] at h
    obtain ⟨cv, cs', rfl, h1, h2⟩ := h
    simp only [List.take_succ_cons, VRL]
    exact ⟨cv, _, rfl, h1, VRL.take k h2⟩

/-- A load out of a row of cells. -/
theorem run_loadAt {t : Nat} {i : TyI} (ht : look tb t = some i) (w : World) (g o : Nat) (cs : Array Value) (E : Nat) (fz : Nat × Nat) (hg : w.heap[g]? = some (.cells cs E fz)) (v : Value)
    (h : if i.agg = true then i.zero.length ≤ (cs.toList.drop o).length ∧ v = .agg ((cs.toList.drop o).take i.zero.length).toArray else (cs.toList.drop o).head? = some v) :
    (Instr.loadAt t (.pointer (some ⟨g, o, none⟩))).run P w = .ok v w := by
  have hT := tyR (P := P) ht
  have hc : ∀ j, w.cell? ⟨g, j, none⟩ = cs[j]? := fun j => cell_of_row w g j cs E fz hg
  simp only [Instr.loadAt, Instr.sureAddr, pure_bind, loadVar, Sem.run_bind, hT.agg w, Result.andThen_ok]
  cases ha : i.agg with
  | true =>
    rw [ha] at h
    simp only [if_true] at h
    obtain ⟨h1, rfl⟩ := h
    have hl : (loadCells ⟨g, o, none⟩ ((cs.toList.drop o).take i.zero.length).length).run P w = .ok ((cs.toList.drop o).take i.zero.length).toArray w :=
      run_loadCells_list (P := P) w ⟨g, o, none⟩ _ (fun j v hv => by
        rw [Addr.add_lit, hc]
        rw [List.getElem?_take] at hv
        split at hv
        · simpa using hv
        · cases hv)
    have h2 : ((cs.toList.drop o).take i.zero.length).length = i.zero.length := by rw [List.length_take]; omega
    rw [h2] at hl
    simp [hT.size w, hl]
  | false =>
    rw [ha] at h
    simp only [Bool.false_eq_true, if_false] at h ⊢
    have h3 : cs[o]? = some v := by simpa [List.head?_drop] using h
    simp [hc, h3]

theorem run_fieldAt {t n f : Nat} (hs : structN tb t = some n) (hf : f < n) (w : World) (g o : Nat) : (Instr.fieldAt t (.pointer (some ⟨g, o, none⟩)) f).run P w = .ok (.pointer (some ⟨g, o + f, none⟩)) w := by
  unfold structN at hs
  cases hl : look tb t with
  | none => rw [hl] at hs; cases hs
  | some i =>
    rw [hl] at hs
    simp only at hs
    cases hk : i.k <;> rw [hk] at hs <;> simp only at hs <;> try (cases hs; done)
    injection hs with hs
    subst hs
    obtain ⟨fs, h1, h2, h3⟩ := (tyR (P := P) hl).struct hk
    have hfl : f < fs.size := by omega
    obtain ⟨e1, ⟨inf, e2, e3⟩, _⟩ := h3 f fs[f] (by simp [hfl])
    have hget : fs[f]? = some fs[f] := by simp [hfl]
    simp [Instr.fieldAt, underlying, h1, hget, Instr.sureAddr, fieldPlace, sizeOf, typeInfo, e2, e3, e1, Addr.add_lit]

theorem run_len_slice {t n c : Nat} {A : Option Addr} {i : TyI} {e : Nat} (ht : look tb t = some i) (hk : i.k = .slice e) (w : World) (ty : TypeId) : (Builtin.len_ #[t] ty #[.slice A n c]).run P w = .ok (.int .i64 n) w := by
  have := (tyR (P := P) ht).und_of.2.2.2.1 e hk
  simp [Builtin.len_, underlying, this, goInt]
theorem run_len_str {t : Nat} {s : ByteArray} {i : TyI} (ht : look tb t = some i) (hk : i.k = .str) (w : World) (ty : TypeId) : (Builtin.len_ #[t] ty #[.string s]).run P w = .ok (.int .i64 s.size) w := by
  have := (tyR (P := P) ht).und_of.2.2.1 hk
  simp [Builtin.len_, underlying, this, goInt]

theorem setA_ok {n : Nat} {μ : Nat → Loc} : ∀ (ps : List (Nat × AV)) (cps : List (Nat × Value)) (l s : List AV) (cs : Array Value) (place : Nat → Option (Nat × Nat)), setA l ps = some s → VRL n μ l cs.toList →
    (∀ i, i < l.length → place i = some (i, 1)) → (ps.map (·.1) = cps.map (·.1)) → (∀ (j : Nat) p q, ps[j]? = some p → cps[j]? = some q → VR n μ p.2 q.2 ∧ oneA p.2 = true) →
    ∃ cs' : Array Value, Instr.fill place cs cps = some cs' ∧ VRL n μ s cs'.toList
  | [], [], l, s, cs, place, h, hv, hp, hm, hps => by
    simp only [setA] at h
    injection h with h
    subst h
    exact ⟨cs, rfl, hv⟩
  | [], q :: r, l, s, cs, place, h, hv, hp, hm, hps => by simp at hm
  | p :: r, [], l, s, cs, place, h, hv, hp, hm, hps => by simp at hm
  | (i, v) :: r, (i', cv) :: cr, l, s, cs, place, h, hv, hp, hm, hps => by
    simp only [List.map_cons, List.cons.injEq] at hm
    obtain ⟨rfl, hm⟩ := hm
    simp only [setA] at h
    cases hb : Nat.blt i l.length with
    | false => rw [hb] at h; simp at h
    | true =>
      rw [hb] at h
      simp only [cond_true] at h
      have hi : i < l.length := Nat.le_of_ble_eq_true hb
      have h0 := hps 0 _ _ rfl rfl
      have hone := h0.1.one h0.2
      have hsz : cs.size = l.length := by have := hv.length; simpa using this
      have hv' : VRL n μ (l.set i v) (cs.setIfInBounds i cv).toList := by
        rw [Array.toList_setIfInBounds]
        exact hv.set i h0.1
      obtain ⟨cs', h1, h2⟩ := setA_ok r cr (l.set i v) s (cs.setIfInBounds i cv) place h hv' (fun j hj => hp j (by simpa using hj)) hm (fun j p q hp hq => hps (j + 1) p q (by simpa using hp) (by simpa using hq))
      refine ⟨cs', ?_, h2⟩
      simp only [Instr.fill, hp i hi, hone.2]
      rw [if_neg (by simp; omega)]
      simpa using h1
end
end Go.Proofs.YtmphklmhhcmbnaaW.Ax
