/- Rows of bytes: a law's argument that is one, a row of a store that is only read; cursors over it. -/
import Derived.Test.YtmphklmhhcmbnaaDoorXw
namespace Go.Proofs.YtmphklmhhcmbnaaDoorW.Ax
open Go Go.RowKit Go.ChangeShapes Go.WideShapes Go.ChangeAt Go.Joins Go.Deep
set_option linter.unusedVariables false

/-- A row of bytes in the store. -/
def AtB (st : St) (r : Option Nat) (o : Nat) (xs : List Int) : Prop := ∀ j, j < xs.length → cell st r (o + j) = some (B8 (xs.getD j 0))
theorem AtB.rd {st : St} {r : Option Nat} {o : Nat} {xs : List Int} (h : AtB st r o xs) {i : Int} (h0 : 0 ≤ i) (h1 : i < xs.length) : cell st r (o + i.toNat) = some (B8 (Ax.rd xs i)) := h i.toNat (by omega)
theorem AtB.ext {st : St} {T' : Nat → Prop} {st' : St} {r : Option Nat} {o : Nat} {xs : List Int} (h : AtB st r o xs) (he : Ext T' st st') (hn : ∀ i, r = some i → ¬ T' i) : AtB st' r o xs := fun j hj => cell_ext he (h j hj) hn
theorem AtB.ex {st st' : St} {r : Option Nat} {o : Nat} {xs : List Int} (h : AtB st r o xs) (he : Ex st st') : AtB st' r o xs := h.ext he fun _ _ h => h
/-- Bytes. -/
def U8 (l : List Int) : Prop := ∀ x ∈ l, 0 ≤ x ∧ x ≤ 255
theorem U8.rd {l : List Int} (h : U8 l) {i : Int} (h0 : 0 ≤ i) (h1 : i < l.length) : 0 ≤ Ax.rd l i ∧ Ax.rd l i ≤ 255 := by
  refine h _ ?_
  unfold Ax.rd
  have : i.toNat < l.length := by omega
  simp [List.getD, this]

/-- A slice of bytes that came in. -/
structure CameB (w : World) (v : Value) (b : Bool) (L : Loc) (o : Ob) (l : List Int) : Prop where
  own : o.own = false
  obr : ∀ n μ, ObR n μ w L o
  vr : ∀ n μ (i : Nat), i < n → μ i = L → VR n μ (.sl (cond b (some i) none) 0 l.length) v
  at_ : ∀ st (i : Nat), i < st.n → st.ob i = o → AtB st (cond b (some i) none) 0 l
  u8 : U8 l
  len : l.length ≤ 9223372036854775807
theorem atB_row {st : St} {i : Nat} {own : Bool} {l : List Int} (hi : i < st.n) (ho : st.ob i = .row own (l.map B8)) : AtB st (some i) 0 l := fun j hj => by
  rw [cell_row hi ho, Nat.zero_add]
  simp [List.getD, hj]

section
variable {P : Program} {w : World} {H : Type} {enc : TypeId × Value → H}
theorem u8_of {x : Int} (h : (Lit.int .u8 x).wf = true) : 0 ≤ x ∧ x ≤ 255 := by
  have h : (decide (IntKind.u8.min ≤ x) && decide (x ≤ IntKind.u8.max)) = true := h
  rw [show IntKind.u8.min = 0 by rfl, show IntKind.u8.max = 255 by rfl, Bool.and_eq_true, decide_eq_true_eq, decide_eq_true_eq] at h
  exact h
theorem cameB_of_trod {t e : TypeId} {n : Nat} {v : Value} {y : DataW H × List MemPlace} (ht : P.underlying t = some (.slice e)) (he : P.underlying e = some (.int .u8)) (hc : P.cellsOf e = 1)
    (h : DataW.trod enc P w 0 (fun _ => true) true n t [v] = some y) : ∃ b L o l, CameB w v b L o l := by
  rcases open_ints ht he hc h with ⟨hcs, _⟩ | ⟨a, len, cap, zs, hcs, _, hl, hm, hz, _, hcell, hwz⟩
  · injection hcs with hcs _
    subst hcs
    exact ⟨false, ⟨0, 0, 0⟩, .dead, [], rfl, fun _ _ => trivial, fun _ _ _ _ _ => ⟨rfl, rfl, none, rfl⟩, fun _ _ _ _ j hj => by simp at hj, fun x hx => by simp at hx, by simp⟩
  · injection hcs with hcs _
    subst hcs
    have hzl : zs.length = cap := by simpa using hz
    have hlen : (zs.take len).length = len := by simp; omega
    have hw : U8 (zs.take len) := fun x hx => u8_of (hwz x (List.mem_of_mem_take hx))
    have hmm : (zs.take len).length ≤ 9223372036854775807 := by rw [hlen]; simp [maxLen] at hm; omega
    rcases Nat.eq_zero_or_pos cap with hcz | hcz
    · have hnil : zs.take len = [] := List.eq_nil_of_length_eq_zero (by omega)
      have hl0 : len = 0 := by omega
      subst hl0
      refine ⟨true, ⟨a.block, a.off, a.off + cap⟩, .dead, zs.take 0, rfl, fun _ _ => trivial, fun n μ i hi hL => ?_, fun st i hi ho j hj => by simp at hj, hw, hmm⟩
      exact ⟨hi, a, cap, rfl, by omega, .inl hcz⟩
    · obtain ⟨ab, ao, asp⟩ := a
      have hsp : asp = none := by
        have := hcell 0 (by omega)
        simp only [World.cell?, Addr.add, if_true] at this
        cases asp with
        | none => rfl
        | some s => simp at this; split at this <;> cases this
      subst hsp
      have key : ∀ i, i < cap → ∃ cs E fz, w.heap[ab]? = some (.cells cs E fz) ∧ cs[ao + i]? = some (.int .u8 (zs.getD i 0)) := fun i hi => by
        have := hcell i (by omega)
        rw [show (⟨ab, ao, none⟩ : Addr).add i = ⟨ab, ao + i, none⟩ by unfold Addr.add; split <;> simp_all] at this
        simp only [World.cell?] at this
        split at this
        · rename_i cs E fz hh
          exact ⟨cs, E, fz, hh, by simpa using this⟩
        · cases this
      obtain ⟨cs, E, fz, hh, h1⟩ := key (cap - 1) (by omega)
      have hsz := (Array.getElem?_eq_some_iff.1 h1).1
      refine ⟨true, ⟨ab, ao, ao + cap⟩, .row false ((zs.take len).map B8), zs.take len, rfl, fun n μ => ⟨cs, E, fz, hh, fun h => by simp at h, by rw [List.length_map, hlen]; dsimp only; omega, by dsimp only; omega, fun j hj => ?_⟩, fun n μ i hi hL => ?_, fun st i hi ho => atB_row hi ho, hw, hmm⟩
      · rw [List.length_map, hlen] at hj
        obtain ⟨cs', E', fz', hh', h2⟩ := key j (by omega)
        rw [hh] at hh'
        injection hh' with hh'
        injection hh' with e1 e2 e3
        subst e1
        have e4 : ((zs.take len).map B8).getD j .junk = B8 (zs.getD j 0) := by
          simp [List.getD, hj, List.getElem?_eq_getElem (show j < zs.length by omega)]
        rw [e4, Array.getD_eq_getD_getElem?, h2]
        rfl
      · show VR n μ (.sl (some i) 0 _) _
        rw [hlen]
        refine ⟨hi, ⟨ab, ao, none⟩, cap, rfl, hl, .inr ?_⟩
        rw [hL]
        exact ⟨rfl, by dsimp only; omega, by simp [maxLen] at hm; omega⟩
theorem cameB_of_arg {r : Reach} {b0 : Nat} {t e : TypeId} {v : Value} {d : DataW H} {p : List MemPlace} (ht : P.underlying t = some (.slice e)) (he : P.underlying e = some (.int .u8)) (hc : P.cellsOf e = 1)
    (hv : Value.okWide P w r b0 t v) (h : DataW.Trod enc P w 0 (fun _ => true) true t v d p) : ∃ b L o l, CameB w v b L o l := by
  obtain ⟨a, len, cap, rfl⟩ := okWide_slice ht hv
  obtain ⟨n, hn⟩ := h
  exact cameB_of_trod ht he hc (by simpa [Value.cells] using hn)
end
end Go.Proofs.YtmphklmhhcmbnaaDoorW.Ax
