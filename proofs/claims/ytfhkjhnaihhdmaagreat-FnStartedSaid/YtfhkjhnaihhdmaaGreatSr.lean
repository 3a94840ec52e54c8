/- slices.Sort: the library's contract, laid, and told of the abstract store. -/
import Derived.Test.YtfhkjhnaihhdmaaGreatXU
import Derived.Ground.NamesProg
import Derived.Shelf.Lay
import Derived.Shelf.Sort.Plain
import Derived.Shelf.Slices.In.SortNone
namespace Go.Proofs
open Go.Shelf Go.Lib Go.RowKit

shelf_lay Lays.n189 Nm 189 at Tryz as Tryz.laysSort
end Go.Proofs
namespace Go.Proofs.YtfhkjhnaihhdmaaGreatW.Ax
open Go Go.RowKit Go.Proofs Go.Sort
set_option linter.unusedVariables false
/-- A row in order. -/
def srtL (l : List Int) : List Int := l.mergeSort fun x y => decide (x ≤ y)
theorem srt_len (l : List Int) : (srtL l).length = l.length := List.length_mergeSort _
def SoP (n0 : Nat) (st : St) (r : Option Nat) (l : List Int) : AV → St → Prop := fun v st' => v = .tup [] ∧ Fr n0 st' r l ∧ Ext (fun i => r = some i) st st'
theorem put_heap {w : World} {blk off : Nat} {d : Array Int} {c : Array Value} {e : TypeId} {fz : Nat × Nat} (h : w.heap[blk]? = some (.cells c e fz)) : (putRow (Value.int .i64) w blk off d).heap[blk]? = some (.cells (putCells (Value.int .i64) off d c) e fz) := by
  simp [putRow, mapBlock, Array.getElem?_modify, h, onCells]
theorem put_other {w : World} {blk off b : Nat} {d : Array Int} (h : b ≠ blk) : (putRow (Value.int .i64) w blk off d).heap[b]? = w.heap[b]? := by
  simp [putRow, mapBlock, Array.getElem?_modify, Ne.symm h]
theorem put_size {w : World} {blk off : Nat} {d : Array Int} : (putRow (Value.int .i64) w blk off d).heap.size = w.heap.size := by
  simp [putRow, mapBlock]
theorem put_cell {off : Nat} {l : List Int} {c : Array Value} {j : Nat} (hj : j < l.length) (h : off + l.length ≤ c.size) : (putCells (Value.int .i64) off l.toArray c).getD (off + j) undef = .int .i64 (l.getD j 0) := by
  unfold putCells
  rw [Array.getD_eq_getD_getElem?, Array.getElem?_mapIdx, Array.getElem?_eq_getElem (by omega)]
  simp only [Option.map_some, Option.getD_some, List.size_toArray]
  rw [if_pos ⟨by omega, by omega⟩, show off + j - off = j by omega]
  simp [List.getD, hj]
theorem Sort_c (n0 : Nat) (r : Option Nat) (l : List Int) (st : St) (hf : Fr n0 st r l) (hl : l.length ≤ 1073741824) :
    ACalls Tryz.prog 100 [.sl r 0 l.length] st (fun i => r = some i) (SoP n0 st r (srtL l)) := by
  refine ⟨by kernel_rfl, fun μ w cargs hr hvr => ?_⟩
  simp only [VRL] at hvr
  obtain ⟨s, _, rfl, hs, rfl⟩ := hvr
  rcases hf with ⟨rfl, rfl⟩ | ⟨i, rfl, h0i, hi, hob⟩
  · simp only [VR] at hs
    obtain ⟨_, _, A, rfl⟩ := hs
    refine (Any.slices_Sort_int_none Tryz.laysSort A 0 w).mono ?_
    rintro e w' ⟨rfl, rfl⟩
    exact ⟨.tup [], .tuple #[], μ, st, rfl, ⟨[], rfl, rfl⟩, hr, Stp.refl _ _ _ _, rfl, .inl ⟨rfl, by simp [srtL]⟩, Ext.refl _ _⟩
  · simp only [VR] at hs
    obtain ⟨_, A, c, rfl, hlc, hA⟩ := hs
    by_cases hl0 : l = []
    · subst hl0
      refine (Any.slices_Sort_int_none Tryz.laysSort (some A) c w).mono ?_
      rintro e w' ⟨rfl, rfl⟩
      exact ⟨.tup [], .tuple #[], μ, st, rfl, ⟨[], rfl, rfl⟩, hr, Stp.refl _ _ _ _, rfl, .inr ⟨i, rfl, h0i, hi, by simpa [srtL] using hob⟩, Ext.refl _ _⟩
    · have hpos : 0 < l.length := List.length_pos_iff.2 hl0
      rcases hA with hA | ⟨rfl, hz, hc3⟩
      · omega
      have hobi := hr.obj i hi
      rw [hob] at hobi
      obtain ⟨cs, E, fz, q1, q2, q3, q4, q5⟩ := hobi
      have q2 := q2 rfl
      subst q2
      rw [List.length_map] at q3 q5
      have q6 : ∀ j, j < l.length → cs.getD ((μ i).s + j) undef = .int .i64 (l.getD j 0) := fun j hj => by
        have := q5 j hj
        have e : (l.map I).getD j .junk = I (l.getD j 0) := by simp [List.getD, hj]
        rw [e] at this
        exact this
      have hown : (st.ob i).own = true := by rw [hob]; rfl
      have hlt : (μ i).b < w.heap.size := (Array.getElem?_eq_some_iff.1 q1).1
      have hH : Holds (Value.int .i64) w (μ i).b ((μ i).s + 0) l.toArray := fun j hj => by
        have hj : j < l.length := by simpa using hj
        constructor
        · have h := q6 j hj
          rw [Array.getD_eq_getD_getElem?, Array.getElem?_eq_getElem (show (μ i).s + j < cs.size by omega)] at h
          have h2 : w.cell? ⟨(μ i).b, (μ i).s + 0 + j, none⟩ = cs[(μ i).s + 0 + j]? := by simp [World.cell?, q1]
          rw [h2, Nat.add_zero, Array.getElem?_eq_getElem (show (μ i).s + j < cs.size by omega)]
          rw [Option.getD_some] at h
          rw [h]
          simp [List.getD, hj]
        · simp [World.frozen?, q1]
      refine (Any.slices_Sort_int Tryz.laysSort (μ i).b ((μ i).s + 0) c l w hH hlt (by omega)).mono ?_
      rintro e w' ⟨rfl, n, os, rfl⟩
      have hsl := srt_len l
      obtain ⟨r1, r2⟩ := set_ok (w' := putRow (Value.int .i64) (Sort.ahead w n) (μ i).b ((μ i).s + 0) (srtL l).toArray) hr hi hown (o := .row true ((srtL l).map I)) put_size (fun b hb => put_other hb) rfl rfl rfl
        ⟨_, E, (0, 0), put_heap (w := Sort.ahead w n) q1, fun _ => rfl, by rw [List.length_map, hsl]; exact q3, by unfold putCells; simpa using q4, fun j hj => by
          have hj : j < (srtL l).length := by simpa using hj
          have e : ((srtL l).map I).getD j .junk = I ((srtL l).getD j 0) := by simp [List.getD, hj]
          rw [e, Nat.add_zero, put_cell hj (by rw [hsl]; omega)]
          rfl⟩
      have hpre : Pre (putRow (Value.int .i64) (Sort.ahead w n) (μ i).b ((μ i).s + 0) (srtL l).toArray) (grow (putRow (Value.int .i64) (Sort.ahead w n) (μ i).b ((μ i).s + 0) (srtL l).toArray) os) :=
        ⟨by simp [grow], fun b hb => Array.getElem?_append_left hb, rfl, rfl, rfl⟩
      have hT : (fun k => some i = some k) = (· = i) := by funext k; exact propext ⟨fun h => by injection h with h; exact h.symm, fun h => by rw [h]⟩
      refine ⟨.tup [], .tuple #[], μ, _, rfl, ⟨[], rfl, rfl⟩, r1.pre hpre, ?_, rfl, .inr ⟨i, rfl, h0i, hi, set_ob _ _ _⟩, ?_⟩
      · rw [hT]; exact r2.pre hpre
      · rw [hT]; exact ext_set st i _
end Go.Proofs.YtfhkjhnaihhdmaaGreatW.Ax
