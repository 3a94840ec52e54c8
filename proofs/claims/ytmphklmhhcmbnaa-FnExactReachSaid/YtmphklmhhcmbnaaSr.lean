/- slices.Sort: the library's contract, laid, and told of the abstract store. -/
import Derived.Test.YtmphklmhhcmbnaaXU
import Derived.Shelf.Sort.Plain
import Derived.Shelf.Slices.In.SortNone
namespace Go.Proofs
open Go.Shelf Go.Lib Go.RowKit

def Try.laysSort_ren : Go.Shelf.Ren := ⟨fun | 189 => 78 | 125 => 109 | 257 => 108 | 128 => 136 | 129 => 137 | 294 => 128 | 295 => 129 | 296 => 130 | 297 => 131 | 298 => 132 | 299 => 133 | 216 => 120 | 300 => 134 | 301 => 135 | 328 => 142 | 329 => 143 | 330 => 144 | 331 => 145 | 332 => 146 | 215 => 140 | 343 => 149 | n => n, fun | 28 => 22 | 3 => 3 | 46 => 58 | 0 => 0 | 51 => 99 | 53 => 101 | 4 => 4 | 183 => 93 | 182 => 92 | 131 => 80 | 5 => 5 | 9 => 9 | 218 => 103 | 222 => 107 | 228 => 110 | 229 => 111 | n => n, fun | n => n⟩
theorem Try.laysSort : Go.Proofs.Lays.n189 Try.prog Try.laysSort_ren := {
  mixed := by kernel_rfl
  f125 := Try.func109.trans (congrArg some (by kernel_rfl))
  f128 := Try.func136.trans (congrArg some (by kernel_rfl))
  f129 := Try.func137.trans (congrArg some (by kernel_rfl))
  f189 := Try.func78.trans (congrArg some (by kernel_rfl))
  f215 := Try.func140.trans (congrArg some (by kernel_rfl))
  f216 := Try.func120.trans (congrArg some (by kernel_rfl))
  f257 := Try.func108.trans (congrArg some (by kernel_rfl))
  f294 := Try.func128.trans (congrArg some (by kernel_rfl))
  f295 := Try.func129.trans (congrArg some (by kernel_rfl))
  f296 := Try.func130.trans (congrArg some (by kernel_rfl))
  f297 := Try.func131.trans (congrArg some (by kernel_rfl))
  f298 := Try.func132.trans (congrArg some (by kernel_rfl))
  f299 := Try.func133.trans (congrArg some (by kernel_rfl))
  f300 := Try.func134.trans (congrArg some (by kernel_rfl))
  f301 := Try.func135.trans (congrArg some (by kernel_rfl))
  f328 := Try.func142.trans (congrArg some (by kernel_rfl))
  f329 := Try.func143.trans (congrArg some (by kernel_rfl))
  f330 := Try.func144.trans (congrArg some (by kernel_rfl))
  f331 := Try.func145.trans (congrArg some (by kernel_rfl))
  f332 := Try.func146.trans (congrArg some (by kernel_rfl))
  f343 := Try.func149.trans (congrArg some (by kernel_rfl))
  t0 := Try.underlying0
  a0 := Try.isAgg0
  z0 := Try.sizeOf0
  v0 := Try.zeroValue0
  t3 := Try.underlying3
  a3 := Try.isAgg3
  z3 := Try.sizeOf3
  v3 := Try.zeroValue3
  t4 := Try.underlying4
  a4 := Try.isAgg4
  z4 := Try.sizeOf4
  v4 := Try.zeroValue4
  t5 := Try.underlying5
  a5 := Try.isAgg5
  z5 := Try.sizeOf5
  v5 := Try.zeroValue5
  t9 := Try.underlying9
  a9 := Try.isAgg9
  z9 := Try.sizeOf9
  v9 := Try.zeroValue9
  t28 := Try.underlying22
  a28 := Try.isAgg22
  z28 := Try.sizeOf22
  v28 := Try.zeroValue22
  t46 := Try.underlying58
  a46 := Try.isAgg58
  z46 := Try.sizeOf58
  v46 := Try.zeroValue58
  t51 := Try.underlying99
  a51 := Try.isAgg99
  z51 := Try.sizeOf99
  v51 := Try.zeroValue99
  t53 := Try.underlying101
  a53 := Try.isAgg101
  z53 := Try.sizeOf101
  v53 := Try.zeroValue101
  t131 := Try.underlying80
  a131 := Try.isAgg80
  z131 := Try.sizeOf80
  v131 := Try.zeroValue80
  t182 := Try.underlying92
  a182 := Try.isAgg92
  z182 := Try.sizeOf92
  v182 := Try.zeroValue92
  t183 := Try.underlying93
  a183 := Try.isAgg93
  z183 := Try.sizeOf93
  v183 := Try.zeroValue93
  t218 := Try.underlying103
  a218 := Try.isAgg103
  z218 := Try.sizeOf103
  v218 := Try.zeroValue103
  t222 := Try.underlying107
  a222 := Try.isAgg107
  z222 := Try.sizeOf107
  v222 := Try.zeroValue107
  t228 := Try.underlying110
  a228 := Try.isAgg110
  z228 := Try.sizeOf110
  v228 := Try.zeroValue110
  t229 := Try.underlying111
  a229 := Try.isAgg111
  z229 := Try.sizeOf111
  v229 := Try.zeroValue111 }
end Go.Proofs
namespace Go.Proofs.YtmphklmhhcmbnaaW.Ax
open Go Go.RowKit Go.Proofs Go.Sort
set_option linter.unusedVariables false
/-- A row in order. -/
def srtL (l : List Int) : List Int := l.mergeSort fun x y => decide (x ≤ y)
theorem srt_len (l : List Int) : (srtL l).length = l.length := List.length_mergeSort _
def SoP (n0 : Nat) (st : St) (r : Option Nat) (l : List Int) : AV → St → Prop := fun v st' => v = .tup [] ∧ Fr n0 st' r l ∧ Ext (fun i => r = some i) st st'
theorem put_heap {w : World} {blk off : Nat} {d : Array Int} {c : Array Value} {e : TypeId} {fz : Nat × Nat} (h : w.heap[blk]? = some (.cells c e fz)) : (putRow (Value.int .i64) w blk off d).heap[blk]? = some (.cells (putCells (Value.int .i64) off d c) e fz) := by
  simp [putRow, mapBlock, Array.getElem?_modify, h, onCells]
theorem put_other {w : World} {blk off b : Nat} {d : Array Int} (h : b ≠ blk) : (putRow (Value.int .i64) w blk off d).heap[b]? = w.heap[b]? := by
  simp [putRow, mapBlock, Array.getElem?_modify, Ne.symm h]
theorem put_size {w : World} {blk off : Nat} {d : Array Int} : (putRow (Value.int .i64) w blk off d).heap.size = w.heap.size := by
  simp [putRow, mapBlock]
theorem put_cell {off : Nat} {l : List Int} {c : Array Value} {j : Nat} (hj : j < l.length) (h : off + l.length ≤ c.size) : (putCells (Value.int .i64) off l.toArray c).getD (off + j) undef = .int .i64 (l.getD j 0) := by
  unfold putCells
  rw [Array.getD_eq_getD_getElem?, Array.getElem?_mapIdx, Array.getElem?_eq_getElem (by omega)]
  simp only [Option.map_some, Option.getD_some, List.size_toArray]
  rw [if_pos ⟨by omega, by omega⟩, show off + j - off = j by omega]
  simp [List.getD, hj]
theorem Sort_c (n0 : Nat) (r : Option Nat) (l : List Int) (st : St) (hf : Fr n0 st r l) (hl : l.length ≤ 1073741824) :
    ACalls Try.prog 78 [.sl r 0 l.length] st (fun i => r = some i) (SoP n0 st r (srtL l)) := by
  refine ⟨by kernel_rfl, fun μ w cargs hr hvr => ?_⟩
  simp only [VRL] at hvr
  obtain ⟨s, _, rfl, hs, rfl⟩ := hvr
  rcases hf with ⟨rfl, rfl⟩ | ⟨i, rfl, h0i, hi, hob⟩
  · simp only [VR] at hs
    obtain ⟨_, _, A, rfl⟩ := hs
    refine (Any.slices_Sort_int_none Try.laysSort A 0 w).mono ?_
    rintro e w' ⟨rfl, rfl⟩
    exact ⟨.tup [], .tuple #[], μ, st, rfl, ⟨[], rfl, rfl⟩, hr, Stp.refl _ _ _ _, rfl, .inl ⟨rfl, by simp [srtL]⟩, Ext.refl _ _⟩
  · simp only [VR] at hs
    obtain ⟨_, A, c, rfl, hlc, hA⟩ := hs
    by_cases hl0 : l = []
    · subst hl0
      refine (Any.slices_Sort_int_none Try.laysSort (some A) c w).mono ?_
      rintro e w' ⟨rfl, rfl⟩
      exact ⟨.tup [], .tuple #[], μ, st, rfl, ⟨[], rfl, rfl⟩, hr, Stp.refl _ _ _ _, rfl, .inr ⟨i, rfl, h0i, hi, by simpa [srtL] using hob⟩, Ext.refl _ _⟩
    · have hpos : 0 < l.length := List.length_pos_iff.2 hl0
      rcases hA with hA | ⟨rfl, hz, hc3⟩
      · omega
      have hobi := hr.obj i hi
      rw [hob] at hobi
      obtain ⟨cs, E, fz, q1, q2, q3, q4, q5⟩ := hobi
      have q2 := q2 rfl
      subst q2
      rw [List.length_map] at q3 q5
      have q6 : ∀ j, j < l.length → cs.getD ((μ i).s + j) undef = .int .i64 (l.getD j 0) := fun j hj => by
        have := q5 j hj
        have e : (l.map I).getD j .junk = I (l.getD j 0) := by simp [List.getD, hj]
        rw [e] at this
        exact this
      have hown : (st.ob i).own = true := by rw [hob]; rfl
      have hlt : (μ i).b < w.heap.size := (Array.getElem?_eq_some_iff.1 q1).1
      have hH : Holds (Value.int .i64) w (μ i).b ((μ i).s + 0) l.toArray := fun j hj => by
        have hj : j < l.length := by simpa using hj
        constructor
        · have h := q6 j hj
          rw [Array.getD_eq_getD_getElem?, Array.getElem?_eq_getElem (show (μ i).s + j < cs.size by omega)] at h
          have h2 : w.cell? ⟨(μ i).b, (μ i).s + 0 + j, none⟩ = cs[(μ i).s + 0 + j]? := by simp [World.cell?, q1]
          rw [h2, Nat.add_zero, Array.getElem?_eq_getElem (show (μ i).s + j < cs.size by omega)]
          rw [Option.getD_some] at h
          rw [h]
          simp [List.getD, hj]
        · simp [World.frozen?, q1]
      refine (Any.slices_Sort_int Try.laysSort (μ i).b ((μ i).s + 0) c l w hH hlt (by omega)).mono ?_
      rintro e w' ⟨rfl, n, os, rfl⟩
      have hsl := srt_len l
      obtain ⟨r1, r2⟩ := set_ok (w' := putRow (Value.int .i64) (Sort.ahead w n) (μ i).b ((μ i).s + 0) (srtL l).toArray) hr hi hown (o := .row true ((srtL l).map I)) put_size (fun b hb => put_other hb) rfl rfl rfl
        ⟨_, E, (0, 0), put_heap (w := Sort.ahead w n) q1, fun _ => rfl, by rw [List.length_map, hsl]; exact q3, by unfold putCells; simpa using q4, fun j hj => by
          have hj : j < (srtL l).length := by simpa using hj
          have e : ((srtL l).map I).getD j .junk = I ((srtL l).getD j 0) := by simp [List.getD, hj]
          rw [e, Nat.add_zero, put_cell hj (by rw [hsl]; omega)]
          rfl⟩
      have hpre : Pre (putRow (Value.int .i64) (Sort.ahead w n) (μ i).b ((μ i).s + 0) (srtL l).toArray) (grow (putRow (Value.int .i64) (Sort.ahead w n) (μ i).b ((μ i).s + 0) (srtL l).toArray) os) :=
        ⟨by simp [grow], fun b hb => Array.getElem?_append_left hb, rfl, rfl, rfl⟩
      have hT : (fun k => some i = some k) = (· = i) := by funext k; exact propext ⟨fun h => by injection h with h; exact h.symm, fun h => by rw [h]⟩
      refine ⟨.tup [], .tuple #[], μ, _, rfl, ⟨[], rfl, rfl⟩, r1.pre hpre, ?_, rfl, .inr ⟨i, rfl, h0i, hi, set_ob _ _ _⟩, ?_⟩
      · rw [hT]; exact r2.pre hpre
      · rw [hT]; exact ext_set st i _
end Go.Proofs.YtmphklmhhcmbnaaW.Ax
