/- slices.Sort: the library's contract, laid, and told of the abstract store. -/
import Derived.Test.YtfhkjhnaihhdmaaGreatXU
import Derived.Shelf.Sort.Plain
import Derived.Shelf.Slices.In.SortNone
namespace Go.Proofs
open Go.Shelf Go.Lib Go.RowKit

def Tryz.laysSort_ren : Go.Shelf.Ren := ⟨fun | 189 => 100 | 125 => 164 | 257 => 163 | 128 => 196 | 129 => 197 | 294 => 188 | 295 => 189 | 296 => 190 | 297 => 191 | 298 => 192 | 299 => 193 | 216 => 186 | 300 => 194 | 301 => 195 | 328 => 207 | 329 => 208 | 330 => 209 | 331 => 210 | 332 => 211 | 215 => 206 | 343 => 216 | n => n, fun | 28 => 24 | 3 => 3 | 46 => 109 | 0 => 0 | 51 => 141 | 53 => 143 | 4 => 4 | 183 => 135 | 182 => 134 | 131 => 50 | 5 => 5 | 9 => 9 | 218 => 148 | 222 => 152 | 228 => 155 | 229 => 130 | n => n, fun | n => n⟩
theorem Tryz.laysSort : Go.Proofs.Lays.n189 Tryz.prog Tryz.laysSort_ren := {
  mixed := by kernel_rfl
  f125 := Tryz.func164.trans (congrArg some (by kernel_rfl))
  f128 := Tryz.func196.trans (congrArg some (by kernel_rfl))
  f129 := Tryz.func197.trans (congrArg some (by kernel_rfl))
  f189 := Tryz.func100.trans (congrArg some (by kernel_rfl))
  f215 := Tryz.func206.trans (congrArg some (by kernel_rfl))
  f216 := Tryz.func186.trans (congrArg some (by kernel_rfl))
  f257 := Tryz.func163.trans (congrArg some (by kernel_rfl))
  f294 := Tryz.func188.trans (congrArg some (by kernel_rfl))
  f295 := Tryz.func189.trans (congrArg some (by kernel_rfl))
  f296 := Tryz.func190.trans (congrArg some (by kernel_rfl))
  f297 := Tryz.func191.trans (congrArg some (by kernel_rfl))
  f298 := Tryz.func192.trans (congrArg some (by kernel_rfl))
  f299 := Tryz.func193.trans (congrArg some (by kernel_rfl))
  f300 := Tryz.func194.trans (congrArg some (by kernel_rfl))
  f301 := Tryz.func195.trans (congrArg some (by kernel_rfl))
  f328 := Tryz.func207.trans (congrArg some (by kernel_rfl))
  f329 := Tryz.func208.trans (congrArg some (by kernel_rfl))
  f330 := Tryz.func209.trans (congrArg some (by kernel_rfl))
  f331 := Tryz.func210.trans (congrArg some (by kernel_rfl))
  f332 := Tryz.func211.trans (congrArg some (by kernel_rfl))
  f343 := Tryz.func216.trans (congrArg some (by kernel_rfl))
  t0 := Tryz.underlying0
  a0 := Tryz.isAgg0
  z0 := Tryz.sizeOf0
  v0 := Tryz.zeroValue0
  t3 := Tryz.underlying3
  a3 := Tryz.isAgg3
  z3 := Tryz.sizeOf3
  v3 := Tryz.zeroValue3
  t4 := Tryz.underlying4
  a4 := Tryz.isAgg4
  z4 := Tryz.sizeOf4
  v4 := Tryz.zeroValue4
  t5 := Tryz.underlying5
  a5 := Tryz.isAgg5
  z5 := Tryz.sizeOf5
  v5 := Tryz.zeroValue5
  t9 := Tryz.underlying9
  a9 := Tryz.isAgg9
  z9 := Tryz.sizeOf9
  v9 := Tryz.zeroValue9
  t28 := Tryz.underlying24
  a28 := Tryz.isAgg24
  z28 := Tryz.sizeOf24
  v28 := Tryz.zeroValue24
  t46 := Tryz.underlying109
  a46 := Tryz.isAgg109
  z46 := Tryz.sizeOf109
  v46 := Tryz.zeroValue109
  t51 := Tryz.underlying141
  a51 := Tryz.isAgg141
  z51 := Tryz.sizeOf141
  v51 := Tryz.zeroValue141
  t53 := Tryz.underlying143
  a53 := Tryz.isAgg143
  z53 := Tryz.sizeOf143
  v53 := Tryz.zeroValue143
  t131 := Tryz.underlying50
  a131 := Tryz.isAgg50
  z131 := Tryz.sizeOf50
  v131 := Tryz.zeroValue50
  t182 := Tryz.underlying134
  a182 := Tryz.isAgg134
  z182 := Tryz.sizeOf134
  v182 := Tryz.zeroValue134
  t183 := Tryz.underlying135
  a183 := Tryz.isAgg135
  z183 := Tryz.sizeOf135
  v183 := Tryz.zeroValue135
  t218 := Tryz.underlying148
  a218 := Tryz.isAgg148
  z218 := Tryz.sizeOf148
  v218 := Tryz.zeroValue148
  t222 := Tryz.underlying152
  a222 := Tryz.isAgg152
  z222 := Tryz.sizeOf152
  v222 := Tryz.zeroValue152
  t228 := Tryz.underlying155
  a228 := Tryz.isAgg155
  z228 := Tryz.sizeOf155
  v228 := Tryz.zeroValue155
  t229 := Tryz.underlying130
  a229 := Tryz.isAgg130
  z229 := Tryz.sizeOf130
  v229 := Tryz.zeroValue130 }
end Go.Proofs
namespace Go.Proofs.YtfhkjhnaihhdmaaGreatW.Ax
open Go Go.RowKit Go.Proofs Go.Sort
set_option linter.unusedVariables false
/-- A row in order. -/
def srtL (l : List Int) : List Int := l.mergeSort fun x y => decide (x ≤ y)
theorem srt_len (l : List Int) : (srtL l).length = l.length := List.length_mergeSort _
def SoP (n0 : Nat) (st : St) (r : Option Nat) (l : List Int) : AV → St → Prop := fun v st' => v = .tup [] ∧ Fr n0 st' r l ∧ Ext (fun i => r = some i) st st'
theorem put_heap {w : World} {blk off : Nat} {d : Array Int} {c : Array Value} {e : TypeId} {fz : Nat × Nat} (h : w.heap[blk]? = some (.cells c e fz)) : (putRow (Value.int .i64) w blk off d).heap[blk]? = some (.cells (putCells (Value.int .i64) off d c) e fz) := by
  simp [putRow, mapBlock, Array.getElem?_modify, h, onCells]
theorem put_other {w : World} {blk off b : Nat} {d : Array Int} (h : b ≠ blk) : (putRow (Value.int .i64) w blk off d).heap[b]? = w.heap[b]? := by
  simp [putRow, mapBlock, Array.getElem?_modify, Ne.symm h]
theorem put_size {w : World} {blk off : Nat} {d : Array Int} : (putRow (Value.int .i64) w blk off d).heap.size = w.heap.size := by
  simp [putRow, mapBlock]
theorem put_cell {off : Nat} {l : List Int} {c : Array Value} {j : Nat} (hj : j < l.length) (h : off + l.length ≤ c.size) : (putCells (Value.int .i64) off l.toArray c).getD (off + j) undef = .int .i64 (l.getD j 0) := by
  unfold putCells
  rw [Array.getD_eq_getD_getElem?, Array.getElem?_mapIdx, Array.getElem?_eq_getElem (by omega)]
  simp only [Option.map_some, Option.getD_some, List.size_toArray]
  rw [if_pos ⟨by omega, by omega⟩, show off + j - off = j by omega]
  simp [List.getD, hj]
theorem Sort_c (n0 : Nat) (r : Option Nat) (l : List Int) (st : St) (hf : Fr n0 st r l) (hl : l.length ≤ 1073741824) :
    ACalls Tryz.prog 100 [.sl r 0 l.length] st (fun i => r = some i) (SoP n0 st r (srtL l)) := by
  refine ⟨by kernel_rfl, fun μ w cargs hr hvr => ?_⟩
  simp only [VRL] at hvr
  obtain ⟨s, _, rfl, hs, rfl⟩ := hvr
  rcases hf with ⟨rfl, rfl⟩ | ⟨i, rfl, h0i, hi, hob⟩
  · simp only [VR] at hs
    obtain ⟨_, _, A, rfl⟩ := hs
    refine (Any.slices_Sort_int_none Tryz.laysSort A 0 w).mono ?_
    rintro e w' ⟨rfl, rfl⟩
    exact ⟨.tup [], .tuple #[], μ, st, rfl, ⟨[], rfl, rfl⟩, hr, Stp.refl _ _ _ _, rfl, .inl ⟨rfl, by simp [srtL]⟩, Ext.refl _ _⟩
  · simp only [VR] at hs
    obtain ⟨_, A, c, rfl, hlc, hA⟩ := hs
    by_cases hl0 : l = []
    · subst hl0
      refine (Any.slices_Sort_int_none Tryz.laysSort (some A) c w).mono ?_
      rintro e w' ⟨rfl, rfl⟩
      exact ⟨.tup [], .tuple #[], μ, st, rfl, ⟨[], rfl, rfl⟩, hr, Stp.refl _ _ _ _, rfl, .inr ⟨i, rfl, h0i, hi, by simpa [srtL] using hob⟩, Ext.refl _ _⟩
    · have hpos : 0 < l.length := List.length_pos_iff.2 hl0
      rcases hA with hA | ⟨rfl, hz, hc3⟩
      · omega
      have hobi := hr.obj i hi
      rw [hob] at hobi
      obtain ⟨cs, E, fz, q1, q2, q3, q4, q5⟩ := hobi
      have q2 := q2 rfl
      subst q2
      rw [List.length_map] at q3 q5
      have q6 : ∀ j, j < l.length → cs.getD ((μ i).s + j) undef = .int .i64 (l.getD j 0) := fun j hj => by
        have := q5 j hj
        have e : (l.map I).getD j .junk = I (l.getD j 0) := by simp [List.getD, hj]
        rw [e] at this
        exact this
      have hown : (st.ob i).own = true := by rw [hob]; rfl
      have hlt : (μ i).b < w.heap.size := (Array.getElem?_eq_some_iff.1 q1).1
      have hH : Holds (Value.int .i64) w (μ i).b ((μ i).s + 0) l.toArray := fun j hj => by
        have hj : j < l.length := by simpa using hj
        constructor
        · have h := q6 j hj
          rw [Array.getD_eq_getD_getElem?, Array.getElem?_eq_getElem (show (μ i).s + j < cs.size by omega)] at h
          have h2 : w.cell? ⟨(μ i).b, (μ i).s + 0 + j, none⟩ = cs[(μ i).s + 0 + j]? := by simp [World.cell?, q1]
          rw [h2, Nat.add_zero, Array.getElem?_eq_getElem (show (μ i).s + j < cs.size by omega)]
          rw [Option.getD_some] at h
          rw [h]
          simp [List.getD, hj]
        · simp [World.frozen?, q1]
      refine (Any.slices_Sort_int Tryz.laysSort (μ i).b ((μ i).s + 0) c l w hH hlt (by omega)).mono ?_
      rintro e w' ⟨rfl, n, os, rfl⟩
      have hsl := srt_len l
      obtain ⟨r1, r2⟩ := set_ok (w' := putRow (Value.int .i64) (Sort.ahead w n) (μ i).b ((μ i).s + 0) (srtL l).toArray) hr hi hown (o := .row true ((srtL l).map I)) put_size (fun b hb => put_other hb) rfl rfl rfl
        ⟨_, E, (0, 0), put_heap (w := Sort.ahead w n) q1, fun _ => rfl, by rw [List.length_map, hsl]; exact q3, by unfold putCells; simpa using q4, fun j hj => by
          have hj : j < (srtL l).length := by simpa using hj
          have e : ((srtL l).map I).getD j .junk = I ((srtL l).getD j 0) := by simp [List.getD, hj]
          rw [e, Nat.add_zero, put_cell hj (by rw [hsl]; omega)]
          rfl⟩
      have hpre : Pre (putRow (Value.int .i64) (Sort.ahead w n) (μ i).b ((μ i).s + 0) (srtL l).toArray) (grow (putRow (Value.int .i64) (Sort.ahead w n) (μ i).b ((μ i).s + 0) (srtL l).toArray) os) :=
        ⟨by simp [grow], fun b hb => Array.getElem?_append_left hb, rfl, rfl, rfl⟩
      have hT : (fun k => some i = some k) = (· = i) := by funext k; exact propext ⟨fun h => by injection h with h; exact h.symm, fun h => by rw [h]⟩
      refine ⟨.tup [], .tuple #[], μ, _, rfl, ⟨[], rfl, rfl⟩, r1.pre hpre, ?_, rfl, .inr ⟨i, rfl, h0i, hi, set_ob _ _ _⟩, ?_⟩
      · rw [hT]; exact r2.pre hpre
      · rw [hT]; exact ext_set st i _
end Go.Proofs.YtfhkjhnaihhdmaaGreatW.Ax
