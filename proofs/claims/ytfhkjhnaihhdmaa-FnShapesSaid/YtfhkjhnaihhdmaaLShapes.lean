/- Heaps that are drawn (P3): the law, walked. -/
import Derived.Test.YtfhkjhnaihhdmaaGh
import Derived.Test.YtfhkjhnaihhdmaaGi
import Derived.Test.YtfhkjhnaihhdmaaHa
import Derived.Test.YtfhkjhnaihhdmaaYi
import Derived.Test.YtfhkjhnaihhdmaaYj
namespace Go.Proofs.YtfhkjhnaihhdmaaW.Ax
open Go Go.RowKit Go.Proofs Go.Proofs.Ytfhkjhnaihhdmaa.Pure
set_option linter.unusedVariables false
set_option maxRecDepth 100000

theorem kat_vb1 {l : List Int} {v : Int} (h : Vb l v) (h4 : 4 ≤ v % 8) : 1 ≤ kat l (v / 8) := by
  obtain ⟨h1, h2⟩ := h h4
  unfold kat
  rw [if_pos h1]
  have : 0 ≤ kindOf l (v / 8).toNat := by unfold kindOf; omega
  omega
theorem FnShapes_c (r : Option Nat) (code : List Int) (st : St) (hx : AtB st r 0 code) (h8 : U8 code) (hm : code.length ≤ 9223372036854775807) (hr : ∀ j, r = some j → j < st.n) : ACalls Try.prog 6 [.sl r 0 code.length] st No (Pv (.bool true)) := by
  refine ent (N := 113) Try.func6 rfl (by decide) rfl rfl rfl ?_
  refine crr (by kernel_rfl) rfl ?_   -- region 0
  refine c_seq ?_
  refine c_rs (by kernel_rfl) ?_   -- region 1
  refine sr 1 rfl ?_
  refine s_op rfl (o_pure loud_n rfl (big_c ..) ?_)
  refine s_end ?_
  refine c_if rfl (fun h14 => ?_) (fun h14 => ?_)
  · refine crr (by kernel_rfl) rfl ?_   -- region 2
    exact c_ret (fr rfl rfl)
  have h14 := of_decide_eq_false h14
  refine c_skip ?_
  have hl : code.length ≤ 1048576 := by omega
  refine c_rs (by kernel_rfl) ?_   -- region 3
  refine sr 1 rfl ?_
  refine s_op rfl (o_ex loud_n rfl (DrawHeapOk_c r code _ hx h8 hl hr) ?_)
  rintro v1 st1 ⟨q, o, l, rfl, ha, hll, _⟩ e1
  replace hx := hx.ex e1
  replace hr : ∀ j, r = some j → j < st1.n := fun j h => Nat.lt_of_lt_of_le (hr j h) e1.n
  refine sra rfl ?_
  refine c_rs (by kernel_rfl) ?_   -- region 4
  refine sr 1 rfl ?_
  refine s_op rfl (o_ex loud_n rfl (iHeapOk_c _ _ _ _ ha) ?_)
  rintro v2 st2 rfl e2
  replace hx := hx.ex e2
  replace ha := ha.ex e2
  refine sra rfl ?_
  refine c_seq ?_
  refine c_rs (by kernel_rfl) ?_   -- region 5
  refine sr 2 rfl ?_
  refine s_op rfl (o_ex loud_n rfl (HeapOk_c _ _ _ _ ha (by omega)) ?_)
  rintro v3 st3 rfl e3
  replace hx := hx.ex e3
  replace ha := ha.ex e3
  replace hr : ∀ j, r = some j → j < st3.n := fun j h => Nat.lt_of_lt_of_le (hr j h) (Nat.le_trans e2.n e3.n)
  refine s_op rfl (oneB rfl rfl rfl rfl ?_)
  refine sra rfl ?_
  refine c_if_f rfl ?_
  refine c_skip ?_
  refine c_rs (by kernel_rfl) ?_   -- region 7
  refine sr 1 rfl ?_
  refine s_op rfl (o_ex loud_n rfl (DrawSlots_c r code _ hx h8 hl hr) ?_)
  rintro v4 st4 ⟨q4, o4, l4, a4, rfl, hb4, hl4, _, _⟩ e4
  replace hx := hx.ex e4
  replace ha := ha.ex e4
  replace hr : ∀ j, r = some j → j < st4.n := fun j h => Nat.lt_of_lt_of_le (hr j h) e4.n
  have hs4 := slG_len l4 a4
  refine sra rfl ?_
  refine c_rs (by kernel_rfl) ?_   -- region 8
  refine sr 2 rfl ?_
  refine s_op rfl (o_ex loud_n rfl (iSlots_c _ _ _ a4 _ hb4) ?_)
  rintro v5 st5 ⟨q5, rfl, hf5⟩ e5
  replace hx := hx.ex e5
  replace ha := ha.ex e5
  replace hb4 := hb4.ex e5
  replace hr : ∀ j, r = some j → j < st5.n := fun j h => Nat.lt_of_lt_of_le (hr j h) e5.n
  refine sra rfl ?_
  refine c_seq ?_
  refine cds [0, 1, 2, 3, 4, 5, 6, 7, 8, 10, 11, 9, 12, 13, 14] [.q, .q, .q, .f, .f, .q, .q, .q, .q, .q, .q, .f, .f, .q, .q] (by kernel_rfl) (by kernel_rfl) ?_   -- region 9
  refine sr 3 rfl ?_
  refine s_op rfl (o_ex loud_f rfl (Slots_c _ _ _ a4 _ hb4 (by omega)) ?_)
  rintro v6 st6 ⟨q6, rfl, hf6⟩ e6
  replace hx := hx.ex e6
  replace ha := ha.ex e6
  replace hb4 := hb4.ex e6
  replace hf5 := hf5.ex e6
  replace hr : ∀ j, r = some j → j < st6.n := fun j h => Nat.lt_of_lt_of_le (hr j h) e6.n
  refine s_op rfl (o_pure loud_f rfl (sameInts_t _ _ _ _ _ _ hf5.at_ hf6.at_ (by omega)) ?_)
  refine sr 6 rfl ?_
  refine s_op rfl (o_ex loud_f rfl (iShapeOk_c _ _ _ a4 _ hb4) ?_)
  rintro v7 st7 rfl e7
  replace hx := hx.ex e7
  replace ha := ha.ex e7
  replace hb4 := hb4.ex e7
  replace hr : ∀ j, r = some j → j < st7.n := fun j h => Nat.lt_of_lt_of_le (hr j h) e7.n
  refine s_op rfl (o_pure loud_f rfl (ShapeOk_c _ _ _ a4 _ hb4 (by omega)) ?_)
  refine s_op rfl (oneB rfl rfl rfl rfl ?_)
  refine sra rfl ?_
  refine c_if_f rfl ?_
  refine c_skip ?_
  refine c_rs (by kernel_rfl) ?_   -- region 11
  refine sr 1 rfl ?_
  refine s_op rfl (o_ex loud_n rfl (DrawRootsOk_c r code _ hx h8 hl hr) ?_)
  rintro v8 st8 ⟨q8, o8, l8, p8, R8, rfl, S8⟩ e8
  replace ha := ha.ex e8
  have hl8 := S8.len
  have hR8 := S8.R2
  refine sra rfl ?_
  refine c_seq ?_
  refine cds [0, 1, 3, 4, 2, 5, 6] [.q, .q, .q, .q, .f, .f, .q] (by kernel_rfl) (by kernel_rfl) ?_   -- region 12
  refine sr 4 rfl ?_
  refine s_op rfl (o_ex loud_f rfl (iRootsOk_c _ _ _ _ _ _ _ S8.at_ S8.fR.at_ (by omega) (by omega)) ?_)
  rintro v9 st9 rfl e9
  have S9 := S8.ex e9
  replace ha := ha.ex e9
  refine s_op rfl (o_ex loud_f rfl (RootsOk_c _ _ _ _ _ _ _ S9.at_ S9.fR.at_ (by omega) (by omega)) ?_)
  rintro v10 st10 rfl e10
  replace ha := ha.ex e10
  refine s_op rfl (oneB rfl rfl rfl rfl ?_)
  refine sra rfl ?_
  refine c_if_f rfl ?_
  refine c_skip ?_
  refine c_rs (by kernel_rfl) ?_   -- region 14
  refine sr 1 rfl ?_
  refine s_op rfl (o_ex loud_n rfl (iBlocks_c _ _ _ _ ha) ?_)
  rintro v11 st11 ⟨q11, rfl, hf11⟩ e11
  replace ha := ha.ex e11
  have hbl := blocks_lel l
  refine sra rfl ?_
  refine c_seq ?_
  refine crr (by kernel_rfl) rfl ?_   -- region 15
  refine c_block ?_
  have hbk := hf11.at_
  clear hf11 S8 S9 hf5 hf6 hb4
  refine c_lp (α := Nat) (fun i => [(4, .bool (bd (Heap l))), (10, .sl q11 0 (blocks l).length), (11, I i)]) (fun i => [(3, 3, [.sl q o l.length])]) (fun i st' => Ex st11 st' ∧ i ≤ (blocks l).length) (fun i => (blocks l).length - i) 0 ⟨rfl, rfl, rfl, trivial⟩ ⟨rfl, rfl, trivial⟩ ⟨Ext.refl _ _, Nat.zero_le _⟩ ?_
  rintro i st12 ⟨e12, hi⟩
  replace ha := ha.ex e12
  replace hbk := hbk.ex e12
  refine c_seq ?_
  refine c_sj (α := Bool) (fun b => [(4, .bool (bd (Heap l))), (10, .sl q11 0 (blocks l).length), (11, I i), (68, .bool b)]) (fun _ => [(3, 3, [.sl q o l.length])]) (fun b st' => st12 = st' ∧ (b = true → i < (blocks l).length ∧ Heap l)) ?_ ?_
  · -- region 16
    refine c_region (by kernel_rfl) ?_
    refine sr 5 rfl ?_
    refine s_bool 66 rfl rfl (fun h66 => ?_) (fun h66 => ?_)
    · -- slot 66 true
      have h66 := of_decide_eq_true h66
      exact sra rfl ⟨_, ⟨rfl, rfl, rfl, rfl, trivial⟩, ⟨rfl, rfl, trivial⟩, rfl, fun h => ⟨by omega, bdt.1 h⟩⟩
    · -- slot 66 false
      exact sra rfl ⟨false, ⟨rfl, rfl, rfl, rfl, trivial⟩, ⟨rfl, rfl, trivial⟩, rfl, fun h => by cases h⟩
  rintro b _ ⟨rfl, hb1⟩
  refine c_if rfl (fun h68 => ?_) (fun h68 => ?_)
  · -- then
    obtain ⟨hib, hp⟩ := hb1 h68
    have hmem : rd (blocks l) i ∈ blocks l := mem_rd hib
    generalize hga : rd (blocks l) i = a at hmem
    have hshp := hp.2 a hmem
    have hsl := slots_len hmem
    refine c_skip ?_
    refine c_seq ?_
    refine c_block ?_
    refine c_seq ?_
    refine cds [0, 1, 2, 3, 4, 5, 6] [.q, .q, .q, .q, .q, .f, .q] (by kernel_rfl) (by kernel_rfl) ?_   -- region 18
    refine sr 3 rfl ?_
    refine s_op rfl (oidx rfl rfl rfl (by omega) (by omega) ?_)   -- 74 := indexAddr 31 (tmp 72) (tmp 73)
    refine s_op rfl (old rfl rfl (hbk.rd (by omega) (by omega)) ?_)   -- 75 := load 3 (tmp 74)
    rw [hga]
    refine s_op rfl (o_ex loud_f rfl (iShapeOk_c _ _ _ a _ ha) ?_)
    rintro v13 st13 rfl e13
    rw [bdt.2 (show a ∈ blocks l ∧ Shp l a from ⟨hmem, hshp⟩)]
    replace ha := ha.ex e13
    replace hbk := hbk.ex e13
    refine sra rfl ?_
    refine c_if_f rfl ?_
    refine c_skip ?_
    refine cds [0, 1, 2, 3, 4, 5, 6] [.q, .q, .q, .q, .q, .f, .q] (by kernel_rfl) (by kernel_rfl) ?_   -- region 20
    refine sr 3 rfl ?_
    refine s_op rfl (oidx rfl rfl rfl (by omega) (by omega) ?_)   -- 81 := indexAddr 31 (tmp 79) (tmp 80)
    refine s_op rfl (old rfl rfl (hbk.rd (by omega) (by omega)) ?_)   -- 82 := load 3 (tmp 81)
    rw [hga]
    refine s_op rfl (o_ex loud_f rfl (iSlots_c _ _ _ a _ ha) ?_)
    rintro v14 st14 ⟨q14, rfl, hf14⟩ e14
    have esl : slG l a = slotsL l a := by unfold slG; rw [if_pos hmem]
    rw [esl] at hf14 ⊢
    replace ha := ha.ex e14
    refine sra rfl ?_
    refine crr (by kernel_rfl) rfl ?_   -- region 21
    refine c_block ?_
    have hs14 := hf14.at_
    refine c_lp (α := Nat) (fun k => [(4, .bool (bd (Heap l))), (10, .sl q11 0 (blocks l).length), (11, I i), (12, .sl q14 0 (slotsL l a).length), (13, I k)]) (fun k => [(3, 3, [.sl q o l.length])]) (fun k st' => Ex st14 st' ∧ k ≤ (slotsL l a).length) (fun k => (slotsL l a).length - k) 0 ⟨rfl, rfl, rfl, rfl, rfl, trivial⟩ ⟨rfl, rfl, trivial⟩ ⟨Ext.refl _ _, Nat.zero_le _⟩ ?_
    rintro k st15 ⟨e15, hk⟩
    replace ha := ha.ex e15
    replace hs14 := hs14.ex e15
    refine c_seq ?_
    refine crr (by kernel_rfl) rfl ?_   -- region 22
    refine c_if rfl (fun h87 => ?_) (fun h87 => ?_)
    · -- then
      have h87 := of_decide_eq_true h87
      have hsm : rd (slotsL l a) k ∈ slotsL l a := mem_rd (by omega)
      generalize hgx : rd (slotsL l a) k = x at hsm
      have hin := slots_in hmem hsm
      have hba := block_at hmem
      have hvok := slot_vok hshp hmem hsm
      have hvb := slot_vb hshp hmem hsm
      generalize hgv : rd l x = v at hvok hvb
      refine c_skip ?_
      refine c_seq ?_
      refine c_block ?_
      refine cds [0, 1, 2, 3, 4, 5, 6, 7, 8] [.q, .q, .q, .q, .q, .q, .q, .q, .q] (by kernel_rfl) (by kernel_rfl) ?_   -- region 24
      refine sr 4 rfl ?_
      refine s_op rfl (oidx rfl rfl rfl (by omega) (by omega) ?_)   -- 94 := indexAddr 31 (tmp 92) (tmp 93)
      refine s_op rfl (old rfl rfl (hs14.rd (by omega) (by omega)) ?_)   -- 95 := load 3 (tmp 94)
      rw [hgx]
      refine s_op rfl (oidx rfl rfl rfl (by omega) (by omega) ?_)   -- 96 := indexAddr 31 (tmp 91) (tmp 95)
      refine s_op rfl (old rfl rfl (ha.rd (by omega) (by omega)) ?_)   -- 97 := load 3 (tmp 96)
      rw [hgv]
      refine sra rfl ?_
      refine c_sj (α := Unit) (fun b => [(4, .bool (bd (Heap l))), (10, .sl q11 0 (blocks l).length), (11, I i), (12, .sl q14 0 (slotsL l a).length), (13, I k), (112, .bool false)]) (fun _ => [(3, 3, [.sl q o l.length])]) (fun b st' => Ex st15 st') ?_ ?_
      · -- region 25
        refine cd1 [0, 1, 2, 3, 4, 5, 6, 7, 8, 9, 10, 11, 12, 13, 14] [.q, .f, .q, .q, .q, .f, .q, .q, .q, .q, .f, .f, .q, .q, .q] (by kernel_rfl) (by kernel_rfl) ?_
        refine sr 1 rfl ?_
        refine s_op rfl (o_pure loud_f rfl (iValueOk_c ..) ?_)
        rw [bdt.2 hvok]
        refine sr 3 rfl ?_
        refine s_op rfl (o_pure loud_f rfl (iKind_c ..) ?_)
        refine sr 2 rfl ?_
        refine s_bool 105 rfl rfl (fun h105 => ?_) (fun h105 => ?_)
        · -- slot 105 true
          have h105 := of_decide_eq_true h105
          have hkv := kat_vb1 hvb h105
          refine sr 2 rfl ?_
          refine s_op rfl (o_pure loud_f rfl (iNum_c ..) ?_)
          refine s_op rfl (o_ex loud_f rfl (iKindAt_c _ _ _ _ _ ha) ?_)
          rintro v16 st16 rfl e16
          refine s_op rfl (oeq rfl (.v (.bool false)) (bF (by omega)) ?_)
          exact sra rfl ⟨(), ⟨rfl, rfl, rfl, rfl, rfl, rfl, trivial⟩, ⟨rfl, rfl, trivial⟩, e16⟩
        · -- slot 105 false
          exact sra rfl ⟨(), ⟨rfl, rfl, rfl, rfl, rfl, rfl, trivial⟩, ⟨rfl, rfl, trivial⟩, Ext.refl _ _⟩
      rintro _ st16 e16
      refine c_if_f rfl ?_
      refine c_skip ?_
      refine c_region (by kernel_rfl) ?_   -- region 23
      refine sr 1 rfl ?_
      refine s_op rfl (o_ar rfl rfl rfl (by omega) (by omega) ?_)   -- 89 := binOp BinOp.add 3 (tmp 88) (const (Value.int IntKind.i64 1)) 3
      refine sra rfl ?_
      exact ⟨k + 1, ⟨rfl, rfl, rfl, rfl, rfl, trivial⟩, ⟨rfl, rfl, trivial⟩, ⟨e15.tr e16, by omega⟩, by omega⟩   -- round ends
    · -- else
      refine c_exit ?_
      refine c_region (by kernel_rfl) ?_   -- region 17
      refine sr 1 rfl ?_
      refine s_op rfl (o_ar rfl rfl rfl (by omega) (by omega) ?_)   -- 70 := binOp BinOp.add 3 (tmp 69) (const (Value.int IntKind.i64 1)) 3
      refine sra rfl ?_
      exact ⟨i + 1, ⟨rfl, rfl, rfl, trivial⟩, ⟨rfl, rfl, trivial⟩, ⟨((e12.tr e13).tr e14).tr e15, by omega⟩, by omega⟩   -- round ends
  · -- else
    refine c_exit ?_
    refine crr (by kernel_rfl) rfl ?_   -- region 27
    exact c_ret (fr rfl rfl)
end Go.Proofs.YtfhkjhnaihhdmaaW.Ax
