/- Values that are drawn (P1): the law, walked. -/
import Derived.Test.YtfhkjhnaihhdmaaGd
import Derived.Test.YtfhkjhnaihhdmaaHa
import Derived.Test.YtfhkjhnaihhdmaaYo
namespace Go.Proofs.YtfhkjhnaihhdmaaW.Ax
open Go Go.RowKit Go.Proofs Go.Proofs.Ytfhkjhnaihhdmaa.Pure
set_option linter.unusedVariables false
set_option maxRecDepth 100000

theorem vok_int (n : Int) : Vok (8 * wr n + 3) := by
  have := wr_bd n
  unfold Vok; omega
theorem vok_rf {k a : Int} (h : (4 ≤ k ∧ k ≤ 7) ∧ (0 ≤ a ∧ a ≤ 1999)) : Vok (8 * a + k) := by unfold Vok; omega
theorem FnValues_c (r : Option Nat) (code : List Int) (st : St) (hx : AtB st r 0 code) (h8 : U8 code) (hm : code.length ≤ 9223372036854775807) (hr : ∀ j, r = some j → j < st.n) : ACalls Try.prog 3 [.sl r 0 code.length] st No (Pv (.bool true)) := by
  refine ent (N := 131) Try.func3 rfl (by decide) rfl rfl rfl ?_
  refine crr (by kernel_rfl) rfl ?_   -- region 0
  refine c_seq ?_
  refine c_rs (by kernel_rfl) ?_   -- region 1
  refine sr 1 rfl ?_
  refine s_op rfl (o_pure loud_n rfl (big_c ..) ?_)
  refine s_end ?_
  refine c_if rfl (fun h14 => ?_) (fun h14 => ?_)
  · refine crr (by kernel_rfl) rfl ?_   -- region 2
    exact c_ret (fr rfl rfl)
  have h14 := of_decide_eq_false h14
  refine c_skip ?_
  have hl : code.length ≤ 1048576 := by omega
  refine c_rs (by kernel_rfl) ?_   -- region 3
  refine sr 1 rfl ?_
  refine s_op rfl (o_ex loud_n rfl (DrawIntOf_c r code _ hx h8 hl hr) ?_)
  rintro v1 st1 ⟨n, rfl, hn⟩ e1
  replace hx := hx.ex e1
  replace hr : ∀ j, r = some j → j < st1.n := fun j h => Nat.lt_of_lt_of_le (hr j h) e1.n
  refine sra rfl ?_
  refine c_rs (by kernel_rfl) ?_   -- region 4
  refine sr 1 rfl ?_
  refine s_op rfl (o_pure loud_n rfl (iIntOf_c ..) ?_)
  refine sra rfl ?_
  refine c_rs (by kernel_rfl) ?_   -- region 5
  refine sr 1 rfl ?_
  refine s_op rfl (o_ex loud_n rfl (DrawRefOf_c r code _ hx h8 hl hr) ?_)
  rintro v2 st2 ⟨k, a, rfl, hk, ha⟩ e2
  replace hx := hx.ex e2
  replace hr : ∀ j, r = some j → j < st2.n := fun j h => Nat.lt_of_lt_of_le (hr j h) e2.n
  refine sra rfl ?_
  refine c_rs (by kernel_rfl) ?_   -- region 6
  refine sr 2 rfl ?_
  refine s_op rfl (o_pure loud_n rfl (iRefOfG_c ..) ?_)
  refine sra rfl ?_
  refine c_rs (by kernel_rfl) ?_   -- region 7
  refine sr 1 rfl ?_
  refine s_op rfl (o_ex loud_n rfl (DrawValueOk_c r code _ hx h8 hl hr) ?_)
  rintro v3 st3 ⟨x, rfl, hxx⟩ e3
  replace hx := hx.ex e3
  replace hr : ∀ j, r = some j → j < st3.n := fun j h => Nat.lt_of_lt_of_le (hr j h) e3.n
  refine sra rfl ?_
  refine c_rs (by kernel_rfl) ?_   -- region 8
  refine sr 1 rfl ?_
  refine s_op rfl (o_ex loud_n rfl (DrawWrap_c r code _ hx h8 hl hr) ?_)
  rintro v4 st4 ⟨w, rfl, hw⟩ e4
  replace hx := hx.ex e4
  replace hr : ∀ j, r = some j → j < st4.n := fun j h => Nat.lt_of_lt_of_le (hr j h) e4.n
  refine sra rfl ?_
  refine c_seq ?_
  refine c_rs (by kernel_rfl) ?_   -- region 9
  refine sr 2 rfl ?_
  refine s_op rfl (o_pure loud_n rfl (IntOf_c ..) ?_)
  refine s_op rfl (oeq rfl (.v (.bool false)) (bN rfl) ?_)
  refine sr 4 rfl ?_
  refine s_op rfl (o_pure loud_n rfl (RefOfG_c ..) ?_)
  refine s_op rfl (oeq rfl (.v (.bool false)) (bN rfl) ?_)
  refine sr 3 rfl ?_
  refine s_op rfl (o_pure loud_n rfl (iValueOk_c ..) ?_)
  refine sr 1 rfl ?_
  refine s_op rfl (o_pure loud_n rfl (ValueOk_c ..) ?_)
  refine s_op rfl (oneB rfl rfl rfl rfl ?_)
  refine sr 3 rfl ?_
  refine s_op rfl (o_pure loud_n rfl (iWrap_c ..) ?_)
  refine sr 1 rfl ?_
  refine s_op rfl (o_pure loud_n rfl (Wrap_c ..) ?_)
  refine s_op rfl (oeq rfl (.v (.bool false)) (bN rfl) ?_)
  refine sra rfl ?_
  refine c_if_f rfl ?_
  refine c_skip ?_
  refine c_rs (by kernel_rfl) ?_   -- region 11
  refine sr 1 rfl ?_
  refine s_op rfl (o_ex loud_n rfl (DrawBoolOf_c r code _ hx h8 hl hr) ?_)
  rintro v5 st5 ⟨b, rfl⟩ e5
  replace hx := hx.ex e5
  replace hr : ∀ j, r = some j → j < st5.n := fun j h => Nat.lt_of_lt_of_le (hr j h) e5.n
  refine sra rfl ?_
  refine c_rs (by kernel_rfl) ?_   -- region 12
  refine sr 1 rfl ?_
  refine s_op rfl (o_ex loud_n rfl (DrawKind_c r code _ hx h8 hl hr) ?_)
  rintro v6 st6 ⟨y, rfl, hy⟩ e6
  replace hx := hx.ex e6
  replace hr : ∀ j, r = some j → j < st6.n := fun j h => Nat.lt_of_lt_of_le (hr j h) e6.n
  refine sr 1 rfl ?_
  refine s_op rfl (o_ex loud_n rfl (DrawNum_c r code _ hx h8 hl hr) ?_)
  rintro v7 st7 ⟨z, rfl, hz⟩ e7
  refine sra rfl ?_
  refine c_seq ?_
  refine c_rs (by kernel_rfl) ?_   -- region 13
  refine sr 1 rfl ?_
  refine s_op rfl (o_pure loud_n rfl (iKind_c ..) ?_)
  refine sr 1 rfl ?_
  refine s_op rfl (o_pure loud_n rfl (Kind_c ..) ?_)
  refine s_op rfl (oeq rfl (.v (.bool false)) (bN rfl) ?_)
  refine sr 2 rfl ?_
  refine s_op rfl (o_pure loud_n rfl (iNum_c ..) ?_)
  refine sr 1 rfl ?_
  refine s_op rfl (o_pure loud_n rfl (Num_c ..) ?_)
  refine s_op rfl (oeq rfl (.v (.bool false)) (bN rfl) ?_)
  refine sr 3 rfl ?_
  refine s_op rfl (o_pure loud_n rfl (iBoolOf_c ..) ?_)
  refine sr 1 rfl ?_
  refine s_op rfl (o_pure loud_n rfl (BoolOf_c ..) ?_)
  refine s_op rfl (oeq rfl (.v (.bool false)) (bN rfl) ?_)
  refine sra rfl ?_
  refine c_if_f rfl ?_
  refine c_skip ?_
  have hwb := wr_bd n
  have hvi := bdt.2 (vok_int n)
  refine c_sj (α := Unit) (fun _ => [(2, .bool true)]) (fun _ => []) (fun _ st' => True) ?_ ?_
  · refine c_region (by kernel_rfl) ?_   -- region 15
    refine sr 1 rfl ?_
    refine s_op rfl (o_pure loud_n rfl (iKind_c ..) ?_)
    refine s_op rfl (oeq rfl (.v (.bool true)) (bT (by omega)) ?_)
    refine sr 2 rfl ?_
    refine s_op rfl (o_pure loud_n rfl (iNum_c ..) ?_)
    refine sr 1 rfl ?_
    refine s_op rfl (o_pure loud_n rfl (iWrap_c ..) ?_)
    refine s_op rfl (oeq rfl (.v (.bool true)) (bT (by omega)) ?_)
    refine sr 3 rfl ?_
    refine s_op rfl (o_pure loud_n rfl (iValueOk_c ..) ?_)
    rw [hvi]
    refine sr 3 rfl ?_
    by_cases hc : (4 ≤ k ∧ k ≤ 7) ∧ (0 ≤ a ∧ a ≤ 1999)
    · have er : rfV k a = 8 * a + k := by unfold rfV; rw [if_pos hc]
      rw [er]
      have hvr := bdt.2 (vok_rf hc)
      refine s_op rfl (oeq rfl (.v (.bool false)) (bF (by omega)) ?_)
      refine sr 2 rfl ?_
      refine s_op rfl (o_pure loud_n rfl (iKind_c ..) ?_)
      refine sr 1 rfl ?_
      refine s_op rfl (oeq rfl (.v (.bool true)) (bT (by omega)) ?_)
      refine sr 2 rfl ?_
      refine s_op rfl (o_pure loud_n rfl (iNum_c ..) ?_)
      refine sr 1 rfl ?_
      refine s_op rfl (oeq rfl (.v (.bool true)) (bT (by omega)) ?_)
      refine sr 3 rfl ?_
      refine s_op rfl (o_pure loud_n rfl (iValueOk_c ..) ?_)
      rw [hvr]
      refine sr 5 rfl ?_
      refine s_op rfl (o_pure loud_n rfl (iWrap_c ..) ?_)
      refine s_op rfl (o_pure loud_n rfl (iWrap_c ..) ?_)
      refine sr 1 rfl ?_
      refine s_op rfl (o_pure loud_n rfl (iWrap_c ..) ?_)
      refine s_op rfl (oeq rfl (.v (.bool true)) (bT (wr_wr w)) ?_)
      refine sr 4 rfl ?_
      refine s_op rfl (o_pure loud_n rfl (iWrap_c ..) ?_)
      refine sr 1 rfl ?_
      refine s_op rfl (o_pure loud_n rfl (iWrap_c ..) ?_)
      refine s_op rfl (oeq rfl (.v (.bool true)) (bT (wr_up w)) ?_)
      exact sra rfl ⟨(), ⟨rfl, trivial⟩, trivial, trivial⟩
    · have er : rfV k a = 0 := by unfold rfV; rw [if_neg hc]
      rw [er]
      refine s_op rfl (oeq rfl (.v (.bool true)) (bT rfl) ?_)
      refine sr 19 rfl ?_
      refine s_op rfl (o_pure loud_n rfl (iWrap_c ..) ?_)
      refine s_op rfl (o_pure loud_n rfl (iWrap_c ..) ?_)
      refine sr 1 rfl ?_
      refine s_op rfl (o_pure loud_n rfl (iWrap_c ..) ?_)
      refine s_op rfl (oeq rfl (.v (.bool true)) (bT (wr_wr w)) ?_)
      refine sr 4 rfl ?_
      refine s_op rfl (o_pure loud_n rfl (iWrap_c ..) ?_)
      refine sr 1 rfl ?_
      refine s_op rfl (o_pure loud_n rfl (iWrap_c ..) ?_)
      refine s_op rfl (oeq rfl (.v (.bool true)) (bT (wr_up w)) ?_)
      exact sra rfl ⟨(), ⟨rfl, trivial⟩, trivial, trivial⟩
  rintro _ _ _
  exact c_ret (fr rfl rfl)
end Go.Proofs.YtfhkjhnaihhdmaaW.Ax
