/- References; texts that are looked for: walked. -/
import Derived.Test.YtfhkjhnaihhdmaaYn
namespace Go.Proofs.YtfhkjhnaihhdmaaW.Ax
open Go Go.RowKit Go.Proofs Go.Proofs.Ytfhkjhnaihhdmaa.Pure
set_option linter.unusedVariables false
set_option maxRecDepth 100000

/-- A value of a kind that leads to a place. -/
theorem RefOf_c (k a : Int) (st : St) (hk : 4 ≤ k ∧ k ≤ 7) (ha : 0 ≤ a ∧ a ≤ 1999) : ACalls Try.prog 17 [I k, I a] st No (Pure1 (I (8 * a + k)) st) := by
  refine ent (N := 17) Try.func17 rfl (by decide) rfl rfl rfl ?_
  refine crr (by kernel_rfl) rfl ?_   -- region 0
  refine c_seq ?_
  refine c_rs (by kernel_rfl) ?_   -- region 1
  refine sr 1 rfl ?_
  refine s_op rfl (o_pure loud_n rfl (l1In_c ..) ?_)
  rw [decide_eq_true hk]
  refine sr 3 rfl ?_
  refine s_op rfl (o_pure loud_n rfl (l1In_c ..) ?_)
  rw [decide_eq_true ha]
  refine sra rfl ?_
  refine c_if_f rfl ?_
  refine c_skip ?_
  refine c_rs (by kernel_rfl) ?_   -- region 3
  refine sr 1 rfl ?_
  refine s_op rfl (o_ar rfl rfl rfl (by omega) (by omega) ?_)
  refine sr 1 rfl ?_
  refine s_op rfl (o_ar rfl rfl rfl (by omega) (by omega) ?_)
  refine sra rfl ?_
  exact c_ret (fr rfl ⟨rfl, rfl⟩)
theorem iRefOf_c (k a : Int) (st : St) (hk : 4 ≤ k ∧ k ≤ 7) (ha : 0 ≤ a ∧ a ≤ 1999) : ACalls Try.prog 13 [I k, I a] st No (Pure1 (I (8 * a + k)) st) := by
  refine ent (N := 17) Try.func13 rfl (by decide) rfl rfl rfl ?_
  refine crr (by kernel_rfl) rfl ?_   -- region 0
  refine c_seq ?_
  refine c_rs (by kernel_rfl) ?_   -- region 1
  refine sr 1 rfl ?_
  refine s_op rfl (o_pure loud_n rfl (within_c ..) ?_)
  rw [decide_eq_true hk]
  refine sr 3 rfl ?_
  refine s_op rfl (o_pure loud_n rfl (within_c ..) ?_)
  rw [decide_eq_true ha]
  refine sra rfl ?_
  refine c_if_f rfl ?_
  refine c_skip ?_
  refine c_rs (by kernel_rfl) ?_   -- region 3
  refine sr 1 rfl ?_
  refine s_op rfl (o_ar rfl rfl rfl (by omega) (by omega) ?_)
  refine sr 1 rfl ?_
  refine s_op rfl (o_ar rfl rfl rfl (by omega) (by omega) ?_)
  refine sra rfl ?_
  exact c_ret (fr rfl ⟨rfl, rfl⟩)
end Go.Proofs.YtfhkjhnaihhdmaaW.Ax
