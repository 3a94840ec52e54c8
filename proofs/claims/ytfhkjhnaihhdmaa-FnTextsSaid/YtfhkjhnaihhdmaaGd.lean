/- Values: numbers that go round, references, and what is drawn of them. -/
import Derived.Test.YtfhkjhnaihhdmaaGa
import Derived.Test.YtfhkjhnaihhdmaaYo
namespace Go.Proofs.YtfhkjhnaihhdmaaW.Ax
open Go Go.RowKit Go.Proofs Go.Proofs.Ytfhkjhnaihhdmaa.Pure
set_option linter.unusedVariables false
set_option maxRecDepth 100000

/-- A number that goes round at 32 bits. -/
def wr (n : Int) : Int := (n + 2147483648) % 4294967296 - 2147483648
theorem wr_bd (n : Int) : -2147483648 ≤ wr n ∧ wr n ≤ 2147483647 := by unfold wr; omega
theorem wr_wr (n : Int) : wr (wr n) = wr n := by unfold wr; omega
theorem wr_up (n : Int) : wr (IntKind.i64.wrap (n + 4294967296)) = wr n := by rw [IntKind.wrap_i64]; unfold wr; omega
def rfV (k a : Int) : Int := if (4 ≤ k ∧ k ≤ 7) ∧ (0 ≤ a ∧ a ≤ 1999) then 8 * a + k else 0
theorem Wrap_c (n : Int) (st : St) : ACalls Try.prog 21 [I n] st No (Pure1 (I (wr n)) st) := by
  have e : IntKind.i64.wrap (n % 4294967296 - 4294967296) = n % 4294967296 - 4294967296 := by rw [IntKind.wrap_i64]; omega
  refine ent (N := 11) Try.func21 rfl (by decide) rfl rfl rfl ?_
  refine crr (by kernel_rfl) rfl ?_   -- region 0
  refine crr (by kernel_rfl) rfl ?_   -- region 1
  refine c_seq ?_
  refine crr (by kernel_rfl) rfl ?_   -- region 2
  refine c_if rfl (fun h7 => ?_) (fun h7 => ?_)
  · have h7 := of_decide_eq_true h7
    have h7 : 2147483647 < n % 4294967296 := h7
    refine crr (by kernel_rfl) rfl ?_   -- region 3
    refine c_ret (fr rfl ⟨?_, rfl⟩)
    show I (IntKind.i64.wrap (n % 4294967296 - 4294967296)) = I (wr n)
    rw [e]; congr 1; unfold wr; omega
  · have h7 := of_decide_eq_false h7
    have h7 : ¬ 2147483647 < n % 4294967296 := h7
    refine c_skip ?_
    refine crr (by kernel_rfl) rfl ?_   -- region 4
    refine c_ret (fr rfl ⟨?_, rfl⟩)
    show I (n % 4294967296) = I (wr n)
    congr 1; unfold wr; omega
theorem iWrap_c (n : Int) (st : St) : ACalls Try.prog 20 [I n] st No (Pure1 (I (wr n)) st) := by
  refine ent (N := 6) Try.func20 rfl (by decide) rfl rfl rfl ?_
  refine crr (by kernel_rfl) rfl ?_   -- region 0
  refine crr (by kernel_rfl) rfl ?_   -- region 1
  refine c_ret (fr rfl ⟨?_, rfl⟩)
  show I (IntKind.i64.wrap (IntKind.i32.wrap n)) = I (wr n)
  congr 1
  rw [IntKind.wrap_i64, IntKind.wrap_i32]; unfold wr; omega
theorem IntOf_c (n : Int) (st : St) : ACalls Try.prog 16 [I n] st No (Pure1 (I (8 * wr n + 3)) st) := by
  have := wr_bd n
  refine ent (N := 7) Try.func16 rfl (by decide) rfl rfl rfl ?_
  refine crr (by kernel_rfl) rfl ?_   -- region 0
  refine c_rs (by kernel_rfl) ?_   -- region 1
  refine sr 1 rfl ?_
  refine s_op rfl (o_pure loud_n rfl (Wrap_c ..) ?_)
  refine s_op rfl (o_ar rfl rfl rfl (by omega) (by omega) ?_)
  refine s_op rfl (o_ar rfl rfl rfl (by omega) (by omega) ?_)
  refine sra rfl ?_
  exact c_ret (fr rfl ⟨rfl, rfl⟩)
theorem iIntOf_c (n : Int) (st : St) : ACalls Try.prog 11 [I n] st No (Pure1 (I (8 * wr n + 3)) st) := by
  have := wr_bd n
  refine ent (N := 7) Try.func11 rfl (by decide) rfl rfl rfl ?_
  refine crr (by kernel_rfl) rfl ?_   -- region 0
  refine c_rs (by kernel_rfl) ?_   -- region 1
  refine sr 1 rfl ?_
  refine s_op rfl (o_pure loud_n rfl (iWrap_c ..) ?_)
  refine s_op rfl (o_ar rfl rfl rfl (by omega) (by omega) ?_)
  refine s_op rfl (o_ar rfl rfl rfl (by omega) (by omega) ?_)
  refine sra rfl ?_
  exact c_ret (fr rfl ⟨rfl, rfl⟩)
theorem BoolOf_c (b : Bool) (st : St) : ACalls Try.prog 30 [.bool b] st No (Pure1 (I (cond b 10 2)) st) := by
  refine ent (N := 4) Try.func30 rfl (by decide) rfl rfl rfl ?_
  refine crr (by kernel_rfl) rfl ?_   -- region 0
  refine c_seq ?_
  refine crr (by kernel_rfl) rfl ?_   -- region 1
  refine c_if rfl (fun h => ?_) (fun h => ?_)
  · have h : b = true := h
    subst h
    refine crr (by kernel_rfl) rfl ?_   -- region 2
    exact c_ret (fr rfl ⟨rfl, rfl⟩)
  · have h : b = false := h
    subst h
    refine c_skip ?_
    refine crr (by kernel_rfl) rfl ?_   -- region 3
    exact c_ret (fr rfl ⟨rfl, rfl⟩)
theorem iBoolOf_c (b : Bool) (st : St) : ACalls Try.prog 29 [.bool b] st No (Pure1 (I (cond b 10 2)) st) := by
  refine ent (N := 4) Try.func29 rfl (by decide) rfl rfl rfl ?_
  refine crr (by kernel_rfl) rfl ?_   -- region 0
  refine c_seq ?_
  refine crr (by kernel_rfl) rfl ?_   -- region 1
  refine c_if rfl (fun h => ?_) (fun h => ?_)
  · have h : b = true := h
    subst h
    refine crr (by kernel_rfl) rfl ?_   -- region 2
    exact c_ret (fr rfl ⟨rfl, rfl⟩)
  · have h : b = false := h
    subst h
    refine c_skip ?_
    refine crr (by kernel_rfl) rfl ?_   -- region 3
    exact c_ret (fr rfl ⟨rfl, rfl⟩)
theorem RefOfG_c (k a : Int) (st : St) : ACalls Try.prog 17 [I k, I a] st No (Pure1 (I (rfV k a)) st) := by
  by_cases hc : (4 ≤ k ∧ k ≤ 7) ∧ (0 ≤ a ∧ a ≤ 1999)
  · unfold rfV; rw [if_pos hc]; exact RefOf_c k a st hc.1 hc.2
  unfold rfV; rw [if_neg hc]
  refine ent (N := 17) Try.func17 rfl (by decide) rfl rfl rfl ?_
  refine crr (by kernel_rfl) rfl ?_   -- region 0
  refine c_seq ?_
  refine c_rs (by kernel_rfl) ?_   -- region 1
  refine sr 1 rfl ?_
  refine s_op rfl (o_pure loud_n rfl (l1In_c ..) ?_)
  by_cases hk : 4 ≤ k ∧ k ≤ 7
  · rw [decide_eq_true hk]
    refine sr 3 rfl ?_
    refine s_op rfl (o_pure loud_n rfl (l1In_c ..) ?_)
    rw [decide_eq_false (fun h => hc ⟨hk, h⟩)]
    refine sra rfl ?_
    refine c_if_t rfl ?_
    refine crr (by kernel_rfl) rfl ?_   -- region 2
    exact c_ret (fr rfl ⟨rfl, rfl⟩)
  · rw [decide_eq_false hk]
    refine sra rfl ?_
    refine c_if_t rfl ?_
    refine crr (by kernel_rfl) rfl ?_   -- region 2
    exact c_ret (fr rfl ⟨rfl, rfl⟩)
theorem iRefOfG_c (k a : Int) (st : St) : ACalls Try.prog 13 [I k, I a] st No (Pure1 (I (rfV k a)) st) := by
  by_cases hc : (4 ≤ k ∧ k ≤ 7) ∧ (0 ≤ a ∧ a ≤ 1999)
  · unfold rfV; rw [if_pos hc]; exact iRefOf_c k a st hc.1 hc.2
  unfold rfV; rw [if_neg hc]
  refine ent (N := 17) Try.func13 rfl (by decide) rfl rfl rfl ?_
  refine crr (by kernel_rfl) rfl ?_   -- region 0
  refine c_seq ?_
  refine c_rs (by kernel_rfl) ?_   -- region 1
  refine sr 1 rfl ?_
  refine s_op rfl (o_pure loud_n rfl (within_c ..) ?_)
  by_cases hk : 4 ≤ k ∧ k ≤ 7
  · rw [decide_eq_true hk]
    refine sr 3 rfl ?_
    refine s_op rfl (o_pure loud_n rfl (within_c ..) ?_)
    rw [decide_eq_false (fun h => hc ⟨hk, h⟩)]
    refine sra rfl ?_
    refine c_if_t rfl ?_
    refine crr (by kernel_rfl) rfl ?_   -- region 2
    exact c_ret (fr rfl ⟨rfl, rfl⟩)
  · rw [decide_eq_false hk]
    refine sra rfl ?_
    refine c_if_t rfl ?_
    refine crr (by kernel_rfl) rfl ?_   -- region 2
    exact c_ret (fr rfl ⟨rfl, rfl⟩)
def DvI : AV → St → Prop := fun v _ => ∃ x, v = I x ∧ W1 x
def DvB : AV → St → Prop := fun v _ => ∃ x, v = .bool x
def DvII : AV → St → Prop := fun v _ => ∃ x y, v = .tup [I x, I y] ∧ (-1 ≤ x ∧ x ≤ 8) ∧ W1 y
section
variable (r : Option Nat) (code : List Int) (st : St) (hx : AtB st r 0 code) (h8 : U8 code) (hl : code.length ≤ 1048576) (hr : ∀ j, r = some j → j < st.n)
include hx h8 hl hr
theorem DrawWrap_c : ACalls Try.prog 15 [.sl r 0 code.length] st No DvI := by
  refine ent (N := 6) Try.func15 rfl (by decide) rfl rfl rfl ?_
  refine crr (by kernel_rfl) rfl ?_   -- region 0
  refine c_rs (by kernel_rfl) ?_   -- region 1
  refine sr 1 rfl ?_
  refine s_op rfl (o_ex loud_n rfl (l1New_c st.n r code _ hx h8 hl (Nat.le_refl _) hr) ?_)
  rintro v1 st1 ⟨k, rfl, hk, hc1⟩ e1
  refine s_op rfl (o_call rfl (l1DrawNum_c st.n k r code _ hc1) (fun i hi e => absurd hi (by omega)) (.inl rfl) ?_)
  rintro v2 st2 ⟨x, rfl, hx, hc2⟩ e2
  refine sra rfl ?_
  exact c_ret (fr rfl ⟨x, rfl, hx⟩)
theorem DrawIntOf_c : ACalls Try.prog 10 [.sl r 0 code.length] st No DvI := by
  refine ent (N := 6) Try.func10 rfl (by decide) rfl rfl rfl ?_
  refine crr (by kernel_rfl) rfl ?_   -- region 0
  refine c_rs (by kernel_rfl) ?_   -- region 1
  refine sr 1 rfl ?_
  refine s_op rfl (o_ex loud_n rfl (l1New_c st.n r code _ hx h8 hl (Nat.le_refl _) hr) ?_)
  rintro v1 st1 ⟨k, rfl, hk, hc1⟩ e1
  refine s_op rfl (o_call rfl (l1DrawNum_c st.n k r code _ hc1) (fun i hi e => absurd hi (by omega)) (.inl rfl) ?_)
  rintro v2 st2 ⟨x, rfl, hx, hc2⟩ e2
  refine sra rfl ?_
  exact c_ret (fr rfl ⟨x, rfl, hx⟩)
theorem DrawKind_c : ACalls Try.prog 23 [.sl r 0 code.length] st No DvI := by
  refine ent (N := 6) Try.func23 rfl (by decide) rfl rfl rfl ?_
  refine crr (by kernel_rfl) rfl ?_   -- region 0
  refine c_rs (by kernel_rfl) ?_   -- region 1
  refine sr 1 rfl ?_
  refine s_op rfl (o_ex loud_n rfl (l1New_c st.n r code _ hx h8 hl (Nat.le_refl _) hr) ?_)
  rintro v1 st1 ⟨k, rfl, hk, hc1⟩ e1
  refine s_op rfl (o_call rfl (l1DrawAny_c st.n k r code _ hc1) (fun i hi e => absurd hi (by omega)) (.inl rfl) ?_)
  rintro v2 st2 ⟨x, rfl, hx, hc2⟩ e2
  refine sra rfl ?_
  exact c_ret (fr rfl ⟨x, rfl, hx⟩)
theorem DrawNum_c : ACalls Try.prog 24 [.sl r 0 code.length] st No DvI := by
  refine ent (N := 6) Try.func24 rfl (by decide) rfl rfl rfl ?_
  refine crr (by kernel_rfl) rfl ?_   -- region 0
  refine c_rs (by kernel_rfl) ?_   -- region 1
  refine sr 1 rfl ?_
  refine s_op rfl (o_ex loud_n rfl (l1New_c st.n r code _ hx h8 hl (Nat.le_refl _) hr) ?_)
  rintro v1 st1 ⟨k, rfl, hk, hc1⟩ e1
  refine s_op rfl (o_call rfl (l1DrawAny_c st.n k r code _ hc1) (fun i hi e => absurd hi (by omega)) (.inl rfl) ?_)
  rintro v2 st2 ⟨x, rfl, hx, hc2⟩ e2
  refine sra rfl ?_
  exact c_ret (fr rfl ⟨x, rfl, hx⟩)
theorem DrawValueOk_c : ACalls Try.prog 14 [.sl r 0 code.length] st No DvI := by
  refine ent (N := 6) Try.func14 rfl (by decide) rfl rfl rfl ?_
  refine crr (by kernel_rfl) rfl ?_   -- region 0
  refine c_rs (by kernel_rfl) ?_   -- region 1
  refine sr 1 rfl ?_
  refine s_op rfl (o_ex loud_n rfl (l1New_c st.n r code _ hx h8 hl (Nat.le_refl _) hr) ?_)
  rintro v1 st1 ⟨k, rfl, hk, hc1⟩ e1
  refine s_op rfl (o_call rfl (l1DrawAny_c st.n k r code _ hc1) (fun i hi e => absurd hi (by omega)) (.inl rfl) ?_)
  rintro v2 st2 ⟨x, rfl, hx, hc2⟩ e2
  refine sra rfl ?_
  exact c_ret (fr rfl ⟨x, rfl, hx⟩)
theorem DrawBoolOf_c : ACalls Try.prog 22 [.sl r 0 code.length] st No DvB := by
  refine ent (N := 6) Try.func22 rfl (by decide) rfl rfl rfl ?_
  refine crr (by kernel_rfl) rfl ?_   -- region 0
  refine c_rs (by kernel_rfl) ?_   -- region 1
  refine sr 1 rfl ?_
  refine s_op rfl (o_ex loud_n rfl (l1New_c st.n r code _ hx h8 hl (Nat.le_refl _) hr) ?_)
  rintro v1 st1 ⟨k, rfl, hk, hc1⟩ e1
  refine s_op rfl (o_call rfl (l1Once_c st.n k r code 2 _ hc1 (by decide)) (fun i hi e => absurd hi (by omega)) (.inl rfl) ?_)
  rintro v2 st2 ⟨x, rfl, hc2⟩ e2
  refine sra rfl ?_
  exact c_ret (fr rfl ⟨x, rfl⟩)
theorem DrawRefOf_c : ACalls Try.prog 12 [.sl r 0 code.length] st No DvII := by
  refine ent (N := 14) Try.func12 rfl (by decide) rfl rfl rfl ?_
  refine crr (by kernel_rfl) rfl ?_   -- region 0
  refine c_rs (by kernel_rfl) ?_   -- region 1
  refine sr 1 rfl ?_
  refine s_op rfl (o_ex loud_n rfl (l1New_c st.n r code _ hx h8 hl (Nat.le_refl _) hr) ?_)
  rintro v1 st1 ⟨k, rfl, hk, hc1⟩ e1
  refine sra rfl ?_
  refine c_rs (by kernel_rfl) ?_   -- region 2
  refine sr 1 rfl ?_
  refine s_op rfl (o_call rfl (l1Below_c st.n k r code 10 _ hc1 (by decide)) (fun i hi e => absurd hi (by omega)) (.inl rfl) ?_)
  rintro v2 st2 ⟨x, rfl, hx, hc2⟩ e2
  have hx := hx.1 (by decide)
  refine s_op rfl (o_ar rfl rfl rfl (by omega) (by omega) ?_)
  refine sra rfl ?_
  refine c_rs (by kernel_rfl) ?_   -- region 3
  refine sr 2 rfl ?_
  refine s_op rfl (o_call rfl (l1DrawNum_c st.n k r code _ hc2) (fun i hi e => absurd hi (by omega)) (.inl rfl) ?_)
  rintro v3 st3 ⟨y, rfl, hy, hc3⟩ e3
  refine sra rfl ?_
  exact c_ret (fr rfl ⟨x - 1, y, rfl, by omega, hy⟩)
end
end Go.Proofs.YtfhkjhnaihhdmaaW.Ax
