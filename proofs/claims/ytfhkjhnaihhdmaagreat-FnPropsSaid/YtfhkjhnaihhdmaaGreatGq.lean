/- Objects that are drawn. -/
import Derived.Test.YtfhkjhnaihhdmaaGreatQ9
namespace Go.Proofs.YtfhkjhnaihhdmaaGreatW.Ax
open Go Go.RowKit Go.Proofs Go.Proofs.YtfhkjhnaihhdmaaGreat.Pure
set_option linter.unusedVariables false
set_option maxRecDepth 100000

def SlT1 : AV → St → Prop := fun v st' => ∃ q o l x, v = .tup [.agg [.sl q o l.length], I x] ∧ At st' q o l ∧ l.length ≤ 2001
def SlT2 : AV → St → Prop := fun v st' => ∃ q o l x y, v = .tup [.agg [.sl q o l.length], I x, I y] ∧ At st' q o l ∧ l.length ≤ 2001
def SlT3 : AV → St → Prop := fun v st' => ∃ q o l x y z, v = .tup [.agg [.sl q o l.length], I x, I y, I z] ∧ At st' q o l ∧ l.length ≤ 2001
section
variable (r : Option Nat) (code : List Int) (st : St) (hx : AtB st r 0 code) (h8 : U8 code) (hl : code.length ≤ 1048576) (hr : ∀ j, r = some j → j < st.n)
include hx h8 hl hr
theorem l5DrawThree_c : ACalls Tryz.prog 123 [.sl r 0 code.length] st No SlT3 := by
  refine ent (N := 30) Tryz.func123 rfl (by decide) rfl rfl rfl ?_
  refine crr (by kernel_rfl) rfl ?_   -- region 0
  refine c_rs (by kernel_rfl) ?_   -- region 1
  refine sr 1 rfl ?_
  refine s_op rfl (o_ex loud_n rfl (l1New_c st.n r code _ hx h8 hl (Nat.le_refl _) hr) ?_)
  rintro v1 st1 ⟨k, rfl, hk, hc1⟩ e1
  have hk1 := hc1.bd
  refine sra rfl ?_
  refine c_rs (by kernel_rfl) ?_   -- region 2
  refine sr 1 rfl ?_
  refine s_op rfl (o_call rfl (l3Draw_c st.n k r code _ hc1) (fun i hi e => absurd hi (by omega)) (.inl rfl) ?_)
  rintro v2 st2 ⟨q, o, l, p, R, rfl, S2, hc2⟩ e2
  have hlen := S2.len
  have hR2 := S2.R2
  refine sra rfl ?_
  refine c_rs (by kernel_rfl) ?_   -- region 3
  refine sr 2 rfl ?_
  refine s_op rfl (o_call rfl (l3DrawOf_c st.n k r code p R 5 _ hc2 S2.fR.at_ (fun j hj => by have := S2.fR.bd j hj; omega) (by omega)) (fun i hi e => absurd hi (by omega)) (.inl rfl) ?_)
  rintro v3 st3 ⟨x, rfl, _, hc3⟩ e3
  have S3 := S2.cur hk1.2 e3
  refine sra rfl ?_
  refine c_rs (by kernel_rfl) ?_   -- region 4
  refine sr 2 rfl ?_
  refine s_op rfl (o_call rfl (l3DrawOf_c st.n k r code p R 4 _ hc3 S3.fR.at_ (fun j hj => by have := S3.fR.bd j hj; omega) (by omega)) (fun i hi e => absurd hi (by omega)) (.inl rfl) ?_)
  rintro v4 st4 ⟨y, rfl, _, hc4⟩ e4
  have S4 := S3.cur hk1.2 e4
  refine sra rfl ?_
  refine cdx [7] [] [0, 1, 2, 3, 4, 5] [false, false, false, false, false, true] [6, 7, 8, 9] [.n, .q, .q, .q] (by kernel_rfl) (by kernel_rfl) ?_   -- region 5
  refine yr 5 rfl ?_
  refine y_b rfl rfl (b_call rfl (l3DrawValue_c st.n k r code p R _ hc4 S4.fR.at_ (fun j hj => by have := S4.fR.bd j hj; omega) (by omega)) (fun i hi e => absurd hi (by omega)) ?_)
  rintro v5 st5 ⟨z, rfl, _, hc5⟩ e5
  have S5 := S4.cur hk1.2 e5
  refine y_end ?_
  refine sra rfl ?_
  exact c_ret (fr rfl ⟨q, o, l, x, y, z, rfl, S5.at_, hlen⟩)
theorem DrawPropSet_c : ACalls Tryz.prog 45 [.sl r 0 code.length] st No SlT3 := by
  refine ent (N := 21) Tryz.func45 rfl (by decide) rfl rfl rfl ?_
  refine crr (by kernel_rfl) rfl ?_   -- region 0
  refine c_rs (by kernel_rfl) ?_   -- region 1
  refine sr 1 rfl ?_
  refine s_op rfl (o_ex loud_n rfl (l5DrawThree_c r code _ hx h8 hl hr) ?_)
  rintro v1 st1 ⟨q, o, l, x, y, z, rfl, h1, h2⟩ e1
  refine sra rfl ?_
  refine crr (by kernel_rfl) rfl ?_   -- region 2
  exact c_ret (fr rfl ⟨q, o, l, x, y, z, rfl, h1, h2⟩)
theorem DrawLook_c : ACalls Tryz.prog 56 [.sl r 0 code.length] st No SlT2 := by
  refine ent (N := 19) Tryz.func56 rfl (by decide) rfl rfl rfl ?_
  refine crr (by kernel_rfl) rfl ?_   -- region 0
  refine c_rs (by kernel_rfl) ?_   -- region 1
  refine sr 1 rfl ?_
  refine s_op rfl (o_ex loud_n rfl (l5DrawThree_c r code _ hx h8 hl hr) ?_)
  rintro v1 st1 ⟨q, o, l, x, y, z, rfl, h1, h2⟩ e1
  refine sra rfl ?_
  refine crr (by kernel_rfl) rfl ?_   -- region 2
  exact c_ret (fr rfl ⟨q, o, l, x, y, rfl, h1, h2⟩)
theorem DrawProtoSet_c : ACalls Tryz.prog 53 [.sl r 0 code.length] st No SlT2 := by
  refine ent (N := 24) Tryz.func53 rfl (by decide) rfl rfl rfl ?_
  refine crr (by kernel_rfl) rfl ?_   -- region 0
  refine c_rs (by kernel_rfl) ?_   -- region 1
  refine sr 1 rfl ?_
  refine s_op rfl (o_ex loud_n rfl (l1New_c st.n r code _ hx h8 hl (Nat.le_refl _) hr) ?_)
  rintro v1 st1 ⟨k, rfl, hk, hc1⟩ e1
  have hk1 := hc1.bd
  refine sra rfl ?_
  refine c_rs (by kernel_rfl) ?_   -- region 2
  refine sr 1 rfl ?_
  refine s_op rfl (o_call rfl (l3Draw_c st.n k r code _ hc1) (fun i hi e => absurd hi (by omega)) (.inl rfl) ?_)
  rintro v2 st2 ⟨q, o, l, p, R, rfl, S2, hc2⟩ e2
  have hlen := S2.len
  have hR2 := S2.R2
  refine sra rfl ?_
  refine c_rs (by kernel_rfl) ?_   -- region 3
  refine sr 2 rfl ?_
  refine s_op rfl (o_call rfl (l3DrawOf_c st.n k r code p R 5 _ hc2 S2.fR.at_ (fun j hj => by have := S2.fR.bd j hj; omega) (by omega)) (fun i hi e => absurd hi (by omega)) (.inl rfl) ?_)
  rintro v3 st3 ⟨x, rfl, _, hc3⟩ e3
  have S3 := S2.cur hk1.2 e3
  refine sra rfl ?_
  refine cdx [6] [] [0, 1, 2, 3, 4] [false, false, false, false, true] [5, 6, 7] [.n, .q, .q] (by kernel_rfl) (by kernel_rfl) ?_   -- region 4
  refine yr 4 rfl ?_
  refine y_b rfl rfl (b_call rfl (l3DrawOf_c st.n k r code p R 5 _ hc3 S3.fR.at_ (fun j hj => by have := S3.fR.bd j hj; omega) (by omega)) (fun i hi e => absurd hi (by omega)) ?_)
  rintro v4 st4 ⟨y, rfl, _, hc4⟩ e4
  have S4 := S3.cur hk1.2 e4
  refine y_end ?_
  refine sra rfl ?_
  exact c_ret (fr rfl ⟨q, o, l, x, y, rfl, S4.at_, hlen⟩)
theorem DrawObjNew_c : ACalls Tryz.prog 58 [.sl r 0 code.length] st No SlT1 := by
  refine ent (N := 21) Tryz.func58 rfl (by decide) rfl rfl rfl ?_
  refine crr (by kernel_rfl) rfl ?_   -- region 0
  refine c_rs (by kernel_rfl) ?_   -- region 1
  refine sr 1 rfl ?_
  refine s_op rfl (o_ex loud_n rfl (l1New_c st.n r code _ hx h8 hl (Nat.le_refl _) hr) ?_)
  rintro v1 st1 ⟨k, rfl, hk, hc1⟩ e1
  have hk1 := hc1.bd
  refine sra rfl ?_
  refine c_rs (by kernel_rfl) ?_   -- region 2
  refine sr 1 rfl ?_
  refine s_op rfl (o_call rfl (l3Draw_c st.n k r code _ hc1) (fun i hi e => absurd hi (by omega)) (.inl rfl) ?_)
  rintro v2 st2 ⟨q, o, l, p, R, rfl, S2, hc2⟩ e2
  have hlen := S2.len
  have hR2 := S2.R2
  refine sra rfl ?_
  refine c_seq ?_
  refine c_rs (by kernel_rfl) ?_   -- region 3
  refine sr 1 rfl ?_
  refine s_op rfl (o_call rfl (l1Once_c st.n k r code 3 _ hc2 (by decide)) (fun i hi e => absurd hi (by omega)) (.inl rfl) ?_)
  rintro v3 st3 ⟨b3, rfl, hc3⟩ e3
  have S3 := S2.cur hk1.2 e3
  refine s_end ?_
  refine c_if rfl (fun h15 => ?_) (fun h15 => ?_)
  · refine crr (by kernel_rfl) rfl ?_   -- region 4
    exact c_ret (fr rfl ⟨q, o, l, 1, rfl, S3.at_, hlen⟩)
  · refine c_skip ?_
    refine cdx [5] [] [0, 1, 2, 3] [false, false, false, true] [4, 5] [.n, .q] (by kernel_rfl) (by kernel_rfl) ?_   -- region 5
    refine yr 3 rfl ?_
    refine y_b rfl rfl (b_call rfl (l3DrawOf_c st.n k r code p R 5 _ hc3 S3.fR.at_ (fun j hj => by have := S3.fR.bd j hj; omega) (by omega)) (fun i hi e => absurd hi (by omega)) ?_)
    rintro v4 st4 ⟨y, rfl, _, hc4⟩ e4
    have S4 := S3.cur hk1.2 e4
    refine y_end ?_
    refine sra rfl ?_
    exact c_ret (fr rfl ⟨q, o, l, y, rfl, S4.at_, hlen⟩)
end
end Go.Proofs.YtfhkjhnaihhdmaaGreatW.Ax
