/- Some of the values of a heap that is drawn. -/
import Derived.Test.YtfhkjhnaihhdmaaGreatQ9
namespace Go.Proofs.YtfhkjhnaihhdmaaGreatW.Ax
open Go Go.RowKit Go.Proofs Go.Proofs.YtfhkjhnaihhdmaaGreat.Pure
set_option linter.unusedVariables false
set_option maxRecDepth 100000

/-- Some values of a new row, and the cursor gone on. -/
def SomP (n0 n1 k : Nat) (r : Option Nat) (code : List Int) : AV → St → Prop := fun v st' => ∃ p' R', v = .sl p' 0 R'.length ∧ Fr n1 st' p' R' ∧ R'.length ≤ 4 ∧ CuE n0 k r code st'
theorem l7DrawSome_c (n0 k : Nat) (r : Option Nat) (code : List Int) (p : Option Nat) (R : List Int) (st : St) (hc : CuE n0 k r code st) (hx : At st p 0 R) (hp : ∀ j, p = some j → j ≠ k ∧ j < st.n) (hl : R.length ≤ 65536) : ACalls Tryz.prog 139 [.ptr (some k) 0, .sl p 0 R.length] st (fun j => j = k) (SomP n0 st.n k r code) := by
  have hk := hc.bd
  refine ent (N := 30) Tryz.func139 rfl (by decide) rfl rfl rfl ?_
  refine crr (by kernel_rfl) rfl ?_   -- region 0
  refine c_rs (by kernel_rfl) ?_   -- region 1
  refine s_op rfl (obsl0 loud_n rfl ?_)
  refine sra rfl ?_
  refine c_seq ?_
  refine crr (by kernel_rfl) rfl ?_   -- region 2
  refine c_block ?_
  refine c_lp (α := Nat × (Option Nat × List Int)) (fun i => [(0, .ptr (some k) 0), (1, .sl p 0 R.length), (5, .sl i.2.1 0 i.2.2.length), (6, I i.1)]) (fun _ => [])
    (fun i st' => CuE n0 k r code st' ∧ At st' p 0 R ∧ Fr st.n st' i.2.1 i.2.2 ∧ i.2.2.length ≤ i.1 ∧ i.1 ≤ 4 ∧ st.n ≤ st'.n) (fun i => 4 - i.1) (0, (none, [])) ⟨rfl, rfl, rfl, rfl, trivial⟩ trivial ⟨hc, hx, .inl ⟨rfl, rfl⟩, Nat.le_refl _, by decide, Nat.le_refl _⟩ ?_
  rintro ⟨i, ⟨q, L⟩⟩ st1 ⟨hc1, hx1, hf1, hL, hi, hn1⟩
  dsimp only at *
  refine c_seq ?_
  refine c_sj (α := Bool) (fun b => [(0, .ptr (some k) 0), (1, .sl p 0 R.length), (5, .sl q 0 L.length), (6, I i), (16, .bool b)]) (fun _ => []) (fun b st' => CuE n0 k r code st' ∧ At st' p 0 R ∧ Fr st.n st' q L ∧ st.n ≤ st'.n ∧ (b = true → i < 4 ∧ 0 < R.length)) ?_ ?_
  · -- region 3
    refine c_region (by kernel_rfl) ?_
    refine sr 2 rfl ?_
    refine s_op rfl (o_call rfl (l1Below_c n0 k r code 5 _ hc1 (by decide)) (fun _ _ h => h) (.inl rfl) ?_)
    rintro v2 st2 ⟨x, rfl, hxx, hc2⟩ e2
    have hxx := hxx.1 (by decide)
    have hx2 := hx1.cu (fun j hj => (hp j hj).1) e2
    have hf2 := hf1.cu hk.2 e2
    have hn2 := e2.n
    refine sr 2 rfl ?_
    refine s_bool 12 rfl rfl (fun h12 => ?_) (fun h12 => ?_)
    · -- slot 12 true
      have h12 := of_decide_eq_true h12
      refine sra rfl ⟨_, ⟨rfl, rfl, rfl, rfl, rfl, trivial⟩, trivial, hc2, hx2, hf2, by omega, fun h => ?_⟩
      have h := of_decide_eq_true h
      omega
    · -- slot 12 false
      exact sra rfl ⟨false, ⟨rfl, rfl, rfl, rfl, rfl, trivial⟩, trivial, hc2, hx2, hf2, by omega, fun h => by cases h⟩
  rintro b st2 ⟨hc2, hx2, hf2, hn2, hb⟩
  refine c_if rfl (fun h16 => ?_) (fun h16 => ?_)
  · -- then
    obtain ⟨hi4, hR⟩ := hb h16
    refine c_skip ?_
    refine c_seq ?_
    refine c_block ?_
    refine c_region (by kernel_rfl) ?_   -- region 5
    refine sr 5 rfl ?_
    refine s_op rfl (o_call rfl (l1Below_c n0 k r code R.length _ hc2 (by omega)) (fun _ _ h => h) (.inl rfl) ?_)
    rintro v3 st3 ⟨x, rfl, hxx, hc3⟩ e3
    have hxx := hxx.1 (by omega)
    have hx3 := hx2.cu (fun j hj => (hp j hj).1) e3
    have hf3 := hf2.cu hk.2 e3
    have hn3 := e3.n
    refine s_op rfl (oidx rfl rfl rfl (by omega) (by omega) ?_)   -- 25 := indexAddr 24 (tmp 20) (tmp 24)
    refine s_op rfl (old rfl rfl (hx3.rd (by omega) (by omega)) ?_)   -- 26 := load 3 (tmp 25)
    refine s_op rfl (oints [rd R x] loud_n rfl (by decide) rfl rfl rfl fun q4 st4 hq4 e4 => ?_)
    have hf4 := hf3.ex e4
    have hc4 := hc3.ex e4
    have hx4 := hx3.ex e4
    have hn4 := e4.n
    refine s_op rfl (oappG (by omega) rfl rfl rfl hf4 rfl hq4.at_ (by simp; omega) fun r2 st5 hf5 hn5 he5 => ?_)
    refine sra rfl ?_
    have hn6 := he5.n
    refine c_region (by kernel_rfl) ?_   -- region 4
    refine sr 1 rfl ?_
    refine s_op rfl (o_ar rfl rfl rfl (by omega) (by omega) ?_)   -- 18 := binOp BinOp.add 3 (tmp 17) (const (Value.int IntKind.i64 1)) 3
    refine sra rfl ?_
    refine ⟨(i + 1, (r2, L ++ [rd R x])), ⟨rfl, rfl, rfl, rfl, trivial⟩, trivial, ⟨hc4.ext he5 (fun e => ?_) (fun j hj => ?_), hx4.ext he5 (fun j hj e => ?_), hf5, by simp; omega, by dsimp only; omega, by omega⟩, by dsimp only; omega⟩   -- round ends
    · have := hf4.bd k e; omega
    · have := hf4.bd j hj; omega
    · have h1 := hf4.bd j e; have h2 := (hp j hj).2; omega
  · -- else
    refine c_exit ?_
    refine crr (by kernel_rfl) rfl ?_   -- region 6
    exact c_ret (fr rfl ⟨q, L, rfl, hf2, by omega, hc2⟩)
/-- A slab and some of its values that are drawn. -/
def SlG (n1 : Nat) : AV → St → Prop := fun v st' => ∃ q o l p R, v = .tup [.agg [.sl q o l.length], .sl p 0 R.length] ∧ At st' q o l ∧ l.length ≤ 2001 ∧ (∀ j, q = some j → n1 ≤ j ∧ j < st'.n) ∧ Fr n1 st' p R ∧ R.length ≤ 4
section
variable (r : Option Nat) (code : List Int) (st : St) (hx : AtB st r 0 code) (h8 : U8 code) (hl : code.length ≤ 1048576) (hr : ∀ j, r = some j → j < st.n)
include hx h8 hl hr
theorem l7Draw_c : ACalls Tryz.prog 96 [.sl r 0 code.length] st No (SlG st.n) := by
  refine ent (N := 18) Tryz.func96 rfl (by decide) rfl rfl rfl ?_
  refine crr (by kernel_rfl) rfl ?_   -- region 0
  refine c_rs (by kernel_rfl) ?_   -- region 1
  refine sr 1 rfl ?_
  refine s_op rfl (o_ex loud_n rfl (l1New_c st.n r code _ hx h8 hl (Nat.le_refl _) hr) ?_)
  rintro v1 st1 ⟨k, rfl, hk, hc1⟩ e1
  have hn1 := e1.n
  have hk1 := hc1.bd
  refine sra rfl ?_
  refine c_rs (by kernel_rfl) ?_   -- region 2
  refine sr 1 rfl ?_
  refine s_op rfl (o_call rfl (l3Draw_c st.n k r code _ hc1) (fun i hi e => absurd hi (by omega)) (.inl rfl) ?_)
  rintro v2 st2 ⟨q, o, l, p, R, rfl, S, hc2⟩ e2
  have hlen := S.len
  have hR2 := S.R2
  have hn2 := e2.n
  refine sra rfl ?_
  refine cdx [5] [] [0, 1, 2, 3] [false, false, false, true] [4, 5] [.n, .q] (by kernel_rfl) (by kernel_rfl) ?_   -- region 3
  refine yr 3 rfl ?_
  refine y_b rfl rfl (b_call rfl (l7DrawSome_c st.n k r code p R _ hc2 S.fR.at_ (fun j hj => by have := S.fR.bd j hj; omega) (by omega)) (fun i hi e => absurd hi (by omega)) ?_)
  rintro v3 st3 ⟨p', R', rfl, hf3, hl3, hc3⟩ e3
  refine y_end ?_
  refine sra rfl ?_
  have S3 := S.cur hk1.2 e3
  exact c_ret (fr rfl ⟨q, o, l, p', R', rfl, S3.at_, hlen, fun j hj => by have := S3.bd j hj; omega, hf3.le (by omega), hl3⟩)
theorem DrawStart_c : ACalls Tryz.prog 27 [.sl r 0 code.length] st No (SlG st.n) := by
  refine ent (N := 13) Tryz.func27 rfl (by decide) rfl rfl rfl ?_
  refine crr (by kernel_rfl) rfl ?_   -- region 0
  refine c_rs (by kernel_rfl) ?_   -- region 1
  refine sr 1 rfl ?_
  refine s_op rfl (o_ex loud_n rfl (l7Draw_c r code _ hx h8 hl hr) ?_)
  rintro v1 st1 ⟨q, o, l, p, R, rfl, h1, h2, h3, h4, h5⟩ e1
  refine sra rfl ?_
  refine crr (by kernel_rfl) rfl ?_   -- region 2
  exact c_ret (fr rfl ⟨q, o, l, p, R, rfl, h1, h2, h3, h4, h5⟩)
end
end Go.Proofs.YtfhkjhnaihhdmaaGreatW.Ax
