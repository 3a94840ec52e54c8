/- Heaps that are drawn, or what is not right; values of them. -/
import Derived.Test.YtfhkjhnaihhdmaaGg
namespace Go.Proofs.YtfhkjhnaihhdmaaW.Ax
open Go Go.RowKit Go.Proofs Go.Proofs.Ytfhkjhnaihhdmaa.Pure
set_option linter.unusedVariables false
set_option maxRecDepth 100000

/-- A slab and roots that are drawn. -/
structure SlR (n1 : Nat) (q : Option Nat) (o : Nat) (l : List Int) (p : Option Nat) (R : List Int) (st : St) : Prop where
  at_ : At st q o l
  len : l.length ≤ 2001
  bd : ∀ j, q = some j → n1 ≤ j ∧ j < st.n
  fR : Fr n1 st p R
  R1 : 1 ≤ R.length
  R2 : R.length ≤ 31
section
variable {n1 k : Nat} {q : Option Nat} {o : Nat} {l : List Int} {p : Option Nat} {R : List Int} {st st' : St}
theorem SlR.ex (h : SlR n1 q o l p R st) (he : Ex st st') : SlR n1 q o l p R st' := ⟨h.at_.ex he, h.len, fun j hj => ⟨(h.bd j hj).1, Nat.lt_of_lt_of_le (h.bd j hj).2 he.n⟩, h.fR.ex he, h.R1, h.R2⟩
theorem SlR.cur (h : SlR n1 q o l p R st) (hk : k < n1) (he : Ext (fun j => j = k) st st') : SlR n1 q o l p R st' := ⟨h.at_.cu (fun j hj => by have := h.bd j hj; omega) he, h.len, fun j hj => ⟨(h.bd j hj).1, Nat.lt_of_lt_of_le (h.bd j hj).2 he.n⟩, h.fR.cu hk he, h.R1, h.R2⟩
theorem SlR.le {n2 : Nat} (h : SlR n1 q o l p R st) (hn : n2 ≤ n1) : SlR n2 q o l p R st := ⟨h.at_, h.len, fun j hj => ⟨Nat.le_trans hn (h.bd j hj).1, (h.bd j hj).2⟩, h.fR.le hn, h.R1, h.R2⟩
end
def D3P (n0 n1 k : Nat) (r : Option Nat) (code : List Int) : AV → St → Prop := fun v st' => ∃ q o l p R, v = .tup [.agg [.sl q o l.length], .sl p 0 R.length] ∧ SlR n1 q o l p R st' ∧ CuE n0 k r code st'
theorem l3Draw_c (n0 k : Nat) (r : Option Nat) (code : List Int) (st : St) (hc : CuE n0 k r code st) : ACalls Try.prog 99 [.ptr (some k) 0] st (fun j => j = k) (D3P n0 st.n k r code) := by
  have hk := hc.bd
  refine ent (N := 38) Try.func99 rfl (by decide) rfl rfl rfl ?_
  refine crr (by kernel_rfl) rfl ?_   -- region 0
  refine c_rs (by kernel_rfl) ?_   -- region 1
  refine sr 1 rfl ?_
  refine s_op rfl (o_call rfl (l3DrawHeap_c n0 k r code _ hc) (fun _ _ h => h) (.inl rfl) ?_)
  rintro v1 st1 ⟨q, l, p, R, rfl, D, hl1, hR1, hR2⟩ e1
  have hlen := D.len
  refine sra rfl ?_
  refine c_sj (α := (Option Nat × Nat × List Int) × (Option Nat × List Int)) (fun i => [(5, .sl i.2.1 0 i.2.2.length)]) (fun i => [(2, 2, [.sl none 0 0]), (4, 4, [.sl i.1.1 i.1.2.1 i.1.2.2.length])]) (fun i st' => SlR st.n i.1.1 i.1.2.1 i.1.2.2 i.2.1 i.2.2 st' ∧ CuE n0 k r code st') ?_ ?_
  · -- ways that meet
    refine c_rs (by kernel_rfl) ?_   -- region 2
    refine sr 1 rfl ?_
    refine s_op rfl (o_call rfl (l1Below_c n0 k r code 20 _ D.cu (by decide)) (fun _ _ h => h) (.inl rfl) ?_)
    rintro v2 st2 ⟨x, rfl, _, hc2⟩ e2
    have D2 := D.cur e2 hc2
    have n2 := D2.n
    refine s_end ?_
    refine c_block ?_
    refine crr (by kernel_rfl) rfl ?_   -- region 3
    refine c_if rfl (fun h13 => ?_) (fun h13 => ?_)
    · -- then
      refine cdx1 [4] [] [0, 1, 2, 3, 4, 5, 7, 6, 8] [false, false, false, false, false, false, false, true, true] [9, 10] [.q, .n] (by kernel_rfl) (by kernel_rfl) ?_   -- region 4
      refine yr 7 rfl ?_
      refine y_b rfl rfl (b_call rfl (l1Below_c n0 k r code l.length _ D2.cu (by omega)) (fun _ _ h => h) ?_)
      rintro v3 st3 ⟨y, rfl, hy, hc3⟩ e3
      have hy := hy.1 (by omega)
      have D3 := D2.cur e3 hc3
      refine y_b rfl rfl (b_call rfl (l1DrawAny_c n0 k r code _ D3.cu) (fun _ _ h => h) ?_)
      rintro v4 st4 ⟨z, rfl, hz, hc4⟩ e4
      have D4 := D3.cur e4 hc4
      refine y_end ?_
      refine s_op rfl (oidx rfl rfl rfl (by omega) (by omega) ?_)   -- 24 := indexAddr 31 (tmp 16) (tmp 21)
      refine s_op rfl (ostF rfl rfl D4.fl rfl rfl (by omega) fun st5 hf5 he5 => ?_)
      refine s_end ?_
      have el : (l.set (0 + y.toNat) z).length = l.length := List.length_set
      have hn5 := he5.n
      refine ⟨((q, 0, l.set (0 + y.toNat) z), (p, R)), ⟨rfl, trivial⟩, ⟨rfl, rfl, rfl, ?_, trivial⟩, ⟨hf5.at_, by rw [el]; omega, fun j hj => hf5.bd j hj, D4.fR.ext he5 (fun i hi e => D4.dif i e hi), hR1, by dsimp only; omega⟩, D4.cu.ext he5 (fun e => ?_) (fun j hj => ?_)⟩
      · show some [AV.sl q 0 l.length] = some [AV.sl q 0 (l.set (0 + y.toNat) z).length]
        rw [el]
      · have h1 := D4.fl.bd k e; omega
      · have h1 := D4.fl.bd j hj; omega
    · -- else
      refine crr (by kernel_rfl) rfl ?_   -- region 5
      refine c_if rfl (fun h25 => ?_) (fun h25 => ?_)
      · -- then
        refine c_region (by kernel_rfl) ?_   -- region 6
        refine sr 2 rfl ?_
        refine s_op rfl (o_call rfl (l1DrawAny_c n0 k r code _ D2.cu) (fun _ _ h => h) (.inl rfl) ?_)
        rintro v3 st3 ⟨z, rfl, hz, hc3⟩ e3
        have D3 := D2.cur e3 hc3
        refine s_op rfl (oints [z] loud_n rfl (by decide) rfl rfl rfl fun q4 st4 hq4 e4 => ?_)
        have D4 := D3.ex e4
        refine s_op rfl (oappG D4.n rfl rfl rfl D4.fR rfl hq4.at_ (by simp; omega) fun r2 st5 hf5 hn5 he5 => ?_)
        have D5 := D4.app he5 hf5 hn5
        exact sra rfl ⟨((q, 0, l), (r2, R ++ [z])), ⟨rfl, trivial⟩, ⟨rfl, rfl, rfl, rfl, trivial⟩, ⟨D5.fl.at_, by dsimp only; omega, fun j hj => D5.fl.bd j hj, hf5, by simp, by simp; omega⟩, D5.cu⟩
      · -- else
        refine crr (by kernel_rfl) rfl ?_   -- region 7
        refine c_if rfl (fun h32 => ?_) (fun h32 => ?_)
        · -- then
          refine c_region (by kernel_rfl) ?_   -- region 8
          refine sr 1 rfl ?_
          refine s_op rfl (o_call rfl (l2Draw_c n0 k r code _ D2.cu) (fun _ _ h => h) (.inl rfl) ?_)
          rintro v3 st3 ⟨q3, o3, l3, rfl, ha3, hl3, hb3, hc3⟩ e3
          have D3 := D2.cur e3 hc3
          exact sra rfl ⟨((q3, o3, l3), (p, R)), ⟨rfl, trivial⟩, ⟨rfl, rfl, rfl, rfl, trivial⟩, ⟨ha3, hl3, fun j hj => by have := hb3 j hj; omega, D3.fR, hR1, by dsimp only; omega⟩, hc3⟩
        · -- else
          refine c_skip ?_
          exact ⟨((q, 0, l), (p, R)), ⟨rfl, trivial⟩, ⟨rfl, rfl, rfl, rfl, trivial⟩, ⟨D2.fl.at_, by dsimp only; omega, fun j hj => D2.fl.bd j hj, D2.fR, hR1, by dsimp only; omega⟩, D2.cu⟩
  rintro ⟨⟨q', o', l'⟩, ⟨p', R'⟩⟩ st2 ⟨S2, hc2⟩
  refine crr (by kernel_rfl) rfl ?_   -- region 9
  exact c_ret (fr rfl ⟨q', o', l', p', R', rfl, S2, hc2⟩)
section
variable (r : Option Nat) (code : List Int) (st : St) (hx : AtB st r 0 code) (h8 : U8 code) (hl : code.length ≤ 1048576) (hr : ∀ j, r = some j → j < st.n)
include hx h8 hl hr
theorem DrawSlots_c : ACalls Try.prog 52 [.sl r 0 code.length] st No (SlI st.n fun x => -1 ≤ x ∧ x ≤ 9999) := by
  refine ent (N := 18) Try.func52 rfl (by decide) rfl rfl rfl ?_
  refine crr (by kernel_rfl) rfl ?_   -- region 0
  refine c_rs (by kernel_rfl) ?_   -- region 1
  refine sr 1 rfl ?_
  refine s_op rfl (o_ex loud_n rfl (l1New_c st.n r code _ hx h8 hl (Nat.le_refl _) hr) ?_)
  rintro v1 st1 ⟨k, rfl, hk, hc1⟩ e1
  have hn1 := e1.n
  have hk1 := hc1.bd
  refine sra rfl ?_
  refine c_rs (by kernel_rfl) ?_   -- region 2
  refine sr 1 rfl ?_
  refine s_op rfl (o_call rfl (l3Draw_c st.n k r code _ hc1) (fun i hi e => absurd hi (by omega)) (.inl rfl) ?_)
  rintro v2 st2 ⟨q, o, l, p, R, rfl, S, hc2⟩ e2
  have hn2 := e2.n
  have hlen := S.len
  refine sra rfl ?_
  refine cdx [5] [] [0, 1, 2, 3] [false, false, false, true] [4, 5] [.n, .q] (by kernel_rfl) (by kernel_rfl) ?_   -- region 3
  refine yr 3 rfl ?_
  refine y_b rfl rfl (b_call rfl (l2DrawAt_c st.n k r q code o l _ hc2 S.at_ (fun j hj => by have := S.bd j hj; omega) (by omega)) (fun i hi e => absurd hi (by omega)) ?_)
  rintro v3 st3 ⟨x, rfl, hx3, hc3⟩ e3
  refine y_end ?_
  refine sra rfl ?_
  have S3 := S.cur hk1.2 e3
  exact c_ret (fr rfl ⟨q, o, l, x, rfl, S3.at_, hlen, fun j hj => by have := S3.bd j hj; omega, hx3⟩)
/-- A slab that is drawn. -/
def SlO (n1 : Nat) : AV → St → Prop := fun v st' => ∃ q o l, v = .agg [.sl q o l.length] ∧ At st' q o l ∧ l.length ≤ 2001 ∧ (∀ j, q = some j → n1 ≤ j ∧ j < st'.n)
def SlRR (n1 : Nat) : AV → St → Prop := fun v st' => ∃ q o l p R, v = .tup [.agg [.sl q o l.length], .sl p 0 R.length] ∧ SlR n1 q o l p R st'
theorem DrawHeapOk_c : ACalls Try.prog 49 [.sl r 0 code.length] st No (SlO st.n) := by
  refine ent (N := 12) Try.func49 rfl (by decide) rfl rfl rfl ?_
  refine crr (by kernel_rfl) rfl ?_   -- region 0
  refine c_rs (by kernel_rfl) ?_   -- region 1
  refine sr 1 rfl ?_
  refine s_op rfl (o_ex loud_n rfl (l1New_c st.n r code _ hx h8 hl (Nat.le_refl _) hr) ?_)
  rintro v1 st1 ⟨k, rfl, hk, hc1⟩ e1
  have hn1 := e1.n
  refine s_op rfl (o_call rfl (l3Draw_c st.n k r code _ hc1) (fun i hi e => absurd hi (by omega)) (.inl rfl) ?_)
  rintro v2 st2 ⟨q, o, l, p, R, rfl, S, hc2⟩ e2
  refine sra rfl ?_
  refine crr (by kernel_rfl) rfl ?_   -- region 2
  exact c_ret (fr rfl ⟨q, o, l, rfl, S.at_, S.len, fun j hj => by have := S.bd j hj; omega⟩)
theorem DrawRootsOk_c : ACalls Try.prog 57 [.sl r 0 code.length] st No (SlRR st.n) := by
  refine ent (N := 14) Try.func57 rfl (by decide) rfl rfl rfl ?_
  refine crr (by kernel_rfl) rfl ?_   -- region 0
  refine c_rs (by kernel_rfl) ?_   -- region 1
  refine sr 1 rfl ?_
  refine s_op rfl (o_ex loud_n rfl (l1New_c st.n r code _ hx h8 hl (Nat.le_refl _) hr) ?_)
  rintro v1 st1 ⟨k, rfl, hk, hc1⟩ e1
  have hn1 := e1.n
  refine s_op rfl (o_call rfl (l3Draw_c st.n k r code _ hc1) (fun i hi e => absurd hi (by omega)) (.inl rfl) ?_)
  rintro v2 st2 ⟨q, o, l, p, R, rfl, S, hc2⟩ e2
  refine sra rfl ?_
  refine crr (by kernel_rfl) rfl ?_   -- region 2
  exact c_ret (fr rfl ⟨q, o, l, p, R, rfl, S.le hn1⟩)
end
/-- One of some values, or any. -/
theorem l3DrawValue_c (n0 k : Nat) (r : Option Nat) (code : List Int) (p : Option Nat) (R : List Int) (st : St) (hc : CuE n0 k r code st) (hx : At st p 0 R) (hk : ∀ j, p = some j → j ≠ k) (hl : R.length ≤ 65536) : ACalls Try.prog 144 [.ptr (some k) 0, .sl p 0 R.length] st (fun j => j = k) (CuI n0 k r code fun x => x ∈ R ∨ W1 x) := by
  refine ent (N := 21) Try.func144 rfl (by decide) rfl rfl rfl ?_
  refine crr (by kernel_rfl) rfl ?_   -- region 0
  refine c_seq ?_
  refine c_sj (α := Bool) (fun b => [(0, .ptr (some k) 0), (1, .sl p 0 R.length), (11, .bool b)]) (fun _ => []) (fun b st' => CuE n0 k r code st' ∧ At st' p 0 R ∧ (b = false → R.length ≠ 0)) ?_ ?_
  · -- region 1
    refine c_region (by kernel_rfl) ?_
    refine sr 4 rfl ?_
    refine s_bool 8 rfl rfl (fun h8 => ?_) (fun h8 => ?_)
    · -- slot 8 true
      exact sra rfl ⟨true, ⟨rfl, rfl, rfl, trivial⟩, trivial, hc, hx, fun h => by cases h⟩
    · -- slot 8 false
      have h8 := of_decide_eq_false h8
      refine sr 1 rfl ?_
      refine s_op rfl (o_call rfl (l1Once_c n0 k r code 9 _ hc (by decide)) (fun _ _ h => h) (.inl rfl) ?_)
      rintro v1 st1 ⟨x, rfl, hc1⟩ e1
      exact sra rfl ⟨_, ⟨rfl, rfl, rfl, trivial⟩, trivial, hc1, hx.cu hk e1, fun _ => by omega⟩
  rintro b st1 ⟨hc1, hx1, hb1⟩
  refine c_if rfl (fun h11 => ?_) (fun h11 => ?_)
  · -- then
    refine c_rs (by kernel_rfl) ?_   -- region 2
    refine sr 1 rfl ?_
    refine s_op rfl (o_call rfl (l1DrawAny_c n0 k r code _ hc1) (fun _ _ h => h) (.inl rfl) ?_)
    rintro v2 st2 ⟨x, rfl, hxx, hc2⟩ e2
    refine sra rfl ?_
    exact c_ret (fr rfl ⟨x, rfl, .inr hxx, hc2⟩)
  · -- else
    have hb1 := hb1 h11
    refine c_skip ?_
    refine c_rs (by kernel_rfl) ?_   -- region 3
    refine sr 4 rfl ?_
    refine s_op rfl (o_call rfl (l1Below_c n0 k r code R.length _ hc1 (by omega)) (fun _ _ h => h) (.inl rfl) ?_)
    rintro v2 st2 ⟨x, rfl, hxx, hc2⟩ e2
    have hxx := hxx.1 (by omega)
    refine s_op rfl (oidx rfl rfl rfl (by omega) (by omega) ?_)   -- 19 := indexAddr 31 (tmp 14) (tmp 18)
    refine s_op rfl (old rfl rfl ((hx1.cu hk e2).rd (by omega) (by omega)) ?_)   -- 20 := load 3 (tmp 19)
    refine sra rfl ?_
    refine c_ret (fr rfl ⟨_, rfl, .inl ?_, hc2⟩)
    obtain ⟨j, rfl⟩ : ∃ j : Nat, x = j := ⟨x.toNat, by omega⟩
    exact mem_rd (by omega)
theorem l3DrawOf_c (n0 k : Nat) (r : Option Nat) (code : List Int) (p : Option Nat) (R : List Int) (kd : Int) (st : St) (hc : CuE n0 k r code st) (hx : At st p 0 R) (hk : ∀ j, p = some j → j ≠ k) (hl : R.length ≤ 65536) : ACalls Try.prog 118 [.ptr (some k) 0, .sl p 0 R.length, I kd] st (fun j => j = k) (CuI n0 k r code fun x => x ∈ R ∨ W1 x) := by
  refine ent (N := 24) Try.func118 rfl (by decide) rfl rfl rfl ?_
  refine crr (by kernel_rfl) rfl ?_   -- region 0
  refine c_seq ?_
  refine crr (by kernel_rfl) rfl ?_   -- region 1
  refine c_block ?_
  refine c_lp (α := Nat) (fun i => [(0, .ptr (some k) 0), (1, .sl p 0 R.length), (2, I kd), (7, I i)]) (fun _ => []) (fun i st' => CuE n0 k r code st' ∧ At st' p 0 R ∧ i ≤ 8) (fun i => 8 - i) 0 ⟨rfl, rfl, rfl, rfl, trivial⟩ trivial ⟨hc, hx, by omega⟩ ?_
  rintro i st1 ⟨hc1, hx1, hi⟩
  refine c_seq ?_
  refine crr (by kernel_rfl) rfl ?_   -- region 2
  refine c_if rfl (fun h10 => ?_) (fun h10 => ?_)
  · -- then
    have h10 := of_decide_eq_true h10
    refine c_skip ?_
    refine c_seq ?_
    refine c_block ?_
    refine c_rs (by kernel_rfl) ?_   -- region 4
    refine sr 2 rfl ?_
    refine s_op rfl (o_call rfl (l3DrawValue_c n0 k r code p R _ hc1 hx1 hk hl) (fun _ _ h => h) (.inl rfl) ?_)
    rintro v2 st2 ⟨x, rfl, hxx, hc2⟩ e2
    refine sra rfl ?_
    refine c_rs (by kernel_rfl) ?_   -- region 5
    refine sr 1 rfl ?_
    refine s_op rfl (o_pure loud_n rfl (Kind_c ..) ?_)
    refine sra rfl ?_
    refine c_if rfl (fun h19 => ?_) (fun h19 => ?_)
    · -- then
      refine crr (by kernel_rfl) rfl ?_   -- region 6
      exact c_ret (fr rfl ⟨x, rfl, hxx, hc2⟩)
    · -- else
      refine c_skip ?_
      refine c_region (by kernel_rfl) ?_   -- region 3
      refine sr 1 rfl ?_
      refine s_op rfl (o_ar rfl rfl rfl (by omega) (by omega) ?_)   -- 12 := binOp BinOp.add 3 (tmp 11) (const (Value.int IntKind.i64 1)) 3
      refine sra rfl ?_
      exact ⟨i + 1, ⟨rfl, rfl, rfl, rfl, trivial⟩, trivial, ⟨hc2, hx1.cu hk e2, by omega⟩, by omega⟩   -- round ends
  · -- else
    refine c_exit ?_
    refine c_rs (by kernel_rfl) ?_   -- region 7
    refine sr 2 rfl ?_
    refine s_op rfl (o_call rfl (l3DrawValue_c n0 k r code p R _ hc1 hx1 hk hl) (fun _ _ h => h) (.inl rfl) ?_)
    rintro v2 st2 ⟨x, rfl, hxx, hc2⟩ e2
    refine sra rfl ?_
    exact c_ret (fr rfl ⟨x, rfl, hxx, hc2⟩)
end Go.Proofs.YtfhkjhnaihhdmaaW.Ax
