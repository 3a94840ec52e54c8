/- Merged: Ga Gb Gd Gg Gh. -/
import Derived.Test.YtfhkjhnaihhdmaaGreatXF
import Derived.Test.YtfhkjhnaihhdmaaGreatXU
import Derived.Test.YtfhkjhnaihhdmaaGreatQ1
import Derived.Test.YtfhkjhnaihhdmaaGreatXV
import Derived.Test.YtfhkjhnaihhdmaaGreatQ4
import Derived.Test.YtfhkjhnaihhdmaaGreatZw
import Derived.Test.YtfhkjhnaihhdmaaGreatYd
import Derived.Test.YtfhkjhnaihhdmaaGreatQ3
import Derived.Test.YtfhkjhnaihhdmaaGreatQ5
/- What is drawn: a cursor over bytes, numbers out of it. Walked. -/
namespace Go.Proofs.YtfhkjhnaihhdmaaGreatW.Ax
open Go Go.RowKit Go.Proofs Go.Proofs.YtfhkjhnaihhdmaaGreat.Pure
set_option linter.unusedVariables false
set_option maxRecDepth 100000

/-- A cursor, in a store: a row of the call's own, over bytes that are older. -/
structure Cu (n0 k : Nat) (r : Option Nat) (code : List Int) (i h : Int) (st : St) : Prop where
  ge : n0 ≤ k
  lt : k < st.n
  ob : st.ob k = .row true [.sl r 0 code.length, I i, I h]
  at_ : AtB st r 0 code
  u8 : U8 code
  len : code.length ≤ 1048576
  i0 : 0 ≤ i
  i1 : i ≤ code.length
  hw : W1 h
  old : ∀ j, r = some j → j < n0
def CuE (n0 k : Nat) (r : Option Nat) (code : List Int) (st : St) : Prop := ∃ i h, Cu n0 k r code i h st
theorem Cu.ext {n0 k : Nat} {r : Option Nat} {code : List Int} {i h : Int} {st st' : St} {T : Nat → Prop} (hc : Cu n0 k r code i h st) (he : Ext T st st') (hk : ¬ T k) (hT : ∀ j, T j → n0 ≤ j) : Cu n0 k r code i h st' :=
  { hc with lt := Nat.lt_of_lt_of_le hc.lt he.n, ob := (he.ob k hc.lt hk).trans hc.ob, at_ := hc.at_.ext he fun j hj ht => by have := hT j ht; have := hc.old j hj; omega }
theorem CuE.ext {n0 k : Nat} {r : Option Nat} {code : List Int} {st st' : St} {T : Nat → Prop} (hc : CuE n0 k r code st) (he : Ext T st st') (hk : ¬ T k) (hT : ∀ j, T j → n0 ≤ j) : CuE n0 k r code st' := by
  obtain ⟨i, h, hc⟩ := hc
  exact ⟨i, h, hc.ext he hk hT⟩
theorem CuE.ex {n0 k : Nat} {r : Option Nat} {code : List Int} {st st' : St} (hc : CuE n0 k r code st) (he : Ex st st') : CuE n0 k r code st' := hc.ext he (fun h => h) (fun _ h => h.elim)
theorem CuE.bd {n0 k : Nat} {r : Option Nat} {code : List Int} {st : St} (hc : CuE n0 k r code st) : n0 ≤ k ∧ k < st.n := by
  obtain ⟨i, h, hc⟩ := hc
  exact ⟨hc.ge, hc.lt⟩
/-- Rows of the call's own that are newer than the cursor stay as it goes on. -/
theorem Fr.cu {n1 k : Nat} {st st' : St} {q : Option Nat} {l : List Int} (h : Fr n1 st q l) (hk : k < n1) (he : Ext (fun j => j = k) st st') : Fr n1 st' q l := h.ext he fun i hi e => by have := h.bd i hi; omega
theorem At.cu {k : Nat} {st st' : St} {r : Option Nat} {o : Nat} {l : List Int} (h : At st r o l) (hk : ∀ j, r = some j → j ≠ k) (he : Ext (fun j => j = k) st st') : At st' r o l := h.ext he fun i hi e => hk i hi e
/-- A number is drawn, and the cursor goes on. -/
def CuI (n0 k : Nat) (r : Option Nat) (code : List Int) (p : Int → Prop) : AV → St → Prop := fun v st' => ∃ x, v = I x ∧ p x ∧ CuE n0 k r code st'
def CuB (n0 k : Nat) (r : Option Nat) (code : List Int) : AV → St → Prop := fun v st' => ∃ x, v = .bool x ∧ CuE n0 k r code st'
def CuN (n0 : Nat) (r : Option Nat) (code : List Int) (n : Nat) : AV → St → Prop := fun v st' => ∃ k, v = .ptr (some k) 0 ∧ n ≤ k ∧ CuE n0 k r code st'

theorem l1New_c (n0 : Nat) (r : Option Nat) (code : List Int) (st : St) (hx : AtB st r 0 code) (h8 : U8 code) (hl : code.length ≤ 1048576) (hn0 : n0 ≤ st.n) (hr : ∀ j, r = some j → j < n0) : ACalls Tryz.prog 62 [.sl r 0 code.length] st No (CuN n0 r code st.n) := by
  refine ent (N := 32) Tryz.func62 rfl (by decide) rfl rfl rfl ?_
  refine crr (by kernel_rfl) rfl ?_   -- region 0
  refine c_rs (by kernel_rfl) ?_   -- region 1
  refine sr 2 rfl ?_
  refine s_op rfl (o_ar rfl rfl rfl (by omega) (by omega) ?_)   -- 7 := binOp BinOp.add 3 (const (Value.int IntKind.i64 18961)) (tmp 6) 3
  refine sra rfl ?_
  refine c_seq ?_
  refine crr (by kernel_rfl) rfl ?_   -- region 2
  refine c_block ?_
  refine c_lp (α := Nat × Int) (fun i => [(0, .sl r 0 code.length), (3, I i.2), (4, I i.1)]) (fun i => []) (fun i st' => st = st' ∧ i.1 ≤ 4000 ∧ 0 ≤ i.2 ∧ i.2 ≤ 1073741823) (fun i => 4000 - i.1) (0, 18961 + code.length) ⟨rfl, rfl, rfl, trivial⟩ trivial ⟨rfl, by omega, by dsimp only; omega, by dsimp only; omega⟩ ?_
  rintro ⟨i, h⟩ st1 ⟨rfl, hi, h0, h1⟩
  dsimp only at *
  refine c_seq ?_
  refine c_sj (α := Bool) (fun b => [(0, .sl r 0 code.length), (3, I h), (4, I i), (15, .bool b)]) (fun _ => []) (fun b st' => st = st' ∧ (b = true → (i : Int) < code.length ∧ (i : Int) < 4000)) ?_ ?_
  · -- region 3
    refine c_region (by kernel_rfl) ?_
    refine sr 5 rfl ?_
    refine s_bool 12 rfl rfl (fun h12 => ?_) (fun h12 => ?_)
    · -- slot 12 true
      have h12 := of_decide_eq_true h12
      refine sra rfl ⟨_, ⟨rfl, rfl, rfl, rfl, trivial⟩, trivial, rfl, fun h => ⟨h12, of_decide_eq_true h⟩⟩
    · -- slot 12 false
      refine sra rfl ⟨false, ⟨rfl, rfl, rfl, rfl, trivial⟩, trivial, rfl, fun h => by cases h⟩
  rintro b st1 ⟨rfl, hb1⟩
  refine c_if rfl (fun h15 => ?_) (fun h15 => ?_)
  · -- then
    have h15 := hb1 h15
    have h8i := h8.rd (i := i) (by omega) h15.1
    refine c_skip ?_
    refine c_seq ?_
    refine c_block ?_
    refine c_region (by kernel_rfl) ?_   -- region 5
    refine sr 1 rfl ?_
    refine s_op rfl (o_ar rfl rfl rfl (by omega) (by omega) ?_)   -- 19 := binOp BinOp.mul 3 (tmp 18) (const (Value.int IntKind.i64 131)) 3
    refine sr 2 rfl ?_
    refine s_op rfl (oidx rfl rfl rfl (by omega) (by omega) ?_)   -- 22 := indexAddr 22 (tmp 20) (tmp 21)
    refine s_op rfl (old rfl rfl (hx.rd (by omega) (by omega)) ?_)   -- 23 := load 5 (tmp 22)
    refine s_op rfl (oconv rfl rfl rfl rfl (by rw [IntKind.wrap_i64]; omega) ?_)   -- 24 := convert 5 3 (tmp 23)
    refine s_op rfl (o_ar rfl rfl rfl (by omega) (by omega) ?_)   -- 25 := binOp BinOp.add 3 (tmp 19) (tmp 24) 3
    refine s_op rfl (o_ar rfl rfl rfl (by omega) (by omega) ?_)   -- 26 := binOp BinOp.add 3 (tmp 25) (const (Value.int IntKind.i64 7)) 3
    refine sra rfl ?_
    refine c_region (by kernel_rfl) ?_   -- region 4
    refine sr 1 rfl ?_
    refine s_op rfl (o_ar rfl rfl rfl (by omega) (by omega) ?_)   -- 17 := binOp BinOp.add 3 (tmp 16) (const (Value.int IntKind.i64 1)) 3
    refine sra rfl ?_
    exact ⟨(i + 1, _), ⟨rfl, rfl, rfl, trivial⟩, trivial, ⟨rfl, by dsimp only; omega, by dsimp only; omega, by dsimp only; omega⟩, by dsimp only; omega⟩
  · -- else
    refine c_exit ?_
    refine c_rs (by kernel_rfl) ?_   -- region 6
    refine sr 3 rfl ?_
    refine s_op rfl (oboxP loud_n rfl fun q st2 hq hn2 ho2 he2 => ?_)
    refine sra rfl ?_
    subst hq
    exact c_ret (fr rfl ⟨_, rfl, Nat.le_refl _, 0, h, hn0, by omega, ho2, hx.ex he2, h8, hl, by omega, by omega, by unfold W1; omega, hr⟩)
theorem l1Byte_c (n0 k : Nat) (r : Option Nat) (code : List Int) (st : St) (hc : CuE n0 k r code st) : ACalls Tryz.prog 141 [.ptr (some k) 0] st (fun j => j = k) (CuI n0 k r code fun x => 0 ≤ x ∧ x ≤ 255) := by
  obtain ⟨i, h, hc⟩ := hc
  refine ent (N := 58) Tryz.func141 rfl (by decide) rfl rfl rfl ?_
  refine crr (by kernel_rfl) rfl ?_   -- region 0
  refine c_rs (by kernel_rfl) ?_   -- region 1
  refine sr 4 rfl ?_
  refine s_op rfl (old rfl rfl (show cell st (some k) 2 = some (I h) by rw [cell_row hc.lt hc.ob]; rfl) ?_)
  refine s_op rfl (o_wrap ⟨_, rfl⟩ fun h1 hw1 => ?_)
  refine s_op rfl (o_wrap ⟨_, rfl⟩ fun h2 hw2 => ?_)
  refine sr 2 rfl ?_
  refine s_op rfl (ostP rfl rfl hc.lt (fun _ => rfl) hc.ob rfl rfl rfl (by simp) fun st1 n1 ob1 e1 => ?_)
  refine s_end ?_
  have ob1 : st1.ob k = .row true [.sl r 0 code.length, I i, I h2] := ob1
  have hc1 : Cu n0 k r code i h2 st1 := { hc with lt := by have := hc.lt; omega, ob := ob1, hw := hw2, at_ := hc.at_.ext e1 fun j hj e => by have := hc.old j hj; have := hc.ge; omega }
  clear hc
  refine cds [0, 1, 2, 3, 4, 5, 6, 7, 8, 9, 10, 11, 12] [.q, .q, .q, .q, .q, .q, .q, .q, .q, .q, .q, .q, .q] (by kernel_rfl) (by kernel_rfl) ?_   -- region 2
  refine sr 3 rfl ?_
  have hcH : cell st1 (some k) 2 = some (I h2) := by rw [cell_row hc1.lt hc1.ob]; rfl
  have hcI : cell st1 (some k) 1 = some (I i) := by rw [cell_row hc1.lt hc1.ob]; rfl
  have hcS : cell st1 (some k) 0 = some (.sl r 0 code.length) := by rw [cell_row hc1.lt hc1.ob]; rfl
  refine s_op rfl (old rfl rfl hcH ?_)
  refine sr 4 rfl ?_
  refine s_op rfl (old rfl rfl hcH ?_)
  refine sr 1 rfl ?_
  refine s_op rfl (o_xor rfl rfl fun z hz => ?_)
  refine sra rfl ?_
  generalize hx0 : z % 256 = x
  have hxx : 0 ≤ x ∧ x ≤ 255 := by omega
  refine c_sj (α := Int) (fun x => [(3, I x)]) (fun i => []) (fun x st' => 0 ≤ x ∧ x ≤ 255 ∧ CuE n0 k r code st') ?_ ?_
  · -- ways that meet
    refine cds [0, 1, 2, 3, 4, 5, 6, 7, 8, 9] [.q, .q, .q, .q, .q, .q, .q, .q, .q, .q] (by kernel_rfl) (by kernel_rfl) ?_   -- region 3
    refine sr 3 rfl ?_
    refine s_op rfl (old rfl rfl hcI ?_)
    refine sr 3 rfl ?_
    refine s_op rfl (old rfl rfl hcS ?_)
    refine sra rfl ?_
    refine c_if rfl (fun h34 => ?_) (fun h34 => ?_)
    · -- then
      have h34 := of_decide_eq_true h34
      have hi0 := hc1.i0
      have h8i := hc1.u8.rd (i := i) hi0 h34
      have hlen := hc1.len
      refine cds [0, 1, 2, 3, 4, 5, 6, 7, 8, 9, 10, 11, 12, 13, 14] [.q, .q, .q, .q, .q, .q, .q, .q, .q, .q, .q, .q, .q, .q, .q] (by kernel_rfl) (by kernel_rfl) ?_   -- region 4
      refine sr 4 rfl ?_
      refine s_op rfl (old rfl rfl hcS ?_)
      refine sr 3 rfl ?_
      refine s_op rfl (old rfl rfl hcI ?_)
      refine s_op rfl (oidx rfl rfl rfl (by omega) (by omega) ?_)   -- 44 := indexAddr 22 (tmp 39) (tmp 43)
      refine s_op rfl (old rfl rfl (hc1.at_.rd (by omega) (by omega)) ?_)   -- 45 := load 5 (tmp 44)
      refine s_op rfl (oconv rfl rfl rfl rfl (by rw [IntKind.wrap_i64]; omega) ?_)   -- 46 := convert 5 3 (tmp 45)
      refine s_op rfl (o_ar rfl rfl rfl (by omega) (by omega) ?_)   -- 47 := binOp BinOp.add 3 (tmp 35) (tmp 46) 3
      refine sra rfl ?_
      refine c_region (by kernel_rfl) ?_   -- region 5
      refine sr 4 rfl ?_
      refine s_op rfl (old rfl rfl hcI ?_)
      refine s_op rfl (o_ar rfl rfl rfl (by omega) (by omega) ?_)   -- 54 := binOp BinOp.add 3 (tmp 53) (const (Value.int IntKind.i64 1)) 3
      refine sr 2 rfl ?_
      refine s_op rfl (ostP rfl rfl hc1.lt (fun _ => rfl) hc1.ob rfl rfl rfl (by simp) fun st2 n2 ob2 e2 => ?_)
      have ob2 : st2.ob k = .row true [.sl r 0 code.length, I (i + 1), I h2] := ob2
      refine s_end ?_
      refine ⟨_, ⟨rfl, trivial⟩, trivial, by omega, by omega, i + 1, h2, ?_⟩
      exact { hc1 with lt := by have := hc1.lt; omega, ob := ob2, i0 := by omega, i1 := by omega, at_ := hc1.at_.ext e2 fun j hj e => by have := hc1.old j hj; have := hc1.ge; omega }
    · -- else
      refine c_skip ?_
      exact ⟨x, ⟨rfl, trivial⟩, trivial, hxx.1, hxx.2, i, h2, hc1⟩
  rintro x2 st2 ⟨hx1, hx2, hcE⟩
  refine crr (by kernel_rfl) rfl ?_   -- region 6
  exact c_ret (fr rfl ⟨x2, rfl, ⟨hx1, hx2⟩, hcE⟩)
theorem l1Below_c (n0 k : Nat) (r : Option Nat) (code : List Int) (n : Int) (st : St) (hc : CuE n0 k r code st) (hn : n ≤ 4294967296) : ACalls Tryz.prog 67 [.ptr (some k) 0, I n] st (fun j => j = k) (CuI n0 k r code fun x => (0 < n → 0 ≤ x ∧ x < n) ∧ (n ≤ 0 → x = 0)) := by
  refine ent (N := 37) Tryz.func67 rfl (by decide) rfl rfl rfl ?_
  refine crr (by kernel_rfl) rfl ?_   -- region 0
  refine c_seq ?_
  refine crr (by kernel_rfl) rfl ?_   -- region 1
  refine c_if rfl (fun h10 => ?_) (fun h10 => ?_)
  · -- then
    have h10 := of_decide_eq_true h10
    refine crr (by kernel_rfl) rfl ?_   -- region 2
    exact c_ret (fr rfl ⟨0, rfl, ⟨fun h => absurd h (by omega), fun _ => rfl⟩, hc⟩)
  · -- else
    have h10 := of_decide_eq_false h10
    refine c_skip ?_
    refine c_seq ?_
    refine crr (by kernel_rfl) rfl ?_   -- region 3
    refine c_if rfl (fun h12 => ?_) (fun h12 => ?_)
    · -- then
      refine c_rs (by kernel_rfl) ?_   -- region 4
      refine sr 1 rfl ?_
      refine s_op rfl (o_call rfl (l1Byte_c n0 k r code _ hc) (fun _ _ h => h) (.inl rfl) ?_)
      rintro v1 st1 ⟨x, rfl, ⟨hx0, hx1⟩, hc⟩ _
      refine sr 1 rfl ?_
      refine s_op rfl (o_rem rfl rfl hx0 (by omega) ?_)
      refine sra rfl ?_
      have hm0 := Int.emod_nonneg x (show n ≠ 0 by omega)
      have hm1 := Int.emod_lt_of_pos x (show 0 < n by omega)
      exact c_ret (fr rfl ⟨_, rfl, ⟨fun _ => ⟨hm0, hm1⟩, fun h => by omega⟩, hc⟩)
    · -- else
      refine c_skip ?_
      refine c_rs (by kernel_rfl) ?_   -- region 5
      refine sr 1 rfl ?_
      refine s_op rfl (o_call rfl (l1Byte_c n0 k r code _ hc) (fun _ _ h => h) (.inl rfl) ?_)
      rintro v1 st1 ⟨x, rfl, ⟨hx0, hx1⟩, hc⟩ _
      refine sra rfl ?_
      refine c_rs (by kernel_rfl) ?_   -- region 6
      refine sr 1 rfl ?_
      refine s_op rfl (o_call rfl (l1Byte_c n0 k r code _ hc) (fun _ _ h => h) (.inl rfl) ?_)
      rintro v1 st1 ⟨y, rfl, ⟨hy0, hy1⟩, hc⟩ _
      refine sra rfl ?_
      refine c_rs (by kernel_rfl) ?_   -- region 7
      refine sr 1 rfl ?_
      refine s_op rfl (o_call rfl (l1Byte_c n0 k r code _ hc) (fun _ _ h => h) (.inl rfl) ?_)
      rintro v1 st1 ⟨z, rfl, ⟨hz0, hz1⟩, hc⟩ _
      refine sra rfl ?_
      refine c_rs (by kernel_rfl) ?_   -- region 8
      refine sr 1 rfl ?_
      refine s_op rfl (o_call rfl (l1Byte_c n0 k r code _ hc) (fun _ _ h => h) (.inl rfl) ?_)
      rintro v1 st1 ⟨w, rfl, ⟨hw0, hw1⟩, hc⟩ _
      refine sra rfl ?_
      refine c_rs (by kernel_rfl) ?_   -- region 9
      refine sr 1 rfl ?_
      refine s_op rfl (o_ar rfl rfl rfl (by omega) (by omega) ?_)   -- 26 := binOp BinOp.mul 3 (tmp 25) (const (Value.int IntKind.i64 16777216)) 3
      refine sr 1 rfl ?_
      refine s_op rfl (o_ar rfl rfl rfl (by omega) (by omega) ?_)   -- 28 := binOp BinOp.mul 3 (tmp 27) (const (Value.int IntKind.i64 65536)) 3
      refine s_op rfl (o_ar rfl rfl rfl (by omega) (by omega) ?_)   -- 29 := binOp BinOp.add 3 (tmp 26) (tmp 28) 3
      refine sr 1 rfl ?_
      refine s_op rfl (o_ar rfl rfl rfl (by omega) (by omega) ?_)   -- 31 := binOp BinOp.mul 3 (tmp 30) (const (Value.int IntKind.i64 256)) 3
      refine s_op rfl (o_ar rfl rfl rfl (by omega) (by omega) ?_)   -- 32 := binOp BinOp.add 3 (tmp 29) (tmp 31) 3
      refine sr 1 rfl ?_
      refine s_op rfl (o_ar rfl rfl rfl (by omega) (by omega) ?_)   -- 34 := binOp BinOp.add 3 (tmp 32) (tmp 33) 3
      refine sr 1 rfl ?_
      refine s_op rfl (o_rem rfl rfl (by omega) (by omega) ?_)
      refine sra rfl ?_
      have hm0 := Int.emod_nonneg (x * 16777216 + y * 65536 + z * 256 + w) (show n ≠ 0 by omega)
      have hm1 := Int.emod_lt_of_pos (x * 16777216 + y * 65536 + z * 256 + w) (show 0 < n by omega)
      exact c_ret (fr rfl ⟨_, rfl, ⟨fun _ => ⟨hm0, hm1⟩, fun h => by omega⟩, hc⟩)
theorem l1Once_c (n0 k : Nat) (r : Option Nat) (code : List Int) (n : Int) (st : St) (hc : CuE n0 k r code st) (hn : n ≤ 4294967296) : ACalls Tryz.prog 65 [.ptr (some k) 0, I n] st (fun j => j = k) (CuB n0 k r code) := by
  refine ent (N := 9) Tryz.func65 rfl (by decide) rfl rfl rfl ?_
  refine crr (by kernel_rfl) rfl ?_   -- region 0
  refine c_rs (by kernel_rfl) ?_   -- region 1
  refine sr 2 rfl ?_
  refine s_op rfl (o_call rfl (l1Below_c n0 k r code n _ hc hn) (fun _ _ h => h) (.inl rfl) ?_)
  rintro v1 st1 ⟨x, rfl, _, hc⟩ _
  refine sra rfl ?_
  exact c_ret (fr rfl ⟨_, rfl, hc⟩)
/-- A row of texts. -/
def AtS (st : St) (r : Option Nat) (o : Nat) (xs : List ByteArray) : Prop := ∀ j, j < xs.length → cell st r (o + j) = some (.str (xs.getD j ByteArray.empty))
theorem AtS.ext {st : St} {T' : Nat → Prop} {st' : St} {r : Option Nat} {o : Nat} {xs : List ByteArray} (h : AtS st r o xs) (he : Ext T' st st') (hn : ∀ i, r = some i → ¬ T' i) : AtS st' r o xs := fun j hj => cell_ext he (h j hj) hn
def CuS (n0 k : Nat) (r : Option Nat) (code : List Int) (l : List ByteArray) : AV → St → Prop := fun v st' => ∃ x, v = .str x ∧ x ∈ l ∧ CuE n0 k r code st'
theorem l1Pick_c (n0 k : Nat) (r rl : Option Nat) (code : List Int) (l : List ByteArray) (st : St) (hc : CuE n0 k r code st) (hy : AtS st rl 0 l) (hk : ∀ j, rl = some j → j ≠ k) (h0 : 0 < l.length) (hl : l.length ≤ 65536) : ACalls Tryz.prog 203 [.ptr (some k) 0, .sl rl 0 l.length] st (fun j => j = k) (CuS n0 k r code l) := by
  refine ent (N := 12) Tryz.func203 rfl (by decide) rfl rfl rfl ?_
  refine crr (by kernel_rfl) rfl ?_   -- region 0
  refine c_rs (by kernel_rfl) ?_   -- region 1
  refine sr 4 rfl ?_
  refine s_op rfl (o_call rfl (l1Below_c n0 k r code l.length _ hc (by omega)) (fun _ _ h => h) (.inl rfl) ?_)
  rintro v1 st1 ⟨x, rfl, ⟨hx, _⟩, hc⟩ e1
  have hx := hx (by omega)
  have hy1 := hy.ext e1 fun j hj e => hk j hj e
  refine s_op rfl (oidx rfl rfl rfl (by omega) (by omega) ?_)   -- 10 := indexAddr 104 (tmp 5) (tmp 9)
  refine s_op rfl (old rfl rfl (hy1 x.toNat (by omega)) ?_)   -- 11 := load 9 (tmp 10)
  refine sra rfl ?_
  refine c_ret (fr rfl ⟨_, rfl, ?_, hc⟩)
  have : x.toNat < l.length := by omega
  simp [List.getD, this]
theorem l1PickInt_c (n0 k : Nat) (r rl : Option Nat) (code : List Int) (o : Nat) (l : List Int) (st : St) (hc : CuE n0 k r code st) (hy : At st rl o l) (hk : ∀ j, rl = some j → j ≠ k) (h0 : 0 < l.length) (hl : l.length ≤ 65536) : ACalls Tryz.prog 117 [.ptr (some k) 0, .sl rl o l.length] st (fun j => j = k) (CuI n0 k r code (· ∈ l)) := by
  refine ent (N := 12) Tryz.func117 rfl (by decide) rfl rfl rfl ?_
  refine crr (by kernel_rfl) rfl ?_   -- region 0
  refine c_rs (by kernel_rfl) ?_   -- region 1
  refine sr 4 rfl ?_
  refine s_op rfl (o_call rfl (l1Below_c n0 k r code l.length _ hc (by omega)) (fun _ _ h => h) (.inl rfl) ?_)
  rintro v1 st1 ⟨x, rfl, ⟨hx, _⟩, hc⟩ e1
  have hx := hx (by omega)
  have hy1 := hy.cu hk e1
  refine s_op rfl (oidx rfl rfl rfl (by omega) (by omega) ?_)   -- 10 := indexAddr 31 (tmp 5) (tmp 9)
  refine s_op rfl (old rfl rfl (hy1.rd (by omega) (by omega)) ?_)   -- 11 := load 3 (tmp 10)
  refine sra rfl ?_
  refine c_ret (fr rfl ⟨_, rfl, ?_, hc⟩)
  have : x.toNat < l.length := by omega
  unfold rd
  simp [List.getD, this]
theorem l1DrawNum_c (n0 k : Nat) (r : Option Nat) (code : List Int) (st : St) (hc : CuE n0 k r code st) : ACalls Tryz.prog 178 [.ptr (some k) 0] st (fun j => j = k) (CuI n0 k r code W1) := by
  refine ent (N := 6) Tryz.func178 rfl (by decide) rfl rfl rfl ?_
  refine crr (by kernel_rfl) rfl ?_   -- region 0
  refine c_rs (by kernel_rfl) ?_   -- region 1
  refine sr 1 rfl ?_
  refine s_op rfl (oints [0, 1, 2, -1, -5, 77, 1999, 2000, 2147483647, 2147483648, -2147483648, -2147483649, 4294967296, 9223372036854775807, -9223372036854775808] loud_n rfl (by decide) rfl rfl rfl fun q st1 hq e1 => ?_)
  have hb := hc.bd
  refine s_op rfl (o_call rfl (l1PickInt_c n0 k r (some q) code 0 _ _ (hc.ex e1) hq.at_ (fun j hj => by have := hq.bd j hj; omega) (by decide) (by decide)) (fun _ _ h => h) (.inl rfl) ?_)
  rintro v2 st2 ⟨x, rfl, hx, hc⟩ _
  refine sra rfl ?_
  refine c_ret (fr rfl ⟨x, rfl, ?_, hc⟩)
  simp only [List.mem_cons, List.not_mem_nil, or_false] at hx
  unfold W1
  omega
theorem l1DrawAny_c (n0 k : Nat) (r : Option Nat) (code : List Int) (st : St) (hc : CuE n0 k r code st) : ACalls Tryz.prog 140 [.ptr (some k) 0] st (fun j => j = k) (CuI n0 k r code W1) := by
  refine ent (N := 14) Tryz.func140 rfl (by decide) rfl rfl rfl ?_
  refine crr (by kernel_rfl) rfl ?_   -- region 0
  refine c_seq ?_
  refine c_rs (by kernel_rfl) ?_   -- region 1
  refine sr 1 rfl ?_
  refine s_op rfl (o_call rfl (l1Once_c n0 k r code 3 _ hc (by decide)) (fun _ _ h => h) (.inl rfl) ?_)
  rintro v1 st1 ⟨b, rfl, hc⟩ _
  refine s_end ?_
  refine c_if rfl (fun h4 => ?_) (fun h4 => ?_)
  · -- then
    refine c_rs (by kernel_rfl) ?_   -- region 2
    refine sr 1 rfl ?_
    refine s_op rfl (o_call rfl (l1DrawNum_c n0 k r code _ hc) (fun _ _ h => h) (.inl rfl) ?_)
    rintro v1 st1 ⟨x, rfl, hx, hc⟩ _
    refine sra rfl ?_
    exact c_ret (fr rfl ⟨x, rfl, hx, hc⟩)
  · -- else
    refine c_skip ?_
    refine c_rs (by kernel_rfl) ?_   -- region 3
    refine sr 1 rfl ?_
    refine s_op rfl (oints [0, 1, 2, 5, 1999, 2000, -1] loud_n rfl (by decide) rfl rfl rfl fun q st1 hq e1 => ?_)
    have hb := hc.bd
    refine s_op rfl (o_call rfl (l1PickInt_c n0 k r (some q) code 0 _ _ (hc.ex e1) hq.at_ (fun j hj => by have := hq.bd j hj; omega) (by decide) (by decide)) (fun _ _ h => h) (.inl rfl) ?_)
    rintro v2 st2 ⟨x, rfl, hx, hc⟩ _
    simp only [List.mem_cons, List.not_mem_nil, or_false] at hx
    refine s_op rfl (o_ar rfl rfl rfl (by omega) (by omega) ?_)   -- 10 := binOp BinOp.mul 3 (const (Value.int IntKind.i64 8)) (tmp 9) 3
    refine sr 1 rfl ?_
    refine s_op rfl (o_call rfl (l1Below_c n0 k r code 8 _ hc (by decide)) (fun _ _ h => h) (.inl rfl) ?_)
    rintro v1 st1 ⟨y, rfl, ⟨hy, _⟩, hc⟩ e1
    have hy := hy (by omega)
    refine s_op rfl (o_ar rfl rfl rfl (by omega) (by omega) ?_)   -- 13 := binOp BinOp.add 3 (tmp 10) (tmp 12) 3
    refine sra rfl ?_
    exact c_ret (fr rfl ⟨_, rfl, by unfold W1; omega, hc⟩)
end Go.Proofs.YtfhkjhnaihhdmaaGreatW.Ax

/- Slabs that are drawn, and what is taken and made in general: walked. -/
namespace Go.Proofs.YtfhkjhnaihhdmaaGreatW.Ax
open Go Go.RowKit Go.Proofs Go.Proofs.YtfhkjhnaihhdmaaGreat.Pure
set_option linter.unusedVariables false
set_option maxRecDepth 100000

/-! ### SlabNew and Take, at any arguments -/
def snwL (n : Int) : List Int := if 2 ≤ n ∧ n ≤ 2000 then (List.replicate n.toNat 0).set 0 (8 * n) else []
theorem snwL_t {n : Int} (h : 2 ≤ n ∧ n ≤ 2000) : snwL n = (List.replicate n.toNat 0).set 0 (8 * n) := by unfold snwL; rw [if_pos h]
theorem snwL_f {n : Int} (h : ¬ (2 ≤ n ∧ n ≤ 2000)) : snwL n = [] := by unfold snwL; rw [if_neg h]
theorem snwL_len (n : Int) : (snwL n).length ≤ 2000 ∧ (2 ≤ n → n ≤ 2000 → (snwL n).length = n.toNat) := by
  unfold snwL
  split
  · rename_i h
    simp; omega
  · rename_i h
    exact ⟨Nat.zero_le _, fun h1 h2 => absurd ⟨h1, h2⟩ h⟩
theorem SlabNew_c (n : Int) (st : St) : ACalls Tryz.prog 199 [I n] st No (Ns st (snwL n) (decide (2 ≤ n ∧ n ≤ 2000))) := by
  refine ent (N := 18) Tryz.func199 rfl (by decide) rfl rfl rfl ?_
  refine crr (by kernel_rfl) rfl ?_   -- region 0
  refine c_seq ?_
  refine c_rs (by kernel_rfl) ?_   -- region 1
  refine sr 1 rfl ?_
  refine s_op rfl (o_pure loud_n rfl (l1In_c ..) ?_)
  refine sra rfl ?_
  refine c_if rfl (fun h7 => ?_) (fun h7 => ?_)
  · -- then
    have h7 := ndt h7
    refine crr (by kernel_rfl) rfl ?_   -- region 2
    refine c_ret (fr rfl ⟨none, ?_, .inl ⟨rfl, snwL_f h7⟩⟩)
    rw [snwL_f h7, decide_eq_false h7]; rfl
  · -- else
    have h7 := ndf h7
    refine c_skip ?_
    refine c_rs (by kernel_rfl) ?_   -- region 3
    refine sr 1 rfl ?_
    refine s_op rfl (omkI loud_n rfl rfl rfl (by omega) (by omega) ?_)   -- 10 := makeSlice 31 (tmp 9) (tmp 9)
    refine sra rfl ?_
    refine c_rs (by kernel_rfl) ?_   -- region 4
    refine sr 3 rfl ?_
    refine s_op rfl (o_ar rfl rfl rfl (by omega) (by omega) ?_)   -- 15 := binOp BinOp.mul 3 (const (Value.int IntKind.i64 8)) (tmp 14) 3
    refine s_op rfl (oidx rfl rfl rfl (by omega) (by omega) ?_)   -- 16 := indexAddr 31 (tmp 13) (const (Value.int IntKind.i64 0))
    refine s_op rfl (ostF rfl rfl (fr_push st (List.replicate n.toNat 0)) rfl rfl (by simp; omega) fun st2 hf2 he2 => ?_)
    refine s_end ?_
    refine crr (by kernel_rfl) rfl ?_   -- region 5
    refine c_ret (fr rfl ⟨some st.n, ?_, ?_⟩)
    · rw [snwL_t h7, decide_eq_true h7]
      simp
    · rw [snwL_t h7]; simpa using hf2
def tgL (l : List Int) (k n : Int) : List Int := if okB l = true then (if (1 ≤ k ∧ k ≤ 5) ∧ 2 ≤ n then tkL l k n.toNat else l) else []
def tgA (l : List Int) (k n : Int) : Int := if okB l = true ∧ (1 ≤ k ∧ k ≤ 5) ∧ 2 ≤ n then tkA l n.toNat else 0
def tgO (l : List Int) (k n : Int) : Bool := if okB l = true ∧ (1 ≤ k ∧ k ≤ 5) ∧ 2 ≤ n then tkO l n.toNat else false
theorem tg_no {l : List Int} (k n : Int) (h : ¬ okB l = true) : tgL l k n = [] ∧ tgA l k n = 0 ∧ tgO l k n = false := by
  unfold tgL tgA tgO
  rw [if_neg h, if_neg (fun hh => h hh.1), if_neg (fun hh => h hh.1)]; exact ⟨rfl, rfl, rfl⟩
theorem tg_bad {l : List Int} {k n : Int} (h : okB l = true) (hb : ¬ ((1 ≤ k ∧ k ≤ 5) ∧ 2 ≤ n)) : tgL l k n = l ∧ tgA l k n = 0 ∧ tgO l k n = false := by
  unfold tgL tgA tgO
  rw [if_pos h, if_neg hb, if_neg (fun hh => hb hh.2), if_neg (fun hh => hb hh.2)]; exact ⟨rfl, rfl, rfl⟩
theorem tg_ok {l : List Int} {k n : Int} (h : okB l = true) (hb : (1 ≤ k ∧ k ≤ 5) ∧ 2 ≤ n) : tgL l k n = tkL l k n.toNat ∧ tgA l k n = tkA l n.toNat ∧ tgO l k n = tkO l n.toNat := by
  unfold tgL tgA tgO
  rw [if_pos h, if_pos hb, if_pos ⟨h, hb⟩, if_pos ⟨h, hb⟩]; exact ⟨rfl, rfl, rfl⟩
theorem tgL_len (l : List Int) (k n : Int) : (tgL l k n).length ≤ l.length := by
  unfold tgL
  split
  · split
    · rw [tkL_len]; exact Nat.le_refl _
    · exact Nat.le_refl _
  · exact Nat.zero_le _
theorem Take_c (r : Option Nat) (o : Nat) (l : List Int) (k n : Int) (st : St) (hx : At st r o l) (hl : l.length ≤ 1048576) (hn : W1 n) : ACalls Tryz.prog 215 [.agg [.sl r o l.length], I k, I n] st No (Nw st (tgL l k n) (tgA l k n) (tgO l k n)) := by
  unfold W1 at hn
  refine ent (N := 37) Tryz.func215 rfl (by decide) rfl rfl rfl ?_
  refine crr (by kernel_rfl) rfl ?_   -- region 0
  refine c_seq ?_
  refine c_rs (by kernel_rfl) ?_   -- region 1
  refine sr 1 rfl ?_
  refine s_op rfl (o_pure loud_n rfl (SlabOk_c _ _ _ _ hx hl) ?_)
  refine sra rfl ?_
  refine c_if rfl (fun h14 => ?_) (fun h14 => ?_)
  · -- then
    have h14 : ¬ okB l = true := by simpa using h14
    obtain ⟨e1, e2, e3⟩ := tg_no k n h14
    refine crr (by kernel_rfl) rfl ?_   -- region 2
    refine c_ret (fr rfl ⟨none, ?_, .inl ⟨rfl, e1⟩⟩)
    rw [e1, e2, e3]; rfl
  · -- else
    have h14 : okB l = true := by simpa using h14
    have hlen := okB_len h14
    refine c_skip ?_
    refine c_seq ?_
    refine c_sj (α := Bool) (fun b => [(1, I k), (2, I n), (22, .bool b)]) (fun _ => [(3, 3, [.sl r o l.length]), (6, 6, [.sl none 0 0])]) (fun b st' => st = st' ∧ (b = true ↔ ¬ ((1 ≤ k ∧ k ≤ 5) ∧ 2 ≤ n))) ?_ ?_
    · -- region 3
      refine c_region (by kernel_rfl) ?_
      refine sr 1 rfl ?_
      refine s_op rfl (o_pure loud_n rfl (l1In_c ..) ?_)
      refine sr 2 rfl ?_
      refine s_bool 19 rfl rfl (fun h19 => ?_) (fun h19 => ?_)
      · -- slot 19 true
        have h19 := ndt h19
        exact sra rfl ⟨true, ⟨rfl, rfl, rfl, trivial⟩, ⟨rfl, rfl, rfl, rfl, trivial⟩, rfl, fun _ h => h19 h.1, fun _ => rfl⟩
      · -- slot 19 false
        have h19 := ndf h19
        refine sra rfl ⟨_, ⟨rfl, rfl, rfl, trivial⟩, ⟨rfl, rfl, rfl, rfl, trivial⟩, rfl, ?_⟩
        show decide (n < 2) = true ↔ _
        exact ⟨fun h hh => by have := of_decide_eq_true h; omega, fun h => decide_eq_true (by omega)⟩
    rintro b st1 ⟨rfl, hb1⟩
    refine c_if rfl (fun h22 => ?_) (fun h22 => ?_)
    · -- then
      have h22 := hb1.1 h22
      obtain ⟨e1, e2, e3⟩ := tg_bad h14 h22
      refine c_rs (by kernel_rfl) ?_   -- region 4
      refine sr 1 rfl ?_
      refine s_op rfl (o_ex loud_n rfl (l2Copy_c _ _ _ _ hx hl) ?_)
      rintro v1 st1 ⟨q, rfl, hf⟩ _
      refine sra rfl ?_
      refine c_ret (fr rfl ⟨q, ?_, ?_⟩)
      · rw [e1, e2, e3]
      · rw [e1]; exact hf
    · -- else
      have h22 : (1 ≤ k ∧ k ≤ 5) ∧ 2 ≤ n := Classical.byContradiction fun h => by rw [hb1.2 h] at h22; cases h22
      obtain ⟨e1, e2, e3⟩ := tg_ok h14 h22
      obtain ⟨m, rfl⟩ : ∃ m : Nat, n = m := ⟨n.toNat, by omega⟩
      rw [Int.toNat_natCast] at e1 e2 e3
      refine c_skip ?_
      refine c_rs (by kernel_rfl) ?_   -- region 5
      refine sr 1 rfl ?_
      refine s_op rfl (o_ex loud_n rfl (l2Copy_c _ _ _ _ hx hl) ?_)
      rintro v1 st1 ⟨q, rfl, hf⟩ _
      refine sr 2 rfl ?_
      refine s_op rfl (o_call rfl (l2Take_c st.n q l k m _ hf h14 (by omega) (by omega) (by omega)) (fun i hi h => absurd hi (by have := hf.bd i h; omega)) (.inl rfl) ?_)
      rintro v2 st2 ⟨rfl, hf2, _⟩ _
      refine sra rfl ?_
      refine crr (by kernel_rfl) rfl ?_   -- region 6
      refine c_ret (fr rfl ⟨q, ?_, ?_⟩)
      · rw [e1, e2, e3]
      · rw [e1]; exact hf2
/-! ### words of slabs that stay right -/
theorem give_okB {l : List Int} (h : okB l = true) (a : Int) : okB (give l a) = true ∧ (give l a).length = l.length := by
  by_cases hc : a ∈ blocks l ∧ kindOf l a.toNat ≠ 0
  · obtain ⟨n, rfl, _, _⟩ := blocks_mem hc.1
    have := give_at h hc.1 (by simpa using hc.2)
    exact ⟨this.1, this.2.1⟩
  · have e : give l a = l := by unfold give; rw [if_neg hc]
    rw [e]; exact ⟨h, rfl⟩
theorem set_okB {l : List Int} (hok : okB l = true) {a j : Nat} (v : Int) (ha : (a : Int) ∈ blocks l) (h1 : a < j) (h2 : j < a + size l a) : okB (l.set j v) = true := by
  have hs := size_pos (show headOk l a by have := block_at ha; simpa using this.2.2.1)
  refine (heads_same (by simp) hok fun x hx => ?_).1
  obtain ⟨n, rfl, _⟩ := blocks_mem hx
  rw [Int.toNat_natCast, getD_set_I _ _ _ _ (by omega), if_neg]
  intro e
  subst e
  have := blocks_apart hok ha hx h1
  omega
theorem tg_okB {l : List Int} (h : okB l = true) (k n : Int) : okB (tgL l k n) = true ∧ (tgL l k n).length = l.length ∧ (tgO l k n = true → ∃ b : Nat, tgA l k n = b ∧ (b : Int) ∈ blocks (tgL l k n) ∧ 2 ≤ size (tgL l k n) b) := by
  by_cases hb : (1 ≤ k ∧ k ≤ 5) ∧ 2 ≤ n
  · obtain ⟨e1, e2, e3⟩ := tg_ok h hb
    rw [e1, e2, e3]
    cases hs : slot l n.toNat (blocks l) with
    | none =>
      obtain ⟨t1, t2, t3⟩ := tk_none (k := k) hs
      rw [t1, t3]
      exact ⟨h, rfl, fun hh => by cases hh⟩
    | some x =>
      obtain ⟨b, rfl⟩ : ∃ b : Nat, x = b := ⟨x.toNat, by have := (slot_at hs).2.1; omega⟩
      obtain ⟨r1, r2, r3, r4, r5, r6, r7, r8, r9⟩ := tk_room h (show 2 ≤ n.toNat by omega) hb.1 hs
      exact ⟨r1, tkL_len _ _ _, fun _ => ⟨b, (tk_some (k := k) hs).2.1, r2, by rw [r4]; omega⟩⟩
  · obtain ⟨e1, e2, e3⟩ := tg_bad h hb
    rw [e1, e3]
    exact ⟨h, rfl, fun hh => by cases hh⟩
theorem snw_okB {n : Int} (h : 2 ≤ n ∧ n ≤ 2000) : okB (snwL n) = true := by
  have hl := (snwL_len n).2 h.1 h.2
  have e0 : (snwL n).getD 0 0 = 8 * n := by
    rw [snwL_t h, getD_set_I _ _ _ _ (by simp; omega), if_pos rfl]
  have hs : size (snwL n) 0 = n.toNat := by
    have e1 : size (snwL n) 0 = ((snwL n).getD 0 0 / 8).toNat := rfl
    rw [e1, e0]; omega
  have hsg : sg (snwL n) 0 [0] (snwL n).length := ⟨rfl, by omega, by unfold headOk; rw [e0, hl]; omega, by rw [hs]; show 0 + n.toNat = _; omega⟩
  exact (sg_okB hsg (by omega)).1
theorem blocks_ne {l : List Int} (h : okB l = true) (hl : 1 ≤ l.length) : 0 < (blocks l).length := by
  obtain ⟨h1, r, h2, h3⟩ := walk_cons (blocks_of h).2 (show 0 < l.length by omega)
  rw [h2]; simp
/-! ### slabs that are drawn -/
/-- A slab of a new row that is right, and the cursor gone on. -/
def DrR (n0 n1 k : Nat) (r : Option Nat) (code : List Int) : AV → St → Prop := fun v st' => ∃ q l, v = .agg [.sl q 0 l.length] ∧ Fr n1 st' q l ∧ okB l = true ∧ 1 ≤ l.length ∧ CuE n0 k r code st'
theorem l2DrawRight_c (n0 k : Nat) (r : Option Nat) (code : List Int) (st : St) (hc : CuE n0 k r code st) : ACalls Tryz.prog 204 [.ptr (some k) 0] st (fun j => j = k) (DrR n0 st.n k r code) := by
  have hk := hc.bd
  refine ent (N := 64) Tryz.func204 rfl (by decide) rfl rfl rfl ?_
  refine crr (by kernel_rfl) rfl ?_   -- region 0
  refine c_rs (by kernel_rfl) ?_   -- region 1
  refine sr 1 rfl ?_
  refine s_op rfl (oints [2, 3, 10, 40, 90] loud_n rfl (by decide) rfl rfl rfl fun q st1 hq e1 => ?_)
  refine s_op rfl (o_call rfl (l1PickInt_c n0 k r (some q) code 0 _ _ (hc.ex e1) hq.at_ (fun j hj => by have := hq.bd j hj; omega) (by decide) (by decide)) (fun _ _ h => h) (.inl rfl) ?_)
  rintro v2 st2 ⟨x, rfl, hx, hc2⟩ e2
  have hx : 2 ≤ x ∧ x ≤ 2000 := by
    simp only [List.mem_cons, List.not_mem_nil, or_false] at hx
    omega
  refine s_op rfl (o_ex loud_n rfl (SlabNew_c x _) ?_)
  rintro v3 st3 ⟨q3, rfl, hf3⟩ e3
  have hn1 := e1.n
  have hn2 := e2.n
  have hn3 := e3.n
  have hf3 : Fr st.n st3 q3 (snwL x) := hf3.le (by omega)
  have hc3 := hc2.ex e3
  refine sra rfl ?_
  refine c_rs (by kernel_rfl) ?_   -- region 2
  refine sr 1 rfl ?_
  refine s_op rfl (o_call rfl (l1Below_c n0 k r code 14 _ hc3 (by decide)) (fun _ _ h => h) (.inl rfl) ?_)
  rintro v4 st4 ⟨m, rfl, ⟨hm, _⟩, hc4⟩ e4
  have hm := hm (by omega)
  have hf4 := hf3.cu hk.2 e4
  refine sra rfl ?_
  refine c_seq ?_
  refine crr (by kernel_rfl) rfl ?_   -- region 3
  refine c_block ?_
  refine c_lp (α := Nat × Option Nat × List Int) (fun i => [(0, .ptr (some k) 0), (5, I m), (6, I i.1)]) (fun i => [(2, 2, [.sl none 0 0]), (3, 3, [.sl i.2.1 0 i.2.2.length])]) (fun i st' => CuE n0 k r code st' ∧ Fr st.n st' i.2.1 i.2.2 ∧ okB i.2.2 = true ∧ 1 ≤ i.2.2.length ∧ i.1 ≤ 14 ∧ st.n ≤ st'.n) (fun i => 14 - i.1) (0, q3, snwL x) ⟨rfl, rfl, rfl, trivial⟩ ⟨rfl, rfl, rfl, rfl, trivial⟩ ⟨hc4, hf4, snw_okB hx, by have := (snwL_len x).2 hx.1 hx.2; dsimp only; omega, by dsimp only; omega, by have := e4.n; omega⟩ ?_
  rintro ⟨i, q, l⟩ st5 ⟨hc, hf, hok, hl1, hi, hn5⟩
  dsimp only at *
  have hlen := okB_len hok
  refine c_seq ?_
  refine crr (by kernel_rfl) rfl ?_   -- region 4
  refine c_if rfl (fun h22 => ?_) (fun h22 => ?_)
  · -- then
    have h22 := of_decide_eq_true h22
    refine c_skip ?_
    refine c_sj (α := Option Nat × List Int) (fun j => [(0, .ptr (some k) 0), (5, I m), (6, I i)]) (fun j => [(2, 2, [.sl none 0 0]), (3, 3, [.sl j.1 0 j.2.length])]) (fun j st' => CuE n0 k r code st' ∧ Fr st.n st' j.1 j.2 ∧ okB j.2 = true ∧ 1 ≤ j.2.length ∧ st.n ≤ st'.n) ?_ ?_
    · -- ways that meet
      refine c_block ?_
      refine c_seq ?_
      refine c_rs (by kernel_rfl) ?_   -- region 6
      refine sr 1 rfl ?_
      refine s_op rfl (o_call rfl (l1Once_c n0 k r code 3 _ hc (by decide)) (fun _ _ h => h) (.inl rfl) ?_)
      rintro v1 st6 ⟨b, rfl, hc6⟩ e6
      have hf6 := hf.cu hk.2 e6
      have hn6 := e6.n
      refine s_end ?_
      refine c_if rfl (fun h26 => ?_) (fun h26 => ?_)
      · -- then
        refine c_rs (by kernel_rfl) ?_   -- region 7
        refine sr 1 rfl ?_
        refine s_op rfl (o_ex loud_n rfl (Blocks_c _ _ _ _ hf6.at_ (by omega)) ?_)
        rintro v7 st7 ⟨qb, rfl, hfb⟩ e7
        have hn7 := e7.n
        have hf7 := hf6.ex e7
        have hc7 := hc6.ex e7
        have hbn := blocks_ne hok hl1
        have hbl := blocks_lel l
        refine sra rfl ?_
        refine cdx [3] [] [0, 1, 2, 3, 4, 5] [false, false, false, false, false, true] [6, 7, 8, 9] [.q, .q, .n, .n] (by kernel_rfl) (by kernel_rfl) ?_   -- region 8
        refine yr 5 rfl ?_
        refine y_b rfl rfl (b_call rfl (l1Below_c n0 k r code (blocks l).length _ hc7 (by omega)) (fun _ _ h => h) ?_)
        rintro v8 st8 ⟨y, rfl, ⟨hy, _⟩, hc8⟩ e8
        have hy := hy (by omega)
        have hf8 := hf7.cu hk.2 e8
        have hfb8 := (hfb.le (show st.n ≤ st6.n by omega)).cu hk.2 e8
        refine y_end ?_
        refine s_op rfl (oidx rfl rfl rfl (by omega) (by omega) ?_)   -- 35 := indexAddr 31 (tmp 30) (tmp 34)
        refine s_op rfl (old rfl rfl (hfb8.at_.rd (by omega) (by omega)) ?_)   -- 36 := load 3 (tmp 35)
        refine s_op rfl (o_ex loud_n rfl (Give_c _ _ l _ _ hf8.at_ (by omega)) ?_)
        rintro v9 st9 ⟨q9, rfl, hf9⟩ e9
        refine sra rfl ?_
        have hg := give_okB hok (rd (blocks l) y)
        refine c_exit ?_
        exact ⟨(q9, give l (rd (blocks l) y)), ⟨rfl, rfl, rfl, trivial⟩, ⟨rfl, rfl, rfl, rfl, trivial⟩, hc8.ex e9, hf9.le (by have := e8.n; omega), hg.1, by rw [hg.2]; exact hl1, by have := e8.n; have := e9.n; omega⟩
      · -- else
        refine c_skip ?_
        refine cdx [3] [12] [0, 1, 4, 2, 3, 5, 6, 7, 8, 9, 10, 11] [false, false, false, true, false, true, false, true, false, false, false, false] [13, 14, 15] [.n, .n, .n] (by kernel_rfl) (by kernel_rfl) ?_   -- region 9
        refine yr 3 rfl ?_
        refine y_b rfl rfl (b_call rfl (l1Below_c n0 k r code 5 _ hc6 (by decide)) (fun _ _ h => h) ?_)
        rintro v7 st7 ⟨y, rfl, ⟨hy, _⟩, hc7⟩ e7
        have hy := hy (by omega)
        refine y_op rfl rfl rfl (x_ar rfl rfl rfl (by omega) (by omega)) ?_
        refine y_b rfl rfl (b_call rfl (l1Below_c n0 k r code 6 _ hc7 (by decide)) (fun _ _ h => h) ?_)
        rintro v8 st8 ⟨z, rfl, ⟨hz, _⟩, hc8⟩ e8
        have hz := hz (by omega)
        refine y_op rfl rfl rfl (x_ar rfl rfl rfl (by omega) (by omega)) ?_
        have hf8 := (hf6.cu hk.2 e7).cu hk.2 e8
        refine y_b rfl rfl (b_call rfl (Take_c _ _ l (1 + y) (2 + z) _ hf8.at_ (by omega) (by unfold W1; omega)) no_T ?_)
        rintro v9 st9 ⟨q9, rfl, hf9⟩ e9
        have hn7 := e7.n
        have hn8 := e8.n
        have hn9 := e9.n
        have hf9 : Fr st.n st9 q9 _ := hf9.le (by omega)
        have hc9 := hc8.ex e9
        obtain ⟨t1, t2, t3⟩ := tg_okB hok (1 + y) (2 + z)
        refine yr 4 rfl ?_
        refine y_end ?_
        refine sra rfl ?_
        refine crr (by kernel_rfl) rfl ?_   -- region 10
        refine c_sj (α := Bool) (fun b => [(0, .ptr (some k) 0), (5, I m), (6, I i), (9, I (tgA l (1 + y) (2 + z))), (55, .bool b)]) (fun _ => [(2, 2, [.sl none 0 0]), (3, 3, [.sl q9 0 (tgL l (1 + y) (2 + z)).length])]) (fun b st' => CuE n0 k r code st' ∧ Fr st.n st' q9 (tgL l (1 + y) (2 + z)) ∧ st.n ≤ st'.n ∧ (b = true → tgO l (1 + y) (2 + z) = true)) ?_ ?_
        · -- region 11
          refine c_region (by kernel_rfl) ?_
          refine sr 2 rfl ?_
          refine s_bool 52 rfl rfl (fun h52 => ?_) (fun h52 => ?_)
          · -- slot 52 true
            refine sr 1 rfl ?_
            refine s_op rfl (o_call rfl (l1Once_c n0 k r code 2 _ hc9 (by decide)) (fun _ _ h => h) (.inl rfl) ?_)
            rintro v3 st10 ⟨b3, rfl, hc10⟩ e10
            exact sra rfl ⟨_, ⟨rfl, rfl, rfl, rfl, rfl, trivial⟩, ⟨rfl, rfl, rfl, rfl, trivial⟩, hc10, hf9.cu hk.2 e10, by have := e10.n; omega, fun _ => h52⟩
          · -- slot 52 false
            exact sra rfl ⟨false, ⟨rfl, rfl, rfl, rfl, rfl, trivial⟩, ⟨rfl, rfl, rfl, rfl, trivial⟩, hc9, hf9, by omega, fun h => by cases h⟩
        rintro b st10 ⟨hc10, hf10, hn10, hb1⟩
        refine c_if rfl (fun h55 => ?_) (fun h55 => ?_)
        · -- then
          obtain ⟨a, ha1, ha2, ha3⟩ := t3 (hb1 h55)
          have hs := size_pos (show headOk (tgL l (1 + y) (2 + z)) a by have := block_at ha2; simpa using this.2.2.1)
          rw [ha1]
          obtain ⟨qq, rfl⟩ := hf10.some_of (fun e => by rw [e] at hs; simp at hs; omega)
          refine cdx1 [3] [] [0, 1, 2, 3, 4, 5] [false, false, false, false, false, true] [6, 7] [.q, .n] (by kernel_rfl) (by kernel_rfl) ?_   -- region 12
          refine yr 3 rfl ?_
          refine y_op rfl rfl rfl (x_ar rfl rfl rfl (by omega) (by omega)) ?_
          refine yr 1 rfl ?_
          refine y_b rfl rfl (b_call rfl (l1Below_c n0 k r code 50 _ hc10 (by decide)) (fun _ _ h => h) ?_)
          rintro v11 st11 ⟨w, rfl, _, hc11⟩ e11
          have hf11 := hf10.cu hk.2 e11
          refine y_end ?_
          refine s_op rfl (oidx rfl rfl rfl (by omega) (by omega) ?_)   -- 62 := indexAddr 31 (tmp 57) (tmp 59)
          refine s_op rfl (ostF rfl rfl hf11 rfl rfl (by omega) fun st12 hf12 he12 => ?_)
          refine s_end ?_
          have hb12 := hf11.bd qq rfl
          have el : ((tgL l (1 + y) (2 + z)).set (0 + ((a : Int) + 1).toNat) w).length = (tgL l (1 + y) (2 + z)).length := List.length_set
          refine ⟨(some qq, (tgL l (1 + y) (2 + z)).set (0 + ((a : Int) + 1).toNat) w), ⟨rfl, rfl, rfl, trivial⟩, ⟨rfl, rfl, rfl, ?_, trivial⟩, hc11.ext he12 (fun e => ?_) (fun j hj => ?_), hf12, set_okB t1 w ha2 (by omega) (by omega), ?_, ?_⟩
          · show some [AV.sl (some qq) 0 (tgL l (1 + y) (2 + z)).length] = some [AV.sl (some qq) 0 ((tgL l (1 + y) (2 + z)).set (0 + ((a : Int) + 1).toNat) w).length]
            rw [el]
          · injection e with e; omega
          · injection hj with hj; omega
          · rw [el]; omega
          · have := he12.n; have := e11.n; omega
        · -- else
          refine c_skip ?_
          exact ⟨(q9, tgL l (1 + y) (2 + z)), ⟨rfl, rfl, rfl, trivial⟩, ⟨rfl, rfl, rfl, rfl, trivial⟩, hc10, hf10, t1, by rw [t2]; exact hl1, hn10⟩
    rintro ⟨q', l'⟩ st6 ⟨hc6, hf6, hok6, hl6, hn6⟩
    dsimp only at *
    refine c_region (by kernel_rfl) ?_   -- region 5
    refine sr 1 rfl ?_
    refine s_op rfl (o_ar rfl rfl rfl (by omega) (by omega) ?_)   -- 24 := binOp BinOp.add 3 (tmp 23) (const (Value.int IntKind.i64 1)) 3
    refine sra rfl ?_
    exact ⟨(i + 1, q', l'), ⟨rfl, rfl, rfl, trivial⟩, ⟨rfl, rfl, rfl, rfl, trivial⟩, ⟨hc6, hf6, hok6, hl6, by dsimp only; omega, hn6⟩, by dsimp only; omega⟩
  · -- else
    refine c_exit ?_
    refine crr (by kernel_rfl) rfl ?_   -- region 13
    exact c_ret (fr rfl ⟨q, l, rfl, hf, hok, hl1, hc⟩)
/-- A slab that is drawn: of a new row, or of none. -/
def SlA (n0 n1 k : Nat) (r : Option Nat) (code : List Int) : AV → St → Prop := fun v st' => ∃ q o l, v = .agg [.sl q o l.length] ∧ At st' q o l ∧ l.length ≤ 2001 ∧ (∀ j, q = some j → n1 ≤ j ∧ j < st'.n) ∧ CuE n0 k r code st'
theorem l2Draw_c (n0 k : Nat) (r : Option Nat) (code : List Int) (st : St) (hc : CuE n0 k r code st) : ACalls Tryz.prog 177 [.ptr (some k) 0] st (fun j => j = k) (SlA n0 st.n k r code) := by
  have hk := hc.bd
  refine ent (N := 33) Tryz.func177 rfl (by decide) rfl rfl rfl ?_
  refine crr (by kernel_rfl) rfl ?_   -- region 0
  refine c_rs (by kernel_rfl) ?_   -- region 1
  refine sr 1 rfl ?_
  refine s_op rfl (o_call rfl (l2DrawRight_c n0 k r code _ hc) (fun _ _ h => h) (.inl rfl) ?_)
  rintro v1 st1 ⟨q, l, rfl, hf, hok, hl1, hc1⟩ e1
  have hlen := okB_len hok
  obtain ⟨q, rfl⟩ := hf.some_of (fun e => by rw [e] at hl1; simp at hl1)
  have hb := hf.bd q rfl
  refine sra rfl ?_
  refine c_sj (α := Option Nat × Nat × List Int) (fun i => []) (fun i => [(2, 2, [.sl none 0 0]), (3, 3, [.sl i.1 i.2.1 i.2.2.length])]) (fun i st' => At st' i.1 i.2.1 i.2.2 ∧ i.2.2.length ≤ 2001 ∧ (∀ j, i.1 = some j → st.n ≤ j ∧ j < st'.n) ∧ CuE n0 k r code st') ?_ ?_
  · -- ways that meet
    refine c_rs (by kernel_rfl) ?_   -- region 2
    refine sr 1 rfl ?_
    refine s_op rfl (o_call rfl (l1Below_c n0 k r code 15 _ hc1 (by decide)) (fun _ _ h => h) (.inl rfl) ?_)
    rintro v2 st2 ⟨x, rfl, _, hc2⟩ e2
    have hf2 := hf.cu hk.2 e2
    have hn2 := e2.n
    refine s_end ?_
    refine c_block ?_
    refine crr (by kernel_rfl) rfl ?_   -- region 3
    refine c_if rfl (fun h8 => ?_) (fun h8 => ?_)
    · -- then
      refine cdx1 [3] [] [0, 1, 2, 3, 4] [false, false, false, true, true] [5, 6] [.q, .n] (by kernel_rfl) (by kernel_rfl) ?_   -- region 4
      refine yr 3 rfl ?_
      refine y_b rfl rfl (bints [0, 8, 16, 24, -8, 22, 9223372036854775807] rfl (by decide) rfl rfl rfl fun q3 st3 hq3 e3 => ?_)
      refine y_b rfl rfl (b_call rfl (l1PickInt_c n0 k r (some q3) code 0 _ _ (hc2.ex e3) hq3.at_ (fun j hj => by have := hq3.bd j hj; omega) (by decide) (by decide)) (fun _ _ h => h) ?_)
      rintro v4 st4 ⟨y, rfl, hy, hc4⟩ e4
      have hf4 := (hf2.ex e3).cu hk.2 e4
      refine y_end ?_
      refine s_op rfl (oidx rfl rfl rfl (by omega) (by omega) ?_)   -- 15 := indexAddr 31 (tmp 11) (const (Value.int IntKind.i64 0))
      refine s_op rfl (ostF rfl rfl hf4 rfl rfl (by omega) fun st5 hf5 he5 => ?_)
      refine s_end ?_
      have el : (l.set (0 + (0 : Int).toNat) y).length = l.length := List.length_set
      refine ⟨(some q, 0, l.set (0 + (0 : Int).toNat) y), trivial, ⟨rfl, rfl, rfl, ?_, trivial⟩, hf5.at_, by rw [el]; omega, fun j hj => hf5.bd j hj, hc4.ext he5 (fun e => ?_) (fun j hj => ?_)⟩
      · show some [AV.sl (some q) 0 l.length] = some [AV.sl (some q) 0 (l.set (0 + (0 : Int).toNat) y).length]
        rw [el]
      · injection e with e; omega
      · injection hj with hj; omega
    · -- else
      refine crr (by kernel_rfl) rfl ?_   -- region 5
      refine c_if rfl (fun h16 => ?_) (fun h16 => ?_)
      · -- then
        refine c_region (by kernel_rfl) ?_   -- region 6
        refine sr 2 rfl ?_
        refine s_op rfl (oone loud_n rfl rfl ?_)
        refine s_op rfl (oappT (n0 := st.n) (fun i hi h => by injection hi with hi; omega) (by have := (ex_push st2 (.row true ([16].map I))).n; omega) rfl rfl rfl (hf2.ex (ex_push _ _)) rfl (at_row (Nat.lt_succ_self _) (push_ob _ _)) (by simp; omega) fun q3 st3 hf3 _ he3 => ?_)
        refine sra rfl ?_
        have hcp : CuE n0 k r code (st2.push (.row true ([16].map I))) := hc2.ex (ex_push _ _)
        refine ⟨(q3, 0, l ++ [16]), trivial, ⟨rfl, rfl, rfl, ?_, trivial⟩, hf3.at_, by simp; omega, fun j hj => hf3.bd j hj, hcp.ext he3 (fun e => ?_) (fun j hj => ?_)⟩
        · rfl
        · injection e with e; omega
        · injection hj with hj; omega
      · -- else
        refine crr (by kernel_rfl) rfl ?_   -- region 7
        refine c_if rfl (fun h23 => ?_) (fun h23 => ?_)
        · -- then
          refine c_region (by kernel_rfl) ?_   -- region 8
          refine sr 2 rfl ?_
          refine s_op rfl (oslice rfl rfl rfl rfl (by omega) (by omega) (by omega) ?_)   -- 27 := slice 31 (tmp 26) (some (const (Value.int IntKind.i64 1))) none none
          refine sra rfl ?_
          have hcut := hf2.at_.cut 1 l.length hl1 (Nat.le_refl _)
          have el : ((l.drop 1).take (l.length - 1)).length = l.length - 1 := by simp
          refine ⟨(some q, 0 + 1, (l.drop 1).take (l.length - 1)), trivial, ⟨rfl, rfl, rfl, ?_, trivial⟩, hcut, by rw [el]; omega, fun j hj => hf2.bd j hj, hc2⟩
          rw [el]; rfl
        · -- else
          refine crr (by kernel_rfl) rfl ?_   -- region 9
          refine c_if rfl (fun h29 => ?_) (fun h29 => ?_)
          · -- then
            refine c_region (by kernel_rfl) ?_   -- region 10
            refine sra rfl ?_
            exact ⟨(none, 0, []), trivial, ⟨rfl, rfl, rfl, rfl, trivial⟩, At.nil _ _ _, Nat.zero_le _, fun j hj => (by cases hj), hc2⟩
          · -- else
            refine c_skip ?_
            exact ⟨(some q, 0, l), trivial, ⟨rfl, rfl, rfl, rfl, trivial⟩, hf2.at_, by dsimp only; omega, fun j hj => hf2.bd j hj, hc2⟩
  rintro ⟨q', o', l'⟩ st2 ⟨ha, hl, hbd, hc2⟩
  dsimp only at *
  refine crr (by kernel_rfl) rfl ?_   -- region 11
  exact c_ret (fr rfl ⟨q', o', l', rfl, ha, hl, hbd, hc2⟩)
theorem l2DrawAt_c (n0 k : Nat) (r ra : Option Nat) (code : List Int) (o : Nat) (l : List Int) (st : St) (hc : CuE n0 k r code st) (hx : At st ra o l) (hne : ∀ j, ra = some j → j ≠ k) (hl : l.length ≤ 1048576) : ACalls Tryz.prog 68 [.ptr (some k) 0, .agg [.sl ra o l.length]] st (fun j => j = k) (CuI n0 k r code fun x => -1 ≤ x ∧ x ≤ 9999) := by
  have hk := hc.bd
  have hbl := blocks_lel l
  refine ent (N := 25) Tryz.func68 rfl (by decide) rfl rfl rfl ?_
  refine crr (by kernel_rfl) rfl ?_   -- region 0
  refine c_rs (by kernel_rfl) ?_   -- region 1
  refine sr 1 rfl ?_
  refine s_op rfl (o_ex loud_n rfl (Blocks_c _ _ _ _ hx hl) ?_)
  rintro v1 st1 ⟨qb, rfl, hfb⟩ e1
  have hc1 := hc.ex e1
  have hn1 := e1.n
  refine sra rfl ?_
  refine c_seq ?_
  refine c_sj (α := Bool) (fun b => [(0, .ptr (some k) 0), (5, .sl (some qb) 0 (blocks l).length), (14, .bool b)]) (fun _ => []) (fun b st' => CuE n0 k r code st' ∧ Fr st.n st' (some qb) (blocks l) ∧ st.n ≤ st'.n ∧ (b = false → 0 < (blocks l).length)) ?_ ?_
  · -- region 2
    refine c_region (by kernel_rfl) ?_
    refine sr 4 rfl ?_
    refine s_bool 11 rfl rfl (fun h11 => ?_) (fun h11 => ?_)
    · -- slot 11 true
      exact sra rfl ⟨true, ⟨rfl, rfl, rfl, trivial⟩, trivial, hc1, hfb, hn1, fun h => by cases h⟩
    · -- slot 11 false
      have h11 := of_decide_eq_false h11
      refine sr 1 rfl ?_
      refine s_op rfl (o_call rfl (l1Once_c n0 k r code 5 _ hc1 (by decide)) (fun _ _ h => h) (.inl rfl) ?_)
      rintro v5 st5 ⟨b, rfl, hc5⟩ e5
      exact sra rfl ⟨_, ⟨rfl, rfl, rfl, trivial⟩, trivial, hc5, hfb.cu hk.2 e5, by have := e5.n; omega, fun _ => by omega⟩
  rintro b st2 ⟨hc2, hfb2, hn2, hb⟩
  refine c_if rfl (fun h14 => ?_) (fun h14 => ?_)
  · -- then
    refine c_rs (by kernel_rfl) ?_   -- region 3
    refine sr 1 rfl ?_
    refine s_op rfl (oints [-1, 0, 1, 5, 9999] loud_n rfl (by decide) rfl rfl rfl fun q st3 hq e3 => ?_)
    refine s_op rfl (o_call rfl (l1PickInt_c n0 k r (some q) code 0 _ _ (hc2.ex e3) hq.at_ (fun j hj => by have := hq.bd j hj; omega) (by decide) (by decide)) (fun _ _ h => h) (.inl rfl) ?_)
    rintro v2 st4 ⟨x, rfl, hx, hc4⟩ e2
    refine sra rfl ?_
    refine c_ret (fr rfl ⟨x, rfl, ?_, hc4⟩)
    simp only [List.mem_cons, List.not_mem_nil, or_false] at hx
    omega
  · -- else
    have hb := hb h14
    refine c_skip ?_
    refine c_rs (by kernel_rfl) ?_   -- region 4
    refine sr 4 rfl ?_
    refine s_op rfl (o_call rfl (l1Below_c n0 k r code (blocks l).length _ hc2 (by omega)) (fun _ _ h => h) (.inl rfl) ?_)
    rintro v4 st4 ⟨y, rfl, ⟨hy, _⟩, hc4⟩ e4
    have hy := hy (by omega)
    have hfb4 := hfb2.cu hk.2 e4
    refine s_op rfl (oidx rfl rfl rfl (by omega) (by omega) ?_)   -- 23 := indexAddr 31 (tmp 18) (tmp 22)
    refine s_op rfl (old rfl rfl (hfb4.at_.rd (by omega) (by omega)) ?_)   -- 24 := load 3 (tmp 23)
    refine sra rfl ?_
    have hm : rd (blocks l) y ∈ blocks l := by
      have := mem_rd (l := blocks l) (j := y.toNat) (by omega)
      rwa [show ((y.toNat : Nat) : Int) = y by omega] at this
    have hba := block_at hm
    exact c_ret (fr rfl ⟨_, rfl, by omega, hc4⟩)
/-- A slab and a number that are drawn, without the cursor. -/
def SlI (n1 : Nat) (p : Int → Prop) : AV → St → Prop := fun v st' => ∃ q o l x, v = .tup [.agg [.sl q o l.length], I x] ∧ At st' q o l ∧ l.length ≤ 2001 ∧ (∀ j, q = some j → n1 ≤ j ∧ j < st'.n) ∧ p x
/-- A slab and two numbers that are drawn. -/
def SlII (n1 : Nat) (p : Int → Int → Prop) : AV → St → Prop := fun v st' => ∃ q o l x y, v = .tup [.agg [.sl q o l.length], I x, I y] ∧ At st' q o l ∧ l.length ≤ 2001 ∧ (∀ j, q = some j → n1 ≤ j ∧ j < st'.n) ∧ p x y
end Go.Proofs.YtfhkjhnaihhdmaaGreatW.Ax

/- Values: numbers that go round, references, and what is drawn of them. -/
namespace Go.Proofs.YtfhkjhnaihhdmaaGreatW.Ax
open Go Go.RowKit Go.Proofs Go.Proofs.YtfhkjhnaihhdmaaGreat.Pure
set_option linter.unusedVariables false
set_option maxRecDepth 100000

/-- A number that goes round at 32 bits. -/
def wr (n : Int) : Int := (n + 2147483648) % 4294967296 - 2147483648
theorem wr_bd (n : Int) : -2147483648 ≤ wr n ∧ wr n ≤ 2147483647 := by unfold wr; omega
theorem wr_wr (n : Int) : wr (wr n) = wr n := by unfold wr; omega
theorem wr_up (n : Int) : wr (IntKind.i64.wrap (n + 4294967296)) = wr n := by rw [IntKind.wrap_i64]; unfold wr; omega
def rfV (k a : Int) : Int := if (4 ≤ k ∧ k ≤ 7) ∧ (0 ≤ a ∧ a ≤ 1999) then 8 * a + k else 0
theorem Wrap_c (n : Int) (st : St) : ACalls Tryz.prog 212 [I n] st No (Pure1 (I (wr n)) st) := by
  have e : IntKind.i64.wrap (n % 4294967296 - 4294967296) = n % 4294967296 - 4294967296 := by rw [IntKind.wrap_i64]; omega
  refine ent (N := 11) Tryz.func212 rfl (by decide) rfl rfl rfl ?_
  refine crr (by kernel_rfl) rfl ?_   -- region 0
  refine crr (by kernel_rfl) rfl ?_   -- region 1
  refine c_seq ?_
  refine crr (by kernel_rfl) rfl ?_   -- region 2
  refine c_if rfl (fun h7 => ?_) (fun h7 => ?_)
  · have h7 := of_decide_eq_true h7
    have h7 : 2147483647 < n % 4294967296 := h7
    refine crr (by kernel_rfl) rfl ?_   -- region 3
    refine c_ret (fr rfl ⟨?_, rfl⟩)
    show I (IntKind.i64.wrap (n % 4294967296 - 4294967296)) = I (wr n)
    rw [e]; congr 1; unfold wr; omega
  · have h7 := of_decide_eq_false h7
    have h7 : ¬ 2147483647 < n % 4294967296 := h7
    refine c_skip ?_
    refine crr (by kernel_rfl) rfl ?_   -- region 4
    refine c_ret (fr rfl ⟨?_, rfl⟩)
    show I (n % 4294967296) = I (wr n)
    congr 1; unfold wr; omega
theorem IntOf_c (n : Int) (st : St) : ACalls Tryz.prog 200 [I n] st No (Pure1 (I (8 * wr n + 3)) st) := by
  have := wr_bd n
  refine ent (N := 7) Tryz.func200 rfl (by decide) rfl rfl rfl ?_
  refine crr (by kernel_rfl) rfl ?_   -- region 0
  refine c_rs (by kernel_rfl) ?_   -- region 1
  refine sr 1 rfl ?_
  refine s_op rfl (o_pure loud_n rfl (Wrap_c ..) ?_)
  refine s_op rfl (o_ar rfl rfl rfl (by omega) (by omega) ?_)
  refine s_op rfl (o_ar rfl rfl rfl (by omega) (by omega) ?_)
  refine sra rfl ?_
  exact c_ret (fr rfl ⟨rfl, rfl⟩)
theorem BoolOf_c (b : Bool) (st : St) : ACalls Tryz.prog 201 [.bool b] st No (Pure1 (I (cond b 10 2)) st) := by
  refine ent (N := 4) Tryz.func201 rfl (by decide) rfl rfl rfl ?_
  refine crr (by kernel_rfl) rfl ?_   -- region 0
  refine c_seq ?_
  refine crr (by kernel_rfl) rfl ?_   -- region 1
  refine c_if rfl (fun h => ?_) (fun h => ?_)
  · have h : b = true := h
    subst h
    refine crr (by kernel_rfl) rfl ?_   -- region 2
    exact c_ret (fr rfl ⟨rfl, rfl⟩)
  · have h : b = false := h
    subst h
    refine c_skip ?_
    refine crr (by kernel_rfl) rfl ?_   -- region 3
    exact c_ret (fr rfl ⟨rfl, rfl⟩)
theorem RefOfG_c (k a : Int) (st : St) : ACalls Tryz.prog 66 [I k, I a] st No (Pure1 (I (rfV k a)) st) := by
  by_cases hc : (4 ≤ k ∧ k ≤ 7) ∧ (0 ≤ a ∧ a ≤ 1999)
  · unfold rfV; rw [if_pos hc]; exact RefOf_c k a st hc.1 hc.2
  unfold rfV; rw [if_neg hc]
  refine ent (N := 17) Tryz.func66 rfl (by decide) rfl rfl rfl ?_
  refine crr (by kernel_rfl) rfl ?_   -- region 0
  refine c_seq ?_
  refine c_rs (by kernel_rfl) ?_   -- region 1
  refine sr 1 rfl ?_
  refine s_op rfl (o_pure loud_n rfl (l1In_c ..) ?_)
  by_cases hk : 4 ≤ k ∧ k ≤ 7
  · rw [decide_eq_true hk]
    refine sr 3 rfl ?_
    refine s_op rfl (o_pure loud_n rfl (l1In_c ..) ?_)
    rw [decide_eq_false (fun h => hc ⟨hk, h⟩)]
    refine sra rfl ?_
    refine c_if_t rfl ?_
    refine crr (by kernel_rfl) rfl ?_   -- region 2
    exact c_ret (fr rfl ⟨rfl, rfl⟩)
  · rw [decide_eq_false hk]
    refine sra rfl ?_
    refine c_if_t rfl ?_
    refine crr (by kernel_rfl) rfl ?_   -- region 2
    exact c_ret (fr rfl ⟨rfl, rfl⟩)
theorem iRefOfG_c (k a : Int) (st : St) : ACalls Tryz.prog 173 [I k, I a] st No (Pure1 (I (rfV k a)) st) := by
  by_cases hc : (4 ≤ k ∧ k ≤ 7) ∧ (0 ≤ a ∧ a ≤ 1999)
  · unfold rfV; rw [if_pos hc]; exact iRefOf_c k a st hc.1 hc.2
  unfold rfV; rw [if_neg hc]
  refine ent (N := 17) Tryz.func173 rfl (by decide) rfl rfl rfl ?_
  refine crr (by kernel_rfl) rfl ?_   -- region 0
  refine c_seq ?_
  refine c_rs (by kernel_rfl) ?_   -- region 1
  refine sr 1 rfl ?_
  refine s_op rfl (o_pure loud_n rfl (within_c ..) ?_)
  by_cases hk : 4 ≤ k ∧ k ≤ 7
  · rw [decide_eq_true hk]
    refine sr 3 rfl ?_
    refine s_op rfl (o_pure loud_n rfl (within_c ..) ?_)
    rw [decide_eq_false (fun h => hc ⟨hk, h⟩)]
    refine sra rfl ?_
    refine c_if_t rfl ?_
    refine crr (by kernel_rfl) rfl ?_   -- region 2
    exact c_ret (fr rfl ⟨rfl, rfl⟩)
  · rw [decide_eq_false hk]
    refine sra rfl ?_
    refine c_if_t rfl ?_
    refine crr (by kernel_rfl) rfl ?_   -- region 2
    exact c_ret (fr rfl ⟨rfl, rfl⟩)
def DvI : AV → St → Prop := fun v _ => ∃ x, v = I x ∧ W1 x
def DvB : AV → St → Prop := fun v _ => ∃ x, v = .bool x
def DvII : AV → St → Prop := fun v _ => ∃ x y, v = .tup [I x, I y] ∧ (-1 ≤ x ∧ x ≤ 8) ∧ W1 y
section
variable (r : Option Nat) (code : List Int) (st : St) (hx : AtB st r 0 code) (h8 : U8 code) (hl : code.length ≤ 1048576) (hr : ∀ j, r = some j → j < st.n)
include hx h8 hl hr
end
end Go.Proofs.YtfhkjhnaihhdmaaGreatW.Ax

/- Heaps that are drawn. -/
namespace Go.Proofs.YtfhkjhnaihhdmaaGreatW.Ax
open Go Go.RowKit Go.Proofs Go.Proofs.YtfhkjhnaihhdmaaGreat.Pure
set_option linter.unusedVariables false
set_option maxRecDepth 100000

theorem scp_bd {l : List Int} {v : Int} (h : Rf l v 7 5) : 0 ≤ v / 8 ∧ v / 8 + rd l (v / 8) / 8 ≤ l.length ∧ l.length ≤ 2000 ∧ 2 ≤ rd l (v / 8) / 8 := by
  have h1 := at_of h (by omega)
  have h2 := rd_size h1.2.1 (block_at h1.1).2.2.1
  have h3 : rd l (v / 8) / 8 = (size l (v / 8).toNat : Nat) := h2
  omega
theorem l6At0_c (r : Option Nat) (o : Nat) (l : List Int) (v : Int) (st : St) (hx : At st r o l) : ACalls Tryz.prog 165 [.agg [.sl r o l.length], I v, I 0] st No (Pure1 (.tup [I v, .bool true]) st) := by
  refine ent (N := 24) Tryz.func165 rfl (by decide) rfl rfl rfl ?_
  refine crr (by kernel_rfl) rfl ?_   -- region 0
  refine c_seq ?_
  refine crr (by kernel_rfl) rfl ?_   -- region 1
  refine c_block ?_
  refine c_lp (α := Unit) (fun _ => [(1, I v), (2, I 0), (8, I 0)]) (fun _ => [(3, 3, [.sl r o l.length])]) (fun _ st' => st = st') (fun _ => 0) () ⟨rfl, rfl, rfl, trivial⟩ ⟨rfl, rfl, trivial⟩ rfl ?_
  rintro _ st' rfl
  refine c_seq ?_
  refine crr (by kernel_rfl) rfl ?_   -- region 2
  refine c_if_f rfl ?_
  refine c_exit ?_
  refine crr (by kernel_rfl) rfl ?_   -- region 7
  exact c_ret (fr rfl ⟨rfl, rfl⟩)
def PlP (l : List Int) (st : St) : AV → St → Prop := fun v st' => ∃ x, v = I x ∧ (x < 0 ∨ 0 ≤ x ∧ x < l.length) ∧ st' = st
theorem l6Place0_c (r : Option Nat) (o : Nat) (l : List Int) (v i : Int) (st : St) (hx : At st r o l) (hv : Rf l v 7 5) (hi : W1 i) : ACalls Tryz.prog 111 [.agg [.sl r o l.length], I v, I 0, I i] st No (PlP l st) := by
  have hb := scp_bd hv
  refine ent (N := 38) Tryz.func111 rfl (by decide) rfl rfl rfl ?_
  refine crr (by kernel_rfl) rfl ?_   -- region 0
  refine c_rs (by kernel_rfl) ?_   -- region 1
  refine sr 3 rfl ?_
  refine s_op rfl (o_pure loud_n rfl (l6At0_c _ _ _ v _ hx) ?_)
  refine sra rfl ?_
  refine c_seq ?_
  refine c_sj (α := Bool) (fun b => [(3, I i), (9, I v), (32, .bool b)]) (fun _ => [(4, 4, [.sl r o l.length])]) (fun b st' => st = st' ∧ (b = false → 0 ≤ i ∧ i ≤ rd l (v / 8) / 8 - 3)) ?_ ?_
  · -- region 2
    refine cd1 [0, 1, 2, 3, 4, 5, 6, 7, 8, 9, 10, 11, 12, 13, 14] [.q, .q, .q, .q, .q, .q, .q, .f, .q, .q, .f, .q, .f, .q, .q] (by kernel_rfl) (by kernel_rfl) ?_
    refine sr 7 rfl ?_
    refine s_op rfl (o_pure loud_f rfl (Num_c ..) ?_)
    refine s_op rfl (oidx rfl rfl rfl (by omega) (by omega) ?_)   -- 26 := indexAddr 31 (tmp 23) (tmp 25)
    refine s_op rfl (old rfl rfl (hx.rd (by omega) (by omega)) ?_)   -- 27 := load 3 (tmp 26)
    refine s_op rfl (o_pure loud_f rfl (l2Size_c ..) ?_)
    refine s_op rfl (o_ar rfl rfl rfl (by omega) (by omega) ?_)   -- 29 := binOp BinOp.sub 3 (tmp 28) (const (Value.int IntKind.i64 3)) 3
    refine s_op rfl (o_pure loud_f rfl (l1In_c ..) ?_)
    refine sra rfl ⟨_, ⟨rfl, rfl, rfl, trivial⟩, ⟨rfl, rfl, trivial⟩, rfl, fun h => ?_⟩
    have h : (!decide (0 ≤ i ∧ i ≤ rd l (v / 8) / 8 - 3)) = false := h
    simpa using h
  rintro b st1 ⟨rfl, hb1⟩
  refine c_if rfl (fun h32 => ?_) (fun h32 => ?_)
  · -- then
    refine crr (by kernel_rfl) rfl ?_   -- region 3
    exact c_ret (fr rfl ⟨_, rfl, .inl (by omega), rfl⟩)
  · -- else
    have hb1 := hb1 h32
    refine c_skip ?_
    refine c_rs (by kernel_rfl) ?_   -- region 4
    refine sr 1 rfl ?_
    refine s_op rfl (o_pure loud_n rfl (Num_c ..) ?_)
    refine s_op rfl (o_ar rfl rfl rfl (by omega) (by omega) ?_)   -- 35 := binOp BinOp.add 3 (tmp 34) (const (Value.int IntKind.i64 2)) 3
    refine sr 1 rfl ?_
    refine s_op rfl (o_ar rfl rfl rfl (by omega) (by omega) ?_)   -- 37 := binOp BinOp.add 3 (tmp 35) (tmp 36) 3
    refine sra rfl ?_
    exact c_ret (fr rfl ⟨_, rfl, .inr (by omega), rfl⟩)
/-- Some slab of a new row, not longer, and whether it went. -/
def VsP (n0 m : Nat) : AV → St → Prop := fun v st' => ∃ r l' b, v = .tup [.agg [.sl r 0 l'.length], .bool b] ∧ Fr n0 st' r l' ∧ l'.length ≤ m
theorem VarSet0_c (r : Option Nat) (o : Nat) (l : List Int) (scope i v : Int) (st : St) (hx : At st r o l) (hl : l.length ≤ 1048576) (hi : W1 i) : ACalls Tryz.prog 34 [.agg [.sl r o l.length], I scope, I 0, I i, I v] st No (VsP st.n l.length) := by
  have hz := zl_len l
  refine ent (N := 48) Tryz.func34 rfl (by decide) rfl rfl rfl ?_
  refine crr (by kernel_rfl) rfl ?_   -- region 0
  refine c_seq ?_
  refine c_sj (α := Bool) (fun b => [(1, I scope), (2, I 0), (3, I i), (4, I v), (29, .bool b)]) (fun _ => [(5, 5, [.sl r o l.length]), (10, 10, [.sl none 0 0])]) (fun b st' => Ex st st' ∧ (b = false → Isk l [scope, v] 7)) ?_ ?_
  · -- region 1
    refine c_region (by kernel_rfl) ?_
    refine sr 1 rfl ?_
    refine s_op rfl (o_pure loud_n rfl (l1In_c ..) ?_)
    refine sr 3 rfl ?_
    refine s_op rfl (o_pure loud_n rfl (Kind_c ..) ?_)
    refine sr 3 rfl ?_
    refine s_bool 22 rfl rfl (fun h22 => ?_) (fun h22 => ?_)
    · exact sra rfl ⟨true, ⟨rfl, rfl, rfl, rfl, rfl, trivial⟩, ⟨rfl, rfl, rfl, rfl, trivial⟩, Ext.refl _ _, fun h => by cases h⟩
    · refine sr 3 rfl ?_
      refine s_op rfl (oints [scope, v] loud_n rfl (by decide) rfl rfl rfl fun q st1 hq e1 => ?_)
      refine s_op rfl (o_ex loud_n rfl (l5Is_c _ _ _ _ _ _ _ _ (hx.ex e1) hq.at_ hl (by simp) (by simp)) ?_)
      rintro v2 st2 rfl e2
      refine sra rfl ⟨_, ⟨rfl, rfl, rfl, rfl, rfl, trivial⟩, ⟨rfl, rfl, rfl, rfl, trivial⟩, e1.tr e2, fun h => ?_⟩
      exact nbf h
  rintro b st1 ⟨e1, hb1⟩
  refine c_if rfl (fun h29 => ?_) (fun h29 => ?_)
  · -- then
    refine c_rs (by kernel_rfl) ?_   -- region 2
    refine sr 1 rfl ?_
    refine s_op rfl (o_ex loud_n rfl (l5Zero_c _ _ _ _ (hx.ex e1) hl) ?_)
    rintro v2 st2 ⟨q, rfl, hf⟩ e2
    refine sra rfl ?_
    exact c_ret (fr rfl ⟨q, zl l, false, rfl, hf.le e1.n, hz⟩)
  · -- else
    obtain ⟨g1, g2⟩ := hb1 h29
    have g1 : scope % 8 = 7 := by simpa [rd] using g1
    have hsc : Rf l scope 7 5 := (leads_rf (g2.2 scope (by simp))).2.2.2 g1
    refine c_skip ?_
    refine c_rs (by kernel_rfl) ?_   -- region 3
    refine sr 1 rfl ?_
    refine s_op rfl (o_ex loud_n rfl (l2Copy_c _ _ _ _ (hx.ex e1) hl) ?_)
    rintro v2 st2 ⟨q, rfl, hf⟩ e2
    have hf := hf.le e1.n
    refine sra rfl ?_
    refine c_rs (by kernel_rfl) ?_   -- region 4
    refine sr 4 rfl ?_
    refine s_op rfl (o_ex loud_n rfl (l6Place0_c r o l scope i _ ((hx.ex e1).ex e2) hsc hi) ?_)
    rintro v3 st3 ⟨x, rfl, hxx, rfl⟩ e3
    refine sra rfl ?_
    refine c_seq ?_
    refine crr (by kernel_rfl) rfl ?_   -- region 5
    refine c_if rfl (fun h40 => ?_) (fun h40 => ?_)
    · -- then
      refine crr (by kernel_rfl) rfl ?_   -- region 6
      exact c_ret (fr rfl ⟨q, l, false, rfl, hf, Nat.le_refl _⟩)
    · -- else
      have h40 := of_decide_eq_false h40
      have hxx := hxx.resolve_left h40
      refine c_skip ?_
      refine c_rs (by kernel_rfl) ?_   -- region 7
      refine sr 4 rfl ?_
      refine s_op rfl (oidx rfl rfl rfl (by omega) (by omega) ?_)   -- 46 := indexAddr 31 (tmp 43) (tmp 44)
      refine s_op rfl (ostF rfl rfl hf rfl rfl (by omega) fun st5 hf5 he5 => ?_)
      have el : (l.set (0 + x.toNat) v).length = l.length := List.length_set
      refine s_end ?_
      refine crr (by kernel_rfl) rfl ?_   -- region 8
      refine c_ret (fr rfl ⟨q, l.set (0 + x.toNat) v, true, ?_, hf5, by rw [el]; exact Nat.le_refl _⟩)
      rw [el]
theorem ats_of {st : St} {q : Nat} {l : List ByteArray} (h : ∀ j, cell st (some q) j = (l.map AV.str)[j]?) : AtS st (some q) 0 l := fun j hj => by
  rw [Nat.zero_add, h j]
  simp [List.getD, hj]
/-- A heap and its roots, each of a row of its own; the cursor. -/
structure DhI (n0 n1 k : Nat) (r : Option Nat) (code : List Int) (q : Option Nat) (l : List Int) (p : Option Nat) (R : List Int) (st : St) : Prop where
  cu : CuE n0 k r code st
  fl : Fr n1 st q l
  len : l.length ≤ 200
  fR : Fr n1 st p R
  dif : ∀ i, q = some i → p ≠ some i
  n : n1 ≤ st.n
  old : k < n1
section
variable {n0 n1 k : Nat} {r : Option Nat} {code : List Int} {q : Option Nat} {l : List Int} {p : Option Nat} {R : List Int} {st st' : St}
theorem DhI.cur (h : DhI n0 n1 k r code q l p R st) (he : Ext (fun j => j = k) st st') (hc : CuE n0 k r code st') : DhI n0 n1 k r code q l p R st' :=
  ⟨hc, h.fl.cu h.old he, h.len, h.fR.cu h.old he, h.dif, Nat.le_trans h.n he.n, h.old⟩
theorem DhI.ex (h : DhI n0 n1 k r code q l p R st) (he : Ex st st') : DhI n0 n1 k r code q l p R st' :=
  ⟨h.cu.ex he, h.fl.ex he, h.len, h.fR.ex he, h.dif, Nat.le_trans h.n he.n, h.old⟩
theorem DhI.put {q' : Option Nat} {l' : List Int} (h : DhI n0 n1 k r code q l p R st) (he : Ex st st') (hf : Fr st.n st' q' l') (hl : l'.length ≤ l.length) : DhI n0 n1 k r code q' l' p R st' :=
  ⟨h.cu.ex he, hf.le h.n, Nat.le_trans hl h.len, h.fR.ex he, fun i hi e => by have := hf.bd i hi; have := h.fR.bd i e; omega, Nat.le_trans h.n he.n, h.old⟩
theorem DhI.new {q' : Option Nat} {l' : List Int} (h : DhI n0 n1 k r code q l p R st) (he : Ex st st') (hf : Fr st.n st' q' l') (hl : l'.length ≤ 200) : DhI n0 n1 k r code q' l' p R st' :=
  ⟨h.cu.ex he, hf.le h.n, hl, h.fR.ex he, fun i hi e => by have := hf.bd i hi; have := h.fR.bd i e; omega, Nat.le_trans h.n he.n, h.old⟩
theorem DhI.roots {p' : Option Nat} {R' : List Int} (h : DhI n0 n1 k r code q l p R st) (he : Ex st st') (hf : Fr st.n st' p' R') : DhI n0 n1 k r code q l p' R' st' :=
  ⟨h.cu.ex he, h.fl.ex he, h.len, hf.le h.n, fun i hi e => by have := h.fl.bd i hi; have := hf.bd i e; omega, Nat.le_trans h.n he.n, h.old⟩
theorem DhI.app {p' : Option Nat} {R' : List Int} (h : DhI n0 n1 k r code q l p R st) (he : Ext (fun i => p = some i) st st') (hf : Fr n1 st' p' R') (hn : ∀ i, p' = some i → st.n ≤ i) : DhI n0 n1 k r code q l p' R' st' :=
  ⟨h.cu.ext he (fun e => by have := h.fR.bd k e; have := h.old; omega) (fun j e => by
      have h1 := h.fR.bd j e; have h2 := h.old; have h3 := h.cu.bd; omega), h.fl.ext he fun i hi e => h.dif i hi e, h.len, hf, fun i hi e => by have := h.fl.bd i hi; have := hn i e; omega, Nat.le_trans h.n he.n, h.old⟩
end
/-- A heap that is drawn, and roots. -/
def DhP (n0 n1 k : Nat) (r : Option Nat) (code : List Int) : AV → St → Prop := fun v st' => ∃ q l p R, v = .tup [.agg [.sl q 0 l.length], .sl p 0 R.length] ∧ DhI n0 n1 k r code q l p R st' ∧ 1 ≤ l.length ∧ 1 ≤ R.length ∧ R.length ≤ 30
theorem l3DrawHeap_c (n0 k : Nat) (r : Option Nat) (code : List Int) (st : St) (hc : CuE n0 k r code st) : ACalls Tryz.prog 176 [.ptr (some k) 0] st (fun j => j = k) (DhP n0 st.n k r code) := by
  have hk := hc.bd
  refine ent (N := 143) Tryz.func176 rfl (by decide) rfl rfl rfl ?_
  refine crr (by kernel_rfl) rfl ?_   -- region 0
  refine c_rs (by kernel_rfl) ?_   -- region 1
  refine sr 1 rfl ?_
  refine s_op rfl (oints [12, 40, 90, 200] loud_n rfl (by decide) rfl rfl rfl fun q1 st1 hq1 e1 => ?_)
  refine s_op rfl (o_call rfl (l1PickInt_c n0 k r (some q1) code 0 _ _ (hc.ex e1) hq1.at_ (fun j hj => by have := hq1.bd j hj; omega) (by decide) (by decide)) (fun _ _ h => h) (.inl rfl) ?_)
  rintro v2 st2 ⟨x, rfl, hx, hc2⟩ e2
  have hx2 : 2 ≤ x ∧ x ≤ 200 := by
    simp only [List.mem_cons, List.not_mem_nil, or_false] at hx
    omega
  refine s_op rfl (o_ex loud_n rfl (SlabNew_c x _) ?_)
  rintro v3 st3 ⟨q3, rfl, hf3⟩ e3
  have hl3 := (snwL_len x).2 hx2.1 (by omega)
  refine sra rfl ?_
  have n1 := e1.n
  have n2 := e2.n
  have n3 := e3.n
  refine c_rs (by kernel_rfl) ?_   -- region 2
  refine sr 1 rfl ?_
  refine s_op rfl (o_call rfl (l1Below_c n0 k r code 9 _ (hc2.ex e3) (by decide)) (fun _ _ h => h) (.inl rfl) ?_)
  rintro v4 st4 ⟨y, rfl, _, hc4⟩ e4
  refine s_op rfl (o_pure loud_n rfl (IntOf_c ..) ?_)
  refine s_op rfl (o_pure loud_n rfl (BoolOf_c ..) ?_)
  refine s_op rfl (oints [0, 1, 8 * wr y + 3, 10] loud_n rfl (by decide) rfl rfl rfl fun q5 st5 hq5 e5 => ?_)
  refine sra rfl ?_
  have n4 := e4.n
  have n5 := e5.n
  have hf5 : Fr st.n st5 q3 (snwL x) := ((hf3.le (by omega)).cu hk.2 e4).ex e5
  have D5 : DhI n0 st.n k r code q3 (snwL x) (some q5) [0, 1, 8 * wr y + 3, 10] st5 :=
    ⟨hc4.ex e5, hf5, by omega, hq5.le (by omega), fun i hi e => by
      have h1 := hf3.bd i hi; have h2 := hq5.bd i e; omega, by omega, hk.2⟩
  clear hc2 hc4 hf3 hf5
  refine c_rs (by kernel_rfl) ?_   -- region 3
  refine sr 1 rfl ?_
  refine s_op rfl (o_call rfl (l1Below_c n0 k r code 25 _ D5.cu (by decide)) (fun _ _ h => h) (.inl rfl) ?_)
  rintro v6 st6 ⟨n, rfl, hn, hc6⟩ e6
  have hn := hn.1 (by decide)
  have D6 := D5.cur e6 hc6
  refine sra rfl ?_
  refine c_seq ?_
  refine crr (by kernel_rfl) rfl ?_   -- region 4
  refine c_block ?_
  refine c_lp (α := Nat × (Option Nat × List Int) × (Option Nat × List Int)) (fun i => [(0, .ptr (some k) 0), (6, .sl i.2.2.1 0 i.2.2.2.length), (7, I n), (8, I i.1)]) (fun i => [(2, 2, [.sl none 0 0]), (4, 4, [.sl i.2.1.1 0 i.2.1.2.length])])
    (fun i st' => DhI n0 st.n k r code i.2.1.1 i.2.1.2 i.2.2.1 i.2.2.2 st' ∧ 1 ≤ i.2.1.2.length ∧ 1 ≤ i.2.2.2.length ∧ i.2.2.2.length ≤ 4 + i.1 ∧ i.1 ≤ n) (fun i => n.toNat - i.1) (0, (q3, snwL x), (some q5, [0, 1, 8 * wr y + 3, 10])) ⟨rfl, rfl, rfl, rfl, trivial⟩ ⟨rfl, rfl, rfl, rfl, trivial⟩ ⟨D6, by dsimp only; omega, by simp, by simp, by dsimp only; omega⟩ ?_
  rintro ⟨i, ⟨q, l⟩, ⟨p, R⟩⟩ st7 ⟨D7, hl1, hR1, hR2, hin⟩
  dsimp only at *
  clear D5 D6
  refine c_seq ?_
  refine crr (by kernel_rfl) rfl ?_   -- region 5
  refine c_if rfl (fun h30 => ?_) (fun h30 => ?_)
  · -- then
    have h30 := of_decide_eq_true h30
    refine c_skip ?_
    refine c_sj (α := (Option Nat × List Int) × (Option Nat × List Int)) (fun j => [(0, .ptr (some k) 0), (6, .sl j.2.1 0 j.2.2.length), (7, I n), (8, I i)]) (fun j => [(2, 2, [.sl none 0 0]), (4, 4, [.sl j.1.1 0 j.1.2.length])])
      (fun j st' => DhI n0 st.n k r code j.1.1 j.1.2 j.2.1 j.2.2 st' ∧ 1 ≤ j.1.2.length ∧ 1 ≤ j.2.2.length ∧ j.2.2.length ≤ 5 + i) ?_ ?_
    · -- ways that meet
      refine c_block ?_
      refine c_rs (by kernel_rfl) ?_   -- region 7
      refine sr 4 rfl ?_
      refine s_op rfl (o_call rfl (l1Below_c n0 k r code R.length _ D7.cu (by omega)) (fun _ _ h => h) (.inl rfl) ?_)
      rintro v8 st8 ⟨x8, rfl, hx8, hc8⟩ e8
      have hx8 := hx8.1 (by omega)
      have D8 := D7.cur e8 hc8
      refine s_op rfl (oidx rfl rfl rfl (by omega) (by omega) ?_)   -- 38 := indexAddr 31 (tmp 33) (tmp 37)
      refine s_op rfl (old rfl rfl (D8.fR.at_.rd (by omega) (by omega)) ?_)   -- 39 := load 3 (tmp 38)
      refine sra rfl ?_
      refine c_rs (by kernel_rfl) ?_   -- region 8
      refine sr 4 rfl ?_
      refine s_op rfl (o_call rfl (l1Below_c n0 k r code R.length _ D8.cu (by omega)) (fun _ _ h => h) (.inl rfl) ?_)
      rintro v9 st9 ⟨x9, rfl, hx9, hc9⟩ e9
      have hx9 := hx9.1 (by omega)
      have D9 := D8.cur e9 hc9
      refine s_op rfl (oidx rfl rfl rfl (by omega) (by omega) ?_)   -- 45 := indexAddr 31 (tmp 40) (tmp 44)
      refine s_op rfl (old rfl rfl (D9.fR.at_.rd (by omega) (by omega)) ?_)   -- 46 := load 3 (tmp 45)
      refine sra rfl ?_
      refine c_rs (by kernel_rfl) ?_   -- region 9
      refine sr 4 rfl ?_
      refine s_op rfl (o_call rfl (l1Below_c n0 k r code R.length _ D9.cu (by omega)) (fun _ _ h => h) (.inl rfl) ?_)
      rintro v10 st10 ⟨x10, rfl, hx10, hc10⟩ e10
      have hx10 := hx10.1 (by omega)
      have D10 := D9.cur e10 hc10
      refine s_op rfl (oidx rfl rfl rfl (by omega) (by omega) ?_)   -- 52 := indexAddr 31 (tmp 47) (tmp 51)
      refine s_op rfl (old rfl rfl (D10.fR.at_.rd (by omega) (by omega)) ?_)   -- 53 := load 3 (tmp 52)
      refine sra rfl ?_
      generalize rd R x8 = a
      generalize rd R x9 = b
      generalize rd R x10 = d
      clear D7 D8 D9 hc8 hc9 hc10
      refine crr (by kernel_rfl) rfl ?_   -- region 10
      refine c_sj (α := (Option Nat × List Int) × Int × Bool) (fun j => [(0, .ptr (some k) 0), (6, .sl p 0 R.length), (7, I n), (8, I i), (12, I j.2.1), (13, .bool j.2.2)]) (fun j => [(2, 2, [.sl none 0 0]), (4, 4, [.sl j.1.1 0 j.1.2.length])]) (fun j st' => DhI n0 st.n k r code j.1.1 j.1.2 p R st') ?_ ?_
      · -- ways that meet
        refine c_rs (by kernel_rfl) ?_   -- region 11
        refine sr 1 rfl ?_
        refine s_op rfl (o_call rfl (l1Below_c n0 k r code 8 _ D10.cu (by decide)) (fun _ _ h => h) (.inl rfl) ?_)
        rintro v11 st11 ⟨x11, rfl, _, hc11⟩ e11
        have D11 := D10.cur e11 hc11
        clear D10 hc11
        refine s_end ?_
        refine c_block ?_
        refine c_sj (α := Bool) (fun c => [(0, .ptr (some k) 0), (6, .sl p 0 R.length), (7, I n), (8, I i), (9, I a), (10, I b), (11, I d), (12, I 0), (13, .bool false), (55, I x11), (56, .bool c)]) (fun _ => [(2, 2, [.sl none 0 0]), (4, 4, [.sl q 0 l.length])]) (fun _ st' => st11 = st') ?_ ?_
        · -- ways that meet
          refine crr (by kernel_rfl) rfl ?_   -- region 12
          refine c_if rfl (fun h56 => ?_) (fun h56 => ?_)
          · -- then
            refine c_skip ?_
            exact ⟨_, ⟨rfl, rfl, rfl, rfl, rfl, rfl, rfl, rfl, rfl, rfl, rfl, trivial⟩, ⟨rfl, rfl, rfl, rfl, trivial⟩, rfl⟩   -- meet
          · -- else
            refine c_region (by kernel_rfl) ?_   -- region 13
            exact sra rfl ⟨_, ⟨rfl, rfl, rfl, rfl, rfl, rfl, rfl, rfl, rfl, rfl, rfl, trivial⟩, ⟨rfl, rfl, rfl, rfl, trivial⟩, rfl⟩   -- meet
        rintro c _ rfl
        refine c_if rfl (fun h56 => ?_) (fun h56 => ?_)
        · -- then
          refine cdx1 [4] [] [0, 1, 2, 3, 4, 5, 6, 7, 8] [false, false, true, true, true, false, false, false, false] [9, 10, 11] [.n, .q, .q] (by kernel_rfl) (by kernel_rfl) ?_   -- region 14
          refine yr 2 rfl ?_
          refine y_b rfl rfl (bblk (List.map AV.str [⟨#[97]⟩, ⟨#[98]⟩, ⟨#[107, 101, 121]⟩, ⟨#[]⟩]) rfl (by decide) rfl rfl fun q12 st12 h12 h12' hce e12 => ?_)
          refine y_b rfl rfl (b_call rfl (l1Pick_c n0 k r (some q12) code [⟨#[97]⟩, ⟨#[98]⟩, ⟨#[107, 101, 121]⟩, ⟨#[]⟩] _ (D11.cu.ex e12) (ats_of hce) (fun j hj => by injection hj with hj; have := D11.n; have := D11.old; omega) (by decide) (by decide)) (fun _ _ h => h) ?_)
          rintro v13 st13 ⟨s13, rfl, _, hc13⟩ e13
          have D13 := (D11.ex e12).cur e13 hc13
          refine y_b rfl rfl (b_call rfl (TextPut_c q 0 l s13 _ D13.fl.at_ (by have := D13.len; omega)) no_T ?_)
          rintro v14 st14 ⟨q14, rfl, hf14⟩ e14
          refine yr 4 rfl ?_
          refine y_end ?_
          exact sra rfl ⟨((q14, tqL l s13), _, _), ⟨rfl, rfl, rfl, rfl, rfl, rfl, trivial⟩, ⟨rfl, rfl, rfl, rfl, trivial⟩, D13.put e14 hf14 (tqL_len l s13)⟩
        · -- else
          refine crr (by kernel_rfl) rfl ?_   -- region 15
          refine c_if rfl (fun h68 => ?_) (fun h68 => ?_)
          · -- then
            refine c_region (by kernel_rfl) ?_   -- region 16
            refine sr 1 rfl ?_
            refine s_op rfl (o_ex loud_n rfl (ObjNew_c q 0 l 1 _ D11.fl.at_ (by have := D11.len; omega)) ?_)
            rintro v14 st14 ⟨q14, rfl, hf14⟩ e14
            exact sra rfl ⟨((q14, onL l 1), _, _), ⟨rfl, rfl, rfl, rfl, rfl, rfl, trivial⟩, ⟨rfl, rfl, rfl, rfl, trivial⟩, D11.put e14 hf14 (onL_len l 1)⟩
          · -- else
            refine crr (by kernel_rfl) rfl ?_   -- region 17
            refine c_if rfl (fun h76 => ?_) (fun h76 => ?_)
            · -- then
              refine c_region (by kernel_rfl) ?_   -- region 18
              refine sr 2 rfl ?_
              refine s_op rfl (o_ex loud_n rfl (ObjNew_c q 0 l a _ D11.fl.at_ (by have := D11.len; omega)) ?_)
              rintro v14 st14 ⟨q14, rfl, hf14⟩ e14
              exact sra rfl ⟨((q14, onL l a), _, _), ⟨rfl, rfl, rfl, rfl, rfl, rfl, trivial⟩, ⟨rfl, rfl, rfl, rfl, trivial⟩, D11.put e14 hf14 (onL_len l a)⟩
            · -- else
              refine crr (by kernel_rfl) rfl ?_   -- region 19
              refine c_if rfl (fun h85 => ?_) (fun h85 => ?_)
              · -- then
                refine cdx1 [4] [] [0, 1, 2, 3, 4, 5, 6, 7] [false, false, true, true, false, false, false, false] [8, 9, 10] [.n, .q, .q] (by kernel_rfl) (by kernel_rfl) ?_   -- region 20
                refine yr 2 rfl ?_
                refine y_b rfl rfl (b_call rfl (l1Below_c n0 k r code 3 _ D11.cu (by decide)) (fun _ _ h => h) ?_)
                rintro v13 st13 ⟨x13, rfl, _, hc13⟩ e13
                have D13 := D11.cur e13 hc13
                refine y_b rfl rfl (b_call rfl (ScopeNew_c q 0 l 0 x13 _ D13.fl.at_ (by have := D13.len; omega)) no_T ?_)
                rintro v14 st14 ⟨q14, rfl, hf14⟩ e14
                refine yr 4 rfl ?_
                refine y_end ?_
                exact sra rfl ⟨((q14, snL l 0 x13), _, _), ⟨rfl, rfl, rfl, rfl, rfl, rfl, trivial⟩, ⟨rfl, rfl, rfl, rfl, trivial⟩, D13.put e14 hf14 (snL_len l 0 x13)⟩
              · -- else
                refine crr (by kernel_rfl) rfl ?_   -- region 21
                refine c_if rfl (fun h95 => ?_) (fun h95 => ?_)
                · -- then
                  refine cdx1 [4] [] [0, 1, 3, 2, 4, 5, 6, 7, 8] [false, false, false, true, true, false, false, false, false] [9, 10, 11] [.n, .q, .q] (by kernel_rfl) (by kernel_rfl) ?_   -- region 22
                  refine yr 3 rfl ?_
                  refine y_b rfl rfl (b_call rfl (l1Below_c n0 k r code 5 _ D11.cu (by decide)) (fun _ _ h => h) ?_)
                  rintro v13 st13 ⟨x13, rfl, _, hc13⟩ e13
                  have D13 := D11.cur e13 hc13
                  refine y_b rfl rfl (b_call rfl (FunNew_c q 0 l x13 a _ D13.fl.at_ (by have := D13.len; omega)) no_T ?_)
                  rintro v14 st14 ⟨q14, rfl, hf14⟩ e14
                  refine yr 4 rfl ?_
                  refine y_end ?_
                  exact sra rfl ⟨((q14, fwL l x13 a), _, _), ⟨rfl, rfl, rfl, rfl, rfl, rfl, trivial⟩, ⟨rfl, rfl, rfl, rfl, trivial⟩, D13.put e14 hf14 (fwL_len l x13 a)⟩
                · -- else
                  refine crr (by kernel_rfl) rfl ?_   -- region 23
                  refine c_if rfl (fun h106 => ?_) (fun h106 => ?_)
                  · -- then
                    refine c_region (by kernel_rfl) ?_   -- region 24
                    refine sr 4 rfl ?_
                    refine s_op rfl (o_ex loud_n rfl (PropSet_c q 0 l a b d _ D11.fl.at_ (by have := D11.len; omega)) ?_)
                    rintro v14 st14 ⟨q14, rfl, hf14⟩ e14
                    exact sra rfl ⟨((q14, pqL l a b d), _, _), ⟨rfl, rfl, rfl, rfl, rfl, rfl, trivial⟩, ⟨rfl, rfl, rfl, rfl, trivial⟩, D11.put e14 hf14 (pqL_len l a b d)⟩
                  · -- else
                    refine crr (by kernel_rfl) rfl ?_   -- region 25
                    refine c_if rfl (fun h116 => ?_) (fun h116 => ?_)
                    · -- then
                      refine cdx1 [4] [] [0, 1, 2, 4, 3, 5, 6, 7, 8] [false, false, false, false, true, true, false, false, false] [9] [.n] (by kernel_rfl) (by kernel_rfl) ?_   -- region 26
                      refine yr 4 rfl ?_
                      refine y_b rfl rfl (b_call rfl (l1Below_c n0 k r code 2 _ D11.cu (by decide)) (fun _ _ h => h) ?_)
                      rintro v13 st13 ⟨x13, rfl, hx13, hc13⟩ e13
                      have hx13 := hx13.1 (by decide)
                      have D13 := D11.cur e13 hc13
                      refine y_b rfl rfl (b_call rfl (VarSet0_c q 0 l a x13 b _ D13.fl.at_ (by have := D13.len; omega) (by unfold W1; omega)) no_T ?_)
                      rintro v14 st14 ⟨q14, l14, b14, rfl, hf14, hl14⟩ e14
                      refine yr 3 rfl ?_
                      refine y_end ?_
                      exact sra rfl ⟨((q14, l14), _, _), ⟨rfl, rfl, rfl, rfl, rfl, rfl, trivial⟩, ⟨rfl, rfl, rfl, rfl, trivial⟩, D13.put e14 hf14 hl14⟩
                    · -- else
                      refine c_skip ?_
                      exact ⟨((q, l), _, _), ⟨rfl, rfl, rfl, rfl, rfl, rfl, trivial⟩, ⟨rfl, rfl, rfl, rfl, trivial⟩, D11⟩   -- meet
      rintro ⟨⟨q', l'⟩, v', ok'⟩ st12 D12
      dsimp only at *
      clear D10
      have hlen := D12.len
      refine c_seq ?_
      refine crr (by kernel_rfl) rfl ?_   -- region 27
      refine c_if rfl (fun h130 => ?_) (fun h130 => ?_)
      · -- then
        refine c_rs (by kernel_rfl) ?_   -- region 28
        refine s_op rfl (o_ex loud_n rfl (SlabNew_c 30 _) ?_)
        rintro v13 st13 ⟨q13, rfl, hf13⟩ e13
        have hl13 := (snwL_len 30).2 (by decide) (by decide)
        have D13 := D12.new e13 hf13 (by rw [hl13]; decide)
        refine sra rfl ?_
        refine c_rs (by kernel_rfl) ?_   -- region 29
        refine s_op rfl (oints [0, 1] loud_n rfl (by decide) rfl rfl rfl fun q14 st14 hq14 e14 => ?_)
        refine sra rfl ?_
        refine c_exit ?_
        exact ⟨((q13, snwL 30), (some q14, [0, 1])), ⟨rfl, rfl, rfl, rfl, trivial⟩, ⟨rfl, rfl, rfl, rfl, trivial⟩, D13.roots e14 hq14, by rw [hl13]; decide, by simp, by simp; omega⟩
      · -- else
        have h130 := of_decide_eq_false h130
        refine c_skip ?_
        refine crr (by kernel_rfl) rfl ?_   -- region 30
        refine c_if rfl (fun h136 => ?_) (fun h136 => ?_)
        · -- then
          refine c_region (by kernel_rfl) ?_   -- region 31
          refine sr 2 rfl ?_
          refine s_op rfl (oints [v'] loud_n rfl (by decide) rfl rfl rfl fun q13 st13 hq13 e13 => ?_)
          have D13 := D12.ex e13
          refine s_op rfl (oappG D13.n rfl rfl rfl D13.fR rfl hq13.at_ (by simp; omega) fun r2 st14 hf14 hn14 he14 => ?_)
          exact sra rfl ⟨((q', l'), (r2, R ++ [v'])), ⟨rfl, rfl, rfl, rfl, trivial⟩, ⟨rfl, rfl, rfl, rfl, trivial⟩, D13.app he14 hf14 hn14, by dsimp only; omega, by simp, by simp; omega⟩
        · -- else
          refine c_skip ?_
          exact ⟨((q', l'), (p, R)), ⟨rfl, rfl, rfl, rfl, trivial⟩, ⟨rfl, rfl, rfl, rfl, trivial⟩, D12, by dsimp only; omega, hR1, by dsimp only; omega⟩
    rintro ⟨⟨q', l'⟩, ⟨p', R'⟩⟩ st8 ⟨D8, g1, g2, g3⟩
    dsimp only at *
    refine c_region (by kernel_rfl) ?_   -- region 6
    refine sr 1 rfl ?_
    refine s_op rfl (o_ar rfl rfl rfl (by omega) (by omega) ?_)   -- 32 := binOp BinOp.add 3 (tmp 31) (const (Value.int IntKind.i64 1)) 3
    refine sra rfl ?_
    exact ⟨(i + 1, (q', l'), (p', R')), ⟨rfl, rfl, rfl, rfl, trivial⟩, ⟨rfl, rfl, rfl, rfl, trivial⟩, ⟨D8, g1, g2, by dsimp only; omega, by dsimp only; omega⟩, by dsimp only; omega⟩
  · -- else
    refine c_exit ?_
    refine crr (by kernel_rfl) rfl ?_   -- region 32
    exact c_ret (fr rfl ⟨q, l, p, R, rfl, D7, hl1, hR1, by omega⟩)
end Go.Proofs.YtfhkjhnaihhdmaaGreatW.Ax

/- Heaps that are drawn, or what is not right; values of them. -/
namespace Go.Proofs.YtfhkjhnaihhdmaaGreatW.Ax
open Go Go.RowKit Go.Proofs Go.Proofs.YtfhkjhnaihhdmaaGreat.Pure
set_option linter.unusedVariables false
set_option maxRecDepth 100000

/-- A slab and roots that are drawn. -/
structure SlR (n1 : Nat) (q : Option Nat) (o : Nat) (l : List Int) (p : Option Nat) (R : List Int) (st : St) : Prop where
  at_ : At st q o l
  len : l.length ≤ 2001
  bd : ∀ j, q = some j → n1 ≤ j ∧ j < st.n
  fR : Fr n1 st p R
  R1 : 1 ≤ R.length
  R2 : R.length ≤ 31
section
variable {n1 k : Nat} {q : Option Nat} {o : Nat} {l : List Int} {p : Option Nat} {R : List Int} {st st' : St}
theorem SlR.ex (h : SlR n1 q o l p R st) (he : Ex st st') : SlR n1 q o l p R st' := ⟨h.at_.ex he, h.len, fun j hj => ⟨(h.bd j hj).1, Nat.lt_of_lt_of_le (h.bd j hj).2 he.n⟩, h.fR.ex he, h.R1, h.R2⟩
theorem SlR.cur (h : SlR n1 q o l p R st) (hk : k < n1) (he : Ext (fun j => j = k) st st') : SlR n1 q o l p R st' := ⟨h.at_.cu (fun j hj => by have := h.bd j hj; omega) he, h.len, fun j hj => ⟨(h.bd j hj).1, Nat.lt_of_lt_of_le (h.bd j hj).2 he.n⟩, h.fR.cu hk he, h.R1, h.R2⟩
theorem SlR.le {n2 : Nat} (h : SlR n1 q o l p R st) (hn : n2 ≤ n1) : SlR n2 q o l p R st := ⟨h.at_, h.len, fun j hj => ⟨Nat.le_trans hn (h.bd j hj).1, (h.bd j hj).2⟩, h.fR.le hn, h.R1, h.R2⟩
end
def D3P (n0 n1 k : Nat) (r : Option Nat) (code : List Int) : AV → St → Prop := fun v st' => ∃ q o l p R, v = .tup [.agg [.sl q o l.length], .sl p 0 R.length] ∧ SlR n1 q o l p R st' ∧ CuE n0 k r code st'
theorem l3Draw_c (n0 k : Nat) (r : Option Nat) (code : List Int) (st : St) (hc : CuE n0 k r code st) : ACalls Tryz.prog 133 [.ptr (some k) 0] st (fun j => j = k) (D3P n0 st.n k r code) := by
  have hk := hc.bd
  refine ent (N := 38) Tryz.func133 rfl (by decide) rfl rfl rfl ?_
  refine crr (by kernel_rfl) rfl ?_   -- region 0
  refine c_rs (by kernel_rfl) ?_   -- region 1
  refine sr 1 rfl ?_
  refine s_op rfl (o_call rfl (l3DrawHeap_c n0 k r code _ hc) (fun _ _ h => h) (.inl rfl) ?_)
  rintro v1 st1 ⟨q, l, p, R, rfl, D, hl1, hR1, hR2⟩ e1
  have hlen := D.len
  refine sra rfl ?_
  refine c_sj (α := (Option Nat × Nat × List Int) × (Option Nat × List Int)) (fun i => [(5, .sl i.2.1 0 i.2.2.length)]) (fun i => [(2, 2, [.sl none 0 0]), (4, 4, [.sl i.1.1 i.1.2.1 i.1.2.2.length])]) (fun i st' => SlR st.n i.1.1 i.1.2.1 i.1.2.2 i.2.1 i.2.2 st' ∧ CuE n0 k r code st') ?_ ?_
  · -- ways that meet
    refine c_rs (by kernel_rfl) ?_   -- region 2
    refine sr 1 rfl ?_
    refine s_op rfl (o_call rfl (l1Below_c n0 k r code 20 _ D.cu (by decide)) (fun _ _ h => h) (.inl rfl) ?_)
    rintro v2 st2 ⟨x, rfl, _, hc2⟩ e2
    have D2 := D.cur e2 hc2
    have n2 := D2.n
    refine s_end ?_
    refine c_block ?_
    refine crr (by kernel_rfl) rfl ?_   -- region 3
    refine c_if rfl (fun h13 => ?_) (fun h13 => ?_)
    · -- then
      refine cdx1 [4] [] [0, 1, 2, 3, 4, 5, 7, 6, 8] [false, false, false, false, false, false, false, true, true] [9, 10] [.q, .n] (by kernel_rfl) (by kernel_rfl) ?_   -- region 4
      refine yr 7 rfl ?_
      refine y_b rfl rfl (b_call rfl (l1Below_c n0 k r code l.length _ D2.cu (by omega)) (fun _ _ h => h) ?_)
      rintro v3 st3 ⟨y, rfl, hy, hc3⟩ e3
      have hy := hy.1 (by omega)
      have D3 := D2.cur e3 hc3
      refine y_b rfl rfl (b_call rfl (l1DrawAny_c n0 k r code _ D3.cu) (fun _ _ h => h) ?_)
      rintro v4 st4 ⟨z, rfl, hz, hc4⟩ e4
      have D4 := D3.cur e4 hc4
      refine y_end ?_
      refine s_op rfl (oidx rfl rfl rfl (by omega) (by omega) ?_)   -- 24 := indexAddr 31 (tmp 16) (tmp 21)
      refine s_op rfl (ostF rfl rfl D4.fl rfl rfl (by omega) fun st5 hf5 he5 => ?_)
      refine s_end ?_
      have el : (l.set (0 + y.toNat) z).length = l.length := List.length_set
      have hn5 := he5.n
      refine ⟨((q, 0, l.set (0 + y.toNat) z), (p, R)), ⟨rfl, trivial⟩, ⟨rfl, rfl, rfl, ?_, trivial⟩, ⟨hf5.at_, by rw [el]; omega, fun j hj => hf5.bd j hj, D4.fR.ext he5 (fun i hi e => D4.dif i e hi), hR1, by dsimp only; omega⟩, D4.cu.ext he5 (fun e => ?_) (fun j hj => ?_)⟩
      · show some [AV.sl q 0 l.length] = some [AV.sl q 0 (l.set (0 + y.toNat) z).length]
        rw [el]
      · have h1 := D4.fl.bd k e; omega
      · have h1 := D4.fl.bd j hj; omega
    · -- else
      refine crr (by kernel_rfl) rfl ?_   -- region 5
      refine c_if rfl (fun h25 => ?_) (fun h25 => ?_)
      · -- then
        refine c_region (by kernel_rfl) ?_   -- region 6
        refine sr 2 rfl ?_
        refine s_op rfl (o_call rfl (l1DrawAny_c n0 k r code _ D2.cu) (fun _ _ h => h) (.inl rfl) ?_)
        rintro v3 st3 ⟨z, rfl, hz, hc3⟩ e3
        have D3 := D2.cur e3 hc3
        refine s_op rfl (oints [z] loud_n rfl (by decide) rfl rfl rfl fun q4 st4 hq4 e4 => ?_)
        have D4 := D3.ex e4
        refine s_op rfl (oappG D4.n rfl rfl rfl D4.fR rfl hq4.at_ (by simp; omega) fun r2 st5 hf5 hn5 he5 => ?_)
        have D5 := D4.app he5 hf5 hn5
        exact sra rfl ⟨((q, 0, l), (r2, R ++ [z])), ⟨rfl, trivial⟩, ⟨rfl, rfl, rfl, rfl, trivial⟩, ⟨D5.fl.at_, by dsimp only; omega, fun j hj => D5.fl.bd j hj, hf5, by simp, by simp; omega⟩, D5.cu⟩
      · -- else
        refine crr (by kernel_rfl) rfl ?_   -- region 7
        refine c_if rfl (fun h32 => ?_) (fun h32 => ?_)
        · -- then
          refine c_region (by kernel_rfl) ?_   -- region 8
          refine sr 1 rfl ?_
          refine s_op rfl (o_call rfl (l2Draw_c n0 k r code _ D2.cu) (fun _ _ h => h) (.inl rfl) ?_)
          rintro v3 st3 ⟨q3, o3, l3, rfl, ha3, hl3, hb3, hc3⟩ e3
          have D3 := D2.cur e3 hc3
          exact sra rfl ⟨((q3, o3, l3), (p, R)), ⟨rfl, trivial⟩, ⟨rfl, rfl, rfl, rfl, trivial⟩, ⟨ha3, hl3, fun j hj => by have := hb3 j hj; omega, D3.fR, hR1, by dsimp only; omega⟩, hc3⟩
        · -- else
          refine c_skip ?_
          exact ⟨((q, 0, l), (p, R)), ⟨rfl, trivial⟩, ⟨rfl, rfl, rfl, rfl, trivial⟩, ⟨D2.fl.at_, by dsimp only; omega, fun j hj => D2.fl.bd j hj, D2.fR, hR1, by dsimp only; omega⟩, D2.cu⟩
  rintro ⟨⟨q', o', l'⟩, ⟨p', R'⟩⟩ st2 ⟨S2, hc2⟩
  refine crr (by kernel_rfl) rfl ?_   -- region 9
  exact c_ret (fr rfl ⟨q', o', l', p', R', rfl, S2, hc2⟩)
section
variable (r : Option Nat) (code : List Int) (st : St) (hx : AtB st r 0 code) (h8 : U8 code) (hl : code.length ≤ 1048576) (hr : ∀ j, r = some j → j < st.n)
include hx h8 hl hr
/-- A slab that is drawn. -/
def SlO (n1 : Nat) : AV → St → Prop := fun v st' => ∃ q o l, v = .agg [.sl q o l.length] ∧ At st' q o l ∧ l.length ≤ 2001 ∧ (∀ j, q = some j → n1 ≤ j ∧ j < st'.n)
def SlRR (n1 : Nat) : AV → St → Prop := fun v st' => ∃ q o l p R, v = .tup [.agg [.sl q o l.length], .sl p 0 R.length] ∧ SlR n1 q o l p R st'
end
/-- One of some values, or any. -/
theorem l3DrawValue_c (n0 k : Nat) (r : Option Nat) (code : List Int) (p : Option Nat) (R : List Int) (st : St) (hc : CuE n0 k r code st) (hx : At st p 0 R) (hk : ∀ j, p = some j → j ≠ k) (hl : R.length ≤ 65536) : ACalls Tryz.prog 64 [.ptr (some k) 0, .sl p 0 R.length] st (fun j => j = k) (CuI n0 k r code fun x => x ∈ R ∨ W1 x) := by
  refine ent (N := 21) Tryz.func64 rfl (by decide) rfl rfl rfl ?_
  refine crr (by kernel_rfl) rfl ?_   -- region 0
  refine c_seq ?_
  refine c_sj (α := Bool) (fun b => [(0, .ptr (some k) 0), (1, .sl p 0 R.length), (11, .bool b)]) (fun _ => []) (fun b st' => CuE n0 k r code st' ∧ At st' p 0 R ∧ (b = false → R.length ≠ 0)) ?_ ?_
  · -- region 1
    refine c_region (by kernel_rfl) ?_
    refine sr 4 rfl ?_
    refine s_bool 8 rfl rfl (fun h8 => ?_) (fun h8 => ?_)
    · -- slot 8 true
      exact sra rfl ⟨true, ⟨rfl, rfl, rfl, trivial⟩, trivial, hc, hx, fun h => by cases h⟩
    · -- slot 8 false
      have h8 := of_decide_eq_false h8
      refine sr 1 rfl ?_
      refine s_op rfl (o_call rfl (l1Once_c n0 k r code 9 _ hc (by decide)) (fun _ _ h => h) (.inl rfl) ?_)
      rintro v1 st1 ⟨x, rfl, hc1⟩ e1
      exact sra rfl ⟨_, ⟨rfl, rfl, rfl, trivial⟩, trivial, hc1, hx.cu hk e1, fun _ => by omega⟩
  rintro b st1 ⟨hc1, hx1, hb1⟩
  refine c_if rfl (fun h11 => ?_) (fun h11 => ?_)
  · -- then
    refine c_rs (by kernel_rfl) ?_   -- region 2
    refine sr 1 rfl ?_
    refine s_op rfl (o_call rfl (l1DrawAny_c n0 k r code _ hc1) (fun _ _ h => h) (.inl rfl) ?_)
    rintro v2 st2 ⟨x, rfl, hxx, hc2⟩ e2
    refine sra rfl ?_
    exact c_ret (fr rfl ⟨x, rfl, .inr hxx, hc2⟩)
  · -- else
    have hb1 := hb1 h11
    refine c_skip ?_
    refine c_rs (by kernel_rfl) ?_   -- region 3
    refine sr 4 rfl ?_
    refine s_op rfl (o_call rfl (l1Below_c n0 k r code R.length _ hc1 (by omega)) (fun _ _ h => h) (.inl rfl) ?_)
    rintro v2 st2 ⟨x, rfl, hxx, hc2⟩ e2
    have hxx := hxx.1 (by omega)
    refine s_op rfl (oidx rfl rfl rfl (by omega) (by omega) ?_)   -- 19 := indexAddr 31 (tmp 14) (tmp 18)
    refine s_op rfl (old rfl rfl ((hx1.cu hk e2).rd (by omega) (by omega)) ?_)   -- 20 := load 3 (tmp 19)
    refine sra rfl ?_
    refine c_ret (fr rfl ⟨_, rfl, .inl ?_, hc2⟩)
    obtain ⟨j, rfl⟩ : ∃ j : Nat, x = j := ⟨x.toNat, by omega⟩
    exact mem_rd (by omega)
theorem l3DrawOf_c (n0 k : Nat) (r : Option Nat) (code : List Int) (p : Option Nat) (R : List Int) (kd : Int) (st : St) (hc : CuE n0 k r code st) (hx : At st p 0 R) (hk : ∀ j, p = some j → j ≠ k) (hl : R.length ≤ 65536) : ACalls Tryz.prog 134 [.ptr (some k) 0, .sl p 0 R.length, I kd] st (fun j => j = k) (CuI n0 k r code fun x => x ∈ R ∨ W1 x) := by
  refine ent (N := 24) Tryz.func134 rfl (by decide) rfl rfl rfl ?_
  refine crr (by kernel_rfl) rfl ?_   -- region 0
  refine c_seq ?_
  refine crr (by kernel_rfl) rfl ?_   -- region 1
  refine c_block ?_
  refine c_lp (α := Nat) (fun i => [(0, .ptr (some k) 0), (1, .sl p 0 R.length), (2, I kd), (7, I i)]) (fun _ => []) (fun i st' => CuE n0 k r code st' ∧ At st' p 0 R ∧ i ≤ 8) (fun i => 8 - i) 0 ⟨rfl, rfl, rfl, rfl, trivial⟩ trivial ⟨hc, hx, by omega⟩ ?_
  rintro i st1 ⟨hc1, hx1, hi⟩
  refine c_seq ?_
  refine crr (by kernel_rfl) rfl ?_   -- region 2
  refine c_if rfl (fun h10 => ?_) (fun h10 => ?_)
  · -- then
    have h10 := of_decide_eq_true h10
    refine c_skip ?_
    refine c_seq ?_
    refine c_block ?_
    refine c_rs (by kernel_rfl) ?_   -- region 4
    refine sr 2 rfl ?_
    refine s_op rfl (o_call rfl (l3DrawValue_c n0 k r code p R _ hc1 hx1 hk hl) (fun _ _ h => h) (.inl rfl) ?_)
    rintro v2 st2 ⟨x, rfl, hxx, hc2⟩ e2
    refine sra rfl ?_
    refine c_rs (by kernel_rfl) ?_   -- region 5
    refine sr 1 rfl ?_
    refine s_op rfl (o_pure loud_n rfl (Kind_c ..) ?_)
    refine sra rfl ?_
    refine c_if rfl (fun h19 => ?_) (fun h19 => ?_)
    · -- then
      refine crr (by kernel_rfl) rfl ?_   -- region 6
      exact c_ret (fr rfl ⟨x, rfl, hxx, hc2⟩)
    · -- else
      refine c_skip ?_
      refine c_region (by kernel_rfl) ?_   -- region 3
      refine sr 1 rfl ?_
      refine s_op rfl (o_ar rfl rfl rfl (by omega) (by omega) ?_)   -- 12 := binOp BinOp.add 3 (tmp 11) (const (Value.int IntKind.i64 1)) 3
      refine sra rfl ?_
      exact ⟨i + 1, ⟨rfl, rfl, rfl, rfl, trivial⟩, trivial, ⟨hc2, hx1.cu hk e2, by omega⟩, by omega⟩   -- round ends
  · -- else
    refine c_exit ?_
    refine c_rs (by kernel_rfl) ?_   -- region 7
    refine sr 2 rfl ?_
    refine s_op rfl (o_call rfl (l3DrawValue_c n0 k r code p R _ hc1 hx1 hk hl) (fun _ _ h => h) (.inl rfl) ?_)
    rintro v2 st2 ⟨x, rfl, hxx, hc2⟩ e2
    refine sra rfl ?_
    exact c_ret (fr rfl ⟨x, rfl, hxx, hc2⟩)
end Go.Proofs.YtfhkjhnaihhdmaaGreatW.Ax
