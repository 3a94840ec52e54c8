/- What is drawn: a cursor over bytes, numbers out of it. Walked. -/
import Derived.Test.YtfhkjhnaihhdmaaXF
import Derived.Test.YtfhkjhnaihhdmaaXU
import Derived.Test.YtfhkjhnaihhdmaaYe
namespace Go.Proofs.YtfhkjhnaihhdmaaW.Ax
open Go Go.RowKit Go.Proofs Go.Proofs.Ytfhkjhnaihhdmaa.Pure
set_option linter.unusedVariables false
set_option maxRecDepth 100000

/-- A cursor, in a store: a row of the call's own, over bytes that are older. -/
structure Cu (n0 k : Nat) (r : Option Nat) (code : List Int) (i h : Int) (st : St) : Prop where
  ge : n0 ≤ k
  lt : k < st.n
  ob : st.ob k = .row true [.sl r 0 code.length, I i, I h]
  at_ : AtB st r 0 code
  u8 : U8 code
  len : code.length ≤ 1048576
  i0 : 0 ≤ i
  i1 : i ≤ code.length
  hw : W1 h
  old : ∀ j, r = some j → j < n0
def CuE (n0 k : Nat) (r : Option Nat) (code : List Int) (st : St) : Prop := ∃ i h, Cu n0 k r code i h st
theorem Cu.ext {n0 k : Nat} {r : Option Nat} {code : List Int} {i h : Int} {st st' : St} {T : Nat → Prop} (hc : Cu n0 k r code i h st) (he : Ext T st st') (hk : ¬ T k) (hT : ∀ j, T j → n0 ≤ j) : Cu n0 k r code i h st' :=
  { hc with lt := Nat.lt_of_lt_of_le hc.lt he.n, ob := (he.ob k hc.lt hk).trans hc.ob, at_ := hc.at_.ext he fun j hj ht => by have := hT j ht; have := hc.old j hj; omega }
theorem CuE.ext {n0 k : Nat} {r : Option Nat} {code : List Int} {st st' : St} {T : Nat → Prop} (hc : CuE n0 k r code st) (he : Ext T st st') (hk : ¬ T k) (hT : ∀ j, T j → n0 ≤ j) : CuE n0 k r code st' := by
  obtain ⟨i, h, hc⟩ := hc
  exact ⟨i, h, hc.ext he hk hT⟩
theorem CuE.ex {n0 k : Nat} {r : Option Nat} {code : List Int} {st st' : St} (hc : CuE n0 k r code st) (he : Ex st st') : CuE n0 k r code st' := hc.ext he (fun h => h) (fun _ h => h.elim)
theorem CuE.bd {n0 k : Nat} {r : Option Nat} {code : List Int} {st : St} (hc : CuE n0 k r code st) : n0 ≤ k ∧ k < st.n := by
  obtain ⟨i, h, hc⟩ := hc
  exact ⟨hc.ge, hc.lt⟩
/-- Rows of the call's own that are newer than the cursor stay as it goes on. -/
theorem Fr.cu {n1 k : Nat} {st st' : St} {q : Option Nat} {l : List Int} (h : Fr n1 st q l) (hk : k < n1) (he : Ext (fun j => j = k) st st') : Fr n1 st' q l := h.ext he fun i hi e => by have := h.bd i hi; omega
theorem At.cu {k : Nat} {st st' : St} {r : Option Nat} {o : Nat} {l : List Int} (h : At st r o l) (hk : ∀ j, r = some j → j ≠ k) (he : Ext (fun j => j = k) st st') : At st' r o l := h.ext he fun i hi e => hk i hi e
/-- A number is drawn, and the cursor goes on. -/
def CuI (n0 k : Nat) (r : Option Nat) (code : List Int) (p : Int → Prop) : AV → St → Prop := fun v st' => ∃ x, v = I x ∧ p x ∧ CuE n0 k r code st'
def CuB (n0 k : Nat) (r : Option Nat) (code : List Int) : AV → St → Prop := fun v st' => ∃ x, v = .bool x ∧ CuE n0 k r code st'
def CuN (n0 : Nat) (r : Option Nat) (code : List Int) (n : Nat) : AV → St → Prop := fun v st' => ∃ k, v = .ptr (some k) 0 ∧ n ≤ k ∧ CuE n0 k r code st'

theorem l1New_c (n0 : Nat) (r : Option Nat) (code : List Int) (st : St) (hx : AtB st r 0 code) (h8 : U8 code) (hl : code.length ≤ 1048576) (hn0 : n0 ≤ st.n) (hr : ∀ j, r = some j → j < n0) : ACalls Try.prog 79 [.sl r 0 code.length] st No (CuN n0 r code st.n) := by
  refine ent (N := 32) Try.func79 rfl (by decide) rfl rfl rfl ?_
  refine crr (by kernel_rfl) rfl ?_   -- region 0
  refine c_rs (by kernel_rfl) ?_   -- region 1
  refine sr 2 rfl ?_
  refine s_op rfl (o_ar rfl rfl rfl (by omega) (by omega) ?_)   -- 7 := binOp BinOp.add 3 (const (Value.int IntKind.i64 18961)) (tmp 6) 3
  refine sra rfl ?_
  refine c_seq ?_
  refine crr (by kernel_rfl) rfl ?_   -- region 2
  refine c_block ?_
  refine c_lp (α := Nat × Int) (fun i => [(0, .sl r 0 code.length), (3, I i.2), (4, I i.1)]) (fun i => []) (fun i st' => st = st' ∧ i.1 ≤ 4000 ∧ 0 ≤ i.2 ∧ i.2 ≤ 1073741823) (fun i => 4000 - i.1) (0, 18961 + code.length) ⟨rfl, rfl, rfl, trivial⟩ trivial ⟨rfl, by omega, by dsimp only; omega, by dsimp only; omega⟩ ?_
  rintro ⟨i, h⟩ st1 ⟨rfl, hi, h0, h1⟩
  dsimp only at *
  refine c_seq ?_
  refine c_sj (α := Bool) (fun b => [(0, .sl r 0 code.length), (3, I h), (4, I i), (15, .bool b)]) (fun _ => []) (fun b st' => st = st' ∧ (b = true → (i : Int) < code.length ∧ (i : Int) < 4000)) ?_ ?_
  · -- region 3
    refine c_region (by kernel_rfl) ?_
    refine sr 5 rfl ?_
    refine s_bool 12 rfl rfl (fun h12 => ?_) (fun h12 => ?_)
    · -- slot 12 true
      have h12 := of_decide_eq_true h12
      refine sra rfl ⟨_, ⟨rfl, rfl, rfl, rfl, trivial⟩, trivial, rfl, fun h => ⟨h12, of_decide_eq_true h⟩⟩
    · -- slot 12 false
      refine sra rfl ⟨false, ⟨rfl, rfl, rfl, rfl, trivial⟩, trivial, rfl, fun h => by cases h⟩
  rintro b st1 ⟨rfl, hb1⟩
  refine c_if rfl (fun h15 => ?_) (fun h15 => ?_)
  · -- then
    have h15 := hb1 h15
    have h8i := h8.rd (i := i) (by omega) h15.1
    refine c_skip ?_
    refine c_seq ?_
    refine c_block ?_
    refine c_region (by kernel_rfl) ?_   -- region 5
    refine sr 1 rfl ?_
    refine s_op rfl (o_ar rfl rfl rfl (by omega) (by omega) ?_)   -- 19 := binOp BinOp.mul 3 (tmp 18) (const (Value.int IntKind.i64 131)) 3
    refine sr 2 rfl ?_
    refine s_op rfl (oidx rfl rfl rfl (by omega) (by omega) ?_)   -- 22 := indexAddr 22 (tmp 20) (tmp 21)
    refine s_op rfl (old rfl rfl (hx.rd (by omega) (by omega)) ?_)   -- 23 := load 5 (tmp 22)
    refine s_op rfl (oconv rfl rfl rfl rfl (by rw [IntKind.wrap_i64]; omega) ?_)   -- 24 := convert 5 3 (tmp 23)
    refine s_op rfl (o_ar rfl rfl rfl (by omega) (by omega) ?_)   -- 25 := binOp BinOp.add 3 (tmp 19) (tmp 24) 3
    refine s_op rfl (o_ar rfl rfl rfl (by omega) (by omega) ?_)   -- 26 := binOp BinOp.add 3 (tmp 25) (const (Value.int IntKind.i64 7)) 3
    refine sra rfl ?_
    refine c_region (by kernel_rfl) ?_   -- region 4
    refine sr 1 rfl ?_
    refine s_op rfl (o_ar rfl rfl rfl (by omega) (by omega) ?_)   -- 17 := binOp BinOp.add 3 (tmp 16) (const (Value.int IntKind.i64 1)) 3
    refine sra rfl ?_
    exact ⟨(i + 1, _), ⟨rfl, rfl, rfl, trivial⟩, trivial, ⟨rfl, by dsimp only; omega, by dsimp only; omega, by dsimp only; omega⟩, by dsimp only; omega⟩
  · -- else
    refine c_exit ?_
    refine c_rs (by kernel_rfl) ?_   -- region 6
    refine sr 3 rfl ?_
    refine s_op rfl (oboxP loud_n rfl fun q st2 hq hn2 ho2 he2 => ?_)
    refine sra rfl ?_
    subst hq
    exact c_ret (fr rfl ⟨_, rfl, Nat.le_refl _, 0, h, hn0, by omega, ho2, hx.ex he2, h8, hl, by omega, by omega, by unfold W1; omega, hr⟩)
theorem l1Byte_c (n0 k : Nat) (r : Option Nat) (code : List Int) (st : St) (hc : CuE n0 k r code st) : ACalls Try.prog 127 [.ptr (some k) 0] st (fun j => j = k) (CuI n0 k r code fun x => 0 ≤ x ∧ x ≤ 255) := by
  obtain ⟨i, h, hc⟩ := hc
  refine ent (N := 58) Try.func127 rfl (by decide) rfl rfl rfl ?_
  refine crr (by kernel_rfl) rfl ?_   -- region 0
  refine c_rs (by kernel_rfl) ?_   -- region 1
  refine sr 4 rfl ?_
  refine s_op rfl (old rfl rfl (show cell st (some k) 2 = some (I h) by rw [cell_row hc.lt hc.ob]; rfl) ?_)
  refine s_op rfl (o_wrap ⟨_, rfl⟩ fun h1 hw1 => ?_)
  refine s_op rfl (o_wrap ⟨_, rfl⟩ fun h2 hw2 => ?_)
  refine sr 2 rfl ?_
  refine s_op rfl (ostP rfl rfl hc.lt (fun _ => rfl) hc.ob rfl rfl rfl (by simp) fun st1 n1 ob1 e1 => ?_)
  refine s_end ?_
  have ob1 : st1.ob k = .row true [.sl r 0 code.length, I i, I h2] := ob1
  have hc1 : Cu n0 k r code i h2 st1 := { hc with lt := by have := hc.lt; omega, ob := ob1, hw := hw2, at_ := hc.at_.ext e1 fun j hj e => by have := hc.old j hj; have := hc.ge; omega }
  clear hc
  refine cds [0, 1, 2, 3, 4, 5, 6, 7, 8, 9, 10, 11, 12] [.q, .q, .q, .q, .q, .q, .q, .q, .q, .q, .q, .q, .q] (by kernel_rfl) (by kernel_rfl) ?_   -- region 2
  refine sr 3 rfl ?_
  have hcH : cell st1 (some k) 2 = some (I h2) := by rw [cell_row hc1.lt hc1.ob]; rfl
  have hcI : cell st1 (some k) 1 = some (I i) := by rw [cell_row hc1.lt hc1.ob]; rfl
  have hcS : cell st1 (some k) 0 = some (.sl r 0 code.length) := by rw [cell_row hc1.lt hc1.ob]; rfl
  refine s_op rfl (old rfl rfl hcH ?_)
  refine sr 4 rfl ?_
  refine s_op rfl (old rfl rfl hcH ?_)
  refine sr 1 rfl ?_
  refine s_op rfl (o_xor rfl rfl fun z hz => ?_)
  refine sra rfl ?_
  generalize hx0 : z % 256 = x
  have hxx : 0 ≤ x ∧ x ≤ 255 := by omega
  refine c_sj (α := Int) (fun x => [(3, I x)]) (fun i => []) (fun x st' => 0 ≤ x ∧ x ≤ 255 ∧ CuE n0 k r code st') ?_ ?_
  · -- ways that meet
    refine cds [0, 1, 2, 3, 4, 5, 6, 7, 8, 9] [.q, .q, .q, .q, .q, .q, .q, .q, .q, .q] (by kernel_rfl) (by kernel_rfl) ?_   -- region 3
    refine sr 3 rfl ?_
    refine s_op rfl (old rfl rfl hcI ?_)
    refine sr 3 rfl ?_
    refine s_op rfl (old rfl rfl hcS ?_)
    refine sra rfl ?_
    refine c_if rfl (fun h34 => ?_) (fun h34 => ?_)
    · -- then
      have h34 := of_decide_eq_true h34
      have hi0 := hc1.i0
      have h8i := hc1.u8.rd (i := i) hi0 h34
      have hlen := hc1.len
      refine cds [0, 1, 2, 3, 4, 5, 6, 7, 8, 9, 10, 11, 12, 13, 14] [.q, .q, .q, .q, .q, .q, .q, .q, .q, .q, .q, .q, .q, .q, .q] (by kernel_rfl) (by kernel_rfl) ?_   -- region 4
      refine sr 4 rfl ?_
      refine s_op rfl (old rfl rfl hcS ?_)
      refine sr 3 rfl ?_
      refine s_op rfl (old rfl rfl hcI ?_)
      refine s_op rfl (oidx rfl rfl rfl (by omega) (by omega) ?_)   -- 44 := indexAddr 22 (tmp 39) (tmp 43)
      refine s_op rfl (old rfl rfl (hc1.at_.rd (by omega) (by omega)) ?_)   -- 45 := load 5 (tmp 44)
      refine s_op rfl (oconv rfl rfl rfl rfl (by rw [IntKind.wrap_i64]; omega) ?_)   -- 46 := convert 5 3 (tmp 45)
      refine s_op rfl (o_ar rfl rfl rfl (by omega) (by omega) ?_)   -- 47 := binOp BinOp.add 3 (tmp 35) (tmp 46) 3
      refine sra rfl ?_
      refine c_region (by kernel_rfl) ?_   -- region 5
      refine sr 4 rfl ?_
      refine s_op rfl (old rfl rfl hcI ?_)
      refine s_op rfl (o_ar rfl rfl rfl (by omega) (by omega) ?_)   -- 54 := binOp BinOp.add 3 (tmp 53) (const (Value.int IntKind.i64 1)) 3
      refine sr 2 rfl ?_
      refine s_op rfl (ostP rfl rfl hc1.lt (fun _ => rfl) hc1.ob rfl rfl rfl (by simp) fun st2 n2 ob2 e2 => ?_)
      have ob2 : st2.ob k = .row true [.sl r 0 code.length, I (i + 1), I h2] := ob2
      refine s_end ?_
      refine ⟨_, ⟨rfl, trivial⟩, trivial, by omega, by omega, i + 1, h2, ?_⟩
      exact { hc1 with lt := by have := hc1.lt; omega, ob := ob2, i0 := by omega, i1 := by omega, at_ := hc1.at_.ext e2 fun j hj e => by have := hc1.old j hj; have := hc1.ge; omega }
    · -- else
      refine c_skip ?_
      exact ⟨x, ⟨rfl, trivial⟩, trivial, hxx.1, hxx.2, i, h2, hc1⟩
  rintro x2 st2 ⟨hx1, hx2, hcE⟩
  refine crr (by kernel_rfl) rfl ?_   -- region 6
  exact c_ret (fr rfl ⟨x2, rfl, ⟨hx1, hx2⟩, hcE⟩)
theorem l1Below_c (n0 k : Nat) (r : Option Nat) (code : List Int) (n : Int) (st : St) (hc : CuE n0 k r code st) (hn : n ≤ 4294967296) : ACalls Try.prog 80 [.ptr (some k) 0, I n] st (fun j => j = k) (CuI n0 k r code fun x => (0 < n → 0 ≤ x ∧ x < n) ∧ (n ≤ 0 → x = 0)) := by
  refine ent (N := 37) Try.func80 rfl (by decide) rfl rfl rfl ?_
  refine crr (by kernel_rfl) rfl ?_   -- region 0
  refine c_seq ?_
  refine crr (by kernel_rfl) rfl ?_   -- region 1
  refine c_if rfl (fun h10 => ?_) (fun h10 => ?_)
  · -- then
    have h10 := of_decide_eq_true h10
    refine crr (by kernel_rfl) rfl ?_   -- region 2
    exact c_ret (fr rfl ⟨0, rfl, ⟨fun h => absurd h (by omega), fun _ => rfl⟩, hc⟩)
  · -- else
    have h10 := of_decide_eq_false h10
    refine c_skip ?_
    refine c_seq ?_
    refine crr (by kernel_rfl) rfl ?_   -- region 3
    refine c_if rfl (fun h12 => ?_) (fun h12 => ?_)
    · -- then
      refine c_rs (by kernel_rfl) ?_   -- region 4
      refine sr 1 rfl ?_
      refine s_op rfl (o_call rfl (l1Byte_c n0 k r code _ hc) (fun _ _ h => h) (.inl rfl) ?_)
      rintro v1 st1 ⟨x, rfl, ⟨hx0, hx1⟩, hc⟩ _
      refine sr 1 rfl ?_
      refine s_op rfl (o_rem rfl rfl hx0 (by omega) ?_)
      refine sra rfl ?_
      have hm0 := Int.emod_nonneg x (show n ≠ 0 by omega)
      have hm1 := Int.emod_lt_of_pos x (show 0 < n by omega)
      exact c_ret (fr rfl ⟨_, rfl, ⟨fun _ => ⟨hm0, hm1⟩, fun h => by omega⟩, hc⟩)
    · -- else
      refine c_skip ?_
      refine c_rs (by kernel_rfl) ?_   -- region 5
      refine sr 1 rfl ?_
      refine s_op rfl (o_call rfl (l1Byte_c n0 k r code _ hc) (fun _ _ h => h) (.inl rfl) ?_)
      rintro v1 st1 ⟨x, rfl, ⟨hx0, hx1⟩, hc⟩ _
      refine sra rfl ?_
      refine c_rs (by kernel_rfl) ?_   -- region 6
      refine sr 1 rfl ?_
      refine s_op rfl (o_call rfl (l1Byte_c n0 k r code _ hc) (fun _ _ h => h) (.inl rfl) ?_)
      rintro v1 st1 ⟨y, rfl, ⟨hy0, hy1⟩, hc⟩ _
      refine sra rfl ?_
      refine c_rs (by kernel_rfl) ?_   -- region 7
      refine sr 1 rfl ?_
      refine s_op rfl (o_call rfl (l1Byte_c n0 k r code _ hc) (fun _ _ h => h) (.inl rfl) ?_)
      rintro v1 st1 ⟨z, rfl, ⟨hz0, hz1⟩, hc⟩ _
      refine sra rfl ?_
      refine c_rs (by kernel_rfl) ?_   -- region 8
      refine sr 1 rfl ?_
      refine s_op rfl (o_call rfl (l1Byte_c n0 k r code _ hc) (fun _ _ h => h) (.inl rfl) ?_)
      rintro v1 st1 ⟨w, rfl, ⟨hw0, hw1⟩, hc⟩ _
      refine sra rfl ?_
      refine c_rs (by kernel_rfl) ?_   -- region 9
      refine sr 1 rfl ?_
      refine s_op rfl (o_ar rfl rfl rfl (by omega) (by omega) ?_)   -- 26 := binOp BinOp.mul 3 (tmp 25) (const (Value.int IntKind.i64 16777216)) 3
      refine sr 1 rfl ?_
      refine s_op rfl (o_ar rfl rfl rfl (by omega) (by omega) ?_)   -- 28 := binOp BinOp.mul 3 (tmp 27) (const (Value.int IntKind.i64 65536)) 3
      refine s_op rfl (o_ar rfl rfl rfl (by omega) (by omega) ?_)   -- 29 := binOp BinOp.add 3 (tmp 26) (tmp 28) 3
      refine sr 1 rfl ?_
      refine s_op rfl (o_ar rfl rfl rfl (by omega) (by omega) ?_)   -- 31 := binOp BinOp.mul 3 (tmp 30) (const (Value.int IntKind.i64 256)) 3
      refine s_op rfl (o_ar rfl rfl rfl (by omega) (by omega) ?_)   -- 32 := binOp BinOp.add 3 (tmp 29) (tmp 31) 3
      refine sr 1 rfl ?_
      refine s_op rfl (o_ar rfl rfl rfl (by omega) (by omega) ?_)   -- 34 := binOp BinOp.add 3 (tmp 32) (tmp 33) 3
      refine sr 1 rfl ?_
      refine s_op rfl (o_rem rfl rfl (by omega) (by omega) ?_)
      refine sra rfl ?_
      have hm0 := Int.emod_nonneg (x * 16777216 + y * 65536 + z * 256 + w) (show n ≠ 0 by omega)
      have hm1 := Int.emod_lt_of_pos (x * 16777216 + y * 65536 + z * 256 + w) (show 0 < n by omega)
      exact c_ret (fr rfl ⟨_, rfl, ⟨fun _ => ⟨hm0, hm1⟩, fun h => by omega⟩, hc⟩)
theorem l1Once_c (n0 k : Nat) (r : Option Nat) (code : List Int) (n : Int) (st : St) (hc : CuE n0 k r code st) (hn : n ≤ 4294967296) : ACalls Try.prog 84 [.ptr (some k) 0, I n] st (fun j => j = k) (CuB n0 k r code) := by
  refine ent (N := 9) Try.func84 rfl (by decide) rfl rfl rfl ?_
  refine crr (by kernel_rfl) rfl ?_   -- region 0
  refine c_rs (by kernel_rfl) ?_   -- region 1
  refine sr 2 rfl ?_
  refine s_op rfl (o_call rfl (l1Below_c n0 k r code n _ hc hn) (fun _ _ h => h) (.inl rfl) ?_)
  rintro v1 st1 ⟨x, rfl, _, hc⟩ _
  refine sra rfl ?_
  exact c_ret (fr rfl ⟨_, rfl, hc⟩)
/-- A row of texts. -/
def AtS (st : St) (r : Option Nat) (o : Nat) (xs : List ByteArray) : Prop := ∀ j, j < xs.length → cell st r (o + j) = some (.str (xs.getD j ByteArray.empty))
theorem AtS.ext {st : St} {T' : Nat → Prop} {st' : St} {r : Option Nat} {o : Nat} {xs : List ByteArray} (h : AtS st r o xs) (he : Ext T' st st') (hn : ∀ i, r = some i → ¬ T' i) : AtS st' r o xs := fun j hj => cell_ext he (h j hj) hn
def CuS (n0 k : Nat) (r : Option Nat) (code : List Int) (l : List ByteArray) : AV → St → Prop := fun v st' => ∃ x, v = .str x ∧ x ∈ l ∧ CuE n0 k r code st'
theorem l1Pick_c (n0 k : Nat) (r rl : Option Nat) (code : List Int) (l : List ByteArray) (st : St) (hc : CuE n0 k r code st) (hy : AtS st rl 0 l) (hk : ∀ j, rl = some j → j ≠ k) (h0 : 0 < l.length) (hl : l.length ≤ 65536) : ACalls Try.prog 146 [.ptr (some k) 0, .sl rl 0 l.length] st (fun j => j = k) (CuS n0 k r code l) := by
  refine ent (N := 12) Try.func146 rfl (by decide) rfl rfl rfl ?_
  refine crr (by kernel_rfl) rfl ?_   -- region 0
  refine c_rs (by kernel_rfl) ?_   -- region 1
  refine sr 4 rfl ?_
  refine s_op rfl (o_call rfl (l1Below_c n0 k r code l.length _ hc (by omega)) (fun _ _ h => h) (.inl rfl) ?_)
  rintro v1 st1 ⟨x, rfl, ⟨hx, _⟩, hc⟩ e1
  have hx := hx (by omega)
  have hy1 := hy.ext e1 fun j hj e => hk j hj e
  refine s_op rfl (oidx rfl rfl rfl (by omega) (by omega) ?_)   -- 10 := indexAddr 104 (tmp 5) (tmp 9)
  refine s_op rfl (old rfl rfl (hy1 x.toNat (by omega)) ?_)   -- 11 := load 9 (tmp 10)
  refine sra rfl ?_
  refine c_ret (fr rfl ⟨_, rfl, ?_, hc⟩)
  have : x.toNat < l.length := by omega
  simp [List.getD, this]
theorem l1PickInt_c (n0 k : Nat) (r rl : Option Nat) (code : List Int) (o : Nat) (l : List Int) (st : St) (hc : CuE n0 k r code st) (hy : At st rl o l) (hk : ∀ j, rl = some j → j ≠ k) (h0 : 0 < l.length) (hl : l.length ≤ 65536) : ACalls Try.prog 86 [.ptr (some k) 0, .sl rl o l.length] st (fun j => j = k) (CuI n0 k r code (· ∈ l)) := by
  refine ent (N := 12) Try.func86 rfl (by decide) rfl rfl rfl ?_
  refine crr (by kernel_rfl) rfl ?_   -- region 0
  refine c_rs (by kernel_rfl) ?_   -- region 1
  refine sr 4 rfl ?_
  refine s_op rfl (o_call rfl (l1Below_c n0 k r code l.length _ hc (by omega)) (fun _ _ h => h) (.inl rfl) ?_)
  rintro v1 st1 ⟨x, rfl, ⟨hx, _⟩, hc⟩ e1
  have hx := hx (by omega)
  have hy1 := hy.cu hk e1
  refine s_op rfl (oidx rfl rfl rfl (by omega) (by omega) ?_)   -- 10 := indexAddr 31 (tmp 5) (tmp 9)
  refine s_op rfl (old rfl rfl (hy1.rd (by omega) (by omega)) ?_)   -- 11 := load 3 (tmp 10)
  refine sra rfl ?_
  refine c_ret (fr rfl ⟨_, rfl, ?_, hc⟩)
  have : x.toNat < l.length := by omega
  unfold rd
  simp [List.getD, this]
theorem l1DrawNum_c (n0 k : Nat) (r : Option Nat) (code : List Int) (st : St) (hc : CuE n0 k r code st) : ACalls Try.prog 78 [.ptr (some k) 0] st (fun j => j = k) (CuI n0 k r code W1) := by
  refine ent (N := 6) Try.func78 rfl (by decide) rfl rfl rfl ?_
  refine crr (by kernel_rfl) rfl ?_   -- region 0
  refine c_rs (by kernel_rfl) ?_   -- region 1
  refine sr 1 rfl ?_
  refine s_op rfl (oints [0, 1, 2, -1, -5, 77, 1999, 2000, 2147483647, 2147483648, -2147483648, -2147483649, 4294967296, 9223372036854775807, -9223372036854775808] loud_n rfl (by decide) rfl rfl rfl fun q st1 hq e1 => ?_)
  have hb := hc.bd
  refine s_op rfl (o_call rfl (l1PickInt_c n0 k r (some q) code 0 _ _ (hc.ex e1) hq.at_ (fun j hj => by have := hq.bd j hj; omega) (by decide) (by decide)) (fun _ _ h => h) (.inl rfl) ?_)
  rintro v2 st2 ⟨x, rfl, hx, hc⟩ _
  refine sra rfl ?_
  refine c_ret (fr rfl ⟨x, rfl, ?_, hc⟩)
  simp only [List.mem_cons, List.not_mem_nil, or_false] at hx
  unfold W1
  omega
theorem l1DrawAny_c (n0 k : Nat) (r : Option Nat) (code : List Int) (st : St) (hc : CuE n0 k r code st) : ACalls Try.prog 82 [.ptr (some k) 0] st (fun j => j = k) (CuI n0 k r code W1) := by
  refine ent (N := 14) Try.func82 rfl (by decide) rfl rfl rfl ?_
  refine crr (by kernel_rfl) rfl ?_   -- region 0
  refine c_seq ?_
  refine c_rs (by kernel_rfl) ?_   -- region 1
  refine sr 1 rfl ?_
  refine s_op rfl (o_call rfl (l1Once_c n0 k r code 3 _ hc (by decide)) (fun _ _ h => h) (.inl rfl) ?_)
  rintro v1 st1 ⟨b, rfl, hc⟩ _
  refine s_end ?_
  refine c_if rfl (fun h4 => ?_) (fun h4 => ?_)
  · -- then
    refine c_rs (by kernel_rfl) ?_   -- region 2
    refine sr 1 rfl ?_
    refine s_op rfl (o_call rfl (l1DrawNum_c n0 k r code _ hc) (fun _ _ h => h) (.inl rfl) ?_)
    rintro v1 st1 ⟨x, rfl, hx, hc⟩ _
    refine sra rfl ?_
    exact c_ret (fr rfl ⟨x, rfl, hx, hc⟩)
  · -- else
    refine c_skip ?_
    refine c_rs (by kernel_rfl) ?_   -- region 3
    refine sr 1 rfl ?_
    refine s_op rfl (oints [0, 1, 2, 5, 1999, 2000, -1] loud_n rfl (by decide) rfl rfl rfl fun q st1 hq e1 => ?_)
    have hb := hc.bd
    refine s_op rfl (o_call rfl (l1PickInt_c n0 k r (some q) code 0 _ _ (hc.ex e1) hq.at_ (fun j hj => by have := hq.bd j hj; omega) (by decide) (by decide)) (fun _ _ h => h) (.inl rfl) ?_)
    rintro v2 st2 ⟨x, rfl, hx, hc⟩ _
    simp only [List.mem_cons, List.not_mem_nil, or_false] at hx
    refine s_op rfl (o_ar rfl rfl rfl (by omega) (by omega) ?_)   -- 10 := binOp BinOp.mul 3 (const (Value.int IntKind.i64 8)) (tmp 9) 3
    refine sr 1 rfl ?_
    refine s_op rfl (o_call rfl (l1Below_c n0 k r code 8 _ hc (by decide)) (fun _ _ h => h) (.inl rfl) ?_)
    rintro v1 st1 ⟨y, rfl, ⟨hy, _⟩, hc⟩ e1
    have hy := hy (by omega)
    refine s_op rfl (o_ar rfl rfl rfl (by omega) (by omega) ?_)   -- 13 := binOp BinOp.add 3 (tmp 10) (tmp 12) 3
    refine sra rfl ?_
    exact c_ret (fr rfl ⟨_, rfl, by unfold W1; omega, hc⟩)
end Go.Proofs.YtfhkjhnaihhdmaaW.Ax
