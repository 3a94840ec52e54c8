/- Heaps that are drawn. -/
import Derived.Test.YtfhkjhnaihhdmaaGb
import Derived.Test.YtfhkjhnaihhdmaaGd
import Derived.Test.YtfhkjhnaihhdmaaYw
import Derived.Test.YtfhkjhnaihhdmaaZb
import Derived.Test.YtfhkjhnaihhdmaaZd
import Derived.Test.YtfhkjhnaihhdmaaZf
import Derived.Test.YtfhkjhnaihhdmaaXV
namespace Go.Proofs.YtfhkjhnaihhdmaaW.Ax
open Go Go.RowKit Go.Proofs Go.Proofs.Ytfhkjhnaihhdmaa.Pure
set_option linter.unusedVariables false
set_option maxRecDepth 100000

theorem scp_bd {l : List Int} {v : Int} (h : Rf l v 7 5) : 0 ≤ v / 8 ∧ v / 8 + rd l (v / 8) / 8 ≤ l.length ∧ l.length ≤ 2000 ∧ 2 ≤ rd l (v / 8) / 8 := by
  have h1 := at_of h (by omega)
  have h2 := rd_size h1.2.1 (block_at h1.1).2.2.1
  have h3 : rd l (v / 8) / 8 = (size l (v / 8).toNat : Nat) := h2
  omega
theorem l6At0_c (r : Option Nat) (o : Nat) (l : List Int) (v : Int) (st : St) (hx : At st r o l) : ACalls Try.prog 117 [.agg [.sl r o l.length], I v, I 0] st No (Pure1 (.tup [I v, .bool true]) st) := by
  refine ent (N := 24) Try.func117 rfl (by decide) rfl rfl rfl ?_
  refine crr (by kernel_rfl) rfl ?_   -- region 0
  refine c_seq ?_
  refine crr (by kernel_rfl) rfl ?_   -- region 1
  refine c_block ?_
  refine c_lp (α := Unit) (fun _ => [(1, I v), (2, I 0), (8, I 0)]) (fun _ => [(3, 3, [.sl r o l.length])]) (fun _ st' => st = st') (fun _ => 0) () ⟨rfl, rfl, rfl, trivial⟩ ⟨rfl, rfl, trivial⟩ rfl ?_
  rintro _ st' rfl
  refine c_seq ?_
  refine crr (by kernel_rfl) rfl ?_   -- region 2
  refine c_if_f rfl ?_
  refine c_exit ?_
  refine crr (by kernel_rfl) rfl ?_   -- region 7
  exact c_ret (fr rfl ⟨rfl, rfl⟩)
def PlP (l : List Int) (st : St) : AV → St → Prop := fun v st' => ∃ x, v = I x ∧ (x < 0 ∨ 0 ≤ x ∧ x < l.length) ∧ st' = st
theorem l6Place0_c (r : Option Nat) (o : Nat) (l : List Int) (v i : Int) (st : St) (hx : At st r o l) (hv : Rf l v 7 5) (hi : W1 i) : ACalls Try.prog 115 [.agg [.sl r o l.length], I v, I 0, I i] st No (PlP l st) := by
  have hb := scp_bd hv
  refine ent (N := 38) Try.func115 rfl (by decide) rfl rfl rfl ?_
  refine crr (by kernel_rfl) rfl ?_   -- region 0
  refine c_rs (by kernel_rfl) ?_   -- region 1
  refine sr 3 rfl ?_
  refine s_op rfl (o_pure loud_n rfl (l6At0_c _ _ _ v _ hx) ?_)
  refine sra rfl ?_
  refine c_seq ?_
  refine c_sj (α := Bool) (fun b => [(3, I i), (9, I v), (32, .bool b)]) (fun _ => [(4, 4, [.sl r o l.length])]) (fun b st' => st = st' ∧ (b = false → 0 ≤ i ∧ i ≤ rd l (v / 8) / 8 - 3)) ?_ ?_
  · -- region 2
    refine cd1 [0, 1, 2, 3, 4, 5, 6, 7, 8, 9, 10, 11, 12, 13, 14] [.q, .q, .q, .q, .q, .q, .q, .f, .q, .q, .f, .q, .f, .q, .q] (by kernel_rfl) (by kernel_rfl) ?_
    refine sr 7 rfl ?_
    refine s_op rfl (o_pure loud_f rfl (Num_c ..) ?_)
    refine s_op rfl (oidx rfl rfl rfl (by omega) (by omega) ?_)   -- 26 := indexAddr 31 (tmp 23) (tmp 25)
    refine s_op rfl (old rfl rfl (hx.rd (by omega) (by omega)) ?_)   -- 27 := load 3 (tmp 26)
    refine s_op rfl (o_pure loud_f rfl (l2Size_c ..) ?_)
    refine s_op rfl (o_ar rfl rfl rfl (by omega) (by omega) ?_)   -- 29 := binOp BinOp.sub 3 (tmp 28) (const (Value.int IntKind.i64 3)) 3
    refine s_op rfl (o_pure loud_f rfl (l1In_c ..) ?_)
    refine sra rfl ⟨_, ⟨rfl, rfl, rfl, trivial⟩, ⟨rfl, rfl, trivial⟩, rfl, fun h => ?_⟩
    have h : (!decide (0 ≤ i ∧ i ≤ rd l (v / 8) / 8 - 3)) = false := h
    simpa using h
  rintro b st1 ⟨rfl, hb1⟩
  refine c_if rfl (fun h32 => ?_) (fun h32 => ?_)
  · -- then
    refine crr (by kernel_rfl) rfl ?_   -- region 3
    exact c_ret (fr rfl ⟨_, rfl, .inl (by omega), rfl⟩)
  · -- else
    have hb1 := hb1 h32
    refine c_skip ?_
    refine c_rs (by kernel_rfl) ?_   -- region 4
    refine sr 1 rfl ?_
    refine s_op rfl (o_pure loud_n rfl (Num_c ..) ?_)
    refine s_op rfl (o_ar rfl rfl rfl (by omega) (by omega) ?_)   -- 35 := binOp BinOp.add 3 (tmp 34) (const (Value.int IntKind.i64 2)) 3
    refine sr 1 rfl ?_
    refine s_op rfl (o_ar rfl rfl rfl (by omega) (by omega) ?_)   -- 37 := binOp BinOp.add 3 (tmp 35) (tmp 36) 3
    refine sra rfl ?_
    exact c_ret (fr rfl ⟨_, rfl, .inr (by omega), rfl⟩)
/-- Some slab of a new row, not longer, and whether it went. -/
def VsP (n0 m : Nat) : AV → St → Prop := fun v st' => ∃ r l' b, v = .tup [.agg [.sl r 0 l'.length], .bool b] ∧ Fr n0 st' r l' ∧ l'.length ≤ m
theorem VarSet0_c (r : Option Nat) (o : Nat) (l : List Int) (scope i v : Int) (st : St) (hx : At st r o l) (hl : l.length ≤ 1048576) (hi : W1 i) : ACalls Try.prog 152 [.agg [.sl r o l.length], I scope, I 0, I i, I v] st No (VsP st.n l.length) := by
  have hz := zl_len l
  refine ent (N := 48) Try.func152 rfl (by decide) rfl rfl rfl ?_
  refine crr (by kernel_rfl) rfl ?_   -- region 0
  refine c_seq ?_
  refine c_sj (α := Bool) (fun b => [(1, I scope), (2, I 0), (3, I i), (4, I v), (29, .bool b)]) (fun _ => [(5, 5, [.sl r o l.length]), (10, 10, [.sl none 0 0])]) (fun b st' => Ex st st' ∧ (b = false → Isk l [scope, v] 7)) ?_ ?_
  · -- region 1
    refine c_region (by kernel_rfl) ?_
    refine sr 1 rfl ?_
    refine s_op rfl (o_pure loud_n rfl (l1In_c ..) ?_)
    refine sr 3 rfl ?_
    refine s_op rfl (o_pure loud_n rfl (Kind_c ..) ?_)
    refine sr 3 rfl ?_
    refine s_bool 22 rfl rfl (fun h22 => ?_) (fun h22 => ?_)
    · exact sra rfl ⟨true, ⟨rfl, rfl, rfl, rfl, rfl, trivial⟩, ⟨rfl, rfl, rfl, rfl, trivial⟩, Ext.refl _ _, fun h => by cases h⟩
    · refine sr 3 rfl ?_
      refine s_op rfl (oints [scope, v] loud_n rfl (by decide) rfl rfl rfl fun q st1 hq e1 => ?_)
      refine s_op rfl (o_ex loud_n rfl (l5Is_c _ _ _ _ _ _ _ _ (hx.ex e1) hq.at_ hl (by simp) (by simp)) ?_)
      rintro v2 st2 rfl e2
      refine sra rfl ⟨_, ⟨rfl, rfl, rfl, rfl, rfl, trivial⟩, ⟨rfl, rfl, rfl, rfl, trivial⟩, e1.tr e2, fun h => ?_⟩
      exact nbf h
  rintro b st1 ⟨e1, hb1⟩
  refine c_if rfl (fun h29 => ?_) (fun h29 => ?_)
  · -- then
    refine c_rs (by kernel_rfl) ?_   -- region 2
    refine sr 1 rfl ?_
    refine s_op rfl (o_ex loud_n rfl (l5Zero_c _ _ _ _ (hx.ex e1) hl) ?_)
    rintro v2 st2 ⟨q, rfl, hf⟩ e2
    refine sra rfl ?_
    exact c_ret (fr rfl ⟨q, zl l, false, rfl, hf.le e1.n, hz⟩)
  · -- else
    obtain ⟨g1, g2⟩ := hb1 h29
    have g1 : scope % 8 = 7 := by simpa [rd] using g1
    have hsc : Rf l scope 7 5 := (leads_rf (g2.2 scope (by simp))).2.2.2 g1
    refine c_skip ?_
    refine c_rs (by kernel_rfl) ?_   -- region 3
    refine sr 1 rfl ?_
    refine s_op rfl (o_ex loud_n rfl (l2Copy_c _ _ _ _ (hx.ex e1) hl) ?_)
    rintro v2 st2 ⟨q, rfl, hf⟩ e2
    have hf := hf.le e1.n
    refine sra rfl ?_
    refine c_rs (by kernel_rfl) ?_   -- region 4
    refine sr 4 rfl ?_
    refine s_op rfl (o_ex loud_n rfl (l6Place0_c r o l scope i _ ((hx.ex e1).ex e2) hsc hi) ?_)
    rintro v3 st3 ⟨x, rfl, hxx, rfl⟩ e3
    refine sra rfl ?_
    refine c_seq ?_
    refine crr (by kernel_rfl) rfl ?_   -- region 5
    refine c_if rfl (fun h40 => ?_) (fun h40 => ?_)
    · -- then
      refine crr (by kernel_rfl) rfl ?_   -- region 6
      exact c_ret (fr rfl ⟨q, l, false, rfl, hf, Nat.le_refl _⟩)
    · -- else
      have h40 := of_decide_eq_false h40
      have hxx := hxx.resolve_left h40
      refine c_skip ?_
      refine c_rs (by kernel_rfl) ?_   -- region 7
      refine sr 4 rfl ?_
      refine s_op rfl (oidx rfl rfl rfl (by omega) (by omega) ?_)   -- 46 := indexAddr 31 (tmp 43) (tmp 44)
      refine s_op rfl (ostF rfl rfl hf rfl rfl (by omega) fun st5 hf5 he5 => ?_)
      have el : (l.set (0 + x.toNat) v).length = l.length := List.length_set
      refine s_end ?_
      refine crr (by kernel_rfl) rfl ?_   -- region 8
      refine c_ret (fr rfl ⟨q, l.set (0 + x.toNat) v, true, ?_, hf5, by rw [el]; exact Nat.le_refl _⟩)
      rw [el]
theorem ats_of {st : St} {q : Nat} {l : List ByteArray} (h : ∀ j, cell st (some q) j = (l.map AV.str)[j]?) : AtS st (some q) 0 l := fun j hj => by
  rw [Nat.zero_add, h j]
  simp [List.getD, hj]
/-- A heap and its roots, each of a row of its own; the cursor. -/
structure DhI (n0 n1 k : Nat) (r : Option Nat) (code : List Int) (q : Option Nat) (l : List Int) (p : Option Nat) (R : List Int) (st : St) : Prop where
  cu : CuE n0 k r code st
  fl : Fr n1 st q l
  len : l.length ≤ 200
  fR : Fr n1 st p R
  dif : ∀ i, q = some i → p ≠ some i
  n : n1 ≤ st.n
  old : k < n1
section
variable {n0 n1 k : Nat} {r : Option Nat} {code : List Int} {q : Option Nat} {l : List Int} {p : Option Nat} {R : List Int} {st st' : St}
theorem DhI.cur (h : DhI n0 n1 k r code q l p R st) (he : Ext (fun j => j = k) st st') (hc : CuE n0 k r code st') : DhI n0 n1 k r code q l p R st' :=
  ⟨hc, h.fl.cu h.old he, h.len, h.fR.cu h.old he, h.dif, Nat.le_trans h.n he.n, h.old⟩
theorem DhI.ex (h : DhI n0 n1 k r code q l p R st) (he : Ex st st') : DhI n0 n1 k r code q l p R st' :=
  ⟨h.cu.ex he, h.fl.ex he, h.len, h.fR.ex he, h.dif, Nat.le_trans h.n he.n, h.old⟩
theorem DhI.put {q' : Option Nat} {l' : List Int} (h : DhI n0 n1 k r code q l p R st) (he : Ex st st') (hf : Fr st.n st' q' l') (hl : l'.length ≤ l.length) : DhI n0 n1 k r code q' l' p R st' :=
  ⟨h.cu.ex he, hf.le h.n, Nat.le_trans hl h.len, h.fR.ex he, fun i hi e => by have := hf.bd i hi; have := h.fR.bd i e; omega, Nat.le_trans h.n he.n, h.old⟩
theorem DhI.new {q' : Option Nat} {l' : List Int} (h : DhI n0 n1 k r code q l p R st) (he : Ex st st') (hf : Fr st.n st' q' l') (hl : l'.length ≤ 200) : DhI n0 n1 k r code q' l' p R st' :=
  ⟨h.cu.ex he, hf.le h.n, hl, h.fR.ex he, fun i hi e => by have := hf.bd i hi; have := h.fR.bd i e; omega, Nat.le_trans h.n he.n, h.old⟩
theorem DhI.roots {p' : Option Nat} {R' : List Int} (h : DhI n0 n1 k r code q l p R st) (he : Ex st st') (hf : Fr st.n st' p' R') : DhI n0 n1 k r code q l p' R' st' :=
  ⟨h.cu.ex he, h.fl.ex he, h.len, hf.le h.n, fun i hi e => by have := h.fl.bd i hi; have := hf.bd i e; omega, Nat.le_trans h.n he.n, h.old⟩
theorem DhI.app {p' : Option Nat} {R' : List Int} (h : DhI n0 n1 k r code q l p R st) (he : Ext (fun i => p = some i) st st') (hf : Fr n1 st' p' R') (hn : ∀ i, p' = some i → st.n ≤ i) : DhI n0 n1 k r code q l p' R' st' :=
  ⟨h.cu.ext he (fun e => by have := h.fR.bd k e; have := h.old; omega) (fun j e => by
      have h1 := h.fR.bd j e; have h2 := h.old; have h3 := h.cu.bd; omega), h.fl.ext he fun i hi e => h.dif i hi e, h.len, hf, fun i hi e => by have := h.fl.bd i hi; have := hn i e; omega, Nat.le_trans h.n he.n, h.old⟩
end
/-- A heap that is drawn, and roots. -/
def DhP (n0 n1 k : Nat) (r : Option Nat) (code : List Int) : AV → St → Prop := fun v st' => ∃ q l p R, v = .tup [.agg [.sl q 0 l.length], .sl p 0 R.length] ∧ DhI n0 n1 k r code q l p R st' ∧ 1 ≤ l.length ∧ 1 ≤ R.length ∧ R.length ≤ 30
theorem l3DrawHeap_c (n0 k : Nat) (r : Option Nat) (code : List Int) (st : St) (hc : CuE n0 k r code st) : ACalls Try.prog 132 [.ptr (some k) 0] st (fun j => j = k) (DhP n0 st.n k r code) := by
  have hk := hc.bd
  refine ent (N := 143) Try.func132 rfl (by decide) rfl rfl rfl ?_
  refine crr (by kernel_rfl) rfl ?_   -- region 0
  refine c_rs (by kernel_rfl) ?_   -- region 1
  refine sr 1 rfl ?_
  refine s_op rfl (oints [12, 40, 90, 200] loud_n rfl (by decide) rfl rfl rfl fun q1 st1 hq1 e1 => ?_)
  refine s_op rfl (o_call rfl (l1PickInt_c n0 k r (some q1) code 0 _ _ (hc.ex e1) hq1.at_ (fun j hj => by have := hq1.bd j hj; omega) (by decide) (by decide)) (fun _ _ h => h) (.inl rfl) ?_)
  rintro v2 st2 ⟨x, rfl, hx, hc2⟩ e2
  have hx2 : 2 ≤ x ∧ x ≤ 200 := by
    simp only [List.mem_cons, List.not_mem_nil, or_false] at hx
    omega
  refine s_op rfl (o_ex loud_n rfl (SlabNew_c x _) ?_)
  rintro v3 st3 ⟨q3, rfl, hf3⟩ e3
  have hl3 := (snwL_len x).2 hx2.1 (by omega)
  refine sra rfl ?_
  have n1 := e1.n
  have n2 := e2.n
  have n3 := e3.n
  refine c_rs (by kernel_rfl) ?_   -- region 2
  refine sr 1 rfl ?_
  refine s_op rfl (o_call rfl (l1Below_c n0 k r code 9 _ (hc2.ex e3) (by decide)) (fun _ _ h => h) (.inl rfl) ?_)
  rintro v4 st4 ⟨y, rfl, _, hc4⟩ e4
  refine s_op rfl (o_pure loud_n rfl (IntOf_c ..) ?_)
  refine s_op rfl (o_pure loud_n rfl (BoolOf_c ..) ?_)
  refine s_op rfl (oints [0, 1, 8 * wr y + 3, 10] loud_n rfl (by decide) rfl rfl rfl fun q5 st5 hq5 e5 => ?_)
  refine sra rfl ?_
  have n4 := e4.n
  have n5 := e5.n
  have hf5 : Fr st.n st5 q3 (snwL x) := ((hf3.le (by omega)).cu hk.2 e4).ex e5
  have D5 : DhI n0 st.n k r code q3 (snwL x) (some q5) [0, 1, 8 * wr y + 3, 10] st5 :=
    ⟨hc4.ex e5, hf5, by omega, hq5.le (by omega), fun i hi e => by
      have h1 := hf3.bd i hi; have h2 := hq5.bd i e; omega, by omega, hk.2⟩
  clear hc2 hc4 hf3 hf5
  refine c_rs (by kernel_rfl) ?_   -- region 3
  refine sr 1 rfl ?_
  refine s_op rfl (o_call rfl (l1Below_c n0 k r code 25 _ D5.cu (by decide)) (fun _ _ h => h) (.inl rfl) ?_)
  rintro v6 st6 ⟨n, rfl, hn, hc6⟩ e6
  have hn := hn.1 (by decide)
  have D6 := D5.cur e6 hc6
  refine sra rfl ?_
  refine c_seq ?_
  refine crr (by kernel_rfl) rfl ?_   -- region 4
  refine c_block ?_
  refine c_lp (α := Nat × (Option Nat × List Int) × (Option Nat × List Int)) (fun i => [(0, .ptr (some k) 0), (6, .sl i.2.2.1 0 i.2.2.2.length), (7, I n), (8, I i.1)]) (fun i => [(2, 2, [.sl none 0 0]), (4, 4, [.sl i.2.1.1 0 i.2.1.2.length])])
    (fun i st' => DhI n0 st.n k r code i.2.1.1 i.2.1.2 i.2.2.1 i.2.2.2 st' ∧ 1 ≤ i.2.1.2.length ∧ 1 ≤ i.2.2.2.length ∧ i.2.2.2.length ≤ 4 + i.1 ∧ i.1 ≤ n) (fun i => n.toNat - i.1) (0, (q3, snwL x), (some q5, [0, 1, 8 * wr y + 3, 10])) ⟨rfl, rfl, rfl, rfl, trivial⟩ ⟨rfl, rfl, rfl, rfl, trivial⟩ ⟨D6, by dsimp only; omega, by simp, by simp, by dsimp only; omega⟩ ?_
  rintro ⟨i, ⟨q, l⟩, ⟨p, R⟩⟩ st7 ⟨D7, hl1, hR1, hR2, hin⟩
  dsimp only at *
  clear D5 D6
  refine c_seq ?_
  refine crr (by kernel_rfl) rfl ?_   -- region 5
  refine c_if rfl (fun h30 => ?_) (fun h30 => ?_)
  · -- then
    have h30 := of_decide_eq_true h30
    refine c_skip ?_
    refine c_sj (α := (Option Nat × List Int) × (Option Nat × List Int)) (fun j => [(0, .ptr (some k) 0), (6, .sl j.2.1 0 j.2.2.length), (7, I n), (8, I i)]) (fun j => [(2, 2, [.sl none 0 0]), (4, 4, [.sl j.1.1 0 j.1.2.length])])
      (fun j st' => DhI n0 st.n k r code j.1.1 j.1.2 j.2.1 j.2.2 st' ∧ 1 ≤ j.1.2.length ∧ 1 ≤ j.2.2.length ∧ j.2.2.length ≤ 5 + i) ?_ ?_
    · -- ways that meet
      refine c_block ?_
      refine c_rs (by kernel_rfl) ?_   -- region 7
      refine sr 4 rfl ?_
      refine s_op rfl (o_call rfl (l1Below_c n0 k r code R.length _ D7.cu (by omega)) (fun _ _ h => h) (.inl rfl) ?_)
      rintro v8 st8 ⟨x8, rfl, hx8, hc8⟩ e8
      have hx8 := hx8.1 (by omega)
      have D8 := D7.cur e8 hc8
      refine s_op rfl (oidx rfl rfl rfl (by omega) (by omega) ?_)   -- 38 := indexAddr 31 (tmp 33) (tmp 37)
      refine s_op rfl (old rfl rfl (D8.fR.at_.rd (by omega) (by omega)) ?_)   -- 39 := load 3 (tmp 38)
      refine sra rfl ?_
      refine c_rs (by kernel_rfl) ?_   -- region 8
      refine sr 4 rfl ?_
      refine s_op rfl (o_call rfl (l1Below_c n0 k r code R.length _ D8.cu (by omega)) (fun _ _ h => h) (.inl rfl) ?_)
      rintro v9 st9 ⟨x9, rfl, hx9, hc9⟩ e9
      have hx9 := hx9.1 (by omega)
      have D9 := D8.cur e9 hc9
      refine s_op rfl (oidx rfl rfl rfl (by omega) (by omega) ?_)   -- 45 := indexAddr 31 (tmp 40) (tmp 44)
      refine s_op rfl (old rfl rfl (D9.fR.at_.rd (by omega) (by omega)) ?_)   -- 46 := load 3 (tmp 45)
      refine sra rfl ?_
      refine c_rs (by kernel_rfl) ?_   -- region 9
      refine sr 4 rfl ?_
      refine s_op rfl (o_call rfl (l1Below_c n0 k r code R.length _ D9.cu (by omega)) (fun _ _ h => h) (.inl rfl) ?_)
      rintro v10 st10 ⟨x10, rfl, hx10, hc10⟩ e10
      have hx10 := hx10.1 (by omega)
      have D10 := D9.cur e10 hc10
      refine s_op rfl (oidx rfl rfl rfl (by omega) (by omega) ?_)   -- 52 := indexAddr 31 (tmp 47) (tmp 51)
      refine s_op rfl (old rfl rfl (D10.fR.at_.rd (by omega) (by omega)) ?_)   -- 53 := load 3 (tmp 52)
      refine sra rfl ?_
      generalize rd R x8 = a
      generalize rd R x9 = b
      generalize rd R x10 = d
      clear D7 D8 D9 hc8 hc9 hc10
      refine crr (by kernel_rfl) rfl ?_   -- region 10
      refine c_sj (α := (Option Nat × List Int) × Int × Bool) (fun j => [(0, .ptr (some k) 0), (6, .sl p 0 R.length), (7, I n), (8, I i), (12, I j.2.1), (13, .bool j.2.2)]) (fun j => [(2, 2, [.sl none 0 0]), (4, 4, [.sl j.1.1 0 j.1.2.length])]) (fun j st' => DhI n0 st.n k r code j.1.1 j.1.2 p R st') ?_ ?_
      · -- ways that meet
        refine c_rs (by kernel_rfl) ?_   -- region 11
        refine sr 1 rfl ?_
        refine s_op rfl (o_call rfl (l1Below_c n0 k r code 8 _ D10.cu (by decide)) (fun _ _ h => h) (.inl rfl) ?_)
        rintro v11 st11 ⟨x11, rfl, _, hc11⟩ e11
        have D11 := D10.cur e11 hc11
        clear D10 hc11
        refine s_end ?_
        refine c_block ?_
        refine c_sj (α := Bool) (fun c => [(0, .ptr (some k) 0), (6, .sl p 0 R.length), (7, I n), (8, I i), (9, I a), (10, I b), (11, I d), (12, I 0), (13, .bool false), (55, I x11), (56, .bool c)]) (fun _ => [(2, 2, [.sl none 0 0]), (4, 4, [.sl q 0 l.length])]) (fun _ st' => st11 = st') ?_ ?_
        · -- ways that meet
          refine crr (by kernel_rfl) rfl ?_   -- region 12
          refine c_if rfl (fun h56 => ?_) (fun h56 => ?_)
          · -- then
            refine c_skip ?_
            exact ⟨_, ⟨rfl, rfl, rfl, rfl, rfl, rfl, rfl, rfl, rfl, rfl, rfl, trivial⟩, ⟨rfl, rfl, rfl, rfl, trivial⟩, rfl⟩   -- meet
          · -- else
            refine c_region (by kernel_rfl) ?_   -- region 13
            exact sra rfl ⟨_, ⟨rfl, rfl, rfl, rfl, rfl, rfl, rfl, rfl, rfl, rfl, rfl, trivial⟩, ⟨rfl, rfl, rfl, rfl, trivial⟩, rfl⟩   -- meet
        rintro c _ rfl
        refine c_if rfl (fun h56 => ?_) (fun h56 => ?_)
        · -- then
          refine cdx1 [4] [] [0, 1, 2, 3, 4, 5, 6, 7, 8] [false, false, true, true, true, false, false, false, false] [9, 10, 11] [.n, .q, .q] (by kernel_rfl) (by kernel_rfl) ?_   -- region 14
          refine yr 2 rfl ?_
          refine y_b rfl rfl (bblk (List.map AV.str [⟨#[97]⟩, ⟨#[98]⟩, ⟨#[107, 101, 121]⟩, ⟨#[]⟩]) rfl (by decide) rfl rfl fun q12 st12 h12 h12' hce e12 => ?_)
          refine y_b rfl rfl (b_call rfl (l1Pick_c n0 k r (some q12) code [⟨#[97]⟩, ⟨#[98]⟩, ⟨#[107, 101, 121]⟩, ⟨#[]⟩] _ (D11.cu.ex e12) (ats_of hce) (fun j hj => by injection hj with hj; have := D11.n; have := D11.old; omega) (by decide) (by decide)) (fun _ _ h => h) ?_)
          rintro v13 st13 ⟨s13, rfl, _, hc13⟩ e13
          have D13 := (D11.ex e12).cur e13 hc13
          refine y_b rfl rfl (b_call rfl (TextPut_c q 0 l s13 _ D13.fl.at_ (by have := D13.len; omega)) no_T ?_)
          rintro v14 st14 ⟨q14, rfl, hf14⟩ e14
          refine yr 4 rfl ?_
          refine y_end ?_
          exact sra rfl ⟨((q14, tqL l s13), _, _), ⟨rfl, rfl, rfl, rfl, rfl, rfl, trivial⟩, ⟨rfl, rfl, rfl, rfl, trivial⟩, D13.put e14 hf14 (tqL_len l s13)⟩
        · -- else
          refine crr (by kernel_rfl) rfl ?_   -- region 15
          refine c_if rfl (fun h68 => ?_) (fun h68 => ?_)
          · -- then
            refine c_region (by kernel_rfl) ?_   -- region 16
            refine sr 1 rfl ?_
            refine s_op rfl (o_ex loud_n rfl (ObjNew_c q 0 l 1 _ D11.fl.at_ (by have := D11.len; omega)) ?_)
            rintro v14 st14 ⟨q14, rfl, hf14⟩ e14
            exact sra rfl ⟨((q14, onL l 1), _, _), ⟨rfl, rfl, rfl, rfl, rfl, rfl, trivial⟩, ⟨rfl, rfl, rfl, rfl, trivial⟩, D11.put e14 hf14 (onL_len l 1)⟩
          · -- else
            refine crr (by kernel_rfl) rfl ?_   -- region 17
            refine c_if rfl (fun h76 => ?_) (fun h76 => ?_)
            · -- then
              refine c_region (by kernel_rfl) ?_   -- region 18
              refine sr 2 rfl ?_
              refine s_op rfl (o_ex loud_n rfl (ObjNew_c q 0 l a _ D11.fl.at_ (by have := D11.len; omega)) ?_)
              rintro v14 st14 ⟨q14, rfl, hf14⟩ e14
              exact sra rfl ⟨((q14, onL l a), _, _), ⟨rfl, rfl, rfl, rfl, rfl, rfl, trivial⟩, ⟨rfl, rfl, rfl, rfl, trivial⟩, D11.put e14 hf14 (onL_len l a)⟩
            · -- else
              refine crr (by kernel_rfl) rfl ?_   -- region 19
              refine c_if rfl (fun h85 => ?_) (fun h85 => ?_)
              · -- then
                refine cdx1 [4] [] [0, 1, 2, 3, 4, 5, 6, 7] [false, false, true, true, false, false, false, false] [8, 9, 10] [.n, .q, .q] (by kernel_rfl) (by kernel_rfl) ?_   -- region 20
                refine yr 2 rfl ?_
                refine y_b rfl rfl (b_call rfl (l1Below_c n0 k r code 3 _ D11.cu (by decide)) (fun _ _ h => h) ?_)
                rintro v13 st13 ⟨x13, rfl, _, hc13⟩ e13
                have D13 := D11.cur e13 hc13
                refine y_b rfl rfl (b_call rfl (ScopeNew_c q 0 l 0 x13 _ D13.fl.at_ (by have := D13.len; omega)) no_T ?_)
                rintro v14 st14 ⟨q14, rfl, hf14⟩ e14
                refine yr 4 rfl ?_
                refine y_end ?_
                exact sra rfl ⟨((q14, snL l 0 x13), _, _), ⟨rfl, rfl, rfl, rfl, rfl, rfl, trivial⟩, ⟨rfl, rfl, rfl, rfl, trivial⟩, D13.put e14 hf14 (snL_len l 0 x13)⟩
              · -- else
                refine crr (by kernel_rfl) rfl ?_   -- region 21
                refine c_if rfl (fun h95 => ?_) (fun h95 => ?_)
                · -- then
                  refine cdx1 [4] [] [0, 1, 3, 2, 4, 5, 6, 7, 8] [false, false, false, true, true, false, false, false, false] [9, 10, 11] [.n, .q, .q] (by kernel_rfl) (by kernel_rfl) ?_   -- region 22
                  refine yr 3 rfl ?_
                  refine y_b rfl rfl (b_call rfl (l1Below_c n0 k r code 5 _ D11.cu (by decide)) (fun _ _ h => h) ?_)
                  rintro v13 st13 ⟨x13, rfl, _, hc13⟩ e13
                  have D13 := D11.cur e13 hc13
                  refine y_b rfl rfl (b_call rfl (FunNew_c q 0 l x13 a _ D13.fl.at_ (by have := D13.len; omega)) no_T ?_)
                  rintro v14 st14 ⟨q14, rfl, hf14⟩ e14
                  refine yr 4 rfl ?_
                  refine y_end ?_
                  exact sra rfl ⟨((q14, fwL l x13 a), _, _), ⟨rfl, rfl, rfl, rfl, rfl, rfl, trivial⟩, ⟨rfl, rfl, rfl, rfl, trivial⟩, D13.put e14 hf14 (fwL_len l x13 a)⟩
                · -- else
                  refine crr (by kernel_rfl) rfl ?_   -- region 23
                  refine c_if rfl (fun h106 => ?_) (fun h106 => ?_)
                  · -- then
                    refine c_region (by kernel_rfl) ?_   -- region 24
                    refine sr 4 rfl ?_
                    refine s_op rfl (o_ex loud_n rfl (PropSet_c q 0 l a b d _ D11.fl.at_ (by have := D11.len; omega)) ?_)
                    rintro v14 st14 ⟨q14, rfl, hf14⟩ e14
                    exact sra rfl ⟨((q14, pqL l a b d), _, _), ⟨rfl, rfl, rfl, rfl, rfl, rfl, trivial⟩, ⟨rfl, rfl, rfl, rfl, trivial⟩, D11.put e14 hf14 (pqL_len l a b d)⟩
                  · -- else
                    refine crr (by kernel_rfl) rfl ?_   -- region 25
                    refine c_if rfl (fun h116 => ?_) (fun h116 => ?_)
                    · -- then
                      refine cdx1 [4] [] [0, 1, 2, 4, 3, 5, 6, 7, 8] [false, false, false, false, true, true, false, false, false] [9] [.n] (by kernel_rfl) (by kernel_rfl) ?_   -- region 26
                      refine yr 4 rfl ?_
                      refine y_b rfl rfl (b_call rfl (l1Below_c n0 k r code 2 _ D11.cu (by decide)) (fun _ _ h => h) ?_)
                      rintro v13 st13 ⟨x13, rfl, hx13, hc13⟩ e13
                      have hx13 := hx13.1 (by decide)
                      have D13 := D11.cur e13 hc13
                      refine y_b rfl rfl (b_call rfl (VarSet0_c q 0 l a x13 b _ D13.fl.at_ (by have := D13.len; omega) (by unfold W1; omega)) no_T ?_)
                      rintro v14 st14 ⟨q14, l14, b14, rfl, hf14, hl14⟩ e14
                      refine yr 3 rfl ?_
                      refine y_end ?_
                      exact sra rfl ⟨((q14, l14), _, _), ⟨rfl, rfl, rfl, rfl, rfl, rfl, trivial⟩, ⟨rfl, rfl, rfl, rfl, trivial⟩, D13.put e14 hf14 hl14⟩
                    · -- else
                      refine c_skip ?_
                      exact ⟨((q, l), _, _), ⟨rfl, rfl, rfl, rfl, rfl, rfl, trivial⟩, ⟨rfl, rfl, rfl, rfl, trivial⟩, D11⟩   -- meet
      rintro ⟨⟨q', l'⟩, v', ok'⟩ st12 D12
      dsimp only at *
      clear D10
      have hlen := D12.len
      refine c_seq ?_
      refine crr (by kernel_rfl) rfl ?_   -- region 27
      refine c_if rfl (fun h130 => ?_) (fun h130 => ?_)
      · -- then
        refine c_rs (by kernel_rfl) ?_   -- region 28
        refine s_op rfl (o_ex loud_n rfl (SlabNew_c 30 _) ?_)
        rintro v13 st13 ⟨q13, rfl, hf13⟩ e13
        have hl13 := (snwL_len 30).2 (by decide) (by decide)
        have D13 := D12.new e13 hf13 (by rw [hl13]; decide)
        refine sra rfl ?_
        refine c_rs (by kernel_rfl) ?_   -- region 29
        refine s_op rfl (oints [0, 1] loud_n rfl (by decide) rfl rfl rfl fun q14 st14 hq14 e14 => ?_)
        refine sra rfl ?_
        refine c_exit ?_
        exact ⟨((q13, snwL 30), (some q14, [0, 1])), ⟨rfl, rfl, rfl, rfl, trivial⟩, ⟨rfl, rfl, rfl, rfl, trivial⟩, D13.roots e14 hq14, by rw [hl13]; decide, by simp, by simp; omega⟩
      · -- else
        have h130 := of_decide_eq_false h130
        refine c_skip ?_
        refine crr (by kernel_rfl) rfl ?_   -- region 30
        refine c_if rfl (fun h136 => ?_) (fun h136 => ?_)
        · -- then
          refine c_region (by kernel_rfl) ?_   -- region 31
          refine sr 2 rfl ?_
          refine s_op rfl (oints [v'] loud_n rfl (by decide) rfl rfl rfl fun q13 st13 hq13 e13 => ?_)
          have D13 := D12.ex e13
          refine s_op rfl (oappG D13.n rfl rfl rfl D13.fR rfl hq13.at_ (by simp; omega) fun r2 st14 hf14 hn14 he14 => ?_)
          exact sra rfl ⟨((q', l'), (r2, R ++ [v'])), ⟨rfl, rfl, rfl, rfl, trivial⟩, ⟨rfl, rfl, rfl, rfl, trivial⟩, D13.app he14 hf14 hn14, by dsimp only; omega, by simp, by simp; omega⟩
        · -- else
          refine c_skip ?_
          exact ⟨((q', l'), (p, R)), ⟨rfl, rfl, rfl, rfl, trivial⟩, ⟨rfl, rfl, rfl, rfl, trivial⟩, D12, by dsimp only; omega, hR1, by dsimp only; omega⟩
    rintro ⟨⟨q', l'⟩, ⟨p', R'⟩⟩ st8 ⟨D8, g1, g2, g3⟩
    dsimp only at *
    refine c_region (by kernel_rfl) ?_   -- region 6
    refine sr 1 rfl ?_
    refine s_op rfl (o_ar rfl rfl rfl (by omega) (by omega) ?_)   -- 32 := binOp BinOp.add 3 (tmp 31) (const (Value.int IntKind.i64 1)) 3
    refine sra rfl ?_
    exact ⟨(i + 1, (q', l'), (p', R')), ⟨rfl, rfl, rfl, rfl, trivial⟩, ⟨rfl, rfl, rfl, rfl, trivial⟩, ⟨D8, g1, g2, by dsimp only; omega, by dsimp only; omega⟩, by dsimp only; omega⟩
  · -- else
    refine c_exit ?_
    refine crr (by kernel_rfl) rfl ?_   -- region 32
    exact c_ret (fr rfl ⟨q, l, p, R, rfl, D7, hl1, hR1, by omega⟩)
end Go.Proofs.YtfhkjhnaihhdmaaW.Ax
