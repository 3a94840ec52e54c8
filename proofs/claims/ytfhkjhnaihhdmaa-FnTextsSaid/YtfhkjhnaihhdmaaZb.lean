/- TextPut: walked. -/
import Derived.Test.YtfhkjhnaihhdmaaYp
import Derived.Test.YtfhkjhnaihhdmaaYw
namespace Go.Proofs.YtfhkjhnaihhdmaaW.Ax
open Go Go.RowKit Go.Proofs Go.Proofs.Ytfhkjhnaihhdmaa.Pure
set_option linter.unusedVariables false
set_option maxRecDepth 100000

theorem bt_le (s : ByteArray) (q : Int) : 0 ≤ bt s q ∧ bt s q ≤ 255 := by
  unfold bt
  have := UInt8.toNat_lt (s.data.toList.getD q.toNat 0)
  omega
/-- A text's bytes, written into a block. -/
def wrB (l : List Int) (a : Nat) (t : ByteArray) : Nat → List Int
  | 0 => l
  | k + 1 => (wrB l a t k).set (a + 2 + k) (bt t k)
theorem wrB_len (l : List Int) (a : Nat) (t : ByteArray) : ∀ k, (wrB l a t k).length = l.length
  | 0 => rfl
  | k + 1 => by rw [wrB, List.length_set, wrB_len l a t k]
/-- What a text's block is, where it is new. -/
def tnL (l : List Int) (t : ByteArray) : List Int := wrB ((tkL l 1 (t.size + 2)).set (tkA l (t.size + 2) + 1).toNat t.size) (tkA l (t.size + 2)).toNat t t.size
theorem tnL_len (l : List Int) (t : ByteArray) : (tnL l t).length = l.length := by rw [tnL, wrB_len, List.length_set, tkL_len]
def tnO (l : List Int) (t : ByteArray) : Bool := !(tfind l t (blocks l)).isSome && (decide (t.size ≤ 30) && tkO l (t.size + 2))
def tpL (l : List Int) (t : ByteArray) : List Int := cond (tnO l t) (tnL l t) l
def tpV (l : List Int) (t : ByteArray) : Int := cond (tnO l t) (8 * tkA l (t.size + 2) + 4) (tfV (tfind l t (blocks l)))
def tpO (l : List Int) (t : ByteArray) : Bool := cond (tnO l t) true (tfind l t (blocks l)).isSome
theorem tpL_len (l : List Int) (t : ByteArray) : (tpL l t).length = l.length := by
  unfold tpL
  cases tnO l t
  · rfl
  · exact tnL_len l t
theorem tn_found {l : List Int} {t : ByteArray} (h : (tfind l t (blocks l)).isSome = true) : tnO l t = false := by simp [tnO, h]
theorem tn_big {l : List Int} {t : ByteArray} (h : ¬ t.size ≤ 30) : tnO l t = false := by simp [tnO, h]
theorem tn_full {l : List Int} {t : ByteArray} (h : tkO l (t.size + 2) = false) : tnO l t = false := by simp [tnO, h]
theorem tn_new {l : List Int} {t : ByteArray} (h1 : (tfind l t (blocks l)).isSome = false) (h2 : t.size ≤ 30) (h3 : tkO l (t.size + 2) = true) : tnO l t = true := by
  unfold tnO
  rw [h1, h3, decide_eq_true h2]; rfl
theorem tp_old {l : List Int} {t : ByteArray} (h : tnO l t = false) : tpL l t = l ∧ tpV l t = tfV (tfind l t (blocks l)) ∧ tpO l t = (tfind l t (blocks l)).isSome := by
  unfold tpL tpV tpO
  rw [h]; exact ⟨rfl, rfl, rfl⟩
theorem tp_new {l : List Int} {t : ByteArray} (h : tnO l t = true) : tpL l t = tnL l t ∧ tpV l t = 8 * tkA l (t.size + 2) + 4 ∧ tpO l t = true := by
  unfold tpL tpV tpO
  rw [h]; exact ⟨rfl, rfl, rfl⟩
theorem tf_no {l : List Int} {t : ByteArray} (h : (tfind l t (blocks l)).isSome = false) : tfV (tfind l t (blocks l)) = 0 := by
  cases e : tfind l t (blocks l) with
  | none => rfl
  | some b => rw [e] at h; cases h

theorem l4Put_c (n0 : Nat) (r : Option Nat) (l : List Int) (t : ByteArray) (st : St) (hf : Fr n0 st r l) (hp : Heap l) : ACalls Try.prog 120 [.agg [.sl r 0 l.length], .str t] st (fun i => r = some i) (Tv n0 st r (tpL l t) (tpV l t) (tpO l t)) := by
  have hlen := okB_len hp.1
  refine ent (N := 65) Try.func120 rfl (by decide) rfl rfl rfl ?_
  refine crr (by kernel_rfl) rfl ?_   -- region 0
  refine c_rs (by kernel_rfl) ?_   -- region 1
  refine sr 2 rfl ?_
  refine s_op rfl (o_ex loud_n rfl (l4Find_c _ _ _ t _ hf.at_ hp) ?_)
  rintro v1 st1 rfl e1
  have hf1 := hf.ex e1
  have he1 : Ext (fun i => r = some i) st st1 := ⟨e1.n, fun i hi _ => e1.ob i hi id⟩
  refine sra rfl ?_
  refine c_seq ?_
  refine crr (by kernel_rfl) rfl ?_   -- region 2
  refine c_if rfl (fun h19 => ?_) (fun h19 => ?_)
  · obtain ⟨t1, t2, t3⟩ := tp_old (tn_found h19)
    refine crr (by kernel_rfl) rfl ?_   -- region 3
    refine c_ret (fr rfl ⟨?_, ?_, he1⟩)
    · rw [t1, t2, t3, h19]
    · rw [t1]; exact hf1
  · have h19 : (tfind l t (blocks l)).isSome = false := h19
    refine c_skip ?_
    refine c_seq ?_
    refine crr (by kernel_rfl) rfl ?_   -- region 4
    refine c_if rfl (fun h24 => ?_) (fun h24 => ?_)
    · have h24 := of_decide_eq_true h24
      obtain ⟨t1, t2, t3⟩ := tp_old (tn_big (l := l) (t := t) (by omega))
      refine crr (by kernel_rfl) rfl ?_   -- region 5
      refine c_ret (fr rfl ⟨?_, ?_, he1⟩)
      · rw [t1, t2, t3, h19, tf_no h19]
      · rw [t1]; exact hf1
    · have h24 := of_decide_eq_false h24
      refine c_skip ?_
      refine c_rs (by kernel_rfl) ?_   -- region 6
      refine sr 3 rfl ?_
      refine s_op rfl (o_ar rfl rfl rfl (by omega) (by omega) ?_)
      refine s_op rfl (o_call rfl (l2Take_c n0 r l 1 (t.size + 2) _ hf1 hp.1 (by omega) (by omega) (by omega)) (fun _ _ h => h) (.inl rfl) ?_)
      rintro v2 st2 ⟨rfl, hf2, he2⟩ _
      have he2' := he1.trans he2 (fun _ _ h => h)
      refine sra rfl ?_
      refine c_seq ?_
      refine crr (by kernel_rfl) rfl ?_   -- region 7
      refine c_if rfl (fun h36 => ?_) (fun h36 => ?_)
      · have h36 : tkO l (t.size + 2) = false := by simpa using h36
        obtain ⟨t1, t2, t3⟩ := tp_old (tn_full h36)
        refine crr (by kernel_rfl) rfl ?_   -- region 8
        refine c_ret (fr rfl ⟨?_, ?_, he2'⟩)
        · rw [t1, t2, t3, h19, tf_no h19]
        · rw [t1]; rw [(tk_no 1 h36).2] at hf2; exact hf2
      · have h36 : tkO l (t.size + 2) = true := by simpa using h36
        obtain ⟨t1, t2, t3⟩ := tp_new (tn_new h19 (by omega) h36)
        have ht := tk_at h36
        have hl := tkL_len l 1 (t.size + 2)
        have hl0 : tkL l 1 (t.size + 2) ≠ [] := fun h => by rw [h] at hl; simp at hl; omega
        obtain ⟨q, rfl⟩ := hf2.some_of hl0
        have hb := block_at ht.2.2.1
        obtain ⟨A, hA⟩ : ∃ A : Nat, tkA l (t.size + 2) = A := ⟨(tkA l (t.size + 2)).toNat, by omega⟩
        refine c_skip ?_
        refine c_rs (by kernel_rfl) ?_   -- region 9
        refine sr 3 rfl ?_
        refine s_op rfl (o_ar rfl rfl rfl (by omega) (by omega) ?_)
        refine sr 2 rfl ?_
        refine s_op rfl (oidx rfl rfl rfl (by omega) (by omega) ?_)
        refine s_op rfl (ostI rfl rfl hf2.ob.2 (fun _ => rfl) rfl rfl (by omega) ?_)
        have hf3 := hf2.set (l' := (tkL l 1 (t.size + 2)).set (0 + (tkA l (t.size + 2) + 1).toNat) t.size)
        have he3 : Ext (fun i => some q = some i) st (st2.set q (.row true (((tkL l 1 (t.size + 2)).set (0 + (tkA l (t.size + 2) + 1).toNat) t.size).map I))) := by
          have := ext_set st2 q (.row true (((tkL l 1 (t.size + 2)).set (0 + (tkA l (t.size + 2) + 1).toNat) t.size).map I))
          exact he2'.trans (T' := (· = q)) this (fun _ _ h => by rw [h])
        refine s_end ?_
        refine c_seq ?_
        refine crr (by kernel_rfl) rfl ?_   -- region 10
        refine c_block ?_
        refine c_lp (α := Nat) (fun i => [(1, .str t), (10, I (tkA l (t.size + 2))), (12, I i)]) (fun _ => [(4, 4, [.sl none 0 0]), (9, 9, [.sl (some q) 0 (tkL l 1 (t.size + 2)).length])])
          (fun i st' => i ≤ t.size ∧ Fr n0 st' (some q) (wrB ((tkL l 1 (t.size + 2)).set (tkA l (t.size + 2) + 1).toNat t.size) A t i) ∧ Ext (fun i => some q = some i) st st') (fun i => t.size - i) 0 ⟨rfl, rfl, rfl, trivial⟩ ⟨rfl, rfl, rfl, rfl, trivial⟩ ⟨by omega, by rw [Nat.zero_add] at hf3 ⊢; exact hf3, by exact he3⟩ ?_
        rintro i st3 ⟨hi, hfi, hei⟩
        have hwl := wrB_len ((tkL l 1 (t.size + 2)).set (tkA l (t.size + 2) + 1).toNat t.size) A t i
        rw [List.length_set] at hwl
        refine c_seq ?_
        refine crr (by kernel_rfl) rfl ?_   -- region 11
        refine c_if rfl (fun h48 => ?_) (fun h48 => ?_)
        · have h48 := of_decide_eq_true h48
          have hbt := bt_le t i
          refine c_skip ?_
          refine c_seq ?_
          refine c_block ?_
          refine cd1 [0, 1, 2, 3, 4, 5, 6, 7, 8, 9, 10, 11] [.q, .q, .q, .q, .q, .q, .q, .q, .q, .q, .q, .n] (by kernel_rfl) (by kernel_rfl) ?_   -- region 13
          refine sr 3 rfl ?_
          refine s_op rfl (o_ar rfl rfl rfl (by omega) (by omega) ?_)
          refine sr 1 rfl ?_
          refine s_op rfl (o_ar rfl rfl rfl (by omega) (by omega) ?_)
          refine sr 2 rfl ?_
          refine s_op rfl (oindex rfl rfl rfl rfl (by omega) (by omega) ?_)
          refine s_op rfl (oconv rfl rfl rfl rfl (by rw [IntKind.wrap_i64]; omega) ?_)
          refine s_op rfl (oidx rfl rfl rfl (by omega) (by omega) ?_)
          refine s_op rfl (ostI rfl rfl hfi.ob.2 (fun _ => rfl) rfl rfl (by omega) ?_)
          have hn : 0 + (tkA l (t.size + 2) + 2 + (i : Int)).toNat = A + 2 + i := by omega
          rw [hn]
          refine s_end ?_
          refine c_region (by kernel_rfl) ?_   -- region 12
          refine sr 1 rfl ?_
          refine s_op rfl (o_ar rfl rfl rfl (by omega) (by omega) ?_)
          refine sra rfl ⟨i + 1, ⟨rfl, rfl, rfl, trivial⟩, ⟨rfl, rfl, rfl, rfl, trivial⟩, ⟨by omega, hfi.set, ?_⟩, by omega⟩
          have := ext_set st3 q (.row true (((wrB ((tkL l 1 (t.size + 2)).set (tkA l (t.size + 2) + 1).toNat t.size) A t i).set (A + 2 + i) (bt t i)).map I))
          exact hei.trans (T' := (· = q)) this (fun _ _ h => by rw [h])
        · have h48 := of_decide_eq_false h48
          have hit : i = t.size := by omega
          refine c_exit ?_
          refine cdt [0, 1, 2, 3, 4, 5] [.q, .q, .f, .n, .q, .q] (by kernel_rfl) (by kernel_rfl) ?_   -- region 14
          refine sr 2 rfl ?_
          refine s_op rfl (o_pure loud_f rfl (RefOf_c 4 (tkA l (t.size + 2)) _ (by omega) (by omega)) ?_)
          refine sra rfl ?_
          have e : tnL l t = wrB ((tkL l 1 (t.size + 2)).set (tkA l (t.size + 2) + 1).toNat t.size) A t i := by rw [tnL, hit, hA, Int.toNat_natCast]
          refine c_ret (fr rfl ⟨?_, ?_, hei⟩)
          · rw [t1, t2, t3, tnL_len, hl]
          · rw [t1, e]; exact hfi
/-- A text that is put, and whether a block was taken. -/
def Tp (st : St) (l : List Int) (t : ByteArray) : AV → St → Prop := fun v st' => ∃ q, v = .tup [.agg [.sl q 0 (tpL l t).length], I (tpV l t), .bool (tnO l t), .bool (tpO l t)] ∧ Fr st.n st' q (tpL l t)
theorem textPut_c (r : Option Nat) (o : Nat) (l : List Int) (t : ByteArray) (st : St) (hx : At st r o l) (hp : Heap l) : ACalls Try.prog 119 [.agg [.sl r o l.length], .str t] st No (Tp st l t) := by
  have hlen := okB_len hp.1
  refine ent (N := 66) Try.func119 rfl (by decide) rfl rfl rfl ?_
  refine crr (by kernel_rfl) rfl ?_   -- region 0
  refine c_seq ?_
  refine c_rs (by kernel_rfl) ?_   -- region 1
  refine sr 2 rfl ?_
  refine s_op rfl (o_ex loud_n rfl (textFind_c _ _ _ t _ hx hp) ?_)
  rintro v1 st1 rfl e1
  have hx1 := hx.ex e1
  refine sra rfl ?_
  refine crr (by kernel_rfl) rfl ?_   -- region 2
  refine c_if rfl (fun h18 => ?_) (fun h18 => ?_)
  · have h18 : (tfind l t (blocks l)).isSome = true := h18
    obtain ⟨t1, t2, t3⟩ := tp_old (tn_found h18)
    refine c_rs (by kernel_rfl) ?_   -- region 3
    refine sr 1 rfl ?_
    refine s_op rfl (o_ex loud_n rfl (copySlab_c _ _ _ _ hx1 (by omega)) ?_)
    rintro v2 st2 ⟨q, rfl, hf⟩ e2
    refine sra rfl ?_
    refine c_ret (fr rfl ⟨q, ?_, ?_⟩)
    · rw [t1, t2, t3, h18, tn_found h18]
    · rw [t1]; exact hf.le e1.n
  · have h18 : (tfind l t (blocks l)).isSome = false := h18
    refine c_skip ?_
    refine c_seq ?_
    refine crr (by kernel_rfl) rfl ?_   -- region 4
    refine c_if rfl (fun h24 => ?_) (fun h24 => ?_)
    · have h24 := of_decide_eq_true h24
      have hbg := tn_big (l := l) (t := t) (by omega)
      obtain ⟨t1, t2, t3⟩ := tp_old hbg
      refine c_rs (by kernel_rfl) ?_   -- region 5
      refine sr 1 rfl ?_
      refine s_op rfl (o_ex loud_n rfl (copySlab_c _ _ _ _ hx1 (by omega)) ?_)
      rintro v2 st2 ⟨q, rfl, hf⟩ e2
      refine sra rfl ?_
      refine c_ret (fr rfl ⟨q, ?_, ?_⟩)
      · rw [t1, t2, t3, h18, hbg, tf_no h18]
      · rw [t1]; exact hf.le e1.n
    · have h24 := of_decide_eq_false h24
      refine c_skip ?_
      refine c_rs (by kernel_rfl) ?_   -- region 6
      refine sr 3 rfl ?_
      refine s_op rfl (o_ar rfl rfl rfl (by omega) (by omega) ?_)
      refine s_op rfl (o_ex loud_n rfl (iTake_c r o l 1 (t.size + 2) _ hx1 hp.1 (by omega) (by omega) (by omega)) ?_)
      rintro v2 st2 ⟨q, rfl, hf2⟩ e2
      replace hf2 : Fr st.n st2 q _ := hf2.le e1.n
      refine sra rfl ?_
      refine c_seq ?_
      refine crr (by kernel_rfl) rfl ?_   -- region 7
      refine c_if rfl (fun h37 => ?_) (fun h37 => ?_)
      · have h37 : tkO l (t.size + 2) = false := by simpa using h37
        obtain ⟨t1, t2, t3⟩ := tp_old (tn_full h37)
        refine crr (by kernel_rfl) rfl ?_   -- region 8
        refine c_ret (fr rfl ⟨q, ?_, ?_⟩)
        · rw [t1, t2, t3, h18, tn_full h37, tf_no h18, (tk_no 1 h37).2]
        · rw [t1]; rw [(tk_no 1 h37).2] at hf2; exact hf2
      · have h37 : tkO l (t.size + 2) = true := by simpa using h37
        have hnew := tn_new h18 (by omega) h37
        obtain ⟨t1, t2, t3⟩ := tp_new hnew
        have ht := tk_at h37
        have hl := tkL_len l 1 (t.size + 2)
        have hb := block_at ht.2.2.1
        obtain ⟨A, hA⟩ : ∃ A : Nat, tkA l (t.size + 2) = A := ⟨(tkA l (t.size + 2)).toNat, by omega⟩
        refine c_skip ?_
        refine c_rs (by kernel_rfl) ?_   -- region 9
        refine sr 3 rfl ?_
        refine s_op rfl (o_ar rfl rfl rfl (by omega) (by omega) ?_)
        refine sr 2 rfl ?_
        refine s_op rfl (oidx rfl rfl rfl (by omega) (by omega) ?_)
        refine s_op rfl (ostF rfl rfl hf2 rfl rfl (by omega) fun st3 hf3 e3 => ?_)
        refine s_end ?_
        refine c_seq ?_
        refine crr (by kernel_rfl) rfl ?_   -- region 10
        refine c_block ?_
        refine c_lp (α := Nat) (fun i => [(1, .str t), (10, I (tkA l (t.size + 2))), (11, I i)]) (fun _ => [(4, 4, [.sl q 0 (tkL l 1 (t.size + 2)).length])])
          (fun i st' => i ≤ t.size ∧ Fr st.n st' q (wrB ((tkL l 1 (t.size + 2)).set (tkA l (t.size + 2) + 1).toNat t.size) A t i)) (fun i => t.size - i) 0 ⟨rfl, rfl, rfl, trivial⟩ ⟨rfl, rfl, trivial⟩ ⟨by omega, by rw [Nat.zero_add] at hf3; exact hf3⟩ ?_
        rintro i st4 ⟨hi, hfi⟩
        have hwl := wrB_len ((tkL l 1 (t.size + 2)).set (tkA l (t.size + 2) + 1).toNat t.size) A t i
        rw [List.length_set] at hwl
        refine c_seq ?_
        refine crr (by kernel_rfl) rfl ?_   -- region 11
        refine c_if rfl (fun h48 => ?_) (fun h48 => ?_)
        · have h48 := of_decide_eq_true h48
          have hbt := bt_le t i
          refine c_skip ?_
          refine c_seq ?_
          refine c_block ?_
          refine cd1 [0, 1, 2, 3, 4, 5, 6, 7, 8, 9, 10, 11] [.q, .q, .q, .q, .q, .q, .q, .q, .q, .q, .q, .n] (by kernel_rfl) (by kernel_rfl) ?_   -- region 13
          refine sr 3 rfl ?_
          refine s_op rfl (o_ar rfl rfl rfl (by omega) (by omega) ?_)
          refine sr 1 rfl ?_
          refine s_op rfl (o_ar rfl rfl rfl (by omega) (by omega) ?_)
          refine sr 2 rfl ?_
          refine s_op rfl (oindex rfl rfl rfl rfl (by omega) (by omega) ?_)
          refine s_op rfl (oconv rfl rfl rfl rfl (by rw [IntKind.wrap_i64]; omega) ?_)
          refine s_op rfl (oidx rfl rfl rfl (by omega) (by omega) ?_)
          refine s_op rfl (ostF rfl rfl hfi rfl rfl (by omega) fun st5 hf5 e5 => ?_)
          have hn : 0 + (tkA l (t.size + 2) + 2 + (i : Int)).toNat = A + 2 + i := by omega
          rw [hn] at hf5
          refine s_end ?_
          refine c_region (by kernel_rfl) ?_   -- region 12
          refine sr 1 rfl ?_
          refine s_op rfl (o_ar rfl rfl rfl (by omega) (by omega) ?_)
          refine sra rfl ⟨i + 1, ⟨rfl, rfl, rfl, trivial⟩, ⟨rfl, rfl, trivial⟩, ⟨by omega, hf5⟩, by omega⟩
        · have h48 := of_decide_eq_false h48
          have hit : i = t.size := by omega
          refine c_exit ?_
          refine cdt [0, 1, 2, 3, 4, 5, 6] [.q, .q, .f, .n, .q, .q, .q] (by kernel_rfl) (by kernel_rfl) ?_   -- region 14
          refine sr 2 rfl ?_
          refine s_op rfl (o_pure loud_f rfl (iRefOf_c 4 (tkA l (t.size + 2)) _ (by omega) (by omega)) ?_)
          refine sra rfl ?_
          have e : tnL l t = wrB ((tkL l 1 (t.size + 2)).set (tkA l (t.size + 2) + 1).toNat t.size) A t i := by rw [tnL, hit, hA, Int.toNat_natCast]
          refine c_ret (fr rfl ⟨q, ?_, ?_⟩)
          · rw [t1, t2, t3, tnL_len, hl, hnew]
          · rw [t1, e]; exact hfi
noncomputable def tqL (l : List Int) (t : ByteArray) : List Int := cond (bd (Heap l)) (tpL l t) []
noncomputable def tqV (l : List Int) (t : ByteArray) : Int := cond (bd (Heap l)) (tpV l t) 0
noncomputable def tqO (l : List Int) (t : ByteArray) : Bool := cond (bd (Heap l)) (tpO l t) false
theorem tq_t {l : List Int} {t : ByteArray} (h : Heap l) : tqL l t = tpL l t ∧ tqV l t = tpV l t ∧ tqO l t = tpO l t := by
  unfold tqL tqV tqO; rw [bdt.2 h]; exact ⟨rfl, rfl, rfl⟩
theorem tq_f {l : List Int} {t : ByteArray} (h : ¬ Heap l) : tqL l t = [] ∧ tqV l t = 0 ∧ tqO l t = false := by
  unfold tqL tqV tqO; rw [bdf.2 h]; exact ⟨rfl, rfl, rfl⟩
theorem tqL_len (l : List Int) (t : ByteArray) : (tqL l t).length ≤ l.length := by
  by_cases h : Heap l
  · rw [(tq_t h).1, tpL_len]; exact Nat.le_refl _
  · rw [(tq_f h).1]; simp
theorem TextPut_c (r : Option Nat) (o : Nat) (l : List Int) (t : ByteArray) (st : St) (hx : At st r o l) (hl : l.length ≤ 1048576) : ACalls Try.prog 71 [.agg [.sl r o l.length], .str t] st No (Nw st (tqL l t) (tqV l t) (tqO l t)) := by
  refine ent (N := 25) Try.func71 rfl (by decide) rfl rfl rfl ?_
  refine crr (by kernel_rfl) rfl ?_   -- region 0
  refine c_seq ?_
  refine c_rs (by kernel_rfl) ?_   -- region 1
  refine sr 1 rfl ?_
  refine s_op rfl (o_ex loud_n rfl (HeapOk_c _ _ _ _ hx hl) ?_)
  rintro v1 st1 rfl e1
  refine sra rfl ?_
  refine c_if rfl (fun h10 => ?_) (fun h10 => ?_)
  · have h10 := nbt h10
    obtain ⟨t1, t2, t3⟩ := tq_f (t := t) h10
    refine crr (by kernel_rfl) rfl ?_   -- region 2
    refine c_ret (fr rfl ⟨none, ?_, ?_⟩)
    · rw [t1, t2, t3]; rfl
    · rw [t1]; exact fr_nil _ _
  · have h10 := nbf h10
    obtain ⟨t1, t2, t3⟩ := tq_t (t := t) h10
    refine c_skip ?_
    refine c_rs (by kernel_rfl) ?_   -- region 3
    refine sr 1 rfl ?_
    refine s_op rfl (o_ex loud_n rfl (l2Copy_c _ _ _ _ (hx.ex e1) hl) ?_)
    rintro v2 st2 ⟨q, rfl, hf⟩ e2
    have hf := hf.le e1.n
    refine sr 1 rfl ?_
    refine s_op rfl (o_call rfl (l4Put_c _ _ _ t _ hf h10) (fun i hi h => absurd hi (by have := hf.bd i h; omega)) (.inl rfl) ?_)
    rintro v3 st3 ⟨rfl, hf3, _⟩ e3
    refine sra rfl ?_
    refine crr (by kernel_rfl) rfl ?_   -- region 4
    refine c_ret (fr rfl ⟨q, ?_, ?_⟩)
    · rw [t1, t2, t3]
    · rw [t1]; exact hf3
theorem iTextPut_c (r : Option Nat) (o : Nat) (l : List Int) (t : ByteArray) (st : St) (hx : At st r o l) : ACalls Try.prog 70 [.agg [.sl r o l.length], .str t] st No (Nw st (tqL l t) (tqV l t) (tqO l t)) := by
  refine ent (N := 26) Try.func70 rfl (by decide) rfl rfl rfl ?_
  refine crr (by kernel_rfl) rfl ?_   -- region 0
  refine c_seq ?_
  refine c_rs (by kernel_rfl) ?_   -- region 1
  refine sr 1 rfl ?_
  refine s_op rfl (o_ex loud_n rfl (iHeapOk_c _ _ _ _ hx) ?_)
  rintro v1 st1 rfl e1
  refine sra rfl ?_
  refine c_if rfl (fun h10 => ?_) (fun h10 => ?_)
  · have h10 := nbt h10
    obtain ⟨t1, t2, t3⟩ := tq_f (t := t) h10
    refine crr (by kernel_rfl) rfl ?_   -- region 2
    refine c_ret (fr rfl ⟨none, ?_, ?_⟩)
    · rw [t1, t2, t3]; rfl
    · rw [t1]; exact fr_nil _ _
  · have h10 := nbf h10
    obtain ⟨t1, t2, t3⟩ := tq_t (t := t) h10
    refine c_skip ?_
    refine c_rs (by kernel_rfl) ?_   -- region 3
    refine sr 2 rfl ?_
    refine s_op rfl (o_ex loud_n rfl (textPut_c _ _ _ t _ (hx.ex e1) h10) ?_)
    rintro v3 st3 ⟨q, rfl, hf⟩ e3
    refine sra rfl ?_
    refine crr (by kernel_rfl) rfl ?_   -- region 4
    refine c_ret (fr rfl ⟨q, ?_, ?_⟩)
    · rw [t1, t2, t3]
    · rw [t1]; exact hf.le e1.n
end Go.Proofs.YtfhkjhnaihhdmaaW.Ax
