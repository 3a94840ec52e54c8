/- Merged: Za Zb Zc Zd Ze Zf. -/
import Derived.Test.YtfhkjhnaihhdmaaGreatQ4
import Derived.Test.YtfhkjhnaihhdmaaGreatQ3
import Derived.Test.YtfhkjhnaihhdmaaGreatXU
/- Look: walked. -/
namespace Go.Proofs.YtfhkjhnaihhdmaaGreatW.Ax
open Go Go.RowKit Go.Proofs Go.Proofs.YtfhkjhnaihhdmaaGreat.Pure
set_option linter.unusedVariables false
set_option maxRecDepth 100000

noncomputable def LookG (l : List Int) (obj name : Int) : AV := .tup [I (gV (OwOk l obj name) (lookV l obj name)), .bool (gO (OwOk l obj name) (lookC l obj name).isSome)]
theorem Look_c (r : Option Nat) (o : Nat) (l : List Int) (obj name : Int) (st : St) (hx : At st r o l) (hl : l.length ≤ 1048576) : ACalls Tryz.prog 57 [.agg [.sl r o l.length], I obj, I name] st No (Pv (LookG l obj name)) := by
  refine ent (N := 30) Tryz.func57 rfl (by decide) rfl rfl rfl ?_
  refine crr (by kernel_rfl) rfl ?_   -- region 0
  refine c_seq ?_
  refine c_sj (α := Bool) (fun b => [(1, I obj), (2, I name), (20, .bool b)]) (fun _ => [(3, 3, [.sl r o l.length])]) (fun b st' => Ex st st' ∧ (b = true ↔ ¬ OwOk l obj name)) ?_ ?_
  · -- region 1
    refine c_region (by kernel_rfl) ?_
    refine sr 1 rfl ?_
    refine s_op rfl (o_pure loud_n rfl (Kind_c ..) ?_)
    refine sr 2 rfl ?_
    refine s_bool 13 rfl rfl (fun h13 => ?_) (fun h13 => ?_)
    · have h13 := ndt h13
      refine sra rfl ⟨true, ⟨rfl, rfl, rfl, trivial⟩, ⟨rfl, rfl, trivial⟩, Ext.refl _ _, ⟨fun _ h => h13 h.1, fun _ => rfl⟩⟩
    · have h13 := ndf h13
      refine sr 3 rfl ?_
      refine s_op rfl (oints [obj, name] loud_n rfl (by decide) rfl rfl rfl fun q st1 hq e1 => ?_)
      refine s_op rfl (o_ex loud_n rfl (l5Is_c _ _ _ _ _ _ _ _ (hx.ex e1) hq.at_ hl (by simp) (by simp)) ?_)
      rintro v2 st2 rfl e2
      refine sra rfl ⟨_, ⟨rfl, rfl, rfl, trivial⟩, ⟨rfl, rfl, trivial⟩, e1.tr e2, ?_⟩
      exact ⟨fun h k => nbt h k.2, fun h => (by rw [bdf.2 fun k => h ⟨h13, k⟩]; rfl)⟩
  rintro b st1 ⟨e1, hb⟩
  refine c_if rfl (fun h20 => ?_) (fun h20 => ?_)
  · have h20 := hb.1 h20
    refine crr (by kernel_rfl) rfl ?_   -- region 2
    refine c_ret (fr rfl ?_)
    show _ = LookG l obj name
    rw [LookG, gV_f h20, gO_f h20]
  · have h20 : OwOk l obj name := Classical.byContradiction fun h => by rw [hb.2 h] at h20; cases h20
    refine c_skip ?_
    refine c_rs (by kernel_rfl) ?_   -- region 3
    refine sr 3 rfl ?_
    refine s_op rfl (o_ex loud_n rfl (l5Look_c _ _ _ obj name _ (hx.ex e1) (ow_in h20)) ?_)
    rintro v3 st3 rfl e3
    refine sra rfl ?_
    refine crr (by kernel_rfl) rfl ?_   -- region 4
    refine c_ret (fr rfl ?_)
    show _ = LookG l obj name
    rw [LookG, gV_t h20, gO_t h20]
theorem iLook_c (r : Option Nat) (o : Nat) (l : List Int) (obj name : Int) (st : St) (hx : At st r o l) (hl : l.length ≤ 1048576) : ACalls Tryz.prog 52 [.agg [.sl r o l.length], I obj, I name] st No (Pv (LookG l obj name)) := by
  have hR := ow_iff l obj name
  refine ent (N := 23) Tryz.func52 rfl (by decide) rfl rfl rfl ?_
  refine crr (by kernel_rfl) rfl ?_   -- region 0
  refine c_seq ?_
  refine c_rs (by kernel_rfl) ?_   -- region 1
  refine sr 3 rfl ?_
  refine s_op rfl (oints [obj, name] loud_n rfl (by decide) rfl rfl rfl fun q st1 hq e1 => ?_)
  refine s_op rfl (oints [5] loud_n rfl (by decide) rfl rfl rfl fun q1 st2 hq1 e2 => ?_)
  refine s_op rfl (oints [4] loud_n rfl (by decide) rfl rfl rfl fun q2 st3 hq2 e3 => ?_)
  refine s_op rfl (oblk [.sl (some q1) 0 1, .sl (some q2) 0 1] loud_n rfl (by decide) rfl rfl fun q3 st4 hq3 e4 => ?_)
  have e24 := (e2.tr e3).tr e4
  refine s_op rfl (o_ex loud_n rfl (ready2_c _ _ _ _ _ _ l [5] [4] obj name _ (hx.ex (e1.tr e24)) (hq.at_.ex e24) hl (hq3 0) (hq1.at_.ex (e3.tr e4)) (by decide) (hq3 1) (hq2.at_.ex e4) (by decide)) ?_)
  rintro v5 st5 rfl e5
  have e15 := (e1.tr e24).tr e5
  refine sra rfl ?_
  refine c_if rfl (fun h16 => ?_) (fun h16 => ?_)
  · have h16 : ¬ OwOk l obj name := fun h => nbt h16 (hR.2 h)
    refine crr (by kernel_rfl) rfl ?_   -- region 2
    refine c_ret (fr rfl ?_)
    show _ = LookG l obj name
    rw [LookG, gV_f h16, gO_f h16]
  · have h16 : OwOk l obj name := hR.1 (nbf h16)
    refine c_skip ?_
    refine c_rs (by kernel_rfl) ?_   -- region 3
    refine sr 3 rfl ?_
    refine s_op rfl (o_ex loud_n rfl (look_c _ _ _ obj name _ (hx.ex e15) (ow_in h16)) ?_)
    rintro v3 st3 rfl e3
    refine sra rfl ?_
    refine c_ret (fr rfl ?_)
    show _ = LookG l obj name
    rw [LookG, gV_t h16, gO_t h16]
end Go.Proofs.YtfhkjhnaihhdmaaGreatW.Ax

/- TextPut: walked. -/
namespace Go.Proofs.YtfhkjhnaihhdmaaGreatW.Ax
open Go Go.RowKit Go.Proofs Go.Proofs.YtfhkjhnaihhdmaaGreat.Pure
set_option linter.unusedVariables false
set_option maxRecDepth 100000

theorem bt_le (s : ByteArray) (q : Int) : 0 ≤ bt s q ∧ bt s q ≤ 255 := by
  unfold bt
  have := UInt8.toNat_lt (s.data.toList.getD q.toNat 0)
  omega
/-- A text's bytes, written into a block. -/
def wrB (l : List Int) (a : Nat) (t : ByteArray) : Nat → List Int
  | 0 => l
  | k + 1 => (wrB l a t k).set (a + 2 + k) (bt t k)
theorem wrB_len (l : List Int) (a : Nat) (t : ByteArray) : ∀ k, (wrB l a t k).length = l.length
  | 0 => rfl
  | k + 1 => by rw [wrB, List.length_set, wrB_len l a t k]
/-- What a text's block is, where it is new. -/
def tnL (l : List Int) (t : ByteArray) : List Int := wrB ((tkL l 1 (t.size + 2)).set (tkA l (t.size + 2) + 1).toNat t.size) (tkA l (t.size + 2)).toNat t t.size
theorem tnL_len (l : List Int) (t : ByteArray) : (tnL l t).length = l.length := by rw [tnL, wrB_len, List.length_set, tkL_len]
def tnO (l : List Int) (t : ByteArray) : Bool := !(tfind l t (blocks l)).isSome && (decide (t.size ≤ 30) && tkO l (t.size + 2))
def tpL (l : List Int) (t : ByteArray) : List Int := cond (tnO l t) (tnL l t) l
def tpV (l : List Int) (t : ByteArray) : Int := cond (tnO l t) (8 * tkA l (t.size + 2) + 4) (tfV (tfind l t (blocks l)))
def tpO (l : List Int) (t : ByteArray) : Bool := cond (tnO l t) true (tfind l t (blocks l)).isSome
theorem tpL_len (l : List Int) (t : ByteArray) : (tpL l t).length = l.length := by
  unfold tpL
  cases tnO l t
  · rfl
  · exact tnL_len l t
theorem tn_found {l : List Int} {t : ByteArray} (h : (tfind l t (blocks l)).isSome = true) : tnO l t = false := by simp [tnO, h]
theorem tn_big {l : List Int} {t : ByteArray} (h : ¬ t.size ≤ 30) : tnO l t = false := by simp [tnO, h]
theorem tn_full {l : List Int} {t : ByteArray} (h : tkO l (t.size + 2) = false) : tnO l t = false := by simp [tnO, h]
theorem tn_new {l : List Int} {t : ByteArray} (h1 : (tfind l t (blocks l)).isSome = false) (h2 : t.size ≤ 30) (h3 : tkO l (t.size + 2) = true) : tnO l t = true := by
  unfold tnO
  rw [h1, h3, decide_eq_true h2]; rfl
theorem tp_old {l : List Int} {t : ByteArray} (h : tnO l t = false) : tpL l t = l ∧ tpV l t = tfV (tfind l t (blocks l)) ∧ tpO l t = (tfind l t (blocks l)).isSome := by
  unfold tpL tpV tpO
  rw [h]; exact ⟨rfl, rfl, rfl⟩
theorem tp_new {l : List Int} {t : ByteArray} (h : tnO l t = true) : tpL l t = tnL l t ∧ tpV l t = 8 * tkA l (t.size + 2) + 4 ∧ tpO l t = true := by
  unfold tpL tpV tpO
  rw [h]; exact ⟨rfl, rfl, rfl⟩
theorem tf_no {l : List Int} {t : ByteArray} (h : (tfind l t (blocks l)).isSome = false) : tfV (tfind l t (blocks l)) = 0 := by
  cases e : tfind l t (blocks l) with
  | none => rfl
  | some b => rw [e] at h; cases h

theorem l4Put_c (n0 : Nat) (r : Option Nat) (l : List Int) (t : ByteArray) (st : St) (hf : Fr n0 st r l) (hp : Heap l) : ACalls Tryz.prog 213 [.agg [.sl r 0 l.length], .str t] st (fun i => r = some i) (Tv n0 st r (tpL l t) (tpV l t) (tpO l t)) := by
  have hlen := okB_len hp.1
  refine ent (N := 65) Tryz.func213 rfl (by decide) rfl rfl rfl ?_
  refine crr (by kernel_rfl) rfl ?_   -- region 0
  refine c_rs (by kernel_rfl) ?_   -- region 1
  refine sr 2 rfl ?_
  refine s_op rfl (o_ex loud_n rfl (l4Find_c _ _ _ t _ hf.at_ hp) ?_)
  rintro v1 st1 rfl e1
  have hf1 := hf.ex e1
  have he1 : Ext (fun i => r = some i) st st1 := ⟨e1.n, fun i hi _ => e1.ob i hi id⟩
  refine sra rfl ?_
  refine c_seq ?_
  refine crr (by kernel_rfl) rfl ?_   -- region 2
  refine c_if rfl (fun h19 => ?_) (fun h19 => ?_)
  · obtain ⟨t1, t2, t3⟩ := tp_old (tn_found h19)
    refine crr (by kernel_rfl) rfl ?_   -- region 3
    refine c_ret (fr rfl ⟨?_, ?_, he1⟩)
    · rw [t1, t2, t3, h19]
    · rw [t1]; exact hf1
  · have h19 : (tfind l t (blocks l)).isSome = false := h19
    refine c_skip ?_
    refine c_seq ?_
    refine crr (by kernel_rfl) rfl ?_   -- region 4
    refine c_if rfl (fun h24 => ?_) (fun h24 => ?_)
    · have h24 := of_decide_eq_true h24
      obtain ⟨t1, t2, t3⟩ := tp_old (tn_big (l := l) (t := t) (by omega))
      refine crr (by kernel_rfl) rfl ?_   -- region 5
      refine c_ret (fr rfl ⟨?_, ?_, he1⟩)
      · rw [t1, t2, t3, h19, tf_no h19]
      · rw [t1]; exact hf1
    · have h24 := of_decide_eq_false h24
      refine c_skip ?_
      refine c_rs (by kernel_rfl) ?_   -- region 6
      refine sr 3 rfl ?_
      refine s_op rfl (o_ar rfl rfl rfl (by omega) (by omega) ?_)
      refine s_op rfl (o_call rfl (l2Take_c n0 r l 1 (t.size + 2) _ hf1 hp.1 (by omega) (by omega) (by omega)) (fun _ _ h => h) (.inl rfl) ?_)
      rintro v2 st2 ⟨rfl, hf2, he2⟩ _
      have he2' := he1.trans he2 (fun _ _ h => h)
      refine sra rfl ?_
      refine c_seq ?_
      refine crr (by kernel_rfl) rfl ?_   -- region 7
      refine c_if rfl (fun h36 => ?_) (fun h36 => ?_)
      · have h36 : tkO l (t.size + 2) = false := by simpa using h36
        obtain ⟨t1, t2, t3⟩ := tp_old (tn_full h36)
        refine crr (by kernel_rfl) rfl ?_   -- region 8
        refine c_ret (fr rfl ⟨?_, ?_, he2'⟩)
        · rw [t1, t2, t3, h19, tf_no h19]
        · rw [t1]; rw [(tk_no 1 h36).2] at hf2; exact hf2
      · have h36 : tkO l (t.size + 2) = true := by simpa using h36
        obtain ⟨t1, t2, t3⟩ := tp_new (tn_new h19 (by omega) h36)
        have ht := tk_at h36
        have hl := tkL_len l 1 (t.size + 2)
        have hl0 : tkL l 1 (t.size + 2) ≠ [] := fun h => by rw [h] at hl; simp at hl; omega
        obtain ⟨q, rfl⟩ := hf2.some_of hl0
        have hb := block_at ht.2.2.1
        obtain ⟨A, hA⟩ : ∃ A : Nat, tkA l (t.size + 2) = A := ⟨(tkA l (t.size + 2)).toNat, by omega⟩
        refine c_skip ?_
        refine c_rs (by kernel_rfl) ?_   -- region 9
        refine sr 3 rfl ?_
        refine s_op rfl (o_ar rfl rfl rfl (by omega) (by omega) ?_)
        refine sr 2 rfl ?_
        refine s_op rfl (oidx rfl rfl rfl (by omega) (by omega) ?_)
        refine s_op rfl (ostI rfl rfl hf2.ob.2 (fun _ => rfl) rfl rfl (by omega) ?_)
        have hf3 := hf2.set (l' := (tkL l 1 (t.size + 2)).set (0 + (tkA l (t.size + 2) + 1).toNat) t.size)
        have he3 : Ext (fun i => some q = some i) st (st2.set q (.row true (((tkL l 1 (t.size + 2)).set (0 + (tkA l (t.size + 2) + 1).toNat) t.size).map I))) := by
          have := ext_set st2 q (.row true (((tkL l 1 (t.size + 2)).set (0 + (tkA l (t.size + 2) + 1).toNat) t.size).map I))
          exact he2'.trans (T' := (· = q)) this (fun _ _ h => by rw [h])
        refine s_end ?_
        refine c_seq ?_
        refine crr (by kernel_rfl) rfl ?_   -- region 10
        refine c_block ?_
        refine c_lp (α := Nat) (fun i => [(1, .str t), (10, I (tkA l (t.size + 2))), (12, I i)]) (fun _ => [(4, 4, [.sl none 0 0]), (9, 9, [.sl (some q) 0 (tkL l 1 (t.size + 2)).length])])
          (fun i st' => i ≤ t.size ∧ Fr n0 st' (some q) (wrB ((tkL l 1 (t.size + 2)).set (tkA l (t.size + 2) + 1).toNat t.size) A t i) ∧ Ext (fun i => some q = some i) st st') (fun i => t.size - i) 0 ⟨rfl, rfl, rfl, trivial⟩ ⟨rfl, rfl, rfl, rfl, trivial⟩ ⟨by omega, by rw [Nat.zero_add] at hf3 ⊢; exact hf3, by exact he3⟩ ?_
        rintro i st3 ⟨hi, hfi, hei⟩
        have hwl := wrB_len ((tkL l 1 (t.size + 2)).set (tkA l (t.size + 2) + 1).toNat t.size) A t i
        rw [List.length_set] at hwl
        refine c_seq ?_
        refine crr (by kernel_rfl) rfl ?_   -- region 11
        refine c_if rfl (fun h48 => ?_) (fun h48 => ?_)
        · have h48 := of_decide_eq_true h48
          have hbt := bt_le t i
          refine c_skip ?_
          refine c_seq ?_
          refine c_block ?_
          refine cd1 [0, 1, 2, 3, 4, 5, 6, 7, 8, 9, 10, 11] [.q, .q, .q, .q, .q, .q, .q, .q, .q, .q, .q, .n] (by kernel_rfl) (by kernel_rfl) ?_   -- region 13
          refine sr 3 rfl ?_
          refine s_op rfl (o_ar rfl rfl rfl (by omega) (by omega) ?_)
          refine sr 1 rfl ?_
          refine s_op rfl (o_ar rfl rfl rfl (by omega) (by omega) ?_)
          refine sr 2 rfl ?_
          refine s_op rfl (oindex rfl rfl rfl rfl (by omega) (by omega) ?_)
          refine s_op rfl (oconv rfl rfl rfl rfl (by rw [IntKind.wrap_i64]; omega) ?_)
          refine s_op rfl (oidx rfl rfl rfl (by omega) (by omega) ?_)
          refine s_op rfl (ostI rfl rfl hfi.ob.2 (fun _ => rfl) rfl rfl (by omega) ?_)
          have hn : 0 + (tkA l (t.size + 2) + 2 + (i : Int)).toNat = A + 2 + i := by omega
          rw [hn]
          refine s_end ?_
          refine c_region (by kernel_rfl) ?_   -- region 12
          refine sr 1 rfl ?_
          refine s_op rfl (o_ar rfl rfl rfl (by omega) (by omega) ?_)
          refine sra rfl ⟨i + 1, ⟨rfl, rfl, rfl, trivial⟩, ⟨rfl, rfl, rfl, rfl, trivial⟩, ⟨by omega, hfi.set, ?_⟩, by omega⟩
          have := ext_set st3 q (.row true (((wrB ((tkL l 1 (t.size + 2)).set (tkA l (t.size + 2) + 1).toNat t.size) A t i).set (A + 2 + i) (bt t i)).map I))
          exact hei.trans (T' := (· = q)) this (fun _ _ h => by rw [h])
        · have h48 := of_decide_eq_false h48
          have hit : i = t.size := by omega
          refine c_exit ?_
          refine cdt [0, 1, 2, 3, 4, 5] [.q, .q, .f, .n, .q, .q] (by kernel_rfl) (by kernel_rfl) ?_   -- region 14
          refine sr 2 rfl ?_
          refine s_op rfl (o_pure loud_f rfl (RefOf_c 4 (tkA l (t.size + 2)) _ (by omega) (by omega)) ?_)
          refine sra rfl ?_
          have e : tnL l t = wrB ((tkL l 1 (t.size + 2)).set (tkA l (t.size + 2) + 1).toNat t.size) A t i := by rw [tnL, hit, hA, Int.toNat_natCast]
          refine c_ret (fr rfl ⟨?_, ?_, hei⟩)
          · rw [t1, t2, t3, tnL_len, hl]
          · rw [t1, e]; exact hfi
/-- A text that is put, and whether a block was taken. -/
def Tp (st : St) (l : List Int) (t : ByteArray) : AV → St → Prop := fun v st' => ∃ q, v = .tup [.agg [.sl q 0 (tpL l t).length], I (tpV l t), .bool (tnO l t), .bool (tpO l t)] ∧ Fr st.n st' q (tpL l t)
noncomputable def tqL (l : List Int) (t : ByteArray) : List Int := cond (bd (Heap l)) (tpL l t) []
noncomputable def tqV (l : List Int) (t : ByteArray) : Int := cond (bd (Heap l)) (tpV l t) 0
noncomputable def tqO (l : List Int) (t : ByteArray) : Bool := cond (bd (Heap l)) (tpO l t) false
theorem tq_t {l : List Int} {t : ByteArray} (h : Heap l) : tqL l t = tpL l t ∧ tqV l t = tpV l t ∧ tqO l t = tpO l t := by
  unfold tqL tqV tqO; rw [bdt.2 h]; exact ⟨rfl, rfl, rfl⟩
theorem tq_f {l : List Int} {t : ByteArray} (h : ¬ Heap l) : tqL l t = [] ∧ tqV l t = 0 ∧ tqO l t = false := by
  unfold tqL tqV tqO; rw [bdf.2 h]; exact ⟨rfl, rfl, rfl⟩
theorem tqL_len (l : List Int) (t : ByteArray) : (tqL l t).length ≤ l.length := by
  by_cases h : Heap l
  · rw [(tq_t h).1, tpL_len]; exact Nat.le_refl _
  · rw [(tq_f h).1]; simp
theorem TextPut_c (r : Option Nat) (o : Nat) (l : List Int) (t : ByteArray) (st : St) (hx : At st r o l) (hl : l.length ≤ 1048576) : ACalls Tryz.prog 202 [.agg [.sl r o l.length], .str t] st No (Nw st (tqL l t) (tqV l t) (tqO l t)) := by
  refine ent (N := 25) Tryz.func202 rfl (by decide) rfl rfl rfl ?_
  refine crr (by kernel_rfl) rfl ?_   -- region 0
  refine c_seq ?_
  refine c_rs (by kernel_rfl) ?_   -- region 1
  refine sr 1 rfl ?_
  refine s_op rfl (o_ex loud_n rfl (HeapOk_c _ _ _ _ hx hl) ?_)
  rintro v1 st1 rfl e1
  refine sra rfl ?_
  refine c_if rfl (fun h10 => ?_) (fun h10 => ?_)
  · have h10 := nbt h10
    obtain ⟨t1, t2, t3⟩ := tq_f (t := t) h10
    refine crr (by kernel_rfl) rfl ?_   -- region 2
    refine c_ret (fr rfl ⟨none, ?_, ?_⟩)
    · rw [t1, t2, t3]; rfl
    · rw [t1]; exact fr_nil _ _
  · have h10 := nbf h10
    obtain ⟨t1, t2, t3⟩ := tq_t (t := t) h10
    refine c_skip ?_
    refine c_rs (by kernel_rfl) ?_   -- region 3
    refine sr 1 rfl ?_
    refine s_op rfl (o_ex loud_n rfl (l2Copy_c _ _ _ _ (hx.ex e1) hl) ?_)
    rintro v2 st2 ⟨q, rfl, hf⟩ e2
    have hf := hf.le e1.n
    refine sr 1 rfl ?_
    refine s_op rfl (o_call rfl (l4Put_c _ _ _ t _ hf h10) (fun i hi h => absurd hi (by have := hf.bd i h; omega)) (.inl rfl) ?_)
    rintro v3 st3 ⟨rfl, hf3, _⟩ e3
    refine sra rfl ?_
    refine crr (by kernel_rfl) rfl ?_   -- region 4
    refine c_ret (fr rfl ⟨q, ?_, ?_⟩)
    · rw [t1, t2, t3]
    · rw [t1]; exact hf3
end Go.Proofs.YtfhkjhnaihhdmaaGreatW.Ax

/- FunNew: walked. -/
namespace Go.Proofs.YtfhkjhnaihhdmaaGreatW.Ax
open Go Go.RowKit Go.Proofs Go.Proofs.YtfhkjhnaihhdmaaGreat.Pure
set_option linter.unusedVariables false
set_option maxRecDepth 100000

/-- A function's block. -/
def fnL (l : List Int) (c s : Int) : List Int := cond (tkO l 3) (((tkL l 4 3).set (tkA l 3 + 1).toNat c).set (tkA l 3 + 2).toNat s) l
theorem fnL_len (l : List Int) (c s : Int) : (fnL l c s).length = l.length := by
  unfold fnL
  cases tkO l 3
  · rfl
  · show (((tkL l 4 3).set _ c).set _ s).length = _
    rw [List.length_set, List.length_set, tkL_len]
theorem l6Fun_c (n0 : Nat) (r : Option Nat) (l : List Int) (c s : Int) (st : St) (hf : Fr n0 st r l) (hok : okB l = true) : ACalls Tryz.prog 120 [.agg [.sl r 0 l.length], I c, I s] st (fun i => r = some i) (Tv n0 st r (fnL l c s) (nwV l 3 6) (tkO l 3)) := by
  have hlen := okB_len hok
  refine ent (N := 36) Tryz.func120 rfl (by decide) rfl rfl rfl ?_
  refine crr (by kernel_rfl) rfl ?_   -- region 0
  refine c_rs (by kernel_rfl) ?_   -- region 1
  refine sr 1 rfl ?_
  refine s_op rfl (o_call rfl (l2Take_c n0 r l 4 3 _ hf hok (by omega) (by omega) (by omega)) (fun _ _ h => h) (.inl rfl) ?_)
  rintro v1 st1 ⟨rfl, hf1, he1⟩ _
  refine sra rfl ?_
  refine c_seq ?_
  refine crr (by kernel_rfl) rfl ?_   -- region 2
  refine c_if rfl (fun hc => ?_) (fun hc => ?_)
  · have hc : tkO l 3 = false := by simpa using hc
    have ht := tk_no 4 hc
    refine crr (by kernel_rfl) rfl ?_   -- region 3
    refine c_ret (fr rfl ?_)
    rw [ht.2] at hf1
    have e1 : fnL l c s = l := by unfold fnL; rw [hc]; rfl
    have e2 : nwV l 3 6 = 0 := by unfold nwV; rw [hc]; rfl
    rw [e1, e2, hc]
    exact ⟨rfl, hf1, he1⟩
  · have hc : tkO l 3 = true := by simpa using hc
    have ht := tk_at hc
    have hl := tkL_len l 4 3
    have hl0 : tkL l 4 3 ≠ [] := fun h => by rw [h] at hl; simp at hl; omega
    obtain ⟨q, rfl⟩ := hf1.some_of hl0
    have hb := block_at ht.2.2.1
    refine c_skip ?_
    refine c_rs (by kernel_rfl) ?_   -- region 4
    refine sr 3 rfl ?_
    refine s_op rfl (o_ar rfl rfl rfl (by omega) (by omega) ?_)
    refine sr 1 rfl ?_
    refine s_op rfl (oidx rfl rfl rfl (by omega) (by omega) ?_)
    refine s_op rfl (ostI rfl rfl hf1.ob.2 (fun _ => rfl) rfl rfl (by omega) ?_)
    refine s_end ?_
    have hf2 := hf1.set (l' := (tkL l 4 3).set (0 + (tkA l 3 + 1).toNat) c)
    have he2 : Ext (fun i => some q = some i) st (st1.set q (.row true (((tkL l 4 3).set (0 + (tkA l 3 + 1).toNat) c).map I))) := he1.trans (T' := (· = q)) (ext_set ..) (fun _ _ h => by rw [h])
    generalize st1.set q (.row true (((tkL l 4 3).set (0 + (tkA l 3 + 1).toNat) c).map I)) = st2 at hf2 he2 ⊢
    have hl2 : ((tkL l 4 3).set (0 + (tkA l 3 + 1).toNat) c).length = l.length := by rw [List.length_set, hl]
    refine c_rs (by kernel_rfl) ?_   -- region 5
    refine sr 3 rfl ?_
    refine s_op rfl (o_ar rfl rfl rfl (by omega) (by omega) ?_)
    refine sr 1 rfl ?_
    refine s_op rfl (oidx rfl rfl rfl (by omega) (by omega) ?_)
    refine s_op rfl (ostI rfl rfl hf2.ob.2 (fun _ => rfl) rfl rfl (by omega) ?_)
    refine s_end ?_
    refine cdt [0, 1, 2, 3, 4, 5] [.q, .q, .f, .n, .q, .q] (by kernel_rfl) (by kernel_rfl) ?_   -- region 6
    refine sr 2 rfl ?_
    refine s_op rfl (o_pure loud_f rfl (RefOf_c 6 (tkA l 3) _ (by omega) (by omega)) ?_)
    refine sra rfl ?_
    have e1 : fnL l c s = ((tkL l 4 3).set (0 + (tkA l 3 + 1).toNat) c).set (0 + (tkA l 3 + 2).toNat) s := by unfold fnL; rw [hc, Nat.zero_add, Nat.zero_add]; rfl
    have e2 : nwV l 3 6 = 8 * tkA l 3 + 6 := by unfold nwV; rw [hc]; rfl
    refine c_ret (fr rfl ⟨?_, ?_, ?_⟩)
    · rw [fnL_len, e2, hc, hl]
    · rw [e1]; exact hf2.set
    · exact he2.trans (T' := (· = q)) (ext_set ..) (fun _ _ h => by rw [h])
theorem funNew_c (r : Option Nat) (o : Nat) (l : List Int) (c s : Int) (st : St) (hx : At st r o l) (hok : okB l = true) : ACalls Tryz.prog 119 [.agg [.sl r o l.length], I c, I s] st No (Nw st (fnL l c s) (nwV l 3 6) (tkO l 3)) := by
  have hlen := okB_len hok
  refine ent (N := 36) Tryz.func119 rfl (by decide) rfl rfl rfl ?_
  refine crr (by kernel_rfl) rfl ?_   -- region 0
  refine c_rs (by kernel_rfl) ?_   -- region 1
  refine sr 1 rfl ?_
  refine s_op rfl (o_ex loud_n rfl (iTake_c r o l 4 3 _ hx hok (by omega) (by omega) (by omega)) ?_)
  rintro v1 st1 ⟨q, rfl, hf1⟩ e1
  refine sra rfl ?_
  refine c_seq ?_
  refine crr (by kernel_rfl) rfl ?_   -- region 2
  refine c_if rfl (fun hc => ?_) (fun hc => ?_)
  · have hc : tkO l 3 = false := by simpa using hc
    have ht := tk_no 4 hc
    refine crr (by kernel_rfl) rfl ?_   -- region 3
    refine c_ret (fr rfl ?_)
    have e1 : fnL l c s = tkL l 4 3 := by unfold fnL; rw [hc, ht.2]; rfl
    have e2 : nwV l 3 6 = 0 := by unfold nwV; rw [hc]; rfl
    rw [e1, e2, hc]
    exact ⟨q, rfl, hf1⟩
  · have hc : tkO l 3 = true := by simpa using hc
    have ht := tk_at hc
    have hl := tkL_len l 4 3
    have hl0 : tkL l 4 3 ≠ [] := fun h => by rw [h] at hl; simp at hl; omega
    obtain ⟨q, rfl⟩ := hf1.some_of hl0
    have hb := block_at ht.2.2.1
    refine c_skip ?_
    refine cd3 [9] [0, 1, 2, 3, 4, 5, 6, 7, 8, 9, 10] 11 [12, 13] [.q, .n] (by kernel_rfl) (by kernel_rfl) ?_   -- region 4
    refine prun 3 rfl ?_
    refine p_op rfl (x_add rfl rfl (by omega) (by omega)) ?_
    refine prun 3 rfl ?_
    refine p_op rfl (x_add rfl rfl (by omega) (by omega)) ?_
    refine prun 2 rfl ?_
    refine p_op rfl (xidx rfl rfl rfl (by omega) (by omega)) ?_
    refine p_end ⟨⟨_, rfl, _, _, _, _, _, _, _, _, _, _, _, _, rfl, rfl, rfl, hf1.ob.2.1, hf1.ob.2.2, rfl, rfl, rfl, by simp; omega⟩, ?_⟩
    refine s_op rfl (ostF rfl rfl hf1 rfl rfl (by omega) fun st2 hf2 e2 => ?_)
    have hl2 : ((tkL l 4 3).set (0 + (tkA l 3 + 1).toNat) c).length = l.length := by rw [List.length_set, hl]
    refine s_op rfl (oidx rfl rfl rfl (by omega) (by omega) ?_)
    refine s_op rfl (ostF rfl rfl hf2 rfl rfl (by omega) fun st3 hf3 e3 => ?_)
    refine s_end ?_
    refine cdt [0, 1, 2, 3, 4, 5] [.q, .q, .f, .n, .q, .q] (by kernel_rfl) (by kernel_rfl) ?_   -- region 5
    refine sr 2 rfl ?_
    refine s_op rfl (o_pure loud_f rfl (iRefOf_c 6 (tkA l 3) _ (by omega) (by omega)) ?_)
    refine sra rfl ?_
    have e1 : fnL l c s = ((tkL l 4 3).set (0 + (tkA l 3 + 1).toNat) c).set (0 + (tkA l 3 + 2).toNat) s := by unfold fnL; rw [hc, Nat.zero_add, Nat.zero_add]; rfl
    have e2 : nwV l 3 6 = 8 * tkA l 3 + 6 := by unfold nwV; rw [hc]; rfl
    refine c_ret (fr rfl ⟨some q, ?_, ?_⟩)
    · rw [fnL_len, e2, hc, hl]
    · rw [e1]; exact hf3
end Go.Proofs.YtfhkjhnaihhdmaaGreatW.Ax

/- FunNew: walked. -/
namespace Go.Proofs.YtfhkjhnaihhdmaaGreatW.Ax
open Go Go.RowKit Go.Proofs Go.Proofs.YtfhkjhnaihhdmaaGreat.Pure
set_option linter.unusedVariables false
set_option maxRecDepth 100000

def FnOk (l : List Int) (c s : Int) : Prop := (0 ≤ c ∧ c ≤ 99) ∧ Isk l [s] 7
noncomputable def fwL (l : List Int) (c s : Int) : List Int := gL (FnOk l c s) (fnL l c s) l
noncomputable def fwV (l : List Int) (c s : Int) : Int := gV (FnOk l c s) (nwV l 3 6)
noncomputable def fwO (l : List Int) (c s : Int) : Bool := gO (FnOk l c s) (tkO l 3)
theorem fwL_len (l : List Int) (c s : Int) : (fwL l c s).length ≤ l.length := gL_len (by rw [fnL_len]; exact Nat.le_refl _)
theorem FunNew_c (r : Option Nat) (o : Nat) (l : List Int) (c s : Int) (st : St) (hx : At st r o l) (hl : l.length ≤ 1048576) : ACalls Tryz.prog 40 [.agg [.sl r o l.length], I c, I s] st No (Nw st (fwL l c s) (fwV l c s) (fwO l c s)) := by
  refine ent (N := 36) Tryz.func40 rfl (by decide) rfl rfl rfl ?_
  refine crr (by kernel_rfl) rfl ?_   -- region 0
  refine c_seq ?_
  refine c_sj (α := Bool) (fun b => [(1, I c), (2, I s), (21, .bool b)]) (fun _ => [(3, 3, [.sl r o l.length]), (6, 6, [.sl none 0 0])]) (fun b st' => Ex st st' ∧ (b = true ↔ ¬ FnOk l c s)) ?_ ?_
  · -- region 1
    refine c_region (by kernel_rfl) ?_
    refine sr 1 rfl ?_
    refine s_op rfl (o_pure loud_n rfl (l1In_c ..) ?_)
    refine sr 2 rfl ?_
    refine s_bool 15 rfl rfl (fun h15 => ?_) (fun h15 => ?_)
    · have h15 := ndt h15
      refine sra rfl ⟨true, ⟨rfl, rfl, rfl, trivial⟩, ⟨rfl, rfl, rfl, rfl, trivial⟩, Ext.refl _ _, ⟨fun _ h => h15 h.1, fun _ => rfl⟩⟩
    · have h15 := ndf h15
      refine sr 2 rfl ?_
      refine s_op rfl (oints [s] loud_n rfl (by decide) rfl rfl rfl fun q st1 hq e1 => ?_)
      refine s_op rfl (o_ex loud_n rfl (l5Is_c _ _ _ _ _ _ _ _ (hx.ex e1) hq.at_ hl (by simp) (by simp)) ?_)
      rintro v2 st2 rfl e2
      refine sra rfl ⟨_, ⟨rfl, rfl, rfl, trivial⟩, ⟨rfl, rfl, rfl, rfl, trivial⟩, e1.tr e2, ?_⟩
      exact ⟨fun h k => nbt h k.2, fun h => (by rw [bdf.2 fun k => h ⟨h15, k⟩]; rfl)⟩
  rintro b st1 ⟨e1, hb⟩
  refine c_if rfl (fun h19 => ?_) (fun h19 => ?_)
  · have h19 := hb.1 h19
    refine c_rs (by kernel_rfl) ?_   -- region 2
    refine sr 1 rfl ?_
    refine s_op rfl (o_ex loud_n rfl (l5Zero_c _ _ _ _ (hx.ex e1) hl) ?_)
    rintro v2 st2 ⟨q, rfl, hf⟩ e2
    refine sra rfl ?_
    refine c_ret (fr rfl ⟨q, ?_, ?_⟩)
    · rw [fwL, fwV, fwO, gL_f h19, gV_f h19, gO_f h19]
    · rw [fwL, gL_f h19]; exact hf.le e1.n
  · have h19 : FnOk l c s := Classical.byContradiction fun h => by rw [hb.2 h] at h19; cases h19
    refine c_skip ?_
    refine c_rs (by kernel_rfl) ?_   -- region 3
    refine sr 1 rfl ?_
    refine s_op rfl (o_ex loud_n rfl (l2Copy_c _ _ _ _ (hx.ex e1) hl) ?_)
    rintro v2 st2 ⟨q, rfl, hf⟩ e2
    have hf := hf.le e1.n
    refine sr 2 rfl ?_
    refine s_op rfl (o_call rfl (l6Fun_c _ _ _ c s _ hf h19.2.2.1.1) (fun i hi h => absurd hi (by have := hf.bd i h; omega)) (.inl rfl) ?_)
    rintro v3 st3 ⟨rfl, hf3, _⟩ e3
    refine sra rfl ?_
    refine crr (by kernel_rfl) rfl ?_   -- region 4
    refine c_ret (fr rfl ⟨q, ?_, ?_⟩)
    · rw [fwL, fwV, fwO, gL_t h19, gV_t h19, gO_t h19]
    · rw [fwL, gL_t h19]; exact hf3
theorem iFunNew_c (r : Option Nat) (o : Nat) (l : List Int) (c s : Int) (st : St) (hx : At st r o l) (hl : l.length ≤ 1048576) : ACalls Tryz.prog 39 [.agg [.sl r o l.length], I c, I s] st No (Nw st (fwL l c s) (fwV l c s) (fwO l c s)) := by
  have hR : (Rts l [s] ∧ s % 8 ∈ ([7] : List Int)) ↔ Isk l [s] 7 := by
    unfold Isk
    have e : rd [s] 0 = s := rfl
    rw [e]
    exact ⟨fun h => ⟨by simpa using h.2, h.1⟩, fun h => ⟨h.2, by simpa using h.1⟩⟩
  refine ent (N := 30) Tryz.func39 rfl (by decide) rfl rfl rfl ?_
  refine crr (by kernel_rfl) rfl ?_   -- region 0
  refine c_seq ?_
  refine c_sj (α := Bool) (fun b => [(1, I c), (2, I s), (20, .bool b)]) (fun _ => [(3, 3, [.sl r o l.length]), (6, 6, [.sl none 0 0])]) (fun b st' => Ex st st' ∧ (b = true ↔ ¬ FnOk l c s)) ?_ ?_
  · -- region 1
    refine c_region (by kernel_rfl) ?_
    refine sr 2 rfl ?_
    refine s_op rfl (oints [s] loud_n rfl (by decide) rfl rfl rfl fun q st1 hq e1 => ?_)
    refine s_op rfl (oints [7] loud_n rfl (by decide) rfl rfl rfl fun q1 st2 hq1 e2 => ?_)
    refine s_op rfl (oblk [.sl (some q1) 0 1] loud_n rfl (by decide) rfl rfl fun q3 st4 hq3 e4 => ?_)
    refine s_op rfl (o_ex loud_n rfl (ready1_c _ _ _ _ _ l [7] s _ (hx.ex (e1.tr (e2.tr e4))) (hq.at_.ex (e2.tr e4)) hl (hq3 0) (hq1.at_.ex e4) (by decide)) ?_)
    rintro v5 st5 rfl e5
    have e15 := (e1.tr (e2.tr e4)).tr e5
    refine sr 2 rfl ?_
    refine s_bool 16 rfl rfl (fun h16 => ?_) (fun h16 => ?_)
    · have h16 := nbt h16
      refine sra rfl ⟨true, ⟨rfl, rfl, rfl, trivial⟩, ⟨rfl, rfl, rfl, rfl, trivial⟩, e15, ⟨fun _ h => h16 (hR.2 h.2), fun _ => rfl⟩⟩
    · have h16 := hR.1 (nbf h16)
      refine sr 1 rfl ?_
      refine s_op rfl (o_pure loud_n rfl (within_c ..) ?_)
      refine sra rfl ⟨_, ⟨rfl, rfl, rfl, trivial⟩, ⟨rfl, rfl, rfl, rfl, trivial⟩, e15, ?_⟩
      exact ⟨fun h k => ndt h k.1, fun h => (by rw [decide_eq_false fun k => h ⟨k, h16⟩]; rfl)⟩
  rintro b st1 ⟨e1, hb⟩
  refine c_if rfl (fun h30 => ?_) (fun h30 => ?_)
  · have h30 := hb.1 h30
    refine c_rs (by kernel_rfl) ?_   -- region 2
    refine sr 1 rfl ?_
    refine s_op rfl (o_ex loud_n rfl (asItWas_c _ _ _ _ (hx.ex e1) hl) ?_)
    rintro v2 st2 ⟨q, rfl, hf⟩ e2
    refine sra rfl ?_
    refine c_ret (fr rfl ⟨q, ?_, ?_⟩)
    · rw [fwL, fwV, fwO, gL_f h30, gV_f h30, gO_f h30]
    · rw [fwL, gL_f h30]; exact hf.le e1.n
  · have h30 : FnOk l c s := Classical.byContradiction fun h => by rw [hb.2 h] at h30; cases h30
    refine c_skip ?_
    refine c_rs (by kernel_rfl) ?_   -- region 3
    refine sr 3 rfl ?_
    refine s_op rfl (o_ex loud_n rfl (funNew_c _ _ _ c s _ (hx.ex e1) h30.2.2.1.1) ?_)
    rintro v3 st3 ⟨q, rfl, hf⟩ e3
    refine sra rfl ?_
    refine c_ret (fr rfl ⟨q, ?_, ?_⟩)
    · rw [fwL, fwV, fwO, gL_t h30, gV_t h30, gO_t h30]
    · rw [fwL, gL_t h30]; exact hf.le e1.n
end Go.Proofs.YtfhkjhnaihhdmaaGreatW.Ax

/- PropSet: walked. -/
namespace Go.Proofs.YtfhkjhnaihhdmaaGreatW.Ax
open Go Go.RowKit Go.Proofs Go.Proofs.YtfhkjhnaihhdmaaGreat.Pure
set_option linter.unusedVariables false
set_option maxRecDepth 100000

/-- Where a new cell is linked: behind the last cell, or in the object. -/
def lkP (l : List Int) (obj : Int) : Int := match (cellsR l obj).1.getLast? with | some x => x / 8 + 3 | none => obj / 8 + 2
/-- A cell that is new. -/
def ncL (l : List Int) (obj name v : Int) : List Int := (((tkL l 3 4).set (tkA l 4 + 1).toNat name).set (tkA l 4 + 2).toNat v).set (lkP l obj).toNat (8 * tkA l 4 + 7)
theorem ncL_len (l : List Int) (obj name v : Int) : (ncL l obj name v).length = l.length := by
  unfold ncL
  rw [List.length_set, List.length_set, List.length_set, tkL_len]
def ptL (l : List Int) (obj name v : Int) : List Int := match ownC l obj name with | some c => l.set (c / 8 + 2).toNat v | none => cond (tkO l 4) (ncL l obj name v) l
def ptA (l : List Int) (obj name : Int) : Int := match ownC l obj name with | some _ => -1 | none => cond (tkO l 4) (tkA l 4) (-1)
def ptO (l : List Int) (obj name : Int) : Bool := match ownC l obj name with | some _ => true | none => tkO l 4
theorem pt_own {l : List Int} {obj name v c : Int} (h : ownC l obj name = some c) : ptL l obj name v = l.set (c / 8 + 2).toNat v ∧ ptA l obj name = -1 ∧ ptO l obj name = true := by
  unfold ptL ptA ptO; rw [h]; exact ⟨rfl, rfl, rfl⟩
theorem pt_full {l : List Int} {obj name v : Int} (h : ownC l obj name = none) (hc : tkO l 4 = false) : ptL l obj name v = l ∧ ptA l obj name = -1 ∧ ptO l obj name = false := by
  unfold ptL ptA ptO; rw [h, hc]; exact ⟨rfl, rfl, rfl⟩
theorem pt_new {l : List Int} {obj name v : Int} (h : ownC l obj name = none) (hc : tkO l 4 = true) : ptL l obj name v = ncL l obj name v ∧ ptA l obj name = tkA l 4 ∧ ptO l obj name = true := by
  unfold ptL ptA ptO; rw [h, hc]; exact ⟨rfl, rfl, rfl⟩
theorem ptL_len (l : List Int) (obj name v : Int) : (ptL l obj name v).length = l.length := by
  unfold ptL
  split
  · simp
  · cases tkO l 4
    · rfl
    · exact ncL_len l obj name v
theorem lk_at {l : List Int} {obj : Int} (h : ObjIn l obj) : 0 ≤ lkP l obj ∧ lkP l obj < l.length ∧ l.length ≤ 2000 := by
  have hb := obj_at h.1 h.2
  unfold lkP
  split
  · rename_i x hx
    have hc := cell_at h.1 (cells_rf h.1 h.2 x (List.mem_of_getLast? hx))
    omega
  · omega
theorem lk_last {l : List Int} {obj : Int} (h : ObjIn l obj) : (lastD (cellsR l obj).1 < 0 ∧ lkP l obj = obj / 8 + 2) ∨ (¬ lastD (cellsR l obj).1 < 0 ∧ lkP l obj = lastD (cellsR l obj).1 + 3 ∧ 0 ≤ lastD (cellsR l obj).1) := by
  unfold lkP lastD
  cases hx : (cellsR l obj).1.getLast? with
  | none => left; exact ⟨by decide, rfl⟩
  | some x =>
    have hc := cell_at h.1 (cells_rf h.1 h.2 x (List.mem_of_getLast? hx))
    right
    exact ⟨by show ¬ x / 8 < 0; omega, rfl, hc.2.2.1⟩
theorem l5Set_c (n0 : Nat) (r : Option Nat) (l : List Int) (obj name v : Int) (st : St) (hf : Fr n0 st r l) (h : ObjIn l obj) (hnc : (cellsR l obj).2 = false) : ACalls Tryz.prog 126 [.agg [.sl r 0 l.length], I obj, I name, I v] st (fun i => r = some i) (Tv n0 st r (ptL l obj name v) (ptA l obj name) (ptO l obj name)) := by
  have hlen := okB_len h.1.1
  have hb := obj_at h.1 h.2
  have hl0 : l ≠ [] := fun e => by rw [e] at hb; simp at hb; omega
  obtain ⟨q, rfl⟩ := hf.some_of hl0
  refine ent (N := 72) Tryz.func126 rfl (by decide) rfl rfl rfl ?_
  refine crr (by kernel_rfl) rfl ?_   -- region 0
  refine c_rs (by kernel_rfl) ?_   -- region 1
  refine sr 3 rfl ?_
  refine s_op rfl (o_ex loud_n rfl (l5Cell_c _ _ _ obj name _ hf.at_ h) ?_)
  rintro v3 st3 ⟨last, rfl, hla, rfl⟩ e3
  refine sra rfl ?_
  refine c_seq ?_
  refine crr (by kernel_rfl) rfl ?_   -- region 2
  refine c_if rfl (fun h24 => ?_) (fun h24 => ?_)
  · -- then
    have h24 := of_decide_eq_true h24
    obtain ⟨c, e⟩ : ∃ c, ownC l obj name = some c := by
      cases e : ownC l obj name with
      | none => rw [e] at h24; exact absurd h24 (by decide)
      | some c => exact ⟨c, rfl⟩
    have hc := cA_some h e
    have hcA : cA (ownC l obj name) = c / 8 := by rw [e]; rfl
    obtain ⟨t1, t2, t3⟩ := pt_own (v := v) e
    rw [hcA]
    refine c_rs (by kernel_rfl) ?_   -- region 3
    refine sr 3 rfl ?_
    refine s_op rfl (o_ar rfl rfl rfl (by omega) (by omega) ?_)
    refine sr 1 rfl ?_
    refine s_op rfl (oidx rfl rfl rfl (by omega) (by omega) ?_)
    refine s_op rfl (ostI rfl rfl hf.ob.2 (fun _ => rfl) rfl rfl (by omega) ?_)
    refine s_end ?_
    refine crr (by kernel_rfl) rfl ?_   -- region 4
    refine c_ret (fr rfl ⟨?_, ?_, ?_⟩)
    · rw [t1, t2, t3, List.length_set]
    · rw [t1, Nat.zero_add]; exact hf.set
    · exact (Ext.refl (fun i => some q = some i) st).trans (T' := (· = q)) (ext_set ..) (fun _ _ h => by rw [h])
  · -- else
    have h24 := of_decide_eq_false h24
    have e : ownC l obj name = none := by
      cases e : ownC l obj name with
      | none => rfl
      | some c => rw [e] at h24; have := (cA_some h e).2.1; exact absurd (show (0 : Int) ≤ c / 8 from this) h24
    have hla := hla e hnc
    refine c_skip ?_
    refine c_rs (by kernel_rfl) ?_   -- region 5
    refine sr 1 rfl ?_
    refine s_op rfl (o_call rfl (l2Take_c n0 (some q) l 3 4 _ hf h.1.1 (by omega) (by omega) (by omega)) (fun _ _ h => h) (.inl rfl) ?_)
    rintro v1 st1 ⟨rfl, hf1, he1⟩ _
    refine sra rfl ?_
    refine c_seq ?_
    refine crr (by kernel_rfl) rfl ?_   -- region 6
    refine c_if rfl (fun hc => ?_) (fun hc => ?_)
    · have hc : tkO l 4 = false := by simpa using hc
      have ht := tk_no 3 hc
      obtain ⟨t1, t2, t3⟩ := pt_full (v := v) e hc
      refine crr (by kernel_rfl) rfl ?_   -- region 7
      rw [ht.2] at hf1
      refine c_ret (fr rfl ⟨?_, ?_, he1⟩)
      · rw [t1, t2, t3]
      · rw [t1]; exact hf1
    · have hc : tkO l 4 = true := by simpa using hc
      have ht := tk_at hc
      have hl := tkL_len l 3 4
      obtain ⟨t1, t2, t3⟩ := pt_new (v := v) e hc
      have hlk := lk_at h
      refine c_skip ?_
      refine c_rs (by kernel_rfl) ?_   -- region 8
      refine sr 3 rfl ?_
      refine s_op rfl (o_ar rfl rfl rfl (by omega) (by omega) ?_)
      refine sr 1 rfl ?_
      refine s_op rfl (oidx rfl rfl rfl (by omega) (by omega) ?_)
      refine s_op rfl (ostI rfl rfl hf1.ob.2 (fun _ => rfl) rfl rfl (by omega) ?_)
      refine s_end ?_
      have hf2 := hf1.set (l' := (tkL l 3 4).set (0 + (tkA l 4 + 1).toNat) name)
      have he2 : Ext (fun i => some q = some i) st (st1.set q (.row true (((tkL l 3 4).set (0 + (tkA l 4 + 1).toNat) name).map I))) := he1.trans (T' := (· = q)) (ext_set ..) (fun _ _ h => by rw [h])
      generalize st1.set q (.row true (((tkL l 3 4).set (0 + (tkA l 4 + 1).toNat) name).map I)) = st2 at hf2 he2 ⊢
      rw [Nat.zero_add] at hf2
      have hl2 : ((tkL l 3 4).set (tkA l 4 + 1).toNat name).length = l.length := by rw [List.length_set, hl]
      refine c_rs (by kernel_rfl) ?_   -- region 9
      refine sr 3 rfl ?_
      refine s_op rfl (o_ar rfl rfl rfl (by omega) (by omega) ?_)
      refine sr 1 rfl ?_
      refine s_op rfl (oidx rfl rfl rfl (by omega) (by omega) ?_)
      refine s_op rfl (ostI rfl rfl hf2.ob.2 (fun _ => rfl) rfl rfl (by omega) ?_)
      refine s_end ?_
      have hf3 := hf2.set (l' := ((tkL l 3 4).set (tkA l 4 + 1).toNat name).set (0 + (tkA l 4 + 2).toNat) v)
      have he3 : Ext (fun i => some q = some i) st (st2.set q (.row true ((((tkL l 3 4).set (tkA l 4 + 1).toNat name).set (0 + (tkA l 4 + 2).toNat) v).map I))) := he2.trans (T' := (· = q)) (ext_set ..) (fun _ _ h => by rw [h])
      generalize st2.set q (.row true ((((tkL l 3 4).set (tkA l 4 + 1).toNat name).set (0 + (tkA l 4 + 2).toNat) v).map I)) = st4 at hf3 he3 ⊢
      rw [Nat.zero_add] at hf3
      have hl3 : (((tkL l 3 4).set (tkA l 4 + 1).toNat name).set (tkA l 4 + 2).toNat v).length = l.length := by rw [List.length_set, hl2]
      refine c_sj (fun _ : Unit => [(14, I (tkA l 4))]) (fun _ => [(8, 8, [.sl none 0 0]), (13, 13, [.sl (some q) 0 (tkL l 3 4).length])]) (fun _ st' => Fr n0 st' (some q) (ncL l obj name v) ∧ Ext (fun i => some q = some i) st st') ?_ ?_
      · -- ways that meet
        refine crr (by kernel_rfl) rfl ?_   -- region 10
        refine c_if rfl (fun h54 => ?_) (fun h54 => ?_)
        · have h54 := of_decide_eq_true h54
          have hlk2 : lkP l obj = obj / 8 + 2 := by rcases lk_last h with h1 | h1 <;> omega
          refine cd1 [0, 1, 2, 5, 3, 4, 6, 7, 8] [.q, .q, .q, .q, .f, .q, .f, .q, .n] (by kernel_rfl) (by kernel_rfl) ?_
          refine sr 4 rfl ?_
          refine s_op rfl (o_pure loud_f rfl (Num_c ..) ?_)
          refine s_op rfl (o_ar rfl rfl rfl (by omega) (by omega) ?_)
          refine s_op rfl (o_pure loud_f rfl (RefOf_c 7 (tkA l 4) _ (by omega) (by omega)) ?_)
          refine s_op rfl (oidx rfl rfl rfl (by omega) (by omega) ?_)
          refine s_op rfl (ostI rfl rfl hf3.ob.2 (fun _ => rfl) rfl rfl (by omega) ?_)
          refine s_end ⟨(), ⟨rfl, trivial⟩, ⟨rfl, rfl, rfl, rfl, trivial⟩, ?_, ?_⟩
          · unfold ncL; rw [hlk2, Nat.zero_add]; exact hf3.set
          · exact he3.trans (T' := (· = q)) (ext_set ..) (fun _ _ h => by rw [h])
        · have h54 := of_decide_eq_false h54
          have hlk2 : lkP l obj = last + 3 ∧ 0 ≤ last := by rcases lk_last h with h1 | h1 <;> omega
          refine cd1 [0, 1, 2, 3, 4, 5, 6, 7] [.q, .q, .q, .q, .q, .f, .q, .n] (by kernel_rfl) (by kernel_rfl) ?_
          refine sr 3 rfl ?_
          refine s_op rfl (o_ar rfl rfl rfl (by omega) (by omega) ?_)
          refine sr 1 rfl ?_
          refine s_op rfl (o_pure loud_f rfl (RefOf_c 7 (tkA l 4) _ (by omega) (by omega)) ?_)
          refine s_op rfl (oidx rfl rfl rfl (by omega) (by omega) ?_)
          refine s_op rfl (ostI rfl rfl hf3.ob.2 (fun _ => rfl) rfl rfl (by omega) ?_)
          refine s_end ⟨(), ⟨rfl, trivial⟩, ⟨rfl, rfl, rfl, rfl, trivial⟩, ?_, ?_⟩
          · unfold ncL; rw [hlk2.1, Nat.zero_add]; exact hf3.set
          · exact he3.trans (T' := (· = q)) (ext_set ..) (fun _ _ h => by rw [h])
      rintro _ st5 ⟨hf5, he5⟩
      refine crr (by kernel_rfl) rfl ?_   -- region 13
      refine c_ret (fr rfl ⟨?_, ?_, he5⟩)
      · rw [t1, t2, t3, ncL_len, hl]
      · rw [t1]; exact hf5
/-- What comes of a name that is set of an object. -/
noncomputable def psetL (l : List Int) (obj name v : Int) : List Int := cond (cellsR l obj).2 l (ptL l obj name v)
def psetA (l : List Int) (obj name : Int) : Int := cond (cellsR l obj).2 (-1) (ptA l obj name)
def psetO (l : List Int) (obj name : Int) : Bool := cond (cellsR l obj).2 false (ptO l obj name)
theorem pset_t {l : List Int} {obj name v : Int} (h : (cellsR l obj).2 = true) : psetL l obj name v = l ∧ psetA l obj name = -1 ∧ psetO l obj name = false := by
  unfold psetL psetA psetO; rw [h]; exact ⟨rfl, rfl, rfl⟩
theorem pset_f {l : List Int} {obj name v : Int} (h : (cellsR l obj).2 = false) : psetL l obj name v = ptL l obj name v ∧ psetA l obj name = ptA l obj name ∧ psetO l obj name = ptO l obj name := by
  unfold psetL psetA psetO; rw [h]; exact ⟨rfl, rfl, rfl⟩
theorem psetL_len (l : List Int) (obj name v : Int) : (psetL l obj name v).length = l.length := by
  unfold psetL
  cases (cellsR l obj).2
  · exact ptL_len l obj name v
  · rfl
/-- Where a cell would be linked, some cells on. -/
def lkI (l : List Int) (obj : Int) (i : Nat) : Int := match i with | 0 => obj / 8 + 2 | i + 1 => rd (cellsR l obj).1 i / 8 + 3
theorem lkI_all (l : List Int) (obj : Int) : lkI l obj (cellsR l obj).1.length = lkP l obj := by
  unfold lkP lkI
  generalize (cellsR l obj) = C
  have key : ∀ m : List Int, (match m.length with | 0 => obj / 8 + 2 | i + 1 => rd m i / 8 + 3) = match m.getLast? with | some x => x / 8 + 3 | none => obj / 8 + 2 := by
    intro m
    cases hm : m.length with
    | zero => rw [List.eq_nil_of_length_eq_zero hm]; rfl
    | succ i =>
      have hne : m ≠ [] := fun e => by rw [e] at hm; cases hm
      rw [List.getLast?_eq_some_getLast hne]
      show rd m i / 8 + 3 = m.getLast hne / 8 + 3
      rw [List.getLast_eq_getElem]
      simp [rd, List.getD, hm]
  exact key C.1
theorem propSet_c (r : Option Nat) (o : Nat) (l : List Int) (obj name v : Int) (st : St) (hx : At st r o l) (h : ObjIn l obj) : ACalls Tryz.prog 124 [.agg [.sl r o l.length], I obj, I name, I v] st No (Nw st (psetL l obj name v) (psetA l obj name) (psetO l obj name)) := by
  have hlen := okB_len h.1.1
  have hb := obj_at h.1 h.2
  have hpl := places_len h
  have hcl : (places l obj).length = (cellsR l obj).1.length := List.length_map _
  refine ent (N := 87) Tryz.func124 rfl (by decide) rfl rfl rfl ?_
  refine crr (by kernel_rfl) rfl ?_   -- region 0
  refine c_rs (by kernel_rfl) ?_   -- region 1
  refine sr 2 rfl ?_
  refine s_op rfl (o_ex loud_n rfl (cells_c _ _ _ obj _ hx h) ?_)
  rintro v2 st1 ⟨p, rfl, hp⟩ e1
  have hx1 := hx.ex e1
  refine sra rfl ?_
  refine c_seq ?_
  refine crr (by kernel_rfl) rfl ?_   -- region 2
  refine c_if rfl (fun h26 => ?_) (fun h26 => ?_)
  · have h26 : (cellsR l obj).2 = true := h26
    obtain ⟨t1, t2, t3⟩ := pset_t (name := name) (v := v) h26
    refine c_rs (by kernel_rfl) ?_   -- region 3
    refine sr 1 rfl ?_
    refine s_op rfl (o_ex loud_n rfl (copySlab_c _ _ _ _ hx1 (by omega)) ?_)
    rintro v3 st3 ⟨q, rfl, hf⟩ e3
    refine sra rfl ?_
    refine c_ret (fr rfl ⟨q, ?_, ?_⟩)
    · rw [t1, t2, t3]
    · rw [t1]; exact hf.le e1.n
  have h26 : (cellsR l obj).2 = false := h26
  obtain ⟨s1, s2, s3⟩ := pset_f (name := name) (v := v) h26
  rw [s1, s2, s3]
  refine c_skip ?_
  refine c_rs (by kernel_rfl) ?_   -- region 4
  refine sr 1 rfl ?_
  refine s_op rfl (o_pure loud_n rfl (iNum_c ..) ?_)
  refine s_op rfl (o_ar rfl rfl rfl (by omega) (by omega) ?_)
  refine sra rfl ?_
  refine c_seq ?_
  refine crr (by kernel_rfl) rfl ?_   -- region 5
  refine c_block ?_
  refine c_lp (α := Nat) (fun i => [(1, I obj), (2, I name), (3, I v), (13, I (lkI l obj i)), (32, .sl p 0 (places l obj).length), (33, I (places l obj).length), (34, I i)]) (fun _ => [(4, 4, [.sl r o l.length]), (8, 8, [.sl none 0 0])])
    (fun i st' => st1 = st' ∧ i ≤ (places l obj).length ∧ ∀ j : Nat, j < i → ¬ rd l (rd (cellsR l obj).1 j / 8 + 1) = name) (fun i => (places l obj).length - i) 0 ⟨rfl, rfl, rfl, rfl, rfl, rfl, rfl, trivial⟩ ⟨rfl, rfl, rfl, rfl, trivial⟩ ⟨rfl, by omega, fun j hj => by omega⟩ ?_
  rintro i st' ⟨rfl, hi, hn⟩
  refine crr (by kernel_rfl) rfl ?_   -- region 6
  refine c_seq ?_
  refine c_if rfl (fun h35 => ?_) (fun h35 => ?_)
  · -- then
    have h35 := of_decide_eq_true h35
    have hmm : rd (cellsR l obj).1 i ∈ (cellsR l obj).1 := mem_rd (by omega)
    have hc := cell_at h.1 (cells_rf h.1 h.2 _ hmm)
    have hpi : rd (places l obj) i = rd (cellsR l obj).1 i / 8 := rd_map8 _ _
    refine c_skip ?_
    refine c_seq ?_
    refine c_block ?_
    refine c_rs (by kernel_rfl) ?_   -- region 7
    refine s_op rfl (oidx rfl rfl rfl (by omega) (by omega) ?_)
    refine s_op rfl (old rfl rfl (hp.at_.rd (by omega) (by omega)) ?_)
    rw [hpi]
    refine sra rfl ?_
    refine c_seq ?_
    refine c_rs (by kernel_rfl) ?_   -- region 8
    refine sr 3 rfl ?_
    refine s_op rfl (o_ar rfl rfl rfl (by omega) (by omega) ?_)
    refine s_op rfl (oidx rfl rfl rfl (by omega) (by omega) ?_)
    refine s_op rfl (old rfl rfl (hx1.rd (by omega) (by omega)) ?_)
    refine sra rfl ?_
    refine c_if rfl (fun h45 => ?_) (fun h45 => ?_)
    · -- then
      have h45 := of_decide_eq_true h45
      have e : ownC l obj name = some (rd (cellsR l obj).1 i) := find_at (by omega) (fun j hj => decide_eq_false (hn j hj)) (decide_eq_true h45)
      obtain ⟨t1, t2, t3⟩ := pt_own (v := v) e
      refine c_rs (by kernel_rfl) ?_   -- region 9
      refine sr 1 rfl ?_
      refine s_op rfl (o_ex loud_n rfl (copySlab_c _ _ _ _ hx1 (by omega)) ?_)
      rintro v3 st3 ⟨q, rfl, hf⟩ e3
      have hf := hf.le e1.n
      refine sra rfl ?_
      refine c_rs (by kernel_rfl) ?_   -- region 10
      refine sr 3 rfl ?_
      refine s_op rfl (o_ar rfl rfl rfl (by omega) (by omega) ?_)
      refine sr 1 rfl ?_
      refine s_op rfl (oidx rfl rfl rfl (by omega) (by omega) ?_)
      refine s_op rfl (ostF rfl rfl hf rfl rfl (by omega) fun st4 hf4 e4 => ?_)
      refine s_end ?_
      refine crr (by kernel_rfl) rfl ?_   -- region 11
      refine c_ret (fr rfl ⟨q, ?_, ?_⟩)
      · rw [t1, t2, t3, List.length_set]
      · rw [t1, ← Nat.zero_add (rd (cellsR l obj).1 i / 8 + 2).toNat]; exact hf4
    · -- else
      have h45 := of_decide_eq_false h45
      refine c_skip ?_
      refine c_region (by kernel_rfl) ?_   -- region 12
      refine sr 1 rfl ?_
      refine s_op rfl (o_ar rfl rfl rfl (by omega) (by omega) ?_)
      refine sra rfl ?_
      refine c_region (by kernel_rfl) ?_   -- region 13
      refine s_op rfl (o_ar rfl rfl rfl (by omega) (by omega) ?_)
      refine sra rfl ⟨i + 1, ⟨rfl, rfl, rfl, rfl, rfl, rfl, rfl, trivial⟩, ⟨rfl, rfl, rfl, rfl, trivial⟩, ⟨rfl, by omega, fun j hj => ?_⟩, by omega⟩
      by_cases e : j = i
      · rw [e]; exact h45
      · exact hn j (by omega)
  · -- else
    have h35 := of_decide_eq_false h35
    have e : ownC l obj name = none := find_no fun j hj => decide_eq_false (hn j (by omega))
    have hlk := lk_at h
    have hli : lkI l obj i = lkP l obj := by rw [← lkI_all, show i = (cellsR l obj).1.length by omega]
    rw [hli]
    refine c_exit ?_
    refine c_rs (by kernel_rfl) ?_   -- region 14
    refine sr 1 rfl ?_
    refine s_op rfl (o_ex loud_n rfl (iTake_c r o l 3 4 _ hx1 h.1.1 (by omega) (by omega) (by omega)) ?_)
    rintro v3 st3 ⟨q, rfl, hf1⟩ e3
    replace hf1 : Fr st.n st3 q _ := hf1.le e1.n
    refine sra rfl ?_
    refine c_seq ?_
    refine crr (by kernel_rfl) rfl ?_   -- region 15
    refine c_if rfl (fun hc => ?_) (fun hc => ?_)
    · have hc : tkO l 4 = false := by simpa using hc
      have ht := tk_no 3 hc
      obtain ⟨t1, t2, t3⟩ := pt_full (v := v) e hc
      refine crr (by kernel_rfl) rfl ?_   -- region 16
      rw [ht.2] at hf1
      refine c_ret (fr rfl ⟨q, ?_, ?_⟩)
      · rw [t1, t2, t3, ht.2]
      · rw [t1]; exact hf1
    · have hc : tkO l 4 = true := by simpa using hc
      have ht := tk_at hc
      have hl := tkL_len l 3 4
      have hl0 : tkL l 3 4 ≠ [] := fun h => by rw [h] at hl; simp at hl; omega
      obtain ⟨q, rfl⟩ := hf1.some_of hl0
      obtain ⟨t1, t2, t3⟩ := pt_new (v := v) e hc
      refine c_skip ?_
      refine cd3 [17] [0, 1, 2, 3, 4, 5, 6, 7, 8, 9, 10] 11 [12, 13] [.q, .n] (by kernel_rfl) (by kernel_rfl) ?_   -- region 17
      refine prun 3 rfl ?_
      refine p_op rfl (x_add rfl rfl (by omega) (by omega)) ?_
      refine prun 3 rfl ?_
      refine p_op rfl (x_add rfl rfl (by omega) (by omega)) ?_
      refine prun 2 rfl ?_
      refine p_op rfl (xidx rfl rfl rfl (by omega) (by omega)) ?_
      refine p_end ⟨⟨_, rfl, _, _, _, _, _, _, _, _, _, _, _, _, rfl, rfl, rfl, hf1.ob.2.1, hf1.ob.2.2, rfl, rfl, rfl, by simp; omega⟩, ?_⟩
      refine s_op rfl (ostF rfl rfl hf1 rfl rfl (by omega) fun st4 hf4 e4 => ?_)
      rw [Nat.zero_add] at hf4
      have hl2 : ((tkL l 3 4).set (tkA l 4 + 1).toNat name).length = l.length := by rw [List.length_set, hl]
      refine s_op rfl (oidx rfl rfl rfl (by omega) (by omega) ?_)
      refine s_op rfl (ostF rfl rfl hf4 rfl rfl (by omega) fun st5 hf5 e5 => ?_)
      rw [Nat.zero_add] at hf5
      have hl3 : (((tkL l 3 4).set (tkA l 4 + 1).toNat name).set (tkA l 4 + 2).toNat v).length = l.length := by rw [List.length_set, hl2]
      refine s_end ?_
      refine cds [0, 1, 2, 3, 4, 5, 6] [.q, .q, .q, .q, .f, .q, .n] (by kernel_rfl) (by kernel_rfl) ?_   -- region 18
      refine sr 4 rfl ?_
      refine s_op rfl (o_pure loud_f rfl (iRefOf_c 7 (tkA l 4) _ (by omega) (by omega)) ?_)
      refine s_op rfl (oidx rfl rfl rfl (by omega) (by omega) ?_)
      refine s_op rfl (ostF rfl rfl hf5 rfl rfl (by omega) fun st6 hf6 e6 => ?_)
      refine s_end ?_
      refine crr (by kernel_rfl) rfl ?_   -- region 19
      refine c_ret (fr rfl ⟨some q, ?_, ?_⟩)
      · rw [t1, t2, t3, ncL_len, hl]
      · rw [t1]; unfold ncL; rw [← Nat.zero_add (lkP l obj).toNat]; exact hf6
end Go.Proofs.YtfhkjhnaihhdmaaGreatW.Ax

/- PropSet: walked. -/
namespace Go.Proofs.YtfhkjhnaihhdmaaGreatW.Ax
open Go Go.RowKit Go.Proofs Go.Proofs.YtfhkjhnaihhdmaaGreat.Pure
set_option linter.unusedVariables false
set_option maxRecDepth 100000

theorem l5Round_c (r : Option Nat) (o : Nat) (l : List Int) (obj : Int) (st : St) (hx : At st r o l) (h : ObjIn l obj) : ACalls Tryz.prog 125 [.agg [.sl r o l.length], I obj] st No (Pure1 (.bool (cellsR l obj).2) st) := by
  obtain ⟨hp, ho⟩ := h
  have hb := obj_at hp ho
  have hcr := cells_rf hp ho
  refine ent (N := 34) Tryz.func125 rfl (by decide) rfl rfl rfl ?_
  refine crr (by kernel_rfl) rfl ?_   -- region 0
  refine cds [0, 1, 2, 3, 4, 5, 6, 7] [.q, .q, .q, .f, .q, .q, .q, .q] (by kernel_rfl) (by kernel_rfl) ?_   -- region 1
  refine sr 3 rfl ?_
  refine s_op rfl (o_pure loud_f rfl (Num_c ..) ?_)
  refine s_op rfl (o_ar rfl rfl rfl (by omega) (by omega) ?_)
  refine s_op rfl (oidx rfl rfl rfl (by omega) (by omega) ?_)
  refine s_op rfl (old rfl rfl (hx.rd (by omega) (by omega)) ?_)
  refine sra rfl ?_
  refine crr (by kernel_rfl) rfl ?_   -- region 2
  refine c_seq ?_
  refine c_block ?_
  refine c_lp (α := Nat × Int) (fun i => [(5, I i.2), (6, I i.1)]) (fun _ => [(2, 2, [.sl r o l.length])])
    (fun i st' => st = st' ∧ i.1 ≤ l.length ∧ ((∃ d out, Way l (cellsR l obj) d i.2 out ∧ out.length = i.1) ∨
      ((cellsR l obj).2 = true ∧ i.2 ∈ (cellsR l obj).1 ∧ ∀ x ∈ (cellsR l obj).1, nxC l x ∈ (cellsR l obj).1))) (fun i => l.length - i.1) (0, rd l (obj / 8 + 2)) ⟨rfl, rfl, trivial⟩ ⟨rfl, rfl, trivial⟩
    ⟨rfl, by omega, .inl ⟨_, [], way_start hp ho, rfl⟩⟩ ?_
  rintro ⟨n, v⟩ st' ⟨rfl, hn, hI⟩
  dsimp only at *
  have hnx : Nxt l v 3 := by
    rcases hI with ⟨d, out, hw, _⟩ | ⟨_, hm, _⟩
    · exact hw.nx
    · exact .inr (hcr v hm)
  refine c_seq ?_
  refine c_rj [(5, I v), (6, I n), (22, .bool (decide (v ≠ 0 ∧ n < l.length)))] [(2, 2, [.sl r o l.length])] (by kernel_rfl) ?_ ?_
  · -- region 3
    refine sr 3 rfl ?_
    refine s_bool 16 rfl rfl (fun h16 => ?_) (fun h16 => ?_)
    · have h16 := ndt h16
      refine sra rfl ⟨⟨rfl, rfl, ?_, trivial⟩, ⟨rfl, rfl, trivial⟩, rfl⟩
      show AV.bool (decide _) = AV.bool (decide _)
      congr 1
      exact decide_eq_decide.2 ⟨fun h => ⟨h16, by omega⟩, fun h => by omega⟩
    · have h16 := ndf h16
      refine sra rfl ⟨⟨rfl, rfl, ?_, trivial⟩, ⟨rfl, rfl, trivial⟩, rfl⟩
      show AV.bool false = AV.bool (decide _)
      rw [decide_eq_false fun h => h.1 h16]
  refine c_if rfl (fun h22 => ?_) (fun h22 => ?_)
  · -- then
    obtain ⟨hv, hnl⟩ := of_decide_eq_true h22
    have hrf := hnx.resolve_left hv
    have hc := cell_at hp hrf
    refine c_skip ?_
    refine c_block ?_
    refine cds [0, 1, 2, 3, 4, 5, 6, 7] [.q, .q, .q, .f, .q, .q, .q, .q] (by kernel_rfl) (by kernel_rfl) ?_   -- region 4
    refine sr 3 rfl ?_
    refine s_op rfl (o_pure loud_f rfl (Num_c ..) ?_)
    refine s_op rfl (o_ar rfl rfl rfl (by omega) (by omega) ?_)
    refine s_op rfl (oidx rfl rfl rfl (by omega) (by omega) ?_)
    refine s_op rfl (old rfl rfl (hx.rd (by omega) (by omega)) ?_)
    refine sra rfl ?_
    refine c_region (by kernel_rfl) ?_   -- region 5
    refine sr 1 rfl ?_
    refine s_op rfl (o_ar rfl rfl rfl (by omega) (by omega) ?_)
    refine sra rfl ⟨(n + 1, nxC l v), ⟨rfl, rfl, trivial⟩, ⟨rfl, rfl, trivial⟩, ⟨rfl, by dsimp only; omega, ?_⟩, by dsimp only; omega⟩
    dsimp only
    rcases hI with ⟨d, out, hw, hlo⟩ | ⟨h1, hm, hcl⟩
    · obtain ⟨_, d, rfl⟩ := hw.len hb.2.1
      by_cases hvo : v ∈ out
      · obtain ⟨hC, hcl⟩ := hw.on.circle (decide_eq_false hv) hvo
        refine .inr ?_
        rw [hC]
        exact ⟨rfl, hcl v hvo, hcl⟩
      · exact .inl ⟨d, out ++ [v], hw.step hp hv hvo, by simp [hlo]⟩
    · exact .inr ⟨h1, hcl v hm, hcl⟩
  · -- else
    have h22 := of_decide_eq_false h22
    refine c_exit ?_
    refine crr (by kernel_rfl) rfl ?_   -- region 6
    refine c_ret (fr rfl ⟨?_, rfl⟩)
    show AV.bool (!decide (v = 0)) = _
    rcases hI with ⟨d, out, hw, hlo⟩ | ⟨h1, hm, hcl⟩
    · obtain ⟨hol, d, rfl⟩ := hw.len hb.2.1
      have hv : v = 0 := Classical.byContradiction fun h => h22 ⟨h, by omega⟩
      rw [hw.on.stop_ (decide_eq_true hv), decide_eq_true hv]; rfl
    · have hv : v ≠ 0 := by have := (hcr v hm).1; omega
      rw [h1, decide_eq_false hv]; rfl
theorem anyPlain_c (st : St) : ACalls Tryz.prog 103 [] st No (Ro st [0, 1, 2, 3, 4, 5, 6]) := by
  refine ent (N := 2) Tryz.func103 rfl (by decide) rfl rfl rfl ?_
  refine crr (by kernel_rfl) rfl ?_   -- region 0
  refine c_rs (by kernel_rfl) ?_   -- region 1
  refine s_op rfl (oints [0, 1, 2, 3, 4, 5, 6] loud_n rfl (by decide) rfl rfl rfl fun q st1 hq e1 => ?_)
  refine sra rfl ?_
  exact c_ret (fr rfl ⟨q, rfl, hq⟩)
def PtOk (l : List Int) (obj name v : Int) : Prop := name % 8 = 4 ∧ v % 8 ≠ 7 ∧ Isk l [obj, name, v] 5
theorem pt_in {l : List Int} {obj name v : Int} (h : PtOk l obj name v) : ObjIn l obj := by
  have h1 : obj % 8 = 5 := by simpa [rd] using h.2.2.1
  exact ⟨h.2.2.2.1, (leads_rf (h.2.2.2.2 obj (by simp))).2.1 h1⟩
noncomputable def pqL (l : List Int) (obj name v : Int) : List Int := gL (PtOk l obj name v) (psetL l obj name v) l
noncomputable def pqO (l : List Int) (obj name v : Int) : Bool := gO (PtOk l obj name v) (psetO l obj name)
theorem pqL_len (l : List Int) (obj name v : Int) : (pqL l obj name v).length ≤ l.length := gL_len (by rw [psetL_len]; exact Nat.le_refl _)
theorem PropSet_c (r : Option Nat) (o : Nat) (l : List Int) (obj name v : Int) (st : St) (hx : At st r o l) (hl : l.length ≤ 1048576) : ACalls Tryz.prog 47 [.agg [.sl r o l.length], I obj, I name, I v] st No (Ns st (pqL l obj name v) (pqO l obj name v)) := by
  refine ent (N := 49) Tryz.func47 rfl (by decide) rfl rfl rfl ?_
  refine crr (by kernel_rfl) rfl ?_   -- region 0
  refine c_seq ?_
  refine c_sj (α := Bool) (fun b => [(1, I obj), (2, I name), (3, I v), (34, .bool b)]) (fun _ => [(4, 4, [.sl r o l.length]), (8, 8, [.sl none 0 0])]) (fun b st' => Ex st st' ∧ (b = true ↔ ¬ (PtOk l obj name v ∧ (cellsR l obj).2 = false))) ?_ ?_
  · -- region 1
    refine c_region (by kernel_rfl) ?_
    refine sr 1 rfl ?_
    refine s_op rfl (o_pure loud_n rfl (Kind_c ..) ?_)
    refine sr 2 rfl ?_
    refine s_bool 16 rfl rfl (fun h16 => ?_) (fun h16 => ?_)
    · have h16 := ndt h16
      refine sra rfl ⟨true, ⟨rfl, rfl, rfl, rfl, trivial⟩, ⟨rfl, rfl, rfl, rfl, trivial⟩, Ext.refl _ _, ⟨fun _ h => h16 h.1.1, fun _ => rfl⟩⟩
    · have h16 := ndf h16
      refine sr 1 rfl ?_
      refine s_op rfl (o_pure loud_n rfl (Kind_c ..) ?_)
      refine sr 3 rfl ?_
      refine s_bool 21 rfl rfl (fun h21 => ?_) (fun h21 => ?_)
      · have h21 := of_decide_eq_true h21
        refine sra rfl ⟨true, ⟨rfl, rfl, rfl, rfl, trivial⟩, ⟨rfl, rfl, rfl, rfl, trivial⟩, Ext.refl _ _, ⟨fun _ h => h.1.2.1 h21, fun _ => rfl⟩⟩
      · have h21 := of_decide_eq_false h21
        refine sr 4 rfl ?_
        refine s_op rfl (oints [obj, name, v] loud_n rfl (by decide) rfl rfl rfl fun q st1 hq e1 => ?_)
        refine s_op rfl (o_ex loud_n rfl (l5Is_c _ _ _ _ _ _ _ _ (hx.ex e1) hq.at_ hl (by simp) (by simp)) ?_)
        rintro v2 st2 rfl e2
        refine sr 3 rfl ?_
        refine s_bool 30 rfl rfl (fun h30 => ?_) (fun h30 => ?_)
        · have h30 := nbt h30
          refine sra rfl ⟨true, ⟨rfl, rfl, rfl, rfl, trivial⟩, ⟨rfl, rfl, rfl, rfl, trivial⟩, e1.tr e2, ⟨fun _ h => h30 h.1.2.2, fun _ => rfl⟩⟩
        · have h30 := nbf h30
          have hok : PtOk l obj name v := ⟨h16, h21, h30⟩
          refine sr 2 rfl ?_
          refine s_op rfl (o_pure loud_n rfl (l5Round_c _ _ _ obj _ (hx.ex (e1.tr e2)) (pt_in hok)) ?_)
          refine sra rfl ⟨_, ⟨rfl, rfl, rfl, rfl, trivial⟩, ⟨rfl, rfl, rfl, rfl, trivial⟩, e1.tr e2, ?_⟩
          show (cellsR l obj).2 = true ↔ _
          refine ⟨fun h k => (by rw [k.2] at h; cases h), fun h => ?_⟩
          cases hc : (cellsR l obj).2 with
          | true => rfl
          | false => exact absurd ⟨hok, hc⟩ h
  rintro b st1 ⟨e1, hb⟩
  refine c_if rfl (fun h34 => ?_) (fun h34 => ?_)
  · have h34 := hb.1 h34
    have hz : pqL l obj name v = zl l ∧ pqO l obj name v = false := by
      by_cases hok : PtOk l obj name v
      · have hc : (cellsR l obj).2 = true := by
          cases hc : (cellsR l obj).2 with
          | true => rfl
          | false => exact absurd ⟨hok, hc⟩ h34
        obtain ⟨t1, _, t3⟩ := pset_t (name := name) (v := v) hc
        unfold pqL pqO
        rw [gL_t hok, gO_t hok, t1, t3, zl_t (pt_in hok).1]
        exact ⟨rfl, rfl⟩
      · unfold pqL pqO
        rw [gL_f hok, gO_f hok]
        exact ⟨rfl, rfl⟩
    refine c_rs (by kernel_rfl) ?_   -- region 2
    refine sr 1 rfl ?_
    refine s_op rfl (o_ex loud_n rfl (l5Zero_c _ _ _ _ (hx.ex e1) hl) ?_)
    rintro v2 st2 ⟨q, rfl, hf⟩ e2
    refine sra rfl ?_
    refine c_ret (fr rfl ⟨q, ?_, ?_⟩)
    · rw [hz.1, hz.2]
    · rw [hz.1]; exact hf.le e1.n
  · have h34 : PtOk l obj name v ∧ (cellsR l obj).2 = false := Classical.byContradiction fun h => by rw [hb.2 h] at h34; cases h34
    obtain ⟨t1, _, t3⟩ := pset_f (name := name) (v := v) h34.2
    refine c_skip ?_
    refine c_rs (by kernel_rfl) ?_   -- region 3
    refine sr 1 rfl ?_
    refine s_op rfl (o_ex loud_n rfl (l2Copy_c _ _ _ _ (hx.ex e1) hl) ?_)
    rintro v2 st2 ⟨q, rfl, hf⟩ e2
    have hf := hf.le e1.n
    refine sr 3 rfl ?_
    refine s_op rfl (o_call rfl (l5Set_c _ _ _ obj name v _ hf (pt_in h34.1) h34.2) (fun i hi h => absurd hi (by have := hf.bd i h; omega)) (.inl rfl) ?_)
    rintro v3 st3 ⟨rfl, hf3, _⟩ e3
    refine sra rfl ?_
    refine crr (by kernel_rfl) rfl ?_   -- region 4
    refine c_ret (fr rfl ⟨q, ?_, ?_⟩)
    · rw [pqL, pqO, gL_t h34.1, gO_t h34.1, t1, t3]
    · rw [pqL, gL_t h34.1, t1]; exact hf3
/-- What the slices hold that are asked about, in whatever order they are made. -/
def PhiP (obj name v : Int) : Nat → AV → St → Prop
  | 4, x, st => ∃ q, x = .sl (some q) 0 3 ∧ At st (some q) 0 [obj, name, v]
  | 5, x, st => ∃ q, x = .sl (some q) 0 1 ∧ At st (some q) 0 [5]
  | 6, x, st => ∃ q, x = .sl (some q) 0 1 ∧ At st (some q) 0 [4]
  | 7, x, st => ∃ q, x = .sl (some q) 0 7 ∧ At st (some q) 0 [0, 1, 2, 3, 4, 5, 6]
  | 8, x, st => ∃ q q1 q2 q3, x = .sl (some q) 0 3 ∧ (cell st (some q) 0 = some (.sl (some q1) 0 1) ∧ At st (some q1) 0 [5]) ∧ (cell st (some q) 1 = some (.sl (some q2) 0 1) ∧ At st (some q2) 0 [4]) ∧ (cell st (some q) 2 = some (.sl (some q3) 0 7) ∧ At st (some q3) 0 [0, 1, 2, 3, 4, 5, 6])
  | _, _, _ => True
theorem phiP_ex (obj name v : Int) : ∀ i x st st', PhiP obj name v i x st → Ex st st' → PhiP obj name v i x st'
  | 4, x, st, st', ⟨q, h1, h2⟩, he => ⟨q, h1, h2.ex he⟩
  | 5, x, st, st', ⟨q, h1, h2⟩, he => ⟨q, h1, h2.ex he⟩
  | 6, x, st, st', ⟨q, h1, h2⟩, he => ⟨q, h1, h2.ex he⟩
  | 7, x, st, st', ⟨q, h1, h2⟩, he => ⟨q, h1, h2.ex he⟩
  | 8, x, st, st', ⟨q, q1, q2, q3, h0, ⟨h1, h2⟩, ⟨h3, h4⟩, h5, h6⟩, he => ⟨q, q1, q2, q3, h0, ⟨cell_ext he h1 (fun _ _ h => h), h2.ex he⟩, ⟨cell_ext he h3 (fun _ _ h => h), h4.ex he⟩, cell_ext he h5 (fun _ _ h => h), h6.ex he⟩
  | 0, _, _, _, _, _ => trivial
  | 1, _, _, _, _, _ => trivial
  | 2, _, _, _, _, _ => trivial
  | 3, _, _, _, _, _ => trivial
  | _ + 9, _, _, _, _, _ => trivial
theorem iPropSet_c (r : Option Nat) (o : Nat) (l : List Int) (obj name v : Int) (st : St) (hx : At st r o l) (hl : l.length ≤ 1048576) : ACalls Tryz.prog 46 [.agg [.sl r o l.length], I obj, I name, I v] st No (Ns st (pqL l obj name v) (pqO l obj name v)) := by
  have hR : (Rts l [obj, name, v] ∧ obj % 8 ∈ ([5] : List Int) ∧ name % 8 ∈ ([4] : List Int) ∧ v % 8 ∈ ([0, 1, 2, 3, 4, 5, 6] : List Int)) ↔ PtOk l obj name v := by
    unfold PtOk Isk
    have e : rd [obj, name, v] 0 = obj := rfl
    rw [e]
    refine ⟨fun h => ⟨by simpa using h.2.2.1, fun h7 => ?_, by simpa using h.2.1, h.1⟩, fun h => ⟨h.2.2.2, by simpa using h.2.2.1, by simpa using h.1, ?_⟩⟩
    · have := h.2.2.2; rw [h7] at this; simp at this
    · have h7 := h.2.1
      have : v % 8 = 0 ∨ v % 8 = 1 ∨ v % 8 = 2 ∨ v % 8 = 3 ∨ v % 8 = 4 ∨ v % 8 = 5 ∨ v % 8 = 6 := by omega
      simpa using this
  refine ent (N := 37) Tryz.func46 rfl (by decide) rfl rfl rfl ?_
  refine crr (by kernel_rfl) rfl ?_   -- region 0
  refine c_seq ?_
  refine cdM [0, 1, 2, 3] [4, 5, 6, 7, 8] [9, 10] [.f, .q] (fun i => i + 13) (PhiP obj name v) (by kernel_rfl) (by kernel_rfl) (phiP_ex obj name v) (by decide) ?_   -- region 1
  refine sr 4 rfl ?_
  refine s_end ⟨rfl, fun i hi op ho a st' hex hdep hsl hbx => ?_, fun a st' hex hphi hsl hbx => ?_⟩
  · have h14 : a.s 14 = I obj := (hsl 14 (by decide)).1
    have h15 : a.s 15 = I name := (hsl 15 (by decide)).1
    have h16 : a.s 16 = I v := (hsl 16 (by decide)).1
    simp only [List.mem_cons, List.not_mem_nil, or_false] at hi
    rcases hi with rfl | rfl | rfl | rfl | rfl
    · obtain rfl : _ = op := Option.some.inj ho
      exact oints [obj, name, v] loud_f rfl (by decide) (by show setA _ (partsA a [(0, .tmp 14), (1, .tmp 15), (2, .tmp 16)]) = _; simp only [partsA, av, h14, h15, h16]; rfl) (by simp [partsA, av, h14, h15, h16, oneA]) rfl fun q st1 hq e1 => ⟨_, rfl, ⟨q, rfl, hq.at_⟩, e1⟩
    · obtain rfl : _ = op := Option.some.inj ho
      exact oints [5] loud_f rfl (by decide) rfl rfl rfl fun q st1 hq e1 => ⟨_, rfl, ⟨q, rfl, hq.at_⟩, e1⟩
    · obtain rfl : _ = op := Option.some.inj ho
      exact oints [4] loud_f rfl (by decide) rfl rfl rfl fun q st1 hq e1 => ⟨_, rfl, ⟨q, rfl, hq.at_⟩, e1⟩
    · obtain rfl : _ = op := Option.some.inj ho
      refine o_ex loud_f rfl (anyPlain_c _) ?_
      rintro x st1 ⟨q, rfl, hq⟩ e1
      exact ⟨_, rfl, ⟨q, rfl, hq.at_⟩, e1⟩
    · obtain rfl : _ = op := Option.some.inj ho
      obtain ⟨q1, h18, a1⟩ := hdep 5 (by decide) ⟨_, by simp; exact .inl rfl, rfl, rfl⟩
      obtain ⟨q2, h19, a2⟩ := hdep 6 (by decide) ⟨_, by simp; exact .inr (.inl rfl), rfl, rfl⟩
      obtain ⟨q3, h20, a3⟩ := hdep 7 (by decide) ⟨_, by simp; exact .inr (.inr rfl), rfl, rfl⟩
      have h18 : a.s 18 = _ := h18
      have h19 : a.s 19 = _ := h19
      have h20 : a.s 20 = _ := h20
      exact oblk [.sl (some q1) 0 1, .sl (some q2) 0 1, .sl (some q3) 0 7] loud_f rfl (by decide) (by show setA _ (partsA a [(0, .tmp 18), (1, .tmp 19), (2, .tmp 20)]) = _; simp only [partsA, av, h18, h19, h20]; rfl) (by simp [partsA, av, h18, h19, h20, oneA]) fun q st1 hq e1 => ⟨_, rfl, ⟨q, q1, q2, q3, rfl, ⟨hq 0, a1.ex e1⟩, ⟨hq 1, a2.ex e1⟩, hq 2, a3.ex e1⟩, e1⟩
  · have h13 : a.s 13 = .agg [.sl r o l.length] := (hsl 13 (by decide)).1
    obtain ⟨q, h17, hq⟩ := hphi 4 (by decide)
    obtain ⟨q0, q1, q2, q3, h21, ⟨c1, a1⟩, ⟨c2, a2⟩, c3, a3⟩ := hphi 8 (by decide)
    have h17 : a.s 17 = _ := h17
    have h21 : a.s 21 = _ := h21
    refine s_op rfl (o_ex (Post := Pv (.bool (bd (Rts l [obj, name, v] ∧ obj % 8 ∈ ([5] : List Int) ∧ name % 8 ∈ ([4] : List Int) ∧ v % 8 ∈ ([0, 1, 2, 3, 4, 5, 6] : List Int))))) loud_f rfl ?_ ?_)
    · have e : avs a [.tmp 13, .tmp 17, .tmp 21] = [.agg [.sl r o l.length], .sl (some q) 0 [obj, name, v].length, .sl (some q0) 0 3] := by simp [avs, av, h13, h17, h21]
      show ACalls _ _ (avs a [.tmp 13, .tmp 17, .tmp 21]) _ _ _
      rw [e]
      exact ready3_c _ _ _ _ _ _ _ l [5] [4] [0, 1, 2, 3, 4, 5, 6] obj name v _ (hx.ex hex) hq hl c1 a1 (by decide) c2 a2 (by decide) c3 a3 (by decide)
    rintro _ st2 rfl e2
    have e12 := hex.tr e2
    refine sra rfl ?_
    refine c_mk [(1, I obj), (2, I name), (3, I v), (23, .bool (!bd (Rts l [obj, name, v] ∧ obj % 8 ∈ ([5] : List Int) ∧ name % 8 ∈ ([4] : List Int) ∧ v % 8 ∈ ([0, 1, 2, 3, 4, 5, 6] : List Int))))] [(4, 4, [.sl r o l.length]), (8, 8, [.sl none 0 0])]
      ⟨(hsl 1 (by decide)).1, (hsl 2 (by decide)).1, (hsl 3 (by decide)).1, rfl, trivial⟩ ⟨(hsl 4 (by decide)).2, congrFun hbx 4, (hsl 8 (by decide)).2, congrFun hbx 8, trivial⟩ ?_
    refine c_if rfl (fun h23 => ?_) (fun h23 => ?_)
    · have h23 : ¬ PtOk l obj name v := fun h => nbt h23 (hR.2 h)
      refine c_rs (by kernel_rfl) ?_   -- region 2
      refine sr 1 rfl ?_
      refine s_op rfl (o_ex loud_n rfl (asItWas_c _ _ _ _ (hx.ex e12) hl) ?_)
      rintro v2 st3 ⟨q, rfl, hf⟩ e3
      refine sra rfl ?_
      refine c_ret (fr rfl ⟨q, ?_, ?_⟩)
      · rw [pqL, pqO, gL_f h23, gO_f h23]
      · rw [pqL, gL_f h23]; exact hf.le e12.n
    · have h23 : PtOk l obj name v := hR.1 (nbf h23)
      refine c_skip ?_
      refine c_rs (by kernel_rfl) ?_   -- region 3
      refine sr 4 rfl ?_
      refine s_op rfl (o_ex loud_n rfl (propSet_c _ _ _ obj name v _ (hx.ex e12) (pt_in h23)) ?_)
      rintro v2 st3 ⟨q, rfl, hf⟩ e3
      refine sra rfl ?_
      refine crr (by kernel_rfl) rfl ?_   -- region 4
      refine c_ret (fr rfl ⟨q, ?_, ?_⟩)
      · rw [pqL, pqO, gL_t h23, gO_t h23]
      · rw [pqL, gL_t h23]; exact hf.le e12.n
end Go.Proofs.YtfhkjhnaihhdmaaGreatW.Ax
