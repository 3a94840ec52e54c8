/- Chapter 4, walked: texts. -/
import Derived.Test.YtfhkjhnaihhdmaaYk
namespace Go.Proofs.YtfhkjhnaihhdmaaW.Ax
open Go Go.RowKit Go.Proofs Go.Proofs.Ytfhkjhnaihhdmaa.Pure
set_option linter.unusedVariables false
set_option maxRecDepth 100000

/-- The bytes of a text. -/
def tx (l : List Int) (a : Int) (k : Nat) : List Int := (List.range k).map fun i : Nat => rd l (a + 2 + i)
theorem tx_len (l : List Int) (a : Int) (k : Nat) : (tx l a k).length = k := by simp [tx]
theorem tx_app (l : List Int) (a : Int) (k : Nat) : tx l a (k + 1) = tx l a k ++ [rd l (a + 2 + k)] := by simp [tx, List.range_succ]
def txt (l : List Int) (a : Int) : ByteArray := bstr (tx l a (rd l (a + 1)).toNat)
theorem l4Bytes_c (r : Option Nat) (o : Nat) (l : List Int) (a n : Int) (st : St) (hx : At st r o l) (ha : 0 ≤ a) (hn : 2 ≤ n) (han : a + n ≤ l.length) (hl : l.length ≤ 2000) (ht : Txt l a n) : ACalls Try.prog 126 [.agg [.sl r o l.length], I a] st No (Pv (.str (txt l a))) := by
  have h1 := ht.1
  have h3 := ht.2.2
  refine ent (N := 32) Try.func126 rfl (by decide) rfl rfl rfl ?_
  refine crr (by kernel_rfl) rfl ?_   -- region 0
  refine c_rs (by kernel_rfl) ?_   -- region 1
  refine s_op rfl (obslice loud_n rfl (by decide) rfl rfl ?_)
  refine sra rfl ?_
  refine c_seq ?_
  refine crr (by kernel_rfl) rfl ?_   -- region 2
  refine c_block ?_
  refine c_lp (α := Nat × Option Nat) (fun i => [(1, I a), (5, .sl i.2 0 (tx l a i.1).length), (6, I i.1)]) (fun _ => [(2, 2, [.sl r o l.length])]) (fun i st' => Ex st st' ∧ (i.1 : Int) ≤ rd l (a + 1) ∧ Fb st.n st' i.2 (tx l a i.1)) (fun i => (rd l (a + 1) - i.1).toNat) (0, some st.n) ⟨rfl, rfl, rfl, trivial⟩ ⟨rfl, rfl, trivial⟩ ⟨ex_push _ _, by dsimp only; omega, fb_push st []⟩ ?_
  rintro ⟨i, q⟩ st1 ⟨he, hi, hf⟩
  dsimp only at *
  have hx1 := hx.ex he
  have htl := tx_len l a i
  refine c_seq ?_
  refine c_rs (by kernel_rfl) ?_   -- region 3
  refine sr 4 rfl ?_
  refine s_op rfl (o_ar rfl rfl rfl (by omega) (by omega) ?_)
  refine s_op rfl (oidx rfl rfl rfl (by omega) (by omega) ?_)
  refine s_op rfl (old rfl rfl (hx1.rd (by omega) (by omega)) ?_)
  refine sra rfl ?_
  refine c_if rfl (fun h15 => ?_) (fun h15 => ?_)
  · have h15 := of_decide_eq_true h15
    have hb := h3 i (by omega) h15
    refine c_skip ?_
    refine c_seq ?_
    refine c_block ?_
    refine c_region (by kernel_rfl) ?_   -- region 5
    refine sr 4 rfl ?_
    refine s_op rfl (o_ar rfl rfl rfl (by omega) (by omega) ?_)
    refine sr 1 rfl ?_
    refine s_op rfl (o_ar rfl rfl rfl (by omega) (by omega) ?_)
    refine s_op rfl (oidx rfl rfl rfl (by omega) (by omega) ?_)
    refine s_op rfl (old rfl rfl (hx1.rd (by omega) (by omega)) ?_)
    refine s_op rfl (oconv rfl rfl rfl rfl (by rw [IntKind.wrap_u8]; omega) ?_)
    refine s_op rfl (obslice loud_n rfl (by decide) rfl rfl ?_)
    refine s_op rfl (oappB rfl rfl rfl (hf.ex (ex_push _ _)) rfl (cell_push1 _ _) (by omega) fun q2 st2 hf2 he2 => ?_)
    refine sra rfl ?_
    refine c_region (by kernel_rfl) ?_   -- region 4
    refine sr 1 rfl ?_
    refine s_op rfl (o_ar rfl rfl rfl (by omega) (by omega) ?_)
    rw [← tx_app] at hf2 ⊢
    refine sra rfl ⟨(i + 1, q2), ⟨rfl, rfl, rfl, trivial⟩, ⟨rfl, rfl, trivial⟩, ⟨(he.tr (ex_push _ _)).ownb (hf.ex (ex_push _ _)) he2, by dsimp only; omega, hf2⟩, by dsimp only; omega⟩
  · have h15 := of_decide_eq_false h15
    refine c_exit ?_
    refine c_rs (by kernel_rfl) ?_   -- region 6
    refine sr 1 rfl ?_
    have hi' : i = (rd l (a + 1)).toNat := by omega
    refine s_op rfl (obstr rfl ⟨_, rfl, rfl⟩ rfl rfl (ns := tx l a i) ?_ ?_)
    · refine ⟨q, 0, by rw [List.length_map]; rfl, fun j hj => ?_⟩
      rcases hf with ⟨_, h⟩ | ⟨k, rfl, _, hk, ho⟩
      · rw [h] at hj; simp at hj
      · rw [cell_row hk ho, Nat.zero_add, List.getElem?_eq_getElem hj, List.getD_eq_getElem?_getD, List.getElem?_eq_getElem hj]; rfl
    refine sra rfl ?_
    refine c_ret (fr rfl ?_)
    rw [hi']; rfl
theorem At.some_of {l : List Int} {r : Option Nat} {o : Nat} {st : St} (hx : At st r o l) (h : 0 < l.length) : ∃ q, r = some q := by
  cases r with
  | some q => exact ⟨q, rfl⟩
  | none =>
    have := hx 0 h
    cases this
theorem textAt_c (r : Option Nat) (o : Nat) (l : List Int) (a n : Int) (st : St) (hx : At st r o l) (ha : 0 ≤ a) (hn : 2 ≤ n) (han : a + n ≤ l.length) (hl : l.length ≤ 2000) (ht : Txt l a n) : ACalls Try.prog 125 [.agg [.sl r o l.length], I a] st No (Pv (.str (txt l a))) := by
  obtain ⟨q0, rfl⟩ := hx.some_of (by omega)
  have h1 := ht.1
  have h3 := ht.2.2
  obtain ⟨p, rfl⟩ : ∃ p : Nat, a = p := ⟨a.toNat, by omega⟩
  obtain ⟨k, hk⟩ : ∃ k : Nat, rd l (p + 1) = k := ⟨(rd l (p + 1)).toNat, by omega⟩
  refine ent (N := 35) Try.func125 rfl (by decide) rfl rfl rfl ?_
  refine crr (by kernel_rfl) rfl ?_   -- region 0
  refine crr (by kernel_rfl) rfl ?_   -- region 1
  refine c_seq ?_
  refine cds [0, 1, 2, 3, 4, 5, 6, 7, 8, 9, 10, 11, 12, 13, 14, 15] [.q, .q, .q, .q, .q, .q, .q, .q, .q, .q, .q, .q, .q, .q, .q, .q] (by kernel_rfl) (by kernel_rfl) ?_
  refine sr 3 rfl ?_
  refine s_op rfl (o_ar rfl rfl rfl (by omega) (by omega) ?_)
  refine sr 1 rfl ?_
  refine s_op rfl (o_ar rfl rfl rfl (by omega) (by omega) ?_)
  refine sr 3 rfl ?_
  refine s_op rfl (o_ar rfl rfl rfl (by omega) (by omega) ?_)
  refine s_op rfl (oidx rfl rfl rfl (by omega) (by omega) ?_)
  refine s_op rfl (old rfl rfl (hx.rd (by omega) (by omega)) ?_)
  rw [hk]
  refine s_op rfl (o_ar rfl rfl rfl (by omega) (by omega) ?_)
  refine s_op rfl (oslice rfl rfl rfl rfl (by omega) (by omega) (by omega) ?_)
  have e1 : (cond (some q0).isNone 0 (o + ((p : Int) + 2).toNat)) = o + (p + 2) := by show o + ((p : Int) + 2).toNat = _; omega
  have e2 : ((p : Int) + 2 + (k : Int)).toNat - ((p : Int) + 2).toNat = k := by omega
  rw [e1, e2]
  refine sra rfl ?_
  refine c_block ?_
  refine c_lp (α := Nat × Option Nat) (fun i => [(5, .sl i.2 0 (tx l p i.1).length), (21, .sl (some q0) (o + (p + 2)) k), (22, I k), (23, I i.1)]) (fun _ => []) (fun i st' => Ex st st' ∧ i.1 ≤ k ∧ Fb st.n st' i.2 (tx l p i.1)) (fun i => k - i.1) (0, none) ⟨rfl, rfl, rfl, rfl, trivial⟩ trivial ⟨Ext.refl _ _, Nat.zero_le _, .inl ⟨rfl, rfl⟩⟩ ?_
  rintro ⟨i, q⟩ st1 ⟨he, hi, hf⟩
  dsimp only at *
  have hx1 := hx.ex he
  have htl := tx_len l p i
  refine crr (by kernel_rfl) rfl ?_   -- region 3
  refine c_seq ?_
  refine c_if rfl (fun h24 => ?_) (fun h24 => ?_)
  · have h24 := of_decide_eq_true h24
    have hb := h3 i (by omega) (by omega)
    refine c_skip ?_
    refine c_seq ?_
    refine c_block ?_
    refine c_rs (by kernel_rfl) ?_   -- region 4
    refine s_op rfl (oidx rfl rfl rfl (by omega) (by omega) ?_)
    have hc := hx1.rd (i := (p : Int) + 2 + i) (by omega) (by omega)
    rw [show o + ((p : Int) + 2 + i).toNat = o + (p + 2) + (i : Int).toNat by omega] at hc
    refine s_op rfl (old rfl rfl hc ?_)
    refine sra rfl ?_
    refine c_region (by kernel_rfl) ?_   -- region 5
    refine sr 2 rfl ?_
    refine s_op rfl (oconv rfl rfl rfl rfl (by rw [IntKind.wrap_u8]; omega) ?_)
    refine s_op rfl (obslice loud_n rfl (by decide) rfl rfl ?_)
    refine s_op rfl (oappB rfl rfl rfl (hf.ex (ex_push _ _)) rfl (cell_push1 _ _) (by omega) fun q2 st2 hf2 he2 => ?_)
    refine sra rfl ?_
    refine c_region (by kernel_rfl) ?_   -- region 6
    refine s_op rfl (o_ar rfl rfl rfl (by omega) (by omega) ?_)
    rw [← tx_app] at hf2 ⊢
    refine sra rfl ⟨(i + 1, q2), ⟨rfl, rfl, rfl, rfl, trivial⟩, trivial, ⟨(he.tr (ex_push _ _)).ownb (hf.ex (ex_push _ _)) he2, by dsimp only; omega, hf2⟩, by dsimp only; omega⟩
  · have h24 := of_decide_eq_false h24
    have hi' : i = k := by omega
    refine c_exit ?_
    refine c_rs (by kernel_rfl) ?_   -- region 7
    refine sr 1 rfl ?_
    refine s_op rfl (obstr rfl ⟨_, rfl, rfl⟩ rfl rfl (ns := tx l p i) ?_ ?_)
    · refine ⟨q, 0, by rw [List.length_map]; rfl, fun j hj => ?_⟩
      rcases hf with ⟨_, h⟩ | ⟨k', rfl, _, hk', ho⟩
      · rw [h] at hj; simp at hj
      · rw [cell_row hk' ho, Nat.zero_add, List.getElem?_eq_getElem hj, List.getD_eq_getElem?_getD, List.getElem?_eq_getElem hj]; rfl
    refine sra rfl ?_
    refine c_ret (fr rfl ?_)
    rw [txt, hk, hi']; rfl
end Go.Proofs.YtfhkjhnaihhdmaaW.Ax
