/- A value as the reference shows it. -/
import Derived.Test.YtmphklmhhcmbnaaDoorPb
import Derived.Test.YtmphklmhhcmbnaaDoorQ1
namespace Go.Proofs.YtmphklmhhcmbnaaDoorW.Ax
open Go Go.RowKit Go.Proofs Go.Proofs.YtmphklmhhcmbnaaDoor.Pure
set_option linter.unusedVariables false
set_option maxRecDepth 100000
/-- A block's number in a row of blocks. -/
def atS (x : Int) : List Int → Nat → ByteArray
  | [], _ => ⟨#[32, 64]⟩
  | y :: l, i => if y = x then ⟨#[32, 64]⟩ ++ numeral i else atS x l (i + 1)
def valS (order : List Int) (v : Int) : ByteArray :=
  if v % 8 = 0 then ⟨#[32, 117, 110, 100, 101, 102]⟩ else if v % 8 = 1 then ⟨#[32, 110, 117, 108, 108]⟩
  else if v % 8 = 2 then (if v / 8 = 1 then ⟨#[32, 116, 114, 117, 101]⟩ else ⟨#[32, 102, 97, 108, 115, 101]⟩)
  else if v % 8 = 3 then ⟨#[32]⟩ ++ numeral (v / 8) else atS (v / 8) order 0
theorem atS_drop (x : Int) (l : List Int) (i : Nat) (h : i < l.length) : atS x (l.drop i) i = if rd l i = x then ⟨#[32, 64]⟩ ++ numeral i else atS x (l.drop (i + 1)) (i + 1) := by
  rw [List.drop_eq_getElem_cons h]
  have e : rd l i = l[i] := by simp [rd, List.getD, h]
  rw [e]; rfl
theorem l7Digits_n (n : Int) (st : St) (h0 : -9223372036854775808 ≤ n) (h1 : n ≤ 9223372036854775807) : ACalls Tryd.prog 30 [I n] st No (Pv (.str (numeral n))) := dgN_numeral n ▸ l7Digits_c n st h0 h1
theorem l7Value_c (r : Option Nat) (o : Nat) (l : List Int) (v : Int) (st : St) (hx : At st r o l) (hl : l.length ≤ 1099511627776) (h0 : -9223372036854775808 ≤ v) (h1 : v ≤ 9223372036854775807) :
    ACalls Tryd.prog 17 [I v, .sl r o l.length] st No (Pv (.str (valS l v))) := by
  refine ent (N := 39) Tryd.func17 rfl (by decide) rfl rfl rfl ?_
  refine crr (by kernel_rfl) rfl ?_   -- region 0
  refine c_seq ?_
  refine c_rs (by kernel_rfl) ?_   -- region 1
  refine sr 1 rfl ?_
  refine s_op rfl (o_pure loud_n rfl (Kind_c ..) ?_)
  refine s_end ?_
  refine c_block ?_
  refine crr (by kernel_rfl) rfl ?_   -- region 2
  refine c_if rfl (fun h8 => ?_) (fun h8 => ?_)
  · -- then
    have h8 : v % 8 = 0 := of_decide_eq_true h8
    refine crr (by kernel_rfl) rfl ?_   -- region 3
    exact c_ret (fr rfl (by unfold Pv valS; rw [if_pos h8]))
  · -- else
    have h8 : ¬ v % 8 = 0 := of_decide_eq_false h8
    refine crr (by kernel_rfl) rfl ?_   -- region 4
    refine c_if rfl (fun h10 => ?_) (fun h10 => ?_)
    · -- then
      have h10 : v % 8 = 1 := of_decide_eq_true h10
      refine crr (by kernel_rfl) rfl ?_   -- region 5
      exact c_ret (fr rfl (by unfold Pv valS; rw [if_neg h8, if_pos h10]))
    · -- else
      have h10 : ¬ v % 8 = 1 := of_decide_eq_false h10
      refine crr (by kernel_rfl) rfl ?_   -- region 6
      refine c_if rfl (fun h12 => ?_) (fun h12 => ?_)
      · -- then
        have h12 : v % 8 = 2 := of_decide_eq_true h12
        refine c_seq ?_
        refine c_rs (by kernel_rfl) ?_   -- region 7
        refine sr 1 rfl ?_
        refine s_op rfl (o_pure loud_n rfl (Num_c ..) ?_)
        refine sra rfl ?_
        refine c_if rfl (fun h16 => ?_) (fun h16 => ?_)
        · -- then
          have h16 : v / 8 = 1 := of_decide_eq_true h16
          refine crr (by kernel_rfl) rfl ?_   -- region 8
          exact c_ret (fr rfl (by unfold Pv valS; rw [if_neg h8, if_neg h10, if_pos h12, if_pos h16]))
        · -- else
          have h16 : ¬ v / 8 = 1 := of_decide_eq_false h16
          refine c_skip ?_
          refine crr (by kernel_rfl) rfl ?_   -- region 9
          exact c_ret (fr rfl (by unfold Pv valS; rw [if_neg h8, if_neg h10, if_pos h12, if_neg h16]))
      · -- else
        have h12 : ¬ v % 8 = 2 := of_decide_eq_false h12
        refine crr (by kernel_rfl) rfl ?_   -- region 10
        refine c_if rfl (fun h17 => ?_) (fun h17 => ?_)
        · -- then
          have h17 : v % 8 = 3 := of_decide_eq_true h17
          refine c_rs (by kernel_rfl) ?_   -- region 11
          refine sr 1 rfl ?_
          refine s_op rfl (o_pure loud_n rfl (Num_c ..) ?_)
          refine s_op rfl (o_ex loud_n rfl (l7Digits_n (v / 8) _ (by omega) (by omega)) ?_)
          rintro v1 st1 rfl e1
          refine s_op rfl (o_cat (s := ⟨#[32]⟩) rfl rfl (by have := numeral_size (v / 8) (by omega) (by omega); show 1 + (numeral (v / 8)).size ≤ _; omega) ?_)
          refine sra rfl ?_
          exact c_ret (fr rfl (by unfold Pv valS; rw [if_neg h8, if_neg h10, if_neg h12, if_pos h17]))
        · -- else
          have h17 : ¬ v % 8 = 3 := of_decide_eq_false h17
          have hv : valS l v = atS (v / 8) l 0 := by unfold valS; rw [if_neg h8, if_neg h10, if_neg h12, if_neg h17]
          rw [hv]
          refine c_skip ?_
          refine c_seq ?_
          refine crr (by kernel_rfl) rfl ?_   -- region 12
          refine c_block ?_
          refine c_lp (α := Nat) (fun i => [(0, I v), (1, .sl r o l.length), (5, I i)]) (fun _ => []) (fun i st' => st = st' ∧ i ≤ l.length ∧ atS (v / 8) (l.drop i) i = atS (v / 8) l 0) (fun i => l.length - i) 0 ⟨rfl, rfl, rfl, trivial⟩ trivial ⟨rfl, Nat.zero_le _, rfl⟩ ?_
          rintro i st' ⟨rfl, hi, hn⟩
          refine c_seq ?_
          refine crr (by kernel_rfl) rfl ?_   -- region 13
          refine c_if rfl (fun h26 => ?_) (fun h26 => ?_)
          · -- then
            have h26 := of_decide_eq_true h26
            rw [atS_drop _ _ _ (by omega)] at hn
            refine c_skip ?_
            refine c_seq ?_
            refine c_block ?_
            refine cds [0, 1, 2, 3, 4, 5, 6] [.q, .q, .q, .q, .q, .f, .q] (by kernel_rfl) (by kernel_rfl) ?_   -- region 15
            refine sr 2 rfl ?_
            refine s_op rfl (oidx rfl rfl rfl (by omega) (by omega) ?_)
            refine s_op rfl (old rfl rfl (hx.rd (by omega) (by omega)) ?_)
            refine sr 1 rfl ?_
            refine s_op rfl (o_pure loud_f rfl (Num_c ..) ?_)
            refine sra rfl ?_
            refine c_if rfl (fun h35 => ?_) (fun h35 => ?_)
            · -- then
              have h35 : rd l i = v / 8 := of_decide_eq_true h35
              rw [if_pos h35] at hn
              rw [← hn]
              refine c_rs (by kernel_rfl) ?_   -- region 16
              refine sr 1 rfl ?_
              refine s_op rfl (o_ex loud_n rfl (l7Digits_n i _ (by omega) (by omega)) ?_)
              rintro v1 st1 rfl e1
              refine s_op rfl (o_cat (s := ⟨#[32, 64]⟩) rfl rfl (by have := numeral_size i (by omega) (by omega); show 2 + (numeral i).size ≤ _; omega) ?_)
              refine sra rfl ?_
              exact c_ret (fr rfl rfl)
            · -- else
              have h35 : ¬ rd l i = v / 8 := of_decide_eq_false h35
              rw [if_neg h35] at hn
              refine c_skip ?_
              refine c_region (by kernel_rfl) ?_   -- region 14
              refine sr 1 rfl ?_
              refine s_op rfl (o_ar rfl rfl rfl (by omega) (by omega) ?_)
              exact sra rfl ⟨i + 1, ⟨rfl, rfl, rfl, trivial⟩, trivial, ⟨rfl, by omega, hn⟩, by omega⟩   -- round ends
          · -- else
            have h26 := of_decide_eq_false h26
            refine c_exit ?_
            refine crr (by kernel_rfl) rfl ?_   -- region 17
            refine c_ret (fr rfl ?_)
            rw [show i = l.length by omega, List.drop_length] at hn
            rw [← hn]; rfl
end Go.Proofs.YtmphklmhhcmbnaaDoorW.Ax
