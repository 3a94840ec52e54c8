/- The line of a block: the program's walk. -/
import Derived.Test.YtmphklmhhcmbnaaDoorPj
namespace Go.Proofs.YtmphklmhhcmbnaaDoorW.Ax
open Go Go.RowKit Go.Proofs Go.Proofs.YtmphklmhhcmbnaaDoor.Pure
set_option linter.unusedVariables false
set_option maxRecDepth 100000
theorem text_slots {l : List Int} {a : Int} (h : rd l a % 8 = 1) : slotsL l a = [] := by
  have hk := kind_rd l a
  unfold slotsL
  rw [← hk, h]
  rfl
theorem blockLine_c (r : Option Nat) (o m : Nat) (l order : List Int) (a : Int) (st : St) (ht : Tab Tryd.prog st) (hx : At st r o l) (hm : NumM st m order) (ha : a ∈ blocks l) (hk : LnOk l a) (hw : W64 l) (hl : l.length ≤ 1048576) (hlo : order.length ≤ 1048576)
    (hin : ∀ k ∈ slotsL l a, 4 ≤ rd l k % 8 → rd l k / 8 ∈ order) :
    ACalls Tryd.prog 22 [.agg [.sl r o l.length], I a, .map m] st No (Pv (.str (lineS order l a))) := by
  have k0 := hk.a0
  have k1 := hk.a1
  refine ent (N := 108) Tryd.func22 rfl (by decide) rfl rfl rfl ?_
  refine crr (by kernel_rfl) rfl ?_   -- region 0
  refine crr (by kernel_rfl) rfl ?_   -- region 1
  refine c_rs (by kernel_rfl) ?_   -- region 2
  refine sr 3 rfl ?_
  refine s_op rfl (oidx rfl rfl rfl (by omega) (by omega) ?_)
  refine s_op rfl (old rfl rfl (hx.rd (by omega) (by omega)) ?_)
  refine sra rfl ?_
  refine c_sj (α := Unit) (fun _ => [(1, I a), (2, .map m), (7, .str (headS l a)), (8, I (rd l a % 8))]) (fun _ => [(3, 3, [.sl r o l.length])]) (fun _ st' => st = st' ∧ ¬ rd l a % 8 = 1) ?_ ?_
  · -- ways that meet
    refine crr (by kernel_rfl) rfl ?_   -- region 3
    refine c_block ?_
    refine crr (by kernel_rfl) rfl ?_   -- region 5
    refine c_if rfl (fun h21 => ?_) (fun h21 => ?_)
    · -- then
      have h21 : rd l a % 8 = 1 := of_decide_eq_true h21
      obtain ⟨t1, t2, t3⟩ := hk.tx h21
      have hsl : slotsL l a = [] := text_slots h21
      have hleft : leftS l a = [] := by unfold leftS; rw [if_neg (by omega), hsl]
      have hline : lineS order l a = txS l a (rd l (a + 1)).toNat := by
        unfold lineS
        rw [hleft]
        show headS l a = _
        unfold headS
        rw [if_pos h21]
      obtain ⟨q0, rfl⟩ : ∃ q, r = some q := by
        cases r with
        | none => have := hx 0 (by omega); cases this
        | some q => exact ⟨q, rfl⟩
      rw [hline]
      have ht2 := hx
      refine crr (by kernel_rfl) rfl ?_   -- region 6
      refine c_seq ?_
      refine cds [0, 1, 2, 3, 4, 5, 6, 7, 8, 9, 10, 11, 12, 13, 14, 15] [.q, .q, .q, .q, .q, .q, .q, .q, .q, .q, .q, .q, .q, .q, .q, .q] (by kernel_rfl) (by kernel_rfl) ?_   -- region 7
      refine sr 3 rfl ?_
      refine s_op rfl (o_ar rfl rfl rfl (by omega) (by omega) ?_)
      refine sr 1 rfl ?_
      refine s_op rfl (o_ar rfl rfl rfl (by omega) (by omega) ?_)
      refine sr 3 rfl ?_
      refine s_op rfl (o_ar rfl rfl rfl (by omega) (by omega) ?_)
      refine s_op rfl (oidx rfl rfl rfl (by omega) (by omega) ?_)
      refine s_op rfl (old rfl rfl (hx.rd (by omega) (by omega)) ?_)
      refine s_op rfl (o_ar rfl rfl rfl (by omega) (by omega) ?_)
      refine s_op rfl (oslE (o' := o + (a + 2).toNat) (n' := (rd l (a + 1)).toNat) rfl rfl rfl rfl (by omega) (by omega) (by omega) rfl (by omega) ?_)
      refine sra rfl ?_
      refine c_block ?_
      refine c_lp (α := Nat) (fun i => [(7, .str (txS l a i)), (36, .sl (some q0) (o + (a + 2).toNat) (rd l (a + 1)).toNat), (37, I (rd l (a + 1)).toNat), (38, I i)]) (fun _ => []) (fun i st' => st = st' ∧ (i : Int) ≤ rd l (a + 1)) (fun i => (rd l (a + 1)).toNat - i) 0 ⟨rfl, rfl, rfl, rfl, trivial⟩ trivial ⟨rfl, by omega⟩ ?_
      rintro i st2 ⟨rfl, hi⟩
      have hts := txS_size l a (fun i => hw.rd i) i
      refine crr (by kernel_rfl) rfl ?_   -- region 8
      refine c_seq ?_
      refine c_if rfl (fun h39 => ?_) (fun h39 => ?_)
      · -- then
        have h39 := of_decide_eq_true h39
        have hv := hw.rd (a + 2 + i)
        unfold W1 at hv
        have hns := numeral_size (rd l (a + 2 + i)) hv.1 hv.2
        have hcell : cell st (some q0) (o + (a + 2).toNat + (i : Int).toNat) = some (I (rd l (a + 2 + i))) := by
          rw [show o + (a + 2).toNat + (i : Int).toNat = o + (a + 2 + i).toNat by omega]
          exact hx.rd (by omega) (by omega)
        have hnx : txS l a (i + 1) = txS l a i ++ (⟨#[32]⟩ ++ numeral (rd l (a + 2 + i))) := ByteArray.append_assoc
        have h1s : (⟨#[32]⟩ ++ numeral (rd l (a + 2 + i)) : ByteArray).size = 1 + (numeral (rd l (a + 2 + i))).size := by rw [ByteArray.size_append]; rfl
        refine c_skip ?_
        refine c_seq ?_
        refine c_block ?_
        refine c_rs (by kernel_rfl) ?_   -- region 9
        refine s_op rfl (oidx rfl rfl rfl (by omega) (by omega) ?_)
        refine s_op rfl (old rfl rfl hcell ?_)
        refine sra rfl ?_
        refine c_region (by kernel_rfl) ?_   -- region 10
        refine sr 2 rfl ?_
        refine s_op rfl (o_pure loud_n rfl (Itoa_c (rd l (a + 2 + i)) _ hv.1 hv.2 ht) ?_)
        refine s_op rfl (o_cat (s := ⟨#[32]⟩) rfl rfl (by show 1 + _ ≤ _; omega) ?_)
        refine s_op rfl (o_cat rfl rfl (by rw [h1s]; omega) ?_)
        refine sra rfl ?_
        refine c_region (by kernel_rfl) ?_   -- region 11
        refine s_op rfl (o_ar rfl rfl rfl (by omega) (by omega) ?_)
        exact sra rfl ⟨i + 1, ⟨by rw [hnx]; rfl, rfl, rfl, rfl, trivial⟩, trivial, ⟨rfl, by omega⟩, by omega⟩   -- round ends
      · -- else
        have h39 := of_decide_eq_false h39
        have e : (rd l (a + 1)).toNat = i := by omega
        refine c_exit ?_
        refine crr (by kernel_rfl) rfl ?_   -- region 12
        exact c_ret (fr rfl (by rw [e]; rfl))
    · -- else
      have h21 : ¬ rd l a % 8 = 1 := of_decide_eq_false h21
      refine crr (by kernel_rfl) rfl ?_   -- region 13
      refine c_if rfl (fun h49 => ?_) (fun h49 => ?_)
      · -- then
        have h49 : rd l a % 8 = 2 := of_decide_eq_true h49
        have hhead : headS l a = ⟨#[111, 98, 106]⟩ := by unfold headS; rw [if_neg h21, if_pos h49]
        rw [hhead]
        refine c_region (by kernel_rfl) ?_   -- region 14
        exact sra rfl ⟨(), ⟨rfl, rfl, rfl, rfl, trivial⟩, ⟨rfl, rfl, trivial⟩, rfl, h21⟩
      · -- else
        have h49 : ¬ rd l a % 8 = 2 := of_decide_eq_false h49
        refine crr (by kernel_rfl) rfl ?_   -- region 15
        refine c_if rfl (fun h51 => ?_) (fun h51 => ?_)
        · -- then
          have h51 : rd l a % 8 = 3 := of_decide_eq_true h51
          have hhead : headS l a = ⟨#[99, 101, 108, 108]⟩ := by unfold headS; rw [if_neg h21, if_neg h49, if_pos h51]
          rw [hhead]
          refine c_region (by kernel_rfl) ?_   -- region 16
          exact sra rfl ⟨(), ⟨rfl, rfl, rfl, rfl, trivial⟩, ⟨rfl, rfl, trivial⟩, rfl, h21⟩
        · -- else
          have h51 : ¬ rd l a % 8 = 3 := of_decide_eq_false h51
          refine crr (by kernel_rfl) rfl ?_   -- region 17
          refine c_if rfl (fun h53 => ?_) (fun h53 => ?_)
          · -- then
            have h53 : rd l a % 8 = 4 := of_decide_eq_true h53
            have hf := hk.fn h53
            have hv := hw.rd (a + 1)
            unfold W1 at hv
            have hhead : headS l a = ⟨#[102, 117, 110, 32]⟩ ++ numeral (rd l (a + 1)) := by unfold headS; rw [if_neg h21, if_neg h49, if_neg h51, if_pos h53]
            have hns := numeral_size (rd l (a + 1)) hv.1 hv.2
            rw [hhead]
            refine c_region (by kernel_rfl) ?_   -- region 18
            refine sr 3 rfl ?_
            refine s_op rfl (o_ar rfl rfl rfl (by omega) (by omega) ?_)
            refine s_op rfl (oidx rfl rfl rfl (by omega) (by omega) ?_)
            refine s_op rfl (old rfl rfl (hx.rd (by omega) (by omega)) ?_)
            refine s_op rfl (o_pure loud_n rfl (Itoa_c (rd l (a + 1)) _ hv.1 hv.2 ht) ?_)
            refine s_op rfl (o_cat (s := ⟨#[102, 117, 110, 32]⟩) rfl rfl (by show 4 + _ ≤ _; omega) ?_)
            exact sra rfl ⟨(), ⟨rfl, rfl, rfl, rfl, trivial⟩, ⟨rfl, rfl, trivial⟩, rfl, h21⟩
          · -- else
            have h53 : ¬ rd l a % 8 = 4 := of_decide_eq_false h53
            have hhead : headS l a = ⟨#[115, 99, 111, 112, 101]⟩ := by unfold headS; rw [if_neg h21, if_neg h49, if_neg h51, if_neg h53]
            rw [hhead]
            refine c_region (by kernel_rfl) ?_   -- region 4
            exact sra rfl ⟨(), ⟨rfl, rfl, rfl, rfl, trivial⟩, ⟨rfl, rfl, trivial⟩, rfl, h21⟩
  rintro _ st2 ⟨rfl, h21⟩
  have htr := trN_le l (slotsL l a) (slotsL l a).length
  have hln := hk.ln
  have hhs := head_size hk hw hl
  refine c_rs (by kernel_rfl) ?_   -- region 19
  refine sr 2 rfl ?_
  refine s_op rfl (o_ex loud_n rfl (slots_c r o l a _ hx ha) ?_)
  rintro v1 st1 ⟨q, rfl, hq⟩ e1
  have hx1 := hx.ex e1
  have hm1 := hm.ex e1
  have ht1 := ht.ex e1
  have hq1 := hq.at_
  clear hq
  refine sra rfl ?_
  refine c_seq ?_
  refine c_block ?_
  refine c_lp (α := Nat) (fun n => [(2, .map m), (7, .str (headS l a)), (8, I (rd l a % 8)), (11, .sl q 0 n)]) (fun _ => [(3, 3, [.sl r o l.length])]) (fun n st' => st1 = st' ∧ n ≤ (slotsL l a).length ∧ (rd l a % 8 ≠ 5 → n = (slotsL l a).length) ∧ trN l (slotsL l a) n = trN l (slotsL l a) (slotsL l a).length) (fun n => n) (slotsL l a).length ⟨rfl, rfl, rfl, rfl, trivial⟩ ⟨rfl, rfl, trivial⟩ ⟨rfl, Nat.le_refl _, fun _ => rfl, rfl⟩ ?_
  rintro n st3 ⟨rfl, hn, hk5, ht5⟩
  refine c_seq ?_
  refine c_sj (α := Bool) (fun b => [(2, .map m), (7, .str (headS l a)), (8, I (rd l a % 8)), (11, .sl q 0 n), (85, .bool b)]) (fun _ => [(3, 3, [.sl r o l.length])]) (fun b st' => st1 = st' ∧ (b = true ↔ (rd l a % 8 = 5 ∧ 0 < n ∧ rd l (rd (slotsL l a) ((n : Int) - 1)) = 0))) ?_ ?_
  · -- region 20
    refine cd1 [0, 1, 2, 3, 4, 5, 6, 7, 8, 9, 10, 11, 12, 13, 14, 15, 16, 17, 18, 19] [.q, .q, .q, .q, .q, .q, .q, .q, .q, .q, .q, .q, .q, .q, .q, .q, .q, .q, .q, .q] (by kernel_rfl) (by kernel_rfl) ?_
    refine sr 3 rfl ?_
    refine s_bool 68 rfl rfl (fun h68 => ?_) (fun h68 => ?_)
    · -- slot 68 true
      have h68 : rd l a % 8 = 5 := of_decide_eq_true h68
      refine sr 5 rfl ?_
      refine s_bool 73 rfl rfl (fun h73 => ?_) (fun h73 => ?_)
      · -- slot 73 true
        have h73 := of_decide_eq_true h73
        have hmm := hk.sl _ (mem_rd (show n - 1 < (slotsL l a).length by omega))
        have en : ((n - 1 : Nat) : Int) = (n : Int) - 1 := by omega
        rw [en] at hmm
        refine sr 5 rfl ?_
        refine s_op rfl (o_ar rfl rfl rfl (by omega) (by omega) ?_)
        refine s_op rfl (oidx rfl rfl rfl (by omega) (by omega) ?_)
        refine s_op rfl (old rfl rfl (hq1.rd (by omega) (by omega)) ?_)
        refine s_op rfl (oidx rfl rfl rfl (by omega) (by omega) ?_)
        refine s_op rfl (old rfl rfl (hx1.rd (by omega) (by omega)) ?_)
        exact sra rfl ⟨_, ⟨rfl, rfl, rfl, rfl, rfl, trivial⟩, ⟨rfl, rfl, trivial⟩, rfl, ⟨fun h => ⟨h68, by omega, of_decide_eq_true h⟩, fun h => decide_eq_true h.2.2⟩⟩
      · -- slot 73 false
        have h73 := of_decide_eq_false h73
        exact sra rfl ⟨false, ⟨rfl, rfl, rfl, rfl, rfl, trivial⟩, ⟨rfl, rfl, trivial⟩, rfl, ⟨fun h => (by cases h), fun h => absurd (by have := h.2.1; omega) h73⟩⟩
    · -- slot 68 false
      have h68 : ¬ rd l a % 8 = 5 := of_decide_eq_false h68
      exact sra rfl ⟨false, ⟨rfl, rfl, rfl, rfl, rfl, trivial⟩, ⟨rfl, rfl, trivial⟩, rfl, ⟨fun h => (by cases h), fun h => absurd h.1 h68⟩⟩
  rintro b st3 ⟨rfl, hb1⟩
  refine c_if rfl (fun h85 => ?_) (fun h85 => ?_)
  · -- then
    obtain ⟨n5, n0, n1⟩ := hb1.1 h85
    obtain ⟨n, rfl⟩ : ∃ n', n = n' + 1 := ⟨n - 1, by omega⟩
    rw [show ((n + 1 : Nat) : Int) - 1 = n by omega] at n1
    rw [trN, if_pos n1] at ht5
    refine c_skip ?_
    refine c_block ?_
    refine c_region (by kernel_rfl) ?_   -- region 21
    refine sr 3 rfl ?_
    refine s_op rfl (o_ar rfl rfl rfl (by omega) (by omega) ?_)
    refine s_op rfl (oslE (o' := 0) (n' := n) rfl rfl rfl rfl (Int.le_refl _) (by omega) (by omega) (by cases q <;> rfl) (by omega) ?_)
    exact sra rfl ⟨n, ⟨rfl, rfl, rfl, rfl, trivial⟩, ⟨rfl, rfl, trivial⟩, ⟨rfl, by omega, fun h => absurd n5 h, ht5⟩, by omega⟩   -- round ends
  · -- else
    have hb : ¬ (rd l a % 8 = 5 ∧ 0 < n ∧ rd l (rd (slotsL l a) ((n : Int) - 1)) = 0) := fun h => by rw [hb1.2 h] at h85; cases h85
    have hL : leftS l a = (slotsL l a).take n := by
      unfold leftS
      by_cases c5 : rd l a % 8 = 5
      · have hN : trN l (slotsL l a) (slotsL l a).length = n := by
          rw [← ht5]
          cases n with
          | zero => rfl
          | succ n =>
            rw [trN, if_neg fun h => hb ⟨c5, by omega, by rw [show ((n + 1 : Nat) : Int) - 1 = n by omega]; exact h⟩]
        rw [if_pos c5, hN]
      · rw [if_neg c5, hk5 c5, List.take_length]
    have hcs : ∀ i, (catV order (((slotsL l a).take i).map fun k => rd l k) (headS l a)).size ≤ 33554432 + 24 * (slotsL l a).length := fun i => by
      have := catV_size order (by omega) (((slotsL l a).take i).map fun k => rd l k) (headS l a) (fun v hv => by obtain ⟨k, _, rfl⟩ := List.mem_map.1 hv; exact hw.rd k)
      rw [List.length_map, List.length_take] at this
      omega
    refine c_exit ?_
    refine c_seq ?_
    refine crr (by kernel_rfl) rfl ?_   -- region 22
    refine c_block ?_
    refine c_lp (α := Nat) (fun i => [(2, .map m), (7, .str (catV order (((slotsL l a).take i).map fun k => rd l k) (headS l a))), (91, .sl q 0 n), (92, I n), (93, I i)]) (fun _ => [(3, 3, [.sl r o l.length])]) (fun i st' => st1 = st' ∧ i ≤ n) (fun i => n - i) 0 ⟨rfl, rfl, rfl, rfl, rfl, trivial⟩ ⟨rfl, rfl, trivial⟩ ⟨rfl, Nat.zero_le _⟩ ?_
    rintro i st3 ⟨rfl, hi⟩
    have hs := hcs i
    refine crr (by kernel_rfl) rfl ?_   -- region 23
    refine c_seq ?_
    refine c_if rfl (fun h94 => ?_) (fun h94 => ?_)
    · -- then
      have h94 := of_decide_eq_true h94
      have hmm := hk.sl _ (mem_rd (show i < (slotsL l a).length by omega))
      have hii := hin _ (mem_rd (show i < (slotsL l a).length by omega))
      have hv := hw.rd (rd (slotsL l a) i)
      have hv2 := hv
      unfold W1 at hv2
      have hvs := valS_size order (rd l (rd (slotsL l a) i)) (by omega) hv
      have hnx : catV order (((slotsL l a).take (i + 1)).map fun k => rd l k) (headS l a) = catV order (((slotsL l a).take i).map fun k => rd l k) (headS l a) ++ valS order (rd l (rd (slotsL l a) i)) := by
        rw [take_step (show i < (slotsL l a).length by omega), List.map_append, List.map_singleton, catV_app]
      refine c_skip ?_
      refine c_seq ?_
      refine c_block ?_
      refine c_rs (by kernel_rfl) ?_   -- region 24
      refine s_op rfl (oidx rfl rfl rfl (by omega) (by omega) ?_)
      refine s_op rfl (old rfl rfl (hq1.rd (by omega) (by omega)) ?_)
      refine sra rfl ?_
      refine c_region (by kernel_rfl) ?_   -- region 25
      refine sr 4 rfl ?_
      refine s_op rfl (oidx rfl rfl rfl (by omega) (by omega) ?_)
      refine s_op rfl (old rfl rfl (hx1.rd (by omega) (by omega)) ?_)
      refine sr 1 rfl ?_
      refine s_op rfl (o_pure loud_n rfl (seen_c m order (rd l (rd (slotsL l a) i)) _ ht1 hm1 (by omega) hv2.1 hv2.2 hii) ?_)
      refine s_op rfl (o_cat rfl rfl (by omega) ?_)
      refine sra rfl ?_
      refine c_region (by kernel_rfl) ?_   -- region 26
      refine s_op rfl (o_ar rfl rfl rfl (by omega) (by omega) ?_)
      exact sra rfl ⟨i + 1, ⟨rfl, by rw [hnx]; rfl, rfl, rfl, rfl, trivial⟩, ⟨rfl, rfl, trivial⟩, ⟨rfl, by omega⟩, by omega⟩   -- round ends
    · -- else
      have h94 := of_decide_eq_false h94
      have e : i = n := by omega
      have hend : lineS order l a = catV order (((slotsL l a).take i).map fun k => rd l k) (headS l a) := by unfold lineS; rw [hL, e]
      rw [hend]
      refine c_exit ?_
      refine crr (by kernel_rfl) rfl ?_   -- region 27
      exact c_ret (fr rfl rfl)
end Go.Proofs.YtmphklmhhcmbnaaDoorW.Ax
