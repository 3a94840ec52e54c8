/- The line of a block: the reference's walk. -/
import Derived.Test.YtmphklmhhcmbnaaDoorPe
namespace Go.Proofs.YtmphklmhhcmbnaaDoorW.Ax
open Go Go.RowKit Go.Proofs Go.Proofs.YtmphklmhhcmbnaaDoor.Pure
set_option linter.unusedVariables false
set_option maxRecDepth 100000
structure LnOk (l : List Int) (a : Int) : Prop where
  a0 : 0 ≤ a
  a1 : a < l.length
  k0 : 1 ≤ rd l a % 8
  k1 : rd l a % 8 ≤ 5
  tx : rd l a % 8 = 1 → a + 1 < l.length ∧ 0 ≤ rd l (a + 1) ∧ a + 2 + rd l (a + 1) ≤ l.length
  fn : rd l a % 8 = 4 → a + 1 < l.length
  sl : ∀ k ∈ slotsL l a, 0 ≤ k ∧ k < l.length
  ln : (slotsL l a).length ≤ 1048576
theorem At.take {st : St} {r : Option Nat} {o : Nat} {l : List Int} (h : At st r o l) (n : Nat) : At st r o (l.take n) := fun j hj => by
  rw [List.length_take] at hj
  rw [h j (by omega)]
  simp [List.getD, show j < n by omega]
theorem left_sub {l : List Int} {a : Int} : ∀ k ∈ leftS l a, k ∈ slotsL l a := fun k hk => by
  unfold leftS at hk
  split at hk
  · exact List.mem_of_mem_take hk
  · exact hk
theorem left_len (l : List Int) (a : Int) : (leftS l a).length ≤ (slotsL l a).length := by
  unfold leftS
  split
  · rw [List.length_take]; omega
  · exact Nat.le_refl _
theorem left_at {st : St} {r : Option Nat} {o : Nat} {l : List Int} {a : Int} (h : At st r o (slotsL l a)) : At st r o (leftS l a) := by
  unfold leftS
  split
  · exact h.take _
  · exact h
theorem head_size {l : List Int} {a : Int} (h : LnOk l a) (hw : W64 l) (hl : l.length ≤ 1048576) : (headS l a).size ≤ 33554432 := by
  unfold headS
  split
  · rename_i e
    have h1 := h.tx e
    have h2 := txS_size l a (fun i => hw.rd i) (rd l (a + 1)).toNat
    have h3 := h.a0
    omega
  split
  · show 3 ≤ _; omega
  split
  · show 4 ≤ _; omega
  split
  · have hv := hw.rd (a + 1)
    unfold W1 at hv
    have := numeral_size (rd l (a + 1)) hv.1 hv.2
    rw [ByteArray.size_append]
    show 4 + (numeral (rd l (a + 1))).size ≤ _
    omega
  · show 5 ≤ _; omega
theorem l7Line_c (r rr : Option Nat) (o or : Nat) (l order : List Int) (a : Int) (st : St) (hx : At st r o l) (hy : At st rr or order) (ha : a ∈ blocks l) (hk : LnOk l a) (hw : W64 l) (hl : l.length ≤ 1048576) (hlo : order.length ≤ 1048576) :
    ACalls Tryd.prog 18 [.agg [.sl r o l.length], I a, .sl rr or order.length] st No (Pv (.str (lineS order l a ++ ⟨#[10]⟩))) := by
  have k0 := hk.a0
  have k1 := hk.a1
  refine ent (N := 102) Tryd.func18 rfl (by decide) rfl rfl rfl ?_
  refine crr (by kernel_rfl) rfl ?_   -- region 0
  refine crr (by kernel_rfl) rfl ?_   -- region 1
  refine c_rs (by kernel_rfl) ?_   -- region 2
  refine sr 2 rfl ?_
  refine s_op rfl (o_ex loud_n rfl (l3Slots_c r o l a _ hx ha) ?_)
  rintro v1 st1 ⟨q, rfl, hq⟩ e1
  have hx1 := hx.ex e1
  have hy1 := hy.ex e1
  refine sra rfl ?_
  refine c_sj (α := Unit) (fun _ => [(1, I a), (2, .sl rr or order.length), (7, .str (headS l a)), (8, .sl (some q) 0 (leftS l a).length)]) (fun _ => [(3, 3, [.sl r o l.length])]) (fun _ st' => Ex st1 st') ?_ ?_
  · -- ways that meet
    refine c_rs (by kernel_rfl) ?_   -- region 3
    refine sr 3 rfl ?_
    refine s_op rfl (oidx rfl rfl rfl (by omega) (by omega) ?_)
    refine s_op rfl (old rfl rfl (hx1.rd (by omega) (by omega)) ?_)
    refine s_op rfl (o_pure loud_n rfl (l2Kind_c ..) ?_)
    refine s_end ?_
    refine c_block ?_
    refine crr (by kernel_rfl) rfl ?_   -- region 4
    refine c_if rfl (fun h21 => ?_) (fun h21 => ?_)
    · -- then
      have h21 : rd l a % 8 = 1 := of_decide_eq_true h21
      obtain ⟨t1, t2, t3⟩ := hk.tx h21
      have hhead : headS l a = txS l a (rd l (a + 1)).toNat := by unfold headS; rw [if_pos h21]
      have hleft : leftS l a = slotsL l a := by unfold leftS; rw [if_neg (by omega)]
      rw [hhead, hleft]
      refine crr (by kernel_rfl) rfl ?_   -- region 5
      refine crr (by kernel_rfl) rfl ?_   -- region 6
      refine c_block ?_
      refine c_lp (α := Nat) (fun i => [(1, I a), (2, .sl rr or order.length), (7, .str (txS l a i)), (8, .sl (some q) 0 (slotsL l a).length), (9, I i)]) (fun _ => [(3, 3, [.sl r o l.length])]) (fun i st' => Ex st1 st' ∧ (i : Int) ≤ rd l (a + 1)) (fun i => (rd l (a + 1)).toNat - i) 0 ⟨rfl, rfl, rfl, rfl, rfl, trivial⟩ ⟨rfl, rfl, trivial⟩ ⟨Ext.refl _ _, by omega⟩ ?_
      rintro i st2 ⟨e2, hi⟩
      have hx2 := hx1.ex e2
      have hts := txS_size l a (fun i => hw.rd i) i
      refine c_seq ?_
      refine c_rs (by kernel_rfl) ?_   -- region 7
      refine sr 4 rfl ?_
      refine s_op rfl (o_ar rfl rfl rfl (by omega) (by omega) ?_)
      refine s_op rfl (oidx rfl rfl rfl (by omega) (by omega) ?_)
      refine s_op rfl (old rfl rfl (hx2.rd (by omega) (by omega)) ?_)
      refine sra rfl ?_
      refine c_if rfl (fun h30 => ?_) (fun h30 => ?_)
      · -- then
        have h30 := of_decide_eq_true h30
        have hv := hw.rd (a + 2 + i)
        unfold W1 at hv
        refine c_skip ?_
        refine c_seq ?_
        refine c_block ?_
        refine c_region (by kernel_rfl) ?_   -- region 9
        refine sr 1 rfl ?_
        refine s_op rfl (o_cat (u := ⟨#[32]⟩) rfl rfl (by show _ + 1 ≤ _; omega) ?_)
        refine sr 3 rfl ?_
        refine s_op rfl (o_ar rfl rfl rfl (by omega) (by omega) ?_)
        refine sr 1 rfl ?_
        refine s_op rfl (o_ar rfl rfl rfl (by omega) (by omega) ?_)
        refine s_op rfl (oidx rfl rfl rfl (by omega) (by omega) ?_)
        refine s_op rfl (old rfl rfl (hx2.rd (by omega) (by omega)) ?_)
        refine s_op rfl (o_ex loud_n rfl (l7Digits_n (rd l (a + 2 + i)) _ hv.1 hv.2) ?_)
        rintro v3 st3 rfl e3
        have hns := numeral_size (rd l (a + 2 + i)) hv.1 hv.2
        refine s_op rfl (o_cat rfl rfl (by rw [ByteArray.size_append]; show _ + 1 + _ ≤ _; omega) ?_)
        refine sra rfl ?_
        refine c_region (by kernel_rfl) ?_   -- region 8
        refine sr 1 rfl ?_
        refine s_op rfl (o_ar rfl rfl rfl (by omega) (by omega) ?_)
        exact sra rfl ⟨i + 1, ⟨rfl, rfl, rfl, rfl, rfl, trivial⟩, ⟨rfl, rfl, trivial⟩, ⟨e2.tr e3, by omega⟩, by omega⟩   -- round ends
      · -- else
        have h30 := of_decide_eq_false h30
        refine c_exit ?_
        have e : (rd l (a + 1)).toNat = i := by omega
        exact ⟨(), ⟨rfl, rfl, by rw [e]; rfl, rfl, trivial⟩, ⟨rfl, rfl, trivial⟩, e2⟩   -- meet
    · -- else
      have h21 : ¬ rd l a % 8 = 1 := of_decide_eq_false h21
      refine crr (by kernel_rfl) rfl ?_   -- region 10
      refine c_if rfl (fun h45 => ?_) (fun h45 => ?_)
      · -- then
        have h45 : rd l a % 8 = 2 := of_decide_eq_true h45
        have hhead : headS l a = ⟨#[111, 98, 106]⟩ := by unfold headS; rw [if_neg h21, if_pos h45]
        have hleft : leftS l a = slotsL l a := by unfold leftS; rw [if_neg (by omega)]
        rw [hhead, hleft]
        refine c_region (by kernel_rfl) ?_   -- region 11
        exact sra rfl ⟨(), ⟨rfl, rfl, rfl, rfl, trivial⟩, ⟨rfl, rfl, trivial⟩, Ext.refl _ _⟩
      · -- else
        have h45 : ¬ rd l a % 8 = 2 := of_decide_eq_false h45
        refine crr (by kernel_rfl) rfl ?_   -- region 12
        refine c_if rfl (fun h47 => ?_) (fun h47 => ?_)
        · -- then
          have h47 : rd l a % 8 = 3 := of_decide_eq_true h47
          have hhead : headS l a = ⟨#[99, 101, 108, 108]⟩ := by unfold headS; rw [if_neg h21, if_neg h45, if_pos h47]
          have hleft : leftS l a = slotsL l a := by unfold leftS; rw [if_neg (by omega)]
          rw [hhead, hleft]
          refine c_region (by kernel_rfl) ?_   -- region 13
          exact sra rfl ⟨(), ⟨rfl, rfl, rfl, rfl, trivial⟩, ⟨rfl, rfl, trivial⟩, Ext.refl _ _⟩
        · -- else
          have h47 : ¬ rd l a % 8 = 3 := of_decide_eq_false h47
          refine crr (by kernel_rfl) rfl ?_   -- region 14
          refine c_if rfl (fun h49 => ?_) (fun h49 => ?_)
          · -- then
            have h49 : rd l a % 8 = 4 := of_decide_eq_true h49
            have hf := hk.fn h49
            have hv := hw.rd (a + 1)
            unfold W1 at hv
            have hhead : headS l a = ⟨#[102, 117, 110, 32]⟩ ++ numeral (rd l (a + 1)) := by unfold headS; rw [if_neg h21, if_neg h45, if_neg h47, if_pos h49]
            have hleft : leftS l a = slotsL l a := by unfold leftS; rw [if_neg (by omega)]
            rw [hhead, hleft]
            refine c_region (by kernel_rfl) ?_   -- region 15
            refine sr 3 rfl ?_
            refine s_op rfl (o_ar rfl rfl rfl (by omega) (by omega) ?_)
            refine s_op rfl (oidx rfl rfl rfl (by omega) (by omega) ?_)
            refine s_op rfl (old rfl rfl (hx1.rd (by omega) (by omega)) ?_)
            refine s_op rfl (o_ex loud_n rfl (l7Digits_n (rd l (a + 1)) _ hv.1 hv.2) ?_)
            rintro v3 st3 rfl e3
            have hns := numeral_size (rd l (a + 1)) hv.1 hv.2
            refine s_op rfl (o_cat (s := ⟨#[102, 117, 110, 32]⟩) rfl rfl (by show 4 + _ ≤ _; omega) ?_)
            exact sra rfl ⟨(), ⟨rfl, rfl, rfl, rfl, trivial⟩, ⟨rfl, rfl, trivial⟩, e3⟩
          · -- else
            have h49 : ¬ rd l a % 8 = 4 := of_decide_eq_false h49
            refine crr (by kernel_rfl) rfl ?_   -- region 16
            have h5 : rd l a % 8 = 5 := by have := hk.k0; have := hk.k1; omega
            refine c_if rfl (fun h59 => ?_) (fun h59 => absurd h5 (of_decide_eq_false h59))
            have hhead : headS l a = ⟨#[115, 99, 111, 112, 101]⟩ := by unfold headS; rw [if_neg h21, if_neg h45, if_neg h47, if_neg h49]
            have hleft : leftS l a = (slotsL l a).take (trN l (slotsL l a) (slotsL l a).length) := by unfold leftS; rw [if_pos h5]
            have htr := trN_le l (slotsL l a) (slotsL l a).length
            have hln := hk.ln
            rw [hhead, hleft]
            refine crr (by kernel_rfl) rfl ?_   -- region 17
            refine crr (by kernel_rfl) rfl ?_   -- region 18
            refine c_seq ?_
            refine c_block ?_
            refine c_lp (α := Nat) (fun n => [(1, I a), (2, .sl rr or order.length), (7, .str ⟨#[115, 99, 111, 112, 101]⟩), (8, .sl (some q) 0 (slotsL l a).length), (10, I n)]) (fun _ => [(3, 3, [.sl r o l.length])]) (fun n st' => st1 = st' ∧ n ≤ (slotsL l a).length ∧ trN l (slotsL l a) n = trN l (slotsL l a) (slotsL l a).length) (fun n => n) (slotsL l a).length ⟨rfl, rfl, rfl, rfl, rfl, trivial⟩ ⟨rfl, rfl, trivial⟩ ⟨rfl, Nat.le_refl _, rfl⟩ ?_
            rintro n st3 ⟨rfl, hn, ht⟩
            refine c_seq ?_
            refine c_sj (α := Bool) (fun b => [(1, I a), (2, .sl rr or order.length), (7, .str ⟨#[115, 99, 111, 112, 101]⟩), (8, .sl (some q) 0 (slotsL l a).length), (10, I n), (76, .bool b)]) (fun _ => [(3, 3, [.sl r o l.length])]) (fun b st' => st1 = st' ∧ (b = true ↔ (0 < n ∧ rd l (rd (slotsL l a) ((n : Int) - 1)) = 0))) ?_ ?_
            · -- region 19
              refine cd1 [0, 1, 2, 3, 4, 5, 6, 7, 8, 9, 10, 11, 12, 13] [.q, .q, .q, .q, .q, .q, .q, .q, .q, .q, .q, .q, .q, .q] (by kernel_rfl) (by kernel_rfl) ?_
              refine sr 3 rfl ?_
              refine s_bool 65 rfl rfl (fun h65 => ?_) (fun h65 => ?_)
              · -- slot 65 true
                have h65 := of_decide_eq_true h65
                have hm := hk.sl _ (mem_rd (show n - 1 < (slotsL l a).length by omega))
                have en : ((n - 1 : Nat) : Int) = (n : Int) - 1 := by omega
                rw [en] at hm
                refine sr 4 rfl ?_
                refine s_op rfl (o_ar rfl rfl rfl (by omega) (by omega) ?_)
                refine s_op rfl (oidx rfl rfl rfl (by omega) (by omega) ?_)
                refine s_op rfl (old rfl rfl (hq.at_.rd (by omega) (by omega)) ?_)
                refine s_op rfl (oidx rfl rfl rfl (by omega) (by omega) ?_)
                refine s_op rfl (old rfl rfl (hx1.rd (by omega) (by omega)) ?_)
                exact sra rfl ⟨_, ⟨rfl, rfl, rfl, rfl, rfl, rfl, trivial⟩, ⟨rfl, rfl, trivial⟩, rfl, ⟨fun h => ⟨by omega, of_decide_eq_true h⟩, fun h => decide_eq_true h.2⟩⟩
              · -- slot 65 false
                have h65 := of_decide_eq_false h65
                exact sra rfl ⟨false, ⟨rfl, rfl, rfl, rfl, rfl, rfl, trivial⟩, ⟨rfl, rfl, trivial⟩, rfl, ⟨fun h => (by cases h), fun h => absurd (by have := h.1; omega) h65⟩⟩
            rintro b st3 ⟨rfl, hb1⟩
            refine c_if rfl (fun h76 => ?_) (fun h76 => ?_)
            · -- then
              obtain ⟨n0, n1⟩ := hb1.1 h76
              obtain ⟨n, rfl⟩ : ∃ n', n = n' + 1 := ⟨n - 1, by omega⟩
              rw [show ((n + 1 : Nat) : Int) - 1 = n by omega] at n1
              rw [trN, if_pos n1] at ht
              refine c_skip ?_
              refine c_block ?_
              refine c_region (by kernel_rfl) ?_   -- region 20
              refine sr 1 rfl ?_
              refine s_op rfl (o_ar rfl rfl rfl (by omega) (by omega) ?_)
              exact sra rfl ⟨n, ⟨rfl, rfl, rfl, rfl, by show I (((n + 1 : Nat) : Int) - 1) = I n; rw [show ((n + 1 : Nat) : Int) - 1 = n by omega], trivial⟩, ⟨rfl, rfl, trivial⟩, ⟨rfl, by omega, ht⟩, by omega⟩   -- round ends
            · -- else
              have hb : ¬ (0 < n ∧ rd l (rd (slotsL l a) ((n : Int) - 1)) = 0) := fun h => by rw [hb1.2 h] at h76; cases h76
              have hN : trN l (slotsL l a) (slotsL l a).length = n := by
                rw [← ht]
                cases n with
                | zero => rfl
                | succ n =>
                  rw [trN, if_neg fun h => hb ⟨by omega, by rw [show ((n + 1 : Nat) : Int) - 1 = n by omega]; exact h⟩]
              refine c_exit ?_
              refine c_region (by kernel_rfl) ?_   -- region 21
              refine sr 2 rfl ?_
              refine s_op rfl (oslE (o' := 0) (n' := ((slotsL l a).take n).length) rfl rfl rfl rfl (Int.le_refl _) (by omega) (by omega) rfl (by rw [List.length_take]; omega) ?_)
              rw [hN]
              exact sra rfl ⟨(), ⟨rfl, rfl, rfl, rfl, trivial⟩, ⟨rfl, rfl, trivial⟩, Ext.refl _ _⟩
  rintro _ st2 e2
  have hq2 := left_at ((hq.ex e2).at_)
  have hx2 := hx1.ex e2
  have hy2 := hy1.ex e2
  have hhs := head_size hk hw hl
  have hll := left_len l a
  have hln := hk.ln
  have hcs : ∀ n, (catV order (((leftS l a).take n).map fun k => rd l k) (headS l a)).size ≤ 33554432 + 24 * (leftS l a).length := fun n => by
    have := catV_size order (by omega) (((leftS l a).take n).map fun k => rd l k) (headS l a) (fun v hv => by obtain ⟨k, _, rfl⟩ := List.mem_map.1 hv; exact hw.rd k)
    rw [List.length_map, List.length_take] at this
    omega
  refine c_seq ?_
  refine crr (by kernel_rfl) rfl ?_   -- region 22
  refine c_block ?_
  refine c_lp (α := Nat) (fun i => [(1, I a), (2, .sl rr or order.length), (7, .str (catV order (((leftS l a).take i).map fun k => rd l k) (headS l a))), (8, .sl (some q) 0 (leftS l a).length), (11, I i)]) (fun _ => [(3, 3, [.sl r o l.length])]) (fun i st' => Ex st2 st' ∧ i ≤ (leftS l a).length) (fun i => (leftS l a).length - i) 0 ⟨rfl, rfl, rfl, rfl, rfl, trivial⟩ ⟨rfl, rfl, trivial⟩ ⟨Ext.refl _ _, Nat.zero_le _⟩ ?_
  rintro i st3 ⟨e3, hi⟩
  have hs := hcs i
  refine c_seq ?_
  refine crr (by kernel_rfl) rfl ?_   -- region 23
  refine c_if rfl (fun h85 => ?_) (fun h85 => ?_)
  · -- then
    have h85 := of_decide_eq_true h85
    have hm := hk.sl _ (left_sub _ (mem_rd (show i < (leftS l a).length by omega)))
    have hv := hw.rd (rd (leftS l a) i)
    have hv2 := hv
    unfold W1 at hv2
    have hvs := valS_size order (rd l (rd (leftS l a) i)) (by omega) hv
    have hnx : catV order (((leftS l a).take (i + 1)).map fun k => rd l k) (headS l a) = catV order (((leftS l a).take i).map fun k => rd l k) (headS l a) ++ valS order (rd l (rd (leftS l a) i)) := by
      rw [List.take_add_one, List.getElem?_eq_getElem (show i < (leftS l a).length by omega), Option.toList_some, List.map_append, List.map_singleton, catV_app]
      have e : rd (leftS l a) i = (leftS l a)[i]'(by omega) := by simp [rd, List.getD, show i < (leftS l a).length by omega]
      rw [e]
    refine c_skip ?_
    refine c_seq ?_
    refine c_block ?_
    refine cd1 [0, 1, 2, 3, 4, 5, 6, 7, 8, 9, 10, 11, 12] [.q, .q, .q, .q, .q, .q, .q, .q, .q, .q, .f, .q, .q] (by kernel_rfl) (by kernel_rfl) ?_   -- region 25
    refine sr 5 rfl ?_
    refine s_op rfl (oidx rfl rfl rfl (by omega) (by omega) ?_)
    refine s_op rfl (old rfl rfl ((hq2.ex e3).rd (by omega) (by omega)) ?_)
    refine s_op rfl (oidx rfl rfl rfl (by omega) (by omega) ?_)
    refine s_op rfl (old rfl rfl ((hx2.ex e3).rd (by omega) (by omega)) ?_)
    refine sr 1 rfl ?_
    refine s_op rfl (o_ex loud_f rfl (l7Value_c rr or order (rd l (rd (leftS l a) i)) _ (hy2.ex e3) (by omega) hv2.1 hv2.2) ?_)
    rintro v4 st4 rfl e4
    refine s_op rfl (o_cat rfl rfl (by omega) ?_)
    refine sra rfl ?_
    refine c_region (by kernel_rfl) ?_   -- region 24
    refine sr 1 rfl ?_
    refine s_op rfl (o_ar rfl rfl rfl (by omega) (by omega) ?_)
    exact sra rfl ⟨i + 1, ⟨rfl, rfl, by rw [hnx]; rfl, rfl, rfl, trivial⟩, ⟨rfl, rfl, trivial⟩, ⟨e3.tr e4, by omega⟩, by omega⟩   -- round ends
  · -- else
    have h85 := of_decide_eq_false h85
    refine c_exit ?_
    refine c_rs (by kernel_rfl) ?_   -- region 26
    refine sr 1 rfl ?_
    refine s_op rfl (o_cat (u := ⟨#[10]⟩) rfl rfl (by show _ + 1 ≤ _; omega) ?_)
    refine sra rfl ?_
    refine c_ret (fr rfl ?_)
    have e : (leftS l a).take i = leftS l a := List.take_of_length_le (by omega)
    rw [e]; rfl
end Go.Proofs.YtmphklmhhcmbnaaDoorW.Ax
