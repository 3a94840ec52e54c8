/- Merged: Zg Zh Zi. -/
import Derived.Test.YtmphklmhhcmbnaaDoorQ3
import Derived.Test.YtmphklmhhcmbnaaDoorYl
import Derived.Test.YtmphklmhhcmbnaaDoorXU
/- Chapters 3, 7, 8, walked: places of values; blocks that values lead to. -/
namespace Go.Proofs.YtmphklmhhcmbnaaDoorW.Ax
open Go Go.RowKit Go.Proofs Go.Proofs.YtmphklmhhcmbnaaDoor.Pure
set_option linter.unusedVariables false
set_option maxRecDepth 100000

/-! ### the places of a block's values -/
def fromS (k a : Int) : Int := if k = 4 then a + 2 else a + 1
def manyS (k : Int) (n : Nat) : Nat := if k = 2 then min 2 (n - 1) else if k = 3 then min 3 (n - 1) else if k = 4 then min 1 (n - 2) else if k = 5 then n - 1 else 0
def slotsL (l : List Int) (a : Int) : List Int := upN (fromS (kindOf l a.toNat) a) (manyS (kindOf l a.toNat) (size l a.toNat))
theorem many_le (k : Int) (n : Nat) (h : 2 ≤ n) : manyS k n ≤ n - 1 ∧ (k = 4 → manyS k n ≤ n - 2) := by
  unfold manyS
  split
  · omega
  · split
    · omega
    · split
      · omega
      · split <;> omega
theorem upN_mem : ∀ {k : Int} {n : Nat} {x : Int}, x ∈ upN k n → k ≤ x ∧ x < k + n
  | k, 0, x, h => by simp [upN] at h
  | k, n + 1, x, h => by
    rcases List.mem_cons.1 h with rfl | h
    · omega
    · have := upN_mem h; omega
theorem slots_in {l : List Int} {a x : Int} (ha : a ∈ blocks l) (h : x ∈ slotsL l a) : a + 1 ≤ x ∧ x < a + size l a.toNat ∧ x < l.length := by
  have hb := block_at ha
  have hs := size_pos hb.2.2.1
  have h1 := upN_mem h
  have h2 := many_le (kindOf l a.toNat) (size l a.toNat) hs.1
  unfold fromS at h1
  split at h1
  · rename_i h4; have := h2.2 h4; omega
  · omega
theorem slots_len {l : List Int} {a : Int} (ha : a ∈ blocks l) : (slotsL l a).length ≤ 2000 := by
  have hb := block_at ha
  have hs := size_pos hb.2.2.1
  have h2 := many_le (kindOf l a.toNat) (size l a.toNat) hs.1
  unfold slotsL
  rw [upN_len]
  omega
theorem l3Some_c (f : Int) (many most : Nat) (st : St) (hf : 0 ≤ f ∧ f ≤ 4000) (h1 : most ≤ 4000) : ACalls Tryd.prog 49 [I f, I many, I most] st No (Ro st (upN f (min many most))) := by
  refine ent (N := 27) Tryd.func49 rfl (by decide) rfl rfl rfl ?_
  refine crr (by kernel_rfl) rfl ?_   -- region 0
  refine c_rs (by kernel_rfl) ?_   -- region 1
  refine s_op rfl (oints [] loud_n rfl (by decide) rfl rfl rfl fun q st1 hq e1 => ?_)
  refine sra rfl ?_
  refine c_seq ?_
  refine crr (by kernel_rfl) rfl ?_   -- region 2
  refine c_block ?_
  refine c_lp (α := Nat × Option Nat) (fun i => [(0, I f), (1, I many), (2, I most), (7, .sl i.2 0 (upN f i.1).length), (8, I i.1)]) (fun _ => []) (fun i st' => i.1 ≤ min many most ∧ Ex st st' ∧ Fr st.n st' i.2 (upN f i.1) ∧ ∃ q, i.2 = some q) (fun i => min many most - i.1) (0, some q) ⟨rfl, rfl, rfl, rfl, rfl, trivial⟩ trivial ⟨Nat.zero_le _, e1, hq, q, rfl⟩ ?_
  rintro ⟨i, q⟩ st2 ⟨hi, he, hf2, q', hq'⟩
  dsimp only at *
  have hul := upN_len f i
  refine c_seq ?_
  refine c_rj [(0, I f), (1, I many), (2, I most), (7, .sl q 0 (upN f i).length), (8, I i), (17, .bool (decide (i < min many most)))] [] (by kernel_rfl) ?_ ?_
  · refine sr 4 rfl ?_
    refine s_bool 13 rfl rfl (fun h13 => ?_) (fun h13 => ?_)
    · have h13 := of_decide_eq_true h13
      refine sra rfl ⟨⟨rfl, rfl, rfl, rfl, rfl, ?_, trivial⟩, trivial, rfl⟩
      show AV.bool (decide _) = AV.bool (decide _)
      congr 1
      exact decide_eq_decide.2 ⟨fun h => by omega, fun h => by omega⟩
    · have h13 := of_decide_eq_false h13
      refine sra rfl ⟨⟨rfl, rfl, rfl, rfl, rfl, ?_, trivial⟩, trivial, rfl⟩
      show AV.bool false = AV.bool (decide _)
      rw [decide_eq_false (by omega)]
  refine c_if rfl (fun h17 => ?_) (fun h17 => ?_)
  · have h17 := of_decide_eq_true h17
    refine c_skip ?_
    refine c_seq ?_
    refine c_block ?_
    refine c_region (by kernel_rfl) ?_   -- region 5
    refine sr 3 rfl ?_
    refine s_op rfl (o_ar rfl rfl rfl (by omega) (by omega) ?_)
    refine s_op rfl (oone loud_n rfl rfl ?_)
    refine s_op rfl (oappF rfl rfl rfl (hf2.ex (ex_push _ _)) rfl (at_row (Nat.lt_succ_self _) (push_ob _ _)) (by simp; omega) fun q2 st3 hf3 he2 => ?_)
    have he3 : Ex st st3 := (he.tr (ex_push _ _)).own (hf2.ex (ex_push _ _)) he2
    rw [← upN_app] at hf3 ⊢
    refine sra rfl ?_
    refine c_region (by kernel_rfl) ?_   -- region 4
    refine sr 1 rfl ?_
    refine s_op rfl (o_ar rfl rfl rfl (by omega) (by omega) ?_)
    exact sra rfl ⟨(i + 1, q2), ⟨rfl, rfl, rfl, rfl, rfl, trivial⟩, trivial, ⟨by dsimp only; omega, he3, hf3, hf3.some_of (fun e => by have := congrArg List.length e; rw [upN_len] at this; cases this)⟩, by dsimp only; omega⟩
  · have h17 := of_decide_eq_false h17
    have hie : i = min many most := by omega
    refine c_exit ?_
    refine crr (by kernel_rfl) rfl ?_   -- region 6
    refine c_ret (fr rfl ⟨q', ?_, ?_⟩)
    · rw [← hie, ← hq']
    · rw [← hie, ← hq']; exact hf2
theorem l3Slots_c (r : Option Nat) (o : Nat) (l : List Int) (a : Int) (st : St) (hx : At st r o l) (ha : a ∈ blocks l) : ACalls Tryd.prog 27 [.agg [.sl r o l.length], I a] st No (Ro st (slotsL l a)) := by
  have hb := block_at ha
  have hs := size_pos hb.2.2.1
  have hse := rd_size hb.1 hb.2.2.1
  have hk : kindOf l a.toNat ≤ 5 := hb.2.2.1.2.2
  have e1 : (size l a.toNat : Int) - 1 = ((size l a.toNat - 1 : Nat) : Int) := by omega
  have e2 : (size l a.toNat : Int) - 2 = ((size l a.toNat - 2 : Nat) : Int) := by omega
  refine ent (N := 49) Tryd.func27 rfl (by decide) rfl rfl rfl ?_
  refine crr (by kernel_rfl) rfl ?_   -- region 0
  refine c_rs (by kernel_rfl) ?_   -- region 1
  refine sr 3 rfl ?_
  refine s_op rfl (oidx rfl rfl rfl (by omega) (by omega) ?_)
  refine s_op rfl (old rfl rfl (hx.rd (by omega) (by omega)) ?_)
  refine s_op rfl (o_pure loud_n rfl (l2Size_c ..) ?_)
  rw [hse]
  refine sra rfl ?_
  refine c_seq ?_
  refine c_rs (by kernel_rfl) ?_   -- region 2
  refine sr 3 rfl ?_
  refine s_op rfl (oidx rfl rfl rfl (by omega) (by omega) ?_)
  refine s_op rfl (old rfl rfl (hx.rd (by omega) (by omega)) ?_)
  refine s_op rfl (o_pure loud_n rfl (l2Kind_c ..) ?_)
  rw [kind_rd]
  refine s_end ?_
  refine c_block ?_
  refine crr (by kernel_rfl) rfl ?_   -- region 3
  refine c_if rfl (fun h18 => ?_) (fun h18 => ?_)
  · have h18 := of_decide_eq_true h18
    refine c_rs (by kernel_rfl) ?_   -- region 4
    refine sr 1 rfl ?_
    refine s_op rfl (o_ar rfl rfl rfl (by omega) (by omega) ?_)
    refine sr 1 rfl ?_
    refine s_op rfl (o_ar rfl rfl rfl (by omega) (by omega) ?_)
    rw [e1]
    refine s_op rfl (o_ex loud_n rfl (l3Some_c (a + 1) 2 (size l a.toNat - 1) _ (by omega) (by omega)) ?_)
    rintro v1 st1 ⟨q, rfl, hq⟩ e
    refine sra rfl ?_
    have es : slotsL l a = upN (a + 1) (min 2 (size l a.toNat - 1)) := by unfold slotsL fromS manyS; rw [h18]; rfl
    exact c_ret (fr rfl ⟨q, by rw [es], by rw [es]; exact hq⟩)
  · have h18 := of_decide_eq_false h18
    refine crr (by kernel_rfl) rfl ?_   -- region 5
    refine c_if rfl (fun h25 => ?_) (fun h25 => ?_)
    · have h25 := of_decide_eq_true h25
      refine c_rs (by kernel_rfl) ?_   -- region 6
      refine sr 1 rfl ?_
      refine s_op rfl (o_ar rfl rfl rfl (by omega) (by omega) ?_)
      refine sr 1 rfl ?_
      refine s_op rfl (o_ar rfl rfl rfl (by omega) (by omega) ?_)
      rw [e1]
      refine s_op rfl (o_ex loud_n rfl (l3Some_c (a + 1) 3 (size l a.toNat - 1) _ (by omega) (by omega)) ?_)
      rintro v1 st1 ⟨q, rfl, hq⟩ e
      refine sra rfl ?_
      have es : slotsL l a = upN (a + 1) (min 3 (size l a.toNat - 1)) := by unfold slotsL fromS manyS; rw [h25]; rfl
      exact c_ret (fr rfl ⟨q, by rw [es], by rw [es]; exact hq⟩)
    · have h25 := of_decide_eq_false h25
      refine crr (by kernel_rfl) rfl ?_   -- region 7
      refine c_if rfl (fun h32 => ?_) (fun h32 => ?_)
      · have h32 := of_decide_eq_true h32
        refine c_rs (by kernel_rfl) ?_   -- region 8
        refine sr 1 rfl ?_
        refine s_op rfl (o_ar rfl rfl rfl (by omega) (by omega) ?_)
        refine sr 1 rfl ?_
        refine s_op rfl (o_ar rfl rfl rfl (by omega) (by omega) ?_)
        rw [e2]
        refine s_op rfl (o_ex loud_n rfl (l3Some_c (a + 2) 1 (size l a.toNat - 2) _ (by omega) (by omega)) ?_)
        rintro v1 st1 ⟨q, rfl, hq⟩ e
        refine sra rfl ?_
        have es : slotsL l a = upN (a + 2) (min 1 (size l a.toNat - 2)) := by unfold slotsL fromS manyS; rw [h32]; rfl
        exact c_ret (fr rfl ⟨q, by rw [es], by rw [es]; exact hq⟩)
      · have h32 := of_decide_eq_false h32
        refine crr (by kernel_rfl) rfl ?_   -- region 9
        refine c_if rfl (fun h39 => ?_) (fun h39 => ?_)
        · have h39 := of_decide_eq_true h39
          refine c_rs (by kernel_rfl) ?_   -- region 10
          refine sr 1 rfl ?_
          refine s_op rfl (o_ar rfl rfl rfl (by omega) (by omega) ?_)
          refine sr 1 rfl ?_
          refine s_op rfl (o_ar rfl rfl rfl (by omega) (by omega) ?_)
          refine sr 1 rfl ?_
          refine s_op rfl (o_ar rfl rfl rfl (by omega) (by omega) ?_)
          rw [e1]
          refine s_op rfl (o_ex loud_n rfl (l3Some_c (a + 1) (size l a.toNat - 1) (size l a.toNat - 1) _ (by omega) (by omega)) ?_)
          rintro v1 st1 ⟨q, rfl, hq⟩ e
          refine sra rfl ?_
          have es : slotsL l a = upN (a + 1) (min (size l a.toNat - 1) (size l a.toNat - 1)) := by unfold slotsL fromS manyS; rw [h39, Nat.min_self]; rfl
          exact c_ret (fr rfl ⟨q, by rw [es], by rw [es]; exact hq⟩)
        · have h39 := of_decide_eq_false h39
          refine c_skip ?_
          refine c_rs (by kernel_rfl) ?_   -- region 11
          refine s_op rfl (oints [] loud_n rfl (by decide) rfl rfl rfl fun q st1 hq e1 => ?_)
          refine sra rfl ?_
          have es : slotsL l a = [] := by unfold slotsL manyS; rw [if_neg h18, if_neg h25, if_neg h32, if_neg h39]; rfl
          exact c_ret (fr rfl ⟨q, by rw [es], by rw [es]; exact hq⟩)
theorem slots_c (r : Option Nat) (o : Nat) (l : List Int) (a : Int) (st : St) (hx : At st r o l) (ha : a ∈ blocks l) : ACalls Tryd.prog 40 [.agg [.sl r o l.length], I a] st No (Rn st (slotsL l a)) := by
  have hb := block_at ha
  have hs := size_pos hb.2.2.1
  have hse := rd_size hb.1 hb.2.2.1
  have hml := many_le (kindOf l a.toNat) (size l a.toNat) hs.1
  have hk : 0 ≤ kindOf l a.toNat ∧ kindOf l a.toNat ≤ 5 := ⟨by unfold kindOf; omega, hb.2.2.1.2.2⟩
  refine ent (N := 60) Tryd.func40 rfl (by decide) rfl rfl rfl ?_
  refine crr (by kernel_rfl) rfl ?_   -- region 0
  refine c_rs (by kernel_rfl) ?_   -- region 1
  refine sr 3 rfl ?_
  refine s_op rfl (oidx rfl rfl rfl (by omega) (by omega) ?_)
  refine s_op rfl (old rfl rfl (hx.rd (by omega) (by omega)) ?_)
  refine sra rfl ?_
  rw [hse]
  refine c_rs (by kernel_rfl) ?_   -- region 2
  refine sr 1 rfl ?_
  refine s_op rfl (o_ar rfl rfl rfl (by omega) (by omega) ?_)
  refine sr 1 rfl ?_
  refine s_op rfl (o_ar rfl rfl rfl (by omega) (by omega) ?_)
  refine sra rfl ?_
  refine c_sj (α := Int) (fun to => [(1, I a), (5, I (size l a.toNat : Nat)), (6, I (fromS (kindOf l a.toNat) a)), (7, I to)]) (fun _ => [(2, 2, [.sl r o l.length])])
    (fun to st' => st = st' ∧ a ≤ to ∧ to ≤ a + 4000 ∧ ((if a + size l a.toNat < to then a + (size l a.toNat : Int) else to) = fromS (kindOf l a.toNat) a + manyS (kindOf l a.toNat) (size l a.toNat))) ?_ ?_
  · -- ways that meet
    refine c_rs (by kernel_rfl) ?_   -- region 3
    refine sr 3 rfl ?_
    refine s_op rfl (oidx rfl rfl rfl (by omega) (by omega) ?_)
    refine s_op rfl (old rfl rfl (hx.rd (by omega) (by omega)) ?_)
    refine sra rfl ?_
    rw [kind_rd]
    refine c_block ?_
    refine crr (by kernel_rfl) rfl ?_   -- region 4
    refine c_if rfl (fun h26 => ?_) (fun h26 => ?_)
    · have h26 := of_decide_eq_true h26
      refine c_region (by kernel_rfl) ?_   -- region 5
      refine sr 1 rfl ?_
      refine s_op rfl (o_ar rfl rfl rfl (by omega) (by omega) ?_)
      refine sra rfl ⟨a + 3, ⟨rfl, rfl, ?_, rfl, trivial⟩, ⟨rfl, rfl, trivial⟩, rfl, by omega, by omega, ?_⟩
      · show I (a + 1) = I _
        unfold fromS; rw [if_neg (by omega)]
      · have e : manyS (kindOf l a.toNat) (size l a.toNat) = min 2 (size l a.toNat - 1) := by rw [h26]; rfl
        have e' : fromS (kindOf l a.toNat) a = a + 1 := by rw [h26]; rfl
        rw [e, e']; split <;> omega
    · have h26 := of_decide_eq_false h26
      refine crr (by kernel_rfl) rfl ?_   -- region 6
      refine c_if rfl (fun h30 => ?_) (fun h30 => ?_)
      · have h30 := of_decide_eq_true h30
        refine c_region (by kernel_rfl) ?_   -- region 7
        refine sr 1 rfl ?_
        refine s_op rfl (o_ar rfl rfl rfl (by omega) (by omega) ?_)
        refine sra rfl ⟨a + 4, ⟨rfl, rfl, ?_, rfl, trivial⟩, ⟨rfl, rfl, trivial⟩, rfl, by omega, by omega, ?_⟩
        · show I (a + 1) = I _
          unfold fromS; rw [if_neg (by omega)]
        · have e : manyS (kindOf l a.toNat) (size l a.toNat) = min 3 (size l a.toNat - 1) := by rw [h30]; rfl
          have e' : fromS (kindOf l a.toNat) a = a + 1 := by rw [h30]; rfl
          rw [e, e']; split <;> omega
      · have h30 := of_decide_eq_false h30
        refine crr (by kernel_rfl) rfl ?_   -- region 8
        refine c_if rfl (fun h34 => ?_) (fun h34 => ?_)
        · have h34 := of_decide_eq_true h34
          refine c_region (by kernel_rfl) ?_   -- region 9
          refine sr 1 rfl ?_
          refine s_op rfl (o_ar rfl rfl rfl (by omega) (by omega) ?_)
          refine sr 1 rfl ?_
          refine s_op rfl (o_ar rfl rfl rfl (by omega) (by omega) ?_)
          refine sra rfl ⟨a + 3, ⟨rfl, rfl, ?_, rfl, trivial⟩, ⟨rfl, rfl, trivial⟩, rfl, by omega, by omega, ?_⟩
          · show I (a + 2) = I _
            unfold fromS; rw [if_pos h34]
          · have e : manyS (kindOf l a.toNat) (size l a.toNat) = min 1 (size l a.toNat - 2) := by rw [h34]; rfl
            have e' : fromS (kindOf l a.toNat) a = a + 2 := by rw [h34]; rfl
            rw [e, e']; split <;> omega
        · have h34 := of_decide_eq_false h34
          refine crr (by kernel_rfl) rfl ?_   -- region 10
          refine c_if rfl (fun h40 => ?_) (fun h40 => ?_)
          · have h40 := of_decide_eq_true h40
            refine c_region (by kernel_rfl) ?_   -- region 11
            refine sr 2 rfl ?_
            refine s_op rfl (o_ar rfl rfl rfl (by omega) (by omega) ?_)
            refine sra rfl ⟨a + (size l a.toNat : Nat), ⟨rfl, rfl, ?_, rfl, trivial⟩, ⟨rfl, rfl, trivial⟩, rfl, by omega, by omega, ?_⟩
            · show I (a + 1) = I _
              unfold fromS; rw [if_neg h34]
            · have e : manyS (kindOf l a.toNat) (size l a.toNat) = size l a.toNat - 1 := by rw [h40]; rfl
              have e' : fromS (kindOf l a.toNat) a = a + 1 := by rw [h40]; rfl
              rw [e, e']; split <;> omega
          · have h40 := of_decide_eq_false h40
            refine c_skip ⟨a + 1, ⟨rfl, rfl, ?_, rfl, trivial⟩, ⟨rfl, rfl, trivial⟩, rfl, by omega, by omega, ?_⟩
            · show I (a + 1) = I _
              unfold fromS; rw [if_neg h34]
            · have e : manyS (kindOf l a.toNat) (size l a.toNat) = 0 := by unfold manyS; rw [if_neg h26, if_neg h30, if_neg h34, if_neg h40]
              have e' : fromS (kindOf l a.toNat) a = a + 1 := by unfold fromS; rw [if_neg h34]
              rw [e, e']; split <;> omega
  rintro to st1 ⟨rfl, ht1, ht2, hto⟩
  have hfr : a + 1 ≤ fromS (kindOf l a.toNat) a ∧ fromS (kindOf l a.toNat) a ≤ a + 2 := by unfold fromS; split <;> omega
  refine crr (by kernel_rfl) rfl ?_   -- region 12
  refine c_seq ?_
  refine crr (by kernel_rfl) rfl ?_   -- region 13
  refine c_block ?_
  refine c_lp (α := Nat × Option Nat) (fun i => [(1, I a), (5, I (size l a.toNat : Nat)), (7, I to), (8, .sl i.2 0 (upN (fromS (kindOf l a.toNat) a) i.1).length), (9, I (fromS (kindOf l a.toNat) a + i.1))]) (fun _ => [])
    (fun i st' => i.1 ≤ manyS (kindOf l a.toNat) (size l a.toNat) ∧ Ex st st' ∧ Fr st.n st' i.2 (upN (fromS (kindOf l a.toNat) a) i.1)) (fun i => manyS (kindOf l a.toNat) (size l a.toNat) - i.1) (0, none) ⟨rfl, rfl, rfl, rfl, ?_, trivial⟩ trivial ⟨Nat.zero_le _, Ext.refl _ _, fr_nil _ _⟩ ?_
  · show I _ = I _
    congr 1
    simp
  rintro ⟨i, q⟩ st2 ⟨hi, he, hf⟩
  dsimp only at *
  have hul := upN_len (fromS (kindOf l a.toNat) a) i
  refine c_seq ?_
  refine c_rs (by kernel_rfl) ?_   -- region 14
  refine sr 4 rfl ?_
  refine s_op rfl (o_ar rfl rfl rfl (by omega) (by omega) ?_)
  refine s_op rfl (o_min rfl rfl ?_)
  rw [hto]
  refine sra rfl ?_
  refine c_if rfl (fun h52 => ?_) (fun h52 => ?_)
  · have h52 := of_decide_eq_true h52
    refine c_skip ?_
    refine c_seq ?_
    refine c_block ?_
    refine c_region (by kernel_rfl) ?_   -- region 16
    refine sr 2 rfl ?_
    refine s_op rfl (oone loud_n rfl rfl ?_)
    refine s_op rfl (oappF rfl rfl rfl (hf.ex (ex_push _ _)) rfl (at_row (Nat.lt_succ_self _) (push_ob _ _)) (by simp; omega) fun q2 st3 hf3 he2 => ?_)
    have he3 : Ex st st3 := (he.tr (ex_push _ _)).own (hf.ex (ex_push _ _)) he2
    rw [← upN_app] at hf3 ⊢
    refine sra rfl ?_
    refine c_region (by kernel_rfl) ?_   -- region 15
    refine sr 1 rfl ?_
    refine s_op rfl (o_ar rfl rfl rfl (by omega) (by omega) ?_)
    refine sra rfl ⟨(i + 1, q2), ⟨rfl, rfl, rfl, rfl, ?_, trivial⟩, trivial, ⟨by dsimp only; omega, he3, hf3⟩, by dsimp only; omega⟩
    show I _ = I _
    congr 1
    show _ = fromS (kindOf l a.toNat) a + ((i + 1 : Nat) : Int)
    omega
  · have h52 := of_decide_eq_false h52
    have hie : i = manyS (kindOf l a.toNat) (size l a.toNat) := by omega
    refine c_exit ?_
    refine crr (by kernel_rfl) rfl ?_   -- region 17
    refine c_ret (fr rfl ⟨q, ?_, ?_⟩)
    · rw [slotsL, ← hie]
    · rw [slotsL, ← hie]; exact hf
/-! ### blocks that values lead to -/
def blk (v : Int) : Int := if v % 8 < 4 then -1 else v / 8
theorem l7Block_c (v : Int) (st : St) : ACalls Tryd.prog 25 [I v] st No (Pure1 (I (blk v)) st) := by
  refine ent (N := 8) Tryd.func25 rfl (by decide) rfl rfl rfl ?_
  refine crr (by kernel_rfl) rfl ?_   -- region 0
  refine c_seq ?_
  refine c_rs (by kernel_rfl) ?_   -- region 1
  refine sr 1 rfl ?_
  refine s_op rfl (o_pure loud_n rfl (Kind_c ..) ?_)
  refine sra rfl ?_
  refine c_if rfl (fun h5 => ?_) (fun h5 => ?_)
  · have h5 := of_decide_eq_true h5
    refine crr (by kernel_rfl) rfl ?_   -- region 2
    exact c_ret (fr rfl ⟨by rw [blk, if_pos h5], rfl⟩)
  · have h5 := of_decide_eq_false h5
    refine c_skip ?_
    refine c_rs (by kernel_rfl) ?_   -- region 3
    refine sr 1 rfl ?_
    refine s_op rfl (o_pure loud_n rfl (Num_c ..) ?_)
    refine sra rfl ?_
    exact c_ret (fr rfl ⟨by rw [blk, if_neg h5], rfl⟩)
theorem hasPlace_c (v : Int) (st : St) : ACalls Tryd.prog 38 [I v] st No (Pure1 (.bool (decide (4 ≤ v % 8))) st) := by
  refine ent (N := 6) Tryd.func38 rfl (by decide) rfl rfl rfl ?_
  refine crr (by kernel_rfl) rfl ?_   -- region 0
  refine c_rs (by kernel_rfl) ?_   -- region 1
  refine sr 1 rfl ?_
  refine s_op rfl (o_pure loud_n rfl (iKind_c ..) ?_)
  refine sra rfl ?_
  exact c_ret (fr rfl ⟨rfl, rfl⟩)
theorem l7In_c (r : Option Nat) (o : Nat) (l : List Int) (x : Int) (st : St) (hx : At st r o l) (hl : l.length ≤ 1099511627776) : ACalls Tryd.prog 26 [.sl r o l.length, I x] st No (Pure1 (.bool (bd (x ∈ l))) st) := by
  refine ent (N := 18) Tryd.func26 rfl (by decide) rfl rfl rfl ?_
  refine crr (by kernel_rfl) rfl ?_   -- region 0
  refine c_seq ?_
  refine crr (by kernel_rfl) rfl ?_   -- region 1
  refine c_block ?_
  refine c_lp (α := Nat) (fun i => [(0, .sl r o l.length), (1, I x), (5, I i)]) (fun _ => []) (fun i st' => st = st' ∧ i ≤ l.length ∧ ∀ j : Nat, j < i → rd l j ≠ x) (fun i => l.length - i) 0 ⟨rfl, rfl, rfl, trivial⟩ trivial ⟨rfl, Nat.zero_le _, fun j hj => by omega⟩ ?_
  rintro i st' ⟨rfl, hi, hn⟩
  refine c_seq ?_
  refine crr (by kernel_rfl) rfl ?_   -- region 2
  refine c_if rfl (fun h9 => ?_) (fun h9 => ?_)
  · have h9 := of_decide_eq_true h9
    refine c_skip ?_
    refine c_seq ?_
    refine c_block ?_
    refine c_rs (by kernel_rfl) ?_   -- region 4
    refine sr 2 rfl ?_
    refine s_op rfl (oidx rfl rfl rfl (by omega) (by omega) ?_)
    refine s_op rfl (old rfl rfl (hx.rd (by omega) (by omega)) ?_)
    refine sra rfl ?_
    refine c_if rfl (fun h17 => ?_) (fun h17 => ?_)
    · have h17 := of_decide_eq_true h17
      refine crr (by kernel_rfl) rfl ?_   -- region 5
      exact c_ret (fr rfl ⟨abd ⟨fun _ => h17 ▸ mem_rd (by omega), fun _ => rfl⟩, rfl⟩)
    · have h17 := of_decide_eq_false h17
      refine c_skip ?_
      refine c_region (by kernel_rfl) ?_   -- region 3
      refine sr 1 rfl ?_
      refine s_op rfl (o_ar rfl rfl rfl (by omega) (by omega) ?_)
      refine sra rfl ⟨i + 1, ⟨rfl, rfl, rfl, trivial⟩, trivial, ⟨rfl, by omega, fun j hj => ?_⟩, by omega⟩
      by_cases e : j = i
      · rw [e]; exact h17
      · exact hn j (by omega)
  · have h9 := of_decide_eq_false h9
    refine c_exit ?_
    refine crr (by kernel_rfl) rfl ?_   -- region 6
    refine c_ret (fr rfl ⟨abd ⟨fun h => (by cases h), fun h => ?_⟩, rfl⟩)
    obtain ⟨j, hj, e⟩ := rd_mem h
    exact absurd e (hn j (by omega))
end Go.Proofs.YtmphklmhhcmbnaaDoorW.Ax

/- What is met from some values on: walked. -/
namespace Go.Proofs.YtmphklmhhcmbnaaDoorW.Ax
open Go Go.RowKit Go.Proofs Go.Proofs.YtmphklmhhcmbnaaDoor.Pure
set_option linter.unusedVariables false
set_option maxRecDepth 100000

/-! ### the order in which blocks are met -/
/-- A value that leads to a block, if it leads anywhere. -/
def Vb (l : List Int) (v : Int) : Prop := 4 ≤ v % 8 → v / 8 ∈ blocks l ∧ kindOf l (v / 8).toNat ≠ 0
def ad (out : List Int) (v : Int) : List Int := if 4 ≤ v % 8 ∧ v / 8 ∉ out then out ++ [v / 8] else out
def words (l : List Int) (xs : List Int) : List Int := xs.map fun x => rd l x
def bfs (l : List Int) : Nat → Nat → List Int → List Int
  | 0, _, out => out
  | f + 1, k, out => if k < out.length then bfs l f (k + 1) ((words l (slotsL l (rd out k))).foldl ad out) else out
def ordL (l rs : List Int) : List Int := bfs l 2001 0 (rs.foldl ad [])
theorem kat_vb {l : List Int} {v b : Int} (hb : 0 < b) (h : kat l (v / 8) = b) : v / 8 ∈ blocks l ∧ kindOf l (v / 8).toNat ≠ 0 := by
  have h1 := (kat_of (by omega)).1 h
  exact ⟨h1.1, by omega⟩
theorem Rf.vb {l : List Int} {v k b : Int} (h : Rf l v k b) (hb : 0 < b) : Vb l v := fun _ => kat_vb hb h.2
theorem Leads.vb {l : List Int} {v i : Int} (h : Leads l v i) (hi : 0 < i) : Vb l v := fun h4 => by
  have h5 : v % 8 = 4 ∨ v % 8 = 5 ∨ v % 8 = 6 ∨ v % 8 = 7 := by omega
  rcases h5 with e | e | e | e
  · exact kat_vb (by omega) (h.2.1 e)
  · exact kat_vb (by omega) (h.2.2.1 e)
  · exact kat_vb (by omega) (h.2.2.2.1 e)
  · exact kat_vb hi (h.2.2.2.2 e)
theorem Plain.vb {l : List Int} {v : Int} (h : Plain l v) : Vb l v := fun h4 => by
  have h5 : v % 8 = 4 ∨ v % 8 = 5 ∨ v % 8 = 6 := by have := h.1; omega
  rcases h5 with e | e | e
  · exact kat_vb (by omega) (h.2.2.1 e)
  · exact kat_vb (by omega) (h.2.2.2.1 e)
  · exact kat_vb (by omega) (h.2.2.2.2.1 e)
theorem Nxt.vb {l : List Int} {v b : Int} (h : Nxt l v b) (hb : 0 < b) : Vb l v := h.elim (fun e h4 => by rw [e] at h4; omega) (fun h => h.vb hb)
theorem upN_at {k : Int} {n : Nat} {x : Int} (h : x ∈ upN k n) : ∃ i : Nat, i < n ∧ x = k + i := by
  have := upN_mem h
  exact ⟨(x - k).toNat, by omega, by omega⟩
theorem slot_vb {l : List Int} {a x : Int} (hs : Shp l a) (ha : a ∈ blocks l) (hx : x ∈ slotsL l a) : Vb l (rd l x) := by
  have hb := block_at ha
  have hz := size_pos hb.2.2.1
  unfold Shp at hs
  unfold slotsL at hx
  obtain ⟨i, hi, rfl⟩ := upN_at hx
  unfold manyS at hi
  unfold fromS
  split at hi
  · rename_i h2
    rw [if_neg (by omega)]
    have h := hs.2.1 h2
    have : i = 0 ∨ i = 1 := by omega
    rcases this with rfl | rfl
    · rw [show a + 1 + ((0 : Nat) : Int) = a + 1 by omega]
      exact h.1.2.elim (fun e h4 => by rw [e] at h4; omega) (fun h => h.vb (by omega))
    · rw [show a + 1 + ((1 : Nat) : Int) = a + 2 by omega]
      exact h.2.vb (by omega)
  · split at hi
    · rename_i h3
      rw [if_neg (by omega)]
      have h := hs.2.2.1 h3
      have : i = 0 ∨ i = 1 ∨ i = 2 := by omega
      rcases this with rfl | rfl | rfl
      · rw [show a + 1 + ((0 : Nat) : Int) = a + 1 by omega]
        exact h.1.1.2.vb (by omega)
      · rw [show a + 1 + ((1 : Nat) : Int) = a + 2 by omega]
        exact h.1.2.vb
      · rw [show a + 1 + ((2 : Nat) : Int) = a + 3 by omega]
        exact h.2.vb (by omega)
    · split at hi
      · rename_i h4
        rw [if_pos h4]
        have h := hs.2.2.2.1 h4
        have : i = 0 := by omega
        subst this
        rw [show a + 2 + ((0 : Nat) : Int) = a + 2 by omega]
        exact h.2.vb (by omega)
      · split at hi
        · rename_i h5
          rw [if_neg (by omega)]
          have h := hs.2.2.2.2 h5
          by_cases h0 : i = 0
          · subst h0
            rw [show a + 1 + ((0 : Nat) : Int) = a + 1 by omega]
            exact h.1.vb (by omega)
          · rw [show a + 1 + (i : Int) = a + (i + 1) by omega]
            exact (h.2 (i + 1) (by omega) (by omega)).vb
        · omega
/-- Blocks that are met, none twice. -/
def Ord (l out : List Int) : Prop := out.Nodup ∧ ∀ a ∈ out, a ∈ blocks l ∧ kindOf l a.toNat ≠ 0
theorem Ord.len {l out : List Int} (h : Ord l out) : out.length ≤ 2000 := Nat.le_trans (nodup_len out (blocks l) h.1 fun x hx => (h.2 x hx).1) (blocks_lel l)
theorem ord_nil (l : List Int) : Ord l [] := ⟨List.nodup_nil, fun a h => by simp at h⟩
theorem Ord.ad {l out : List Int} (h : Ord l out) {v : Int} (hv : Vb l v) : Ord l (ad out v) := by
  unfold Ax.ad
  split
  · rename_i h1
    refine ⟨?_, fun a ha => ?_⟩
    · rw [List.nodup_append]
      refine ⟨h.1, by simp, fun x hx y hy e => ?_⟩
      obtain rfl : y = v / 8 := by simpa using hy
      exact h1.2 (e ▸ hx)
    · rcases List.mem_append.1 ha with ha | ha
      · exact h.2 a ha
      · rw [List.mem_singleton.1 ha]; exact hv h1.1
  · exact h
theorem Ord.all {l : List Int} {vs out : List Int} (h : Ord l out) (hv : ∀ v ∈ vs, Vb l v) : Ord l (vs.foldl Ax.ad out) := by
  induction vs generalizing out with
  | nil => exact h
  | cons v vs ih => exact ih (h.ad (hv v List.mem_cons_self)) fun w hw => hv w (List.mem_cons_of_mem _ hw)
theorem ad_pre (out : List Int) (v : Int) : ∃ r, ad out v = out ++ r := by
  unfold ad
  split
  · exact ⟨_, rfl⟩
  · exact ⟨[], by simp⟩
theorem ads_pre : ∀ (vs out : List Int), ∃ r, vs.foldl ad out = out ++ r
  | [], out => ⟨[], by simp⟩
  | v :: vs, out => by
    obtain ⟨r1, h1⟩ := ad_pre out v
    obtain ⟨r2, h2⟩ := ads_pre vs (ad out v)
    exact ⟨r1 ++ r2, by rw [List.foldl_cons, h2, h1]; simp⟩
theorem rts_vb {l rs : List Int} (h : Rts l rs) : ∀ v ∈ rs, Vb l v := fun v hv => (h.2 v hv).vb (by omega)
theorem slots_vb {l : List Int} (hp : Heap l) {a : Int} (ha : a ∈ blocks l) : ∀ v ∈ words l (slotsL l a), Vb l v := fun v hv => by
  obtain ⟨x, hx, rfl⟩ := List.mem_map.1 hv
  exact slot_vb (hp.2 a ha) ha hx
theorem foldl_rd (vs out : List Int) (i : Nat) (h : i < vs.length) : (vs.take (i + 1)).foldl ad out = ad ((vs.take i).foldl ad out) (rd vs i) := by
  have e : vs.take (i + 1) = vs.take i ++ [rd vs i] := by
    rw [List.take_succ_eq_append_getElem h]
    simp [rd, List.getD, h]
  rw [e, List.foldl_append]; rfl
theorem bfs_end (l : List Int) (f k : Nat) (out : List Int) (h : out.length ≤ k) : bfs l f k out = out := by
  cases f with
  | zero => rfl
  | succ f => unfold bfs; rw [if_neg (by omega)]
theorem ord_ok {l rs : List Int} (h : Rts l rs) : Ord l (ordL l rs) := by
  have key : ∀ f k out, Ord l out → Ord l (bfs l f k out) := by
    intro f
    induction f with
    | zero => intro k out ho; exact ho
    | succ f ih =>
      intro k out ho
      unfold bfs
      split
      · rename_i hk
        exact ih _ _ (ho.all (slots_vb h.1 (ho.2 _ (mem_rd hk)).1))
      · exact ho
  exact key _ _ _ ((ord_nil l).all (rts_vb h))
/-- A walk through the blocks that are met: k of them are done, the words of the next one up to j. -/
structure Bf (l : List Int) (O : List Int) (f k : Nat) (out : List Int) : Prop where
  ord : Ord l out
  run : bfs l f k out = O
  f : f + k = 2001
theorem Bf.fuel {l O : List Int} {f k : Nat} {out : List Int} (h : Bf l O f k out) (hk : k ≤ out.length) : ∃ g, f = g + 1 := by
  have := h.ord.len
  have := h.f
  exact ⟨f - 1, by omega⟩
theorem Bf.next {l O : List Int} (hp : Heap l) {f k : Nat} {out : List Int} (h : Bf l O (f + 1) k out) (hk : k < out.length) : Bf l O f (k + 1) ((words l (slotsL l (rd out k))).foldl Ax.ad out) where
  ord := h.ord.all (slots_vb hp (h.ord.2 _ (mem_rd hk)).1)
  run := by
    have := h.run
    unfold bfs at this
    rwa [if_pos hk] at this
  f := by have := h.f; omega
theorem bf_start {l rs : List Int} (h : Rts l rs) : Bf l (ordL l rs) 2001 0 (rs.foldl Ax.ad []) := ⟨(ord_nil l).all (rts_vb h), rfl, by omega⟩

theorem l7Order_c (r rr : Option Nat) (o or : Nat) (l rs : List Int) (st : St) (hx : At st r o l) (hy : At st rr or rs) (h : Rts l rs) (hlr : rs.length ≤ 1048576) : ACalls Tryd.prog 16 [.agg [.sl r o l.length], .sl rr or rs.length] st No (Ro st (ordL l rs)) := by
  have hp := h.1
  have hlen := okB_len hp.1
  have vb0 : ∀ v, Vb l v → ((0 ≤ blk v) ↔ 4 ≤ v % 8) ∧ (4 ≤ v % 8 → blk v = v / 8) := fun v hv => by
    unfold blk
    by_cases h4 : v % 8 < 4
    · rw [if_pos h4]; exact ⟨⟨fun h => by omega, fun h => by omega⟩, fun h => by omega⟩
    · rw [if_neg h4]
      have := (block_at (hv (by omega)).1).1
      exact ⟨⟨fun _ => by omega, fun _ => this⟩, fun _ => rfl⟩
  refine ent (N := 76) Tryd.func16 rfl (by decide) rfl rfl rfl ?_
  refine crr (by kernel_rfl) rfl ?_   -- region 0
  refine c_rs (by kernel_rfl) ?_   -- region 1
  refine s_op rfl (oints [] loud_n rfl (by decide) rfl rfl rfl fun q st1 hq e1 => ?_)
  refine sra rfl ?_
  refine c_seq ?_
  refine crr (by kernel_rfl) rfl ?_   -- region 2
  refine c_block ?_
  refine c_lp (α := Nat × Nat) (fun i => [(1, .sl rr or rs.length), (5, .sl (some i.2) 0 ((rs.take i.1).foldl ad []).length), (6, I i.1)]) (fun _ => [(2, 2, [.sl r o l.length])])
    (fun i st' => i.1 ≤ rs.length ∧ Ex st st' ∧ Fr st.n st' (some i.2) ((rs.take i.1).foldl ad [])) (fun i => rs.length - i.1) (0, q) ⟨rfl, rfl, rfl, trivial⟩ ⟨rfl, rfl, trivial⟩ ⟨Nat.zero_le _, e1, hq⟩ ?_
  rintro ⟨i, q⟩ st2 ⟨hi, he, hf⟩
  dsimp only at *
  have hol : ((rs.take i).foldl ad []).length ≤ 2000 := ((ord_nil l).all fun v hv => rts_vb h v (List.mem_of_mem_take hv)).len
  refine c_seq ?_
  refine crr (by kernel_rfl) rfl ?_   -- region 3
  refine c_if rfl (fun h16 => ?_) (fun h16 => ?_)
  · have h16 := of_decide_eq_true h16
    have hvb := rts_vb h _ (mem_rd (show i < rs.length by omega))
    obtain ⟨hb1, hb2⟩ := vb0 _ hvb
    refine c_skip ?_
    refine c_sj (α := Nat) (fun q' => [(1, .sl rr or rs.length), (5, .sl (some q') 0 (ad ((rs.take i).foldl ad []) (rd rs i)).length), (6, I i)]) (fun _ => [(2, 2, [.sl r o l.length])])
      (fun q' st' => Ex st st' ∧ Fr st.n st' (some q') (ad ((rs.take i).foldl ad []) (rd rs i))) ?_ ?_
    · refine c_block ?_
      refine c_rs (by kernel_rfl) ?_   -- region 5
      refine sr 2 rfl ?_
      refine s_op rfl (oidx rfl rfl rfl (by omega) (by omega) ?_)
      refine s_op rfl (old rfl rfl ((hy.ex he).rd (by omega) (by omega)) ?_)
      refine s_op rfl (o_pure loud_n rfl (l7Block_c ..) ?_)
      refine sra rfl ?_
      refine c_sj (α := Bool) (fun b => [(1, .sl rr or rs.length), (5, .sl (some q) 0 ((rs.take i).foldl ad []).length), (6, I i), (7, I (blk (rd rs i))), (31, .bool b)]) (fun _ => [(2, 2, [.sl r o l.length])]) (fun b st' => st2 = st' ∧ (b = true ↔ 4 ≤ rd rs i % 8 ∧ rd rs i / 8 ∉ (rs.take i).foldl ad [])) ?_ ?_
      · refine c_region (by kernel_rfl) ?_   -- region 6
        refine sr 3 rfl ?_
        refine s_bool 26 rfl rfl (fun h26 => ?_) (fun h26 => ?_)
        · have h26 := hb1.1 (of_decide_eq_true h26)
          refine sr 2 rfl ?_
          refine s_op rfl (o_pure loud_n rfl (l7In_c _ _ _ _ _ hf.at_ (by omega)) ?_)
          refine sra rfl ⟨_, ⟨rfl, rfl, rfl, rfl, rfl, trivial⟩, ⟨rfl, rfl, trivial⟩, rfl, ?_⟩
          rw [hb2 h26]
          exact ⟨fun h => ⟨h26, nbt h⟩, fun h => (by rw [bdf.2 h.2]; rfl)⟩
        · have h26 : ¬ 4 ≤ rd rs i % 8 := fun h => of_decide_eq_false h26 (hb1.2 h)
          refine sra rfl ⟨false, ⟨rfl, rfl, rfl, rfl, rfl, trivial⟩, ⟨rfl, rfl, trivial⟩, rfl, ⟨fun h => (by cases h), fun h => absurd h.1 h26⟩⟩
      rintro b st3 ⟨rfl, hb⟩
      refine c_if rfl (fun h31 => ?_) (fun h31 => ?_)
      · have h31 := hb.1 h31
        have ea : ad ((rs.take i).foldl ad []) (rd rs i) = (rs.take i).foldl ad [] ++ [rd rs i / 8] := by rw [ad, if_pos h31]
        rw [hb2 h31.1]
        refine c_region (by kernel_rfl) ?_   -- region 7
        refine sr 2 rfl ?_
        refine s_op rfl (oone loud_n rfl rfl ?_)
        refine s_op rfl (oappF rfl rfl rfl (hf.ex (ex_push _ _)) rfl (at_row (Nat.lt_succ_self _) (push_ob _ _)) (by simp; omega) fun q2 st3 hf3 he2 => ?_)
        have he3 : Ex st st3 := (he.tr (ex_push _ _)).own (hf.ex (ex_push _ _)) he2
        rw [← ea] at hf3 ⊢
        obtain ⟨q3, rfl⟩ := hf3.some_of (fun e => by rw [ea] at e; simp at e)
        exact sra rfl ⟨q3, ⟨rfl, rfl, rfl, trivial⟩, ⟨rfl, rfl, trivial⟩, he3, hf3⟩
      · have h31 : ¬ (4 ≤ rd rs i % 8 ∧ rd rs i / 8 ∉ (rs.take i).foldl ad []) := fun h => by rw [hb.2 h] at h31; cases h31
        have ea : ad ((rs.take i).foldl ad []) (rd rs i) = (rs.take i).foldl ad [] := by rw [ad, if_neg h31]
        rw [ea]
        exact c_skip ⟨q, ⟨rfl, rfl, rfl, trivial⟩, ⟨rfl, rfl, trivial⟩, he, hf⟩
    rintro q' st3 ⟨he3, hf3⟩
    refine c_region (by kernel_rfl) ?_   -- region 4
    refine sr 1 rfl ?_
    refine s_op rfl (o_ar rfl rfl rfl (by omega) (by omega) ?_)
    rw [← foldl_rd _ _ _ (by omega)] at hf3 ⊢
    exact sra rfl ⟨(i + 1, q'), ⟨rfl, rfl, rfl, trivial⟩, ⟨rfl, rfl, trivial⟩, ⟨by dsimp only; omega, he3, hf3⟩, by dsimp only; omega⟩
  · have h16 := of_decide_eq_false h16
    have hie : rs.take i = rs := List.take_of_length_le (by omega)
    rw [hie] at hf ⊢
    refine c_exit ?_
    refine c_seq ?_
    refine crr (by kernel_rfl) rfl ?_   -- region 8
    refine c_block ?_
    refine c_lp (α := Nat × Nat × List Int × Nat) (fun i => [(5, .sl (some i.2.1) 0 i.2.2.1.length), (8, I i.1)]) (fun _ => [(2, 2, [.sl r o l.length])])
      (fun i st' => i.1 ≤ i.2.2.1.length ∧ Ex st st' ∧ Fr st.n st' (some i.2.1) i.2.2.1 ∧ Bf l (ordL l rs) i.2.2.2 i.1 i.2.2.1) (fun i => i.2.2.2) (0, q, rs.foldl ad [], 2001) ⟨rfl, rfl, trivial⟩ ⟨rfl, rfl, trivial⟩ ⟨Nat.zero_le _, he, hf, bf_start h⟩ ?_
    rintro ⟨k, q, out, f⟩ st3 ⟨hk, he, hf, hbf⟩
    dsimp only at *
    obtain ⟨f, rfl⟩ := hbf.fuel hk
    have hol := hbf.ord.len
    refine c_seq ?_
    refine crr (by kernel_rfl) rfl ?_   -- region 9
    refine c_if rfl (fun h39 => ?_) (fun h39 => ?_)
    · have h39 := of_decide_eq_true h39
      have hka := (hbf.ord.2 _ (mem_rd (show k < out.length by omega))).1
      have hsl := slots_len hka
      have hwl : (words l (slotsL l (rd out k))).length = (slotsL l (rd out k)).length := List.length_map _
      have hsv := slots_vb hp hka
      refine c_skip ?_
      refine c_seq ?_
      refine c_block ?_
      refine cds [0, 1, 2, 3, 4, 5, 6] [.q, .q, .q, .q, .q, .f, .q] (by kernel_rfl) (by kernel_rfl) ?_   -- region 11
      refine sr 3 rfl ?_
      refine s_op rfl (oidx rfl rfl rfl (by omega) (by omega) ?_)
      refine s_op rfl (old rfl rfl (hf.at_.rd (by omega) (by omega)) ?_)
      refine s_op rfl (o_ex loud_f rfl (l3Slots_c _ _ _ _ _ (hx.ex he) hka) ?_)
      rintro v4 st4 ⟨p, rfl, hps⟩ e4
      have he4 := he.tr e4
      have hf4 := hf.ex e4
      refine sra rfl ?_
      refine crr (by kernel_rfl) rfl ?_   -- region 12
      refine c_block ?_
      refine c_lp (α := Nat × Nat) (fun i => [(5, .sl (some i.2) 0 (((words l (slotsL l (rd out k))).take i.1).foldl ad out).length), (8, I k), (9, .sl (some p) 0 (slotsL l (rd out k)).length), (10, I i.1)]) (fun _ => [(2, 2, [.sl r o l.length])])
        (fun i st' => i.1 ≤ (slotsL l (rd out k)).length ∧ Ex st st' ∧ Fr st.n st' (some i.2) (((words l (slotsL l (rd out k))).take i.1).foldl ad out) ∧ At st' (some p) 0 (slotsL l (rd out k)) ∧ p < st'.n ∧ i.2 ≠ p) (fun i => (slotsL l (rd out k)).length - i.1) (0, q) ⟨rfl, rfl, rfl, rfl, trivial⟩ ⟨rfl, rfl, trivial⟩
        ⟨Nat.zero_le _, he4, hf4, hps.at_, (hps.bd p rfl).2, fun e => by have := hf.bd q rfl; have := (hps.bd p rfl).1; omega⟩ ?_
      rintro ⟨i, q⟩ st5 ⟨hi, he, hf, hpa, hpn, hqp⟩
      dsimp only at *
      have hol2 : (((words l (slotsL l (rd out k))).take i).foldl ad out).length ≤ 2000 := (hbf.ord.all fun v hv => hsv v (List.mem_of_mem_take hv)).len
      refine c_seq ?_
      refine crr (by kernel_rfl) rfl ?_   -- region 13
      refine c_if rfl (fun h51 => ?_) (fun h51 => ?_)
      · have h51 := of_decide_eq_true h51
        have hxm : rd (slotsL l (rd out k)) i ∈ slotsL l (rd out k) := mem_rd (by omega)
        have hin := slots_in hka hxm
        have hkb := block_at hka
        have hwr : rd (words l (slotsL l (rd out k))) i = rd l (rd (slotsL l (rd out k)) i) := by
          have : i < (slotsL l (rd out k)).length := by omega
          generalize slotsL l (rd out k) = sl at this
          simp [words, rd, List.getD, this]
        have hvb := hsv _ (mem_rd (show i < (words l (slotsL l (rd out k))).length by omega))
        obtain ⟨hb1, hb2⟩ := vb0 _ hvb
        refine c_skip ?_
        refine c_sj (α := Nat) (fun q' => [(5, .sl (some q') 0 (ad (((words l (slotsL l (rd out k))).take i).foldl ad out) (rd (words l (slotsL l (rd out k))) i)).length), (8, I k), (9, .sl (some p) 0 (slotsL l (rd out k)).length), (10, I i)]) (fun _ => [(2, 2, [.sl r o l.length])])
          (fun q' st' => Ex st st' ∧ Fr st.n st' (some q') (ad (((words l (slotsL l (rd out k))).take i).foldl ad out) (rd (words l (slotsL l (rd out k))) i)) ∧ At st' (some p) 0 (slotsL l (rd out k)) ∧ p < st'.n ∧ q' ≠ p) ?_ ?_
        · refine c_block ?_
          refine cds [0, 1, 2, 3, 4, 5, 6, 7, 8, 9] [.q, .q, .q, .q, .q, .q, .q, .q, .f, .q] (by kernel_rfl) (by kernel_rfl) ?_   -- region 15
          refine sr 4 rfl ?_
          refine s_op rfl (oidx rfl rfl rfl (by omega) (by omega) ?_)
          refine s_op rfl (old rfl rfl (hpa.rd (by omega) (by omega)) ?_)
          refine s_op rfl (oidx rfl rfl rfl (by omega) (by omega) ?_)
          refine s_op rfl (old rfl rfl ((hx.ex he).rd (by omega) (by omega)) ?_)
          refine s_op rfl (o_pure loud_f rfl (l7Block_c ..) ?_)
          rw [← hwr]
          refine sra rfl ?_
          refine c_sj (α := Bool) (fun b => [(5, .sl (some q) 0 (((words l (slotsL l (rd out k))).take i).foldl ad out).length), (8, I k), (9, .sl (some p) 0 (slotsL l (rd out k)).length), (10, I i), (11, I (blk (rd (words l (slotsL l (rd out k))) i))), (70, .bool b)]) (fun _ => [(2, 2, [.sl r o l.length])]) (fun b st' => st5 = st' ∧ (b = true ↔ 4 ≤ rd (words l (slotsL l (rd out k))) i % 8 ∧ rd (words l (slotsL l (rd out k))) i / 8 ∉ ((words l (slotsL l (rd out k))).take i).foldl ad out)) ?_ ?_
          · refine c_region (by kernel_rfl) ?_   -- region 16
            refine sr 3 rfl ?_
            refine s_bool 65 rfl rfl (fun h65 => ?_) (fun h65 => ?_)
            · have h65 := hb1.1 (of_decide_eq_true h65)
              refine sr 2 rfl ?_
              refine s_op rfl (o_pure loud_n rfl (l7In_c _ _ _ _ _ hf.at_ (by omega)) ?_)
              refine sra rfl ⟨_, ⟨rfl, rfl, rfl, rfl, rfl, rfl, trivial⟩, ⟨rfl, rfl, trivial⟩, rfl, ?_⟩
              rw [hb2 h65]
              exact ⟨fun h => ⟨h65, nbt h⟩, fun h => (by rw [bdf.2 h.2]; rfl)⟩
            · have h65 : ¬ 4 ≤ rd (words l (slotsL l (rd out k))) i % 8 := fun h => of_decide_eq_false h65 (hb1.2 h)
              refine sra rfl ⟨false, ⟨rfl, rfl, rfl, rfl, rfl, rfl, trivial⟩, ⟨rfl, rfl, trivial⟩, rfl, ⟨fun h => (by cases h), fun h => absurd h.1 h65⟩⟩
          rintro b st6 ⟨rfl, hb⟩
          refine c_if rfl (fun h70 => ?_) (fun h70 => ?_)
          · have h70 := hb.1 h70
            have ea : ad (((words l (slotsL l (rd out k))).take i).foldl ad out) (rd (words l (slotsL l (rd out k))) i) = ((words l (slotsL l (rd out k))).take i).foldl ad out ++ [rd (words l (slotsL l (rd out k))) i / 8] := by rw [ad, if_pos h70]
            rw [hb2 h70.1]
            refine c_region (by kernel_rfl) ?_   -- region 17
            refine sr 2 rfl ?_
            refine s_op rfl (oone loud_n rfl rfl ?_)
            refine s_op rfl (oappG (Nat.le_trans he.n (Nat.le_succ _)) rfl rfl rfl (hf.ex (ex_push _ _)) rfl (at_row (Nat.lt_succ_self _) (push_ob _ _)) (by simp; omega) fun q2 st7 hf7 hn7 he7 => ?_)
            have he3 : Ex st st7 := (he.tr (ex_push _ _)).own (hf.ex (ex_push _ _)) he7
            have hpa7 := (hpa.ex (ex_push _ _)).ext he7 (fun j hj hq => hqp (by injection hj with hj; injection hq with hq; omega))
            have hpn7 : p < st7.n := Nat.lt_of_lt_of_le (Nat.lt_succ_of_lt hpn) he7.n
            rw [← ea] at hf7 ⊢
            obtain ⟨q3, rfl⟩ := hf7.some_of (fun e => by rw [ea] at e; simp at e)
            exact sra rfl ⟨q3, ⟨rfl, rfl, rfl, rfl, trivial⟩, ⟨rfl, rfl, trivial⟩, he3, hf7, hpa7, hpn7, fun e => by have := hn7 q3 rfl; have : st5.n + 1 ≤ q3 := this; omega⟩
          · have h70 : ¬ (4 ≤ rd (words l (slotsL l (rd out k))) i % 8 ∧ rd (words l (slotsL l (rd out k))) i / 8 ∉ ((words l (slotsL l (rd out k))).take i).foldl ad out) := fun h => by rw [hb.2 h] at h70; cases h70
            have ea : ad (((words l (slotsL l (rd out k))).take i).foldl ad out) (rd (words l (slotsL l (rd out k))) i) = ((words l (slotsL l (rd out k))).take i).foldl ad out := by rw [ad, if_neg h70]
            rw [ea]
            exact c_skip ⟨q, ⟨rfl, rfl, rfl, rfl, trivial⟩, ⟨rfl, rfl, trivial⟩, he, hf, hpa, hpn, hqp⟩
        rintro q' st6 ⟨he6, hf6, hpa6, hpn6, hqp6⟩
        refine c_region (by kernel_rfl) ?_   -- region 14
        refine sr 1 rfl ?_
        refine s_op rfl (o_ar rfl rfl rfl (by omega) (by omega) ?_)
        rw [← foldl_rd _ _ _ (by omega)] at hf6 ⊢
        exact sra rfl ⟨(i + 1, q'), ⟨rfl, rfl, rfl, rfl, trivial⟩, ⟨rfl, rfl, trivial⟩, ⟨by dsimp only; omega, he6, hf6, hpa6, hpn6, hqp6⟩, by dsimp only; omega⟩
      · have h51 := of_decide_eq_false h51
        have hie : (words l (slotsL l (rd out k))).take i = words l (slotsL l (rd out k)) := List.take_of_length_le (by omega)
        rw [hie] at hf ⊢
        have hpre := ads_pre (words l (slotsL l (rd out k))) out
        refine c_exit ?_
        refine c_region (by kernel_rfl) ?_   -- region 10
        refine sr 1 rfl ?_
        refine s_op rfl (o_ar rfl rfl rfl (by omega) (by omega) ?_)
        refine sra rfl ⟨(k + 1, q, (words l (slotsL l (rd out k))).foldl ad out, f), ⟨rfl, rfl, trivial⟩, ⟨rfl, rfl, trivial⟩, ⟨?_, he, hf, hbf.next hp (by omega)⟩, by dsimp only; omega⟩
        obtain ⟨r', hr'⟩ := hpre
        dsimp only
        rw [hr', List.length_append]; omega
    · have h39 := of_decide_eq_false h39
      have e : ordL l rs = out := by rw [← hbf.run]; exact bfs_end _ _ _ _ (by omega)
      refine c_exit ?_
      refine crr (by kernel_rfl) rfl ?_   -- region 18
      exact c_ret (fr rfl ⟨q, by rw [e], by rw [e]; exact hf⟩)
end Go.Proofs.YtmphklmhhcmbnaaDoorW.Ax

/- What is met, by the program: walked. -/
namespace Go.Proofs.YtmphklmhhcmbnaaDoorW.Ax
open Go Go.RowKit Go.Proofs Go.Proofs.YtmphklmhhcmbnaaDoor.Pure
set_option linter.unusedVariables false
set_option maxRecDepth 100000

theorem cell_lt {st : St} {r : Option Nat} {j i : Nat} {v : AV} (h : cell st r j = some v) (hr : r = some i) : i < st.n := by
  subst hr
  unfold cell at h
  simp only at h
  split at h
  · assumption
  · cases h
/-- What was there when the call began stays. -/
theorem At.over {st0 st1 : St} {r : Option Nat} {o : Nat} {xs : List Int} (h : At st0 r o xs) (he : Ext (fun i => st0.n ≤ i) st0 st1) : At st1 r o xs := fun j hj => cell_ext he (h j hj) fun i hi hn => by
  have := cell_lt (h j hj) hi
  omega
theorem Ex.over {st0 st1 : St} (h : Ex st0 st1) : Ext (fun i => st0.n ≤ i) st0 st1 := ⟨h.n, fun i hi _ => h.ob i hi id⟩
theorem Ext.over {T : Nat → Prop} {st0 st1 st2 : St} (h : Ext (fun i => st0.n ≤ i) st0 st1) (k : Ext T st1 st2) (hT : ∀ i, T i → st0.n ≤ i) : Ext (fun i => st0.n ≤ i) st0 st2 := h.trans k fun i _ ht => hT i ht

/-- The store while blocks are met: the map of those that are seen, their list. -/
structure MetS (n0 b1 b2 r : Nat) (q : Option Nat) (out : List Int) (st : St) : Prop where
  h1 : n0 ≤ b1 ∧ b1 < st.n ∧ st.ob b1 = .row true [.map r]
  hr : ∃ es, n0 ≤ r ∧ r < st.n ∧ st.ob r = .map es ∧ ∀ j, (mget es j).getD (.bool false) = .bool (decide (j ∈ out))
  h2 : n0 ≤ b2 ∧ b2 < st.n ∧ st.ob b2 = .row true [.sl q 0 out.length]
  hq : Fr n0 st q out
  b12 : b1 ≠ b2
theorem MetS.ex {n0 b1 b2 r : Nat} {q : Option Nat} {out : List Int} {st st' : St} (h : MetS n0 b1 b2 r q out st) (he : Ex st st') : MetS n0 b1 b2 r q out st' := by
  obtain ⟨⟨a1, a2, a3⟩, ⟨es, c1, c2, c3, c4⟩, ⟨d1, d2, d3⟩, hq, b12⟩ := h
  have := he.n
  exact ⟨⟨a1, by omega, by rw [he.ob b1 a2 id]; exact a3⟩, ⟨es, c1, by omega, by rw [he.ob r c2 id]; exact c3, c4⟩, ⟨d1, by omega, by rw [he.ob b2 d2 id]; exact d3⟩, hq.ex he, b12⟩
/-- One more value is met. -/
def MetP (n0 b1 b2 r : Nat) (q : Option Nat) (n : Nat) (out : List Int) : AV → St → Prop := fun v st' => v = .tup [] ∧ ∃ q', MetS n0 b1 b2 r q' out st' ∧ ∀ i, q' = some i → q = some i ∨ n ≤ i
theorem met1_c (n0 b1 b2 r : Nat) (q : Option Nat) (out : List Int) (v : Int) (st : St) (h : MetS n0 b1 b2 r q out st) (ho : out.length ≤ 2000) : ACalls Tryd.prog 37 [I v, .ptr (some b1) 0, .ptr (some b2) 0] st (fun i => i = r ∨ i = b2 ∨ q = some i) (MetP n0 b1 b2 r q st.n (ad out v)) := by
  obtain ⟨⟨a1, a2, a3⟩, ⟨es, c1, c2, c3, c4⟩, ⟨d1, d2, d3⟩, hq, b12⟩ := h
  have hrb1 : r ≠ b1 := fun e => by rw [e, a3] at c3; cases c3
  have hrb2 : r ≠ b2 := fun e => by rw [e, d3] at c3; cases c3
  have hqr : ∀ i, q = some i → i ≠ r := fun i hi e => by
    subst hi; subst e
    have := hq.ob.2.2; rw [c3] at this; cases this
  have hqb2 : ∀ i, q = some i → i ≠ b2 := fun i hi e => by
    subst hi; subst e
    have := hq.ob.2.2; rw [d3] at this
    injection this with _ this
    cases out with
    | nil => cases this
    | cons x out => injection this with this _; cases this
  have hqb1 : ∀ i, q = some i → i ≠ b1 := fun i hi e => by
    subst hi; subst e
    have := hq.ob.2.2; rw [a3] at this
    injection this with _ this
    cases out with
    | nil => cases this
    | cons x out => injection this with this _; cases this
  have hc1 : cell st (some b1) 0 = some (.map r) := by rw [cell_row a2 a3]; rfl
  have hc2 : cell st (some b2) 0 = some (.sl q 0 out.length) := by rw [cell_row d2 d3]; rfl
  refine ent (N := 21) Tryd.func37 rfl (by decide) rfl rfl rfl ?_
  refine c_sj (α := Bool) (fun b => [(0, I v), (1, .ptr (some b1) 0), (2, .ptr (some b2) 0), (12, .bool b)]) (fun _ => []) (fun b st' => st = st' ∧ (b = true ↔ 4 ≤ v % 8 ∧ v / 8 ∉ out)) ?_ ?_
  · refine cd1 [0, 1, 2, 3, 4, 5, 6, 7, 8] [.q, .f, .q, .q, .q, .f, .q, .q, .q] (by kernel_rfl) (by kernel_rfl) ?_   -- region 0
    refine sr 1 rfl ?_
    refine s_op rfl (o_pure loud_f rfl (hasPlace_c ..) ?_)
    refine sr 1 rfl ?_
    refine s_bool 6 rfl rfl (fun h6 => ?_) (fun h6 => ?_)
    · have h6 := of_decide_eq_true h6
      refine s_op rfl (old rfl rfl hc1 ?_)
      refine sr 1 rfl ?_
      refine s_op rfl (o_pure loud_f rfl (iNum_c ..) ?_)
      refine s_op rfl (omget (.bool false) (.bool false) rfl rfl rfl rfl (by kernel_rfl) (fun _ _ => rfl) rfl rfl c2 c3 _ (c4 _) ?_)
      refine sra rfl ⟨_, ⟨rfl, rfl, rfl, rfl, trivial⟩, trivial, rfl, ?_⟩
      exact ⟨fun h => ⟨h6, ndt h⟩, fun h => (by rw [decide_eq_false h.2]; rfl)⟩
    · have h6 := of_decide_eq_false h6
      refine sra rfl ⟨false, ⟨rfl, rfl, rfl, rfl, trivial⟩, trivial, rfl, ⟨fun h => (by cases h), fun h => absurd h.1 h6⟩⟩
  rintro b st1 ⟨rfl, hb⟩
  refine c_if rfl (fun h12 => ?_) (fun h12 => ?_)
  · have h12 := hb.1 h12
    have ea : ad out v = out ++ [v / 8] := by rw [ad, if_pos h12]
    refine cds [0, 1, 2, 3] [.q, .q, .f, .n] (by kernel_rfl) (by kernel_rfl) ?_   -- region 1
    refine s_op rfl (old rfl rfl hc1 ?_)
    refine sr 1 rfl ?_
    refine s_op rfl (o_pure loud_f rfl (iNum_c ..) ?_)
    refine s_op rfl (omput (v := .bool true) rfl rfl rfl rfl rfl rfl c2 (fun _ => .inl rfl) c3 rfl ?_)
    have e1 := ext_set st r (.map (mput es (v / 8) (.bool true)))
    have m1 : (st.set r (.map (mput es (v / 8) (.bool true)))).ob r = .map (mput es (v / 8) (.bool true)) := set_ob _ _ _
    have n1 : (st.set r (.map (mput es (v / 8) (.bool true)))).n = st.n := rfl
    have hc2' : cell (st.set r (.map (mput es (v / 8) (.bool true)))) (some b2) 0 = some (.sl q 0 out.length) := cell_ext e1 hc2 (fun i hi e => hrb2 (by injection hi with hi; omega))
    have hq1 : Fr n0 (st.set r (.map (mput es (v / 8) (.bool true)))) q out := hq.ext e1 (fun i hi e => hqr i hi e)
    have b1o : (st.set r (.map (mput es (v / 8) (.bool true)))).ob b1 = .row true [.map r] := by rw [set_ne _ _ _ (Ne.symm hrb1)]; exact a3
    generalize st.set r (.map (mput es (v / 8) (.bool true))) = st2 at e1 m1 n1 hc2' hq1 b1o ⊢
    refine s_end ?_
    refine cdt1 [0, 1, 2, 3, 4, 5] [.q, .q, .f, .f, .n, .n] (by kernel_rfl) (by kernel_rfl) ?_   -- region 2
    refine s_op rfl (old rfl rfl hc2' ?_)
    refine sr 1 rfl ?_
    refine s_op rfl (o_pure loud_f rfl (iNum_c ..) ?_)
    refine s_op rfl (oints [v / 8] loud_f rfl (by decide) rfl rfl rfl fun p st3 hp e3 => ?_)
    have hq3 := hq1.ex e3
    have hpb := hp.bd p rfl
    refine s_op rfl (oappT (fun i hi _ => .inr (.inr hi)) (by have := e3.n; omega) rfl rfl rfl hq3 rfl hp.at_ (by simp; omega) fun q2 st4 hq4 hn4 e4 => ?_)
    have e34 := e3.n
    have e45 := e4.n
    have r4 : st4.ob r = .map (mput es (v / 8) (.bool true)) := by rw [e4.ob r (by omega) (fun e => hqr _ e rfl), e3.ob r (by omega) id]; exact m1
    have b14 : st4.ob b1 = .row true [.map r] := by rw [e4.ob b1 (by omega) (fun e => hqb1 _ e rfl), e3.ob b1 (by omega) id]; exact b1o
    have b24 : st4.ob b2 = .row true [.sl q 0 out.length] := by
      rw [e4.ob b2 (by omega) (fun e => hqb2 _ e rfl), e3.ob b2 (by omega) id, e1.ob b2 d2 (fun e => hrb2 e.symm)]; exact d3
    refine s_op rfl (ost1 rfl rfl (by omega) (fun _ => .inr (.inl rfl)) b24 rfl rfl rfl ?_)
    refine s_end ?_
    refine frn rfl ⟨rfl, q2, ⟨⟨a1, ?_, ?_⟩, ⟨mput es (v / 8) (.bool true), c1, ?_, ?_, fun j => ?_⟩, ⟨d1, ?_, ?_⟩, ?_, b12⟩, fun i hi => ?_⟩
    · show b1 < st4.n; omega
    · rw [set_ne _ _ _ b12]; exact b14
    · show r < st4.n; omega
    · rw [set_ne _ _ _ hrb2]; exact r4
    · rw [mget_put, ea]
      by_cases hj : j = v / 8
      · rw [if_pos hj, decide_eq_true (by rw [hj]; simp)]; rfl
      · rw [if_neg hj, c4 j]
        congr 1
        exact decide_eq_decide.2 ⟨fun h => by simp [h], fun h => by
          rcases List.mem_append.1 h with h | h
          · exact h
          · exact absurd (List.mem_singleton.1 h) hj⟩
    · show b2 < st4.n; omega
    · rw [set_ob, ea]; rfl
    · rw [ea]
      exact hq4.ext (ext_set st4 b2 _) (fun i hi e => by have := hn4 i hi; omega)
    · right; have := hn4 i hi; omega
  · have h12 : ¬ (4 ≤ v % 8 ∧ v / 8 ∉ out) := fun h => by rw [hb.2 h] at h12; cases h12
    have ea : ad out v = out := by rw [ad, if_neg h12]
    refine c_skip ?_
    refine frn rfl ⟨rfl, q, ?_, fun i hi => .inl hi⟩
    rw [ea]
    exact ⟨⟨a1, a2, a3⟩, ⟨es, c1, c2, c3, c4⟩, ⟨d1, d2, d3⟩, hq, b12⟩
theorem met_c (r rr : Option Nat) (o or : Nat) (l rs : List Int) (st : St) (hx : At st r o l) (hy : At st rr or rs) (h : Rts l rs) (hlr : rs.length ≤ 1048576) : ACalls Tryd.prog 20 [.agg [.sl r o l.length], .sl rr or rs.length] st No (Rn st (ordL l rs)) := by
  have hp := h.1
  have hlen := okB_len hp.1
  refine ent (N := 51) Tryd.func20 rfl (by decide) rfl rfl rfl ?_
  refine crr (by kernel_rfl) rfl ?_   -- region 0
  refine c_rs (by kernel_rfl) ?_   -- region 1
  refine s_op rfl (oalloc1 loud_n rfl ?_)
  refine s_end ?_
  refine c_rs (by kernel_rfl) ?_   -- region 2
  refine s_op rfl (o_makeMap loud_n ?_)
  refine s_op rfl (oalloc1 loud_n rfl ?_)
  refine s_op rfl (ost1 rfl rfl (Nat.lt_succ_self _) (fun h => absurd h (by show ¬ (st.n + 1 + 1 < st.n); omega)) (push_ob _ _) rfl rfl rfl ?_)
  refine s_end ?_
  have hm0 : MetS st.n (st.n + 2) st.n (st.n + 1) none [] ((((st.push (.row true [Z.nil.av])).push (.map [])).push (.row true [Z.junk.av])).set (st.n + 1 + 1) (.row true [.map (st.n + 1)])) := by
    have hne1 : st.n + 1 ≠ st.n + 1 + 1 := by omega
    have hne0 : st.n ≠ st.n + 1 + 1 := by omega
    refine ⟨⟨by omega, Nat.lt_succ_self _, set_ob _ _ _⟩, ⟨[], by omega, ?_, ?_, fun j => rfl⟩, ⟨Nat.le_refl _, ?_, ?_⟩, fr_nil _ _, by omega⟩
    · show st.n + 1 < st.n + 1 + 1 + 1; omega
    · rw [set_ne _ _ _ hne1, push_old _ _ (show st.n + 1 < st.n + 1 + 1 by omega)]
      exact push_ob (st.push (.row true [Z.nil.av])) (.map [])
    · show st.n < st.n + 1 + 1 + 1; omega
    · rw [set_ne _ _ _ hne0, push_old _ _ (show st.n < st.n + 1 + 1 by omega), push_old _ _ (show st.n < st.n + 1 by omega)]
      exact push_ob st _
  have he0 : Ext (fun i => st.n ≤ i) st ((((st.push (.row true [Z.nil.av])).push (.map [])).push (.row true [Z.junk.av])).set (st.n + 1 + 1) (.row true [.map (st.n + 1)])) := by
    have h1 : Ext (fun i => st.n ≤ i) st (((st.push (.row true [Z.nil.av])).push (.map [])).push (.row true [Z.junk.av])) := ((ex_push st (.row true [Z.nil.av])).tr ((ex_push _ (.map [])).tr (ex_push _ _))).over
    exact h1.over (ext_set _ (st.n + 1 + 1) (.row true [.map (st.n + 1)])) (fun i e => by omega)
  refine crr (by kernel_rfl) rfl ?_   -- region 3
  refine c_seq ?_
  refine crr (by kernel_rfl) rfl ?_   -- region 4
  refine c_block ?_
  refine c_lp (α := Nat × Option Nat) (fun i => [(5, .ptr (some st.n) 0), (7, .fn 37 [.ptr (some (st.n + 1 + 1)) 0, .ptr (some st.n) 0]), (15, .sl rr or rs.length), (16, I rs.length), (17, I i.1)]) (fun _ => [(2, 2, [.sl r o l.length])])
    (fun i st' => i.1 ≤ rs.length ∧ Ext (fun i => st.n ≤ i) st st' ∧ MetS st.n (st.n + 2) st.n (st.n + 1) i.2 ((rs.take i.1).foldl ad []) st') (fun i => rs.length - i.1) (0, none) ⟨rfl, rfl, rfl, rfl, rfl, trivial⟩ ⟨rfl, rfl, trivial⟩ ⟨Nat.zero_le _, he0, hm0⟩ ?_
  rintro ⟨i, q⟩ st2 ⟨hi, he, hm⟩
  dsimp only at *
  have hol : ((rs.take i).foldl ad []).length ≤ 2000 := ((ord_nil l).all fun v hv => rts_vb h v (List.mem_of_mem_take hv)).len
  refine crr (by kernel_rfl) rfl ?_   -- region 5
  refine c_seq ?_
  refine c_if rfl (fun h18 => ?_) (fun h18 => ?_)
  · have h18 := of_decide_eq_true h18
    refine c_skip ?_
    refine c_seq ?_
    refine c_block ?_
    refine c_rs (by kernel_rfl) ?_   -- region 6
    refine s_op rfl (oidx rfl rfl rfl (by omega) (by omega) ?_)
    refine s_op rfl (old rfl rfl ((hy.over he).rd (by omega) (by omega)) ?_)
    refine sra rfl ?_
    refine c_region (by kernel_rfl) ?_   -- region 7
    refine sr 2 rfl ?_
    refine s_op rfl (o_call rfl (met1_c _ _ _ _ _ _ (rd rs i) _ hm hol) (fun j hj ht => absurd hj (by
      rcases ht with rfl | rfl | ht
      · omega
      · omega
      · have := hm.hq.bd j ht; omega)) (.inl rfl) ?_)
    rintro v3 st3 ⟨rfl, q3, hm3, hq3⟩ e3
    have he3 := he.over e3 (fun j ht => by
      rcases ht with rfl | rfl | ht
      · omega
      · omega
      · have := hm.hq.bd j ht; omega)
    refine s_end ?_
    refine c_region (by kernel_rfl) ?_   -- region 8
    refine s_op rfl (o_ar rfl rfl rfl (by omega) (by omega) ?_)
    rw [← foldl_rd _ _ _ (by omega)] at hm3
    exact sra rfl ⟨(i + 1, q3), ⟨rfl, rfl, rfl, rfl, rfl, trivial⟩, ⟨rfl, rfl, trivial⟩, ⟨by dsimp only; omega, he3, hm3⟩, by dsimp only; omega⟩
  · have h18 := of_decide_eq_false h18
    have hie : rs.take i = rs := List.take_of_length_le (by omega)
    rw [hie] at hm
    refine c_exit ?_
    refine c_seq ?_
    refine crr (by kernel_rfl) rfl ?_   -- region 9
    refine c_block ?_
    refine c_lp (α := Nat × Option Nat × List Int × Nat) (fun i => [(5, .ptr (some st.n) 0), (7, .fn 37 [.ptr (some (st.n + 1 + 1)) 0, .ptr (some st.n) 0]), (10, I i.1)]) (fun _ => [(2, 2, [.sl r o l.length])])
      (fun i st' => i.1 ≤ i.2.2.1.length ∧ Ext (fun i => st.n ≤ i) st st' ∧ MetS st.n (st.n + 2) st.n (st.n + 1) i.2.1 i.2.2.1 st' ∧ Bf l (ordL l rs) i.2.2.2 i.1 i.2.2.1) (fun i => i.2.2.2) (0, q, rs.foldl ad [], 2001) ⟨rfl, rfl, rfl, trivial⟩ ⟨rfl, rfl, trivial⟩ ⟨Nat.zero_le _, he, hm, bf_start h⟩ ?_
    rintro ⟨k, q, out, f⟩ st3 ⟨hk, he, hm, hbf⟩
    dsimp only at *
    obtain ⟨f, rfl⟩ := hbf.fuel hk
    have hol := hbf.ord.len
    have hcb : cell st3 (some st.n) 0 = some (.sl q 0 out.length) := by rw [cell_row hm.h2.2.1 hm.h2.2.2]; rfl
    refine c_seq ?_
    refine c_rs (by kernel_rfl) ?_   -- region 10
    refine sr 1 rfl ?_
    refine s_op rfl (old rfl rfl hcb ?_)
    refine sra rfl ?_
    refine c_if rfl (fun h28 => ?_) (fun h28 => ?_)
    · have h28 := of_decide_eq_true h28
      have hka := (hbf.ord.2 _ (mem_rd (show k < out.length by omega))).1
      have hsl := slots_len hka
      have hwl : (words l (slotsL l (rd out k))).length = (slotsL l (rd out k)).length := List.length_map _
      have hsv := slots_vb hp hka
      have hx3 := hx.over he
      refine c_skip ?_
      refine c_seq ?_
      refine c_block ?_
      refine cds [0, 1, 2, 3, 4, 7, 5, 6] [.q, .q, .q, .q, .q, .q, .f, .q] (by kernel_rfl) (by kernel_rfl) ?_   -- region 12
      refine sr 1 rfl ?_
      refine s_op rfl (old rfl rfl hcb ?_)
      refine sr 1 rfl ?_
      refine s_op rfl (oidx rfl rfl rfl (by omega) (by omega) ?_)
      refine s_op rfl (old rfl rfl (hm.hq.at_.rd (by omega) (by omega)) ?_)
      refine sr 1 rfl ?_
      refine s_op rfl (o_ex loud_f rfl (slots_c _ _ _ _ _ hx3 hka) ?_)
      rintro v4 st4 ⟨p, rfl, hps⟩ e4
      have he4 := he.over e4 (fun i h => h.elim)
      have hm4 := hm.ex e4
      refine sra rfl ?_
      refine c_block ?_
      refine c_lp (α := Nat × Option Nat) (fun i => [(5, .ptr (some st.n) 0), (7, .fn 37 [.ptr (some (st.n + 1 + 1)) 0, .ptr (some st.n) 0]), (10, I k), (36, .sl p 0 (slotsL l (rd out k)).length), (37, I (slotsL l (rd out k)).length), (38, I i.1)]) (fun _ => [(2, 2, [.sl r o l.length])])
        (fun i st' => i.1 ≤ (slotsL l (rd out k)).length ∧ Ext (fun i => st.n ≤ i) st st' ∧ MetS st.n (st.n + 2) st.n (st.n + 1) i.2 (((words l (slotsL l (rd out k))).take i.1).foldl ad out) st' ∧ Fr st3.n st' p (slotsL l (rd out k)) ∧ ∀ j, p = some j → i.2 ≠ some j) (fun i => (slotsL l (rd out k)).length - i.1) (0, q) ⟨rfl, rfl, rfl, rfl, rfl, rfl, trivial⟩ ⟨rfl, rfl, trivial⟩
        ⟨Nat.zero_le _, he4, hm4, hps, fun j hj e => by have := (hps.bd j hj).1; have := hm.hq.bd j e; omega⟩ ?_
      rintro ⟨i, q⟩ st5 ⟨hi, he, hm5, hps5, hpq⟩
      dsimp only at *
      have hol2 : (((words l (slotsL l (rd out k))).take i).foldl ad out).length ≤ 2000 := (hbf.ord.all fun v hv => hsv v (List.mem_of_mem_take hv)).len
      refine crr (by kernel_rfl) rfl ?_   -- region 13
      refine c_seq ?_
      refine c_if rfl (fun h39 => ?_) (fun h39 => ?_)
      · have h39 := of_decide_eq_true h39
        have hxm : rd (slotsL l (rd out k)) i ∈ slotsL l (rd out k) := mem_rd (by omega)
        have hin := slots_in hka hxm
        have hkb := block_at hka
        have hwr : rd (words l (slotsL l (rd out k))) i = rd l (rd (slotsL l (rd out k)) i) := by
          have : i < (slotsL l (rd out k)).length := by omega
          generalize slotsL l (rd out k) = sl at this
          simp [words, rd, List.getD, this]
        refine c_skip ?_
        refine c_seq ?_
        refine c_block ?_
        refine c_rs (by kernel_rfl) ?_   -- region 14
        refine s_op rfl (oidx rfl rfl rfl (by omega) (by omega) ?_)
        refine s_op rfl (old rfl rfl (hps5.at_.rd (by omega) (by omega)) ?_)
        refine sra rfl ?_
        refine c_region (by kernel_rfl) ?_   -- region 15
        refine sr 4 rfl ?_
        refine s_op rfl (oidx rfl rfl rfl (by omega) (by omega) ?_)
        refine s_op rfl (old rfl rfl ((hx.over he).rd (by omega) (by omega)) ?_)
        rw [← hwr]
        refine s_op rfl (o_call rfl (met1_c _ _ _ _ _ _ (rd (words l (slotsL l (rd out k))) i) _ hm5 hol2) (fun j hj ht => absurd hj (by
          rcases ht with rfl | rfl | ht
          · omega
          · omega
          · have := hm5.hq.bd j ht; omega)) (.inl rfl) ?_)
        rintro v6 st6 ⟨rfl, q6, hm6, hq6⟩ e6
        have he6 := he.over e6 (fun j ht => by
          rcases ht with rfl | rfl | ht
          · omega
          · omega
          · have := hm5.hq.bd j ht; omega)
        have hst3 := hm.hr
        have hps6 : Fr st3.n st6 p (slotsL l (rd out k)) := hps5.ext e6 (fun j hj ht => by
          have h3 := (hps5.bd j hj).1
          obtain ⟨_, _, hrn, _⟩ := hm.hr
          have h2n := hm.h2.2.1
          rcases ht with rfl | rfl | ht
          · omega
          · omega
          · exact hpq j hj ht)
        refine s_end ?_
        refine c_region (by kernel_rfl) ?_   -- region 16
        refine s_op rfl (o_ar rfl rfl rfl (by omega) (by omega) ?_)
        rw [← foldl_rd _ _ _ (by omega)] at hm6
        refine sra rfl ⟨(i + 1, q6), ⟨rfl, rfl, rfl, rfl, rfl, rfl, trivial⟩, ⟨rfl, rfl, trivial⟩, ⟨by dsimp only; omega, he6, hm6, hps6, fun j hj e => ?_⟩, by dsimp only; omega⟩
        rcases hq6 j e with h1 | h1
        · exact hpq j hj h1
        · have := (hps5.bd j hj).2; omega
      · have h39 := of_decide_eq_false h39
        have hie : (words l (slotsL l (rd out k))).take i = words l (slotsL l (rd out k)) := List.take_of_length_le (by omega)
        rw [hie] at hm5
        have hpre := ads_pre (words l (slotsL l (rd out k))) out
        refine c_exit ?_
        refine c_region (by kernel_rfl) ?_   -- region 11
        refine sr 1 rfl ?_
        refine s_op rfl (o_ar rfl rfl rfl (by omega) (by omega) ?_)
        refine sra rfl ⟨(k + 1, q, (words l (slotsL l (rd out k))).foldl ad out, f), ⟨rfl, rfl, rfl, trivial⟩, ⟨rfl, rfl, trivial⟩, ⟨?_, he, hm5, hbf.next hp (by omega)⟩, by dsimp only; omega⟩
        obtain ⟨r', hr'⟩ := hpre
        dsimp only
        rw [hr', List.length_append]; omega
    · have h28 := of_decide_eq_false h28
      have e : ordL l rs = out := by rw [← hbf.run]; exact bfs_end _ _ _ _ (by omega)
      refine c_exit ?_
      refine c_rs (by kernel_rfl) ?_   -- region 17
      refine s_op rfl (old rfl rfl hcb ?_)
      refine sra rfl ?_
      exact c_ret (fr rfl ⟨q, by rw [e], by rw [e]; exact hm.hq⟩)
end Go.Proofs.YtmphklmhhcmbnaaDoorW.Ax
