/- Chapters 3, 7, 8, walked: places of values; blocks that values lead to. -/
import Derived.Test.YtfhkjhnaihhdmaaYq
import Derived.Test.YtfhkjhnaihhdmaaYl
import Derived.Test.YtfhkjhnaihhdmaaXU
namespace Go.Proofs.YtfhkjhnaihhdmaaW.Ax
open Go Go.RowKit Go.Proofs Go.Proofs.Ytfhkjhnaihhdmaa.Pure
set_option linter.unusedVariables false
set_option maxRecDepth 100000

/-! ### the places of a block's values -/
def fromS (k a : Int) : Int := if k = 4 then a + 2 else a + 1
def manyS (k : Int) (n : Nat) : Nat := if k = 2 then min 2 (n - 1) else if k = 3 then min 3 (n - 1) else if k = 4 then min 1 (n - 2) else if k = 5 then n - 1 else 0
def slotsL (l : List Int) (a : Int) : List Int := upN (fromS (kindOf l a.toNat) a) (manyS (kindOf l a.toNat) (size l a.toNat))
theorem many_le (k : Int) (n : Nat) (h : 2 ≤ n) : manyS k n ≤ n - 1 ∧ (k = 4 → manyS k n ≤ n - 2) := by
  unfold manyS
  split
  · omega
  · split
    · omega
    · split
      · omega
      · split <;> omega
theorem upN_mem : ∀ {k : Int} {n : Nat} {x : Int}, x ∈ upN k n → k ≤ x ∧ x < k + n
  | k, 0, x, h => by simp [upN] at h
  | k, n + 1, x, h => by
    rcases List.mem_cons.1 h with rfl | h
    · omega
    · have := upN_mem h; omega
theorem slots_in {l : List Int} {a x : Int} (ha : a ∈ blocks l) (h : x ∈ slotsL l a) : a + 1 ≤ x ∧ x < a + size l a.toNat ∧ x < l.length := by
  have hb := block_at ha
  have hs := size_pos hb.2.2.1
  have h1 := upN_mem h
  have h2 := many_le (kindOf l a.toNat) (size l a.toNat) hs.1
  unfold fromS at h1
  split at h1
  · rename_i h4; have := h2.2 h4; omega
  · omega
theorem slots_len {l : List Int} {a : Int} (ha : a ∈ blocks l) : (slotsL l a).length ≤ 2000 := by
  have hb := block_at ha
  have hs := size_pos hb.2.2.1
  have h2 := many_le (kindOf l a.toNat) (size l a.toNat) hs.1
  unfold slotsL
  rw [upN_len]
  omega
theorem l3Some_c (f : Int) (many most : Nat) (st : St) (hf : 0 ≤ f ∧ f ≤ 4000) (h1 : most ≤ 4000) : ACalls Try.prog 143 [I f, I many, I most] st No (Ro st (upN f (min many most))) := by
  refine ent (N := 27) Try.func143 rfl (by decide) rfl rfl rfl ?_
  refine crr (by kernel_rfl) rfl ?_   -- region 0
  refine c_rs (by kernel_rfl) ?_   -- region 1
  refine s_op rfl (oints [] loud_n rfl (by decide) rfl rfl rfl fun q st1 hq e1 => ?_)
  refine sra rfl ?_
  refine c_seq ?_
  refine crr (by kernel_rfl) rfl ?_   -- region 2
  refine c_block ?_
  refine c_lp (α := Nat × Option Nat) (fun i => [(0, I f), (1, I many), (2, I most), (7, .sl i.2 0 (upN f i.1).length), (8, I i.1)]) (fun _ => []) (fun i st' => i.1 ≤ min many most ∧ Ex st st' ∧ Fr st.n st' i.2 (upN f i.1) ∧ ∃ q, i.2 = some q) (fun i => min many most - i.1) (0, some q) ⟨rfl, rfl, rfl, rfl, rfl, trivial⟩ trivial ⟨Nat.zero_le _, e1, hq, q, rfl⟩ ?_
  rintro ⟨i, q⟩ st2 ⟨hi, he, hf2, q', hq'⟩
  dsimp only at *
  have hul := upN_len f i
  refine c_seq ?_
  refine c_rj [(0, I f), (1, I many), (2, I most), (7, .sl q 0 (upN f i).length), (8, I i), (17, .bool (decide (i < min many most)))] [] (by kernel_rfl) ?_ ?_
  · refine sr 4 rfl ?_
    refine s_bool 13 rfl rfl (fun h13 => ?_) (fun h13 => ?_)
    · have h13 := of_decide_eq_true h13
      refine sra rfl ⟨⟨rfl, rfl, rfl, rfl, rfl, ?_, trivial⟩, trivial, rfl⟩
      show AV.bool (decide _) = AV.bool (decide _)
      congr 1
      exact decide_eq_decide.2 ⟨fun h => by omega, fun h => by omega⟩
    · have h13 := of_decide_eq_false h13
      refine sra rfl ⟨⟨rfl, rfl, rfl, rfl, rfl, ?_, trivial⟩, trivial, rfl⟩
      show AV.bool false = AV.bool (decide _)
      rw [decide_eq_false (by omega)]
  refine c_if rfl (fun h17 => ?_) (fun h17 => ?_)
  · have h17 := of_decide_eq_true h17
    refine c_skip ?_
    refine c_seq ?_
    refine c_block ?_
    refine c_region (by kernel_rfl) ?_   -- region 5
    refine sr 3 rfl ?_
    refine s_op rfl (o_ar rfl rfl rfl (by omega) (by omega) ?_)
    refine s_op rfl (oone loud_n rfl rfl ?_)
    refine s_op rfl (oappF rfl rfl rfl (hf2.ex (ex_push _ _)) rfl (at_row (Nat.lt_succ_self _) (push_ob _ _)) (by simp; omega) fun q2 st3 hf3 he2 => ?_)
    have he3 : Ex st st3 := (he.tr (ex_push _ _)).own (hf2.ex (ex_push _ _)) he2
    rw [← upN_app] at hf3 ⊢
    refine sra rfl ?_
    refine c_region (by kernel_rfl) ?_   -- region 4
    refine sr 1 rfl ?_
    refine s_op rfl (o_ar rfl rfl rfl (by omega) (by omega) ?_)
    exact sra rfl ⟨(i + 1, q2), ⟨rfl, rfl, rfl, rfl, rfl, trivial⟩, trivial, ⟨by dsimp only; omega, he3, hf3, hf3.some_of (fun e => by have := congrArg List.length e; rw [upN_len] at this; cases this)⟩, by dsimp only; omega⟩
  · have h17 := of_decide_eq_false h17
    have hie : i = min many most := by omega
    refine c_exit ?_
    refine crr (by kernel_rfl) rfl ?_   -- region 6
    refine c_ret (fr rfl ⟨q', ?_, ?_⟩)
    · rw [← hie, ← hq']
    · rw [← hie, ← hq']; exact hf2
theorem l3Slots_c (r : Option Nat) (o : Nat) (l : List Int) (a : Int) (st : St) (hx : At st r o l) (ha : a ∈ blocks l) : ACalls Try.prog 107 [.agg [.sl r o l.length], I a] st No (Ro st (slotsL l a)) := by
  have hb := block_at ha
  have hs := size_pos hb.2.2.1
  have hse := rd_size hb.1 hb.2.2.1
  have hk : kindOf l a.toNat ≤ 5 := hb.2.2.1.2.2
  have e1 : (size l a.toNat : Int) - 1 = ((size l a.toNat - 1 : Nat) : Int) := by omega
  have e2 : (size l a.toNat : Int) - 2 = ((size l a.toNat - 2 : Nat) : Int) := by omega
  refine ent (N := 49) Try.func107 rfl (by decide) rfl rfl rfl ?_
  refine crr (by kernel_rfl) rfl ?_   -- region 0
  refine c_rs (by kernel_rfl) ?_   -- region 1
  refine sr 3 rfl ?_
  refine s_op rfl (oidx rfl rfl rfl (by omega) (by omega) ?_)
  refine s_op rfl (old rfl rfl (hx.rd (by omega) (by omega)) ?_)
  refine s_op rfl (o_pure loud_n rfl (l2Size_c ..) ?_)
  rw [hse]
  refine sra rfl ?_
  refine c_seq ?_
  refine c_rs (by kernel_rfl) ?_   -- region 2
  refine sr 3 rfl ?_
  refine s_op rfl (oidx rfl rfl rfl (by omega) (by omega) ?_)
  refine s_op rfl (old rfl rfl (hx.rd (by omega) (by omega)) ?_)
  refine s_op rfl (o_pure loud_n rfl (l2Kind_c ..) ?_)
  rw [kind_rd]
  refine s_end ?_
  refine c_block ?_
  refine crr (by kernel_rfl) rfl ?_   -- region 3
  refine c_if rfl (fun h18 => ?_) (fun h18 => ?_)
  · have h18 := of_decide_eq_true h18
    refine c_rs (by kernel_rfl) ?_   -- region 4
    refine sr 1 rfl ?_
    refine s_op rfl (o_ar rfl rfl rfl (by omega) (by omega) ?_)
    refine sr 1 rfl ?_
    refine s_op rfl (o_ar rfl rfl rfl (by omega) (by omega) ?_)
    rw [e1]
    refine s_op rfl (o_ex loud_n rfl (l3Some_c (a + 1) 2 (size l a.toNat - 1) _ (by omega) (by omega)) ?_)
    rintro v1 st1 ⟨q, rfl, hq⟩ e
    refine sra rfl ?_
    have es : slotsL l a = upN (a + 1) (min 2 (size l a.toNat - 1)) := by unfold slotsL fromS manyS; rw [h18]; rfl
    exact c_ret (fr rfl ⟨q, by rw [es], by rw [es]; exact hq⟩)
  · have h18 := of_decide_eq_false h18
    refine crr (by kernel_rfl) rfl ?_   -- region 5
    refine c_if rfl (fun h25 => ?_) (fun h25 => ?_)
    · have h25 := of_decide_eq_true h25
      refine c_rs (by kernel_rfl) ?_   -- region 6
      refine sr 1 rfl ?_
      refine s_op rfl (o_ar rfl rfl rfl (by omega) (by omega) ?_)
      refine sr 1 rfl ?_
      refine s_op rfl (o_ar rfl rfl rfl (by omega) (by omega) ?_)
      rw [e1]
      refine s_op rfl (o_ex loud_n rfl (l3Some_c (a + 1) 3 (size l a.toNat - 1) _ (by omega) (by omega)) ?_)
      rintro v1 st1 ⟨q, rfl, hq⟩ e
      refine sra rfl ?_
      have es : slotsL l a = upN (a + 1) (min 3 (size l a.toNat - 1)) := by unfold slotsL fromS manyS; rw [h25]; rfl
      exact c_ret (fr rfl ⟨q, by rw [es], by rw [es]; exact hq⟩)
    · have h25 := of_decide_eq_false h25
      refine crr (by kernel_rfl) rfl ?_   -- region 7
      refine c_if rfl (fun h32 => ?_) (fun h32 => ?_)
      · have h32 := of_decide_eq_true h32
        refine c_rs (by kernel_rfl) ?_   -- region 8
        refine sr 1 rfl ?_
        refine s_op rfl (o_ar rfl rfl rfl (by omega) (by omega) ?_)
        refine sr 1 rfl ?_
        refine s_op rfl (o_ar rfl rfl rfl (by omega) (by omega) ?_)
        rw [e2]
        refine s_op rfl (o_ex loud_n rfl (l3Some_c (a + 2) 1 (size l a.toNat - 2) _ (by omega) (by omega)) ?_)
        rintro v1 st1 ⟨q, rfl, hq⟩ e
        refine sra rfl ?_
        have es : slotsL l a = upN (a + 2) (min 1 (size l a.toNat - 2)) := by unfold slotsL fromS manyS; rw [h32]; rfl
        exact c_ret (fr rfl ⟨q, by rw [es], by rw [es]; exact hq⟩)
      · have h32 := of_decide_eq_false h32
        refine crr (by kernel_rfl) rfl ?_   -- region 9
        refine c_if rfl (fun h39 => ?_) (fun h39 => ?_)
        · have h39 := of_decide_eq_true h39
          refine c_rs (by kernel_rfl) ?_   -- region 10
          refine sr 1 rfl ?_
          refine s_op rfl (o_ar rfl rfl rfl (by omega) (by omega) ?_)
          refine sr 1 rfl ?_
          refine s_op rfl (o_ar rfl rfl rfl (by omega) (by omega) ?_)
          refine sr 1 rfl ?_
          refine s_op rfl (o_ar rfl rfl rfl (by omega) (by omega) ?_)
          rw [e1]
          refine s_op rfl (o_ex loud_n rfl (l3Some_c (a + 1) (size l a.toNat - 1) (size l a.toNat - 1) _ (by omega) (by omega)) ?_)
          rintro v1 st1 ⟨q, rfl, hq⟩ e
          refine sra rfl ?_
          have es : slotsL l a = upN (a + 1) (min (size l a.toNat - 1) (size l a.toNat - 1)) := by unfold slotsL fromS manyS; rw [h39, Nat.min_self]; rfl
          exact c_ret (fr rfl ⟨q, by rw [es], by rw [es]; exact hq⟩)
        · have h39 := of_decide_eq_false h39
          refine c_skip ?_
          refine c_rs (by kernel_rfl) ?_   -- region 11
          refine s_op rfl (oints [] loud_n rfl (by decide) rfl rfl rfl fun q st1 hq e1 => ?_)
          refine sra rfl ?_
          have es : slotsL l a = [] := by unfold slotsL manyS; rw [if_neg h18, if_neg h25, if_neg h32, if_neg h39]; rfl
          exact c_ret (fr rfl ⟨q, by rw [es], by rw [es]; exact hq⟩)
theorem slots_c (r : Option Nat) (o : Nat) (l : List Int) (a : Int) (st : St) (hx : At st r o l) (ha : a ∈ blocks l) : ACalls Try.prog 106 [.agg [.sl r o l.length], I a] st No (Rn st (slotsL l a)) := by
  have hb := block_at ha
  have hs := size_pos hb.2.2.1
  have hse := rd_size hb.1 hb.2.2.1
  have hml := many_le (kindOf l a.toNat) (size l a.toNat) hs.1
  have hk : 0 ≤ kindOf l a.toNat ∧ kindOf l a.toNat ≤ 5 := ⟨by unfold kindOf; omega, hb.2.2.1.2.2⟩
  refine ent (N := 60) Try.func106 rfl (by decide) rfl rfl rfl ?_
  refine crr (by kernel_rfl) rfl ?_   -- region 0
  refine c_rs (by kernel_rfl) ?_   -- region 1
  refine sr 3 rfl ?_
  refine s_op rfl (oidx rfl rfl rfl (by omega) (by omega) ?_)
  refine s_op rfl (old rfl rfl (hx.rd (by omega) (by omega)) ?_)
  refine sra rfl ?_
  rw [hse]
  refine c_rs (by kernel_rfl) ?_   -- region 2
  refine sr 1 rfl ?_
  refine s_op rfl (o_ar rfl rfl rfl (by omega) (by omega) ?_)
  refine sr 1 rfl ?_
  refine s_op rfl (o_ar rfl rfl rfl (by omega) (by omega) ?_)
  refine sra rfl ?_
  refine c_sj (α := Int) (fun to => [(1, I a), (5, I (size l a.toNat : Nat)), (6, I (fromS (kindOf l a.toNat) a)), (7, I to)]) (fun _ => [(2, 2, [.sl r o l.length])])
    (fun to st' => st = st' ∧ a ≤ to ∧ to ≤ a + 4000 ∧ ((if a + size l a.toNat < to then a + (size l a.toNat : Int) else to) = fromS (kindOf l a.toNat) a + manyS (kindOf l a.toNat) (size l a.toNat))) ?_ ?_
  · -- ways that meet
    refine c_rs (by kernel_rfl) ?_   -- region 3
    refine sr 3 rfl ?_
    refine s_op rfl (oidx rfl rfl rfl (by omega) (by omega) ?_)
    refine s_op rfl (old rfl rfl (hx.rd (by omega) (by omega)) ?_)
    refine sra rfl ?_
    rw [kind_rd]
    refine c_block ?_
    refine crr (by kernel_rfl) rfl ?_   -- region 4
    refine c_if rfl (fun h26 => ?_) (fun h26 => ?_)
    · have h26 := of_decide_eq_true h26
      refine c_region (by kernel_rfl) ?_   -- region 5
      refine sr 1 rfl ?_
      refine s_op rfl (o_ar rfl rfl rfl (by omega) (by omega) ?_)
      refine sra rfl ⟨a + 3, ⟨rfl, rfl, ?_, rfl, trivial⟩, ⟨rfl, rfl, trivial⟩, rfl, by omega, by omega, ?_⟩
      · show I (a + 1) = I _
        unfold fromS; rw [if_neg (by omega)]
      · have e : manyS (kindOf l a.toNat) (size l a.toNat) = min 2 (size l a.toNat - 1) := by rw [h26]; rfl
        have e' : fromS (kindOf l a.toNat) a = a + 1 := by rw [h26]; rfl
        rw [e, e']; split <;> omega
    · have h26 := of_decide_eq_false h26
      refine crr (by kernel_rfl) rfl ?_   -- region 6
      refine c_if rfl (fun h30 => ?_) (fun h30 => ?_)
      · have h30 := of_decide_eq_true h30
        refine c_region (by kernel_rfl) ?_   -- region 7
        refine sr 1 rfl ?_
        refine s_op rfl (o_ar rfl rfl rfl (by omega) (by omega) ?_)
        refine sra rfl ⟨a + 4, ⟨rfl, rfl, ?_, rfl, trivial⟩, ⟨rfl, rfl, trivial⟩, rfl, by omega, by omega, ?_⟩
        · show I (a + 1) = I _
          unfold fromS; rw [if_neg (by omega)]
        · have e : manyS (kindOf l a.toNat) (size l a.toNat) = min 3 (size l a.toNat - 1) := by rw [h30]; rfl
          have e' : fromS (kindOf l a.toNat) a = a + 1 := by rw [h30]; rfl
          rw [e, e']; split <;> omega
      · have h30 := of_decide_eq_false h30
        refine crr (by kernel_rfl) rfl ?_   -- region 8
        refine c_if rfl (fun h34 => ?_) (fun h34 => ?_)
        · have h34 := of_decide_eq_true h34
          refine c_region (by kernel_rfl) ?_   -- region 9
          refine sr 1 rfl ?_
          refine s_op rfl (o_ar rfl rfl rfl (by omega) (by omega) ?_)
          refine sr 1 rfl ?_
          refine s_op rfl (o_ar rfl rfl rfl (by omega) (by omega) ?_)
          refine sra rfl ⟨a + 3, ⟨rfl, rfl, ?_, rfl, trivial⟩, ⟨rfl, rfl, trivial⟩, rfl, by omega, by omega, ?_⟩
          · show I (a + 2) = I _
            unfold fromS; rw [if_pos h34]
          · have e : manyS (kindOf l a.toNat) (size l a.toNat) = min 1 (size l a.toNat - 2) := by rw [h34]; rfl
            have e' : fromS (kindOf l a.toNat) a = a + 2 := by rw [h34]; rfl
            rw [e, e']; split <;> omega
        · have h34 := of_decide_eq_false h34
          refine crr (by kernel_rfl) rfl ?_   -- region 10
          refine c_if rfl (fun h40 => ?_) (fun h40 => ?_)
          · have h40 := of_decide_eq_true h40
            refine c_region (by kernel_rfl) ?_   -- region 11
            refine sr 2 rfl ?_
            refine s_op rfl (o_ar rfl rfl rfl (by omega) (by omega) ?_)
            refine sra rfl ⟨a + (size l a.toNat : Nat), ⟨rfl, rfl, ?_, rfl, trivial⟩, ⟨rfl, rfl, trivial⟩, rfl, by omega, by omega, ?_⟩
            · show I (a + 1) = I _
              unfold fromS; rw [if_neg h34]
            · have e : manyS (kindOf l a.toNat) (size l a.toNat) = size l a.toNat - 1 := by rw [h40]; rfl
              have e' : fromS (kindOf l a.toNat) a = a + 1 := by rw [h40]; rfl
              rw [e, e']; split <;> omega
          · have h40 := of_decide_eq_false h40
            refine c_skip ⟨a + 1, ⟨rfl, rfl, ?_, rfl, trivial⟩, ⟨rfl, rfl, trivial⟩, rfl, by omega, by omega, ?_⟩
            · show I (a + 1) = I _
              unfold fromS; rw [if_neg h34]
            · have e : manyS (kindOf l a.toNat) (size l a.toNat) = 0 := by unfold manyS; rw [if_neg h26, if_neg h30, if_neg h34, if_neg h40]
              have e' : fromS (kindOf l a.toNat) a = a + 1 := by unfold fromS; rw [if_neg h34]
              rw [e, e']; split <;> omega
  rintro to st1 ⟨rfl, ht1, ht2, hto⟩
  have hfr : a + 1 ≤ fromS (kindOf l a.toNat) a ∧ fromS (kindOf l a.toNat) a ≤ a + 2 := by unfold fromS; split <;> omega
  refine crr (by kernel_rfl) rfl ?_   -- region 12
  refine c_seq ?_
  refine crr (by kernel_rfl) rfl ?_   -- region 13
  refine c_block ?_
  refine c_lp (α := Nat × Option Nat) (fun i => [(1, I a), (5, I (size l a.toNat : Nat)), (7, I to), (8, .sl i.2 0 (upN (fromS (kindOf l a.toNat) a) i.1).length), (9, I (fromS (kindOf l a.toNat) a + i.1))]) (fun _ => [])
    (fun i st' => i.1 ≤ manyS (kindOf l a.toNat) (size l a.toNat) ∧ Ex st st' ∧ Fr st.n st' i.2 (upN (fromS (kindOf l a.toNat) a) i.1)) (fun i => manyS (kindOf l a.toNat) (size l a.toNat) - i.1) (0, none) ⟨rfl, rfl, rfl, rfl, ?_, trivial⟩ trivial ⟨Nat.zero_le _, Ext.refl _ _, fr_nil _ _⟩ ?_
  · show I _ = I _
    congr 1
    simp
  rintro ⟨i, q⟩ st2 ⟨hi, he, hf⟩
  dsimp only at *
  have hul := upN_len (fromS (kindOf l a.toNat) a) i
  refine c_seq ?_
  refine c_rs (by kernel_rfl) ?_   -- region 14
  refine sr 4 rfl ?_
  refine s_op rfl (o_ar rfl rfl rfl (by omega) (by omega) ?_)
  refine s_op rfl (o_min rfl rfl ?_)
  rw [hto]
  refine sra rfl ?_
  refine c_if rfl (fun h52 => ?_) (fun h52 => ?_)
  · have h52 := of_decide_eq_true h52
    refine c_skip ?_
    refine c_seq ?_
    refine c_block ?_
    refine c_region (by kernel_rfl) ?_   -- region 16
    refine sr 2 rfl ?_
    refine s_op rfl (oone loud_n rfl rfl ?_)
    refine s_op rfl (oappF rfl rfl rfl (hf.ex (ex_push _ _)) rfl (at_row (Nat.lt_succ_self _) (push_ob _ _)) (by simp; omega) fun q2 st3 hf3 he2 => ?_)
    have he3 : Ex st st3 := (he.tr (ex_push _ _)).own (hf.ex (ex_push _ _)) he2
    rw [← upN_app] at hf3 ⊢
    refine sra rfl ?_
    refine c_region (by kernel_rfl) ?_   -- region 15
    refine sr 1 rfl ?_
    refine s_op rfl (o_ar rfl rfl rfl (by omega) (by omega) ?_)
    refine sra rfl ⟨(i + 1, q2), ⟨rfl, rfl, rfl, rfl, ?_, trivial⟩, trivial, ⟨by dsimp only; omega, he3, hf3⟩, by dsimp only; omega⟩
    show I _ = I _
    congr 1
    show _ = fromS (kindOf l a.toNat) a + ((i + 1 : Nat) : Int)
    omega
  · have h52 := of_decide_eq_false h52
    have hie : i = manyS (kindOf l a.toNat) (size l a.toNat) := by omega
    refine c_exit ?_
    refine crr (by kernel_rfl) rfl ?_   -- region 17
    refine c_ret (fr rfl ⟨q, ?_, ?_⟩)
    · rw [slotsL, ← hie]
    · rw [slotsL, ← hie]; exact hf
/-! ### blocks that values lead to -/
def blk (v : Int) : Int := if v % 8 < 4 then -1 else v / 8
end Go.Proofs.YtfhkjhnaihhdmaaW.Ax
