/- The slots of any block; what lies in them is right. -/
import Derived.Test.YtfhkjhnaihhdmaaZh
import Derived.Test.YtfhkjhnaihhdmaaYc
namespace Go.Proofs.YtfhkjhnaihhdmaaW.Ax
open Go Go.RowKit Go.Proofs Go.Proofs.Ytfhkjhnaihhdmaa.Pure
set_option linter.unusedVariables false
set_option maxRecDepth 100000

def slG (l : List Int) (a : Int) : List Int := if a ∈ blocks l then slotsL l a else []
theorem slG_len (l : List Int) (a : Int) : (slG l a).length ≤ 2000 := by
  unfold slG
  split
  · rename_i h; exact slots_len h
  · simp
theorem Slots_c (r : Option Nat) (o : Nat) (l : List Int) (a : Int) (st : St) (hx : At st r o l) (hl : l.length ≤ 1048576) : ACalls Try.prog 54 [.agg [.sl r o l.length], I a] st No (Rn st (slG l a)) := by
  refine ent (N := 20) Try.func54 rfl (by decide) rfl rfl rfl ?_
  refine crr (by kernel_rfl) rfl ?_   -- region 0
  refine c_rs (by kernel_rfl) ?_   -- region 1
  refine s_op rfl (obsl0 loud_n rfl ?_)
  refine sra rfl ?_
  refine c_seq ?_
  refine c_sj (α := Bool) (fun b => [(1, I a), (5, .sl none 0 0), (15, .bool b)]) (fun _ => [(2, 2, [.sl r o l.length])]) (fun b st' => st = st' ∧ (b = true ↔ a ∉ blocks l)) ?_ ?_
  · -- region 2
    refine c_region (by kernel_rfl) ?_
    refine sr 1 rfl ?_
    refine s_op rfl (o_pure loud_n rfl (SlabOk_c _ _ _ _ hx hl) ?_)
    by_cases h10 : okB l = true
    · rw [h10]
      refine sr 4 rfl ?_
      refine s_op rfl (o_pure loud_n rfl (l2Is_c _ _ _ _ _ hx h10) ?_)
      refine sra rfl ⟨_, ⟨rfl, rfl, rfl, trivial⟩, ⟨rfl, rfl, trivial⟩, rfl, ?_⟩
      show (!decide (a ∈ blocks l)) = true ↔ _
      simp
    · rw [Bool.eq_false_iff.2 h10]
      exact sra rfl ⟨true, ⟨rfl, rfl, rfl, trivial⟩, ⟨rfl, rfl, trivial⟩, rfl, fun _ h => h10 (ok_of h), fun _ => rfl⟩
  rintro b st1 ⟨rfl, hb1⟩
  refine c_if rfl (fun h15 => ?_) (fun h15 => ?_)
  · -- then
    have h15 := hb1.1 h15
    have e : slG l a = [] := by unfold slG; rw [if_neg h15]
    rw [e]
    refine crr (by kernel_rfl) rfl ?_   -- region 3
    exact c_ret (fr rfl ⟨none, rfl, .inl ⟨rfl, rfl⟩⟩)
  · -- else
    have h15 : a ∈ blocks l := Classical.byContradiction fun h => by rw [hb1.2 h] at h15; cases h15
    have e : slG l a = slotsL l a := by unfold slG; rw [if_pos h15]
    rw [e]
    refine c_skip ?_
    refine c_rs (by kernel_rfl) ?_   -- region 4
    refine sr 2 rfl ?_
    refine s_op rfl (o_ex loud_n rfl (l3Slots_c _ _ _ _ _ hx h15) ?_)
    rintro v2 st2 ⟨q, rfl, hf⟩ e2
    refine sra rfl ?_
    exact c_ret (fr rfl ⟨some q, rfl, hf⟩)
theorem iSlots_c (r : Option Nat) (o : Nat) (l : List Int) (a : Int) (st : St) (hx : At st r o l) : ACalls Try.prog 53 [.agg [.sl r o l.length], I a] st No (Rn st (slG l a)) := by
  refine ent (N := 12) Try.func53 rfl (by decide) rfl rfl rfl ?_
  refine crr (by kernel_rfl) rfl ?_   -- region 0
  refine c_seq ?_
  refine c_rs (by kernel_rfl) ?_   -- region 1
  refine sr 2 rfl ?_
  refine s_op rfl (o_ex loud_n rfl (isBlock_c _ _ _ _ _ hx) ?_)
  rintro v1 st1 rfl e1
  refine sra rfl ?_
  refine c_if rfl (fun h8 => ?_) (fun h8 => ?_)
  · -- then
    have h8 : a ∉ blocks l := by simpa using h8
    have e : slG l a = [] := by unfold slG; rw [if_neg h8]
    rw [e]
    refine crr (by kernel_rfl) rfl ?_   -- region 2
    exact c_ret (fr rfl ⟨none, rfl, .inl ⟨rfl, rfl⟩⟩)
  · -- else
    have h8 : a ∈ blocks l := by simpa using h8
    have e : slG l a = slotsL l a := by unfold slG; rw [if_pos h8]
    rw [e]
    refine c_skip ?_
    refine c_rs (by kernel_rfl) ?_   -- region 3
    refine sr 2 rfl ?_
    refine s_op rfl (o_ex loud_n rfl (slots_c _ _ _ _ _ (hx.ex e1) h8) ?_)
    rintro v2 st2 ⟨q, rfl, hf⟩ e2
    refine sra rfl ?_
    exact c_ret (fr rfl ⟨q, rfl, hf.le e1.n⟩)
theorem Rf.vok {l : List Int} {v k b : Int} (h : Rf l v k b) (hk : (k = 4 ∧ b = 1) ∨ (k = 5 ∧ b = 2) ∨ (k = 6 ∧ b = 4) ∨ (k = 7 ∧ 0 ≤ b)) : Vok v := (h.leads hk).1
theorem Nxt.vok {l : List Int} {v b : Int} (h : Nxt l v b) (hb : 0 ≤ b) : Vok v := h.elim (fun e => by rw [e]; unfold Vok; omega) fun h => h.vok (by omega)
theorem slot_vok {l : List Int} {a x : Int} (hs : Shp l a) (ha : a ∈ blocks l) (hx : x ∈ slotsL l a) : Vok (rd l x) := by
  have hb := block_at ha
  have hz := size_pos hb.2.2.1
  unfold Shp at hs
  unfold slotsL at hx
  obtain ⟨i, hi, rfl⟩ := upN_at hx
  unfold manyS at hi
  unfold fromS
  split at hi
  · rename_i h2
    rw [if_neg (by omega)]
    have h := hs.2.1 h2
    have : i = 0 ∨ i = 1 := by omega
    rcases this with rfl | rfl
    · rw [show a + 1 + ((0 : Nat) : Int) = a + 1 by omega]
      exact h.1.2.elim (fun e => by rw [e]; unfold Vok; omega) (fun h => h.vok (by omega))
    · rw [show a + 1 + ((1 : Nat) : Int) = a + 2 by omega]
      exact h.2.vok (by omega)
  · split at hi
    · rename_i h3
      rw [if_neg (by omega)]
      have h := hs.2.2.1 h3
      have : i = 0 ∨ i = 1 ∨ i = 2 := by omega
      rcases this with rfl | rfl | rfl
      · rw [show a + 1 + ((0 : Nat) : Int) = a + 1 by omega]
        exact h.1.1.2.vok (by omega)
      · rw [show a + 1 + ((1 : Nat) : Int) = a + 2 by omega]
        exact h.1.2.2.1
      · rw [show a + 1 + ((2 : Nat) : Int) = a + 3 by omega]
        exact h.2.vok (by omega)
    · split at hi
      · rename_i h4
        rw [if_pos h4]
        have h := hs.2.2.2.1 h4
        have : i = 0 := by omega
        subst this
        rw [show a + 2 + ((0 : Nat) : Int) = a + 2 by omega]
        exact h.2.vok (by omega)
      · split at hi
        · rename_i h5
          rw [if_neg (by omega)]
          have h := hs.2.2.2.2 h5
          by_cases e : i = 0
          · subst e
            rw [show a + 1 + ((0 : Nat) : Int) = a + 1 by omega]
            exact h.1.vok (by omega)
          · have := h.2 (i + 1) (by omega) (by omega)
            rw [show a + 1 + (i : Int) = a + (i + 1) by omega]
            exact this.2.1
        · omega
end Go.Proofs.YtfhkjhnaihhdmaaW.Ax
