/- What the program's and the reference's SlabOk and Blocks make of a list: the same. -/
import Derived.Test.YtnjlodjehneonaaPm
import Derived.Test.YtnjlodjehneonaaPb
import Derived.Test.YtnjlodjehneonaaF1
import Derived.Test.YtnjlodjehneonaaF3
namespace Go.Proofs.Ytnjlodjehneonaa.Pure
open Go.RowKit Go.Proofs.Ytnjlodjehneonaa.F Go.Proofs.YtnjlodjehneonaaW.PrintWords Go.Proofs.YtnjlodjehneonaaW.PrintLast Go.Proofs.YtnjlodjehneonaaW.PrintMore Go.Proofs.YtnjlodjehneonaaW.Hand

theorem l1In_eq (a b c : Int) : spec_l1In.f a b c = some (decide (b ≤ a ∧ a ≤ c)) := by
  unfold spec_l1In.f
  by_cases h : a ≥ b
  · rw [if_pos h]; congr 1; simp [h]
  · rw [if_neg h]; congr 1; simp; omega
theorem within_eq (a b c : Int) : impl_within.f a b c = some (decide (b ≤ a ∧ a ≤ c)) := l1In_eq a b c

theorem spec_SlabOk_l0 (l : List Int) (hl : l.length ≤ Lim) (d : Nat) : ∀ a : Nat, a ≤ l.length → l.length - a ≤ d →
    Ev (fun k => spec_SlabOk.l0 k (a : Int) l) ((walk l a).isSome && decide (l.length ≤ 2000)) := by
  unfold Lim at hl
  induction d with
  | zero =>
    intro a ha hd
    refine ev_done fun k => ?_
    rw [walk_end (by omega)]
    simp only [spec_SlabOk.l0]
    rw [if_neg (by omega)]
    simp
    omega
  | succ d ih =>
    intro a ha hd
    by_cases h : a < l.length
    · rw [walk_step h]
      by_cases hh : headOk l a
      · have hs := size_pos hh
        rw [if_pos hh, Option.isSome_map]
        refine ev_step (f := fun k => spec_SlabOk.l0 k ((a + size l a : Nat) : Int) l) (fun k => ?_) (ih _ (by omega) (by omega))
        unfold headOk at hh
        have hz : ((size l a : Nat) : Int) = l.getD a 0 / 8 := by unfold size; omega
        simp only [spec_SlabOk.l0, spec_l2Size.f, spec_l2Kind.f, Option.bind_some, l1In_eq, rd_nat, and_seven]
        rw [if_pos (by omega), if_pos (by omega), wrap_in (by omega) (by omega), if_pos (by simp only [decide_eq_true_eq]; omega), if_neg (by omega), wrap_in (by omega) (by omega)]
        rw [Int.natCast_add, hz]
      · rw [if_neg hh]
        refine ev_done fun k => ?_
        unfold headOk at hh
        simp only [spec_SlabOk.l0, spec_l2Size.f, spec_l2Kind.f, Option.bind_some, l1In_eq, rd_nat, and_seven]
        rw [if_pos (by omega), if_pos (by omega), wrap_in (by omega) (by omega)]
        by_cases h2 : 2 ≤ l.getD a 0 / 8 ∧ l.getD a 0 / 8 ≤ (l.length : Int) - a
        · rw [if_pos (by simpa using h2), if_pos (by omega)]
          rfl
        · rw [if_neg (by simpa using h2)]
          rfl
    · refine ev_done fun k => ?_
      rw [walk_end (by omega)]
      simp only [spec_SlabOk.l0]
      rw [if_neg (by omega)]
      simp
      omega

theorem spec_SlabOk_ev (l : List Int) (hl : l.length ≤ Lim) : Ev (fun k => spec_SlabOk.f k l) (okB l) := by
  have h := spec_SlabOk_l0 l hl l.length 0 (by omega) (by omega)
  rw [Bool.and_comm] at h
  exact h

theorem impl_places_l0 (l : List Int) (hl : l.length ≤ 2000) (d : Nat) : ∀ (a : Nat) (x : List Int), a ≤ l.length → l.length - a ≤ d → x.length ≤ a →
    Ev (fun k => impl_places.l0 k x (a : Int) l) (match walk l a with | some r => (x ++ r, true) | none => ([], false)) := by
  induction d with
  | zero =>
    intro a x ha hd hx
    rw [walk_end (by omega)]
    refine ev_done fun k => ?_
    simp only [impl_places.l0]
    rw [if_neg (by omega)]
    simp
  | succ d ih =>
    intro a x ha hd hx
    by_cases h : a < l.length
    · rw [walk_step h]
      by_cases hh : headOk l a
      · have hs := size_pos hh
        rw [if_pos hh]
        have e := ih (a + size l a) (x ++ [(a : Int)]) (by omega) (by omega) (by simp; omega)
        have e2 : (match (walk l (a + size l a)).map (fun r => (a : Int) :: r) with | some r => (x ++ r, true) | none => (([] : List Int), false)) = (match walk l (a + size l a) with | some r => (x ++ [(a : Int)] ++ r, true) | none => ([], false)) := by
          cases walk l (a + size l a) <;> simp
        rw [e2]
        refine ev_step (f := fun k => impl_places.l0 k (x ++ [(a : Int)]) ((a + size l a : Nat) : Int) l) (fun k => ?_) e
        unfold headOk at hh
        have hz : ((size l a : Nat) : Int) = l.getD a 0 / 8 := by unfold size; omega
        simp only [impl_places.l0, Option.bind_some, within_eq, rd_nat, and_seven]
        rw [if_pos (by omega), if_pos (by omega), wrap_in (by omega) (by omega), if_pos (by simp only [decide_eq_true_eq]; omega), if_neg (by omega), if_pos (by omega), wrap_in (by omega) (by omega), Int.natCast_add, hz]
      · rw [if_neg hh]
        refine ev_done fun k => ?_
        unfold headOk at hh
        simp only [impl_places.l0, Option.bind_some, within_eq, rd_nat, and_seven]
        rw [if_pos (by omega), if_pos (by omega), wrap_in (by omega) (by omega)]
        by_cases h2 : 2 ≤ l.getD a 0 / 8 ∧ l.getD a 0 / 8 ≤ (l.length : Int) - a
        · rw [if_pos (by simpa using h2), if_pos (by omega)]
        · rw [if_neg (by simpa using h2)]
    · rw [walk_end (by omega)]
      refine ev_done fun k => ?_
      simp only [impl_places.l0]
      rw [if_neg (by omega)]
      simp

theorem impl_places_ev (l : List Int) (_hl : l.length ≤ Lim) : Ev (fun k => impl_places.f k l) (blocks l, okB l) := by
  unfold impl_places.f
  by_cases h : (l.length : Int) > 2000
  · refine ev_pos h ?_
    have e : (blocks l, okB l) = ([], false) := by
      unfold blocks okB
      rw [if_neg (by omega), decide_eq_false (by omega)]
      rfl
    rw [e]
    exact Ev.now _
  · refine ev_neg h ?_
    have e := impl_places_l0 l (by omega) l.length 0 [] (by omega) (by omega) (by simp)
    have e2 : (match walk l 0 with | some r => (([] : List Int) ++ r, true) | none => (([] : List Int), false)) = (blocks l, okB l) := by
      unfold blocks okB
      rw [if_pos (by omega), decide_eq_true (by omega)]
      cases walk l 0 <;> simp
    rw [e2] at e
    exact e

theorem impl_SlabOk_ev (l : List Int) (hl : l.length ≤ Lim) : Ev (fun k => impl_SlabOk.f k l) (okB l) := by
  unfold impl_SlabOk.f
  exact ev_bind (impl_places_ev l hl) (Ev.now _)

theorem impl_Blocks_ev (l : List Int) (hl : l.length ≤ Lim) : Ev (fun k => impl_Blocks.f k l) (blocks l) := by
  unfold impl_Blocks.f
  exact ev_bind (impl_places_ev l hl) (Ev.now _)

theorem blocks_length (l : List Int) : (blocks l).length ≤ 2000 := by
  unfold blocks
  split
  · rename_i h
    have key : ∀ d a r, a ≤ l.length → l.length - a ≤ d → bl l d a = some r → r.length ≤ l.length - a := by
      intro d
      induction d with
      | zero => intro a r ha hd hr; rw [bl_end l 0 a (by omega)] at hr; obtain rfl := Option.some.inj hr; simp
      | succ d ih =>
        intro a r ha hd hr
        unfold bl at hr
        by_cases h1 : a < l.length
        · rw [if_pos h1] at hr
          by_cases hh : headOk l a
          · have hs := size_pos hh
            rw [if_pos hh, Option.map_eq_some_iff] at hr
            obtain ⟨r', hr', rfl⟩ := hr
            have := ih _ r' (by omega) (by omega) hr'
            simp
            omega
          · rw [if_neg hh] at hr; cases hr
        · rw [if_neg h1] at hr; obtain rfl := Option.some.inj hr; simp
    cases hw : walk l 0 with
    | none => simp
    | some r => have := key l.length 0 r (by omega) (by omega) hw; simp; omega
  · simp

end Go.Proofs.Ytnjlodjehneonaa.Pure
