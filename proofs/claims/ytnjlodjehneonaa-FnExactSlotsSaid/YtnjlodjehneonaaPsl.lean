/- What the program's and the reference's Slots make of a slab: the same. -/
import Derived.Test.YtnjlodjehneonaaPs2
import Derived.Test.YtnjlodjehneonaaF6
namespace Go.Proofs.Ytnjlodjehneonaa.Pure
open Go.RowKit Go.Proofs.Ytnjlodjehneonaa.F Go.Proofs.YtnjlodjehneonaaW.PrintWords Go.Proofs.YtnjlodjehneonaaW.PrintLast Go.Proofs.YtnjlodjehneonaaW.PrintMore Go.Proofs.YtnjlodjehneonaaW.Hand

/-- So many places from one on. -/
def upFrom (a n : Nat) : List Int := (List.range n).map (fun i : Nat => ((a + i : Nat) : Int))
theorem upFrom_zero (a : Nat) : upFrom a 0 = [] := rfl
theorem upFrom_succ (a n : Nat) : upFrom a (n + 1) = (a : Int) :: upFrom (a + 1) n := by
  unfold upFrom
  rw [List.range_succ_eq_map, List.map_cons, List.map_map]
  congr 1
  apply List.map_congr_left
  intro i _
  simp only [Function.comp]
  congr 1
  omega
theorem upFrom_length (a n : Nat) : (upFrom a n).length = n := by simp [upFrom]
theorem upFrom_mem {a n : Nat} {x : Int} (h : x ∈ upFrom a n) : ∃ m : Nat, x = m ∧ a ≤ m ∧ m < a + n := by
  unfold upFrom at h
  obtain ⟨i, hi, rfl⟩ := List.mem_map.1 h
  exact ⟨a + i, rfl, by omega, by have := List.mem_range.1 hi; omega⟩

/-- The places of the values of a block. -/
def slotsOf (l : List Int) (a : Nat) : List Int :=
  if kindOf l a = 2 then upFrom (a + 1) (min 2 (size l a - 1))
  else if kindOf l a = 3 then upFrom (a + 1) (min 3 (size l a - 1))
  else if kindOf l a = 4 then upFrom (a + 2) (min 1 (size l a - 2))
  else if kindOf l a = 5 then upFrom (a + 1) (size l a - 1)
  else []

theorem l3Some_l0 (a many most : Nat) (ha : a ≤ 1000000) (hm : many ≤ 1000000) (d : Nat) : ∀ (i : Nat) (x : List Int), x.length ≤ i → i ≤ min many most → min many most - i ≤ d →
    Ev (fun k => spec_l3Some.l0 k (a : Int) (many : Int) (most : Int) x (i : Int)) (x ++ upFrom (a + i) (min many most - i)) := by
  induction d with
  | zero =>
    intro i x hx hi hd
    rw [show min many most - i = 0 by omega, upFrom_zero, List.append_nil]
    refine ev_done fun k => ?_
    simp only [spec_l3Some.l0]
    by_cases h1 : i < many
    · rw [if_pos (by omega), if_neg (by omega)]
    · rw [if_neg (by omega)]
  | succ d ih =>
    intro i x hx hi hd
    by_cases h : i < min many most
    · have e := ih (i + 1) (x ++ [((a + i : Nat) : Int)]) (by simp; omega) (by omega) (by omega)
      rw [List.append_assoc, List.singleton_append, show a + (i + 1) = a + i + 1 by omega, ← upFrom_succ, show min many most - (i + 1) + 1 = min many most - i by omega] at e
      refine ev_step (f := fun k => spec_l3Some.l0 k (a : Int) (many : Int) (most : Int) (x ++ [((a + i : Nat) : Int)]) ((i + 1 : Nat) : Int)) (fun k => ?_) e
      simp only [spec_l3Some.l0]
      rw [if_pos (by omega), if_pos (by omega), if_pos (by omega), wrap_in (by omega) (by omega), wrap_in (by omega) (by omega)]
      rfl
    · rw [show min many most - i = 0 by omega, upFrom_zero, List.append_nil]
      refine ev_done fun k => ?_
      simp only [spec_l3Some.l0]
      by_cases h1 : i < many
      · rw [if_pos (by omega), if_neg (by omega)]
      · rw [if_neg (by omega)]
theorem l3Some_ev (a many most : Nat) (ha : a ≤ 1000000) (hm : many ≤ 1000000) : Ev (fun k => spec_l3Some.f k (a : Int) (many : Int) (most : Int)) (upFrom a (min many most)) := by
  have e := l3Some_l0 a many most ha hm (min many most) 0 [] (by simp) (by omega) (by omega)
  rw [List.nil_append, Nat.add_zero, Nat.sub_zero] at e
  exact e

theorem spec_l3Slots_ev (l : List Int) (hl : l.length ≤ 2000) (a : Nat) (ha : a < l.length) (hh : headOk l a) : Ev (fun k => spec_l3Slots.f k l (a : Int)) (slotsOf l a) := by
  have hs := size_pos hh
  unfold headOk at hh
  have hz : ((size l a : Nat) : Int) = l.getD a 0 / 8 := by unfold size; omega
  unfold spec_l3Slots.f slotsOf
  refine ev_pos (by omega) (ev_pos (by omega) ?_)
  simp only [spec_l2Size.f, spec_l2Kind.f, Option.bind_some, rd_nat, and_seven, ← hz]
  rw [show l.getD a 0 % 8 = kindOf l a from rfl, wrap_in (x := (a : Int) + 1) (by omega) (by omega), wrap_in (x := (size l a : Int) - 1) (by omega) (by omega), wrap_in (x := (a : Int) + 2) (by omega) (by omega), wrap_in (x := (size l a : Int) - 2) (by omega) (by omega),
    show (a : Int) + 1 = ((a + 1 : Nat) : Int) by omega, show (a : Int) + 2 = ((a + 2 : Nat) : Int) by omega, show (size l a : Int) - 1 = ((size l a - 1 : Nat) : Int) by omega, show (size l a : Int) - 2 = ((size l a - 2 : Nat) : Int) by omega]
  by_cases h2 : kindOf l a = 2
  · rw [if_pos h2]
    exact ev_pos h2 (ev_bind (l3Some_ev (a + 1) 2 (size l a - 1) (by omega) (by omega)) (Ev.now _))
  rw [if_neg h2]
  refine ev_neg h2 ?_
  by_cases h3 : kindOf l a = 3
  · rw [if_pos h3]
    exact ev_pos h3 (ev_bind (l3Some_ev (a + 1) 3 (size l a - 1) (by omega) (by omega)) (Ev.now _))
  rw [if_neg h3]
  refine ev_neg h3 ?_
  by_cases h4 : kindOf l a = 4
  · rw [if_pos h4]
    exact ev_pos h4 (ev_bind (l3Some_ev (a + 2) 1 (size l a - 2) (by omega) (by omega)) (Ev.now _))
  rw [if_neg h4]
  refine ev_neg h4 ?_
  by_cases h5 : kindOf l a = 5
  · rw [if_pos h5]
    have e := l3Some_ev (a + 1) (size l a - 1) (size l a - 1) (by omega) (by omega)
    rw [Nat.min_self] at e
    exact ev_pos h5 (ev_bind e (Ev.now _))
  rw [if_neg h5]
  exact ev_neg h5 (Ev.now _)

theorem impl_slots_l0 (a n t : Nat) (ha : a ≤ 1000000) (hn : n ≤ 1000000) (ht : t ≤ 2000000) (d : Nat) : ∀ (i : Nat) (x : List Int), x.length ≤ i → min t (a + n) - i ≤ d →
    Ev (fun k => impl_slots.l0 k (a : Int) (n : Int) (t : Int) x (i : Int)) (x ++ upFrom i (min t (a + n) - i)) := by
  have hm : mn (t : Int) (wrap64 ((a : Int) + n)) = ((min t (a + n) : Nat) : Int) := by
    rw [wrap_in (by omega) (by omega)]
    unfold mn
    split <;> omega
  induction d with
  | zero =>
    intro i x hx hd
    rw [show min t (a + n) - i = 0 by omega, upFrom_zero, List.append_nil]
    refine ev_done fun k => ?_
    simp only [impl_slots.l0, hm]
    rw [if_neg (by omega)]
  | succ d ih =>
    intro i x hx hd
    by_cases h : i < min t (a + n)
    · have e := ih (i + 1) (x ++ [(i : Int)]) (by simp; omega) (by omega)
      rw [List.append_assoc, List.singleton_append, ← upFrom_succ, show min t (a + n) - (i + 1) + 1 = min t (a + n) - i by omega] at e
      refine ev_step (f := fun k => impl_slots.l0 k (a : Int) (n : Int) (t : Int) (x ++ [(i : Int)]) ((i + 1 : Nat) : Int)) (fun k => ?_) e
      simp only [impl_slots.l0, hm]
      rw [if_pos (by omega), if_pos (by omega), wrap_in (by omega) (by omega)]
      rfl
    · rw [show min t (a + n) - i = 0 by omega, upFrom_zero, List.append_nil]
      refine ev_done fun k => ?_
      simp only [impl_slots.l0, hm]
      rw [if_neg (by omega)]
theorem impl_slots_j0 (a n t i : Nat) (ha : a ≤ 1000000) (hn : n ≤ 1000000) (ht : t ≤ 2000000) : Ev (fun k => impl_slots.j0 k (a : Int) (n : Int) (i : Int) (t : Int)) (upFrom i (min t (a + n) - i)) := by
  refine ev_step (f := fun k => impl_slots.l0 k (a : Int) (n : Int) (t : Int) [] (i : Int)) (fun k => by simp only [impl_slots.j0]) ?_
  have e := impl_slots_l0 a n t ha hn ht (min t (a + n) - i) i [] (by simp) (by omega)
  rw [List.nil_append] at e
  exact e

theorem impl_slots_ev (l : List Int) (hl : l.length ≤ 2000) (a : Nat) (ha : a < l.length) (hh : headOk l a) : Ev (fun k => impl_slots.f k l (a : Int)) (slotsOf l a) := by
  have hs := size_pos hh
  unfold headOk at hh
  have hz : ((size l a : Nat) : Int) = l.getD a 0 / 8 := by unfold size; omega
  unfold impl_slots.f slotsOf
  refine ev_pos (by omega) (ev_pos (by omega) ?_)
  simp only [rd_nat, and_seven, ← hz]
  rw [show l.getD a 0 % 8 = kindOf l a from rfl, wrap_in (x := (a : Int) + 1) (by omega) (by omega), wrap_in (x := (a : Int) + 2) (by omega) (by omega), wrap_in (x := (a : Int) + 3) (by omega) (by omega), wrap_in (x := (a : Int) + 4) (by omega) (by omega), wrap_in (x := (a : Int) + (size l a : Int)) (by omega) (by omega),
    show (a : Int) + 1 = ((a + 1 : Nat) : Int) by omega, show (a : Int) + 2 = ((a + 2 : Nat) : Int) by omega, show (a : Int) + 3 = ((a + 3 : Nat) : Int) by omega, show (a : Int) + 4 = ((a + 4 : Nat) : Int) by omega, show (a : Int) + (size l a : Int) = ((a + size l a : Nat) : Int) by omega]
  by_cases h2 : kindOf l a = 2
  · rw [if_pos h2]
    have e := impl_slots_j0 a (size l a) (a + 3) (a + 1) (by omega) (by omega) (by omega)
    rw [show min (a + 3) (a + size l a) - (a + 1) = min 2 (size l a - 1) by omega] at e
    exact ev_pos h2 e
  rw [if_neg h2]
  refine ev_neg h2 ?_
  by_cases h3 : kindOf l a = 3
  · rw [if_pos h3]
    have e := impl_slots_j0 a (size l a) (a + 4) (a + 1) (by omega) (by omega) (by omega)
    rw [show min (a + 4) (a + size l a) - (a + 1) = min 3 (size l a - 1) by omega] at e
    exact ev_pos h3 e
  rw [if_neg h3]
  refine ev_neg h3 ?_
  by_cases h4 : kindOf l a = 4
  · rw [if_pos h4]
    have e := impl_slots_j0 a (size l a) (a + 3) (a + 2) (by omega) (by omega) (by omega)
    rw [show min (a + 3) (a + size l a) - (a + 2) = min 1 (size l a - 2) by omega] at e
    exact ev_pos h4 e
  rw [if_neg h4]
  refine ev_neg h4 ?_
  by_cases h5 : kindOf l a = 5
  · rw [if_pos h5]
    have e := impl_slots_j0 a (size l a) (a + size l a) (a + 1) (by omega) (by omega) (by omega)
    rw [show min (a + size l a) (a + size l a) - (a + 1) = size l a - 1 by omega] at e
    exact ev_pos h5 e
  rw [if_neg h5]
  have e := impl_slots_j0 a (size l a) (a + 1) (a + 1) (by omega) (by omega) (by omega)
  rw [show min (a + 1) (a + size l a) - (a + 1) = 0 by omega, upFrom_zero] at e
  exact ev_neg h5 e

def slots (l : List Int) (a : Int) : List Int := if a ∈ blocks l then slotsOf l a.toNat else []
theorem spec_Slots_ev (l : List Int) (hl : l.length ≤ Lim) (a : Int) : Ev (fun k => spec_Slots.f k l a) (slots l a) := by
  unfold spec_Slots.f slots
  simp only [Option.bind_some]
  refine ev_bind (spec_SlabOk_ev l hl) ?_
  by_cases h : okB l = true
  · refine ev_pos h (ev_bind (spec_l2Is_ev l h a) ?_)
    by_cases hm : a ∈ blocks l
    · obtain ⟨n, rfl, h1, h2⟩ := blocks_mem hm
      rw [if_pos hm, Int.toNat_natCast]
      exact ev_pos (decide_eq_true hm) (ev_bind (spec_l3Slots_ev l (blocks_le hm) n h1 h2) (Ev.now _))
    · rw [if_neg hm]
      exact ev_neg (by simpa using hm) (Ev.now _)
  · rw [blocks_not h, if_neg List.not_mem_nil]
    exact ev_neg h (Ev.now _)
theorem impl_Slots_ev (l : List Int) (hl : l.length ≤ Lim) (a : Int) : Ev (fun k => impl_Slots.f k l a) (slots l a) := by
  unfold impl_Slots.f slots
  refine ev_bind (impl_isBlock_ev l hl a) ?_
  by_cases hm : a ∈ blocks l
  · obtain ⟨n, rfl, h1, h2⟩ := blocks_mem hm
    rw [if_pos hm, Int.toNat_natCast]
    exact ev_pos (decide_eq_true hm) (ev_bind (impl_slots_ev l (blocks_le hm) n h1 h2) (Ev.now _))
  · rw [if_neg hm]
    exact ev_neg (by simpa using hm) (Ev.now _)
theorem slots_length (l : List Int) (a : Int) : (slots l a).length ≤ 2000 := by
  unfold slots
  split
  · rename_i hm
    obtain ⟨n, rfl, h1, h2⟩ := blocks_mem hm
    have := blocks_le hm
    have := size_pos h2
    rw [Int.toNat_natCast]
    unfold slotsOf
    split
    · rw [upFrom_length]; omega
    split
    · rw [upFrom_length]; omega
    split
    · rw [upFrom_length]; omega
    split
    · rw [upFrom_length]; omega
    · simp
  · simp

end Go.Proofs.Ytnjlodjehneonaa.Pure
