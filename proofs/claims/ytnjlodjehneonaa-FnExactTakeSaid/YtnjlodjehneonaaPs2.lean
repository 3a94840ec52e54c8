/- What the program and the reference make of 'is there a block at this place': the same. -/
import Derived.Test.YtnjlodjehneonaaPs1
import Derived.Test.YtnjlodjehneonaaF1
namespace Go.Proofs.Ytnjlodjehneonaa.Pure
open Go.RowKit Go.Proofs.Ytnjlodjehneonaa.F Go.Proofs.YtnjlodjehneonaaW.PrintWords Go.Proofs.YtnjlodjehneonaaW.PrintLast Go.Proofs.YtnjlodjehneonaaW.PrintMore Go.Proofs.YtnjlodjehneonaaW.Hand

theorem spec_l2Is_l0 (l : List Int) (hl : l.length ≤ 2000) (a : Int) (d : Nat) : ∀ (n : Nat) (r : List Int), n ≤ l.length → l.length - n ≤ d → walk l n = some r →
    Ev (fun k => spec_l2Is.l0 k a (n : Int) l) (decide (a ∈ r)) := by
  induction d with
  | zero =>
    intro n r hn hd hr
    rw [walk_end (by omega)] at hr
    obtain rfl := Option.some.inj hr
    refine ev_done fun k => ?_
    simp only [spec_l2Is.l0]
    rw [if_neg (by omega)]
    split
    · congr 1; simp; omega
    · simp
  | succ d ih =>
    intro n r hn hd hr
    by_cases h : n < l.length
    · rw [walk_step h] at hr
      by_cases hh : headOk l n
      · have hs := size_pos hh
        rw [if_pos hh, Option.map_eq_some_iff] at hr
        obtain ⟨r', hr', rfl⟩ := hr
        by_cases h2 : (n : Int) < a
        · have e : decide (a ∈ (n : Int) :: r') = decide (a ∈ r') := by
            congr 1
            simp only [List.mem_cons, eq_iff_iff]
            constructor
            · rintro (h | h)
              · omega
              · exact h
            · exact .inr
          rw [e]
          refine ev_step (f := fun k => spec_l2Is.l0 k a ((n + size l n : Nat) : Int) l) (fun k => ?_) (ih _ r' (by omega) (by omega) hr')
          unfold headOk at hh
          have hz : ((size l n : Nat) : Int) = l.getD n 0 / 8 := by unfold size; omega
          simp only [spec_l2Is.l0, spec_l2Size.f, Option.bind_some, rd_nat]
          rw [if_pos (by omega), if_pos h2, if_pos (by omega), wrap_in (by omega) (by omega), Int.natCast_add, hz]
        · refine ev_done fun k => ?_
          simp only [spec_l2Is.l0]
          rw [if_pos (by omega), if_neg h2]
          by_cases h3 : (n : Int) = a
          · rw [if_pos h3, decide_eq_true (by omega), decide_eq_true (List.mem_cons.2 (.inl h3.symm))]
          · rw [if_neg h3]
            congr 1
            symm
            rw [decide_eq_false_iff_not]
            intro hm
            rcases List.mem_cons.1 hm with h4 | h4
            · omega
            · obtain ⟨m, e, h5, _, _⟩ := bl_mem l l.length _ r' hr' a h4
              omega
      · rw [if_neg hh] at hr
        cases hr
    · rw [walk_end (by omega)] at hr
      obtain rfl := Option.some.inj hr
      refine ev_done fun k => ?_
      simp only [spec_l2Is.l0]
      rw [if_neg (by omega)]
      split
      · congr 1; simp; omega
      · simp

theorem spec_l2Is_ev (l : List Int) (h : okB l = true) (a : Int) : Ev (fun k => spec_l2Is.f k l a) (decide (a ∈ blocks l)) := by
  obtain ⟨h1, h2⟩ := blocks_of h
  exact spec_l2Is_l0 l h1 a l.length 0 _ (by omega) (by omega) h2

theorem less_eq (a b : Int) : cmp_Less_int.f a b = some (decide (a < b)) := by
  simp [cmp_Less_int.f, cmp_isNaN_int.f]

/-- Where a number stands, or would stand, in a list that ascends. -/
def Splits (xs : List Int) (a : Int) (j : Nat) : Prop := j ≤ xs.length ∧ (∀ i, i < j → xs.getD i 0 < a) ∧ ∀ i, j ≤ i → i < xs.length → a ≤ xs.getD i 0

theorem sorted_getD {xs : List Int} (h : xs.Pairwise (· < ·)) {i j : Nat} (hij : i < j) (hj : j < xs.length) : xs.getD i 0 < xs.getD j 0 := by
  rw [List.pairwise_iff_getElem] at h
  have := h i j (by omega) hj hij
  simpa [List.getD, hj, Nat.lt_trans hij hj] using this

theorem mem_splits {xs : List Int} {a : Int} {j : Nat} (hs : xs.Pairwise (· < ·)) (h : Splits xs a j) : a ∈ xs ↔ j < xs.length ∧ xs.getD j 0 = a := by
  obtain ⟨h1, h2, h3⟩ := h
  constructor
  · intro hm
    obtain ⟨i, hi, e⟩ := List.mem_iff_getElem.1 hm
    have e' : xs.getD i 0 = a := by simp [List.getD, hi, e]
    have hij : j ≤ i := by
      rcases Nat.lt_or_ge i j with h4 | h4
      · have := h2 i h4; omega
      · exact h4
    have hj : j < xs.length := by omega
    refine ⟨hj, ?_⟩
    have h5 := h3 j (Nat.le_refl _) hj
    rcases Nat.lt_or_ge j i with h6 | h6
    · have := sorted_getD hs h6 hi; omega
    · rw [show j = i by omega]; exact e'
  · rintro ⟨hj, e⟩
    rw [← e]
    simp only [List.getD, List.getElem?_eq_getElem hj, Option.getD_some]
    exact List.getElem_mem hj

theorem search_l0 (xs : List Int) (hs : xs.Pairwise (· < ·)) (hn : xs.length ≤ 1000000000) (a : Int) (d : Nat) : ∀ (i j : Nat), i ≤ j → j ≤ xs.length → j - i ≤ d → (∀ q, q < i → xs.getD q 0 < a) → (∀ q, j ≤ q → q < xs.length → a ≤ xs.getD q 0) →
    ∃ m, Splits xs a m ∧ Ev (fun k => slices_BinarySearch_int_int.l0 k xs a (xs.length : Int) (i : Int) (j : Int)) ((m : Int), decide (a ∈ xs)) := by
  induction d with
  | zero =>
    intro i j hij hj hd hlo hhi
    have hS : Splits xs a i := ⟨by omega, hlo, fun q hq hl => hhi q (by omega) hl⟩
    refine ⟨i, hS, ev_done fun k => ?_⟩
    simp only [slices_BinarySearch_int_int.l0]
    rw [if_neg (by omega)]
    by_cases h1 : i < xs.length
    · rw [if_pos (by omega), if_pos (by omega), if_pos (by omega), rd_nat]
      by_cases h2 : xs.getD i 0 = a
      · rw [if_pos h2, decide_eq_true ((mem_splits hs hS).2 ⟨h1, h2⟩)]
      · rw [if_neg h2, decide_eq_false (fun hm => h2 ((mem_splits hs hS).1 hm).2)]
        simp [slices_isNaN_int.f]
    · rw [if_neg (by omega), decide_eq_false (fun hm => h1 ((mem_splits hs hS).1 hm).1)]
  | succ d ih =>
    intro i j hij hj hd hlo hhi
    by_cases h0 : i < j
    · have hm0 : wrap64 ((IntKind.u64.wrap (wrap64 ((i : Int) + j))) / 2) = (((i + j) / 2 : Nat) : Int) := by
        have e1 : wrap64 ((i : Int) + j) = (i : Int) + j := wrap_in (by omega) (by omega)
        have e2 : IntKind.u64.wrap ((i : Int) + j) = (i : Int) + j := by
          simp [IntKind.wrap, IntKind.bits, IntKind.signed]
          omega
        rw [e1, e2, wrap_in (by omega) (by omega)]
        omega
      by_cases h1 : xs.getD ((i + j) / 2) 0 < a
      · obtain ⟨m, hS, he⟩ := ih ((i + j) / 2 + 1) j (by omega) hj (by omega) (fun q hq => by
            rcases Nat.lt_or_ge q ((i + j) / 2) with h2 | h2
            · exact Int.lt_trans (sorted_getD hs h2 (by omega)) h1
            · rw [show q = (i + j) / 2 by omega]; exact h1) hhi
        refine ⟨m, hS, ev_step (f := fun k => slices_BinarySearch_int_int.l0 k xs a (xs.length : Int) (((i + j) / 2 + 1 : Nat) : Int) (j : Int)) (fun k => ?_) he⟩
        simp only [slices_BinarySearch_int_int.l0, hm0, less_eq, Option.bind_some, rd_nat]
        rw [if_pos (by omega), if_pos (by omega), if_pos (by omega), if_pos (decide_eq_true h1), wrap_in (by omega) (by omega)]
        rfl
      · obtain ⟨m, hS, he⟩ := ih i ((i + j) / 2) (by omega) (by omega) (by omega) hlo (fun q hq hl => by
            rcases Nat.lt_or_ge ((i + j) / 2) q with h2 | h2
            · have := sorted_getD hs h2 hl; omega
            · rw [show q = (i + j) / 2 by omega]; omega)
        refine ⟨m, hS, ev_step (f := fun k => slices_BinarySearch_int_int.l0 k xs a (xs.length : Int) (i : Int) (((i + j) / 2 : Nat) : Int)) (fun k => ?_) he⟩
        simp only [slices_BinarySearch_int_int.l0, hm0, less_eq, Option.bind_some, rd_nat]
        rw [if_pos (by omega), if_pos (by omega), if_pos (by omega), if_neg (by simpa using h1)]
    · obtain ⟨m, hS, he⟩ := ih i j hij hj (by omega) hlo hhi
      exact ⟨m, hS, he⟩

theorem search_ev (xs : List Int) (hs : xs.Pairwise (· < ·)) (hn : xs.length ≤ 1000000000) (a : Int) : ∃ m, Splits xs a m ∧ Ev (fun k => slices_BinarySearch_int_int.f k xs a) ((m : Int), decide (a ∈ xs)) :=
  search_l0 xs hs hn a xs.length 0 xs.length (by omega) (by omega) (by omega) (fun q hq => by omega) (fun q hq hl => by omega)

theorem impl_isBlock_ev (l : List Int) (hl : l.length ≤ Lim) (a : Int) : Ev (fun k => impl_isBlock.f k l a) (decide (a ∈ blocks l)) := by
  unfold impl_isBlock.f
  have hb := blocks_length l
  obtain ⟨m, _, he⟩ := search_ev (blocks l) (blocks_sorted l) (by omega) a
  exact ev_bind (impl_Blocks_ev l hl) (ev_bind he (Ev.now _))

end Go.Proofs.Ytnjlodjehneonaa.Pure
