/- Whether a marker is right, by the program: walked. -/
import Derived.Test.YtnjlodjehneonaaZl
namespace Go.Proofs.YtnjlodjehneonaaW.Ax
open Go Go.RowKit Go.Proofs Go.Proofs.Ytnjlodjehneonaa.Pure
set_option linter.unusedVariables false
set_option maxRecDepth 100000

theorem kindOf_nn (l : List Int) (n : Nat) : 0 ≤ kindOf l n := by unfold kindOf; omega
theorem kat_pos {l : List Int} {a : Int} : 0 < kat l a ↔ a ∈ blocks l ∧ kindOf l a.toNat ≠ 0 := by
  unfold kat
  have := kindOf_nn l a.toNat
  split
  · rename_i h
    exact ⟨fun h' => ⟨h, by omega⟩, fun h' => by omega⟩
  · rename_i h
    exact ⟨fun h' => by omega, fun h' => absurd h'.1 h⟩
theorem kat_nn {l : List Int} {a : Int} : 0 ≤ kat l a ↔ a ∈ blocks l := by
  unfold kat
  have := kindOf_nn l a.toNat
  split
  · rename_i h; exact ⟨fun _ => h, fun _ => by omega⟩
  · rename_i h; exact ⟨fun h' => by omega, fun h' => absurd h' h⟩
theorem srt_lt {b : List Int} (hs : Srt b) (hn : b.Nodup) : b.Pairwise (· < ·) := by
  have key : ∀ j i : Nat, i < j → j < b.length → b.getD i 0 ≤ b.getD j 0 := by
    intro j
    induction j with
    | zero => intro i h; omega
    | succ j ih =>
      intro i hi hj
      have h1 := hs j hj
      rw [rd_nat, show (j : Int) + 1 = ((j + 1 : Nat) : Int) by omega, rd_nat] at h1
      by_cases e : i = j
      · subst e; exact h1
      · exact Int.le_trans (ih i (by omega) (by omega)) h1
  refine List.pairwise_iff_getElem.2 fun i j hi hj hij => ?_
  have h1 := key j i hij hj
  simp only [List.getD, List.getElem?_eq_getElem hi, List.getElem?_eq_getElem hj, Option.getD_some] at h1
  have h2 : b[i] ≠ b[j] := List.pairwise_iff_getElem.1 hn i j hi hj hij
  omega
/-- Places of blocks that are not free, none twice; Black ascends. -/
def Mem (l g b : List Int) : Prop := Ord l (g ++ b) ∧ Srt b
theorem mem_take {l : List Int} {i : Nat} {x : Int} : x ∈ l.take i ↔ ∃ j : Nat, j < i ∧ j < l.length ∧ rd l j = x := by
  constructor
  · intro h
    obtain ⟨j, hj, e⟩ := List.getElem_of_mem h
    rw [List.length_take] at hj
    refine ⟨j, by omega, by omega, ?_⟩
    rw [rd_nat, ← e]
    simp [List.getD, show j < l.length by omega]
  · rintro ⟨j, h1, h2, rfl⟩
    rw [rd_nat]
    have : (l.take i)[j]? = some (l.getD j 0) := by rw [List.getElem?_take, if_pos h1]; simp [List.getD, h2]
    exact List.mem_of_getElem? this
theorem ord_step {l xs : List Int} {i : Nat} (hi : i < xs.length) (h : Ord l (xs.take i)) (h1 : rd xs i ∈ blocks l ∧ kindOf l (rd xs i).toNat ≠ 0) (h2 : rd xs i ∉ xs.take i) : Ord l (xs.take (i + 1)) := by
  have e : xs.take (i + 1) = xs.take i ++ [rd xs i] := by
    rw [List.take_add_one, rd_nat]; simp [hi, List.getD]
  rw [e]
  refine ⟨List.nodup_append.2 ⟨h.1, by simp, fun a ha b hb e => ?_⟩, fun a ha => ?_⟩
  · rw [List.mem_singleton] at hb; subst hb; subst e; exact h2 ha
  · rcases List.mem_append.1 ha with ha | ha
    · exact h.2 a ha
    · rw [List.mem_singleton] at ha; subst ha; exact h1
theorem ord_not {l xs : List Int} {i : Nat} (hi : i < xs.length) (h : Ord l xs) : (rd xs i ∈ blocks l ∧ kindOf l (rd xs i).toNat ≠ 0) ∧ rd xs i ∉ xs.take i := by
  refine ⟨h.2 _ (mem_rd hi), fun hm => ?_⟩
  obtain ⟨j, h1, h2, e⟩ := mem_take.1 hm
  rw [rd_nat, rd_nat] at e
  simp only [List.getD, List.getElem?_eq_getElem hi, List.getElem?_eq_getElem h2, Option.getD_some] at e
  exact List.pairwise_iff_getElem.1 h.1 j i h2 hi h1 e
/-- Whether a marker that sweeps is right. -/
def Swp (l g b : List Int) (q : Int) : Prop := g = [] ∧ (q = l.length ∨ q ∈ blocks l) ∧ (∀ a ∈ blocks l, a < q → kindOf l a.toNat ≠ 0 → a ∈ b) ∧ ∀ a ∈ b, Shp l a ∧ ∀ x ∈ slotsL l a, 4 ≤ rd l x % 8 → rd l x / 8 ∈ b
/-- Whether a marker is right. -/
def MkOk (l : List Int) (p : Int) (g b : List Int) (q : Int) : Prop := okB l = true ∧ Mem l g b ∧ ((p = 0 ∧ Heap l ∧ q = 0 ∧ g = [] ∧ b = []) ∨ (p = 1 ∧ Heap l ∧ q = 0) ∨ (p = 2 ∧ Swp l g b q))
theorem len0 {b : List Int} : b = [] ↔ ((b.length : Nat) : Int) = 0 := by
  constructor
  · rintro rfl; simp
  · intro h; exact List.eq_nil_of_length_eq_zero (by omega)
end Go.Proofs.YtnjlodjehneonaaW.Ax
