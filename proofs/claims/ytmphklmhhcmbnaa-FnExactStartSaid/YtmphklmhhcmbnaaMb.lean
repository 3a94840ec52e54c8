/- Plain words: what is given back of a slab. No program in sight. -/
import Derived.Test.YtmphklmhhcmbnaaMa
namespace Go.Proofs.Ytmphklmhhcmbnaa.Pure
theorem sorted_getD {l : List Int} (h : l.Pairwise (· < ·)) {i j : Nat} (hij : i < j) (hj : j < l.length) : l.getD i 0 < l.getD j 0 := by
  have := List.pairwise_iff_getElem.1 h i j (by omega) hj hij
  simpa [List.getD, show i < l.length by omega, hj] using this

/-- Where the free room begins that ends at a place; the place f where there is none. -/
def gfr (l : List Int) (a : Int) (f : Int) : List Int → Int
  | [] => f
  | b :: r => if b < a then gfr l a (if b + size l b.toNat = a ∧ kindOf l b.toNat = 0 then b else f) r else f
/-- Where the room ends that begins with the block at a place. -/
def gto (l : List Int) (a : Nat) : Nat := if a + size l a < l.length ∧ kindOf l (a + size l a) = 0 then a + size l a + size l (a + size l a) else a + size l a
/-- Free room from one place to another. -/
def free (l : List Int) (f t : Nat) : List Int := (l.take f ++ List.replicate (t - f) 0 ++ l.drop t).set f (8 * ((t : Int) - f))
def give (l : List Int) (a : Int) : List Int := if a ∈ blocks l ∧ kindOf l a.toNat ≠ 0 then free l (gfr l a a (blocks l)).toNat (gto l a.toNat) else l

theorem walk_next {l : List Int} (d : Nat) : ∀ {n a : Nat} {r : List Int}, l.length - n ≤ d → walk l n = some r → (a : Int) ∈ r → a + size l a < l.length → headOk l (a + size l a) := by
  induction d with
  | zero =>
    intro n a r hd hr hm _
    rw [walk_end (by omega)] at hr
    obtain rfl := Option.some.inj hr
    simp at hm
  | succ d ih =>
    intro n a r hd hr hm ht
    by_cases h : n < l.length
    · rw [walk_step h] at hr
      by_cases hh : headOk l n
      · have hs := size_pos hh
        rw [if_pos hh, Option.map_eq_some_iff] at hr
        obtain ⟨r', hr', rfl⟩ := hr
        rcases List.mem_cons.1 hm with e | hm
        · have e' : a = n := by omega
          subst e'
          rw [walk_step ht] at hr'
          by_cases h2 : headOk l (a + size l a)
          · exact h2
          · rw [if_neg h2] at hr'; cases hr'
        · exact ih (by omega) hr' hm ht
      · rw [if_neg hh] at hr; cases hr
    · rw [walk_end (by omega)] at hr
      obtain rfl := Option.some.inj hr
      simp at hm

theorem gfr_at {l : List Int} {a : Int} (d : Nat) : ∀ {n : Nat} {r : List Int} (f : Int), l.length - n ≤ d → walk l n = some r → a ∈ r →
    (r.getD 0 0 = a ∧ gfr l a f r = f) ∨ ∃ j, j + 1 < r.length ∧ r.getD (j + 1) 0 = a ∧ gfr l a f r = if kindOf l (r.getD j 0).toNat = 0 then r.getD j 0 else f := by
  induction d with
  | zero =>
    intro n r f hd hr hm
    rw [walk_end (by omega)] at hr
    obtain rfl := Option.some.inj hr
    simp at hm
  | succ d ih =>
    intro n r f hd hr hm
    by_cases h : n < l.length
    · rw [walk_step h] at hr
      by_cases hh : headOk l n
      · have hs := size_pos hh
        rw [if_pos hh, Option.map_eq_some_iff] at hr
        obtain ⟨r', hr', rfl⟩ := hr
        by_cases e : (n : Int) = a
        · left
          subst e
          refine ⟨rfl, ?_⟩
          unfold gfr
          rw [if_neg (by omega)]
        · have hm' : a ∈ r' := by
            rcases List.mem_cons.1 hm with e2 | e2
            · exact absurd e2.symm e
            · exact e2
          obtain ⟨q, hq, h1, h2, _⟩ := bl_mem l l.length _ r' hr' a hm'
          right
          have hg : gfr l a f ((n : Int) :: r') = gfr l a (if (n : Int) + size l n = a ∧ kindOf l n = 0 then (n : Int) else f) r' := by
            rw [gfr, if_pos (by omega), Int.toNat_natCast]
          rw [hg]
          have hlen : 0 < r'.length := List.length_pos_of_mem hm'
          have hhead : r'.getD 0 0 = ((n + size l n : Nat) : Int) := by
            have ht : n + size l n < l.length := by omega
            rw [walk_step ht] at hr'
            split at hr'
            · rw [Option.map_eq_some_iff] at hr'
              obtain ⟨r2, _, rfl⟩ := hr'
              rfl
            · cases hr'
          rcases ih (if (n : Int) + size l n = a ∧ kindOf l n = 0 then (n : Int) else f) (by omega) hr' hm' with ⟨h3, h4⟩ | ⟨j, h3, h4, h5⟩
          · refine ⟨0, by simpa using hlen, h3, ?_⟩
            rw [h4]
            have h6 : (n : Int) + size l n = a := by omega
            show _ = if kindOf l (n : Int).toNat = 0 then (n : Int) else f
            rw [Int.toNat_natCast]
            by_cases h7 : kindOf l n = 0
            · rw [if_pos ⟨h6, h7⟩, if_pos h7]
            · rw [if_neg (fun hc => h7 hc.2), if_neg h7]
          · have h6 : ¬ ((n : Int) + size l n = a) := by
              have := sorted_getD (bl_sorted l l.length _ r' hr') (show 0 < j + 1 by omega) h3
              omega
            rw [if_neg (fun hc => h6 hc.1)] at h5 ⊢
            exact ⟨j + 1, by simpa using h3, h4, h5⟩
      · rw [if_neg hh] at hr; cases hr
    · rw [walk_end (by omega)] at hr
      obtain rfl := Option.some.inj hr
      simp at hm

theorem gto_le {l : List Int} {a : Nat} (hm : (a : Int) ∈ blocks l) : a + 2 ≤ gto l a ∧ gto l a ≤ l.length := by
  obtain ⟨n, e, h1, h2⟩ := blocks_mem hm
  obtain rfl : a = n := by omega
  have hs := size_pos h2
  unfold gto
  split
  · rename_i h3
    have hok : okB l = true := by
      by_cases h : okB l = true
      · exact h
      · rw [blocks_not h] at hm; simp at hm
    have := size_pos (walk_next l.length (by omega) (blocks_of hok).2 hm h3.1)
    omega
  · omega


theorem free_len (l : List Int) (f t : Nat) (h : f ≤ t) (ht : t ≤ l.length) : (free l f t).length = l.length := by
  unfold free; simp; omega
end Go.Proofs.Ytmphklmhhcmbnaa.Pure
