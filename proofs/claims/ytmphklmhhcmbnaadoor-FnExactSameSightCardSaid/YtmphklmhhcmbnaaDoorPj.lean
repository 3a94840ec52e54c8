/- What is met leads to what is met; a block's number in a row without doubles. -/
import Derived.Test.YtmphklmhhcmbnaaDoorPh
namespace Go.Proofs.YtmphklmhhcmbnaaDoorW.Ax
open Go Go.RowKit Go.Proofs Go.Proofs.YtmphklmhhcmbnaaDoor.Pure
set_option linter.unusedVariables false
theorem ad_in {out : List Int} {v : Int} (h : 4 ≤ v % 8) : v / 8 ∈ ad out v := by
  unfold ad
  by_cases e : v / 8 ∈ out
  · rw [if_neg (fun h => h.2 e)]; exact e
  · rw [if_pos ⟨h, e⟩]; exact List.mem_append_right _ (List.mem_singleton.2 rfl)
theorem ad_sub {out : List Int} {v x : Int} (h : x ∈ out) : x ∈ ad out v := by
  obtain ⟨r, hr⟩ := ad_pre out v
  rw [hr]; exact List.mem_append_left _ h
theorem ads_sub {vs out : List Int} {x : Int} (h : x ∈ out) : x ∈ vs.foldl ad out := by
  obtain ⟨r, hr⟩ := ads_pre vs out
  rw [hr]; exact List.mem_append_left _ h
theorem ads_in : ∀ {vs out : List Int} {v : Int}, v ∈ vs → 4 ≤ v % 8 → v / 8 ∈ vs.foldl ad out
  | w :: vs, out, v, h, h4 => by
    rw [List.foldl_cons]
    rcases List.mem_cons.1 h with rfl | h
    · exact ads_sub (ad_in h4)
    · exact ads_in h h4
theorem bfs_sub {l : List Int} {x : Int} : ∀ (f k : Nat) (out : List Int), x ∈ out → x ∈ bfs l f k out
  | 0, _, _, h => h
  | f + 1, k, out, h => by
    unfold bfs
    split
    · exact bfs_sub f _ _ (ads_sub h)
    · exact h
theorem ord_roots {l rs : List Int} {v : Int} (h : v ∈ rs) (h4 : 4 ≤ v % 8) : v / 8 ∈ ordL l rs := bfs_sub _ _ _ (ads_in h h4)
/-- All to which a block leads are in the row. -/
def Cl (l out : List Int) (a : Int) : Prop := ∀ x ∈ slotsL l a, 4 ≤ rd l x % 8 → rd l x / 8 ∈ out
theorem rd_pre {out r : List Int} {i : Nat} (h : i < out.length) : rd (out ++ r) i = rd out i := by
  rw [rd_nat, rd_nat]
  simp only [List.getD]
  rw [List.getElem?_append_left h]
theorem bfs_cl {l : List Int} (hp : Heap l) : ∀ (f k : Nat) (out : List Int), Ord l out → f + k = 2001 → k ≤ out.length → (∀ i : Nat, i < k → Cl l out (rd out i)) → ∀ a ∈ bfs l f k out, Cl l (bfs l f k out) a
  | 0, k, out, ho, hf, hk, _ => by have := ho.len; omega
  | f + 1, k, out, ho, hf, hk, h => by
    unfold bfs
    by_cases hlt : k < out.length
    · rw [if_pos hlt]
      obtain ⟨r, hr⟩ := ads_pre (words l (slotsL l (rd out k))) out
      refine bfs_cl hp f (k + 1) _ (ho.all (slots_vb hp (ho.2 _ (mem_rd hlt)).1)) (by omega) (by rw [hr, List.length_append]; omega) (fun i hi => ?_)
      have e : rd ((words l (slotsL l (rd out k))).foldl ad out) i = rd out i := by rw [hr]; exact rd_pre (by omega)
      rw [e]
      by_cases hik : i < k
      · exact fun x hx h4 => ads_sub (h i hik x hx h4)
      · have : i = k := by omega
        subst this
        exact fun x hx h4 => ads_in (List.mem_map.2 ⟨x, hx, rfl⟩) h4
    · rw [if_neg hlt]
      intro a ha
      obtain ⟨i, hi, rfl⟩ := List.getElem_of_mem ha
      have := h i (by omega)
      rwa [rd_nat, List.getD, List.getElem?_eq_getElem hi] at this
theorem ord_cl {l rs : List Int} (h : Rts l rs) : ∀ a ∈ ordL l rs, Cl l (ordL l rs) a :=
  bfs_cl h.1 _ _ _ ((ord_nil l).all (rts_vb h)) (by omega) (Nat.zero_le _) (fun i hi => absurd hi (Nat.not_lt_zero _))
theorem ixS_rd : ∀ (l : List Int) (j i : Nat), l.Nodup → j < l.length → ixS (rd l j) l i = i + j
  | y :: l, 0, i, _, _ => by
    unfold ixS
    rw [if_pos (by rw [rd_nat]; rfl)]; rfl
  | y :: l, j + 1, i, hn, hj => by
    have hj' : j < l.length := by rw [List.length_cons] at hj; omega
    have e : rd (y :: l) ((j + 1 : Nat) : Int) = rd l (j : Int) := by rw [rd_nat, rd_nat]; rfl
    rw [e]
    unfold ixS
    rw [if_neg fun h => (List.nodup_cons.1 hn).1 (by rw [h]; exact mem_rd hj'), ixS_rd l j (i + 1) (List.nodup_cons.1 hn).2 hj']
    omega
theorem NumM.ext {T : Nat → Prop} {st st' : St} {m : Nat} {l : List Int} (h : NumM st m l) (e : Ext T st st') (hT : ¬ T m) : NumM st' m l := by
  obtain ⟨h1, es, h2, h3⟩ := h
  exact ⟨Nat.lt_of_lt_of_le h1 e.n, es, (e.ob m h1 hT).trans h2, h3⟩
end Go.Proofs.YtmphklmhhcmbnaaDoorW.Ax
