/- What is set of an object: the heap stays right; its cells, its names. No program in sight. -/
import Derived.Test.YtfhkjhnaihhdmaaGreatZx
import Derived.Test.YtfhkjhnaihhdmaaGreatQ5
namespace Go.Proofs.YtfhkjhnaihhdmaaGreatW.Ax
open Go Go.RowKit Go.Proofs Go.Proofs.YtfhkjhnaihhdmaaGreat.Pure
set_option linter.unusedVariables false

/-! ### chains that end -/
def Pth (f : Int → Int) : Int → List Int → Prop
  | v, [] => v = 0
  | v, x :: xs => v = x ∧ x ≠ 0 ∧ Pth f (f x) xs
theorem chain_pth {f : Int → Int} : ∀ (d : Nat) (v : Int) (out C : List Int), chain f stC d v out = (C, false) → ∃ xs, C = out ++ xs ∧ Pth f v xs ∧ (∀ x ∈ xs, x ∉ out) ∧ xs.Nodup
  | 0, v, out, C, h => by unfold chain at h; injection h with h1 h2; cases h2
  | d + 1, v, out, C, h => by
    unfold chain at h
    split at h
    · rename_i hs
      injection h with h1 h2
      have hs : decide (v = 0) = true := hs
      exact ⟨[], by rw [← h1]; simp, of_decide_eq_true (p := v = 0) hs, fun x hx => by simp at hx, List.nodup_nil⟩
    · rename_i hs
      split at h
      · injection h with h1 h2; cases h2
      · rename_i hm
        obtain ⟨xs, h1, h2, h3, h4⟩ := chain_pth d _ _ _ h
        have hv : v ≠ 0 := fun e => hs (decide_eq_true e)
        refine ⟨v :: xs, by rw [h1]; simp, ⟨rfl, hv, h2⟩, fun x hx => ?_, List.nodup_cons.2 ⟨fun hvx => h3 v hvx (by simp), h4⟩⟩
        rcases List.mem_cons.1 hx with rfl | hx
        · exact hm
        · exact fun ho => h3 x hx (List.mem_append_left _ ho)
theorem pth_chain {f : Int → Int} : ∀ (xs : List Int) (d : Nat) (v : Int) (out : List Int), Pth f v xs → xs.Nodup → (∀ x ∈ xs, x ∉ out) → xs.length < d → chain f stC d v out = (out ++ xs, false)
  | [], d + 1, v, out, h, _, _, _ => by
    have h : v = 0 := h
    unfold chain
    rw [if_pos (show stC v = true from decide_eq_true h)]; simp
  | x :: xs, d + 1, v, out, h, hn, ho, hd => by
    obtain ⟨rfl, hv, h2⟩ := h
    obtain ⟨n1, n2⟩ := List.nodup_cons.1 hn
    unfold chain
    rw [if_neg (show ¬ stC v = true from fun hc => hv (of_decide_eq_true (p := v = 0) hc)), if_neg (ho v List.mem_cons_self)]
    have := pth_chain xs d (f v) (out ++ [v]) h2 n2 (fun x hx hxo => (List.mem_append.1 hxo).elim (ho x (List.mem_cons_of_mem _ hx)) fun e => n1 (List.mem_singleton.1 e ▸ hx)) (by simp at hd; omega)
    rw [this]; simp
theorem pth_congr {f g : Int → Int} : ∀ {xs : List Int} {v : Int}, Pth f v xs → (∀ x ∈ xs, g x = f x) → Pth g v xs
  | [], v, h, _ => h
  | x :: xs, v, h, hg => ⟨h.1, h.2.1, by rw [hg x List.mem_cons_self]; exact pth_congr h.2.2 fun y hy => hg y (List.mem_cons_of_mem _ hy)⟩
theorem pth_snoc {f g : Int → Int} {c : Int} (hc : c ≠ 0) (gc : g c = 0) : ∀ {xs : List Int} {v : Int}, Pth f v xs → (∀ x ∈ xs, g x = if f x = 0 then c else f x) → Pth g (if v = 0 then c else v) (xs ++ [c])
  | [], v, h, _ => by
    have h : v = 0 := h
    rw [if_pos h]
    exact ⟨rfl, hc, gc⟩
  | x :: xs, v, h, hg => by
    obtain ⟨rfl, hv, h2⟩ := h
    rw [if_neg hv]
    refine ⟨rfl, hv, ?_⟩
    rw [hg v List.mem_cons_self]
    exact pth_snoc hc gc h2 fun y hy => hg y (List.mem_cons_of_mem _ hy)
theorem pth_last {f : Int → Int} : ∀ {xs : List Int} {v x : Int}, Pth f v xs → xs.Nodup → x ∈ xs → (f x = 0 ↔ xs.getLast? = some x)
  | [y], v, x, h, _, hx => by
    obtain rfl : x = y := by simpa using hx
    exact ⟨fun _ => rfl, fun _ => h.2.2⟩
  | y :: z :: xs, v, x, h, hn, hx => by
    obtain ⟨n1, n2⟩ := List.nodup_cons.1 hn
    have hz := h.2.2
    rw [List.getLast?_cons_cons]
    rcases List.mem_cons.1 hx with rfl | hx
    · constructor
      · intro e
        exact absurd (hz.1.symm.trans e) hz.2.1
      · intro e
        exact absurd (List.mem_of_getLast? e) n1
    · exact pth_last hz n2 hx
theorem pth_nil {f : Int → Int} {xs : List Int} {v : Int} (h : Pth f v xs) : v = 0 ↔ xs = [] := by
  cases xs with
  | nil => exact ⟨fun _ => rfl, fun _ => h⟩
  | cons x xs => exact ⟨fun e => absurd (h.1.symm.trans e) h.2.1, fun e => by cases e⟩

/-! ### words of blocks that are set -/
theorem same_block {l : List Int} (hok : okB l = true) {x y i j : Int} (hx : x ∈ blocks l) (hy : y ∈ blocks l) (hi : 0 ≤ i ∧ i < size l x.toNat) (hj : 0 ≤ j ∧ j < size l y.toNat) (h : x + i = y + j) : x = y := by
  obtain ⟨a, rfl, _, _⟩ := blocks_mem hx
  obtain ⟨b, rfl, _, _⟩ := blocks_mem hy
  rw [Int.toNat_natCast] at hi hj
  rcases Nat.lt_trichotomy a b with h1 | h1 | h1
  · have := blocks_apart hok hx hy h1; omega
  · rw [h1]
  · have := blocks_apart hok hy hx h1; omega
theorem rf_size {l : List Int} (hp : Heap l) {v k b : Int} (h : Rf l v k b) (hb : 0 < b) (hb5 : b ≤ 4) : (b = 3 → 4 ≤ size l (v / 8).toNat) ∧ (b = 2 → 3 ≤ size l (v / 8).toNat) := by
  have h1 := shp_of hp h (by omega)
  refine ⟨fun e => ?_, fun e => ?_⟩
  · subst e
    have := (h1.2.2.1 rfl).1.1.1
    unfold Spl at this; omega
  · subst e
    have := (h1.2.1 rfl).1.1
    unfold Spl at this; omega
/-- What a set word of a block leaves: all that hangs on others. -/
structure SetOk (l m : List Int) (a : Int) : Prop where
  heap : Heap m
  blk : blocks m = blocks l
  keep : Keeps l m
  txt : ∀ x ∈ blocks l, kindOf l x.toNat = 1 → Ax.txt m x = Ax.txt l x
theorem setw_ok {l : List Int} (hp : Heap l) {a : Int} {d v : Int} (ha : a ∈ blocks l) (hd : 1 ≤ d ∧ d < size l a.toNat) (h1 : kindOf l a.toNat ≠ 1)
    (hS : ∀ m, Keeps l m → (∀ i : Int, 0 ≤ i → rd m i = if i = a + d then v else rd l i) → ShpK m a (size l a.toNat) (kindOf l a.toNat)) : SetOk l (l.set (a + d).toNat v) a ∧ ∀ i : Int, 0 ≤ i → rd (l.set (a + d).toNat v) i = if i = a + d then v else rd l i := by
  obtain ⟨n, rfl, hn1, hn2⟩ := blocks_mem ha
  rw [Int.toNat_natCast] at hd h1 hS
  have hs := size_pos hn2
  have hj : ((n : Int) + d).toNat < l.length := by omega
  have e0 : (((n : Int) + d).toNat : Int) = (n : Int) + d := by omega
  have hr : ∀ i : Int, 0 ≤ i → rd (l.set ((n : Int) + d).toNat v) i = if i = (n : Int) + d then v else rd l i := fun i hi => by
    rw [rd_set _ _ _ _ hj hi, e0]
  obtain ⟨q1, q2, q3, q4, q5, q6, q7⟩ := set_heap hp (v := v) ha (show n < ((n : Int) + d).toNat by omega) (by omega)
  refine ⟨⟨q7 ?_, q2, q3, fun x hx hk => ?_⟩, hr⟩
  · unfold Shp
    rw [Int.toNat_natCast, (q5 n ha).1, (q5 n ha).2]
    exact hS _ q3 hr
  · have ht := txt_of hp hx hk
    refine txt_keep ht.1 (by omega) ht.2.2.2.2.1 fun i hi1 hi2 => ?_
    rw [hr i (by omega), if_neg]
    intro e
    have := same_block hp.1 hx ha (i := i - x) (j := d) (by omega) (by rw [Int.toNat_natCast]; omega) (by omega)
    rw [this, Int.toNat_natCast] at hk
    exact h1 hk
theorem set_cell3 {l : List Int} (hp : Heap l) {c w : Int} (hc : Rf l c 7 3) (hw : Nxt l w 3) : SetOk l (l.set (c / 8 + 3).toNat w) (c / 8) ∧ ∀ i : Int, 0 ≤ i → rd (l.set (c / 8 + 3).toNat w) i = if i = c / 8 + 3 then w else rd l i := by
  have h1 := at_of hc (by omega)
  have h2 := shp_of hp hc (by omega)
  have h3 := h2.2.2.1 rfl
  have h4 := (rf_size hp hc (by omega) (by omega)).1 rfl
  refine setw_ok hp h1.1 (by omega) (by omega) fun m hk hr => ?_
  rw [h1.2.2.2.2.1]
  refine ⟨fun e => by omega, fun e => by omega, fun _ => ⟨⟨⟨?_, ?_⟩, ?_⟩, ?_⟩, fun e => by omega, fun e => by omega⟩
  · have h5 := h3.1.1.1
    unfold Spl at h5 ⊢
    rw [hr _ (by omega), if_neg (by omega)]; exact h5
  · rw [hr _ (by omega), if_neg (by omega)]; exact h3.1.1.2.keep hk (by omega)
  · rw [hr _ (by omega), if_neg (by omega)]; exact h3.1.2.keep hk
  · rw [hr _ (by omega), if_pos rfl]; exact hw.keep hk (by omega)
theorem set_cell2 {l : List Int} (hp : Heap l) {c w : Int} (hc : Rf l c 7 3) (hw : Plain l w) : SetOk l (l.set (c / 8 + 2).toNat w) (c / 8) ∧ ∀ i : Int, 0 ≤ i → rd (l.set (c / 8 + 2).toNat w) i = if i = c / 8 + 2 then w else rd l i := by
  have h1 := at_of hc (by omega)
  have h2 := shp_of hp hc (by omega)
  have h3 := h2.2.2.1 rfl
  have h4 := (rf_size hp hc (by omega) (by omega)).1 rfl
  refine setw_ok hp h1.1 (by omega) (by omega) fun m hk hr => ?_
  rw [h1.2.2.2.2.1]
  refine ⟨fun e => by omega, fun e => by omega, fun _ => ⟨⟨⟨?_, ?_⟩, ?_⟩, ?_⟩, fun e => by omega, fun e => by omega⟩
  · have h5 := h3.1.1.1
    unfold Spl at h5 ⊢
    rw [hr _ (by omega), if_neg (by omega)]; exact h5
  · rw [hr _ (by omega), if_neg (by omega)]; exact h3.1.1.2.keep hk (by omega)
  · rw [hr _ (by omega), if_pos rfl]; exact hw.keep hk
  · rw [hr _ (by omega), if_neg (by omega)]; exact h3.2.keep hk (by omega)
theorem set_obj2 {l : List Int} (hp : Heap l) {c w : Int} (hc : Rf l c 5 2) (hw : Nxt l w 3) : SetOk l (l.set (c / 8 + 2).toNat w) (c / 8) ∧ ∀ i : Int, 0 ≤ i → rd (l.set (c / 8 + 2).toNat w) i = if i = c / 8 + 2 then w else rd l i := by
  have h1 := at_of hc (by omega)
  have h2 := shp_of hp hc (by omega)
  have h3 := h2.2.1 rfl
  have h4 := (rf_size hp hc (by omega) (by omega)).2 rfl
  refine setw_ok hp h1.1 (by omega) (by omega) fun m hk hr => ?_
  rw [h1.2.2.2.2.1]
  refine ⟨fun e => by omega, fun _ => ⟨⟨?_, ?_⟩, ?_⟩, fun e => by omega, fun e => by omega, fun e => by omega⟩
  · have h5 := h3.1.1
    unfold Spl at h5 ⊢
    rw [hr _ (by omega), if_neg (by omega)]; exact h5
  · rw [hr _ (by omega), if_neg (by omega)]; exact h3.1.2.imp id fun h => h.keep hk (by omega)
  · rw [hr _ (by omega), if_pos rfl]; exact hw.keep hk (by omega)
theorem set_obj1 {l : List Int} (hp : Heap l) {c w : Int} (hc : Rf l c 5 2) (hw : w = 1 ∨ Rf l w 5 2) : SetOk l (l.set (c / 8 + 1).toNat w) (c / 8) ∧ ∀ i : Int, 0 ≤ i → rd (l.set (c / 8 + 1).toNat w) i = if i = c / 8 + 1 then w else rd l i := by
  have h1 := at_of hc (by omega)
  have h2 := shp_of hp hc (by omega)
  have h3 := h2.2.1 rfl
  have h4 := (rf_size hp hc (by omega) (by omega)).2 rfl
  refine setw_ok hp h1.1 (by omega) (by omega) fun m hk hr => ?_
  rw [h1.2.2.2.2.1]
  refine ⟨fun e => by omega, fun _ => ⟨⟨?_, ?_⟩, ?_⟩, fun e => by omega, fun e => by omega, fun e => by omega⟩
  · have h5 := h3.1.1
    unfold Spl at h5 ⊢
    rw [hr _ (by omega), if_neg (by omega)]; exact h5
  · rw [hr _ (by omega), if_pos rfl]; exact hw.imp id fun h => h.keep hk (by omega)
  · rw [hr _ (by omega), if_neg (by omega)]; exact h3.2.keep hk (by omega)
end Go.Proofs.YtfhkjhnaihhdmaaGreatW.Ax
