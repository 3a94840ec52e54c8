/- Heaps that stay right: what is taken, what is set. No program in sight. -/
import Derived.Test.YtfhkjhnaihhdmaaGreatMh
import Derived.Test.YtfhkjhnaihhdmaaGreatQ6
namespace Go.Proofs.YtfhkjhnaihhdmaaGreatW.Ax
open Go Go.RowKit Go.Proofs Go.Proofs.YtfhkjhnaihhdmaaGreat.Pure
set_option linter.unusedVariables false

/-- Every block that is not free keeps its kind. -/
def Keeps (l m : List Int) : Prop := ∀ x b : Int, 0 < b → kat l x = b → kat m x = b
theorem Keeps.refl (l : List Int) : Keeps l l := fun _ _ _ h => h
theorem Keeps.trans {a b c : List Int} (h : Keeps a b) (k : Keeps b c) : Keeps a c := fun x y hy hx => k x y hy (h x y hy hx)
theorem Rf.keep {l m : List Int} (hk : Keeps l m) {v k b : Int} (hb : 0 < b) (h : Rf l v k b) : Rf m v k b := ⟨h.1, hk _ _ hb h.2⟩
theorem Leads.keep {l m : List Int} (hk : Keeps l m) {v i : Int} (h : Leads l v i) (hi : 0 < i ∨ v % 8 ≠ 7) : Leads m v i :=
  ⟨h.1, fun e => hk _ _ (by omega) (h.2.1 e), fun e => hk _ _ (by omega) (h.2.2.1 e), fun e => hk _ _ (by omega) (h.2.2.2.1 e), fun e => hi.elim (fun h0 => hk _ _ h0 (h.2.2.2.2 e)) (fun hn => absurd e hn)⟩
theorem Plain.keep {l m : List Int} (hk : Keeps l m) {v : Int} (h : Plain l v) : Plain m v := ⟨h.1, h.2.keep hk (.inr h.1)⟩
theorem Nxt.keep {l m : List Int} (hk : Keeps l m) {v b : Int} (hb : 0 < b) (h : Nxt l v b) : Nxt m v b := h.imp id fun h => h.keep hk hb
theorem Spl.keep {l m : List Int} {a n c : Int} (hc : 0 ≤ c) (hw : ∀ i, a ≤ i → i < a + n → rd m i = rd l i) (h : Spl l a n c) : Spl m a n c := by
  unfold Spl at *
  rcases h with h | h
  · exact .inl h
  · exact .inr ⟨h.1, by rw [hw _ (by omega) (by omega)]; exact h.2⟩
theorem Txt.keep {l m : List Int} {a n : Int} (hn : 2 ≤ n) (hw : ∀ i, a ≤ i → i < a + n → rd m i = rd l i) (h : Txt l a n) : Txt m a n := by
  obtain ⟨h1, h2, h3⟩ := h
  have e1 : rd m (a + 1) = rd l (a + 1) := hw _ (by omega) (by omega)
  refine ⟨by rw [e1]; exact h1, fun i hi1 hi2 => ?_, fun i hi1 hi2 => ?_⟩
  · rw [e1] at hi1
    rw [hw _ (by omega) (by omega)]; exact h2 i hi1 hi2
  · rw [e1] at hi2
    rw [hw _ (by omega) (by omega)]; exact h3 i hi1 hi2
theorem ShpK.keep {l m : List Int} (hk : Keeps l m) {a n k : Int} (hn : 2 ≤ n) (hw : ∀ i, a ≤ i → i < a + n → rd m i = rd l i) (h : ShpK l a n k) : ShpK m a n k := by
  obtain ⟨h1, h2, h3, h4, h5⟩ := h
  refine ⟨fun e => (h1 e).keep hn hw, fun e => ?_, fun e => ?_, fun e => ?_, fun e => ?_⟩
  · obtain ⟨⟨a1, a2⟩, a3⟩ := h2 e
    have hn3 : 3 ≤ n := by unfold Spl at a1; omega
    rw [hw (a + 1) (by omega) (by omega), hw (a + 2) (by omega) (by omega)]
    exact ⟨⟨a1.keep (by omega) hw, a2.imp id fun h => h.keep hk (by omega)⟩, a3.keep hk (by omega)⟩
  · obtain ⟨⟨⟨a1, a2⟩, a3⟩, a4⟩ := h3 e
    have hn3 : 4 ≤ n := by unfold Spl at a1; omega
    rw [hw (a + 1) (by omega) (by omega), hw (a + 2) (by omega) (by omega), hw (a + 3) (by omega) (by omega)]
    exact ⟨⟨⟨a1.keep (by omega) hw, a2.keep hk (by omega)⟩, a3.keep hk⟩, a4.keep hk (by omega)⟩
  · obtain ⟨⟨a1, a2⟩, a3⟩ := h4 e
    have hn3 : 3 ≤ n := by unfold Spl at a1; omega
    rw [hw (a + 1) (by omega) (by omega), hw (a + 2) (by omega) (by omega)]
    exact ⟨⟨a1.keep (by omega) hw, a2⟩, a3.keep hk (by omega)⟩
  · obtain ⟨a1, a2⟩ := h5 e
    rw [hw (a + 1) (by omega) (by omega)]
    refine ⟨a1.keep hk (by omega), fun i hi1 hi2 => ?_⟩
    rw [hw (a + i) (by omega) (by omega)]
    exact (a2 i hi1 hi2).keep hk
/-- Heads that stay: the same blocks. -/
theorem sg_heads {l m : List Int} (hl : m.length = l.length) : ∀ {a : Nat} {p : List Int} {b : Nat}, sg l a p b → (∀ x ∈ p, m.getD x.toNat 0 = l.getD x.toNat 0) → sg m a p b
  | a, [], b, h, _ => h
  | a, x :: p, b, h, hx => by
    obtain ⟨h1, h2, h3, h4⟩ := h
    have he := hx x List.mem_cons_self
    rw [h1, Int.toNat_natCast] at he
    refine ⟨h1, by omega, (headOk_congr he hl).2 h3, ?_⟩
    have : size m a = size l a := (at_congr he).2
    rw [this]
    exact sg_heads hl h4 fun y hy => hx y (List.mem_cons_of_mem _ hy)
theorem heads_same {l m : List Int} (hl : m.length = l.length) (hok : okB l = true) (h : ∀ x ∈ blocks l, m.getD x.toNat 0 = l.getD x.toNat 0) : okB m = true ∧ blocks m = blocks l ∧ Keeps l m := by
  have h1 := sg_heads hl (sg_blocks hok) h
  rw [← hl] at h1
  obtain ⟨h2, h3⟩ := sg_okB h1 (by have := okB_len hok; omega)
  refine ⟨h2, h3, fun x b hb hx => ?_⟩
  obtain ⟨k1, k2⟩ := (kat_of (by omega)).1 hx
  exact (kat_of (by omega)).2 ⟨by rw [h3]; exact k1, by rw [(at_congr (h x k1)).1]; exact k2⟩
theorem rd_set (l : List Int) (j : Nat) (v i : Int) (hj : j < l.length) (hi : 0 ≤ i) : rd (l.set j v) i = if i = j then v else rd l i := by
  unfold rd
  rw [List.getD_eq_getElem?_getD, List.getElem?_set]
  by_cases h : i = j
  · rw [if_pos (by omega), if_pos hj, if_pos h]; rfl
  · rw [if_neg (by omega), if_neg h, List.getD_eq_getElem?_getD]
theorem getD_set_I (l : List Int) (j : Nat) (v : Int) (i : Nat) (hj : j < l.length) : (l.set j v).getD i 0 = if i = j then v else l.getD i 0 := by
  rw [List.getD_eq_getElem?_getD, List.getElem?_set]
  by_cases h : j = i
  · rw [if_pos h, if_pos hj, if_pos h.symm]; rfl
  · rw [if_neg h, if_neg (fun e => h e.symm), List.getD_eq_getElem?_getD]
/-- Two blocks do not share words. -/
theorem blocks_apart {l : List Int} (hok : okB l = true) {x y : Nat} (hx : (x : Int) ∈ blocks l) (hy : (y : Int) ∈ blocks l) (h : x < y) : x + size l x ≤ y := by
  obtain ⟨p, r, e, h1, h2, h3, h4⟩ := sg_split hok hy
  rw [e] at hx
  rcases List.mem_append.1 hx with hx | hx
  · obtain ⟨n, e1, _, h5, _⟩ := sg_mem h1 _ hx
    obtain rfl : x = n := by omega
    exact h5
  · rcases List.mem_cons.1 hx with hx | hx
    · omega
    · obtain ⟨n, e1, h5, _⟩ := sg_mem h2 _ hx
      omega
/-- A word behind a head is set: the same blocks; all others stay right. -/
theorem set_heap {l : List Int} (hp : Heap l) {a j : Nat} {v : Int} (ha : (a : Int) ∈ blocks l) (h1 : a < j) (h2 : j < a + size l a) :
    okB (l.set j v) = true ∧ blocks (l.set j v) = blocks l ∧ Keeps l (l.set j v) ∧ Keeps (l.set j v) l ∧ (∀ x : Nat, (x : Int) ∈ blocks l → size (l.set j v) x = size l x ∧ kindOf (l.set j v) x = kindOf l x) ∧
      (∀ x ∈ blocks l, x ≠ (a : Int) → Shp (l.set j v) x) ∧ (Shp (l.set j v) a → Heap (l.set j v)) := by
  have hs := size_pos (show headOk l a by have := block_at ha; simpa using this.2.2.1)
  have hj : j < l.length := by omega
  have hlen : (l.set j v).length = l.length := by simp
  have hne : ∀ x : Nat, (x : Int) ∈ blocks l → x ≠ j := fun x hx e => by
    subst e
    have := blocks_apart hp.1 ha hx h1
    omega
  have hh : ∀ x ∈ blocks l, (l.set j v).getD x.toNat 0 = l.getD x.toNat 0 := fun x hx => by
    obtain ⟨n, rfl, _⟩ := blocks_mem hx
    rw [Int.toNat_natCast, getD_set_I _ _ _ _ hj, if_neg (hne n hx)]
  obtain ⟨o1, o2, o3⟩ := heads_same hlen hp.1 hh
  obtain ⟨_, _, o4⟩ := heads_same (l := l.set j v) (m := l) hlen.symm o1 (fun x hx => (hh x (by rwa [← o2])).symm)
  have hsz : ∀ x : Nat, (x : Int) ∈ blocks l → size (l.set j v) x = size l x ∧ kindOf (l.set j v) x = kindOf l x := fun x hx => by
    have := hh _ hx
    rw [Int.toNat_natCast] at this
    exact ⟨(at_congr this).2, (at_congr this).1⟩
  have hoth : ∀ x ∈ blocks l, x ≠ (a : Int) → Shp (l.set j v) x := fun x hx hxa => by
    have hS := hp.2 x hx
    obtain ⟨n, rfl, hn1, hn2⟩ := blocks_mem hx
    have hsn := size_pos hn2
    obtain ⟨e1, e2⟩ := hsz n hx
    unfold Shp at hS ⊢
    rw [Int.toNat_natCast] at hS ⊢
    rw [e1, e2]
    refine hS.keep o3 (by omega) fun i hi1 hi2 => ?_
    rw [rd_set _ _ _ _ hj (by omega), if_neg]
    intro e
    have hna : n ≠ a := fun e => hxa (by omega)
    rcases Nat.lt_or_ge n a with h | h
    · have := blocks_apart hp.1 hx ha h; omega
    · have := blocks_apart hp.1 ha hx (by omega); omega
  refine ⟨o1, o2, o3, o4, hsz, hoth, fun hSa => ⟨o1, fun x hx => ?_⟩⟩
  rw [o2] at hx
  by_cases hxa : x = (a : Int)
  · rw [hxa]; exact hSa
  · exact hoth x hx hxa
/-- A block is taken, and its words given: the heap stays right, if the block is. -/
theorem take_heap {l m : List Int} (hp : Heap l) {k : Int} {n b : Nat} (hn : 2 ≤ n) (hk : 1 ≤ k ∧ k ≤ 5) (hb : slot l n (blocks l) = some (b : Int)) (hm : m.length = l.length)
    (hw : ∀ j : Nat, ¬ (b < j ∧ j < b + ownN (size l b) n) → m.getD j 0 = (tkL l k n).getD j 0) :
    okB m = true ∧ Keeps l m ∧ blocks m = blocks (tkL l k n) ∧ (b : Int) ∈ blocks m ∧ kindOf m b = k ∧ size m b = ownN (size l b) n ∧ (b : Int) ∈ blocks l ∧ kindOf l b = 0 ∧ n ≤ ownN (size l b) n ∧ ownN (size l b) n ≤ n + 1 ∧ b + ownN (size l b) n ≤ l.length ∧
      (∀ x ∈ blocks l, x ≠ (b : Int) → x ∈ blocks m ∧ m.getD x.toNat 0 = l.getD x.toNat 0 ∧ ∀ i : Int, x ≤ i → i < x + size l x.toNat → rd m i = rd l i) ∧
      (Shp m b → Heap m) ∧ ∃ p r r' : List Int, blocks l = p ++ (b : Int) :: r ∧ blocks m = p ++ (b : Int) :: r' ∧ (∀ x ∈ p, x < (b : Int)) ∧ ∀ x ∈ r', x ∈ r ∨ kindOf m x.toNat = 0 := by
  obtain ⟨p, r, e, o1, o2, hget, s1, s2, h5, h6, s3⟩ := tk_all hp.1 hn (show 0 ≤ k ∧ k ≤ 5 by omega) hb
  have hs := size_pos s3
  have how : ownN (size l b) n ≤ size l b ∧ (size l b < n + 2 → ownN (size l b) n = size l b) ∧ (¬ size l b < n + 2 → ownN (size l b) n = n) ∧ n ≤ ownN (size l b) n ∧ ownN (size l b) n ≤ n + 1 := by
    unfold ownN; split <;> refine ⟨by omega, fun _ => by omega, fun _ => by omega, by omega, by omega⟩
  have hbn := how.1
  have hlt : (tkL l k n).length = l.length := tkL_len l k n
  -- no head lies in the block
  have hout : ∀ x ∈ blocks (tkL l k n), ∃ y : Nat, x = y ∧ ¬ (b < y ∧ y < b + ownN (size l b) n) := fun x hx => by
    rw [o2] at hx
    rcases List.mem_append.1 hx with hx | hx
    · obtain ⟨y, rfl, _, h7, _⟩ := sg_mem s1 x hx
      exact ⟨y, rfl, by omega⟩
    · rcases List.mem_cons.1 hx with rfl | hx
      · exact ⟨b, rfl, by omega⟩
      · have hr : ∀ x ∈ r, ∃ y : Nat, x = y ∧ ¬ (b < y ∧ y < b + ownN (size l b) n) := fun x hx => by
          obtain ⟨y, rfl, h7, _⟩ := sg_mem s2 x hx
          exact ⟨y, rfl, by omega⟩
        split at hx
        · exact hr x hx
        · rename_i hc
          rcases List.mem_cons.1 hx with rfl | hx
          · exact ⟨b + n, rfl, by have := how.2.2.1 hc; omega⟩
          · exact hr x hx
  obtain ⟨q1, q2, q3⟩ := heads_same (l := tkL l k n) (m := m) (by omega) o1 fun x hx => by
    obtain ⟨y, rfl, hy⟩ := hout x hx
    rw [Int.toNat_natCast]; exact hw y hy
  have g0 : m.getD b 0 = 8 * (ownN (size l b) n : Int) + k := by rw [hw b (by omega), hget, if_pos rfl]
  have z0 : size m b = ownN (size l b) n := by
    have e1 : size m b = (m.getD b 0 / 8).toNat := rfl
    rw [e1, g0]; omega
  have k0 : kindOf m b = k := by unfold kindOf; rw [g0]; omega
  -- the others
  have hother : ∀ y : Nat, (y < b ∨ b + size l b ≤ y) → m.getD y 0 = l.getD y 0 := fun y hy => by
    rw [hw y (by omega), hget, if_neg (by omega), if_neg (by omega), if_neg (by omega)]
  have hsplit : ∀ x ∈ blocks l, x ≠ (b : Int) → ∃ y : Nat, x = y ∧ (y + size l y ≤ b ∨ b + size l b ≤ y) ∧ headOk l y ∧ x ∈ blocks m := fun x hx hne => by
    rw [e] at hx
    rcases List.mem_append.1 hx with hx | hx
    · obtain ⟨y, rfl, _, h7, h8, _⟩ := sg_mem s1 x hx
      exact ⟨y, rfl, .inl h7, h8, by rw [q2, o2]; exact List.mem_append_left _ hx⟩
    · rcases List.mem_cons.1 hx with h | hx
      · exact absurd h hne
      · obtain ⟨y, rfl, h7, _, h8, _⟩ := sg_mem s2 x hx
        refine ⟨y, rfl, .inr h7, h8, ?_⟩
        rw [q2, o2]
        refine List.mem_append_right _ (List.mem_cons_of_mem _ ?_)
        split
        · exact hx
        · exact List.mem_cons_of_mem _ hx
  have hall : ∀ x ∈ blocks l, x ≠ (b : Int) → x ∈ blocks m ∧ m.getD x.toNat 0 = l.getD x.toNat 0 ∧ ∀ i : Int, x ≤ i → i < x + size l x.toNat → rd m i = rd l i := fun x hx hne => by
    obtain ⟨y, rfl, h7, h8, h9⟩ := hsplit x hx hne
    have hsy := size_pos h8
    rw [Int.toNat_natCast]
    refine ⟨h9, hother y (by omega), fun i hi1 hi2 => ?_⟩
    exact hother i.toNat (by omega)
  have hkeep : Keeps l m := fun x c hc hx => by
    obtain ⟨k1, k2⟩ := (kat_of (by omega)).1 hx
    have hne : x ≠ (b : Int) := fun e => by rw [e, Int.toNat_natCast, h5] at k2; omega
    obtain ⟨a1, a2, _⟩ := hall x k1 hne
    exact (kat_of (by omega)).2 ⟨a1, by rw [(at_congr a2).1]; exact k2⟩
  refine ⟨q1, hkeep, q2, by rw [q2, o2]; simp, k0, z0, by rw [e]; simp, h5, how.2.2.2.1, how.2.2.2.2, by omega, hall, fun hS => ⟨q1, fun x hx => ?_⟩, p, r, _, e, by rw [q2, o2], ?_, ?_⟩
  · rw [q2, o2] at hx
    have old : x ∈ blocks l → x ≠ (b : Int) → Shp m x := fun hx hne => by
      obtain ⟨a1, a2, a3⟩ := hall x hx hne
      have hS := hp.2 x hx
      have hsx := size_pos (block_at hx).2.2.1
      unfold Shp at hS ⊢
      rw [(at_congr a2).1, (at_congr a2).2]
      exact hS.keep hkeep (by omega) a3
    have hnb : ∀ y ∈ p, y ≠ (b : Int) := fun y hy e => by obtain ⟨z, rfl, _, _, _, h7⟩ := sg_mem s1 y hy; omega
    have hnr : ∀ y ∈ r, y ≠ (b : Int) := fun y hy e => by obtain ⟨z, rfl, h7, _⟩ := sg_mem s2 y hy; omega
    rcases List.mem_append.1 hx with hx | hx
    · exact old (by rw [e]; exact List.mem_append_left _ hx) (hnb x hx)
    · rcases List.mem_cons.1 hx with rfl | hx
      · exact hS
      · split at hx
        · exact old (by rw [e]; exact List.mem_append_right _ (List.mem_cons_of_mem _ hx)) (hnr x hx)
        · rename_i hc
          rcases List.mem_cons.1 hx with rfl | hx
          · have g1 : m.getD (b + n) 0 = 8 * ((size l b : Int) - n) := by
              have := how.2.2.1 hc
              rw [hw (b + n) (by omega), hget, if_neg (by omega), if_neg (by omega), if_pos ⟨hc, rfl⟩]
            have k1 : kindOf m (b + n) = 0 := by unfold kindOf; rw [g1]; omega
            unfold Shp
            rw [Int.toNat_natCast, k1]
            exact ⟨fun h => by omega, fun h => by omega, fun h => by omega, fun h => by omega, fun h => by omega⟩
          · exact old (by rw [e]; exact List.mem_append_right _ (List.mem_cons_of_mem _ hx)) (hnr x hx)
  · intro x hx
    obtain ⟨y, rfl, _, _, _, h7⟩ := sg_mem s1 x hx
    omega
  · intro x hx
    split at hx
    · exact .inl hx
    · rename_i hc
      rcases List.mem_cons.1 hx with rfl | hx
      · right
        have g1 : m.getD (b + n) 0 = 8 * ((size l b : Int) - n) := by
          have := how.2.2.1 hc
          rw [hw (b + n) (by omega), hget, if_neg (by omega), if_neg (by omega), if_pos ⟨hc, rfl⟩]
        rw [Int.toNat_natCast]
        unfold kindOf; rw [g1]; omega
      · exact .inl hx
end Go.Proofs.YtfhkjhnaihhdmaaGreatW.Ax
