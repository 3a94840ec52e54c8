/- Plain words: what is given and what is taken of a slab, block by block; the room. No program in sight. -/
import Derived.Test.YtfhkjhnaihhdmaaGreatMf
set_option autoImplicit false
namespace Go.Proofs.YtfhkjhnaihhdmaaGreat.Pure
theorem put_get (l : List Int) (b : Nat) (x : Int) (k : Nat) (hk : 1 ≤ k) (hb : b + k ≤ l.length) (j : Nat) : (put l b x k).getD j 0 = if j = b then x else if b < j ∧ j < b + k then 0 else l.getD j 0 := by
  unfold put
  rw [List.getD_eq_getElem?_getD, List.getD_eq_getElem?_getD, List.getElem?_set]
  by_cases h1 : b = j
  · subst h1
    rw [if_pos rfl, if_pos rfl, if_pos (by simp; omega)]; rfl
  · rw [if_neg h1, if_neg (fun h => h1 h.symm)]
    by_cases h2 : j < b
    · rw [List.getElem?_append_left (by simp; omega), List.getElem?_append_left (by simp; omega), List.getElem?_take_of_lt h2, if_neg (by omega)]
    · by_cases h3 : j < b + k
      · rw [List.getElem?_append_left (by simp; omega), List.getElem?_append_right (by simp; omega), if_pos (by omega)]
        rw [List.getElem?_replicate]
        split <;> rfl
      · rw [List.getElem?_append_right (by simp; omega), List.getElem?_drop, if_neg (by omega)]
        congr 2
        simp; omega
theorem free_put {l : List Int} {f t : Nat} (h : f ≤ t) : free l f t = put l f (8 * ((t : Int) - f)) (t - f) := by
  unfold free put
  rw [show f + (t - f) = t by omega]
theorem sg_mem {l : List Int} : ∀ {a : Nat} {p : List Int} {b : Nat}, sg l a p b → ∀ x ∈ p, ∃ n : Nat, x = n ∧ a ≤ n ∧ n + size l n ≤ b ∧ headOk l n ∧ n < b
  | a, y :: p, b, h, x, hx => by
    obtain ⟨h1, h2, h3, h4⟩ := h
    have hle := sg_le h4
    have hs := size_pos h3
    rcases List.mem_cons.1 hx with rfl | hx
    · exact ⟨a, h1, Nat.le_refl _, hle, h3, by omega⟩
    · obtain ⟨n, h5, h6, h7⟩ := sg_mem h4 x hx
      exact ⟨n, h5, by omega, h7⟩
/-- The free room among some blocks. -/
def rm (l xs : List Int) : Int := sm (fun a => if kindOf l a.toNat = 0 then szI l a else 0) xs
theorem rm_app (l xs ys : List Int) : rm l (xs ++ ys) = rm l xs + rm l ys := sm_app _ _ _
theorem rm_cons (l xs : List Int) (x : Int) : rm l (x :: xs) = (if kindOf l x.toNat = 0 then szI l x else 0) + rm l xs := rfl
theorem at_congr {l m : List Int} {j : Nat} (h : m.getD j 0 = l.getD j 0) : kindOf m j = kindOf l j ∧ size m j = size l j := by
  unfold kindOf size; rw [h]; exact ⟨rfl, rfl⟩
theorem rm_congr {l m xs : List Int} (h : ∀ x ∈ xs, m.getD x.toNat 0 = l.getD x.toNat 0) : rm m xs = rm l xs := sm_eq _ _ _ fun x hx => by
  obtain ⟨h1, h2⟩ := at_congr (h x hx)
  unfold szI
  rw [h1, h2]
theorem szI_congr {l m xs : List Int} (h : ∀ x ∈ xs, m.getD x.toNat 0 = l.getD x.toNat 0) : sm (szI m) xs = sm (szI l) xs := sm_eq _ _ _ fun x hx => by
  unfold szI; rw [(at_congr (h x hx)).2]
theorem sg_tile {l : List Int} : ∀ {a : Nat} {p : List Int} {b : Nat}, sg l a p b → sm (szI l) p = (b : Int) - a
  | a, [], b, h => by obtain rfl : a = b := h; simp [sm]
  | a, x :: p, b, h => by
    obtain ⟨rfl, h2, h3, h4⟩ := h
    have := sg_tile h4
    rw [sm, this]
    unfold szI
    rw [Int.toNat_natCast]
    omega
/-- Where all but one are free: so much of them is free. -/
theorem rm_but (l : List Int) (a : Int) (ha : kindOf l a.toNat ≠ 0) : ∀ (m : List Int), m.Nodup → (∀ x ∈ m, x ≠ a → kindOf l x.toNat = 0) → rm l m = sm (szI l) m - if a ∈ m then szI l a else 0
  | [], _, _ => by simp [rm, sm]
  | y :: m, hn, h => by
    obtain ⟨h1, h2⟩ := List.nodup_cons.1 hn
    have ih := rm_but l a ha m h2 fun x hx => h x (List.mem_cons_of_mem _ hx)
    rw [rm_cons, ih, sm]
    by_cases e : y = a
    · subst e
      rw [if_neg ha, if_neg h1, if_pos List.mem_cons_self]
      omega
    · rw [if_pos (h y List.mem_cons_self e)]
      by_cases hm : a ∈ m
      · rw [if_pos hm, if_pos (List.mem_cons_of_mem _ hm)]; omega
      · rw [if_neg hm, if_neg (fun hc => (List.mem_cons.1 hc).elim (fun e2 => e e2.symm) hm)]; omega
/-- What is given: what lies ahead of it, what becomes one, what lies behind it. -/
theorem give_parts {l : List Int} (h : okB l = true) {a : Nat} (ha : (a : Int) ∈ blocks l) (hk : kindOf l a ≠ 0) :
    ∃ (f t : Nat) (p m r : List Int), give l a = free l f t ∧ blocks l = p ++ m ++ r ∧ sg l 0 p f ∧ sg l f m t ∧ sg l t r l.length ∧ f + 2 ≤ t ∧ (a : Int) ∈ m ∧ ∀ x ∈ m, x ≠ (a : Int) → kindOf l x.toNat = 0 := by
  obtain ⟨p, r, e, h1, h2, h3, h4⟩ := sg_split h ha
  have hs := size_pos h3
  have hsrt := blocks_sorted l
  -- behind
  have hB : ∃ (m2 r2 : List Int), (a : Int) :: r = m2 ++ r2 ∧ sg l a m2 (gto l a) ∧ sg l (gto l a) r2 l.length ∧ (a : Int) ∈ m2 ∧ ∀ x ∈ m2, x ≠ (a : Int) → kindOf l x.toNat = 0 := by
    unfold gto
    split
    · rename_i hc
      cases r with
      | nil => have : a + size l a = l.length := h2; omega
      | cons y r =>
        obtain ⟨rfl, h5, h6, h7⟩ := h2
        refine ⟨[(a : Int), ((a + size l a : Nat) : Int)], r, rfl, ⟨rfl, h4, h3, rfl, h5, h6, rfl⟩, h7, by simp, fun x hx hne => ?_⟩
        have : x = ((a + size l a : Nat) : Int) := by
          rcases List.mem_cons.1 hx with e1 | e1
          · exact absurd e1 hne
          · simpa using e1
        rw [this, Int.toNat_natCast]; exact hc.2
    · exact ⟨[(a : Int)], r, rfl, ⟨rfl, h4, h3, rfl⟩, h2, by simp, fun x hx hne => absurd (by simpa using hx) hne⟩
  obtain ⟨m2, r2, e2, hm2, hr2, ham, hfree⟩ := hB
  -- ahead
  have hA : ∃ (f : Nat) (p1 m1 : List Int), gfr l a a (blocks l) = f ∧ p = p1 ++ m1 ∧ sg l 0 p1 f ∧ sg l f m1 a ∧ ∀ x ∈ m1, kindOf l x.toNat = 0 := by
    rcases gfr_at (a := (a : Int)) l.length (a : Int) (by omega) (blocks_of h).2 ha with ⟨g1, g2⟩ | ⟨j, g1, g2, g3⟩
    · exact ⟨a, p, [], g2, by simp, h1, rfl, fun x hx => by simp at hx⟩
    · have hpl : p.length = j + 1 := by
        have g4 : (blocks l).getD p.length 0 = a := by rw [e]; simp [List.getD]
        have hpb : p.length < (blocks l).length := by rw [e]; simp
        rcases Nat.lt_trichotomy p.length (j + 1) with g | g | g
        · have := sorted_getD hsrt g g1; omega
        · exact g
        · have := sorted_getD hsrt g hpb; omega
      have hpne : p ≠ [] := fun hc => by rw [hc] at hpl; simp at hpl
      obtain ⟨p1, y, rfl⟩ : ∃ p1 y, p = p1 ++ [y] := ⟨p.dropLast, p.getLast hpne, (List.dropLast_concat_getLast hpne).symm⟩
      have hj : (blocks l).getD j 0 = y := by
        have : j = p1.length := by simp at hpl; omega
        rw [e, this]
        simp [List.getD]
      by_cases hky : kindOf l y.toNat = 0
      · rw [hj, if_pos hky] at g3
        obtain ⟨b, k1, k2⟩ := sg_cut h1
        obtain ⟨k3, k4, k5, k6⟩ := k2
        exact ⟨b, p1, [y], by rw [g3, k3], rfl, k1, ⟨k3, k4, k5, k6⟩, fun x hx => by rw [List.mem_singleton.1 hx]; exact hky⟩
      · rw [hj, if_neg hky] at g3
        exact ⟨a, p1 ++ [y], [], g3, by simp, h1, rfl, fun x hx => by simp at hx⟩
  obtain ⟨f, p1, m1, hf, rfl, hp1, hm1, hz⟩ := hA
  have hfa := sg_le hm1
  have hat := sg_le hm2
  have hg := gto_le ha
  refine ⟨f, gto l a, p1, m1 ++ m2, r2, ?_, ?_, hp1, sg_app hm1 hm2, hr2, by omega, List.mem_append_right _ ham, fun x hx hne => ?_⟩
  · rw [give, if_pos ⟨ha, by rw [Int.toNat_natCast]; exact hk⟩, Int.toNat_natCast, hf, Int.toNat_natCast]
  · rw [e, e2]; simp
  · rcases List.mem_append.1 hx with hx | hx
    · exact hz x hx
    · exact hfree x hx hne
/-- What is given: the blocks, and the room. -/
theorem give_all {l : List Int} (h : okB l = true) {a : Nat} (ha : (a : Int) ∈ blocks l) (hk : kindOf l a ≠ 0) :
    okB (give l a) = true ∧ roomL (give l a) = roomL l + size l a ∧ ∀ x ∈ blocks l, x ≠ (a : Int) → kindOf l x.toNat ≠ 0 → x ∈ blocks (give l a) ∧ (give l a).getD x.toNat 0 = l.getD x.toNat 0 := by
  obtain ⟨f, t, p, m, r, e, hb, hp, hm, hr, hft, ham, hz⟩ := give_parts h ha hk
  have ht := sg_le hr
  obtain ⟨h1, h2, h3, h4⟩ := free_sg (blocks_of h).1 hp hr hft
  have hget := put_get l f (8 * ((t : Int) - f)) (t - f) (by omega) (by omega)
  rw [← free_put (by omega)] at hget
  have hpp : ∀ x ∈ p, (free l f t).getD x.toNat 0 = l.getD x.toNat 0 := fun x hx => by
    obtain ⟨n, rfl, _, h5, _⟩ := sg_mem hp x hx
    rw [Int.toNat_natCast, hget, if_neg (by omega), if_neg (by omega)]
  have hrr : ∀ x ∈ r, (free l f t).getD x.toNat 0 = l.getD x.toNat 0 := fun x hx => by
    obtain ⟨n, rfl, h5, _⟩ := sg_mem hr x hx
    rw [Int.toNat_natCast, hget, if_neg (by omega), if_neg (by omega)]
  have hmn : m.Nodup := by
    have := blocks_nodup l
    rw [hb] at this
    exact (List.nodup_append.1 (List.nodup_append.1 this).1).2.1
  rw [e]
  refine ⟨h1, ?_, fun x hx hne hkx => ?_⟩
  · show rm _ (blocks _) = rm l (blocks l) + _
    rw [h2, hb, rm_app, rm_cons, rm_app, rm_app, rm_congr hpp, rm_congr hrr]
    have h5 := rm_but l a (by rwa [Int.toNat_natCast]) m hmn hz
    rw [if_pos ham, sg_tile hm] at h5
    have h6 : kindOf (free l f t) f = 0 := by
      unfold kindOf; rw [hget, if_pos rfl]; omega
    rw [Int.toNat_natCast, if_pos h6]
    have h7 : szI (free l f t) f = (t : Int) - f := by unfold szI; rw [Int.toNat_natCast, h3]; omega
    have h8 : szI l a = size l a := by unfold szI; rw [Int.toNat_natCast]
    rw [h7]; omega
  · rw [hb] at hx
    rw [h2]
    rcases List.mem_append.1 hx with hx | hx
    · rcases List.mem_append.1 hx with hx | hx
      · exact ⟨List.mem_append_left _ hx, hpp x hx⟩
      · exact absurd (hz x hx hne) hkx
    · exact ⟨List.mem_append_right _ (List.mem_cons_of_mem _ hx), hrr x hx⟩
/-- What is taken: what lies ahead of it, the rest behind it. -/
theorem tk_all {l : List Int} (h : okB l = true) {k : Int} {n b : Nat} (hn : 2 ≤ n) (hk : 0 ≤ k ∧ k ≤ 5) (hb : slot l n (blocks l) = some (b : Int)) :
    ∃ p r : List Int, blocks l = p ++ (b : Int) :: r ∧ okB (tkL l k n) = true ∧ blocks (tkL l k n) = p ++ (b : Int) :: (if size l b < n + 2 then r else ((b + n : Nat) : Int) :: r) ∧
      (∀ j : Nat, (tkL l k n).getD j 0 = if j = b then 8 * (ownN (size l b) n : Int) + k else if b < j ∧ j < b + ownN (size l b) n then 0 else if ¬ size l b < n + 2 ∧ j = b + n then 8 * ((size l b : Int) - n) else l.getD j 0) ∧
      sg l 0 p b ∧ sg l (b + size l b) r l.length ∧ kindOf l b = 0 ∧ n ≤ size l b ∧ headOk l b := by
  obtain ⟨hm, h0, h1, h2, h3, h4, h5, h6⟩ := slot_at hb
  rw [Int.toNat_natCast] at h1 h2 h4 h5 h6
  obtain ⟨p, r, e, s1, s2, s3, s4⟩ := sg_split h hm
  have hs := size_pos s3
  have how : ownN (size l b) n ≤ size l b ∧ (size l b < n + 2 → ownN (size l b) n = size l b) ∧ (¬ size l b < n + 2 → ownN (size l b) n = n) := by
    unfold ownN; split <;> refine ⟨by omega, fun _ => by omega, fun _ => by omega⟩
  have hT : tkL l k n = put (cutL l b n) b (8 * (ownN (size l b) n : Int) + k) (ownN (size l b) n) := by
    unfold tkL; rw [hb]; rfl
  have hcl := cutL_len l b n
  have hlen : (tkL l k n).length = l.length := tkL_len l k n
  have hget : ∀ j : Nat, (tkL l k n).getD j 0 = if j = b then 8 * (ownN (size l b) n : Int) + k else if b < j ∧ j < b + ownN (size l b) n then 0 else if ¬ size l b < n + 2 ∧ j = b + n then 8 * ((size l b : Int) - n) else l.getD j 0 := fun j => by
    rw [hT, put_get _ _ _ _ (by omega) (by omega)]
    by_cases hj : j = b
    · rw [if_pos hj, if_pos hj]
    · rw [if_neg hj, if_neg hj]
      by_cases hj2 : b < j ∧ j < b + ownN (size l b) n
      · rw [if_pos hj2, if_pos hj2]
      · rw [if_neg hj2, if_neg hj2]
        unfold cutL
        by_cases hc : size l b < n + 2
        · rw [if_pos hc, if_neg (fun hh => hh.1 hc)]
        · rw [if_neg hc]
          by_cases hj3 : j = b + n
          · subst hj3
            rw [if_pos ⟨hc, rfl⟩]
            have : b + n < l.length := by omega
            simp [List.getD, this]
          · rw [if_neg (fun hh => hj3 hh.2), List.getD_eq_getElem?_getD, List.getD_eq_getElem?_getD, List.getElem?_set_ne (Ne.symm hj3)]
  have hbn := how.1
  -- the words ahead and behind stay
  have c1 : sg (tkL l k n) 0 p b := sg_congr hlen s1 fun x hx => by rw [hget, if_neg (by omega), if_neg (by omega), if_neg (by omega)]
  have c2 : sg (tkL l k n) (b + size l b) r (tkL l k n).length := by
    rw [hlen]
    exact sg_congr_r hlen s2 fun x hx => by rw [hget, if_neg (by omega), if_neg (by omega), if_neg (by omega)]
  have g0 : (tkL l k n).getD b 0 = 8 * (ownN (size l b) n : Int) + k := by rw [hget, if_pos rfl]
  have z0 : size (tkL l k n) b = ownN (size l b) n := by unfold size; rw [g0]; unfold size at *; omega
  have d0 : headOk (tkL l k n) b := by unfold headOk; rw [g0, hlen]; omega
  have hsg : sg (tkL l k n) 0 (p ++ (b : Int) :: (if size l b < n + 2 then r else ((b + n : Nat) : Int) :: r)) (tkL l k n).length := by
    refine sg_app c1 ⟨rfl, by rw [hlen]; omega, d0, ?_⟩
    rw [z0]
    by_cases hc : size l b < n + 2
    · rw [if_pos hc, how.2.1 hc]; exact c2
    · have g1 : (tkL l k n).getD (b + n) 0 = 8 * ((size l b : Int) - n) := by
        have := how.2.2 hc
        rw [hget, if_neg (by omega), if_neg (by omega), if_pos ⟨hc, rfl⟩]
      have z1 : size (tkL l k n) (b + n) = size l b - n := by
        have e1 : size (tkL l k n) (b + n) = ((tkL l k n).getD (b + n) 0 / 8).toNat := rfl
        rw [e1, g1]; omega
      rw [if_neg hc, how.2.2 hc]
      refine ⟨rfl, by rw [hlen]; omega, ?_, ?_⟩
      · unfold headOk; rw [g1, hlen]; omega
      · rw [z1, show b + n + (size l b - n) = b + size l b by omega]; exact c2
  obtain ⟨o1, o2⟩ := sg_okB hsg (by rw [hlen]; exact (blocks_of h).1)
  exact ⟨p, r, e, o1, o2, hget, s1, s2, h5, h6, s3⟩
theorem tk_room {l : List Int} (h : okB l = true) {k : Int} {n b : Nat} (hn : 2 ≤ n) (hk : 1 ≤ k ∧ k ≤ 5) (hb : slot l n (blocks l) = some (b : Int)) :
    okB (tkL l k n) = true ∧ (b : Int) ∈ blocks (tkL l k n) ∧ kindOf (tkL l k n) b = k ∧ size (tkL l k n) b = ownN (size l b) n ∧ roomL (tkL l k n) = roomL l - size (tkL l k n) b ∧ (b : Int) ∈ blocks l ∧ kindOf l b = 0 ∧ n ≤ ownN (size l b) n ∧ ownN (size l b) n ≤ n + 1 := by
  obtain ⟨p, r, e, o1, o2, hget, s1, s2, h5, h6, s3⟩ := tk_all h hn (show 0 ≤ k ∧ k ≤ 5 by omega) hb
  have how : ownN (size l b) n ≤ size l b ∧ (size l b < n + 2 → ownN (size l b) n = size l b) ∧ (¬ size l b < n + 2 → ownN (size l b) n = n) := by
    unfold ownN; split <;> refine ⟨by omega, fun _ => by omega, fun _ => by omega⟩
  have hbn := how.1
  have g0 : (tkL l k n).getD b 0 = 8 * (ownN (size l b) n : Int) + k := by rw [hget, if_pos rfl]
  have z0 : size (tkL l k n) b = ownN (size l b) n := by
    have e1 : size (tkL l k n) b = ((tkL l k n).getD b 0 / 8).toNat := rfl
    rw [e1, g0]; omega
  have k0 : kindOf (tkL l k n) b = k := by unfold kindOf; rw [g0]; omega
  have hpp : ∀ x ∈ p, (tkL l k n).getD x.toNat 0 = l.getD x.toNat 0 := fun x hx => by
    obtain ⟨m, rfl, _, h7, _⟩ := sg_mem s1 x hx
    rw [Int.toNat_natCast, hget, if_neg (by omega), if_neg (by omega), if_neg (by omega)]
  have hrr : ∀ x ∈ r, (tkL l k n).getD x.toNat 0 = l.getD x.toNat 0 := fun x hx => by
    obtain ⟨m, rfl, h7, _⟩ := sg_mem s2 x hx
    rw [Int.toNat_natCast, hget, if_neg (by omega), if_neg (by omega), if_neg (by omega)]
  have hon : n ≤ ownN (size l b) n ∧ ownN (size l b) n ≤ n + 1 := by unfold ownN; split <;> omega
  refine ⟨o1, by rw [o2]; simp, k0, z0, ?_, by rw [e]; simp, h5, hon.1, hon.2⟩
  show rm _ (blocks _) = rm l (blocks l) - _
  rw [o2, e, rm_app, rm_app, rm_cons, rm_cons, Int.toNat_natCast, k0, h5, if_neg (by omega), if_pos rfl, rm_congr hpp, z0]
  have h8 : szI l b = size l b := by unfold szI; rw [Int.toNat_natCast]
  rw [h8]
  by_cases hc : size l b < n + 2
  · rw [if_pos hc, rm_congr hrr, how.2.1 hc]; omega
  · have g1 : (tkL l k n).getD (b + n) 0 = 8 * ((size l b : Int) - n) := by
      have := how.2.2 hc
      rw [hget, if_neg (by omega), if_neg (by omega), if_pos ⟨hc, rfl⟩]
    have k1 : kindOf (tkL l k n) (b + n) = 0 := by unfold kindOf; rw [g1]; omega
    have z1 : szI (tkL l k n) ((b + n : Nat) : Int) = (size l b : Int) - n := by
      unfold szI; rw [Int.toNat_natCast]
      have e1 : size (tkL l k n) (b + n) = ((tkL l k n).getD (b + n) 0 / 8).toNat := rfl
      rw [e1, g1]; omega
    rw [if_neg hc, rm_cons, Int.toNat_natCast, if_pos k1, z1, rm_congr hrr, how.2.2 hc]; omega
end Go.Proofs.YtfhkjhnaihhdmaaGreat.Pure
