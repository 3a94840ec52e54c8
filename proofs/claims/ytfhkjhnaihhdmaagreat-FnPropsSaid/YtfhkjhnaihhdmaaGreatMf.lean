/- Plain words: sweeping. Where blocks lie behind one that was given. No program in sight. -/
import Derived.Test.YtfhkjhnaihhdmaaGreatMA
set_option autoImplicit false
namespace Go.Proofs.YtfhkjhnaihhdmaaGreat.Pure
/-- The heads of blocks from one place to another. -/
def sg (l : List Int) : Nat → List Int → Nat → Prop
  | a, [], b => a = b
  | a, x :: p, b => x = a ∧ a < l.length ∧ headOk l a ∧ sg l (a + size l a) p b
theorem sg_walk {l : List Int} : ∀ {a : Nat} {p : List Int} {b : Nat} {r : List Int}, sg l a p b → walk l b = some r → walk l a = some (p ++ r)
  | a, [], b, r, h, hr => by obtain rfl : a = b := h; simpa using hr
  | a, x :: p, b, r, h, hr => by
    obtain ⟨rfl, h1, h2, h3⟩ := h
    rw [walk_step h1, if_pos h2, sg_walk h3 hr]; rfl
theorem sg_le {l : List Int} : ∀ {a : Nat} {p : List Int} {b : Nat}, sg l a p b → a ≤ b
  | a, [], b, h => by obtain rfl : a = b := h; omega
  | a, x :: p, b, h => by
    have := sg_le h.2.2.2; omega
theorem sg_app {l : List Int} : ∀ {a : Nat} {p : List Int} {b : Nat} {q : List Int} {c : Nat}, sg l a p b → sg l b q c → sg l a (p ++ q) c
  | a, [], b, q, c, h, hq => by obtain rfl : a = b := h; simpa using hq
  | a, x :: p, b, q, c, h, hq => ⟨h.1, h.2.1, h.2.2.1, sg_app h.2.2.2 hq⟩
theorem sg_cut {l : List Int} : ∀ {p : List Int} {q : List Int} {a c : Nat}, sg l a (p ++ q) c → ∃ b, sg l a p b ∧ sg l b q c
  | [], q, a, c, h => ⟨a, rfl, h⟩
  | x :: p, q, a, c, h => by
    obtain ⟨h1, h2, h3, h4⟩ := h
    obtain ⟨b, hb, hc⟩ := sg_cut h4
    exact ⟨b, ⟨h1, h2, h3, hb⟩, hc⟩
theorem headOk_congr {l m : List Int} {a : Nat} (h : m.getD a 0 = l.getD a 0) (hl : m.length = l.length) : headOk m a ↔ headOk l a := by
  unfold headOk; rw [h, hl]
theorem sg_congr {l m : List Int} (hl : m.length = l.length) : ∀ {a : Nat} {p : List Int} {b : Nat}, sg l a p b → (∀ x : Nat, x < b → m.getD x 0 = l.getD x 0) → sg m a p b
  | a, [], b, h, _ => h
  | a, x :: p, b, h, hx => by
    obtain ⟨h1, h2, h3, h4⟩ := h
    have hle := sg_le h4
    have hs := size_pos h3
    have he := hx a (by omega)
    refine ⟨h1, by omega, (headOk_congr he hl).2 h3, ?_⟩
    have : size m a = size l a := by unfold size; rw [he]
    rw [this]
    exact sg_congr hl h4 hx
theorem sg_of {l : List Int} (d : Nat) : ∀ {a : Nat} {r : List Int}, l.length - a ≤ d → a ≤ l.length → walk l a = some r → sg l a r l.length := by
  induction d with
  | zero =>
    intro a r hd ha hr
    rw [walk_end (by omega)] at hr
    obtain rfl := Option.some.inj hr
    show a = l.length
    omega
  | succ d ih =>
    intro a r hd ha hr
    by_cases h : a < l.length
    · rw [walk_step h] at hr
      by_cases hh : headOk l a
      · have hs := size_pos hh
        rw [if_pos hh, Option.map_eq_some_iff] at hr
        obtain ⟨r', hr', rfl⟩ := hr
        exact ⟨rfl, h, hh, ih (by omega) hs.2 hr'⟩
      · rw [if_neg hh] at hr; cases hr
    · rw [walk_end (by omega)] at hr
      obtain rfl := Option.some.inj hr
      show a = l.length
      omega
theorem walk_of_sg {l : List Int} {a : Nat} {r : List Int} (h : sg l a r l.length) : walk l a = some r := by
  have := sg_walk h (walk_end (l := l) (a := l.length) (by omega))
  simpa using this
theorem sg_congr_r {l m : List Int} (hl : m.length = l.length) : ∀ {a : Nat} {p : List Int} {b : Nat}, sg l a p b → (∀ x : Nat, a ≤ x → m.getD x 0 = l.getD x 0) → sg m a p b
  | a, [], b, h, _ => h
  | a, x :: p, b, h, hx => by
    obtain ⟨h1, h2, h3, h4⟩ := h
    have he := hx a (by omega)
    refine ⟨h1, by omega, (headOk_congr he hl).2 h3, ?_⟩
    have : size m a = size l a := by unfold size; rw [he]
    rw [this]
    exact sg_congr_r hl h4 (fun x hx' => hx x (by omega))
theorem sg_blocks {l : List Int} (h : okB l = true) : sg l 0 (blocks l) l.length := sg_of l.length (by omega) (by omega) (blocks_of h).2
theorem sg_okB {l r : List Int} (h : sg l 0 r l.length) (hl : l.length ≤ 2000) : okB l = true ∧ blocks l = r := by
  have hw := walk_of_sg h
  unfold okB blocks
  rw [hw, if_pos hl]
  exact ⟨by simpa using hl, rfl⟩
/-- A block, the heads ahead of it and those behind. -/
theorem sg_split {l : List Int} (h : okB l = true) {a : Nat} (ha : (a : Int) ∈ blocks l) : ∃ p r, blocks l = p ++ (a : Int) :: r ∧ sg l 0 p a ∧ sg l (a + size l a) r l.length ∧ headOk l a ∧ a < l.length := by
  obtain ⟨p, r, e⟩ := List.append_of_mem ha
  have hs := sg_blocks h
  rw [e] at hs
  obtain ⟨b, h1, h2⟩ := sg_cut hs
  obtain ⟨h3, h4, h5, h6⟩ := h2
  obtain rfl : a = b := by omega
  exact ⟨p, r, e, h1, h6, h5, h4⟩
theorem free_lt {l : List Int} {f t x : Nat} (hf : f ≤ l.length) (hx : x < f) : (free l f t).getD x 0 = l.getD x 0 := by
  unfold free
  rw [List.getD_eq_getElem?_getD, List.getD_eq_getElem?_getD, List.getElem?_set_ne (by omega), List.getElem?_append_left (by simp; omega), List.getElem?_append_left (by simp; omega), List.getElem?_take_of_lt hx]
theorem free_ge {l : List Int} {f t x : Nat} (hft : f < t) (ht : t ≤ l.length) (hx : t ≤ x) : (free l f t).getD x 0 = l.getD x 0 := by
  unfold free
  rw [List.getD_eq_getElem?_getD, List.getD_eq_getElem?_getD, List.getElem?_set_ne (by omega), List.getElem?_append_right (by simp; omega), List.getElem?_drop]
  congr 2
  simp; omega
theorem free_at {l : List Int} {f t : Nat} (hft : f < t) (ht : t ≤ l.length) : (free l f t).getD f 0 = 8 * ((t : Int) - f) := by
  have := free_len l f t (by omega) ht
  unfold free at this ⊢
  rw [List.getD_eq_getElem?_getD, List.getElem?_set_self (by rw [List.length_set] at this; omega)]
  rfl
/-- What is freed from a block's head on to another one's, or to the end. -/
theorem free_sg {l p r : List Int} {f t : Nat} (hl : l.length ≤ 2000) (hp : sg l 0 p f) (hr : sg l t r l.length) (hft : f + 2 ≤ t) :
    okB (free l f t) = true ∧ blocks (free l f t) = p ++ (f : Int) :: r ∧ size (free l f t) f = t - f ∧ (free l f t).length = l.length := by
  have ht := sg_le hr
  have hlen := free_len l f t (by omega) ht
  have hat := free_at (show f < t by omega) ht
  have hsz : size (free l f t) f = t - f := by unfold size; rw [hat]; omega
  have h1 : sg (free l f t) 0 p f := sg_congr hlen hp (fun x hx => free_lt (by omega) hx)
  have h2 : sg (free l f t) t r (free l f t).length := by rw [hlen]; exact sg_congr_r hlen hr (fun x hx => free_ge (by omega) ht hx)
  have h3 : sg (free l f t) 0 (p ++ (f : Int) :: r) (free l f t).length := by
    refine sg_app h1 ⟨rfl, by omega, ?_, by rw [hsz, show f + (t - f) = t by omega]; exact h2⟩
    unfold headOk; rw [hat, hlen]; omega
  obtain ⟨h4, h5⟩ := sg_okB h3 (by omega)
  exact ⟨h4, h5, hsz, hlen⟩
theorem gto_sg {l : List Int} (h : okB l = true) {a : Nat} (ha : (a : Int) ∈ blocks l) : ∃ r, sg l (gto l a) r l.length := by
  obtain ⟨p, r, e, h1, h2, h3, h4⟩ := sg_split h ha
  unfold gto
  split
  · rename_i hc
    cases r with
    | nil => have : a + size l a = l.length := h2; omega
    | cons x r => exact ⟨r, h2.2.2.2⟩
  · exact ⟨r, h2⟩
theorem gfr_sg {l : List Int} (h : okB l = true) {a : Nat} (ha : (a : Int) ∈ blocks l) : ∃ (f : Nat) (p : List Int), gfr l a a (blocks l) = f ∧ f ≤ a ∧ sg l 0 p f := by
  rcases gfr_at (a := (a : Int)) l.length (a : Int) (by omega) (blocks_of h).2 ha with ⟨h1, h2⟩ | ⟨j, h1, h2, h3⟩
  · obtain ⟨p, r, e, h3, _⟩ := sg_split h ha
    exact ⟨a, p, h2, by omega, h3⟩
  · by_cases hk : kindOf l ((blocks l).getD j 0).toNat = 0
    · rw [if_pos hk] at h3
      have hm : (blocks l).getD j 0 ∈ blocks l := by
        have hj : j < (blocks l).length := by omega
        have : (blocks l).getD j 0 = (blocks l)[j] := by simp [List.getD, hj]
        rw [this]; exact List.getElem_mem _
      obtain ⟨f, hf, _, _⟩ := blocks_mem hm
      have hlt := sorted_getD (blocks_sorted l) (show j < j + 1 by omega) h1
      rw [hf] at hm hlt h3
      obtain ⟨p, r, e, h4, _⟩ := sg_split h hm
      exact ⟨f, p, h3, by omega, h4⟩
    · rw [if_neg hk] at h3
      obtain ⟨p, r, e, h4, _⟩ := sg_split h ha
      exact ⟨a, p, h3, by omega, h4⟩
/-- What is given: the block's room is one with free room about it. -/
theorem give_at {l : List Int} (h : okB l = true) {a : Nat} (ha : (a : Int) ∈ blocks l) (hk : kindOf l a ≠ 0) : okB (give l a) = true ∧ (give l a).length = l.length ∧ a < gto l a ∧
    (gto l a = (give l a).length ∨ ((gto l a : Nat) : Int) ∈ blocks (give l a)) ∧ ∃ f : Nat, (f : Int) ∈ blocks (give l a) ∧ f ≤ a ∧ f + size (give l a) f = gto l a := by
  obtain ⟨f, p, hf, hfa, hp⟩ := gfr_sg h ha
  obtain ⟨r, hr⟩ := gto_sg h ha
  have hg := gto_le ha
  have e : give l a = free l f (gto l a) := by
    rw [give, if_pos ⟨ha, by rw [Int.toNat_natCast]; exact hk⟩, Int.toNat_natCast, hf, Int.toNat_natCast]
  obtain ⟨h1, h2, h3, h4⟩ := free_sg (blocks_of h).1 hp hr (by omega)
  rw [e]
  refine ⟨h1, h4, by omega, ?_, f, by rw [h2]; simp, hfa, by omega⟩
  cases r with
  | nil => left; have : gto l a = l.length := hr; omega
  | cons x r => right; obtain ⟨rfl, _⟩ := hr; rw [h2]; simp
/-- The block behind one. -/
theorem next_at {l : List Int} (h : okB l = true) {a : Nat} (ha : (a : Int) ∈ blocks l) : a + size l a = l.length ∨ ((a + size l a : Nat) : Int) ∈ blocks l := by
  obtain ⟨p, r, e, h1, h2, h3, h4⟩ := sg_split h ha
  cases r with
  | nil => exact .inl h2
  | cons x r => right; obtain ⟨rfl, _⟩ := h2; rw [e]; simp
/-- One step of sweeping. -/
def swp (b : List Int) (s : List Int × Nat) : List Int × Nat := if kindOf s.1 s.2 ≠ 0 ∧ (s.2 : Int) ∉ b then (give s.1 s.2, gto s.1 s.2) else (s.1, s.2 + size s.1 s.2)
def runS (b : List Int) : Nat → List Int × Nat → List Int × Nat
  | 0, s => s
  | n + 1, s => if s.2 < s.1.length then runS b n (swp b s) else s
/-- Where sweeping may be. -/
def SwAt (s : List Int × Nat) : Prop := okB s.1 = true ∧ (s.2 = s.1.length ∨ (s.2 : Int) ∈ blocks s.1)
theorem SwAt.mem {s : List Int × Nat} (h : SwAt s) (ha : s.2 < s.1.length) : (s.2 : Int) ∈ blocks s.1 := by
  rcases h.2 with e | e
  · omega
  · exact e
theorem SwAt.le {s : List Int × Nat} (h : SwAt s) : s.2 ≤ s.1.length := by
  rcases h.2 with e | e
  · omega
  · obtain ⟨n, e1, e2, _⟩ := blocks_mem e
    omega
theorem SwAt.swp {s : List Int × Nat} (h : SwAt s) (ha : s.2 < s.1.length) (b : List Int) : SwAt (swp b s) ∧ (Pure.swp b s).1.length = s.1.length := by
  have hm := h.mem ha
  unfold Pure.swp
  split
  · rename_i hc
    obtain ⟨h1, h2, h3, h4, _⟩ := give_at h.1 hm hc.1
    exact ⟨⟨h1, h4⟩, h2⟩
  · exact ⟨⟨h.1, next_at h.1 hm⟩, rfl⟩
theorem SwAt.run {b : List Int} : ∀ (n : Nat) {s : List Int × Nat}, SwAt s → SwAt (runS b n s) ∧ (runS b n s).1.length = s.1.length
  | 0, s, h => ⟨h, rfl⟩
  | n + 1, s, h => by
    unfold runS
    split
    · rename_i hc
      obtain ⟨h1, h2⟩ := h.swp hc b
      obtain ⟨h3, h4⟩ := SwAt.run (b := b) n h1
      exact ⟨h3, h4.trans h2⟩
    · exact ⟨h, rfl⟩
theorem runS_stop (b : List Int) (n : Nat) {s : List Int × Nat} (h : ¬ s.2 < s.1.length) : runS b n s = s := by
  cases n with
  | zero => rfl
  | succ n => rw [runS, if_neg h]
end Go.Proofs.YtfhkjhnaihhdmaaGreat.Pure
