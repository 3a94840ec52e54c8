/- Merged: Ma Mb Mc Md Me. -/
import Derived.RowKit
/- Plain words on a slab's list of numbers: its blocks. No program in sight. -/
namespace Go.Proofs.YtmphklmhhcmbnaaDoor.Pure

/-- A first word at a place: a size that fits, and a kind. -/
def headOk (l : List Int) (a : Nat) : Prop := 2 ≤ l.getD a 0 / 8 ∧ l.getD a 0 / 8 ≤ (l.length : Int) - a ∧ l.getD a 0 % 8 ≤ 5
instance (l : List Int) (a : Nat) : Decidable (headOk l a) := by unfold headOk; infer_instance
/-- How many words the block at a place has. -/
def size (l : List Int) (a : Nat) : Nat := (l.getD a 0 / 8).toNat
/-- Its kind. -/
def kindOf (l : List Int) (a : Nat) : Int := l.getD a 0 % 8

/-- The places of the blocks from a place on; none where they are no blocks. -/
def bl (l : List Int) : Nat → Nat → Option (List Int)
  | 0, a => if a < l.length then none else some []
  | d + 1, a => if a < l.length then (if headOk l a then (bl l d (a + size l a)).map (fun r => (a : Int) :: r) else none) else some []

theorem size_pos {l : List Int} {a : Nat} (h : headOk l a) : 2 ≤ size l a ∧ a + size l a ≤ l.length := by
  unfold headOk at h
  unfold size
  omega

theorem bl_end (l : List Int) (d a : Nat) (h : l.length ≤ a) : bl l d a = some [] := by
  cases d <;> (unfold bl; rw [if_neg (by omega)])

/-- More than enough changes nothing. -/
theorem bl_more (l : List Int) (d : Nat) : ∀ (e a : Nat), l.length - a ≤ d → d ≤ e → bl l e a = bl l d a := by
  induction d with
  | zero => intro e a h _; rw [bl_end l e a (by omega), bl_end l 0 a (by omega)]
  | succ d ih =>
    intro e a h he
    obtain ⟨e, rfl⟩ : ∃ m, e = m + 1 := ⟨e - 1, by omega⟩
    unfold bl
    split
    · split
      · rename_i h1 h2
        have := size_pos h2
        rw [ih e _ (by omega) (by omega)]
      · rfl
    · rfl

/-- The blocks of a slab, if it is one. -/
def walk (l : List Int) (a : Nat) : Option (List Int) := bl l l.length a
theorem walk_of {l : List Int} {d a : Nat} (h : l.length - a ≤ d) : bl l d a = walk l a := by
  unfold walk
  rcases Nat.le_total d l.length with h1 | h1
  · exact (bl_more l d _ a h h1).symm
  · exact bl_more l l.length d a (by omega) h1
theorem walk_end {l : List Int} {a : Nat} (h : l.length ≤ a) : walk l a = some [] := bl_end l _ a h
theorem walk_step {l : List Int} {a : Nat} (h : a < l.length) : walk l a = if headOk l a then (walk l (a + size l a)).map (fun r => (a : Int) :: r) else none := by
  have e : walk l a = bl l (l.length + 1) a := (walk_of (by omega)).symm
  rw [e]
  show (if a < l.length then (if headOk l a then (bl l l.length (a + size l a)).map (fun r => (a : Int) :: r) else none) else some []) = _
  rw [if_pos h]
  rfl

def okB (l : List Int) : Bool := decide (l.length ≤ 2000) && (walk l 0).isSome
/-- The places of all blocks; nothing where it is no slab. -/
def blocks (l : List Int) : List Int := if l.length ≤ 2000 then (walk l 0).getD [] else []

theorem bl_mem (l : List Int) (d : Nat) : ∀ (a : Nat) (r : List Int), bl l d a = some r → ∀ x ∈ r, ∃ n : Nat, x = n ∧ a ≤ n ∧ n < l.length ∧ headOk l n := by
  induction d with
  | zero =>
    intro a r hr x hx
    unfold bl at hr
    split at hr
    · cases hr
    · obtain rfl := Option.some.inj hr
      simp at hx
  | succ d ih =>
    intro a r hr x hx
    unfold bl at hr
    split at hr
    · rename_i h1
      split at hr
      · rename_i hh
        have hs := size_pos hh
        rw [Option.map_eq_some_iff] at hr
        obtain ⟨r', hr', rfl⟩ := hr
        rcases List.mem_cons.1 hx with rfl | hx
        · exact ⟨a, rfl, Nat.le_refl _, h1, hh⟩
        · obtain ⟨n, e, h2, h3, h4⟩ := ih _ r' hr' x hx
          exact ⟨n, e, by omega, h3, h4⟩
      · cases hr
    · obtain rfl := Option.some.inj hr
      simp at hx

theorem blocks_mem {l : List Int} {x : Int} (h : x ∈ blocks l) : ∃ n : Nat, x = n ∧ n < l.length ∧ headOk l n := by
  unfold blocks at h
  split at h
  · cases hw : walk l 0 with
    | none => rw [hw] at h; simp at h
    | some r =>
      rw [hw] at h
      obtain ⟨n, e, _, h2, h3⟩ := bl_mem l _ 0 r hw x h
      exact ⟨n, e, h2, h3⟩
  · simp at h

theorem bl_sorted (l : List Int) (d : Nat) : ∀ (a : Nat) (r : List Int), bl l d a = some r → r.Pairwise (· < ·) := by
  induction d with
  | zero =>
    intro a r hr
    unfold bl at hr
    split at hr
    · cases hr
    · obtain rfl := Option.some.inj hr
      exact List.Pairwise.nil
  | succ d ih =>
    intro a r hr
    unfold bl at hr
    split at hr
    · split at hr
      · rename_i hh
        have hs := size_pos hh
        rw [Option.map_eq_some_iff] at hr
        obtain ⟨r', hr', rfl⟩ := hr
        refine List.Pairwise.cons (fun x hx => ?_) (ih _ r' hr')
        obtain ⟨n, e, h2, _, _⟩ := bl_mem l d _ r' hr' x hx
        omega
      · cases hr
    · obtain rfl := Option.some.inj hr
      exact List.Pairwise.nil

theorem blocks_sorted (l : List Int) : (blocks l).Pairwise (· < ·) := by
  unfold blocks
  split
  · cases hw : walk l 0 with
    | none => exact List.Pairwise.nil
    | some r => exact bl_sorted l _ 0 r hw
  · exact List.Pairwise.nil

theorem blocks_of {l : List Int} (h : okB l = true) : l.length ≤ 2000 ∧ walk l 0 = some (blocks l) := by
  unfold okB at h
  rw [Bool.and_eq_true, decide_eq_true_eq] at h
  obtain ⟨r, hr⟩ := Option.isSome_iff_exists.1 h.2
  refine ⟨h.1, ?_⟩
  unfold blocks
  rw [if_pos h.1, hr]
  rfl

theorem blocks_not {l : List Int} (h : ¬ okB l = true) : blocks l = [] := by
  unfold blocks
  unfold okB at h
  split
  · cases hw : walk l 0 with
    | none => rfl
    | some r => rw [hw] at h; simp at h; omega
  · rfl

theorem blocks_le {l : List Int} {x : Int} (h : x ∈ blocks l) : l.length ≤ 2000 := by
  unfold blocks at h
  split at h
  · assumption
  · simp at h

end Go.Proofs.YtmphklmhhcmbnaaDoor.Pure

/- Plain words: what is given back of a slab. No program in sight. -/
namespace Go.Proofs.YtmphklmhhcmbnaaDoor.Pure
theorem sorted_getD {l : List Int} (h : l.Pairwise (· < ·)) {i j : Nat} (hij : i < j) (hj : j < l.length) : l.getD i 0 < l.getD j 0 := by
  have := List.pairwise_iff_getElem.1 h i j (by omega) hj hij
  simpa [List.getD, show i < l.length by omega, hj] using this

/-- Where the free room begins that ends at a place; the place f where there is none. -/
def gfr (l : List Int) (a : Int) (f : Int) : List Int → Int
  | [] => f
  | b :: r => if b < a then gfr l a (if b + size l b.toNat = a ∧ kindOf l b.toNat = 0 then b else f) r else f
/-- Where the room ends that begins with the block at a place. -/
def gto (l : List Int) (a : Nat) : Nat := if a + size l a < l.length ∧ kindOf l (a + size l a) = 0 then a + size l a + size l (a + size l a) else a + size l a
/-- Free room from one place to another. -/
def free (l : List Int) (f t : Nat) : List Int := (l.take f ++ List.replicate (t - f) 0 ++ l.drop t).set f (8 * ((t : Int) - f))
def give (l : List Int) (a : Int) : List Int := if a ∈ blocks l ∧ kindOf l a.toNat ≠ 0 then free l (gfr l a a (blocks l)).toNat (gto l a.toNat) else l

theorem walk_next {l : List Int} (d : Nat) : ∀ {n a : Nat} {r : List Int}, l.length - n ≤ d → walk l n = some r → (a : Int) ∈ r → a + size l a < l.length → headOk l (a + size l a) := by
  induction d with
  | zero =>
    intro n a r hd hr hm _
    rw [walk_end (by omega)] at hr
    obtain rfl := Option.some.inj hr
    simp at hm
  | succ d ih =>
    intro n a r hd hr hm ht
    by_cases h : n < l.length
    · rw [walk_step h] at hr
      by_cases hh : headOk l n
      · have hs := size_pos hh
        rw [if_pos hh, Option.map_eq_some_iff] at hr
        obtain ⟨r', hr', rfl⟩ := hr
        rcases List.mem_cons.1 hm with e | hm
        · have e' : a = n := by omega
          subst e'
          rw [walk_step ht] at hr'
          by_cases h2 : headOk l (a + size l a)
          · exact h2
          · rw [if_neg h2] at hr'; cases hr'
        · exact ih (by omega) hr' hm ht
      · rw [if_neg hh] at hr; cases hr
    · rw [walk_end (by omega)] at hr
      obtain rfl := Option.some.inj hr
      simp at hm

theorem gfr_at {l : List Int} {a : Int} (d : Nat) : ∀ {n : Nat} {r : List Int} (f : Int), l.length - n ≤ d → walk l n = some r → a ∈ r →
    (r.getD 0 0 = a ∧ gfr l a f r = f) ∨ ∃ j, j + 1 < r.length ∧ r.getD (j + 1) 0 = a ∧ gfr l a f r = if kindOf l (r.getD j 0).toNat = 0 then r.getD j 0 else f := by
  induction d with
  | zero =>
    intro n r f hd hr hm
    rw [walk_end (by omega)] at hr
    obtain rfl := Option.some.inj hr
    simp at hm
  | succ d ih =>
    intro n r f hd hr hm
    by_cases h : n < l.length
    · rw [walk_step h] at hr
      by_cases hh : headOk l n
      · have hs := size_pos hh
        rw [if_pos hh, Option.map_eq_some_iff] at hr
        obtain ⟨r', hr', rfl⟩ := hr
        by_cases e : (n : Int) = a
        · left
          subst e
          refine ⟨rfl, ?_⟩
          unfold gfr
          rw [if_neg (by omega)]
        · have hm' : a ∈ r' := by
            rcases List.mem_cons.1 hm with e2 | e2
            · exact absurd e2.symm e
            · exact e2
          obtain ⟨q, hq, h1, h2, _⟩ := bl_mem l l.length _ r' hr' a hm'
          right
          have hg : gfr l a f ((n : Int) :: r') = gfr l a (if (n : Int) + size l n = a ∧ kindOf l n = 0 then (n : Int) else f) r' := by
            rw [gfr, if_pos (by omega), Int.toNat_natCast]
          rw [hg]
          have hlen : 0 < r'.length := List.length_pos_of_mem hm'
          have hhead : r'.getD 0 0 = ((n + size l n : Nat) : Int) := by
            have ht : n + size l n < l.length := by omega
            rw [walk_step ht] at hr'
            split at hr'
            · rw [Option.map_eq_some_iff] at hr'
              obtain ⟨r2, _, rfl⟩ := hr'
              rfl
            · cases hr'
          rcases ih (if (n : Int) + size l n = a ∧ kindOf l n = 0 then (n : Int) else f) (by omega) hr' hm' with ⟨h3, h4⟩ | ⟨j, h3, h4, h5⟩
          · refine ⟨0, by simpa using hlen, h3, ?_⟩
            rw [h4]
            have h6 : (n : Int) + size l n = a := by omega
            show _ = if kindOf l (n : Int).toNat = 0 then (n : Int) else f
            rw [Int.toNat_natCast]
            by_cases h7 : kindOf l n = 0
            · rw [if_pos ⟨h6, h7⟩, if_pos h7]
            · rw [if_neg (fun hc => h7 hc.2), if_neg h7]
          · have h6 : ¬ ((n : Int) + size l n = a) := by
              have := sorted_getD (bl_sorted l l.length _ r' hr') (show 0 < j + 1 by omega) h3
              omega
            rw [if_neg (fun hc => h6 hc.1)] at h5 ⊢
            exact ⟨j + 1, by simpa using h3, h4, h5⟩
      · rw [if_neg hh] at hr; cases hr
    · rw [walk_end (by omega)] at hr
      obtain rfl := Option.some.inj hr
      simp at hm

theorem gto_le {l : List Int} {a : Nat} (hm : (a : Int) ∈ blocks l) : a + 2 ≤ gto l a ∧ gto l a ≤ l.length := by
  obtain ⟨n, e, h1, h2⟩ := blocks_mem hm
  obtain rfl : a = n := by omega
  have hs := size_pos h2
  unfold gto
  split
  · rename_i h3
    have hok : okB l = true := by
      by_cases h : okB l = true
      · exact h
      · rw [blocks_not h] at hm; simp at hm
    have := size_pos (walk_next l.length (by omega) (blocks_of hok).2 hm h3.1)
    omega
  · omega


theorem free_len (l : List Int) (f t : Nat) (h : f ≤ t) (ht : t ≤ l.length) : (free l f t).length = l.length := by
  unfold free; simp; omega
end Go.Proofs.YtmphklmhhcmbnaaDoor.Pure

/- Plain words: chains of values, each come to once. No program in sight. -/
namespace Go.Proofs.YtmphklmhhcmbnaaDoor.Pure

/-- The values that a chain comes to, each once; whether it goes in a circle. -/
def chain (f : Int → Int) (stop : Int → Bool) : Nat → Int → List Int → List Int × Bool
  | 0, _, out => (out, true)
  | d + 1, v, out => if stop v = true then (out, false) else if v ∈ out then (out, true) else chain f stop d (f v) (out ++ [v])

theorem chain_pre (f : Int → Int) (stop : Int → Bool) : ∀ (d : Nat) (v : Int) (out : List Int), ∃ r, (chain f stop d v out).1 = out ++ r
  | 0, v, out => ⟨[], by simp [chain]⟩
  | d + 1, v, out => by
    unfold chain
    split
    · exact ⟨[], by simp⟩
    · split
      · exact ⟨[], by simp⟩
      · obtain ⟨r, hr⟩ := chain_pre f stop d (f v) (out ++ [v])
        exact ⟨v :: r, by rw [hr]; simp⟩

/-- A walk along a chain, on its way. -/
structure On (f : Int → Int) (stop : Int → Bool) (C : List Int × Bool) (d : Nat) (v : Int) (out : List Int) : Prop where
  run : chain f stop d v out = C
  nx : ∀ x ∈ out, f x ∈ out ++ [v]
  nd : out.Nodup
theorem On.step {f : Int → Int} {stop : Int → Bool} {C : List Int × Bool} {d : Nat} {v : Int} {out : List Int} (h : On f stop C (d + 1) v out) (hs : stop v = false) (hn : v ∉ out) : On f stop C d (f v) (out ++ [v]) where
  run := by
    have := h.run
    unfold chain at this
    rw [if_neg (by rw [hs]; decide), if_neg hn] at this
    exact this
  nx := fun x hx => by
    rcases List.mem_append.1 hx with hx | hx
    · exact List.mem_append_left _ (h.nx x hx)
    · obtain rfl : x = v := by simpa using hx
      simp
  nd := by
    rw [List.nodup_append]
    refine ⟨h.nd, by simp, fun x hx y hy e => ?_⟩
    obtain rfl : y = v := by simpa using hy
    exact hn (e ▸ hx)
theorem On.stop_ {f : Int → Int} {stop : Int → Bool} {C : List Int × Bool} {d : Nat} {v : Int} {out : List Int} (h : On f stop C (d + 1) v out) (hs : stop v = true) : C = (out, false) := by
  have := h.run
  unfold chain at this
  rw [if_pos hs] at this
  exact this.symm
theorem On.circle {f : Int → Int} {stop : Int → Bool} {C : List Int × Bool} {d : Nat} {v : Int} {out : List Int} (h : On f stop C (d + 1) v out) (hs : stop v = false) (hm : v ∈ out) : C = (out, true) ∧ ∀ x ∈ out, f x ∈ out := by
  have := h.run
  unfold chain at this
  rw [if_neg (by rw [hs]; decide), if_pos hm] at this
  refine ⟨this.symm, fun x hx => ?_⟩
  rcases List.mem_append.1 (h.nx x hx) with h1 | h1
  · exact h1
  · rw [List.mem_singleton.1 h1]; exact hm
theorem On.pre {f : Int → Int} {stop : Int → Bool} {C : List Int × Bool} {d : Nat} {v : Int} {out : List Int} (h : On f stop C d v out) : ∃ r, C.1 = out ++ r := by
  rw [← h.run]; exact chain_pre ..
theorem On.pre1 {f : Int → Int} {stop : Int → Bool} {C : List Int × Bool} {d : Nat} {v : Int} {out : List Int} (h : On f stop C (d + 1) v out) (hs : stop v = false) (hn : v ∉ out) : ∃ r, C.1 = out ++ v :: r := by
  obtain ⟨r, hr⟩ := (h.step hs hn).pre
  exact ⟨r, by rw [hr]; simp⟩
theorem on_start (f : Int → Int) (stop : Int → Bool) (d : Nat) (v : Int) : On f stop (chain f stop d v []) d v [] := ⟨rfl, fun x hx => by simp at hx, List.nodup_nil⟩

theorem nodup_len : ∀ (l m : List Int), l.Nodup → (∀ x ∈ l, x ∈ m) → l.length ≤ m.length
  | [], m, _, _ => by simp
  | a :: l, m, hn, hm => by
    obtain ⟨h1, h2⟩ := List.nodup_cons.1 hn
    have ha := hm a List.mem_cons_self
    have := nodup_len l (m.erase a) h2 fun x hx => (List.mem_erase_of_ne (show x ≠ a from fun e => h1 (e ▸ hx))).2 (hm x (List.mem_cons_of_mem _ hx))
    rw [List.length_erase_of_mem ha] at this
    have := List.length_pos_of_mem ha
    simp; omega
theorem map8_nodup {k : Int} : ∀ {out : List Int}, out.Nodup → (∀ x ∈ out, x % 8 = k) → (out.map (· / 8)).Nodup
  | [], _, _ => by simp
  | a :: out, hn, hk => by
    obtain ⟨h1, h2⟩ := List.nodup_cons.1 hn
    rw [List.map_cons, List.nodup_cons]
    refine ⟨fun hm => ?_, map8_nodup h2 fun x hx => hk x (List.mem_cons_of_mem _ hx)⟩
    obtain ⟨b, hb, e⟩ := List.mem_map.1 hm
    have e1 := hk a List.mem_cons_self
    have e2 := hk b (List.mem_cons_of_mem _ hb)
    have e : b / 8 = a / 8 := e
    have : b = a := by omega
    exact h1 (this ▸ hb)
theorem mem_map8 {k v : Int} {out : List Int} (hk : ∀ x ∈ out, x % 8 = k) (hv : v % 8 = k) : v / 8 ∈ out.map (· / 8) ↔ v ∈ out := by
  refine ⟨fun hm => ?_, fun h => List.mem_map.2 ⟨v, h, rfl⟩⟩
  obtain ⟨b, hb, e⟩ := List.mem_map.1 hm
  have e1 := hk b hb
  have e : b / 8 = v / 8 := e
  have : b = v := by omega
  exact this ▸ hb
theorem blocks_lt {l : List Int} {a : Int} (h : a ∈ blocks l) : (blocks l).length < l.length := by
  have key : ∀ (m : List Int) (a n : Int), m.Pairwise (· < ·) → (∀ x ∈ m, a ≤ x ∧ x < n) → a ≤ n → (m.length : Int) ≤ n - a := by
    intro m
    induction m with
    | nil => intro a n _ _ h; simp; omega
    | cons b m ih =>
      intro a n hs hm h
      have hb := hm b List.mem_cons_self
      obtain ⟨h1, h2⟩ := List.pairwise_cons.1 hs
      have := ih (b + 1) n h2 (fun x hx => ⟨by have := h1 x hx; omega, (hm x (List.mem_cons_of_mem _ hx)).2⟩) (by omega)
      simp; omega
  have h2 : ∀ x ∈ blocks l, 0 ≤ x ∧ x < (l.length : Int) - 1 := fun x hx => by
    obtain ⟨n, e, h1, hh⟩ := blocks_mem hx
    have := size_pos hh
    omega
  have := h2 a h
  have := key (blocks l) 0 ((l.length : Int) - 1) (blocks_sorted l) h2 (by omega)
  omega
/-- A chain of values of one kind that lead to blocks is shorter than the slab. -/
theorem chain_len {l out : List Int} {k : Int} (hn : out.Nodup) (hk : ∀ x ∈ out, x % 8 = k ∧ x / 8 ∈ blocks l) {a : Int} (h : a ∈ blocks l) : out.length < l.length := by
  have := nodup_len (out.map (· / 8)) (blocks l) (map8_nodup hn fun x hx => (hk x hx).1) fun x hx => by
    obtain ⟨b, hb, e⟩ := List.mem_map.1 hx
    exact e ▸ (hk b hb).2
  rw [List.length_map] at this
  have := blocks_lt h
  omega
end Go.Proofs.YtmphklmhhcmbnaaDoor.Pure

/- Plain words: what is taken of a slab. No program in sight. -/
namespace Go.Proofs.YtmphklmhhcmbnaaDoor.Pure

/-- The first free block of so many words. -/
def slot (l : List Int) (n : Int) : List Int → Option Int
  | [] => none
  | b :: r => if kindOf l b.toNat = 0 ∧ n ≤ size l b.toNat then some b else slot l n r
theorem slot_mem {l : List Int} {n b : Int} : ∀ {r : List Int}, slot l n r = some b → b ∈ r ∧ kindOf l b.toNat = 0 ∧ n ≤ size l b.toNat
  | [], h => by cases h
  | c :: r, h => by
    unfold slot at h
    split at h
    · rename_i h1
      obtain rfl := Option.some.inj h
      exact ⟨List.mem_cons_self, h1⟩
    · obtain ⟨h1, h2⟩ := slot_mem h
      exact ⟨List.mem_cons_of_mem _ h1, h2⟩
theorem slot_app {l : List Int} {n : Int} : ∀ (r s : List Int), (∀ b ∈ r, ¬ (kindOf l b.toNat = 0 ∧ n ≤ size l b.toNat)) → slot l n (r ++ s) = slot l n s
  | [], s, _ => rfl
  | c :: r, s, h => by
    rw [List.cons_append, slot, if_neg (h c List.mem_cons_self)]
    exact slot_app r s fun b hb => h b (List.mem_cons_of_mem _ hb)
/-- So many words a block gets. -/
def ownN (s : Nat) (n : Nat) : Nat := if s < n + 2 then s else n
/-- The rest of it, cut off. -/
def cutL (l : List Int) (b : Nat) (n : Nat) : List Int := if size l b < n + 2 then l else l.set (b + n) (8 * ((size l b : Int) - n))
def put (l : List Int) (b : Nat) (x : Int) (k : Nat) : List Int := (l.take b ++ List.replicate k 0 ++ l.drop (b + k)).set b x
def tkL (l : List Int) (k : Int) (n : Nat) : List Int := match slot l n (blocks l) with
  | some b => put (cutL l b.toNat n) b.toNat (8 * (ownN (size l b.toNat) n : Int) + k) (ownN (size l b.toNat) n)
  | none => l
def tkA (l : List Int) (n : Nat) : Int := (slot l n (blocks l)).getD 0
def tkO (l : List Int) (n : Nat) : Bool := (slot l n (blocks l)).isSome

theorem cutL_len (l : List Int) (b n : Nat) : (cutL l b n).length = l.length := by unfold cutL; split <;> simp
theorem put_len (l : List Int) (b : Nat) (x : Int) (k : Nat) (h : b + k ≤ l.length) : (put l b x k).length = l.length := by unfold put; simp; omega
theorem slot_at {l : List Int} {n : Nat} {b : Int} (h : slot l n (blocks l) = some b) : b ∈ blocks l ∧ 0 ≤ b ∧ b.toNat + ownN (size l b.toNat) n ≤ l.length ∧ n ≤ ownN (size l b.toNat) n ∧ l.length ≤ 2000 ∧ headOk l b.toNat ∧ kindOf l b.toNat = 0 ∧ n ≤ size l b.toNat := by
  obtain ⟨h1, h2, h3⟩ := slot_mem h
  obtain ⟨m, rfl, h4, h5⟩ := blocks_mem h1
  have := size_pos h5
  have hl := blocks_le h1
  rw [Int.toNat_natCast] at *
  refine ⟨h1, by omega, ?_, ?_, hl, h5, h2, by omega⟩ <;> (unfold ownN; split <;> omega)
theorem tkL_len (l : List Int) (k : Int) (n : Nat) : (tkL l k n).length = l.length := by
  unfold tkL
  split
  · rename_i b h
    have := slot_at h
    rw [put_len _ _ _ _ (by rw [cutL_len]; omega), cutL_len]
  · rfl
/-- Where something was taken: its place. -/
theorem tk_at {l : List Int} {n : Nat} (h : tkO l n = true) : 0 ≤ tkA l n ∧ tkA l n + n ≤ l.length ∧ tkA l n ∈ blocks l ∧ l.length ≤ 2000 := by
  unfold tkO at h
  obtain ⟨b, hb⟩ := Option.isSome_iff_exists.1 h
  have := slot_at hb
  unfold tkA
  rw [hb]
  exact ⟨this.2.1, by simp only [Option.getD_some]; omega, this.1, this.2.2.2.2.1⟩
theorem tk_no {l : List Int} {n : Nat} (k : Int) (h : tkO l n = false) : tkA l n = 0 ∧ tkL l k n = l := by
  unfold tkO at h
  have hb : slot l n (blocks l) = none := by simpa using h
  unfold tkA tkL
  rw [hb]
  exact ⟨rfl, rfl⟩
theorem set_app_cons {α : Type} (A B : List α) (x y : α) (i : Nat) (h : A.length = i) : (A ++ x :: B).set i y = A ++ y :: B := by
  subst h; simp
/-- The words of a block are cleared one by one, its first one ahead. -/
theorem put_step (l : List Int) (b : Nat) (x : Int) (k : Nat) (hb : b + k < l.length) (hk : 1 ≤ k) : (put l b x k).set (b + k) 0 = put l b x (k + 1) := by
  unfold put
  rw [List.set_comm _ _ (by omega)]
  congr 1
  rw [List.drop_eq_getElem_cons hb, set_app_cons _ _ _ _ _ (by simp; omega), List.replicate_succ']
  simp
  rfl
theorem put_one (l : List Int) (b : Nat) (x : Int) (hb : b < l.length) : l.set b x = put l b x 1 := by
  unfold put
  have : l.take b ++ List.replicate 1 0 ++ l.drop (b + 1) = l.set b 0 := by
    rw [List.set_eq_take_append_cons_drop, if_pos hb]; simp
  rw [this, List.set_set]
end Go.Proofs.YtmphklmhhcmbnaaDoor.Pure

/- Plain words: sums over blocks. No program in sight. -/
namespace Go.Proofs.YtmphklmhhcmbnaaDoor.Pure
def sm (f : Int → Int) : List Int → Int
  | [] => 0
  | a :: l => f a + sm f l
theorem sm_app (f : Int → Int) : ∀ l m : List Int, sm f (l ++ m) = sm f l + sm f m
  | [], m => by simp [sm]
  | a :: l, m => by rw [List.cons_append, sm, sm, sm_app f l m]; omega
theorem sm_take (f : Int → Int) (l : List Int) (i : Nat) (h : i < l.length) : sm f (l.take (i + 1)) = sm f (l.take i) + f (l.getD i 0) := by
  have e : l.take (i + 1) = l.take i ++ [l.getD i 0] := by
    rw [List.take_succ_eq_append_getElem h]
    simp [List.getD, h]
  rw [e, sm_app]; simp [sm]
theorem sm_le (f : Int → Int) : ∀ l : List Int, (∀ x ∈ l, 0 ≤ f x ∧ f x ≤ 2000) → 0 ≤ sm f l ∧ sm f l ≤ 2000 * l.length
  | [], _ => by simp [sm]
  | a :: l, h => by
    have h1 := h a List.mem_cons_self
    have h2 := sm_le f l fun x hx => h x (List.mem_cons_of_mem _ hx)
    simp only [sm, List.length_cons]
    omega
theorem sm_eq (f g : Int → Int) : ∀ l : List Int, (∀ x ∈ l, f x = g x) → sm f l = sm g l
  | [], _ => rfl
  | a :: l, h => by rw [sm, sm, h a List.mem_cons_self, sm_eq f g l fun x hx => h x (List.mem_cons_of_mem _ hx)]
theorem sm_add (f g : Int → Int) : ∀ l : List Int, sm (fun x => f x + g x) l = sm f l + sm g l
  | [] => by simp [sm]
  | a :: l => by rw [sm, sm, sm, sm_add f g l]; omega
theorem sm_zero : ∀ l : List Int, sm (fun _ => 0) l = 0
  | [] => rfl
  | a :: l => by rw [sm, sm_zero l]; rfl
theorem sm_one (f : Int → Int) (a : Int) : ∀ l : List Int, l.Nodup → a ∈ l → sm (fun x => if x = a then f x else 0) l = f a
  | [], _, h => by simp at h
  | b :: l, hn, h => by
    obtain ⟨h1, h2⟩ := List.nodup_cons.1 hn
    rw [sm]
    by_cases e : b = a
    · subst e
      rw [if_pos rfl, sm_eq _ (fun _ => 0) l fun x hx => if_neg fun e : x = b => h1 (e ▸ hx), sm_zero]
      omega
    · rw [if_neg e, sm_one f a l h2 (by
        rcases List.mem_cons.1 h with h | h
        · exact absurd h.symm e
        · exact h)]
      omega
/-- The sum over some of them is the sum over them. -/
theorem sm_in (f : Int → Int) (l : List Int) (hl : l.Nodup) : ∀ m : List Int, m.Nodup → (∀ x ∈ m, x ∈ l) → sm (fun x => if x ∈ m then f x else 0) l = sm f m
  | [], _, _ => by
    rw [sm_eq _ (fun _ => 0) l fun x _ => if_neg (by simp), sm_zero]; rfl
  | a :: m, hn, hm => by
    obtain ⟨h1, h2⟩ := List.nodup_cons.1 hn
    have ih := sm_in f l hl m h2 fun x hx => hm x (List.mem_cons_of_mem _ hx)
    rw [sm, ← ih, ← sm_one f a l hl (hm a List.mem_cons_self), ← sm_add]
    refine sm_eq _ _ l fun x _ => ?_
    by_cases e : x = a
    · subst e; simp [h1]
    · simp [e]
theorem blocks_nodup (l : List Int) : (blocks l).Nodup := (blocks_sorted l).imp fun h => by omega
def szI (l : List Int) (a : Int) : Int := size l a.toNat
theorem tile {l : List Int} : ∀ (d i : Nat) (r : List Int), l.length - i ≤ d → i ≤ l.length → walk l i = some r → sm (szI l) r = (l.length : Int) - i
  | 0, i, r, hd, hi, hr => by
    rw [walk_end (by omega)] at hr
    obtain rfl := Option.some.inj hr
    simp [sm]; omega
  | d + 1, i, r, hd, hi, hr => by
    by_cases h : i < l.length
    · rw [walk_step h] at hr
      by_cases hh : headOk l i
      · have hs := size_pos hh
        rw [if_pos hh, Option.map_eq_some_iff] at hr
        obtain ⟨r', hr', rfl⟩ := hr
        have := tile d _ r' (by omega) hs.2 hr'
        rw [sm, this, szI, Int.toNat_natCast]
        omega
      · rw [if_neg hh] at hr; cases hr
    · rw [walk_end (by omega)] at hr
      obtain rfl := Option.some.inj hr
      simp [sm]; omega
def roomL (l : List Int) : Int := sm (fun a => if kindOf l a.toNat = 0 then szI l a else 0) (blocks l)
def wasteL (l live : List Int) : Int := sm (fun a => if kindOf l a.toNat ≠ 0 ∧ a ∉ live then szI l a else 0) (blocks l)
theorem waste_eq {l live : List Int} (hok : okB l = true) (hn : live.Nodup) (hl : ∀ a ∈ live, a ∈ blocks l ∧ kindOf l a.toNat ≠ 0) : (l.length : Int) - roomL l - sm (szI l) live = wasteL l live := by
  have h1 := tile l.length 0 (blocks l) (by omega) (by omega) (blocks_of hok).2
  have h2 := sm_in (szI l) (blocks l) (blocks_nodup l) live hn fun x hx => (hl x hx).1
  have h3 : sm (szI l) (blocks l) = sm (fun a => (if kindOf l a.toNat = 0 then szI l a else 0) + ((if kindOf l a.toNat ≠ 0 ∧ a ∉ live then szI l a else 0) + (if a ∈ live then szI l a else 0))) (blocks l) := sm_eq _ _ _ fun a ha => by
    by_cases hk : kindOf l a.toNat = 0
    · have : a ∉ live := fun h => (hl a h).2 hk
      simp [hk, this]
    · by_cases hm : a ∈ live
      · simp [hk, hm]
      · simp [hk, hm]
  rw [sm_add, sm_add, h2] at h3
  unfold roomL wasteL
  omega
theorem szI_le {l : List Int} {a : Int} (h : a ∈ blocks l) : 0 ≤ szI l a ∧ szI l a ≤ 2000 := by
  obtain ⟨n, rfl, h1, h2⟩ := blocks_mem h
  have := size_pos h2
  have := blocks_le h
  unfold szI
  rw [Int.toNat_natCast]
  omega
end Go.Proofs.YtmphklmhhcmbnaaDoor.Pure
