/- Plain words: chains of values, each come to once. No program in sight. -/
import Derived.Test.YtmphklmhhcmbnaaMb
namespace Go.Proofs.Ytmphklmhhcmbnaa.Pure

/-- The values that a chain comes to, each once; whether it goes in a circle. -/
def chain (f : Int → Int) (stop : Int → Bool) : Nat → Int → List Int → List Int × Bool
  | 0, _, out => (out, true)
  | d + 1, v, out => if stop v = true then (out, false) else if v ∈ out then (out, true) else chain f stop d (f v) (out ++ [v])

theorem chain_pre (f : Int → Int) (stop : Int → Bool) : ∀ (d : Nat) (v : Int) (out : List Int), ∃ r, (chain f stop d v out).1 = out ++ r
  | 0, v, out => ⟨[], by simp [chain]⟩
  | d + 1, v, out => by
    unfold chain
    split
    · exact ⟨[], by simp⟩
    · split
      · exact ⟨[], by simp⟩
      · obtain ⟨r, hr⟩ := chain_pre f stop d (f v) (out ++ [v])
        exact ⟨v :: r, by rw [hr]; simp⟩

/-- A walk along a chain, on its way. -/
structure On (f : Int → Int) (stop : Int → Bool) (C : List Int × Bool) (d : Nat) (v : Int) (out : List Int) : Prop where
  run : chain f stop d v out = C
  nx : ∀ x ∈ out, f x ∈ out ++ [v]
  nd : out.Nodup
theorem On.step {f : Int → Int} {stop : Int → Bool} {C : List Int × Bool} {d : Nat} {v : Int} {out : List Int} (h : On f stop C (d + 1) v out) (hs : stop v = false) (hn : v ∉ out) : On f stop C d (f v) (out ++ [v]) where
  run := by
    have := h.run
    unfold chain at this
    rw [if_neg (by rw [hs]; decide), if_neg hn] at this
    exact this
  nx := fun x hx => by
    rcases List.mem_append.1 hx with hx | hx
    · exact List.mem_append_left _ (h.nx x hx)
    · obtain rfl : x = v := by simpa using hx
      simp
  nd := by
    rw [List.nodup_append]
    refine ⟨h.nd, by simp, fun x hx y hy e => ?_⟩
    obtain rfl : y = v := by simpa using hy
    exact hn (e ▸ hx)
theorem On.stop_ {f : Int → Int} {stop : Int → Bool} {C : List Int × Bool} {d : Nat} {v : Int} {out : List Int} (h : On f stop C (d + 1) v out) (hs : stop v = true) : C = (out, false) := by
  have := h.run
  unfold chain at this
  rw [if_pos hs] at this
  exact this.symm
theorem On.circle {f : Int → Int} {stop : Int → Bool} {C : List Int × Bool} {d : Nat} {v : Int} {out : List Int} (h : On f stop C (d + 1) v out) (hs : stop v = false) (hm : v ∈ out) : C = (out, true) ∧ ∀ x ∈ out, f x ∈ out := by
  have := h.run
  unfold chain at this
  rw [if_neg (by rw [hs]; decide), if_pos hm] at this
  refine ⟨this.symm, fun x hx => ?_⟩
  rcases List.mem_append.1 (h.nx x hx) with h1 | h1
  · exact h1
  · rw [List.mem_singleton.1 h1]; exact hm
theorem On.pre {f : Int → Int} {stop : Int → Bool} {C : List Int × Bool} {d : Nat} {v : Int} {out : List Int} (h : On f stop C d v out) : ∃ r, C.1 = out ++ r := by
  rw [← h.run]; exact chain_pre ..
theorem On.pre1 {f : Int → Int} {stop : Int → Bool} {C : List Int × Bool} {d : Nat} {v : Int} {out : List Int} (h : On f stop C (d + 1) v out) (hs : stop v = false) (hn : v ∉ out) : ∃ r, C.1 = out ++ v :: r := by
  obtain ⟨r, hr⟩ := (h.step hs hn).pre
  exact ⟨r, by rw [hr]; simp⟩
theorem on_start (f : Int → Int) (stop : Int → Bool) (d : Nat) (v : Int) : On f stop (chain f stop d v []) d v [] := ⟨rfl, fun x hx => by simp at hx, List.nodup_nil⟩

theorem nodup_len : ∀ (l m : List Int), l.Nodup → (∀ x ∈ l, x ∈ m) → l.length ≤ m.length
  | [], m, _, _ => by simp
  | a :: l, m, hn, hm => by
    obtain ⟨h1, h2⟩ := List.nodup_cons.1 hn
    have ha := hm a List.mem_cons_self
    have := nodup_len l (m.erase a) h2 fun x hx => (List.mem_erase_of_ne (show x ≠ a from fun e => h1 (e ▸ hx))).2 (hm x (List.mem_cons_of_mem _ hx))
    rw [List.length_erase_of_mem ha] at this
    have := List.length_pos_of_mem ha
    simp; omega
theorem map8_nodup {k : Int} : ∀ {out : List Int}, out.Nodup → (∀ x ∈ out, x % 8 = k) → (out.map (· / 8)).Nodup
  | [], _, _ => by simp
  | a :: out, hn, hk => by
    obtain ⟨h1, h2⟩ := List.nodup_cons.1 hn
    rw [List.map_cons, List.nodup_cons]
    refine ⟨fun hm => ?_, map8_nodup h2 fun x hx => hk x (List.mem_cons_of_mem _ hx)⟩
    obtain ⟨b, hb, e⟩ := List.mem_map.1 hm
    have e1 := hk a List.mem_cons_self
    have e2 := hk b (List.mem_cons_of_mem _ hb)
    have e : b / 8 = a / 8 := e
    have : b = a := by omega
    exact h1 (this ▸ hb)
theorem mem_map8 {k v : Int} {out : List Int} (hk : ∀ x ∈ out, x % 8 = k) (hv : v % 8 = k) : v / 8 ∈ out.map (· / 8) ↔ v ∈ out := by
  refine ⟨fun hm => ?_, fun h => List.mem_map.2 ⟨v, h, rfl⟩⟩
  obtain ⟨b, hb, e⟩ := List.mem_map.1 hm
  have e1 := hk b hb
  have e : b / 8 = v / 8 := e
  have : b = v := by omega
  exact this ▸ hb
theorem blocks_lt {l : List Int} {a : Int} (h : a ∈ blocks l) : (blocks l).length < l.length := by
  have key : ∀ (m : List Int) (a n : Int), m.Pairwise (· < ·) → (∀ x ∈ m, a ≤ x ∧ x < n) → a ≤ n → (m.length : Int) ≤ n - a := by
    intro m
    induction m with
    | nil => intro a n _ _ h; simp; omega
    | cons b m ih =>
      intro a n hs hm h
      have hb := hm b List.mem_cons_self
      obtain ⟨h1, h2⟩ := List.pairwise_cons.1 hs
      have := ih (b + 1) n h2 (fun x hx => ⟨by have := h1 x hx; omega, (hm x (List.mem_cons_of_mem _ hx)).2⟩) (by omega)
      simp; omega
  have h2 : ∀ x ∈ blocks l, 0 ≤ x ∧ x < (l.length : Int) - 1 := fun x hx => by
    obtain ⟨n, e, h1, hh⟩ := blocks_mem hx
    have := size_pos hh
    omega
  have := h2 a h
  have := key (blocks l) 0 ((l.length : Int) - 1) (blocks_sorted l) h2 (by omega)
  omega
/-- A chain of values of one kind that lead to blocks is shorter than the slab. -/
theorem chain_len {l out : List Int} {k : Int} (hn : out.Nodup) (hk : ∀ x ∈ out, x % 8 = k ∧ x / 8 ∈ blocks l) {a : Int} (h : a ∈ blocks l) : out.length < l.length := by
  have := nodup_len (out.map (· / 8)) (blocks l) (map8_nodup hn fun x hx => (hk x hx).1) fun x hx => by
    obtain ⟨b, hb, e⟩ := List.mem_map.1 hx
    exact e ▸ (hk b hb).2
  rw [List.length_map] at this
  have := blocks_lt h
  omega
end Go.Proofs.Ytmphklmhhcmbnaa.Pure
