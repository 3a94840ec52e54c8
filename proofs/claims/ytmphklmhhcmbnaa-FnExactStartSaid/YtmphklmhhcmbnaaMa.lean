/- Plain words on a slab's list of numbers: its blocks. No program in sight. -/
import Derived.RowKit
namespace Go.Proofs.Ytmphklmhhcmbnaa.Pure

/-- A first word at a place: a size that fits, and a kind. -/
def headOk (l : List Int) (a : Nat) : Prop := 2 ≤ l.getD a 0 / 8 ∧ l.getD a 0 / 8 ≤ (l.length : Int) - a ∧ l.getD a 0 % 8 ≤ 5
instance (l : List Int) (a : Nat) : Decidable (headOk l a) := by unfold headOk; infer_instance
/-- How many words the block at a place has. -/
def size (l : List Int) (a : Nat) : Nat := (l.getD a 0 / 8).toNat
/-- Its kind. -/
def kindOf (l : List Int) (a : Nat) : Int := l.getD a 0 % 8

/-- The places of the blocks from a place on; none where they are no blocks. -/
def bl (l : List Int) : Nat → Nat → Option (List Int)
  | 0, a => if a < l.length then none else some []
  | d + 1, a => if a < l.length then (if headOk l a then (bl l d (a + size l a)).map (fun r => (a : Int) :: r) else none) else some []

theorem size_pos {l : List Int} {a : Nat} (h : headOk l a) : 2 ≤ size l a ∧ a + size l a ≤ l.length := by
  unfold headOk at h
  unfold size
  omega

theorem bl_end (l : List Int) (d a : Nat) (h : l.length ≤ a) : bl l d a = some [] := by
  cases d <;> (unfold bl; rw [if_neg (by omega)])

/-- More than enough changes nothing. -/
theorem bl_more (l : List Int) (d : Nat) : ∀ (e a : Nat), l.length - a ≤ d → d ≤ e → bl l e a = bl l d a := by
  induction d with
  | zero => intro e a h _; rw [bl_end l e a (by omega), bl_end l 0 a (by omega)]
  | succ d ih =>
    intro e a h he
    obtain ⟨e, rfl⟩ : ∃ m, e = m + 1 := ⟨e - 1, by omega⟩
    unfold bl
    split
    · split
      · rename_i h1 h2
        have := size_pos h2
        rw [ih e _ (by omega) (by omega)]
      · rfl
    · rfl

/-- The blocks of a slab, if it is one. -/
def walk (l : List Int) (a : Nat) : Option (List Int) := bl l l.length a
theorem walk_of {l : List Int} {d a : Nat} (h : l.length - a ≤ d) : bl l d a = walk l a := by
  unfold walk
  rcases Nat.le_total d l.length with h1 | h1
  · exact (bl_more l d _ a h h1).symm
  · exact bl_more l l.length d a (by omega) h1
theorem walk_end {l : List Int} {a : Nat} (h : l.length ≤ a) : walk l a = some [] := bl_end l _ a h
theorem walk_step {l : List Int} {a : Nat} (h : a < l.length) : walk l a = if headOk l a then (walk l (a + size l a)).map (fun r => (a : Int) :: r) else none := by
  have e : walk l a = bl l (l.length + 1) a := (walk_of (by omega)).symm
  rw [e]
  show (if a < l.length then (if headOk l a then (bl l l.length (a + size l a)).map (fun r => (a : Int) :: r) else none) else some []) = _
  rw [if_pos h]
  rfl

def okB (l : List Int) : Bool := decide (l.length ≤ 2000) && (walk l 0).isSome
/-- The places of all blocks; nothing where it is no slab. -/
def blocks (l : List Int) : List Int := if l.length ≤ 2000 then (walk l 0).getD [] else []

theorem bl_mem (l : List Int) (d : Nat) : ∀ (a : Nat) (r : List Int), bl l d a = some r → ∀ x ∈ r, ∃ n : Nat, x = n ∧ a ≤ n ∧ n < l.length ∧ headOk l n := by
  induction d with
  | zero =>
    intro a r hr x hx
    unfold bl at hr
    split at hr
    · cases hr
    · obtain rfl := Option.some.inj hr
      simp at hx
  | succ d ih =>
    intro a r hr x hx
    unfold bl at hr
    split at hr
    · rename_i h1
      split at hr
      · rename_i hh
        have hs := size_pos hh
        rw [Option.map_eq_some_iff] at hr
        obtain ⟨r', hr', rfl⟩ := hr
        rcases List.mem_cons.1 hx with rfl | hx
        · exact ⟨a, rfl, Nat.le_refl _, h1, hh⟩
        · obtain ⟨n, e, h2, h3, h4⟩ := ih _ r' hr' x hx
          exact ⟨n, e, by omega, h3, h4⟩
      · cases hr
    · obtain rfl := Option.some.inj hr
      simp at hx

theorem blocks_mem {l : List Int} {x : Int} (h : x ∈ blocks l) : ∃ n : Nat, x = n ∧ n < l.length ∧ headOk l n := by
  unfold blocks at h
  split at h
  · cases hw : walk l 0 with
    | none => rw [hw] at h; simp at h
    | some r =>
      rw [hw] at h
      obtain ⟨n, e, _, h2, h3⟩ := bl_mem l _ 0 r hw x h
      exact ⟨n, e, h2, h3⟩
  · simp at h

theorem bl_sorted (l : List Int) (d : Nat) : ∀ (a : Nat) (r : List Int), bl l d a = some r → r.Pairwise (· < ·) := by
  induction d with
  | zero =>
    intro a r hr
    unfold bl at hr
    split at hr
    · cases hr
    · obtain rfl := Option.some.inj hr
      exact List.Pairwise.nil
  | succ d ih =>
    intro a r hr
    unfold bl at hr
    split at hr
    · split at hr
      · rename_i hh
        have hs := size_pos hh
        rw [Option.map_eq_some_iff] at hr
        obtain ⟨r', hr', rfl⟩ := hr
        refine List.Pairwise.cons (fun x hx => ?_) (ih _ r' hr')
        obtain ⟨n, e, h2, _, _⟩ := bl_mem l d _ r' hr' x hx
        omega
      · cases hr
    · obtain rfl := Option.some.inj hr
      exact List.Pairwise.nil

theorem blocks_sorted (l : List Int) : (blocks l).Pairwise (· < ·) := by
  unfold blocks
  split
  · cases hw : walk l 0 with
    | none => exact List.Pairwise.nil
    | some r => exact bl_sorted l _ 0 r hw
  · exact List.Pairwise.nil

theorem blocks_of {l : List Int} (h : okB l = true) : l.length ≤ 2000 ∧ walk l 0 = some (blocks l) := by
  unfold okB at h
  rw [Bool.and_eq_true, decide_eq_true_eq] at h
  obtain ⟨r, hr⟩ := Option.isSome_iff_exists.1 h.2
  refine ⟨h.1, ?_⟩
  unfold blocks
  rw [if_pos h.1, hr]
  rfl

theorem blocks_not {l : List Int} (h : ¬ okB l = true) : blocks l = [] := by
  unfold blocks
  unfold okB at h
  split
  · cases hw : walk l 0 with
    | none => rfl
    | some r => rw [hw] at h; simp at h; omega
  · rfl

theorem blocks_le {l : List Int} {x : Int} (h : x ∈ blocks l) : l.length ≤ 2000 := by
  unfold blocks at h
  split at h
  · assumption
  · simp at h

end Go.Proofs.Ytmphklmhhcmbnaa.Pure
