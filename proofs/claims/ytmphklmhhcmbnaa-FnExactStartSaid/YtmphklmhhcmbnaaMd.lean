/- Plain words: what is taken of a slab. No program in sight. -/
import Derived.Test.YtmphklmhhcmbnaaMc
namespace Go.Proofs.Ytmphklmhhcmbnaa.Pure

/-- The first free block of so many words. -/
def slot (l : List Int) (n : Int) : List Int → Option Int
  | [] => none
  | b :: r => if kindOf l b.toNat = 0 ∧ n ≤ size l b.toNat then some b else slot l n r
theorem slot_mem {l : List Int} {n b : Int} : ∀ {r : List Int}, slot l n r = some b → b ∈ r ∧ kindOf l b.toNat = 0 ∧ n ≤ size l b.toNat
  | [], h => by cases h
  | c :: r, h => by
    unfold slot at h
    split at h
    · rename_i h1
      obtain rfl := Option.some.inj h
      exact ⟨List.mem_cons_self, h1⟩
    · obtain ⟨h1, h2⟩ := slot_mem h
      exact ⟨List.mem_cons_of_mem _ h1, h2⟩
theorem slot_app {l : List Int} {n : Int} : ∀ (r s : List Int), (∀ b ∈ r, ¬ (kindOf l b.toNat = 0 ∧ n ≤ size l b.toNat)) → slot l n (r ++ s) = slot l n s
  | [], s, _ => rfl
  | c :: r, s, h => by
    rw [List.cons_append, slot, if_neg (h c List.mem_cons_self)]
    exact slot_app r s fun b hb => h b (List.mem_cons_of_mem _ hb)
/-- So many words a block gets. -/
def ownN (s : Nat) (n : Nat) : Nat := if s < n + 2 then s else n
/-- The rest of it, cut off. -/
def cutL (l : List Int) (b : Nat) (n : Nat) : List Int := if size l b < n + 2 then l else l.set (b + n) (8 * ((size l b : Int) - n))
def put (l : List Int) (b : Nat) (x : Int) (k : Nat) : List Int := (l.take b ++ List.replicate k 0 ++ l.drop (b + k)).set b x
def tkL (l : List Int) (k : Int) (n : Nat) : List Int := match slot l n (blocks l) with
  | some b => put (cutL l b.toNat n) b.toNat (8 * (ownN (size l b.toNat) n : Int) + k) (ownN (size l b.toNat) n)
  | none => l
def tkA (l : List Int) (n : Nat) : Int := (slot l n (blocks l)).getD 0
def tkO (l : List Int) (n : Nat) : Bool := (slot l n (blocks l)).isSome

theorem cutL_len (l : List Int) (b n : Nat) : (cutL l b n).length = l.length := by unfold cutL; split <;> simp
theorem put_len (l : List Int) (b : Nat) (x : Int) (k : Nat) (h : b + k ≤ l.length) : (put l b x k).length = l.length := by unfold put; simp; omega
theorem slot_at {l : List Int} {n : Nat} {b : Int} (h : slot l n (blocks l) = some b) : b ∈ blocks l ∧ 0 ≤ b ∧ b.toNat + ownN (size l b.toNat) n ≤ l.length ∧ n ≤ ownN (size l b.toNat) n ∧ l.length ≤ 2000 ∧ headOk l b.toNat ∧ kindOf l b.toNat = 0 ∧ n ≤ size l b.toNat := by
  obtain ⟨h1, h2, h3⟩ := slot_mem h
  obtain ⟨m, rfl, h4, h5⟩ := blocks_mem h1
  have := size_pos h5
  have hl := blocks_le h1
  rw [Int.toNat_natCast] at *
  refine ⟨h1, by omega, ?_, ?_, hl, h5, h2, by omega⟩ <;> (unfold ownN; split <;> omega)
theorem tkL_len (l : List Int) (k : Int) (n : Nat) : (tkL l k n).length = l.length := by
  unfold tkL
  split
  · rename_i b h
    have := slot_at h
    rw [put_len _ _ _ _ (by rw [cutL_len]; omega), cutL_len]
  · rfl
/-- Where something was taken: its place. -/
theorem tk_at {l : List Int} {n : Nat} (h : tkO l n = true) : 0 ≤ tkA l n ∧ tkA l n + n ≤ l.length ∧ tkA l n ∈ blocks l ∧ l.length ≤ 2000 := by
  unfold tkO at h
  obtain ⟨b, hb⟩ := Option.isSome_iff_exists.1 h
  have := slot_at hb
  unfold tkA
  rw [hb]
  exact ⟨this.2.1, by simp only [Option.getD_some]; omega, this.1, this.2.2.2.2.1⟩
theorem tk_no {l : List Int} {n : Nat} (k : Int) (h : tkO l n = false) : tkA l n = 0 ∧ tkL l k n = l := by
  unfold tkO at h
  have hb : slot l n (blocks l) = none := by simpa using h
  unfold tkA tkL
  rw [hb]
  exact ⟨rfl, rfl⟩
theorem set_app_cons {α : Type} (A B : List α) (x y : α) (i : Nat) (h : A.length = i) : (A ++ x :: B).set i y = A ++ y :: B := by
  subst h; simp
/-- The words of a block are cleared one by one, its first one ahead. -/
theorem put_step (l : List Int) (b : Nat) (x : Int) (k : Nat) (hb : b + k < l.length) (hk : 1 ≤ k) : (put l b x k).set (b + k) 0 = put l b x (k + 1) := by
  unfold put
  rw [List.set_comm _ _ (by omega)]
  congr 1
  rw [List.drop_eq_getElem_cons hb, set_app_cons _ _ _ _ _ (by simp; omega), List.replicate_succ']
  simp
  rfl
theorem put_one (l : List Int) (b : Nat) (x : Int) (hb : b < l.length) : l.set b x = put l b x 1 := by
  unfold put
  have : l.take b ++ List.replicate 1 0 ++ l.drop (b + 1) = l.set b 0 := by
    rw [List.set_eq_take_append_cons_drop, if_pos hb]; simp
  rw [this, List.set_set]
end Go.Proofs.Ytmphklmhhcmbnaa.Pure
