/- For every slab the program's Room answers as the reference's, and leaves its argument as it was. No condition. -/
import Derived.Test.YtnmlddacgpmobaaPs1
import Derived.Test.YtnmlddacgpmobaaF4
namespace Go.Proofs.Ytnmlddacgpmobaa.Pure
open Go.RowKit Go.Proofs.Ytnmlddacgpmobaa.F Go.Proofs.YtnmlddacgpmobaaW.PrintWords Go.Proofs.YtnmlddacgpmobaaW.PrintLast Go.Proofs.YtnmlddacgpmobaaW.PrintMore Go.Proofs.YtnmlddacgpmobaaW.Hand
/-- How many words the free ones of some blocks have together. -/
def roomOf (l : List Int) : List Int → Int
  | [] => 0
  | b :: r => (if l.getD b.toNat 0 % 8 = 0 then l.getD b.toNat 0 / 8 else 0) + roomOf l r
theorem drop_cons {xs r : List Int} {b : Int} {i : Nat} (h : xs.drop i = b :: r) : i < xs.length ∧ xs.getD i 0 = b ∧ xs.drop (i + 1) = r := by
  have h1 : i < xs.length := by
    rcases Nat.lt_or_ge i xs.length with h1 | h1
    · exact h1
    · rw [List.drop_eq_nil_of_le h1] at h; cases h
  rw [List.drop_eq_getElem_cons h1] at h
  injection h with h2 h3
  exact ⟨h1, by simp [List.getD, h1, h2], h3⟩
theorem drop_nil {xs : List Int} {i : Nat} (h : xs.drop i = []) : xs.length ≤ i := List.drop_eq_nil_iff.1 h
theorem mem_of_drop {xs r : List Int} {b : Int} {i : Nat} (h : xs.drop i = b :: r) : b ∈ xs := List.mem_of_mem_drop (by rw [h]; exact List.mem_cons_self)

theorem spec_Room_l0 (l xs : List Int) (hx : ∀ x ∈ xs, ∃ n : Nat, x = n ∧ n < l.length ∧ headOk l n) (hl : l.length ≤ 2000) (hn : xs.length ≤ 2000) (r : List Int) : ∀ (i : Nat) (acc : Int), xs.drop i = r → 0 ≤ acc → acc + 2000 * r.length ≤ 100000000 →
    Ev (fun k => spec_Room.l0 k acc xs (i : Int) l) (acc + roomOf l r) := by
  induction r with
  | nil =>
    intro i acc hd h0 h1
    have := drop_nil hd
    refine ev_done fun k => ?_
    simp only [spec_Room.l0]
    rw [if_neg (by omega)]
    simp [roomOf]
  | cons b r ih =>
    intro i acc hd h0 h1
    obtain ⟨h2, h3, h4⟩ := drop_cons hd
    obtain ⟨n, rfl, h5, h6⟩ := hx b (mem_of_drop hd)
    have h7 := h6
    unfold headOk at h7
    rw [List.length_cons] at h1
    have e := ih (i + 1) (acc + (if l.getD n 0 % 8 = 0 then l.getD n 0 / 8 else 0)) h4 (by split <;> omega) (by split <;> omega)
    rw [show acc + roomOf l ((n : Int) :: r) = acc + (if l.getD n 0 % 8 = 0 then l.getD n 0 / 8 else 0) + roomOf l r by simp [roomOf, Int.add_assoc]]
    refine ev_step (f := fun k => spec_Room.l0 k (acc + (if l.getD n 0 % 8 = 0 then l.getD n 0 / 8 else 0)) xs ((i + 1 : Nat) : Int) l) (fun k => ?_) e
    simp only [spec_Room.l0, rd_nat, h3, spec_l2Kind.f, spec_l2Size.f, Option.bind_some, and_seven]
    rw [if_pos (by omega), if_pos (by omega), if_pos (by omega), if_pos (by omega), wrap_in (x := (i : Int) + 1) (by omega) (by omega)]
    by_cases h8 : l.getD n 0 % 8 = 0
    · rw [if_pos h8, if_pos h8, wrap_in (by omega) (by omega), Int.natCast_add]
      rfl
    · rw [if_neg h8, if_neg h8, Int.add_zero, Int.natCast_add]
      rfl

theorem impl_Room_l0 (l xs : List Int) (hx : ∀ x ∈ xs, ∃ n : Nat, x = n ∧ n < l.length ∧ headOk l n) (hl : l.length ≤ 2000) (hn : xs.length ≤ 2000) (r : List Int) : ∀ (i : Nat) (acc : Int), xs.drop i = r → 0 ≤ acc → acc + 2000 * r.length ≤ 100000000 →
    Ev (fun k => impl_Room.l0 k acc xs (xs.length : Int) (i : Int) l) (acc + roomOf l r) := by
  induction r with
  | nil =>
    intro i acc hd h0 h1
    have := drop_nil hd
    refine ev_done fun k => ?_
    simp only [impl_Room.l0]
    rw [if_neg (by omega)]
    simp [roomOf]
  | cons b r ih =>
    intro i acc hd h0 h1
    obtain ⟨h2, h3, h4⟩ := drop_cons hd
    obtain ⟨n, rfl, h5, h6⟩ := hx b (mem_of_drop hd)
    have h7 := h6
    unfold headOk at h7
    rw [List.length_cons] at h1
    have e := ih (i + 1) (acc + (if l.getD n 0 % 8 = 0 then l.getD n 0 / 8 else 0)) h4 (by split <;> omega) (by split <;> omega)
    rw [show acc + roomOf l ((n : Int) :: r) = acc + (if l.getD n 0 % 8 = 0 then l.getD n 0 / 8 else 0) + roomOf l r by simp [roomOf, Int.add_assoc]]
    refine ev_step (f := fun k => impl_Room.l0 k (acc + (if l.getD n 0 % 8 = 0 then l.getD n 0 / 8 else 0)) xs (xs.length : Int) ((i + 1 : Nat) : Int) l) (fun k => ?_) e
    simp only [impl_Room.l0, rd_nat, h3, and_seven]
    rw [if_pos (by omega), if_pos (by omega), if_pos (by omega), if_pos (by omega), if_pos (by omega), wrap_in (x := (i : Int) + 1) (by omega) (by omega)]
    by_cases h8 : l.getD n 0 % 8 = 0
    · rw [if_pos h8, if_pos h8, wrap_in (by omega) (by omega), Int.natCast_add]
      rfl
    · rw [if_neg h8, if_neg h8, Int.add_zero, Int.natCast_add]
      rfl

def room (l : List Int) : Int := roomOf l (blocks l)
theorem spec_Room_ev (l : List Int) (hl : l.length ≤ Lim) : Ev (fun k => spec_Room.f k l) (room l) := by
  unfold spec_Room.f
  refine ev_bind (spec_Blocks_ev l hl) ?_
  have hb := blocks_length l
  by_cases h : l.length ≤ 2000
  · have e := spec_Room_l0 l (blocks l) (fun x hx => blocks_mem hx) h hb (blocks l) 0 0 rfl (by omega) (by omega)
    rw [Int.zero_add] at e
    exact e
  · have e : blocks l = [] := by unfold blocks; rw [if_neg h]
    unfold room
    rw [e]
    refine ev_done fun k => ?_
    simp [spec_Room.l0, roomOf]
theorem impl_Room_ev (l : List Int) (hl : l.length ≤ Lim) : Ev (fun k => impl_Room.f k l) (room l) := by
  unfold impl_Room.f
  refine ev_bind (impl_Blocks_ev l hl) ?_
  have hb := blocks_length l
  by_cases h : l.length ≤ 2000
  · have e := impl_Room_l0 l (blocks l) (fun x hx => blocks_mem hx) h hb (blocks l) 0 0 rfl (by omega) (by omega)
    rw [Int.zero_add] at e
    exact e
  · have e : blocks l = [] := by unfold blocks; rw [if_neg h]
    unfold room
    rw [e]
    refine ev_done fun k => ?_
    simp [impl_Room.l0, roomOf]

def FnExactRoom_Pure : Prop := ∀ (l0_0 : List Int), l0_0.length ≤ 9223372036854775807 → (∀ x ∈ l0_0, (Lit.int .i64 x).wf = true) → ∃ k, laws_FnExactRoom.f k l0_0 = some true
theorem FnExactRoom : FnExactRoom_Pure := by
  intro l hl _
  refine Ev.rounds (r := true) ?_
  unfold laws_FnExactRoom.f
  refine sz_slab l hl fun hn => ?_
  refine ev_bind (toSlab_ev l hn) (ev_bind (spec_Room_ev l hn) (ev_bind (toSlab_ev l hn) (ev_bind (impl_Room_ev l hn) (ev_pos rfl (same_slab l hn (Ev.now _))))))
end Go.Proofs.Ytnmlddacgpmobaa.Pure
