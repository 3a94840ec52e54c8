/- A value as the program shows it: the same. -/
import Derived.Test.YtmphklmhhcmbnaaDoorPc
namespace Go.Proofs.YtmphklmhhcmbnaaDoorW.Ax
open Go Go.RowKit Go.Proofs Go.Proofs.YtmphklmhhcmbnaaDoor.Pure
set_option linter.unusedVariables false
set_option maxRecDepth 100000
/-- A block's place in a row of blocks. -/
def ixS (x : Int) : List Int → Nat → Nat
  | [], i => i
  | y :: l, i => if y = x then i else ixS x l (i + 1)
theorem atS_ix (x : Int) : ∀ (l : List Int) (i : Nat), x ∈ l → atS x l i = ⟨#[32, 64]⟩ ++ numeral (ixS x l i)
  | [], _, h => (by cases h)
  | y :: l, i, h => by
    unfold atS ixS
    by_cases e : y = x
    · rw [if_pos e, if_pos e]
    · rw [if_neg e, if_neg e]
      exact atS_ix x l (i + 1) (by rcases List.mem_cons.1 h with h | h; exact absurd h.symm e; exact h)
theorem ixS_le (x : Int) : ∀ (l : List Int) (i : Nat), ixS x l i ≤ i + l.length
  | [], i => by simp [ixS]
  | y :: l, i => by
    unfold ixS
    have := ixS_le x l (i + 1)
    rw [List.length_cons]
    split <;> omega
/-- A map of the places in a row. -/
def NumM (st : St) (m : Nat) (l : List Int) : Prop := m < st.n ∧ ∃ es, st.ob m = .map es ∧ ∀ x, x ∈ l → mget es x = some (I (ixS x l 0))
theorem NumM.ex {st st' : St} {m : Nat} {l : List Int} (h : NumM st m l) (e : Ex st st') : NumM st' m l := by
  obtain ⟨h1, es, h2, h3⟩ := h
  exact ⟨Nat.lt_of_lt_of_le h1 e.n, es, (e.ob m h1 fun h => h).trans h2, h3⟩
theorem seen_c (m : Nat) (l : List Int) (v : Int) (st : St) (ht : Tab Tryd.prog st) (hm : NumM st m l) (hl : l.length ≤ 1099511627776) (h0 : -9223372036854775808 ≤ v) (h1 : v ≤ 9223372036854775807) (hin : 4 ≤ v % 8 → v / 8 ∈ l) :
    ACalls Tryd.prog 21 [I v, .map m] st No (Pure1 (.str (valS l v)) st) := by
  obtain ⟨m1, es, m2, m3⟩ := hm
  refine ent (N := 28) Tryd.func21 rfl (by decide) rfl rfl rfl ?_
  refine crr (by kernel_rfl) rfl ?_   -- region 0
  refine c_seq ?_
  refine c_rs (by kernel_rfl) ?_   -- region 1
  refine sr 1 rfl ?_
  refine s_op rfl (o_pure loud_n rfl (iKind_c ..) ?_)
  refine s_end ?_
  refine c_block ?_
  refine crr (by kernel_rfl) rfl ?_   -- region 2
  refine c_if rfl (fun h8 => ?_) (fun h8 => ?_)
  · -- then
    have h8 : v % 8 = 0 := of_decide_eq_true h8
    refine crr (by kernel_rfl) rfl ?_   -- region 3
    exact c_ret (fr rfl ⟨by unfold valS; rw [if_pos h8], rfl⟩)
  · -- else
    have h8 : ¬ v % 8 = 0 := of_decide_eq_false h8
    refine crr (by kernel_rfl) rfl ?_   -- region 4
    refine c_if rfl (fun h10 => ?_) (fun h10 => ?_)
    · -- then
      have h10 : v % 8 = 1 := of_decide_eq_true h10
      refine crr (by kernel_rfl) rfl ?_   -- region 5
      exact c_ret (fr rfl ⟨by unfold valS; rw [if_neg h8, if_pos h10], rfl⟩)
    · -- else
      have h10 : ¬ v % 8 = 1 := of_decide_eq_false h10
      refine crr (by kernel_rfl) rfl ?_   -- region 6
      refine c_if rfl (fun h12 => ?_) (fun h12 => ?_)
      · -- then
        have h12 : v % 8 = 2 := of_decide_eq_true h12
        refine c_seq ?_
        refine c_rs (by kernel_rfl) ?_   -- region 7
        refine sr 1 rfl ?_
        refine s_op rfl (o_pure loud_n rfl (iNum_c ..) ?_)
        refine sra rfl ?_
        refine c_if rfl (fun h16 => ?_) (fun h16 => ?_)
        · -- then
          have h16 : v / 8 = 1 := of_decide_eq_true h16
          refine crr (by kernel_rfl) rfl ?_   -- region 8
          exact c_ret (fr rfl ⟨by unfold valS; rw [if_neg h8, if_neg h10, if_pos h12, if_pos h16], rfl⟩)
        · -- else
          have h16 : ¬ v / 8 = 1 := of_decide_eq_false h16
          refine c_skip ?_
          refine crr (by kernel_rfl) rfl ?_   -- region 9
          exact c_ret (fr rfl ⟨by unfold valS; rw [if_neg h8, if_neg h10, if_pos h12, if_neg h16], rfl⟩)
      · -- else
        have h12 : ¬ v % 8 = 2 := of_decide_eq_false h12
        refine crr (by kernel_rfl) rfl ?_   -- region 10
        refine c_if rfl (fun h17 => ?_) (fun h17 => ?_)
        · -- then
          have h17 : v % 8 = 3 := of_decide_eq_true h17
          refine c_rs (by kernel_rfl) ?_   -- region 11
          refine sr 1 rfl ?_
          refine s_op rfl (o_pure loud_n rfl (iNum_c ..) ?_)
          refine s_op rfl (o_pure loud_n rfl (Itoa_c (v / 8) _ (by omega) (by omega) ht) ?_)
          refine s_op rfl (o_cat (s := ⟨#[32]⟩) rfl rfl (by have := numeral_size (v / 8) (by omega) (by omega); show 1 + (numeral (v / 8)).size ≤ _; omega) ?_)
          refine sra rfl ?_
          exact c_ret (fr rfl ⟨by unfold valS; rw [if_neg h8, if_neg h10, if_neg h12, if_pos h17], rfl⟩)
        · -- else
          have h17 : ¬ v % 8 = 3 := of_decide_eq_false h17
          have hi : v / 8 ∈ l := hin (by omega)
          have hle := ixS_le (v / 8) l 0
          have hv : valS l v = ⟨#[32, 64]⟩ ++ numeral (ixS (v / 8) l 0) := by unfold valS; rw [if_neg h8, if_neg h10, if_neg h12, if_neg h17, atS_ix _ _ _ hi]
          rw [hv]
          refine c_skip ?_
          refine c_rs (by kernel_rfl) ?_   -- region 12
          refine sr 2 rfl ?_
          refine s_op rfl (o_pure loud_n rfl (iNum_c ..) ?_)
          refine s_op rfl (omget (I 0) (.int .i64 0) rfl rfl rfl rfl (by kernel_rfl) (fun _ _ => rfl) rfl rfl m1 m2 (I (ixS (v / 8) l 0)) (by rw [m3 _ hi]; rfl) ?_)
          refine s_op rfl (o_pure loud_n rfl (Itoa_c (ixS (v / 8) l 0) _ (by omega) (by omega) ht) ?_)
          refine s_op rfl (o_cat (s := ⟨#[32, 64]⟩) rfl rfl (by have := numeral_size (ixS (v / 8) l 0) (by omega) (by omega); show 2 + (numeral (ixS (v / 8) l 0)).size ≤ _; omega) ?_)
          refine sra rfl ?_
          exact c_ret (fr rfl ⟨rfl, rfl⟩)
end Go.Proofs.YtmphklmhhcmbnaaDoorW.Ax
