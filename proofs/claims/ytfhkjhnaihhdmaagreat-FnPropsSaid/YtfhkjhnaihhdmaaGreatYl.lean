/- The laws' helpers, walked: copies, comparisons, marks. -/
import Derived.Test.YtfhkjhnaihhdmaaGreatYa
namespace Go.Proofs.YtfhkjhnaihhdmaaGreatW.Ax
open Go Go.RowKit Go.Proofs Go.Proofs.YtfhkjhnaihhdmaaGreat.Pure
set_option linter.unusedVariables false
set_option maxRecDepth 100000

theorem take_set (l : List Int) (i : Nat) (h : i < l.length) : (l.take i ++ List.replicate (l.length - i) 0).set i (l.getD i 0) = l.take (i + 1) ++ List.replicate (l.length - (i + 1)) 0 := by
  have e1 : (l.take i).length = i := by simp; omega
  rw [List.set_append, if_neg (by omega), e1, Nat.sub_self, show l.length - i = (l.length - (i + 1)) + 1 by omega, List.replicate_succ, List.set_cons_zero]
  have e2 : l.take (i + 1) = l.take i ++ [l[i]] := by simp
  rw [e2, List.append_assoc]
  simp [List.getD, h]
/-- A slab whose words are a new row. -/
def Sr (st : St) (l : List Int) : AV → St → Prop := fun v st' => ∃ r, v = .agg [.sl (some r) 0 l.length] ∧ Fr st.n st' (some r) l
theorem upN_len : ∀ (k : Int) (n : Nat), (upN k n).length = n
  | _, 0 => rfl
  | k, n + 1 => congrArg (· + 1) (upN_len (k + 1) n)
theorem upN_get : ∀ (k : Int) (n i : Nat), i < n → (upN k n).getD i 0 = k + i
  | _, 0, i, h => absurd h (by omega)
  | k, n + 1, 0, h => by simp [upN]
  | k, n + 1, i + 1, h => by
    have := upN_get (k + 1) n i (by omega)
    simp only [upN, List.getD_cons_succ, this]
    omega
theorem upN_app : ∀ (k : Int) (n : Nat), upN k (n + 1) = upN k n ++ [k + n]
  | k, 0 => by simp [upN]
  | k, n + 1 => by
    have := upN_app (k + 1) n
    rw [show upN k (n + 1 + 1) = k :: upN (k + 1) (n + 1) from rfl, this]
    simp [upN]
    omega
theorem mark_set (l : List Int) (k : Int) (i : Nat) (h : i < l.length) : (upN k i ++ l.drop i).set i (k + i) = upN k (i + 1) ++ l.drop (i + 1) := by
  have e1 := upN_len k i
  rw [List.set_append, if_neg (by omega), e1, Nat.sub_self, List.drop_eq_getElem_cons h, List.set_cons_zero, upN_app]
  simp
end Go.Proofs.YtfhkjhnaihhdmaaGreatW.Ax
