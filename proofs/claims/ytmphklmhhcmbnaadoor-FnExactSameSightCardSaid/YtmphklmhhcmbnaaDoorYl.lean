/- The laws' helpers, walked: copies, comparisons, marks. -/
import Derived.Test.YtmphklmhhcmbnaaDoorYa
namespace Go.Proofs.YtmphklmhhcmbnaaDoorW.Ax
open Go Go.RowKit Go.Proofs Go.Proofs.YtmphklmhhcmbnaaDoor.Pure
set_option linter.unusedVariables false
set_option maxRecDepth 100000

theorem take_set (l : List Int) (i : Nat) (h : i < l.length) : (l.take i ++ List.replicate (l.length - i) 0).set i (l.getD i 0) = l.take (i + 1) ++ List.replicate (l.length - (i + 1)) 0 := by
  have e1 : (l.take i).length = i := by simp; omega
  rw [List.set_append, if_neg (by omega), e1, Nat.sub_self, show l.length - i = (l.length - (i + 1)) + 1 by omega, List.replicate_succ, List.set_cons_zero]
  have e2 : l.take (i + 1) = l.take i ++ [l[i]] := by simp
  rw [e2, List.append_assoc]
  simp [List.getD, h]
theorem szIntS_c (r : Option Nat) (o n : Nat) (left : Int) (st : St) (h0 : 0 ≤ left) (h1 : left ≤ 1048576) (hn : n ≤ 9223372036854775807) : ACalls Tryd.prog 14 [.sl r o n, I left] st No (Sz st left n) := by
  refine ent (N := 12) Tryd.func14 rfl (by decide) rfl rfl rfl ?_
  refine crr (by kernel_rfl) rfl ?_   -- region 0
  refine c_rs (by kernel_rfl) ?_   -- region 1
  refine sr 3 rfl ?_
  refine s_op rfl (o_ar rfl rfl rfl (by omega) (by omega) ?_)   -- 8 := binOp BinOp.sub 3 (tmp 5) (tmp 7) 3
  refine sr 1 rfl (s_end ?_)
  refine c_seq ?_
  refine crr (by kernel_rfl) rfl ?_   -- region 2
  refine c_if rfl (fun h10 => ?_) (fun h10 => ?_)
  · -- then
    refine crr (by kernel_rfl) rfl ?_   -- region 3
    have h10 := of_decide_eq_true h10
    exact c_ret (fr rfl ⟨-1, rfl, fun _ => rfl, fun h => by omega, rfl⟩)
  · -- else
    refine c_skip ?_
    refine crr (by kernel_rfl) rfl ?_   -- region 4
    have h10 := of_decide_eq_false h10
    exact c_ret (fr rfl ⟨_, rfl, fun h => by omega, fun _ => rfl, rfl⟩)
theorem szSlab_c (r : Option Nat) (o n : Nat) (left : Int) (st : St) (h0 : 0 ≤ left) (h1 : left ≤ 1048576) (hn : n ≤ 9223372036854775807) : ACalls Tryd.prog 5 [.agg [.sl r o n], I left] st No (Sz st left n) := by
  refine ent (N := 12) Tryd.func5 rfl (by decide) rfl rfl rfl ?_
  refine crr (by kernel_rfl) rfl ?_   -- region 0
  refine c_rs (by kernel_rfl) ?_   -- region 1
  refine sr 3 rfl ?_
  refine s_op rfl (o_ex loud_n rfl (szIntS_c _ _ _ _ _ h0 h1 hn) ?_)
  rintro v1 st1 ⟨x, rfl, ha, hb, rfl⟩ e1
  refine sr 1 rfl (s_end ?_)
  refine c_seq ?_
  refine crr (by kernel_rfl) rfl ?_   -- region 2
  refine c_if rfl (fun h10 => ?_) (fun h10 => ?_)
  · -- then
    refine crr (by kernel_rfl) rfl ?_   -- region 3
    have h10 := of_decide_eq_true h10
    exact c_ret (fr rfl ⟨-1, rfl, fun _ => rfl, fun h => by have := hb h; omega, rfl⟩)
  · -- else
    refine c_skip ?_
    refine crr (by kernel_rfl) rfl ?_   -- region 4
    exact c_ret (fr rfl ⟨x, rfl, ha, hb, rfl⟩)

theorem toIntS_c (r : Option Nat) (o : Nat) (l : List Int) (st : St) (hx : At st r o l) (hl : l.length ≤ 1048576) : ACalls Tryd.prog 8 [.sl r o l.length] st No (Ro st l) := by
  refine ent (N := 22) Tryd.func8 rfl (by decide) rfl rfl rfl ?_
  refine crr (by kernel_rfl) rfl ?_   -- region 0
  refine c_rs (by kernel_rfl) ?_   -- region 1
  refine sr 2 rfl ?_
  refine s_op rfl (omkI loud_n rfl rfl rfl (by omega) (by omega) ?_)   -- 7 := makeSlice 22 (tmp 6) (tmp 6)
  refine sr 1 rfl (s_end ?_)
  refine c_seq ?_
  refine crr (by kernel_rfl) rfl ?_   -- region 2
  refine c_block ?_
  refine c_lp (α := Nat) (fun i => [(0, .sl r o l.length), (3, .sl (some st.n) 0 l.length), (4, I i)]) (fun i => []) (fun i st' => i ≤ l.length ∧ Ex st st' ∧ Fr st.n st' (some st.n) (l.take i ++ List.replicate (l.length - i) 0)) (fun i => l.length - i) 0 ⟨rfl, rfl, rfl, trivial⟩ trivial
    ⟨by omega, ex_push _ _, by simpa using fr_push st (List.replicate l.length 0)⟩ ?_
  rintro i st' ⟨hi, he, hf⟩
  refine c_seq ?_
  refine crr (by kernel_rfl) rfl ?_   -- region 3
  refine c_if rfl (fun h11 => ?_) (fun h11 => ?_)
  · -- then
    have h11 := of_decide_eq_true h11
    refine c_skip ?_
    refine c_seq ?_
    refine c_block ?_
    refine c_region (by kernel_rfl) ?_   -- region 5
    refine sr 4 rfl ?_
    refine s_op rfl (oidx rfl rfl rfl (by omega) (by omega) ?_)   -- 18 := indexAddr 22 (tmp 16) (tmp 17)
    refine s_op rfl (old rfl rfl ((hx.ex he).rd (by omega) (by omega)) ?_)   -- 19 := load 3 (tmp 18)
    refine s_op rfl (oidx rfl rfl rfl (by omega) (by omega) ?_)   -- 20 := indexAddr 22 (tmp 14) (tmp 15)
    refine s_op rfl (ostF rfl rfl hf rfl rfl (by simp; omega) fun st2 hf2 he2 => ?_)   -- none := store 3 (tmp 20) (tmp 19)
    refine s_end ?_
    refine c_region (by kernel_rfl) ?_   -- region 4
    refine sr 1 rfl ?_
    refine s_op rfl (o_ar rfl rfl rfl (by omega) (by omega) ?_)   -- 13 := binOp BinOp.add 3 (tmp 12) (const (Value.int IntKind.i64 1)) 3
    refine sr 1 rfl (s_end ?_)
    refine ⟨i + 1, ⟨rfl, rfl, ?_, trivial⟩, trivial, ⟨by omega, he.own hf he2, ?_⟩, by omega⟩
    · show AV.int .i64 _ = _
      rw [Int.natCast_add]; rfl
    · have e := take_set l i (by omega)
      rw [← e]
      simpa [rd] using hf2
  · -- else
    have h11 := of_decide_eq_false h11
    refine c_exit ?_
    refine crr (by kernel_rfl) rfl ?_   -- region 6
    refine c_ret (fr rfl ⟨st.n, rfl, ?_⟩)
    have e : i = l.length := by omega
    rw [e] at hf; simpa using hf
/-- A slab whose words are a new row. -/
def Sr (st : St) (l : List Int) : AV → St → Prop := fun v st' => ∃ r, v = .agg [.sl (some r) 0 l.length] ∧ Fr st.n st' (some r) l
theorem toSlab_c (r : Option Nat) (o : Nat) (l : List Int) (st : St) (hx : At st r o l) (hl : l.length ≤ 1048576) : ACalls Tryd.prog 7 [.agg [.sl r o l.length]] st No (Sr st l) := by
  refine ent (N := 9) Tryd.func7 rfl (by decide) rfl rfl rfl ?_
  refine crr (by kernel_rfl) rfl ?_   -- region 0
  refine crr (by kernel_rfl) rfl ?_   -- region 1
  refine c_rs (by kernel_rfl) ?_   -- region 2
  refine sr 2 rfl ?_
  refine s_op rfl (o_ex loud_n rfl (toIntS_c _ _ _ _ hx hl) ?_)
  rintro v1 st1 ⟨r1, rfl, hf⟩ e1
  refine sr 2 rfl (s_end ?_)
  refine crr (by kernel_rfl) rfl ?_   -- region 3
  exact c_ret (fr rfl ⟨r1, rfl, hf⟩)

theorem eqIntS_c (r r' : Option Nat) (o o' : Nat) (l l' : List Int) (st : St) (hx : At st r o l) (hy : At st r' o' l') (hl : l.length ≤ 1099511627776) : ACalls Tryd.prog 11 [.sl r o l.length, .sl r' o' l'.length] st No (Pure1 (.bool (decide (l = l'))) st) := by
  refine ent (N := 26) Tryd.func11 rfl (by decide) rfl rfl rfl ?_
  refine crr (by kernel_rfl) rfl ?_   -- region 0
  refine c_seq ?_
  refine crr (by kernel_rfl) rfl ?_   -- region 1
  refine c_if rfl (fun h10 => ?_) (fun h10 => ?_)
  · -- then
    refine crr (by kernel_rfl) rfl ?_   -- region 2
    refine c_ret (fr rfl ⟨?_, rfl⟩)
    have : l ≠ l' := fun e => by subst e; simp at h10
    simp [this]
  · -- else
    have h10 : l.length = l'.length := by simp at h10; omega
    refine c_skip ?_
    refine c_seq ?_
    refine crr (by kernel_rfl) rfl ?_   -- region 3
    refine c_block ?_
    refine c_lp (α := Nat) (fun i => [(0, .sl r o l.length), (1, .sl r' o' l'.length), (5, I i)]) (fun i => []) (fun i st' => st = st' ∧ i ≤ l.length ∧ l.take i = l'.take i) (fun i => l.length - i) 0 ⟨rfl, rfl, rfl, trivial⟩ trivial ⟨rfl, by omega, by simp⟩ ?_
    rintro i st' ⟨rfl, hi, ht⟩
    refine c_seq ?_
    refine crr (by kernel_rfl) rfl ?_   -- region 4
    refine c_if rfl (fun h14 => ?_) (fun h14 => ?_)
    · -- then
      have h14 := of_decide_eq_true h14
      refine c_skip ?_
      refine c_seq ?_
      refine c_block ?_
      refine cds [0, 1, 2, 3, 4, 5, 6, 7, 8] [.q, .q, .q, .q, .q, .q, .q, .q, .q] (by kernel_rfl) (by kernel_rfl) ?_   -- region 6
      refine sr 2 rfl ?_
      refine s_op rfl (oidx rfl rfl rfl (by omega) (by omega) ?_)   -- 19 := indexAddr 22 (tmp 17) (tmp 18)
      refine s_op rfl (old rfl rfl (hx.rd (by omega) (by omega)) ?_)   -- 20 := load 3 (tmp 19)
      refine sr 2 rfl ?_
      refine s_op rfl (oidx rfl rfl rfl (by omega) (by omega) ?_)   -- 23 := indexAddr 22 (tmp 21) (tmp 22)
      refine s_op rfl (old rfl rfl (hy.rd (by omega) (by omega)) ?_)   -- 24 := load 3 (tmp 23)
      refine sr 1 rfl (s_end ?_)
      refine c_if rfl (fun h25 => ?_) (fun h25 => ?_)
      · -- then
        refine crr (by kernel_rfl) rfl ?_   -- region 7
        refine c_ret (fr rfl ⟨?_, rfl⟩)
        have : l ≠ l' := fun e => by subst e; simp at h25
        simp [this]
      · -- else
        refine c_skip ?_
        refine c_region (by kernel_rfl) ?_   -- region 5
        refine sr 1 rfl ?_
        refine s_op rfl (o_ar rfl rfl rfl (by omega) (by omega) ?_)   -- 16 := binOp BinOp.add 3 (tmp 15) (const (Value.int IntKind.i64 1)) 3
        refine sr 1 rfl (s_end ?_)
        refine ⟨i + 1, ⟨rfl, rfl, by show AV.int .i64 _ = _; rw [Int.natCast_add]; rfl, trivial⟩, trivial, ⟨rfl, by omega, ?_⟩, by omega⟩
        have e1 := List.take_add_one (l := l) (i := i)
        have e2 := List.take_add_one (l := l') (i := i)
        have h25 : rd l i = rd l' i := by simpa using h25
        have i1 : i < l.length := by omega
        have i2 : i < l'.length := by omega
        rw [e1, e2, ht]
        simp [rd, List.getD, i1, i2] at h25
        simp [i1, i2, h25]
    · -- else
      have h14 := of_decide_eq_false h14
      refine c_exit ?_
      refine crr (by kernel_rfl) rfl ?_   -- region 8
      refine c_ret (fr rfl ⟨?_, rfl⟩)
      rw [List.take_of_length_le (by omega), List.take_of_length_le (by omega)] at ht
      simp [ht]
theorem eqSlab_c (r r' : Option Nat) (o o' : Nat) (l l' : List Int) (st : St) (hx : At st r o l) (hy : At st r' o' l') (hl : l.length ≤ 1099511627776) : ACalls Tryd.prog 10 [.agg [.sl r o l.length], .agg [.sl r' o' l'.length]] st No (Pure1 (.bool (decide (l = l'))) st) := by
  refine ent (N := 11) Tryd.func10 rfl (by decide) rfl rfl rfl ?_
  refine crr (by kernel_rfl) rfl ?_   -- region 0
  refine c_seq ?_
  refine c_rs (by kernel_rfl) ?_   -- region 1
  refine sr 4 rfl ?_
  refine s_op rfl (o_pure loud_n rfl (eqIntS_c _ _ _ _ _ _ _ hx hy hl) ?_)
  refine sr 1 rfl (s_end ?_)
  refine c_if rfl (fun h10 => ?_) (fun h10 => ?_)
  · -- then
    refine crr (by kernel_rfl) rfl ?_   -- region 2
    refine c_ret (fr rfl ⟨?_, rfl⟩)
    simp at h10; simp [h10]
  · -- else
    refine c_skip ?_
    refine crr (by kernel_rfl) rfl ?_   -- region 3
    refine c_ret (fr rfl ⟨?_, rfl⟩)
    simp at h10; simp [h10]

theorem eqIntS_t (r r' : Option Nat) (o o' : Nat) (l : List Int) (st : St) (hx : At st r o l) (hy : At st r' o' l) (hl : l.length ≤ 1099511627776) : ACalls Tryd.prog 11 [.sl r o l.length, .sl r' o' l.length] st No (Pure1 (.bool true) st) := by
  have h := eqIntS_c r r' o o' l l st hx hy hl
  rw [decide_eq_true rfl] at h; exact h
theorem eqSlab_t (r r' : Option Nat) (o o' : Nat) (l : List Int) (st : St) (hx : At st r o l) (hy : At st r' o' l) (hl : l.length ≤ 1099511627776) : ACalls Tryd.prog 10 [.agg [.sl r o l.length], .agg [.sl r' o' l.length]] st No (Pure1 (.bool true) st) := by
  have h := eqSlab_c r r' o o' l l st hx hy hl
  rw [decide_eq_true rfl] at h; exact h

theorem upN_len : ∀ (k : Int) (n : Nat), (upN k n).length = n
  | _, 0 => rfl
  | k, n + 1 => congrArg (· + 1) (upN_len (k + 1) n)
theorem upN_get : ∀ (k : Int) (n i : Nat), i < n → (upN k n).getD i 0 = k + i
  | _, 0, i, h => absurd h (by omega)
  | k, n + 1, 0, h => by simp [upN]
  | k, n + 1, i + 1, h => by
    have := upN_get (k + 1) n i (by omega)
    simp only [upN, List.getD_cons_succ, this]
    omega
theorem upN_app : ∀ (k : Int) (n : Nat), upN k (n + 1) = upN k n ++ [k + n]
  | k, 0 => by simp [upN]
  | k, n + 1 => by
    have := upN_app (k + 1) n
    rw [show upN k (n + 1 + 1) = k :: upN (k + 1) (n + 1) from rfl, this]
    simp [upN]
    omega
theorem mark_set (l : List Int) (k : Int) (i : Nat) (h : i < l.length) : (upN k i ++ l.drop i).set i (k + i) = upN k (i + 1) ++ l.drop (i + 1) := by
  have e1 := upN_len k i
  rw [List.set_append, if_neg (by omega), e1, Nat.sub_self, List.drop_eq_getElem_cons h, List.set_cons_zero, upN_app]
  simp
end Go.Proofs.YtmphklmhhcmbnaaDoorW.Ax
