/- The laws' own helpers: walked. -/
import Derived.Test.YtfhkjhnaihhdmaaGreatXE
import Derived.Test.YtfhkjhnaihhdmaaGreatQ1
namespace Go.Proofs.YtfhkjhnaihhdmaaGreatW.Ax
open Go Go.RowKit Go.Proofs Go.Proofs.YtfhkjhnaihhdmaaGreat.Pure
set_option linter.unusedVariables false
set_option maxRecDepth 100000

theorem big_c (r : Option Nat) (o n : Nat) (st : St) : ACalls Tryz.prog 9 [.sl r o n] st No (Pure1 (.bool (decide ((1048576 : Int) < n))) st) := by
  refine ent (N := 6) Tryz.func9 rfl (by decide) rfl rfl rfl ?_
  refine crr (by kernel_rfl) rfl ?_   -- region 0
  refine crr (by kernel_rfl) rfl ?_   -- region 1
  exact c_ret (fr rfl ⟨rfl, rfl⟩)
theorem sameInts_c (r r' : Option Nat) (o o' : Nat) (l l' : List Int) (st : St) (hx : At st r o l) (hy : At st r' o' l') (hl : l.length ≤ 1099511627776) : ACalls Tryz.prog 19 [.sl r o l.length, .sl r' o' l'.length] st No (Pure1 (.bool (decide (l = l'))) st) := by
  refine ent (N := 26) Tryz.func19 rfl (by decide) rfl rfl rfl ?_
  refine crr (by kernel_rfl) rfl ?_   -- region 0
  refine c_seq ?_
  refine crr (by kernel_rfl) rfl ?_   -- region 1
  refine c_if rfl (fun h10 => ?_) (fun h10 => ?_)
  · -- then
    refine crr (by kernel_rfl) rfl ?_   -- region 2
    refine c_ret (fr rfl ⟨?_, rfl⟩)
    have : l ≠ l' := fun e => by subst e; simp at h10
    simp [this]
  · -- else
    have h10 : l.length = l'.length := by simp at h10; omega
    refine c_skip ?_
    refine c_seq ?_
    refine crr (by kernel_rfl) rfl ?_   -- region 3
    refine c_block ?_
    refine c_lp (α := Nat) (fun i => [(0, .sl r o l.length), (1, .sl r' o' l'.length), (5, I i)]) (fun i => []) (fun i st' => st = st' ∧ i ≤ l.length ∧ l.take i = l'.take i) (fun i => l.length - i) 0 ⟨rfl, rfl, rfl, trivial⟩ trivial ⟨rfl, by omega, by simp⟩ ?_
    rintro i st' ⟨rfl, hi, ht⟩
    refine c_seq ?_
    refine crr (by kernel_rfl) rfl ?_   -- region 4
    refine c_if rfl (fun h14 => ?_) (fun h14 => ?_)
    · -- then
      have h14 := of_decide_eq_true h14
      refine c_skip ?_
      refine c_seq ?_
      refine c_block ?_
      refine cds [0, 1, 2, 3, 4, 5, 6, 7, 8] [.q, .q, .q, .q, .q, .q, .q, .q, .q] (by kernel_rfl) (by kernel_rfl) ?_   -- region 6
      refine sr 2 rfl ?_
      refine s_op rfl (oidx rfl rfl rfl (by omega) (by omega) ?_)   -- 19 := indexAddr 22 (tmp 17) (tmp 18)
      refine s_op rfl (old rfl rfl (hx.rd (by omega) (by omega)) ?_)   -- 20 := load 3 (tmp 19)
      refine sr 2 rfl ?_
      refine s_op rfl (oidx rfl rfl rfl (by omega) (by omega) ?_)   -- 23 := indexAddr 22 (tmp 21) (tmp 22)
      refine s_op rfl (old rfl rfl (hy.rd (by omega) (by omega)) ?_)   -- 24 := load 3 (tmp 23)
      refine sr 1 rfl (s_end ?_)
      refine c_if rfl (fun h25 => ?_) (fun h25 => ?_)
      · -- then
        refine crr (by kernel_rfl) rfl ?_   -- region 7
        refine c_ret (fr rfl ⟨?_, rfl⟩)
        have : l ≠ l' := fun e => by subst e; simp at h25
        simp [this]
      · -- else
        refine c_skip ?_
        refine c_region (by kernel_rfl) ?_   -- region 5
        refine sr 1 rfl ?_
        refine s_op rfl (o_ar rfl rfl rfl (by omega) (by omega) ?_)   -- 16 := binOp BinOp.add 3 (tmp 15) (const (Value.int IntKind.i64 1)) 3
        refine sr 1 rfl (s_end ?_)
        refine ⟨i + 1, ⟨rfl, rfl, by show AV.int .i64 _ = _; rw [Int.natCast_add]; rfl, trivial⟩, trivial, ⟨rfl, by omega, ?_⟩, by omega⟩
        have e1 := List.take_add_one (l := l) (i := i)
        have e2 := List.take_add_one (l := l') (i := i)
        have h25 : rd l i = rd l' i := by simpa using h25
        have i1 : i < l.length := by omega
        have i2 : i < l'.length := by omega
        rw [e1, e2, ht]
        simp [rd, List.getD, i1, i2] at h25
        simp [i1, i2, h25]
    · -- else
      have h14 := of_decide_eq_false h14
      refine c_exit ?_
      refine crr (by kernel_rfl) rfl ?_   -- region 8
      refine c_ret (fr rfl ⟨?_, rfl⟩)
      rw [List.take_of_length_le (by omega), List.take_of_length_le (by omega)] at ht
      simp [ht]
theorem sameInts_t (r r' : Option Nat) (o o' : Nat) (l : List Int) (st : St) (hx : At st r o l) (hy : At st r' o' l) (hl : l.length ≤ 1099511627776) : ACalls Tryz.prog 19 [.sl r o l.length, .sl r' o' l.length] st No (Pure1 (.bool true) st) := by
  have := sameInts_c r r' o o' l l st hx hy hl
  rwa [decide_eq_true (rfl : l = l)] at this
theorem lwithin_c (r : Option Nat) (o : Nat) (l : List Int) (x : Int) (st : St) (hx : At st r o l) (hl : l.length ≤ 1099511627776) : ACalls Tryz.prog 17 [.sl r o l.length, I x] st No (Pure1 (.bool (bd (x ∈ l))) st) := by
  refine ent (N := 18) Tryz.func17 rfl (by decide) rfl rfl rfl ?_
  refine crr (by kernel_rfl) rfl ?_   -- region 0
  refine c_seq ?_
  refine crr (by kernel_rfl) rfl ?_   -- region 1
  refine c_block ?_
  refine c_lp (α := Nat) (fun i => [(0, .sl r o l.length), (1, I x), (5, I i)]) (fun i => []) (fun i st' => st = st' ∧ i ≤ l.length ∧ x ∉ l.take i) (fun i => l.length - i) 0 ⟨rfl, rfl, rfl, trivial⟩ trivial ⟨rfl, by omega, by simp⟩ ?_
  rintro i st1 ⟨rfl, hi, hm⟩
  refine c_seq ?_
  refine crr (by kernel_rfl) rfl ?_   -- region 2
  refine c_if rfl (fun h9 => ?_) (fun h9 => ?_)
  · -- then
    have h9 := of_decide_eq_true h9
    have hil : i < l.length := by omega
    have e1 : l.take (i + 1) = l.take i ++ [rd l i] := by
      rw [List.take_succ_eq_append_getElem hil]
      simp [rd, List.getD, hil]
    refine c_skip ?_
    refine c_seq ?_
    refine c_block ?_
    refine c_rs (by kernel_rfl) ?_   -- region 4
    refine sr 2 rfl ?_
    refine s_op rfl (oidx rfl rfl rfl (by omega) (by omega) ?_)   -- 14 := indexAddr 24 (tmp 12) (tmp 13)
    refine s_op rfl (old rfl rfl (hx.rd (by omega) (by omega)) ?_)   -- 15 := load 3 (tmp 14)
    refine sra rfl ?_
    refine c_if rfl (fun h17 => ?_) (fun h17 => ?_)
    · -- then
      have h17 := of_decide_eq_true h17
      refine crr (by kernel_rfl) rfl ?_   -- region 5
      refine c_ret (fr rfl ⟨?_, rfl⟩)
      rw [bdt.2]
      rw [← h17]
      have : (i : Int).toNat < l.length := by omega
      unfold rd
      simp [List.getD, hil]
    · -- else
      have h17 := of_decide_eq_false h17
      refine c_skip ?_
      refine c_region (by kernel_rfl) ?_   -- region 3
      refine sr 1 rfl ?_
      refine s_op rfl (o_ar rfl rfl rfl (by omega) (by omega) ?_)   -- 11 := binOp BinOp.add 3 (tmp 10) (const (Value.int IntKind.i64 1)) 3
      refine sra rfl ?_
      refine ⟨i + 1, ⟨rfl, rfl, rfl, trivial⟩, trivial, ⟨rfl, by omega, ?_⟩, by omega⟩
      rw [e1, List.mem_append, List.mem_singleton]
      exact fun h => h.elim hm fun e => h17 e.symm
  · -- else
    have h9 := of_decide_eq_false h9
    refine c_exit ?_
    refine crr (by kernel_rfl) rfl ?_   -- region 6
    refine c_ret (fr rfl ⟨?_, rfl⟩)
    rw [List.take_of_length_le (by omega)] at hm
    rw [bdf.2 hm]
theorem sameMarker_t (p q : Int) (r1 r2 r1' r2' : Option Nat) (o1 o2 o1' o2' : Nat) (l1 l2 : List Int) (st : St) (hx1 : At st r1 o1 l1) (hx2 : At st r2 o2 l2) (hy1 : At st r1' o1' l1) (hy2 : At st r2' o2' l2) (hl1 : l1.length ≤ 1099511627776) (hl2 : l2.length ≤ 1099511627776) :
    ACalls Tryz.prog 12 [.agg [I p, .sl r1 o1 l1.length, .sl r2 o2 l2.length, I q], .agg [I p, .sl r1' o1' l1.length, .sl r2' o2' l2.length, I q]] st No (Pure1 (.bool true) st) := by
  refine ent (N := 31) Tryz.func12 rfl (by decide) rfl rfl rfl ?_
  refine crr (by kernel_rfl) rfl ?_   -- region 0
  refine c_rs (by kernel_rfl) ?_   -- region 1
  refine sr 4 rfl ?_
  refine s_op rfl (oeq rfl (.v (.bool true)) (bT rfl) ?_)
  refine sr 5 rfl ?_
  refine s_op rfl (oeq rfl (.v (.bool true)) (bT rfl) ?_)
  refine sr 6 rfl ?_
  refine s_op rfl (o_pure loud_n rfl (sameInts_t _ _ _ _ _ _ hx1 hy1 hl1) ?_)
  refine sr 6 rfl ?_
  refine s_op rfl (o_pure loud_n rfl (sameInts_t _ _ _ _ _ _ hx2 hy2 hl2) ?_)
  refine sra rfl ?_
  exact c_ret (fr rfl ⟨rfl, rfl⟩)
end Go.Proofs.YtfhkjhnaihhdmaaGreatW.Ax
