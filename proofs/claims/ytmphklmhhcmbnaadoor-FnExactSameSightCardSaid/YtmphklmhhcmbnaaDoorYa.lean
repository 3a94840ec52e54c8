/- Chapters 1 and 2, walked: what their functions return, that only read. -/
import Derived.Test.YtmphklmhhcmbnaaDoorXU
import Derived.Test.YtmphklmhhcmbnaaDoorMA
namespace Go.Proofs.YtmphklmhhcmbnaaDoorW.Ax
open Go Go.RowKit Go.Proofs Go.Proofs.YtmphklmhhcmbnaaDoor.Pure
set_option linter.unusedVariables false
set_option maxRecDepth 100000

/-- A function that only reckons: it returns v and leaves the store as it is. -/
abbrev Pure1 (v : AV) (st : St) : AV → St → Prop := fun v' st' => v' = v ∧ st = st'
theorem rd_nat (l : List Int) (i : Nat) : rd l (i : Int) = l.getD i 0 := by simp [rd]
theorem head_iff {l : List Int} {a : Nat} : headOk l a ↔ 2 ≤ rd l a / 8 ∧ rd l a / 8 ≤ (l.length : Int) - a ∧ rd l a % 8 ≤ 5 := by unfold headOk; rw [rd_nat]
theorem size_eq {l : List Int} {a : Nat} (h : headOk l a) : ((size l a : Nat) : Int) = rd l a / 8 := by
  unfold size; rw [← rd_nat]; have := (head_iff.1 h).1; omega

theorem l2Size_c (n : Int) (st : St) : ACalls Tryd.prog 48 [I n] st No (Pure1 (I (n / 8)) st) := by
  refine ent (N := 5) Tryd.func48 rfl (by decide) rfl rfl rfl ?_
  refine crr (by kernel_rfl) rfl ?_
  refine crr (by kernel_rfl) rfl ?_
  exact c_ret (fr rfl ⟨rfl, rfl⟩)
theorem l2Kind_c (n : Int) (st : St) : ACalls Tryd.prog 31 [I n] st No (Pure1 (I (n % 8)) st) := by
  refine ent (N := 5) Tryd.func31 rfl (by decide) rfl rfl rfl ?_
  refine crr (by kernel_rfl) rfl ?_
  refine crr (by kernel_rfl) rfl ?_
  exact c_ret (fr rfl ⟨rfl, rfl⟩)
theorem l1In_c (n lo hi : Int) (st : St) : ACalls Tryd.prog 60 [I n, I lo, I hi] st No (Pure1 (.bool (decide (lo ≤ n ∧ n ≤ hi))) st) := by
  refine ent (N := 15) Tryd.func60 rfl (by decide) rfl rfl rfl ?_
  refine crr (by kernel_rfl) rfl ?_
  refine c_rs (by kernel_rfl) (sr 4 rfl ?_)
  refine s_bool 10 rfl rfl (fun h => ?_) (fun h => ?_)
  · refine sr 5 rfl (s_end (c_ret (fr rfl ⟨?_, rfl⟩)))
    simp at h ⊢
    simp [h]
  · refine sr 5 rfl (s_end (c_ret (fr rfl ⟨?_, rfl⟩)))
    simp at h ⊢
    omega

theorem walk_none {l : List Int} {a : Nat} (h : a < l.length) (hh : ¬ headOk l a) : walk l a = none := by rw [walk_step h, if_neg hh]
theorem walk_some {l : List Int} {a : Nat} (h : a < l.length) (hh : headOk l a) : (walk l a).isSome = (walk l (a + size l a)).isSome := by
  rw [walk_step h, if_pos hh]; cases walk l (a + size l a) <;> rfl

theorem SlabOk_c (r : Option Nat) (o : Nat) (xs : List Int) (st : St) (hx : At st r o xs) (hl : xs.length ≤ 1048576) : ACalls Tryd.prog 45 [.agg [.sl r o xs.length]] st No (Pure1 (.bool (okB xs)) st) := by
  refine ent (N := 40) Tryd.func45 rfl (by decide) rfl rfl rfl ?_
  refine crr (by kernel_rfl) rfl ?_
  refine crr (by kernel_rfl) rfl ?_
  refine c_seq ?_
  refine c_block ?_
  refine c_lp (α := Nat) (fun i => [(3, I i)]) (fun i => [(1, 1, [.sl r o xs.length])]) (fun i st' => st = st' ∧ i ≤ xs.length ∧ (walk xs 0).isSome = (walk xs i).isSome) (fun i => xs.length - i) 0 ⟨rfl, trivial⟩ ⟨rfl, rfl, trivial⟩ ⟨rfl, by omega, rfl⟩ ?_
  rintro i st' ⟨rfl, hi, hw⟩
  refine c_seq ?_
  refine crr (by kernel_rfl) rfl ?_   -- region 2
  refine c_if rfl (fun h9 => ?_) (fun h9 => ?_)
  · -- then
    simp at h9
    refine c_skip ?_
    refine c_block ?_
    refine c_rs (by kernel_rfl) ?_   -- region 3
    refine sr 3 rfl ?_
    refine s_op rfl (oidx rfl rfl rfl (by omega) (by omega) ?_)   -- 13 := indexAddr 22 (tmp 11) (tmp 12)
    refine s_op rfl (old rfl rfl (hx.rd (by omega) (by omega)) ?_)   -- 14 := load 3 (tmp 13)
    refine s_op rfl (o_pure loud_n rfl (l2Size_c ..) ?_)
    refine sr 1 rfl (s_end ?_)
    refine c_seq ?_
    refine c_rs (by kernel_rfl) ?_   -- region 4
    refine sr 5 rfl ?_
    refine s_op rfl (o_ar rfl rfl rfl (by omega) (by omega) ?_)   -- 21 := binOp BinOp.sub 3 (tmp 19) (tmp 20) 3
    refine s_op rfl (o_pure loud_n rfl (l1In_c ..) ?_)
    refine sr 2 rfl ?_
    refine s_bool 24 rfl rfl (fun h24 => ?_) (fun h24 => ?_)
    · -- slot 24 true
      refine sr 8 rfl (s_end ?_)
      refine c_if_t rfl ?_
      refine crr (by kernel_rfl) rfl ?_   -- region 5
      refine c_ret (fr rfl ⟨?_, rfl⟩)
      have hn : ¬ headOk xs i := by rw [head_iff]; simp at h24; omega
      rw [okB, hw, walk_none h9 hn]
      simp
    · -- slot 24 false
      refine sr 3 rfl ?_
      refine s_op rfl (oidx rfl rfl rfl (by omega) (by omega) ?_)   -- 28 := indexAddr 22 (tmp 26) (tmp 27)
      refine s_op rfl (old rfl rfl (hx.rd (by omega) (by omega)) ?_)   -- 29 := load 3 (tmp 28)
      refine s_op rfl (o_pure loud_n rfl (l2Kind_c ..) ?_)
      refine sr 2 rfl (s_end ?_)
      refine c_if rfl (fun h32 => ?_) (fun h32 => ?_)
      · -- then
        refine crr (by kernel_rfl) rfl ?_   -- region 5
        refine c_ret (fr rfl ⟨?_, rfl⟩)
        have hn : ¬ headOk xs i := by rw [head_iff]; simp at h24 h32; omega
        rw [okB, hw, walk_none h9 hn]
        simp
      · -- else
        have hh : headOk xs i := by rw [head_iff]; simp at h24 h32; omega
        have hs := size_pos hh
        have hse := size_eq hh
        refine c_skip ?_
        refine c_region (by kernel_rfl) ?_   -- region 6
        refine sr 2 rfl ?_
        refine s_op rfl (o_ar rfl rfl rfl (by omega) (by omega) ?_)   -- 35 := binOp BinOp.add 3 (tmp 33) (tmp 34) 3
        refine sr 1 rfl (s_end ?_)
        refine ⟨i + size xs i, ⟨?_, trivial⟩, ⟨rfl, rfl, trivial⟩, ⟨rfl, by omega, by rw [hw, walk_some h9 hh]⟩, by omega⟩
        show AV.int .i64 _ = _
        rw [Int.natCast_add, hse]
  · -- else
    simp at h9
    refine c_exit ?_
    refine crr (by kernel_rfl) rfl ?_   -- region 7
    refine c_ret (fr rfl ⟨?_, rfl⟩)
    rw [okB, hw, walk_end (by omega)]
    simp
    omega
end Go.Proofs.YtmphklmhhcmbnaaDoorW.Ax
