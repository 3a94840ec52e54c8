/- Chapter 2 of the program, walked. -/
import Derived.Test.YtmphklmhhcmbnaaDoorYb
namespace Go.Proofs.YtmphklmhhcmbnaaDoorW.Ax
open Go Go.RowKit Go.Proofs Go.Proofs.YtmphklmhhcmbnaaDoor.Pure
set_option linter.unusedVariables false
set_option maxRecDepth 100000

theorem within_c (n lo hi : Int) (st : St) : ACalls Tryd.prog 64 [I n, I lo, I hi] st No (Pure1 (.bool (decide (lo ≤ n ∧ n ≤ hi))) st) := by
  refine ent (N := 15) Tryd.func64 rfl (by decide) rfl rfl rfl ?_
  refine crr (by kernel_rfl) rfl ?_
  refine c_rs (by kernel_rfl) (sr 4 rfl ?_)
  refine s_bool 10 rfl rfl (fun h => ?_) (fun h => ?_)
  · refine sr 5 rfl (s_end (c_ret (fr rfl ⟨?_, rfl⟩)))
    simp at h ⊢
    simp [h]
  · refine sr 5 rfl (s_end (c_ret (fr rfl ⟨?_, rfl⟩)))
    simp at h ⊢
    omega
def Pl (st : St) (l : List Int) : AV → St → Prop := fun v st' => ∃ q, v = .tup [.sl q 0 (blocks l).length, .bool (okB l)] ∧ Fr st.n st' q (blocks l)
theorem places_c (r : Option Nat) (o : Nat) (l : List Int) (st : St) (hx : At st r o l) : ACalls Tryd.prog 50 [.agg [.sl r o l.length]] st No (Pl st l) := by
  refine ent (N := 49) Tryd.func50 rfl (by decide) rfl rfl rfl ?_
  refine crr (by kernel_rfl) rfl ?_   -- region 0
  refine c_seq ?_
  refine crr (by kernel_rfl) rfl ?_   -- region 1
  refine c_if rfl (fun h11 => ?_) (fun h11 => ?_)
  · -- then
    have hn : ¬ okB l = true := fun h => by have := okB_len h; simp at h11; omega
    refine crr (by kernel_rfl) rfl ?_   -- region 2
    refine c_ret (fr rfl ⟨none, ?_, ?_⟩)
    · rw [blocks_not hn, Bool.eq_false_iff.2 hn]; rfl
    · rw [blocks_not hn]; exact fr_nil _ _
  · -- else
    have hlen : l.length ≤ 2000 := by simp at h11; omega
    refine c_skip ?_
    refine crr (by kernel_rfl) rfl ?_   -- region 3
    refine c_seq ?_
    refine crr (by kernel_rfl) rfl ?_   -- region 4
    refine c_block ?_
    refine c_lp (α := Nat × Option Nat × List Int) (fun i => [(4, .sl i.2.1 0 i.2.2.length), (5, I i.1)]) (fun _ => [(1, 1, [.sl r o l.length])])
      (fun i st' => i.1 ≤ l.length ∧ Ex st st' ∧ Fr st.n st' i.2.1 i.2.2 ∧ walk l 0 = (walk l i.1).map (i.2.2 ++ ·) ∧ i.2.2.length ≤ i.1) (fun i => l.length - i.1) (0, none, []) ⟨rfl, rfl, trivial⟩ ⟨rfl, rfl, trivial⟩ ⟨by omega, Ext.refl _ _, fr_nil _ _, by simp, by simp⟩ ?_
    rintro ⟨i, q, done⟩ st' ⟨hi, he, hf, hw, hdl⟩
    dsimp only at *
    refine c_seq ?_
    refine crr (by kernel_rfl) rfl ?_   -- region 5
    refine c_if rfl (fun h16 => ?_) (fun h16 => ?_)
    · -- then
      have h16 : i < l.length := by have := of_decide_eq_true h16; omega
      refine c_skip ?_
      refine c_block ?_
      refine cds [0, 1, 2, 3, 4, 5, 6, 7, 8, 9, 10, 11, 12, 13] [.q, .q, .q, .q, .q, .q, .q, .q, .q, .q, .q, .q, .q, .q] (by kernel_rfl) (by kernel_rfl) ?_   -- region 6
      refine sr 3 rfl ?_
      refine s_op rfl (oidx rfl rfl rfl (by omega) (by omega) ?_)   -- 20 := indexAddr 22 (tmp 18) (tmp 19)
      refine s_op rfl (old rfl rfl ((hx.ex he).rd (by omega) (by omega)) ?_)   -- 21 := load 3 (tmp 20)
      refine sr 4 rfl ?_
      refine s_op rfl (oidx rfl rfl rfl (by omega) (by omega) ?_)   -- 26 := indexAddr 22 (tmp 24) (tmp 25)
      refine s_op rfl (old rfl rfl ((hx.ex he).rd (by omega) (by omega)) ?_)   -- 27 := load 3 (tmp 26)
      refine sr 3 rfl (s_end ?_)
      refine c_seq ?_
      refine c_rj [(4, .sl q 0 done.length), (5, I i), (6, I (rd l i / 8)), (40, .bool (decide (¬ headOk l i)))] [(1, 1, [.sl r o l.length])] (by kernel_rfl) ?_ ?_   -- region 7
      · refine sr 5 rfl ?_
        refine s_op rfl (o_ar rfl rfl rfl (by omega) (by omega) ?_)   -- 34 := binOp BinOp.sub 3 (tmp 32) (tmp 33) 3
        refine s_op rfl (o_pure loud_n rfl (within_c ..) ?_)
        refine sr 2 rfl ?_
        refine s_bool 37 rfl rfl (fun h37 => ?_) (fun h37 => ?_)
        · -- slot 37 true
          refine sr 3 rfl (s_end ⟨⟨rfl, rfl, rfl, ?_, trivial⟩, ⟨rfl, rfl, trivial⟩, rfl⟩)
          have hn : ¬ headOk l i := fun h => by rw [head_iff] at h; simp at h37; omega
          rw [decide_eq_true hn]; rfl
        · refine sr 3 rfl (s_end ⟨⟨rfl, rfl, rfl, ?_, trivial⟩, ⟨rfl, rfl, trivial⟩, rfl⟩)
          show AV.bool _ = AV.bool _
          congr 1
          have hn : (¬ headOk l i) ↔ rd l i % 8 > 5 := by rw [head_iff]; simp at h37; omega
          exact decide_eq_decide.2 hn.symm
      refine c_if rfl (fun h40 => ?_) (fun h40 => ?_)
      · -- then
        have h40 := of_decide_eq_true h40
        have hn : ¬ okB l = true := by
          rw [okB, hw, walk_none h16 h40]; simp
        refine crr (by kernel_rfl) rfl ?_   -- region 8
        refine c_ret (fr rfl ⟨none, ?_, ?_⟩)
        · rw [blocks_not hn, Bool.eq_false_iff.2 hn]; rfl
        · rw [blocks_not hn]; exact fr_nil _ _
      · -- else
        have hh : headOk l i := by simpa using h40
        have hs := size_pos hh
        have hse := size_eq hh
        refine c_skip ?_
        refine c_rs (by kernel_rfl) ?_   -- region 9
        refine sr 2 rfl ?_
        refine s_op rfl (oone loud_n rfl rfl ?_)
        refine s_op rfl (oappF rfl rfl rfl (hf.ex (ex_push _ _)) rfl (at_row (Nat.lt_succ_self _) (push_ob _ _)) (by simp; omega) fun q2 st2 hf2 he2 => ?_)
        have he3 : Ex st st2 := (he.tr (ex_push _ _)).own (hf.ex (ex_push _ _)) he2
        refine sr 1 rfl (s_end ?_)
        refine c_region (by kernel_rfl) ?_   -- region 10
        refine sr 2 rfl ?_
        refine s_op rfl (o_ar rfl rfl rfl (by omega) (by omega) ?_)   -- 47 := binOp BinOp.add 3 (tmp 45) (tmp 46) 3
        refine sr 1 rfl (s_end ?_)
        refine ⟨(i + size l i, q2, done ++ [(i : Int)]), ⟨rfl, ?_, trivial⟩, ⟨rfl, rfl, trivial⟩, ⟨by dsimp only; omega, he3, hf2, ?_, by simp; omega⟩, by dsimp only; omega⟩
        · show AV.int .i64 _ = AV.int .i64 _
          congr 1; omega
        · dsimp only
          rw [hw, walk_step h16, if_pos hh]
          cases walk l (i + size l i) <;> simp
    · -- else
      have h16 := of_decide_eq_false h16
      rw [walk_end (show l.length ≤ i by omega)] at hw
      have hok : okB l = true := by rw [okB, hw]; simp [hlen]
      have hd : blocks l = done := by
        have := (blocks_of hok).2
        rw [hw] at this; simpa using this.symm
      refine c_exit ?_
      refine crr (by kernel_rfl) rfl ?_   -- region 11
      refine c_ret (fr rfl ⟨q, ?_, ?_⟩)
      · rw [hd, hok]
      · rw [hd]; exact hf
theorem iBlocks_c (r : Option Nat) (o : Nat) (l : List Int) (st : St) (hx : At st r o l) : ACalls Tryd.prog 53 [.agg [.sl r o l.length]] st No (Rn st (blocks l)) := by
  refine ent (N := 11) Tryd.func53 rfl (by decide) rfl rfl rfl ?_
  refine crr (by kernel_rfl) rfl ?_   -- region 0
  refine c_rs (by kernel_rfl) ?_   -- region 1
  refine sr 1 rfl ?_
  refine s_op rfl (o_ex loud_n rfl (places_c _ _ _ _ hx) ?_)
  rintro v1 st1 ⟨q, rfl, hf⟩ e1
  refine sr 5 rfl (s_end ?_)
  refine crr (by kernel_rfl) rfl ?_   -- region 2
  exact c_ret (fr rfl ⟨q, rfl, hf⟩)

/-! ### slices.BinarySearch -/
/-- Where a number stands in a sorted row, or would. -/
def Pos (l : List Int) (x : Int) (k : Nat) : Prop := k ≤ l.length ∧ (∀ j : Nat, j < k → l.getD j 0 < x) ∧ (∀ j : Nat, k ≤ j → j < l.length → x ≤ l.getD j 0)
theorem sorted_get {l : List Int} (h : l.Pairwise (· < ·)) {i j : Nat} (hij : i < j) (hj : j < l.length) : l.getD i 0 < l.getD j 0 := by
  have := List.pairwise_iff_getElem.1 h i j (by omega) hj hij
  simpa [List.getD, show i < l.length by omega, hj] using this
theorem Pos.mem {l : List Int} {x : Int} {k : Nat} (h : Pos l x k) (hs : l.Pairwise (· < ·)) : x ∈ l ↔ k < l.length ∧ l.getD k 0 = x := by
  constructor
  · intro hm
    obtain ⟨j, hj, e⟩ := List.getElem_of_mem hm
    have e' : l.getD j 0 = x := by simpa [List.getD, hj] using e
    have h1 : ¬ j < k := fun hc => by have := h.2.1 j hc; omega
    have h2 := h.2.2 k (Nat.le_refl _) (by omega)
    by_cases hk : k = j
    · subst hk; exact ⟨hj, e'⟩
    · refine ⟨by omega, ?_⟩
      have := sorted_get hs (show k < j by omega) hj
      omega
  · rintro ⟨h1, h2⟩
    have : l[k] = x := by simpa [List.getD, h1] using h2
    rw [← this]; exact List.getElem_mem h1
def Bs (st : St) (l : List Int) (x : Int) : AV → St → Prop := fun v st' => ∃ k : Nat, v = .tup [I k, .bool (decide (x ∈ l))] ∧ Pos l x k ∧ st = st'
end Go.Proofs.YtmphklmhhcmbnaaDoorW.Ax
