/- Chapter 2 of the reference, walked. -/
import Derived.Test.YtmphklmhhcmbnaaDoorYa
namespace Go.Proofs.YtmphklmhhcmbnaaDoorW.Ax
open Go Go.RowKit Go.Proofs Go.Proofs.YtmphklmhhcmbnaaDoor.Pure
set_option linter.unusedVariables false
set_option maxRecDepth 100000

theorem okB_len {l : List Int} (h : okB l = true) : l.length ≤ 2000 := (blocks_of h).1
theorem walk_cons {l : List Int} {i : Nat} {r : List Int} (hw : walk l i = some r) (h : i < l.length) : headOk l i ∧ ∃ r', r = (i : Int) :: r' ∧ walk l (i + size l i) = some r' := by
  rw [walk_step h] at hw
  split at hw
  · rename_i hh
    rw [Option.map_eq_some_iff] at hw
    obtain ⟨r', h1, h2⟩ := hw
    exact ⟨hh, r', h2.symm, h1⟩
  · cases hw
theorem walk_nil {l : List Int} {i : Nat} {r : List Int} (hw : walk l i = some r) (h : l.length ≤ i) : r = [] := by
  rw [walk_end h] at hw; exact (Option.some.inj hw).symm
theorem walk_ge {l : List Int} {i : Nat} {r : List Int} (hw : walk l i = some r) {x : Int} (hx : x ∈ r) : (i : Int) ≤ x ∧ x < l.length ∧ headOk l x.toNat := by
  obtain ⟨n, e, h1, h2, h3⟩ := bl_mem l _ i r hw x hx
  subst e
  exact ⟨by omega, by omega, by simpa using h3⟩
theorem block_at {l : List Int} {x : Int} (h : x ∈ blocks l) : 0 ≤ x ∧ x < l.length ∧ headOk l x.toNat ∧ l.length ≤ 2000 := by
  obtain ⟨n, e, h1, h2⟩ := blocks_mem h
  subst e
  exact ⟨by omega, by omega, by simpa using h2, blocks_le h⟩
theorem sorted_len : ∀ (l : List Int) (a n : Int), l.Pairwise (· < ·) → (∀ x ∈ l, a ≤ x ∧ x < n) → a ≤ n → (l.length : Int) ≤ n - a
  | [], a, n, _, _, h => by simp; omega
  | b :: l, a, n, hs, hm, h => by
    have hb := hm b List.mem_cons_self
    obtain ⟨h1, h2⟩ := List.pairwise_cons.1 hs
    have := sorted_len l (b + 1) n h2 (fun x hx => ⟨by have := h1 x hx; omega, (hm x (List.mem_cons_of_mem _ hx)).2⟩) (by omega)
    simp; omega
theorem blocks_lel (l : List Int) : (blocks l).length ≤ 2000 := by
  have := sorted_len (blocks l) 0 2000 (blocks_sorted l) (fun x hx => by have := block_at hx; omega) (by omega)
  omega
theorem blocks_len (l : List Int) : (blocks l).length ≤ 1099511627776 := by have := blocks_lel l; omega
theorem kind_rd (l : List Int) (x : Int) : rd l x % 8 = kindOf l x.toNat := rfl
theorem rd_kind (l : List Int) (i : Nat) : rd l i % 8 = kindOf l i := by rw [rd_nat]; rfl
theorem rd_size {l : List Int} {x : Int} (h0 : 0 ≤ x) (h : headOk l x.toNat) : rd l x / 8 = size l x.toNat := by
  rw [size_eq h, show ((x.toNat : Nat) : Int) = x by omega]

theorem l2Blocks_c (r : Option Nat) (o : Nat) (l : List Int) (st : St) (hx : At st r o l) (hok : okB l = true) : ACalls Tryd.prog 58 [.agg [.sl r o l.length]] st No (Ro st (blocks l)) := by
  have hlen := okB_len hok
  have hb := (blocks_of hok).2
  refine ent (N := 24) Tryd.func58 rfl (by decide) rfl rfl rfl ?_
  refine crr (by kernel_rfl) rfl ?_   -- region 0
  refine c_rs (by kernel_rfl) ?_   -- region 1
  refine s_op rfl (obslice loud_n rfl (by decide) rfl rfl ?_)   -- 5 := buildSlice 22 0 #[]
  refine sr 1 rfl (s_end ?_)
  refine c_seq ?_
  refine crr (by kernel_rfl) rfl ?_   -- region 2
  refine c_block ?_
  refine c_lp (α := Nat × Nat × List Int × List Int) (fun i => [(3, .sl (some i.2.1) 0 i.2.2.1.length), (4, I i.1)]) (fun _ => [(1, 1, [.sl r o l.length])])
    (fun i st' => i.1 ≤ l.length ∧ Ex st st' ∧ Fr st.n st' (some i.2.1) i.2.2.1 ∧ walk l i.1 = some i.2.2.2 ∧ blocks l = i.2.2.1 ++ i.2.2.2 ∧ i.2.2.1.length ≤ i.1) (fun i => l.length - i.1) (0, st.n, [], blocks l) ⟨rfl, rfl, trivial⟩ ⟨rfl, rfl, trivial⟩ ⟨by omega, ex_push _ _, fr_push st [], hb, rfl, by simp⟩ ?_
  rintro ⟨i, q, done, rest⟩ st' ⟨hi, he, hf, hw, hd, hdl⟩
  dsimp only at *
  refine c_seq ?_
  refine crr (by kernel_rfl) rfl ?_   -- region 3
  refine c_if rfl (fun h10 => ?_) (fun h10 => ?_)
  · -- then
    have h10 := of_decide_eq_true h10
    obtain ⟨hh, r', rfl, hw'⟩ := walk_cons hw (by omega)
    have hs := size_pos hh
    have hse := size_eq hh
    refine c_skip ?_
    refine c_seq ?_
    refine c_block ?_
    refine c_region (by kernel_rfl) ?_   -- region 5
    refine sr 2 rfl ?_
    refine s_op rfl (oone loud_n rfl rfl ?_)   -- 21 := buildSlice 22 1 #[(0, tmp 20)]
    refine s_op rfl (oappF rfl rfl rfl (hf.ex (ex_push _ _)) rfl (at_row (Nat.lt_succ_self _) (push_ob _ _)) (by simp; omega) fun q2 st2 hf2 he2 => ?_)
    have he3 : Ex st st2 := (he.tr (ex_push _ _)).own (hf.ex (ex_push _ _)) he2
    refine sr 1 rfl (s_end ?_)
    refine c_region (by kernel_rfl) ?_   -- region 4
    refine sr 4 rfl ?_
    refine s_op rfl (oidx rfl rfl rfl (by omega) (by omega) ?_)   -- 15 := indexAddr 22 (tmp 13) (tmp 14)
    refine s_op rfl (old rfl rfl ((hx.ex he3).rd (by omega) (by omega)) ?_)   -- 16 := load 3 (tmp 15)
    refine s_op rfl (o_pure loud_n rfl (l2Size_c ..) ?_)
    refine s_op rfl (o_ar rfl rfl rfl (by omega) (by omega) ?_)   -- 18 := binOp BinOp.add 3 (tmp 11) (tmp 17) 3
    refine sr 1 rfl (s_end ?_)
    obtain ⟨q2, rfl⟩ := hf2.some_of (by simp)
    refine ⟨(i + size l i, q2, done ++ [(i : Int)], r'), ⟨rfl, ?_, trivial⟩, ⟨rfl, rfl, trivial⟩, ⟨by dsimp only; omega, he3, hf2, hw', by simp [hd], by simp; omega⟩, by dsimp only; omega⟩
    show AV.int .i64 _ = AV.int .i64 _
    congr 1; omega
  · -- else
    have h10 := of_decide_eq_false h10
    have hn := walk_nil hw (by omega)
    subst hn
    rw [List.append_nil] at hd
    refine c_exit ?_
    refine crr (by kernel_rfl) rfl ?_   -- region 6
    refine c_ret (fr rfl ⟨q, by rw [hd], by rw [hd]; exact hf⟩)
theorem Blocks_c (r : Option Nat) (o : Nat) (l : List Int) (st : St) (hx : At st r o l) (hl : l.length ≤ 1048576) : ACalls Tryd.prog 43 [.agg [.sl r o l.length]] st No (Ro st (blocks l)) := by
  refine ent (N := 9) Tryd.func43 rfl (by decide) rfl rfl rfl ?_
  refine crr (by kernel_rfl) rfl ?_   -- region 0
  refine c_seq ?_
  refine c_rs (by kernel_rfl) ?_   -- region 1
  refine sr 1 rfl ?_
  refine s_op rfl (o_pure loud_n rfl (SlabOk_c _ _ _ _ hx hl) ?_)
  refine sr 1 rfl (s_end ?_)
  refine c_if rfl (fun h5 => ?_) (fun h5 => ?_)
  · -- then
    have h5 : ¬ okB l = true := by simpa using h5
    refine c_rs (by kernel_rfl) ?_   -- region 2
    refine s_op rfl (obslice loud_n rfl (by decide) rfl rfl ?_)   -- 6 := buildSlice 22 0 #[]
    refine sr 1 rfl (s_end ?_)
    refine c_ret (fr rfl ?_)
    rw [blocks_not h5]
    exact ⟨st.n, rfl, fr_push st []⟩
  · -- else
    have h5 : okB l = true := by simpa using h5
    refine c_skip ?_
    refine c_rs (by kernel_rfl) ?_   -- region 3
    refine sr 1 rfl ?_
    refine s_op rfl (o_ex loud_n rfl (l2Blocks_c _ _ _ _ hx h5) ?_)
    rintro v1 st1 ⟨q, rfl, hf⟩ e1
    refine sr 1 rfl (s_end ?_)
    exact c_ret (fr rfl ⟨q, rfl, hf⟩)
theorem l2Is_c (r : Option Nat) (o : Nat) (l : List Int) (at_ : Int) (st : St) (hx : At st r o l) (hok : okB l = true) : ACalls Tryd.prog 47 [.agg [.sl r o l.length], I at_] st No (Pure1 (.bool (decide (at_ ∈ blocks l))) st) := by
  have hlen := okB_len hok
  have hb := (blocks_of hok).2
  refine ent (N := 34) Tryd.func47 rfl (by decide) rfl rfl rfl ?_
  refine crr (by kernel_rfl) rfl ?_   -- region 0
  refine crr (by kernel_rfl) rfl ?_   -- region 1
  refine c_seq ?_
  refine c_block ?_
  refine c_lp (α := Nat × List Int) (fun i => [(1, I at_), (5, I i.1)]) (fun _ => [(2, 2, [.sl r o l.length])])
    (fun i st' => st = st' ∧ i.1 ≤ l.length ∧ walk l i.1 = some i.2 ∧ (at_ ∈ blocks l ↔ at_ ∈ i.2)) (fun i => l.length - i.1) (0, blocks l) ⟨rfl, rfl, trivial⟩ ⟨rfl, rfl, trivial⟩ ⟨rfl, by omega, hb, Iff.rfl⟩ ?_
  rintro ⟨i, rest⟩ st' ⟨rfl, hi, hw, hm⟩
  dsimp only at *
  refine c_seq ?_
  refine c_rj [(1, I at_), (5, I i), (15, .bool (decide (i < l.length ∧ (i : Int) < at_)))] [(2, 2, [.sl r o l.length])] (by kernel_rfl) ?_ ?_
  · refine sr 6 rfl ?_
    refine s_bool 11 rfl rfl (fun h11 => ?_) (fun h11 => ?_)
    · refine sr 4 rfl (s_end ⟨⟨rfl, rfl, ?_, trivial⟩, ⟨rfl, rfl, trivial⟩, rfl⟩)
      have h11 := of_decide_eq_true h11
      show AV.bool _ = AV.bool _
      congr 1
      simp; omega
    · refine sr 4 rfl (s_end ⟨⟨rfl, rfl, ?_, trivial⟩, ⟨rfl, rfl, trivial⟩, rfl⟩)
      have h11 := of_decide_eq_false h11
      show AV.bool _ = AV.bool _
      congr 1
      simp; omega
  refine c_if rfl (fun h15 => ?_) (fun h15 => ?_)
  · -- then
    have h15 := of_decide_eq_true h15
    obtain ⟨hh, r', rfl, hw'⟩ := walk_cons hw (by omega)
    have hs := size_pos hh
    have hse := size_eq hh
    refine c_skip ?_
    refine c_block ?_
    refine c_region (by kernel_rfl) ?_   -- region 3
    refine sr 4 rfl ?_
    refine s_op rfl (oidx rfl rfl rfl (by omega) (by omega) ?_)   -- 20 := indexAddr 22 (tmp 18) (tmp 19)
    refine s_op rfl (old rfl rfl (hx.rd (by omega) (by omega)) ?_)   -- 21 := load 3 (tmp 20)
    refine s_op rfl (o_pure loud_n rfl (l2Size_c ..) ?_)
    refine s_op rfl (o_ar rfl rfl rfl (by omega) (by omega) ?_)   -- 23 := binOp BinOp.add 3 (tmp 16) (tmp 22) 3
    refine sr 1 rfl (s_end ?_)
    refine ⟨(i + size l i, r'), ⟨rfl, ?_, trivial⟩, ⟨rfl, rfl, trivial⟩, ⟨rfl, by dsimp only; omega, hw', ?_⟩, by dsimp only; omega⟩
    · show AV.int .i64 _ = AV.int .i64 _
      congr 1; omega
    · rw [hm, List.mem_cons, or_iff_right (by omega)]
  · -- else
    have h15 := of_decide_eq_false h15
    refine c_exit ?_
    have key : decide (at_ ∈ blocks l) = (decide ((i : Int) = at_) && decide (at_ < (l.length : Int))) := by
      rw [← Bool.decide_and]
      refine decide_eq_decide.2 ?_
      rw [hm]
      by_cases h : i < l.length
      · obtain ⟨hh, r', rfl, hw'⟩ := walk_cons hw h
        have hs := size_pos hh
        refine ⟨fun hx => ?_, fun hx => by rw [← hx.1]; exact List.mem_cons_self⟩
        rcases List.mem_cons.1 hx with e | e
        · omega
        · have := walk_ge hw' e
          omega
      · have := walk_nil hw (by omega)
        subst this
        exact ⟨fun hx => by simp at hx, fun hx => by omega⟩
    refine c_rs (by kernel_rfl) ?_   -- region 4
    refine sr 4 rfl ?_
    refine s_bool 27 rfl rfl (fun h27 => ?_) (fun h27 => ?_)
    · -- slot 27 true
      refine sr 7 rfl (s_end ?_)
      refine c_ret (fr rfl ⟨?_, rfl⟩)
      rw [key, h27, Bool.true_and]; rfl
    · -- slot 27 false
      refine sr 7 rfl (s_end ?_)
      refine c_ret (fr rfl ⟨?_, rfl⟩)
      rw [key, h27, Bool.false_and]
/-- The kind of the block at a place; -1 where there is none. -/
def kat (l : List Int) (a : Int) : Int := if a ∈ blocks l then kindOf l a.toNat else -1
def sat (l : List Int) (a : Int) : Int := if a ∈ blocks l then size l a.toNat else 0
end Go.Proofs.YtmphklmhhcmbnaaDoorW.Ax
