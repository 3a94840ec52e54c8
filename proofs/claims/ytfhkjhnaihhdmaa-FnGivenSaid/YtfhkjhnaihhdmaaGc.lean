/- Take, SlabNew and Room, at any arguments: walked. -/
import Derived.Test.YtfhkjhnaihhdmaaGb
import Derived.Test.YtfhkjhnaihhdmaaZj
namespace Go.Proofs.YtfhkjhnaihhdmaaW.Ax
open Go Go.RowKit Go.Proofs Go.Proofs.Ytfhkjhnaihhdmaa.Pure
set_option linter.unusedVariables false
set_option maxRecDepth 100000

theorem iTakeG_c (r : Option Nat) (o : Nat) (l : List Int) (k n : Int) (st : St) (hx : At st r o l) (hl : l.length ≤ 1048576) (hn : W1 n) : ACalls Try.prog 32 [.agg [.sl r o l.length], I k, I n] st No (Nw st (tgL l k n) (tgA l k n) (tgO l k n)) := by
  unfold W1 at hn
  by_cases hok : okB l = true
  · by_cases hb : (1 ≤ k ∧ k ≤ 5) ∧ 2 ≤ n
    · obtain ⟨e1, e2, e3⟩ := tg_ok hok hb
      obtain ⟨m, rfl⟩ : ∃ m : Nat, n = m := ⟨n.toNat, by omega⟩
      rw [e1, e2, e3, Int.toNat_natCast]
      exact iTake_c r o l k m st hx hok hb.1 (by omega) (by omega)
    · obtain ⟨e1, e2, e3⟩ := tg_bad hok hb
      rw [e1, e2, e3]
      refine ent (N := 89) Try.func32 rfl (by decide) rfl rfl rfl ?_
      refine crr (by kernel_rfl) rfl ?_   -- region 0
      refine c_seq ?_
      refine c_rs (by kernel_rfl) ?_   -- region 1
      refine sr 1 rfl ?_
      refine s_op rfl (o_ex loud_n rfl (iSlabOk_c _ _ _ _ hx) ?_)
      rintro v1 st1 rfl x1
      rw [hok]
      refine sra rfl ?_
      refine c_if_f rfl ?_
      refine c_skip ?_
      refine c_rs (by kernel_rfl) ?_   -- region 3
      refine sr 1 rfl ?_
      refine s_op rfl (o_ex loud_n rfl (copySlab_c _ _ _ _ (hx.ex x1) (by omega)) ?_)
      rintro v2 st2 ⟨q, rfl, hf⟩ x2
      have hf : Fr st.n st2 q l := hf.le x1.n
      refine sra rfl ?_
      refine c_seq ?_
      refine c_sj (α := Bool) (fun b => [(26, .bool b)]) (fun _ => [(6, 6, [.sl none 0 0]), (9, 9, [.sl q 0 l.length])]) (fun b st' => st2 = st' ∧ b = true) ?_ ?_
      · -- region 4
        refine c_region (by kernel_rfl) ?_
        refine sr 1 rfl ?_
        refine s_op rfl (o_pure loud_n rfl (within_c ..) ?_)
        refine sr 2 rfl ?_
        refine s_bool 23 rfl rfl (fun h23 => ?_) (fun h23 => ?_)
        · -- slot 23 true
          exact sra rfl ⟨true, ⟨rfl, trivial⟩, ⟨rfl, rfl, rfl, rfl, trivial⟩, rfl, rfl⟩
        · -- slot 23 false
          have h23 := ndf h23
          exact sra rfl ⟨_, ⟨rfl, trivial⟩, ⟨rfl, rfl, rfl, rfl, trivial⟩, rfl, decide_eq_true (by omega)⟩
      rintro b _ ⟨rfl, rfl⟩
      refine c_if_t rfl ?_
      refine crr (by kernel_rfl) rfl ?_   -- region 5
      exact c_ret (fr rfl ⟨q, rfl, hf⟩)
  · obtain ⟨e1, e2, e3⟩ := tg_no k n hok
    rw [e1, e2, e3]
    refine ent (N := 89) Try.func32 rfl (by decide) rfl rfl rfl ?_
    refine crr (by kernel_rfl) rfl ?_   -- region 0
    refine c_seq ?_
    refine c_rs (by kernel_rfl) ?_   -- region 1
    refine sr 1 rfl ?_
    refine s_op rfl (o_ex loud_n rfl (iSlabOk_c _ _ _ _ hx) ?_)
    rintro v1 st1 rfl x1
    rw [Bool.eq_false_iff.2 hok]
    refine sra rfl ?_
    refine c_if_t rfl ?_
    refine crr (by kernel_rfl) rfl ?_   -- region 2
    exact c_ret (fr rfl ⟨none, rfl, .inl ⟨rfl, rfl⟩⟩)
theorem iSlabNew_c (n : Int) (st : St) : ACalls Try.prog 47 [I n] st No (Ns st (snwL n) (decide (2 ≤ n ∧ n ≤ 2000))) := by
  refine ent (N := 19) Try.func47 rfl (by decide) rfl rfl rfl ?_
  refine crr (by kernel_rfl) rfl ?_   -- region 0
  refine c_seq ?_
  refine c_rs (by kernel_rfl) ?_   -- region 1
  refine sr 1 rfl ?_
  refine s_op rfl (o_pure loud_n rfl (within_c ..) ?_)
  refine sra rfl ?_
  refine c_if rfl (fun h7 => ?_) (fun h7 => ?_)
  · -- then
    have h7 := ndt h7
    refine crr (by kernel_rfl) rfl ?_   -- region 2
    refine c_ret (fr rfl ⟨none, ?_, .inl ⟨rfl, snwL_f h7⟩⟩)
    rw [snwL_f h7, decide_eq_false h7]; rfl
  · -- else
    have h7 := ndf h7
    refine c_skip ?_
    refine c_rs (by kernel_rfl) ?_   -- region 3
    refine sr 1 rfl ?_
    refine s_op rfl (omkI loud_n rfl rfl rfl (by omega) (by omega) ?_)   -- 10 := makeSlice 31 (tmp 9) (tmp 9)
    refine sra rfl ?_
    refine c_rs (by kernel_rfl) ?_   -- region 4
    refine sr 3 rfl ?_
    refine s_op rfl (o_ar rfl rfl rfl (by omega) (by omega) ?_)   -- 15 := binOp BinOp.mul 3 (const (Value.int IntKind.i64 8)) (tmp 14) 3
    refine s_op rfl (o_ar rfl rfl rfl (by omega) (by omega) ?_)   -- 16 := binOp BinOp.add 3 (tmp 15) (const (Value.int IntKind.i64 0)) 3
    refine s_op rfl (oidx rfl rfl rfl (by omega) (by omega) ?_)   -- 17 := indexAddr 31 (tmp 13) (const (Value.int IntKind.i64 0))
    refine s_op rfl (ostF rfl rfl (fr_push st (List.replicate n.toNat 0)) rfl rfl (by simp; omega) fun st2 hf2 he2 => ?_)
    refine s_end ?_
    refine crr (by kernel_rfl) rfl ?_   -- region 5
    refine c_ret (fr rfl ⟨some st.n, ?_, ?_⟩)
    · rw [snwL_t h7, decide_eq_true h7]
      simp
    · rw [snwL_t h7]; simpa using hf2
theorem sRoom_c (r : Option Nat) (o : Nat) (l : List Int) (st : St) (hx : At st r o l) (hl : l.length ≤ 1048576) : ACalls Try.prog 45 [.agg [.sl r o l.length]] st No (Pv (I (roomL l))) := by
  have hbl := blocks_lel l
  have hbd : ∀ i : Nat, 0 ≤ sm (fun a => if kindOf l a.toNat = 0 then szI l a else 0) ((blocks l).take i) ∧ sm (fun a => if kindOf l a.toNat = 0 then szI l a else 0) ((blocks l).take i) ≤ 4000000 := fun i => by
    have := sm_le (fun a => if kindOf l a.toNat = 0 then szI l a else 0) ((blocks l).take i) fun x hx => by
      have := szI_le (List.mem_of_mem_take hx)
      split <;> omega
    have : ((blocks l).take i).length ≤ 2000 := by rw [List.length_take]; omega
    omega
  refine ent (N := 36) Try.func45 rfl (by decide) rfl rfl rfl ?_
  refine crr (by kernel_rfl) rfl ?_   -- region 0
  refine crr (by kernel_rfl) rfl ?_   -- region 1
  refine c_rs (by kernel_rfl) ?_   -- region 2
  refine sr 1 rfl ?_
  refine s_op rfl (o_ex loud_n rfl (Blocks_c _ _ _ _ hx hl) ?_)
  rintro v1 st1 ⟨q, rfl, hf⟩ e1
  have hx1 := hx.ex e1
  refine sra rfl ?_
  refine c_seq ?_
  refine crr (by kernel_rfl) rfl ?_   -- region 3
  refine c_block ?_
  refine c_lp (α := Nat) (fun i => [(3, I (sm (fun a => if kindOf l a.toNat = 0 then szI l a else 0) ((blocks l).take i))), (4, .sl (some q) 0 (blocks l).length), (5, I i)]) (fun _ => [(1, 1, [.sl r o l.length])])
    (fun i st' => st1 = st' ∧ i ≤ (blocks l).length) (fun i => (blocks l).length - i) 0 ⟨rfl, rfl, rfl, trivial⟩ ⟨rfl, rfl, trivial⟩ ⟨rfl, Nat.zero_le _⟩ ?_
  rintro i st' ⟨rfl, hi⟩
  have hb1 := hbd i
  refine c_seq ?_
  refine crr (by kernel_rfl) rfl ?_   -- region 4
  refine c_if rfl (fun h11 => ?_) (fun h11 => ?_)
  · -- then
    have h11 := of_decide_eq_true h11
    have hib : rd (blocks l) i ∈ blocks l := mem_rd (by omega)
    have hba := block_at hib
    have hse := rd_size hba.1 hba.2.2.1
    have hst := sm_take (fun a => if kindOf l a.toNat = 0 then szI l a else 0) (blocks l) i (by omega)
    have hgd : (blocks l).getD i 0 = rd (blocks l) i := rfl
    rw [hgd] at hst
    have hb2 := hbd (i + 1)
    rw [hst] at hb2
    refine c_skip ?_
    refine c_sj (fun _ : Unit => [(3, I (sm (fun a => if kindOf l a.toNat = 0 then szI l a else 0) ((blocks l).take (i + 1)))), (4, .sl (some q) 0 (blocks l).length), (5, I i)]) (fun _ => [(1, 1, [.sl r o l.length])]) (fun _ st' => st1 = st') ?_ ?_
    · -- ways that meet
      refine c_block ?_
      refine cds [0, 1, 2, 3, 4, 5, 6, 7, 8, 9] [.q, .q, .q, .q, .q, .q, .q, .q, .f, .q] (by kernel_rfl) (by kernel_rfl) ?_   -- region 6
      refine sr 4 rfl ?_
      refine s_op rfl (oidx rfl rfl rfl (by omega) (by omega) ?_)   -- 18 := indexAddr 31 (tmp 16) (tmp 17)
      refine s_op rfl (old rfl rfl (hf.at_.rd (by omega) (by omega)) ?_)   -- 19 := load 3 (tmp 18)
      refine s_op rfl (oidx rfl rfl rfl (by omega) (by omega) ?_)   -- 20 := indexAddr 31 (tmp 15) (tmp 19)
      refine s_op rfl (old rfl rfl (hx1.rd (by omega) (by omega)) ?_)   -- 21 := load 3 (tmp 20)
      refine s_op rfl (o_pure loud_f rfl (l2Kind_c ..) ?_)
      rw [kind_rd]
      refine sra rfl ?_
      refine c_if rfl (fun h23 => ?_) (fun h23 => ?_)
      · -- then
        have h23 := of_decide_eq_true h23
        rw [if_pos h23] at hst hb2
        refine cd1 [0, 1, 2, 3, 4, 5, 6, 7, 8, 9, 10, 11] [.q, .q, .q, .q, .q, .q, .q, .q, .q, .f, .q, .q] (by kernel_rfl) (by kernel_rfl) ?_   -- region 7
        refine sr 5 rfl ?_
        refine s_op rfl (oidx rfl rfl rfl (by omega) (by omega) ?_)   -- 29 := indexAddr 31 (tmp 27) (tmp 28)
        refine s_op rfl (old rfl rfl (hf.at_.rd (by omega) (by omega)) ?_)   -- 30 := load 3 (tmp 29)
        refine s_op rfl (oidx rfl rfl rfl (by omega) (by omega) ?_)   -- 31 := indexAddr 31 (tmp 26) (tmp 30)
        refine s_op rfl (old rfl rfl (hx1.rd (by omega) (by omega)) ?_)   -- 32 := load 3 (tmp 31)
        refine s_op rfl (o_pure loud_f rfl (l2Size_c ..) ?_)
        rw [hse]
        have hsz : ((size l (rd (blocks l) i).toNat : Nat) : Int) = szI l (rd (blocks l) i) := rfl
        rw [hsz]
        refine s_op rfl (o_ar rfl rfl rfl (by omega) (by omega) ?_)   -- 34 := binOp BinOp.add 3 (tmp 24) (tmp 33) 3
        rw [← hst]
        exact sra rfl ⟨(), ⟨rfl, rfl, rfl, trivial⟩, ⟨rfl, rfl, trivial⟩, rfl⟩
      · -- else
        have h23 := of_decide_eq_false h23
        rw [if_neg h23, Int.add_zero] at hst
        rw [hst]
        exact c_skip ⟨(), ⟨rfl, rfl, rfl, trivial⟩, ⟨rfl, rfl, trivial⟩, rfl⟩
    rintro _ st2 rfl
    refine c_region (by kernel_rfl) ?_   -- region 5
    refine sr 1 rfl ?_
    refine s_op rfl (o_ar rfl rfl rfl (by omega) (by omega) ?_)   -- 13 := binOp BinOp.add 3 (tmp 12) (const (Value.int IntKind.i64 1)) 3
    exact sra rfl ⟨i + 1, ⟨rfl, rfl, rfl, trivial⟩, ⟨rfl, rfl, trivial⟩, ⟨rfl, by omega⟩, by omega⟩
  · -- else
    have h11 := of_decide_eq_false h11
    have hie : (blocks l).take i = blocks l := List.take_of_length_le (by omega)
    rw [hie]
    refine c_exit ?_
    refine crr (by kernel_rfl) rfl ?_   -- region 8
    exact c_ret (fr rfl rfl)
end Go.Proofs.YtfhkjhnaihhdmaaW.Ax
