/- Room, Waste: walked. -/
import Derived.Test.YtfhkjhnaihhdmaaZi
import Derived.Test.YtfhkjhnaihhdmaaMA
namespace Go.Proofs.YtfhkjhnaihhdmaaW.Ax
open Go Go.RowKit Go.Proofs Go.Proofs.Ytfhkjhnaihhdmaa.Pure
set_option linter.unusedVariables false
set_option maxRecDepth 100000

theorem Room_c (r : Option Nat) (o : Nat) (l : List Int) (st : St) (hx : At st r o l) (hlen : l.length ≤ 1048576) : ACalls Try.prog 40 [.agg [.sl r o l.length]] st No (Pv (I (roomL l))) := by
  have hbl := blocks_lel l
  have hbd : ∀ i : Nat, 0 ≤ sm (fun a => if kindOf l a.toNat = 0 then szI l a else 0) ((blocks l).take i) ∧ sm (fun a => if kindOf l a.toNat = 0 then szI l a else 0) ((blocks l).take i) ≤ 4000000 := fun i => by
    have := sm_le (fun a => if kindOf l a.toNat = 0 then szI l a else 0) ((blocks l).take i) fun x hx => by
      have := szI_le (List.mem_of_mem_take hx)
      split <;> omega
    have : ((blocks l).take i).length ≤ 2000 := by rw [List.length_take]; omega
    omega
  refine ent (N := 30) Try.func40 rfl (by decide) rfl rfl rfl ?_
  refine crr (by kernel_rfl) rfl ?_   -- region 0
  refine crr (by kernel_rfl) rfl ?_   -- region 1
  refine c_seq ?_
  refine c_rs (by kernel_rfl) ?_   -- region 2
  refine sr 1 rfl ?_
  refine s_op rfl (o_ex loud_n rfl (iBlocks_c _ _ _ _ hx) ?_)
  rintro v1 st1 ⟨q, rfl, hf⟩ e1
  have hx1 := hx.ex e1
  refine sra rfl ?_
  refine c_block ?_
  refine c_lp (α := Nat) (fun i => [(3, I (sm (fun a => if kindOf l a.toNat = 0 then szI l a else 0) ((blocks l).take i))), (7, .sl q 0 (blocks l).length), (8, I (blocks l).length), (9, I i)]) (fun _ => [(1, 1, [.sl r o l.length])])
    (fun i st' => st1 = st' ∧ i ≤ (blocks l).length) (fun i => (blocks l).length - i) 0 ⟨rfl, rfl, rfl, rfl, trivial⟩ ⟨rfl, rfl, trivial⟩ ⟨rfl, Nat.zero_le _⟩ ?_
  rintro i st' ⟨rfl, hi⟩
  have hb1 := hbd i
  refine crr (by kernel_rfl) rfl ?_   -- region 3
  refine c_seq ?_
  refine c_if rfl (fun h10 => ?_) (fun h10 => ?_)
  · have h10 := of_decide_eq_true h10
    have hib : rd (blocks l) i ∈ blocks l := mem_rd (by omega)
    have hba := block_at hib
    have hse := rd_size hba.1 hba.2.2.1
    have hst := sm_take (fun a => if kindOf l a.toNat = 0 then szI l a else 0) (blocks l) i (by omega)
    have hgd : (blocks l).getD i 0 = rd (blocks l) i := rfl
    rw [hgd] at hst
    have hb2 := hbd (i + 1)
    rw [hst] at hb2
    refine c_skip ?_
    refine c_sj (fun _ : Unit => [(3, I (sm (fun a => if kindOf l a.toNat = 0 then szI l a else 0) ((blocks l).take (i + 1)))), (7, .sl q 0 (blocks l).length), (8, I (blocks l).length), (9, I i)]) (fun _ => [(1, 1, [.sl r o l.length])]) (fun _ st' => st1 = st') ?_ ?_
    · refine c_block ?_
      refine c_rs (by kernel_rfl) ?_   -- region 4
      refine s_op rfl (oidx rfl rfl rfl (by omega) (by omega) ?_)
      refine s_op rfl (old rfl rfl (hf.at_.rd (by omega) (by omega)) ?_)
      refine sra rfl ?_
      refine c_rs (by kernel_rfl) ?_   -- region 5
      refine sr 3 rfl ?_
      refine s_op rfl (oidx rfl rfl rfl (by omega) (by omega) ?_)
      refine s_op rfl (old rfl rfl (hx1.rd (by omega) (by omega)) ?_)
      refine sra rfl ?_
      rw [kind_rd]
      refine c_if rfl (fun h19 => ?_) (fun h19 => ?_)
      · have h19 := of_decide_eq_true h19
        rw [if_pos h19] at hst hb2
        refine c_region (by kernel_rfl) ?_   -- region 6
        refine sr 4 rfl ?_
        refine s_op rfl (oidx rfl rfl rfl (by omega) (by omega) ?_)
        refine s_op rfl (old rfl rfl (hx1.rd (by omega) (by omega)) ?_)
        refine sr 1 rfl ?_
        rw [hse]
        have hsz : ((size l (rd (blocks l) i).toNat : Nat) : Int) = szI l (rd (blocks l) i) := rfl
        rw [hsz]
        refine s_op rfl (o_ar rfl rfl rfl (by omega) (by omega) ?_)
        rw [← hst]
        exact sra rfl ⟨(), ⟨rfl, rfl, rfl, rfl, trivial⟩, ⟨rfl, rfl, trivial⟩, rfl⟩
      · have h19 := of_decide_eq_false h19
        rw [if_neg h19, Int.add_zero] at hst
        rw [hst]
        exact c_skip ⟨(), ⟨rfl, rfl, rfl, rfl, trivial⟩, ⟨rfl, rfl, trivial⟩, rfl⟩
    rintro _ st2 rfl
    refine c_region (by kernel_rfl) ?_   -- region 7
    refine s_op rfl (o_ar rfl rfl rfl (by omega) (by omega) ?_)
    exact sra rfl ⟨i + 1, ⟨rfl, rfl, rfl, rfl, trivial⟩, ⟨rfl, rfl, trivial⟩, ⟨rfl, by omega⟩, by omega⟩
  · have h10 := of_decide_eq_false h10
    have hie : (blocks l).take i = blocks l := List.take_of_length_le (by omega)
    rw [hie]
    refine c_exit ?_
    refine crr (by kernel_rfl) rfl ?_   -- region 8
    exact c_ret (fr rfl rfl)
end Go.Proofs.YtfhkjhnaihhdmaaW.Ax
