/- Room, Waste: walked. -/
import Derived.Test.YtmphklmhhcmbnaaZi
import Derived.Test.YtmphklmhhcmbnaaMA
namespace Go.Proofs.YtmphklmhhcmbnaaW.Ax
open Go Go.RowKit Go.Proofs Go.Proofs.Ytmphklmhhcmbnaa.Pure
set_option linter.unusedVariables false
set_option maxRecDepth 100000

theorem Room_c (r : Option Nat) (o : Nat) (l : List Int) (st : St) (hx : At st r o l) (hlen : l.length ≤ 2000) : ACalls Try.prog 52 [.agg [.sl r o l.length]] st No (Pv (I (roomL l))) := by
  have hbl := blocks_lel l
  have hbd : ∀ i : Nat, 0 ≤ sm (fun a => if kindOf l a.toNat = 0 then szI l a else 0) ((blocks l).take i) ∧ sm (fun a => if kindOf l a.toNat = 0 then szI l a else 0) ((blocks l).take i) ≤ 4000000 := fun i => by
    have := sm_le (fun a => if kindOf l a.toNat = 0 then szI l a else 0) ((blocks l).take i) fun x hx => by
      have := szI_le (List.mem_of_mem_take hx)
      split <;> omega
    have : ((blocks l).take i).length ≤ 2000 := by rw [List.length_take]; omega
    omega
  refine ent (N := 30) Try.func52 rfl (by decide) rfl rfl rfl ?_
  refine crr (by kernel_rfl) rfl ?_   -- region 0
  refine crr (by kernel_rfl) rfl ?_   -- region 1
  refine c_seq ?_
  refine c_rs (by kernel_rfl) ?_   -- region 2
  refine sr 1 rfl ?_
  refine s_op rfl (o_ex loud_n rfl (iBlocks_c _ _ _ _ hx) ?_)
  rintro v1 st1 ⟨q, rfl, hf⟩ e1
  have hx1 := hx.ex e1
  refine sra rfl ?_
  refine c_block ?_
  refine c_lp (α := Nat) (fun i => [(3, I (sm (fun a => if kindOf l a.toNat = 0 then szI l a else 0) ((blocks l).take i))), (7, .sl q 0 (blocks l).length), (8, I (blocks l).length), (9, I i)]) (fun _ => [(1, 1, [.sl r o l.length])])
    (fun i st' => st1 = st' ∧ i ≤ (blocks l).length) (fun i => (blocks l).length - i) 0 ⟨rfl, rfl, rfl, rfl, trivial⟩ ⟨rfl, rfl, trivial⟩ ⟨rfl, Nat.zero_le _⟩ ?_
  rintro i st' ⟨rfl, hi⟩
  have hb1 := hbd i
  refine crr (by kernel_rfl) rfl ?_   -- region 3
  refine c_seq ?_
  refine c_if rfl (fun h10 => ?_) (fun h10 => ?_)
  · have h10 := of_decide_eq_true h10
    have hib : rd (blocks l) i ∈ blocks l := mem_rd (by omega)
    have hba := block_at hib
    have hse := rd_size hba.1 hba.2.2.1
    have hst := sm_take (fun a => if kindOf l a.toNat = 0 then szI l a else 0) (blocks l) i (by omega)
    have hgd : (blocks l).getD i 0 = rd (blocks l) i := rfl
    rw [hgd] at hst
    have hb2 := hbd (i + 1)
    rw [hst] at hb2
    refine c_skip ?_
    refine c_sj (fun _ : Unit => [(3, I (sm (fun a => if kindOf l a.toNat = 0 then szI l a else 0) ((blocks l).take (i + 1)))), (7, .sl q 0 (blocks l).length), (8, I (blocks l).length), (9, I i)]) (fun _ => [(1, 1, [.sl r o l.length])]) (fun _ st' => st1 = st') ?_ ?_
    · refine c_block ?_
      refine c_rs (by kernel_rfl) ?_   -- region 4
      refine s_op rfl (oidx rfl rfl rfl (by omega) (by omega) ?_)
      refine s_op rfl (old rfl rfl (hf.at_.rd (by omega) (by omega)) ?_)
      refine sra rfl ?_
      refine c_rs (by kernel_rfl) ?_   -- region 5
      refine sr 3 rfl ?_
      refine s_op rfl (oidx rfl rfl rfl (by omega) (by omega) ?_)
      refine s_op rfl (old rfl rfl (hx1.rd (by omega) (by omega)) ?_)
      refine sra rfl ?_
      rw [kind_rd]
      refine c_if rfl (fun h19 => ?_) (fun h19 => ?_)
      · have h19 := of_decide_eq_true h19
        rw [if_pos h19] at hst hb2
        refine c_region (by kernel_rfl) ?_   -- region 6
        refine sr 4 rfl ?_
        refine s_op rfl (oidx rfl rfl rfl (by omega) (by omega) ?_)
        refine s_op rfl (old rfl rfl (hx1.rd (by omega) (by omega)) ?_)
        refine sr 1 rfl ?_
        rw [hse]
        have hsz : ((size l (rd (blocks l) i).toNat : Nat) : Int) = szI l (rd (blocks l) i) := rfl
        rw [hsz]
        refine s_op rfl (o_ar rfl rfl rfl (by omega) (by omega) ?_)
        rw [← hst]
        exact sra rfl ⟨(), ⟨rfl, rfl, rfl, rfl, trivial⟩, ⟨rfl, rfl, trivial⟩, rfl⟩
      · have h19 := of_decide_eq_false h19
        rw [if_neg h19, Int.add_zero] at hst
        rw [hst]
        exact c_skip ⟨(), ⟨rfl, rfl, rfl, rfl, trivial⟩, ⟨rfl, rfl, trivial⟩, rfl⟩
    rintro _ st2 rfl
    refine c_region (by kernel_rfl) ?_   -- region 7
    refine s_op rfl (o_ar rfl rfl rfl (by omega) (by omega) ?_)
    exact sra rfl ⟨i + 1, ⟨rfl, rfl, rfl, rfl, trivial⟩, ⟨rfl, rfl, trivial⟩, ⟨rfl, by omega⟩, by omega⟩
  · have h10 := of_decide_eq_false h10
    have hie : (blocks l).take i = blocks l := List.take_of_length_le (by omega)
    rw [hie]
    refine c_exit ?_
    refine crr (by kernel_rfl) rfl ?_   -- region 8
    exact c_ret (fr rfl rfl)
noncomputable def wsV (l rs : List Int) : Int := cond (bd (Rts l rs)) (wasteL l (ordL l rs)) 0
theorem wsV_t {l rs : List Int} (h : Rts l rs) : wsV l rs = wasteL l (ordL l rs) := by unfold wsV; rw [bdt.2 h]; rfl
theorem wsV_f {l rs : List Int} (h : ¬ Rts l rs) : wsV l rs = 0 := by unfold wsV; rw [bdf.2 h]; rfl
theorem Waste_c (r rr : Option Nat) (o or : Nat) (l rs : List Int) (st : St) (hx : At st r o l) (hy : At st rr or rs) (hl : l.length ≤ 1048576) (hlr : rs.length ≤ 1048576) : ACalls Try.prog 23 [.agg [.sl r o l.length], .sl rr or rs.length] st No (Pv (I (wsV l rs))) := by
  refine ent (N := 56) Try.func23 rfl (by decide) rfl rfl rfl ?_
  refine crr (by kernel_rfl) rfl ?_   -- region 0
  refine crr (by kernel_rfl) rfl ?_   -- region 1
  refine c_seq ?_
  refine c_rs (by kernel_rfl) ?_   -- region 2
  refine sr 2 rfl ?_
  refine s_op rfl (o_ex loud_n rfl (RootsOk_c _ _ _ _ _ _ _ hx hy hl hlr) ?_)
  rintro v1 st1 rfl e1
  refine sra rfl ?_
  refine c_if rfl (fun h12 => ?_) (fun h12 => ?_)
  · have h12 := nbt h12
    refine crr (by kernel_rfl) rfl ?_   -- region 3
    exact c_ret (fr rfl (by rw [wsV_f h12]; rfl))
  have h12 := nbf h12
  have hok := h12.1.1
  have hlen := okB_len hok
  have hbl := blocks_lel l
  have hol := (ord_ok h12).len
  rw [wsV_t h12]
  have hbd : ∀ i : Nat, 0 ≤ sm (fun a => if kindOf l a.toNat ≠ 0 ∧ a ∉ ordL l rs then szI l a else 0) ((blocks l).take i) ∧ sm (fun a => if kindOf l a.toNat ≠ 0 ∧ a ∉ ordL l rs then szI l a else 0) ((blocks l).take i) ≤ 4000000 := fun i => by
    have := sm_le (fun a => if kindOf l a.toNat ≠ 0 ∧ a ∉ ordL l rs then szI l a else 0) ((blocks l).take i) fun x hx => by
      have := szI_le (List.mem_of_mem_take hx)
      split <;> omega
    have : ((blocks l).take i).length ≤ 2000 := by rw [List.length_take]; omega
    omega
  refine c_skip ?_
  refine c_rs (by kernel_rfl) ?_   -- region 4
  refine sr 2 rfl ?_
  refine s_op rfl (o_ex loud_n rfl (l7Order_c _ _ _ _ _ _ _ (hx.ex e1) (hy.ex e1) h12 hlr) ?_)
  rintro v2 st2 ⟨p, rfl, hp⟩ e2
  refine sra rfl ?_
  refine c_rs (by kernel_rfl) ?_   -- region 5
  refine sr 1 rfl ?_
  refine s_op rfl (o_ex loud_n rfl (l2Blocks_c _ _ _ _ ((hx.ex e1).ex e2) hok) ?_)
  rintro v3 st3 ⟨q, rfl, hq⟩ e3
  have hx3 := ((hx.ex e1).ex e2).ex e3
  have hp3 := hp.ex e3
  refine sra rfl ?_
  refine c_seq ?_
  refine crr (by kernel_rfl) rfl ?_   -- region 6
  refine c_block ?_
  refine c_lp (α := Nat) (fun i => [(5, I (sm (fun a => if kindOf l a.toNat ≠ 0 ∧ a ∉ ordL l rs then szI l a else 0) ((blocks l).take i))), (6, .sl (some p) 0 (ordL l rs).length), (7, .sl (some q) 0 (blocks l).length), (8, I i)]) (fun _ => [(2, 2, [.sl r o l.length])])
    (fun i st' => st3 = st' ∧ i ≤ (blocks l).length) (fun i => (blocks l).length - i) 0 ⟨rfl, rfl, rfl, rfl, trivial⟩ ⟨rfl, rfl, trivial⟩ ⟨rfl, Nat.zero_le _⟩ ?_
  rintro i st' ⟨rfl, hi⟩
  have hb1 := hbd i
  refine c_seq ?_
  refine crr (by kernel_rfl) rfl ?_   -- region 7
  refine c_if rfl (fun h22 => ?_) (fun h22 => ?_)
  · have h22 := of_decide_eq_true h22
    have hib : rd (blocks l) i ∈ blocks l := mem_rd (by omega)
    have hba := block_at hib
    have hse := rd_size hba.1 hba.2.2.1
    have hst := sm_take (fun a => if kindOf l a.toNat ≠ 0 ∧ a ∉ ordL l rs then szI l a else 0) (blocks l) i (by omega)
    have hgd : (blocks l).getD i 0 = rd (blocks l) i := rfl
    rw [hgd] at hst
    have hb2 := hbd (i + 1)
    rw [hst] at hb2
    refine c_skip ?_
    refine c_sj (fun _ : Unit => [(5, I (sm (fun a => if kindOf l a.toNat ≠ 0 ∧ a ∉ ordL l rs then szI l a else 0) ((blocks l).take (i + 1)))), (6, .sl (some p) 0 (ordL l rs).length), (7, .sl (some q) 0 (blocks l).length), (8, I i)]) (fun _ => [(2, 2, [.sl r o l.length])]) (fun _ st' => st3 = st') ?_ ?_
    · refine c_block ?_
      refine c_sj (α := Bool) (fun b => [(5, I (sm (fun a => if kindOf l a.toNat ≠ 0 ∧ a ∉ ordL l rs then szI l a else 0) ((blocks l).take i))), (6, .sl (some p) 0 (ordL l rs).length), (7, .sl (some q) 0 (blocks l).length), (8, I i), (43, .bool b)]) (fun _ => [(2, 2, [.sl r o l.length])]) (fun b st' => st3 = st' ∧ (b = true ↔ kindOf l (rd (blocks l) i).toNat ≠ 0 ∧ rd (blocks l) i ∉ ordL l rs)) ?_ ?_
      · refine cd1 [0, 1, 2, 3, 4, 5, 6, 7, 8, 9, 10, 11, 12, 13, 14, 15, 16, 17, 18] [.q, .q, .q, .q, .q, .q, .q, .q, .f, .q, .q, .q, .q, .q, .q, .q, .f, .q, .q] (by kernel_rfl) (by kernel_rfl) ?_   -- region 9
        refine sr 4 rfl ?_
        refine s_op rfl (oidx rfl rfl rfl (by omega) (by omega) ?_)
        refine s_op rfl (old rfl rfl (hq.at_.rd (by omega) (by omega)) ?_)
        refine s_op rfl (oidx rfl rfl rfl (by omega) (by omega) ?_)
        refine s_op rfl (old rfl rfl (hx3.rd (by omega) (by omega)) ?_)
        refine s_op rfl (o_pure loud_f rfl (l2Kind_c ..) ?_)
        rw [kind_rd]
        refine sr 2 rfl ?_
        refine s_bool 35 rfl rfl (fun h35 => ?_) (fun h35 => ?_)
        · have h35 := ndt h35
          refine sr 3 rfl ?_
          refine s_op rfl (oidx rfl rfl rfl (by omega) (by omega) ?_)
          refine s_op rfl (old rfl rfl (hq.at_.rd (by omega) (by omega)) ?_)
          refine s_op rfl (o_pure loud_f rfl (l7In_c _ _ _ _ _ hp3.at_ (by omega)) ?_)
          refine sra rfl ⟨_, ⟨rfl, rfl, rfl, rfl, rfl, trivial⟩, ⟨rfl, rfl, trivial⟩, rfl, ?_⟩
          exact ⟨fun h => ⟨h35, nbt h⟩, fun h => (by rw [bdf.2 h.2]; rfl)⟩
        · have h35 := ndf h35
          refine sra rfl ⟨false, ⟨rfl, rfl, rfl, rfl, rfl, trivial⟩, ⟨rfl, rfl, trivial⟩, rfl, ⟨fun h => (by cases h), fun h => absurd h35 h.1⟩⟩
      rintro b st4 ⟨rfl, hb⟩
      refine c_if rfl (fun h43 => ?_) (fun h43 => ?_)
      · have h43 := hb.1 h43
        rw [if_pos h43] at hst hb2
        refine cd1 [0, 1, 2, 3, 4, 5, 6, 7, 8, 9, 10, 11] [.q, .q, .q, .q, .q, .q, .q, .q, .q, .f, .q, .q] (by kernel_rfl) (by kernel_rfl) ?_   -- region 10
        refine sr 5 rfl ?_
        refine s_op rfl (oidx rfl rfl rfl (by omega) (by omega) ?_)
        refine s_op rfl (old rfl rfl (hq.at_.rd (by omega) (by omega)) ?_)
        refine s_op rfl (oidx rfl rfl rfl (by omega) (by omega) ?_)
        refine s_op rfl (old rfl rfl (hx3.rd (by omega) (by omega)) ?_)
        refine s_op rfl (o_pure loud_f rfl (l2Size_c ..) ?_)
        rw [hse]
        have hsz : ((size l (rd (blocks l) i).toNat : Nat) : Int) = szI l (rd (blocks l) i) := rfl
        rw [hsz]
        refine s_op rfl (o_ar rfl rfl rfl (by omega) (by omega) ?_)
        rw [← hst]
        exact sra rfl ⟨(), ⟨rfl, rfl, rfl, rfl, trivial⟩, ⟨rfl, rfl, trivial⟩, rfl⟩
      · have h43 : ¬ (kindOf l (rd (blocks l) i).toNat ≠ 0 ∧ rd (blocks l) i ∉ ordL l rs) := fun h => by rw [hb.2 h] at h43; cases h43
        rw [if_neg h43, Int.add_zero] at hst
        rw [hst]
        exact c_skip ⟨(), ⟨rfl, rfl, rfl, rfl, trivial⟩, ⟨rfl, rfl, trivial⟩, rfl⟩
    rintro _ st4 rfl
    refine c_region (by kernel_rfl) ?_   -- region 8
    refine sr 1 rfl ?_
    refine s_op rfl (o_ar rfl rfl rfl (by omega) (by omega) ?_)
    exact sra rfl ⟨i + 1, ⟨rfl, rfl, rfl, rfl, trivial⟩, ⟨rfl, rfl, trivial⟩, ⟨rfl, by omega⟩, by omega⟩
  · have h22 := of_decide_eq_false h22
    have hie : (blocks l).take i = blocks l := List.take_of_length_le (by omega)
    rw [hie]
    refine c_exit ?_
    refine crr (by kernel_rfl) rfl ?_   -- region 11
    exact c_ret (fr rfl rfl)
theorem iWaste_c (r rr : Option Nat) (o or : Nat) (l rs : List Int) (st : St) (hx : At st r o l) (hy : At st rr or rs) (hl : l.length ≤ 1048576) (hlr : rs.length ≤ 1048576) : ACalls Try.prog 24 [.agg [.sl r o l.length], .sl rr or rs.length] st No (Pv (I (wsV l rs))) := by
  refine ent (N := 36) Try.func24 rfl (by decide) rfl rfl rfl ?_
  refine crr (by kernel_rfl) rfl ?_   -- region 0
  refine c_seq ?_
  refine c_rs (by kernel_rfl) ?_   -- region 1
  refine sr 2 rfl ?_
  refine s_op rfl (o_ex loud_n rfl (iRootsOk_c _ _ _ _ _ _ _ hx hy hl hlr) ?_)
  rintro v1 st1 rfl e1
  refine sra rfl ?_
  refine c_if rfl (fun h11 => ?_) (fun h11 => ?_)
  · have h11 := nbt h11
    refine crr (by kernel_rfl) rfl ?_   -- region 2
    exact c_ret (fr rfl (by rw [wsV_f h11]; rfl))
  have h11 := nbf h11
  have hok := h11.1.1
  have hlen := okB_len hok
  have hbl := blocks_lel l
  have ho := ord_ok h11
  have hol := ho.len
  have hw := waste_eq hok ho.1 ho.2
  have hrm : 0 ≤ roomL l ∧ roomL l ≤ 4000000 := by
    have := sm_le (fun a => if kindOf l a.toNat = 0 then szI l a else 0) (blocks l) fun x hx => by
      have := szI_le hx
      split <;> omega
    unfold roomL
    omega
  have hbd : ∀ i : Nat, 0 ≤ sm (szI l) ((ordL l rs).take i) ∧ sm (szI l) ((ordL l rs).take i) ≤ 4000000 := fun i => by
    have := sm_le (szI l) ((ordL l rs).take i) fun x hx => szI_le (ho.2 x (List.mem_of_mem_take hx)).1
    have : ((ordL l rs).take i).length ≤ 2000 := by rw [List.length_take]; omega
    omega
  rw [wsV_t h11, ← hw]
  refine c_skip ?_
  refine cds [0, 1, 2, 3, 4, 5, 6] [.q, .q, .q, .q, .f, .q, .q] (by kernel_rfl) (by kernel_rfl) ?_   -- region 3
  refine sr 4 rfl ?_
  refine s_op rfl (o_ex loud_f rfl (Room_c _ _ _ _ (hx.ex e1) hlen) ?_)
  rintro v2 st2 rfl e2
  refine s_op rfl (o_ar rfl rfl rfl (by omega) (by omega) ?_)
  refine sra rfl ?_
  refine c_seq ?_
  refine c_rs (by kernel_rfl) ?_   -- region 4
  refine sr 2 rfl ?_
  refine s_op rfl (o_ex loud_n rfl (met_c _ _ _ _ _ _ _ ((hx.ex e1).ex e2) ((hy.ex e1).ex e2) h11 hlr) ?_)
  rintro v3 st3 ⟨q, rfl, hq⟩ e3
  have hx3 := ((hx.ex e1).ex e2).ex e3
  refine sra rfl ?_
  refine c_block ?_
  refine c_lp (α := Nat) (fun i => [(5, I ((l.length : Int) - roomL l - sm (szI l) ((ordL l rs).take i))), (20, .sl q 0 (ordL l rs).length), (21, I (ordL l rs).length), (22, I i)]) (fun _ => [(2, 2, [.sl r o l.length])])
    (fun i st' => st3 = st' ∧ i ≤ (ordL l rs).length) (fun i => (ordL l rs).length - i) 0 ⟨?_, rfl, rfl, rfl, trivial⟩ ⟨rfl, rfl, trivial⟩ ⟨rfl, Nat.zero_le _⟩ ?_
  · show I _ = I _
    congr 1
    simp [sm]
  rintro i st' ⟨rfl, hi⟩
  have hb1 := hbd i
  refine crr (by kernel_rfl) rfl ?_   -- region 5
  refine c_seq ?_
  refine c_if rfl (fun h23 => ?_) (fun h23 => ?_)
  · have h23 := of_decide_eq_true h23
    have hib := (ho.2 _ (mem_rd (show i < (ordL l rs).length by omega))).1
    have hba := block_at hib
    have hse := rd_size hba.1 hba.2.2.1
    have hst := sm_take (szI l) (ordL l rs) i (by omega)
    have hgd : (ordL l rs).getD i 0 = rd (ordL l rs) i := rfl
    rw [hgd] at hst
    have hb2 := hbd (i + 1)
    rw [hst] at hb2
    have hsz : ((size l (rd (ordL l rs) i).toNat : Nat) : Int) = szI l (rd (ordL l rs) i) := rfl
    refine c_skip ?_
    refine c_seq ?_
    refine c_block ?_
    refine c_rs (by kernel_rfl) ?_   -- region 6
    refine s_op rfl (oidx rfl rfl rfl (by omega) (by omega) ?_)
    refine s_op rfl (old rfl rfl (hq.at_.rd (by omega) (by omega)) ?_)
    refine sra rfl ?_
    refine c_region (by kernel_rfl) ?_   -- region 7
    refine sr 4 rfl ?_
    refine s_op rfl (oidx rfl rfl rfl (by omega) (by omega) ?_)
    refine s_op rfl (old rfl rfl (hx3.rd (by omega) (by omega)) ?_)
    refine sr 1 rfl ?_
    rw [hse, hsz]
    refine s_op rfl (o_ar rfl rfl rfl (by omega) (by omega) ?_)
    refine sra rfl ?_
    refine c_region (by kernel_rfl) ?_   -- region 8
    refine s_op rfl (o_ar rfl rfl rfl (by omega) (by omega) ?_)
    refine sra rfl ⟨i + 1, ⟨?_, rfl, rfl, rfl, trivial⟩, ⟨rfl, rfl, trivial⟩, ⟨rfl, by omega⟩, by omega⟩
    show I _ = I _
    congr 1
    rw [hst]; omega
  · have h23 := of_decide_eq_false h23
    have hie : (ordL l rs).take i = ordL l rs := List.take_of_length_le (by omega)
    rw [hie]
    refine c_exit ?_
    refine crr (by kernel_rfl) rfl ?_   -- region 9
    exact c_ret (fr rfl rfl)
end Go.Proofs.YtmphklmhhcmbnaaW.Ax
