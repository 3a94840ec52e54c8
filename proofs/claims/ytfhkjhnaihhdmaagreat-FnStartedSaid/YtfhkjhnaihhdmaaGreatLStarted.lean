/- Marking that is started (P8): the law, walked. -/
import Derived.Test.YtfhkjhnaihhdmaaGreatGk
import Derived.Test.YtfhkjhnaihhdmaaGreatVc
import Derived.Test.YtfhkjhnaihhdmaaGreatZv
import Derived.Test.YtfhkjhnaihhdmaaGreatHa
namespace Go.Proofs.YtfhkjhnaihhdmaaGreatW.Ax
open Go Go.RowKit Go.Proofs Go.Proofs.YtfhkjhnaihhdmaaGreat.Pure
set_option linter.unusedVariables false
set_option maxRecDepth 100000

theorem st_t {l rs : List Int} (h : Rts l rs) : stP l rs = 1 ∧ stG l rs = rs.foldl ad [] := by
  unfold stP stG; rw [bdt.2 h]; exact ⟨rfl, rfl⟩
theorem st_f {l rs : List Int} (h : ¬ Rts l rs) : stP l rs = 0 ∧ stG l rs = [] := by
  unfold stP stG; rw [bdf.2 h]; exact ⟨rfl, rfl⟩
theorem re_t {l rs : List Int} (h : Rts l rs) : reL l rs = srtL (ordL l rs) := by unfold reL; rw [bdt.2 h]; rfl
theorem re_mem {l rs : List Int} (h : Rts l rs) {x : Int} (hx : x ∈ rs.foldl ad []) : x ∈ reL l rs := by
  rw [re_t h]
  exact (List.mergeSort_perm _ _).mem_iff.2 (start_sub hx)
theorem ms_reach {l rs : List Int} (h : Rts l rs) : msB l 1 (rs.foldl ad []) [] 0 2000 = reL l rs := by
  unfold msB
  rw [bdt.2 ⟨(start_tri h).1, rfl⟩, cond_true, re_t h]
  show (runM l 2000 (rs.foldl ad [], [])).2 = _
  rw [(run_reach h).1]
  exact sortB_eq _
theorem FnStarted_c (r : Option Nat) (code : List Int) (st : St) (hx : AtB st r 0 code) (h8 : U8 code) (hm : code.length ≤ 9223372036854775807) (hr : ∀ j, r = some j → j < st.n) : ACalls Tryz.prog 5 [.sl r 0 code.length] st No (Pv (.bool true)) := by
  refine ent (N := 66) Tryz.func5 rfl (by decide) rfl rfl rfl ?_
  refine crr (by kernel_rfl) rfl ?_   -- region 0
  refine c_seq ?_
  refine c_rs (by kernel_rfl) ?_   -- region 1
  refine sr 1 rfl ?_
  refine s_op rfl (o_pure loud_n rfl (big_c ..) ?_)
  refine s_end ?_
  refine c_if rfl (fun h14 => ?_) (fun h14 => ?_)
  · refine crr (by kernel_rfl) rfl ?_   -- region 2
    exact c_ret (fr rfl rfl)
  have h14 := of_decide_eq_false h14
  refine c_skip ?_
  have hl : code.length ≤ 1048576 := by omega
  refine c_rs (by kernel_rfl) ?_   -- region 3
  refine sr 1 rfl ?_
  refine s_op rfl (o_ex loud_n rfl (DrawStart_c r code _ hx h8 hl hr) ?_)
  rintro v1 st1 ⟨q, o, l, p, R, rfl, ha, hll, _, hfR, hR⟩ e1
  have hp := hfR.at_
  clear hfR
  have hgl := stG_len l R
  refine sra rfl ?_
  refine c_rs (by kernel_rfl) ?_   -- region 4
  refine sr 2 rfl ?_
  refine s_op rfl (o_ex loud_n rfl (iStart_c q p o 0 l R _ ha hp (by omega) (by omega)) ?_)
  rintro v2 st2 ⟨g2, b2, rfl, hg2, hb2, _⟩ e2
  replace ha := ha.ex e2
  replace hp := hp.ex e2
  have hg := hg2.at_
  have hb := hb2.at_
  clear hg2 hb2
  refine sra rfl ?_
  refine c_seq ?_
  refine cds [0, 1, 2, 3, 4, 5] [.q, .q, .q, .f, .f, .q] (by kernel_rfl) (by kernel_rfl) ?_   -- region 5
  refine sr 3 rfl ?_
  refine s_op rfl (o_ex loud_f rfl (Start_c q p o 0 l R _ ha hp (by omega) (by omega)) ?_)
  rintro v3 st3 ⟨g3, b3, rfl, hg3, hb3, _⟩ e3
  replace ha := ha.ex e3
  replace hp := hp.ex e3
  replace hg := hg.ex e3
  replace hb := hb.ex e3
  refine s_op rfl (o_pure loud_f rfl (sameMarker_t _ _ _ _ _ _ _ _ _ _ _ _ _ hg hb hg3.at_ hb3.at_ (by omega) (by simp)) ?_)
  refine sra rfl ?_
  refine c_if_f rfl ?_
  refine c_skip ?_
  refine c_seq ?_
  refine c_rs (by kernel_rfl) ?_   -- region 7
  refine sr 2 rfl ?_
  refine s_op rfl (o_ex loud_n rfl (RootsOk_c _ _ _ _ _ _ _ ha hp (by omega) (by omega)) ?_)
  rintro v4 st4 rfl e4
  replace ha := ha.ex e4
  replace hp := hp.ex e4
  replace hg := hg.ex e4
  replace hb := hb.ex e4
  refine sra rfl ?_
  refine c_if rfl (fun h26 => ?_) (fun h26 => ?_)
  · -- then
    have h26 := nbt h26
    obtain ⟨t1, t2⟩ := st_f h26
    refine c_sj (α := Unit) (fun _ => [(2, .bool true)]) (fun _ => []) (fun _ st' => True) ?_ ?_
    · -- region 8
      refine c_region (by kernel_rfl) ?_
      rw [t1, t2]
      refine sr 2 rfl ?_
      refine s_op rfl (oeq rfl (.v (.bool true)) (bT rfl) ?_)
      refine sr 4 rfl ?_
      refine s_op rfl (oeq rfl (.v (.bool true)) (bT rfl) ?_)
      exact sra rfl ⟨(), ⟨rfl, trivial⟩, trivial, trivial⟩
    rintro _ _ _
    exact c_ret (fr rfl rfl)
  · -- else
    have h26 := nbf h26
    obtain ⟨t1, t2⟩ := st_t h26
    rw [t2] at hgl
    rw [t2] at hg
    rw [t1, t2]
    have hrl := reL_len l R
    refine c_skip ?_
    refine c_seq ?_
    refine crr (by kernel_rfl) rfl ?_   -- region 9
    refine c_block ?_
    generalize hG : R.foldl ad [] = G at hgl hg
    refine c_lp (α := Nat) (fun i => [(4, .sl p 0 R.length), (6, I i)]) (fun i => [(3, 3, [.sl q o l.length]), (5, 5, [I 1, .sl g2 0 G.length, .sl b2 0 ([] : List Int).length, I 0])]) (fun i st' => Ex st4 st' ∧ i ≤ G.length) (fun i => G.length - i) 0 ⟨rfl, rfl, trivial⟩ ⟨rfl, rfl, rfl, rfl, trivial⟩ ⟨Ext.refl _ _, Nat.zero_le _⟩ ?_
    rintro i st5 ⟨e5, hi⟩
    replace ha := ha.ex e5
    replace hp := hp.ex e5
    replace hg := hg.ex e5
    replace hb := hb.ex e5
    refine c_seq ?_
    refine crr (by kernel_rfl) rfl ?_   -- region 10
    refine c_if rfl (fun h40 => ?_) (fun h40 => ?_)
    · -- then
      have h40 := of_decide_eq_true h40
      have hmem : rd G i ∈ reL l R := re_mem h26 (by rw [hG]; exact mem_rd (by omega))
      refine c_skip ?_
      refine c_seq ?_
      refine c_block ?_
      refine cds [0, 1, 3, 4, 5, 6, 7, 2, 8, 9] [.q, .q, .q, .q, .q, .q, .q, .f, .f, .q] (by kernel_rfl) (by kernel_rfl) ?_   -- region 12
      refine sr 5 rfl ?_
      refine s_op rfl (oidx rfl rfl rfl (by omega) (by omega) ?_)   -- 49 := indexAddr 24 (tmp 47) (tmp 48)
      refine s_op rfl (old rfl rfl (hg.rd (by omega) (by omega)) ?_)   -- 50 := load 3 (tmp 49)
      refine s_op rfl (o_ex loud_f rfl (iReach_c q p o 0 l R _ ha hp (by omega) (by omega)) ?_)
      rintro v6 st6 ⟨q6, rfl, hf6⟩ e6
      refine s_op rfl (o_pure loud_f rfl (lwithin_c _ _ _ _ _ hf6.at_ (by omega)) ?_)
      rw [bdt.2 hmem]
      refine sra rfl ?_
      refine c_if_f rfl ?_
      refine c_skip ?_
      refine c_region (by kernel_rfl) ?_   -- region 11
      refine sr 1 rfl ?_
      refine s_op rfl (o_ar rfl rfl rfl (by omega) (by omega) ?_)   -- 42 := binOp BinOp.add 3 (tmp 41) (const (Value.int IntKind.i64 1)) 3
      refine sra rfl ?_
      exact ⟨i + 1, ⟨rfl, rfl, trivial⟩, ⟨rfl, rfl, rfl, rfl, trivial⟩, ⟨e5.tr e6, by omega⟩, by omega⟩   -- round ends
    · -- else
      refine c_exit ?_
      have hT : Tri l 1 G [] 0 := by rw [← hG]; exact start_tri h26
      have hB : msB l 1 G [] 0 2000 = reL l R := by rw [← hG]; exact ms_reach h26
      refine c_sj (α := Unit) (fun _ => [(2, .bool true)]) (fun _ => []) (fun _ st' => True) ?_ ?_
      · -- region 14
        refine cd1 [0, 1, 2, 3, 4, 5, 8, 9, 6, 7, 10, 11, 12, 13] [.q, .q, .f, .q, .q, .q, .q, .q, .f, .q, .f, .f, .q, .q] (by kernel_rfl) (by kernel_rfl) ?_
        refine sr 2 rfl ?_
        refine s_op rfl (o_ex loud_f rfl (iTriOk_c 1 0 q g2 b2 o l G [] _ ha (by omega) hg hb (by omega) (by simp) (by unfold W1; omega)) ?_)
        rintro v6 st6 rfl e6
        rw [bdt.2 hT]
        replace ha := ha.ex e6
        replace hp := hp.ex e6
        replace hg := hg.ex e6
        replace hb := hb.ex e6
        refine sr 5 rfl ?_
        refine s_op rfl (o_ex loud_f rfl (iMarkStep_c 1 0 2000 q g2 b2 o l G [] _ ha (by omega) hg hb (by omega) (by simp) (by unfold W1; omega) (by unfold W1; omega)) ?_)
        rintro v7 st7 ⟨g7, b7, rfl, hg7, hb7, _⟩ e7
        rw [hB] at hb7 ⊢
        replace ha := ha.ex e7
        replace hp := hp.ex e7
        refine sr 1 rfl ?_
        refine s_op rfl (o_ex loud_f rfl (iReach_c q p o 0 l R _ ha hp (by omega) (by omega)) ?_)
        rintro v8 st8 ⟨q8, rfl, hf8⟩ e8
        refine s_op rfl (o_pure loud_f rfl (sameInts_t _ _ _ _ _ _ (hb7.at_.ex e8) hf8.at_ (by omega)) ?_)
        exact sra rfl ⟨(), ⟨rfl, trivial⟩, trivial, trivial⟩
      rintro _ _ _
      exact c_ret (fr rfl rfl)
end Go.Proofs.YtfhkjhnaihhdmaaGreatW.Ax
