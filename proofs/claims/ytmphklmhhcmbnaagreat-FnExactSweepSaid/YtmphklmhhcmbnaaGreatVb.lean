/- Sweep and Collect: marking to its end, and sweeping to its end. -/
import Derived.Test.YtmphklmhhcmbnaaGreatVa
import Derived.Test.YtmphklmhhcmbnaaGreatZr
import Derived.Test.YtmphklmhhcmbnaaGreatZk
namespace Go.Proofs.YtmphklmhhcmbnaaGreatW.Ax
open Go Go.RowKit Go.Proofs Go.Proofs.YtmphklmhhcmbnaaGreat.Pure
set_option linter.unusedVariables false
set_option maxRecDepth 100000

/-- What is left of a slab that is marked and swept to its end. -/
noncomputable def spW (l : List Int) (p : Int) (g b : List Int) (q : Int) : List Int := swW l (msQ l p g b q 2000) (msG l p g b q 2000) (msB l p g b q 2000) q 2000
noncomputable def spP (l : List Int) (p : Int) (g b : List Int) (q : Int) : Int := swP l (msQ l p g b q 2000) (msG l p g b q 2000) (msB l p g b q 2000) q 2000
noncomputable def spG (l : List Int) (p : Int) (g b : List Int) (q : Int) : List Int := swG l (msQ l p g b q 2000) (msG l p g b q 2000) (msB l p g b q 2000) q 2000
noncomputable def spB (l : List Int) (p : Int) (g b : List Int) (q : Int) : List Int := swB l (msQ l p g b q 2000) (msG l p g b q 2000) (msB l p g b q 2000) q 2000
noncomputable def spQ (l : List Int) (p : Int) (g b : List Int) (q : Int) : Int := swQ l (msQ l p g b q 2000) (msG l p g b q 2000) (msB l p g b q 2000) q 2000
theorem sp_len (l : List Int) (p : Int) (g b : List Int) (q : Int) : (spW l p g b q).length ≤ l.length ∧ (spG l p g b q).length ≤ g.length + 2000 ∧ (spB l p g b q).length ≤ b.length + 2000 := by
  have h1 := ms_len l p g b q 2000
  have h2 := sw_len l (msQ l p g b q 2000) (msG l p g b q 2000) (msB l p g b q 2000) q 2000
  unfold spW spG spB
  omega
noncomputable def coL (l rs : List Int) : List Int := cond (bd (Rts l rs)) (spW l (stP l rs) (stG l rs) [] 0) []
theorem coL_len (l rs : List Int) : (coL l rs).length ≤ l.length := by
  unfold coL
  cases bd (Rts l rs) with
  | false => simp
  | true => exact (sp_len _ _ _ _ _).1
section
variable (p q : Int) (r rg rb : Option Nat) (o : Nat) (l g b : List Int) (st : St)
theorem Sweep_c (hx : At st r o l) (hl : l.length ≤ 1048576) (hg : At st rg 0 g) (hb : At st rb 0 b) (hlg : g.length ≤ 1048576) (hlb : b.length ≤ 1048576) (hq : W1 q) :
    ACalls Tryz.prog 7 [.agg [.sl r o l.length], .agg [I p, .sl rg 0 g.length, .sl rb 0 b.length, I q]] st No (Sm st.n (spW l p g b q) (spP l p g b q) (spG l p g b q) (spB l p g b q) (spQ l p g b q)) := by
  have hml := ms_len l p g b q 2000
  refine ent (N := 18) Tryz.func7 rfl (by decide) rfl rfl rfl ?_
  refine crr (by kernel_rfl) rfl ?_   -- region 0
  refine cdx [2, 3] [8, 9] [0, 1, 2, 3, 4, 5, 6, 7] [false, false, false, true, true, false, false, false] [10, 11] [.n, .n] (by kernel_rfl) (by kernel_rfl) ?_   -- region 1
  refine yr 3 rfl ?_
  refine y_b rfl rfl (b_call rfl (MarkStep_c p q 2000 r rg rb o l g b _ hx hl hg hb (by omega) (by omega) (by unfold W1; omega)) no_T ?_)
  rintro v1 st1 ⟨g1, b1, rfl, hf1, hf2, hd⟩ e1
  refine y_b rfl rfl (b_call rfl (SweepStep_c _ q 2000 r g1 b1 o l _ _ _ (hx.ex e1) hl hf1.at_ hf2.at_ (by omega) (by omega) (by unfold W1; omega)) no_T ?_)
  rintro v2 st2 ⟨x1, x2, x3, rfl, y1, y2, y3, y4, y5⟩ e2
  refine yr 3 rfl ?_
  refine y_end ?_
  refine sra rfl ?_
  refine c_sj (α := Unit) (fun _ => []) (fun _ => [(4, 4, [.sl x1 0 (spW l p g b q).length]), (5, 5, [I (spP l p g b q), .sl x2 0 (spG l p g b q).length, .sl x3 0 (spB l p g b q).length, I (spQ l p g b q)])]) (fun _ st'' => st2 = st'') ?_ ?_
  · refine c_tr1 [0] [0, 1] 3 (.node [(1, .node [(2, .node [(3, .leaf)])]), (2, .node [(1, .node [(3, .leaf)])])]) (by kernel_rfl) (by kernel_rfl) ?_   -- region 2
    refine sr 1 rfl ?_
    refine s_end ?_
    refine ⟨⟨_, rfl, rfl, ?_⟩, ⟨_, rfl, rfl, ?_⟩, trivial⟩
    all_goals
      refine run2_ok rfl ?_
      refine ⟨⟨_, rfl, rfl, ?_⟩, trivial⟩
      refine run2_ok rfl ?_
      refine ⟨⟨_, rfl, rfl, ?_⟩, trivial⟩
      refine run2_ok rfl ?_
      exact ⟨(), trivial, ⟨rfl, rfl, rfl, rfl, trivial⟩, rfl⟩
  rintro _ _ rfl
  exact c_ret (fr rfl ⟨x1, x2, x3, rfl, y1.le e1.n, y2.le e1.n, y3.le e1.n, y4, y5⟩)
theorem iSweep_c (hx : At st r o l) (hl : l.length ≤ 1048576) (hg : At st rg 0 g) (hb : At st rb 0 b) (hlg : g.length ≤ 1048576) (hlb : b.length ≤ 1048576) (hq : W1 q) :
    ACalls Tryz.prog 10 [.agg [.sl r o l.length], .agg [I p, .sl rg 0 g.length, .sl rb 0 b.length, I q]] st No (Sm st.n (spW l p g b q) (spP l p g b q) (spG l p g b q) (spB l p g b q) (spQ l p g b q)) := by
  have hml := ms_len l p g b q 2000
  refine ent (N := 13) Tryz.func10 rfl (by decide) rfl rfl rfl ?_
  refine crr (by kernel_rfl) rfl ?_   -- region 0
  refine cdx [2, 3] [] [0, 1, 2, 3, 4, 5, 6] [false, false, false, true, true, false, false] [7, 8] [.n, .n] (by kernel_rfl) (by kernel_rfl) ?_   -- region 1
  refine yr 3 rfl ?_
  refine y_b rfl rfl (b_call rfl (iMarkStep_c p q 2000 r rg rb o l g b _ hx hl hg hb (by omega) (by omega) hq (by unfold W1; omega)) no_T ?_)
  rintro v1 st1 ⟨g1, b1, rfl, hf1, hf2, hd⟩ e1
  refine y_b rfl rfl (b_call rfl (iSweepStep_c _ q 2000 r g1 b1 o l _ _ _ (hx.ex e1) hl hf1.at_ hf2.at_ (by omega) (by omega) hq (by unfold W1; omega)) no_T ?_)
  rintro v2 st2 ⟨x1, x2, x3, rfl, y1, y2, y3, y4, y5⟩ e2
  refine yr 2 rfl ?_
  refine y_end ?_
  refine sra rfl ?_
  exact c_ret (fr rfl ⟨x1, x2, x3, rfl, y1.le e1.n, y2.le e1.n, y3.le e1.n, y4, y5⟩)
end
section
variable (r rr : Option Nat) (o or : Nat) (l rs : List Int) (st : St)
theorem Collect_c (hx : At st r o l) (hy : At st rr or rs) (hl : l.length ≤ 1048576) (hlr : rs.length ≤ 1048576) : ACalls Tryz.prog 17 [.agg [.sl r o l.length], .sl rr or rs.length] st No (Sn st (coL l rs)) := by
  have hgl := stG_len l rs
  refine ent (N := 21) Tryz.func17 rfl (by decide) rfl rfl rfl ?_
  refine crr (by kernel_rfl) rfl ?_   -- region 0
  refine c_seq ?_
  refine c_rs (by kernel_rfl) ?_   -- region 1
  refine sr 2 rfl ?_
  refine s_op rfl (o_ex loud_n rfl (RootsOk_c r rr o or l rs _ hx hy hl hlr) ?_)
  rintro v1 st1 rfl e1
  refine sra rfl ?_
  refine c_if rfl (fun h10 => ?_) (fun h10 => ?_)
  · -- then
    have h10 := nbt h10
    have e0 : coL l rs = [] := by unfold coL; rw [bdf.2 h10]; rfl
    rw [e0]
    refine crr (by kernel_rfl) rfl ?_   -- region 2
    exact c_ret (fr rfl ⟨none, rfl, .inl ⟨rfl, rfl⟩⟩)
  · -- else
    have h10 := nbf h10
    have e0 : coL l rs = spW l (stP l rs) (stG l rs) [] 0 := by unfold coL; rw [bdt.2 h10]; rfl
    rw [e0]
    refine c_skip ?_
    refine cdx [2] [8, 9] [0, 1, 2, 3, 4, 5, 6, 7] [false, false, false, true, true, false, false, false] [10, 11] [.n, .n] (by kernel_rfl) (by kernel_rfl) ?_   -- region 3
    refine yr 3 rfl ?_
    refine y_b rfl rfl (b_call rfl (Start_c r rr o or l rs _ (hx.ex e1) (hy.ex e1) hl hlr) no_T ?_)
    rintro v2 st2 ⟨g1, b1, rfl, hf1, hf2, hd⟩ e2
    refine y_b rfl rfl (b_call rfl (Sweep_c _ 0 r g1 b1 o l _ _ _ ((hx.ex e1).ex e2) hl hf1.at_ hf2.at_ (by omega) (by simp) (by unfold W1; omega)) no_T ?_)
    rintro v3 st3 ⟨x1, x2, x3, rfl, y1, y2, y3, y4, y5⟩ e3
    refine yr 3 rfl ?_
    refine y_end ?_
    refine sra rfl ?_
    refine crr (by kernel_rfl) rfl ?_   -- region 4
    exact c_ret (fr rfl ⟨x1, rfl, y1.le (e1.tr e2).n⟩)
theorem iCollect_c (hx : At st r o l) (hy : At st rr or rs) (hl : l.length ≤ 1048576) (hlr : rs.length ≤ 1048576) : ACalls Tryz.prog 19 [.agg [.sl r o l.length], .sl rr or rs.length] st No (Sn st (coL l rs)) := by
  have hgl := stG_len l rs
  refine ent (N := 21) Tryz.func19 rfl (by decide) rfl rfl rfl ?_
  refine crr (by kernel_rfl) rfl ?_   -- region 0
  refine c_seq ?_
  refine c_rs (by kernel_rfl) ?_   -- region 1
  refine sr 2 rfl ?_
  refine s_op rfl (o_ex loud_n rfl (iRootsOk_c r rr o or l rs _ hx hy hl hlr) ?_)
  rintro v1 st1 rfl e1
  refine sra rfl ?_
  refine c_if rfl (fun h10 => ?_) (fun h10 => ?_)
  · -- then
    have h10 := nbt h10
    have e0 : coL l rs = [] := by unfold coL; rw [bdf.2 h10]; rfl
    rw [e0]
    refine crr (by kernel_rfl) rfl ?_   -- region 2
    exact c_ret (fr rfl ⟨none, rfl, .inl ⟨rfl, rfl⟩⟩)
  · -- else
    have h10 := nbf h10
    have e0 : coL l rs = spW l (stP l rs) (stG l rs) [] 0 := by unfold coL; rw [bdt.2 h10]; rfl
    rw [e0]
    refine c_skip ?_
    refine cdx [2] [8, 9] [0, 1, 2, 3, 4, 5, 6, 7] [false, false, false, true, true, false, false, false] [10, 11] [.n, .n] (by kernel_rfl) (by kernel_rfl) ?_   -- region 3
    refine yr 3 rfl ?_
    refine y_b rfl rfl (b_call rfl (iStart_c r rr o or l rs _ (hx.ex e1) (hy.ex e1) hl hlr) no_T ?_)
    rintro v2 st2 ⟨g1, b1, rfl, hf1, hf2, hd⟩ e2
    refine y_b rfl rfl (b_call rfl (iSweep_c _ 0 r g1 b1 o l _ _ _ ((hx.ex e1).ex e2) hl hf1.at_ hf2.at_ (by omega) (by simp) (by unfold W1; omega)) no_T ?_)
    rintro v3 st3 ⟨x1, x2, x3, rfl, y1, y2, y3, y4, y5⟩ e3
    refine yr 3 rfl ?_
    refine y_end ?_
    refine sra rfl ?_
    refine crr (by kernel_rfl) rfl ?_   -- region 4
    exact c_ret (fr rfl ⟨x1, rfl, y1.le (e1.tr e2).n⟩)
end
end Go.Proofs.YtmphklmhhcmbnaaGreatW.Ax
