/- For every input the program's Reach answers as the reference's (FnExactReach). No condition. -/
import Derived.Test.YtmphklmhhcmbnaaRows
import Derived.Test.YtmphklmhhcmbnaaXw
import Derived.Test.YtmphklmhhcmbnaaYl
import Derived.Test.YtmphklmhhcmbnaaVc
namespace Go.Proofs.YtmphklmhhcmbnaaW.Ax
open Go Go.RowKit Go.Proofs Go.Proofs.Ytmphklmhhcmbnaa.Pure
set_option linter.unusedVariables false
set_option maxRecDepth 100000 in
theorem FnExactReach_c (r0 : Option Nat) (l0 : List Int) (r1 : Option Nat) (l1 : List Int) (st : St) (hx0 : At st r0 0 l0) (hr0 : ∀ i, r0 = some i → i < st.n) (hw0 : W64 l0) (hm0 : l0.length ≤ 9223372036854775807) (hx1 : At st r1 0 l1) (hr1 : ∀ i, r1 = some i → i < st.n) (hw1 : W64 l1) (hm1 : l1.length ≤ 9223372036854775807) : ACalls Try.prog 9 [.agg [.sl r0 0 l0.length], .sl r1 0 l1.length] st No (Pv (.bool true)) := by
  refine ent (N := 90) Try.func9 rfl (by decide) rfl rfl rfl ?_
  refine crr (by kernel_rfl) rfl ?_
  refine c_seq ?_
  refine crr (by kernel_rfl) rfl ?_
  refine c_if rfl (fun h => ?_) (fun h => ?_)
  · refine crr (by kernel_rfl) rfl ?_
    exact c_ret (fr rfl rfl)
  have hh2 := of_decide_eq_false h
  clear h
  refine c_skip ?_
  refine crr (by kernel_rfl) rfl ?_
  refine c_rs (by kernel_rfl) ?_
  refine sr 2 rfl ?_
  refine s_op rfl (o_ex loud_n rfl (szSlab_c (h0 := by omega) (h1 := by omega) (hn := by omega) ..) ?_)
  rintro v st' ⟨x1, rfl, hax1, hbx1, rfl⟩ _
  refine sra rfl ?_
  refine c_seq ?_
  refine c_rs (by kernel_rfl) ?_
  refine sra rfl ?_
  refine c_if rfl (fun h => ?_) (fun h => ?_)
  · refine crr (by kernel_rfl) rfl ?_
    exact c_ret (fr rfl rfl)
  have hh6 := of_decide_eq_false h
  clear h
  refine c_skip ?_
  refine c_rs (by kernel_rfl) ?_
  refine sr 1 rfl ?_
  refine s_op rfl (o_ex loud_n rfl (toSlab_c (hx := hx0) (hl := by omega) ..) ?_)
  rintro v st1 ⟨rv1, rfl, fv1⟩ e1
  have n1 := e1.n
  replace hx0 := hx0.ex e1
  replace hx1 := hx1.ex e1
  have bv1 := fv1.bd
  refine sr 1 rfl ?_
  refine s_op rfl (o_ex loud_n rfl (toIntS_c (hx := hx1) (hl := by omega) ..) ?_)
  rintro v st2 ⟨rv2, rfl, fv2⟩ e2
  have n2 := e2.n
  replace hx0 := hx0.ex e2
  replace hx1 := hx1.ex e2
  replace fv1 := fv1.ex e2
  have bv2 := fv2.bd
  refine s_op rfl (o_ex loud_n rfl (Reach_c (hx := fv1.at_) (hy := fv2.at_) (hl := by omega) (hlr := by omega) ..) ?_)
  rintro v st3 ⟨rv3, rfl, fv3⟩ e3
  have nv3 := e3.n
  replace hx0 := hx0.ex e3
  replace hx1 := hx1.ex e3
  replace fv1 := fv1.ex e3
  replace fv2 := fv2.ex e3
  have bv3 := fv3.bd
  have := reL_len l0 l1
  refine sra rfl ?_
  refine c_rs (by kernel_rfl) ?_
  refine sr 1 rfl ?_
  refine s_op rfl (o_ex loud_n rfl (toSlab_c (hx := hx0) (hl := by omega) ..) ?_)
  rintro v st4 ⟨rv4, rfl, fv4⟩ e4
  have n4 := e4.n
  replace hx0 := hx0.ex e4
  replace hx1 := hx1.ex e4
  replace fv1 := fv1.ex e4
  replace fv2 := fv2.ex e4
  replace fv3 := fv3.ex e4
  have bv4 := fv4.bd
  refine sra rfl ?_
  refine c_rs (by kernel_rfl) ?_
  refine sr 1 rfl ?_
  refine s_op rfl (o_ex loud_n rfl (toIntS_c (hx := hx1) (hl := by omega) ..) ?_)
  rintro v st5 ⟨rv5, rfl, fv5⟩ e5
  have n5 := e5.n
  replace hx0 := hx0.ex e5
  replace hx1 := hx1.ex e5
  replace fv1 := fv1.ex e5
  replace fv2 := fv2.ex e5
  replace fv3 := fv3.ex e5
  replace fv4 := fv4.ex e5
  have bv5 := fv5.bd
  refine sra rfl ?_
  refine c_rs (by kernel_rfl) ?_
  refine sr 2 rfl ?_
  refine s_op rfl (o_ex loud_n rfl (iReach_c (hx := fv4.at_) (hy := fv5.at_) (hl := by omega) (hlr := by omega) ..) ?_)
  rintro v st6 ⟨rv6, rfl, fv6⟩ e6
  have nv6 := e6.n
  replace hx0 := hx0.ex e6
  replace hx1 := hx1.ex e6
  replace fv1 := fv1.ex e6
  replace fv2 := fv2.ex e6
  replace fv3 := fv3.ex e6
  replace fv4 := fv4.ex e6
  replace fv5 := fv5.ex e6
  have bv6 := fv6.bd
  have := reL_len l0 l1
  refine sra rfl ?_
  refine c_seq ?_
  refine c_rs (by kernel_rfl) ?_
  refine sr 2 rfl ?_
  refine s_op rfl (o_pure loud_n rfl (eqIntS_t (hx := fv6.at_) (hy := fv3.at_) (hl := by omega) ..) ?_)
  refine sra rfl ?_
  refine c_if_f rfl ?_
  refine c_skip ?_
  refine c_seq ?_
  refine cds [0, 1, 2, 3, 4] [.q, .q, .f, .f, .q] (by kernel_rfl) (by kernel_rfl) ?_
  refine sr 2 rfl ?_
  refine s_op rfl (o_ex loud_f rfl (toSlab_c (hx := hx0) (hl := by omega) ..) ?_)
  rintro v st7 ⟨rv7, rfl, fv7⟩ e7
  have n7 := e7.n
  replace hx0 := hx0.ex e7
  replace hx1 := hx1.ex e7
  replace fv1 := fv1.ex e7
  replace fv2 := fv2.ex e7
  replace fv3 := fv3.ex e7
  replace fv4 := fv4.ex e7
  replace fv5 := fv5.ex e7
  replace fv6 := fv6.ex e7
  have bv7 := fv7.bd
  refine s_op rfl (o_pure loud_f rfl (eqSlab_t (hx := fv4.at_) (hy := fv7.at_) (hl := by omega) ..) ?_)
  refine sra rfl ?_
  refine c_if_f rfl ?_
  refine c_skip ?_
  refine c_seq ?_
  refine c_rs (by kernel_rfl) ?_
  refine sr 2 rfl ?_
  refine s_op rfl (o_ex loud_n rfl (toIntS_c (hx := hx1) (hl := by omega) ..) ?_)
  rintro v st8 ⟨rv8, rfl, fv8⟩ e8
  have n8 := e8.n
  replace hx0 := hx0.ex e8
  replace hx1 := hx1.ex e8
  replace fv1 := fv1.ex e8
  replace fv2 := fv2.ex e8
  replace fv3 := fv3.ex e8
  replace fv4 := fv4.ex e8
  replace fv5 := fv5.ex e8
  replace fv6 := fv6.ex e8
  replace fv7 := fv7.ex e8
  have bv8 := fv8.bd
  refine s_op rfl (o_pure loud_n rfl (eqIntS_t (hx := fv5.at_) (hy := fv8.at_) (hl := by omega) ..) ?_)
  refine sra rfl ?_
  refine c_if_f rfl ?_
  refine c_skip ?_
  refine crr (by kernel_rfl) rfl ?_
  refine c_rs (by kernel_rfl) ?_
  refine sr 2 rfl ?_
  refine s_op rfl (o_call rfl (markSlab_c (hf := fv4) (hl := by omega) (h0 := by omega) (h1 := by omega) ..) (fun i hi h => absurd hi (by have := bv4 i h; omega)) (.inl rfl) ?_)
  rintro v st9 ⟨rfl, gv4, _⟩ e9
  have n9 := e9.n
  replace hx0 := hx0.off e9 hr0 bv4 (by omega)
  replace hx1 := hx1.off e9 hr1 bv4 (by omega)
  replace fv1 := fv1.off e9 bv1 bv4 (by omega)
  replace fv2 := fv2.off e9 bv2 bv4 (by omega)
  replace fv3 := fv3.off e9 bv3 bv4 (by omega)
  replace fv5 := fv5.off e9 bv5 bv4 (by omega)
  replace fv6 := fv6.off e9 bv6 bv4 (by omega)
  replace fv7 := fv7.off e9 bv7 bv4 (by omega)
  replace fv8 := fv8.off e9 bv8 bv4 (by omega)
  replace fv4 := gv4
  refine sra rfl ?_
  refine c_rs (by kernel_rfl) ?_
  refine sr 2 rfl ?_
  refine s_op rfl (o_call rfl (markIntS_c (hf := fv5) (hl := by omega) (h0 := by omega) (h1 := by omega) ..) (fun i hi h => absurd hi (by have := bv5 i h; omega)) (.inl rfl) ?_)
  rintro v st10 ⟨rfl, gv5, _⟩ e10
  have n10 := e10.n
  replace hx0 := hx0.off e10 hr0 bv5 (by omega)
  replace hx1 := hx1.off e10 hr1 bv5 (by omega)
  replace fv1 := fv1.off e10 bv1 bv5 (by omega)
  replace fv2 := fv2.off e10 bv2 bv5 (by omega)
  replace fv3 := fv3.off e10 bv3 bv5 (by omega)
  replace fv4 := fv4.off e10 bv4 bv5 (by omega)
  replace fv6 := fv6.off e10 bv6 bv5 (by omega)
  replace fv7 := fv7.off e10 bv7 bv5 (by omega)
  replace fv8 := fv8.off e10 bv8 bv5 (by omega)
  replace fv5 := gv5
  refine sra rfl ?_
  refine c_seq ?_
  refine c_rs (by kernel_rfl) ?_
  refine sr 1 rfl ?_
  refine s_op rfl (oeq rfl (.v (.bool false)) (bF (by omega)) ?_)
  refine sr 3 rfl ?_
  refine s_op rfl (o_pure loud_n rfl (eqIntS_t (hx := fv6.at_) (hy := fv3.at_) (hl := by omega) ..) ?_)
  refine sra rfl ?_
  refine c_if_f rfl ?_
  refine c_skip ?_
  refine crr (by kernel_rfl) rfl ?_
  refine c_rs (by kernel_rfl) ?_
  refine sr 2 rfl ?_
  refine s_op rfl (o_call rfl (markIntS_c (hf := fv6) (hl := by omega) (h0 := by omega) (h1 := by omega) ..) (fun i hi h => absurd hi (by have := bv6 i h; omega)) (.inl rfl) ?_)
  rintro v st11 ⟨rfl, gv6, _⟩ e11
  have n11 := e11.n
  replace hx0 := hx0.off e11 hr0 bv6 (by omega)
  replace hx1 := hx1.off e11 hr1 bv6 (by omega)
  replace fv1 := fv1.off e11 bv1 bv6 (by omega)
  replace fv2 := fv2.off e11 bv2 bv6 (by omega)
  replace fv3 := fv3.off e11 bv3 bv6 (by omega)
  replace fv4 := fv4.off e11 bv4 bv6 (by omega)
  replace fv5 := fv5.off e11 bv5 bv6 (by omega)
  replace fv7 := fv7.off e11 bv7 bv6 (by omega)
  replace fv8 := fv8.off e11 bv8 bv6 (by omega)
  replace fv6 := gv6
  refine sra rfl ?_
  refine crr (by kernel_rfl) rfl ?_
  refine c_rs (by kernel_rfl) ?_
  refine sr 2 rfl ?_
  refine s_op rfl (o_pure loud_n rfl (heldIntS_c (hx := fv6.at_) (hl := by omega) (h0 := by omega) (h1 := by omega) ..) ?_)
  refine sra rfl ?_
  refine c_seq ?_
  refine c_rs (by kernel_rfl) ?_
  refine sr 1 rfl ?_
  refine s_op rfl (oeq rfl (.v (.bool false)) (bF (by omega)) ?_)
  refine s_end ?_
  refine c_if_f rfl ?_
  refine c_skip ?_
  refine c_seq ?_
  refine c_rs (by kernel_rfl) ?_
  refine sr 2 rfl ?_
  refine s_op rfl (oeq rfl (.v (.bool false)) (bN rfl) ?_)
  refine s_end ?_
  refine c_if_f rfl ?_
  refine c_skip ?_
  refine c_rs (by kernel_rfl) ?_
  refine sr 1 rfl ?_
  refine s_op rfl (o_ex loud_n rfl (toSlab_c (hx := hx0) (hl := by omega) ..) ?_)
  rintro v st12 ⟨rv12, rfl, fv12⟩ e12
  have n12 := e12.n
  replace hx0 := hx0.ex e12
  replace hx1 := hx1.ex e12
  replace fv1 := fv1.ex e12
  replace fv2 := fv2.ex e12
  replace fv3 := fv3.ex e12
  replace fv4 := fv4.ex e12
  replace fv5 := fv5.ex e12
  replace fv6 := fv6.ex e12
  replace fv7 := fv7.ex e12
  replace fv8 := fv8.ex e12
  have bv12 := fv12.bd
  refine sr 1 rfl ?_
  refine s_op rfl (o_ex loud_n rfl (toIntS_c (hx := hx1) (hl := by omega) ..) ?_)
  rintro v st13 ⟨rv13, rfl, fv13⟩ e13
  have n13 := e13.n
  replace hx0 := hx0.ex e13
  replace hx1 := hx1.ex e13
  replace fv1 := fv1.ex e13
  replace fv2 := fv2.ex e13
  replace fv3 := fv3.ex e13
  replace fv4 := fv4.ex e13
  replace fv5 := fv5.ex e13
  replace fv6 := fv6.ex e13
  replace fv7 := fv7.ex e13
  replace fv8 := fv8.ex e13
  replace fv12 := fv12.ex e13
  have bv13 := fv13.bd
  refine s_op rfl (o_ex loud_n rfl (iReach_c (hx := fv12.at_) (hy := fv13.at_) (hl := by omega) (hlr := by omega) ..) ?_)
  rintro v st14 ⟨rv14, rfl, fv14⟩ e14
  have nv14 := e14.n
  replace hx0 := hx0.ex e14
  replace hx1 := hx1.ex e14
  replace fv1 := fv1.ex e14
  replace fv2 := fv2.ex e14
  replace fv3 := fv3.ex e14
  replace fv4 := fv4.ex e14
  replace fv5 := fv5.ex e14
  replace fv6 := fv6.ex e14
  replace fv7 := fv7.ex e14
  replace fv8 := fv8.ex e14
  replace fv12 := fv12.ex e14
  replace fv13 := fv13.ex e14
  have bv14 := fv14.bd
  have := reL_len l0 l1
  refine sra rfl ?_
  refine c_seq ?_
  refine c_rs (by kernel_rfl) ?_
  refine sr 2 rfl ?_
  refine s_op rfl (o_pure loud_n rfl (eqIntS_t (hx := fv14.at_) (hy := fv3.at_) (hl := by omega) ..) ?_)
  refine sra rfl ?_
  refine c_if_f rfl ?_
  refine c_skip ?_
  refine crr (by kernel_rfl) rfl ?_
  refine c_rs (by kernel_rfl) ?_
  refine sr 2 rfl ?_
  refine s_op rfl (o_pure loud_n rfl (heldIntS_c (hx := fv6.at_) (hl := by omega) (h0 := by omega) (h1 := by omega) ..) ?_)
  refine sra rfl ?_
  refine c_seq ?_
  refine c_rs (by kernel_rfl) ?_
  refine sr 1 rfl ?_
  refine s_op rfl (oeq rfl (.v (.bool false)) (bF (by omega)) ?_)
  refine s_end ?_
  refine c_if_f rfl ?_
  refine c_skip ?_
  refine c_seq ?_
  refine c_rs (by kernel_rfl) ?_
  refine sr 2 rfl ?_
  refine s_op rfl (oeq rfl (.v (.bool false)) (bN rfl) ?_)
  refine s_end ?_
  refine c_if_f rfl ?_
  refine c_skip ?_
  refine crr (by kernel_rfl) rfl ?_
  exact c_ret (fr rfl rfl)
end Go.Proofs.YtmphklmhhcmbnaaW.Ax
namespace Go.Proofs.Ytmphklmhhcmbnaa.fnExactReach
open Go Go.Proofs.YtmphklmhhcmbnaaW.Ax
open Go.ChangeShapes Go.WideShapes Go.ChangeAt Go.RowKit Go.Joins
open Go.ChangeMaps (open_string shut_string)
set_option linter.unusedVariables false
theorem own : ownKnob Try.prog.godebug = none := by kernel_rfl
theorem laidOut : laidOutB Try.prog = true := by kernel_rfl
set_option maxRecDepth 100000 in
theorem lifted (os : Os) (started : os.Started) (H : Type) (enc : TypeId × Value → H) :
    ReturnsInHanded {} Try.checked os 9 .any (Rows.fnExactReachSpec.pre6 enc Try.prog Try.f9 Rows.fnExactReachRow.domain false) (Rows.fnExactReachSpec.post enc Try.prog Try.f9 false true false false) := by
  refine returnsInHanded_of_change_sized (C := Try.checked) own started (by kernel_rfl) Try.func9
    (ChangeSpec.witness6 (enc := enc) (C := Try.checked) false ⟨#[], #[.agg #[.slice none 0 0], .slice none 0 0], []⟩ 8 (by kernel_rfl) (by kernel_rfl) (by kernel_rfl) (by kernel_rfl)) ?_
  intro W base args ds gs before hval0 hW hcnd hsz0 _
  have hval : ∀ (j : Nat) t v, Try.f9.params[j]? = some t → args[j]? = some v → Value.okWide Try.prog W .any base t v := hval0
  have hW' := hW
  obtain ⟨p, q, hA0, hV, rfl, hfz, hnd⟩ := hW
  have hA : DataW.TrodAll enc Try.prog W 0 (fun _ => true) true Try.f9.params.toList args.toList ds p := hA0
  rw [Try.params9] at hA hval
  obtain ⟨v0, vs0, d0, ds0, p0, q0, hargs, rfl, rfl, h0, r0⟩ := trodAll_cons hA
  obtain ⟨v1, vs1, d1, ds1, p1, q1, rfl, rfl, rfl, h1, r1⟩ := trodAll_cons r0
  obtain ⟨rfl, rfl, rfl⟩ := trodAll_nil r1
  obtain rfl : args = #[v0, v1] := by cases args; simp_all
  obtain ⟨rfl, rfl⟩ := trodVars_none hV
  have k0 := h0
  have lt0 : ∀ x ∈ p0, x.block < W.heap.size := by obtain ⟨m, hm⟩ := k0; exact DataW.trod_lt m _ _ _ hm
  obtain ⟨w0_0, y0_0, n0, rfl, rfl, rfl, h0_0⟩ := open_agg1 Try.underlying24 (by kernel_rfl) (by kernel_rfl) (hval 0 24 v0 rfl rfl) h0
  obtain ⟨b0, L0, o0, l0, m0⟩ := came_of_trod Try.underlying22 Try.underlying3 (by kernel_rfl) h0_0
  have k1 := h1
  have lt1 : ∀ x ∈ p1, x.block < W.heap.size := by obtain ⟨m, hm⟩ := k1; exact DataW.trod_lt m _ _ _ hm
  obtain ⟨b1, L1, o1, l1, m1⟩ := came_of_arg Try.underlying22 Try.underlying3 (by kernel_rfl) (hval 1 22 v1 rfl rfl) h1
  clear hA0 hval0 hsz0
  refine (run_law (FnExactReach_c (cond b0 (some 0) none) l0 (cond b1 (some 1) none) l1 ⟨2, fun i => match i with | 0 => o0 | 1 => o1 | _ => .dead⟩ (m0.at_ _ 0 (show (0 : Nat) < 2 by omega) rfl) (cond_lt (show (0 : Nat) < 2 by omega)) m0.w64 m0.len (m1.at_ _ 1 (show (1 : Nat) < 2 by omega) rfl) (cond_lt (show (1 : Nat) < 2 by omega)) m1.w64 m1.len) (μ := fun i => match i with | 0 => L0 | 1 => L1 | _ => ⟨0, 0, 0⟩) (W := W) ?_ (vrl_cons (vr_agg (vrl_cons (m0.vr _ _ 0 (show (0 : Nat) < 2 by omega) rfl) (vrl_nil _ _))) (vrl_cons (m1.vr _ _ 1 (show (1 : Nat) < 2 by omega) rfl) (vrl_nil _ _)))).mono fun e W' ⟨he, bel⟩ => ?_
  · refine rel_rows fun i hi => ?_
    match i, hi with
    | 0, _ => exact ⟨m0.obr _ _, m0.own⟩
    | 1, _ => exact ⟨m1.obr _ _, m1.own⟩
    | i + 2, hi => exact absurd hi (by show ¬ (i + 2 < 2); omega)
  subst he
  exact ⟨_, rfl, _, _, _, [], _, [], hW', trodAll_mk1 (shut_bool Try.underlying4 _), (trodAll_cons_mk (Below.trod laidOut (by kernel_rfl) (of_decide_eq_true (by kernel_rfl)) k0 bel lt0) (trodAll_cons_mk (Below.trod laidOut (by kernel_rfl) (of_decide_eq_true (by kernel_rfl)) k1 bel lt1) trodAll_mk0)), rfl, bel.frame _, fun h => by cases h⟩
theorem over : Rows.fnExactReachRow.holds Try.pinned (OpenSpec.ofChange Rows.fnExactReachSpec) :=
  OpenClaim.holds_of_wide 9 Try.f9 rfl rfl rfl rfl rfl rfl rfl ⟨rfl, rfl, rfl, rfl, rfl⟩ rfl rfl rfl rfl rfl (by kernel_rfl) Try.func9 (by kernel_rfl)
    (of_decide_eq_true (by kernel_rfl)) (by unfold Func.isWrapper; first | (rw [if_pos (by decide +kernel)]; kernel_rfl) | (rw [if_neg (by decide +kernel)]; exact ⟨rfl, rfl⟩))
    (fun os started H enc _ => lifted os started H enc)
theorem proved : Rows.FnExactReachSaid := over
#print axioms proved
end Go.Proofs.Ytmphklmhhcmbnaa.fnExactReach
namespace Go.Proofs.Ytmphklmhhcmbnaa
/-- The row, under a short name, for the claim. -/
theorem fnExactReach_holds : Rows.FnExactReachSaid := fnExactReach.proved
end Go.Proofs.Ytmphklmhhcmbnaa
