/- For every input the program's Waste answers as the reference's (FnExactWaste). No condition. -/
import Derived.Test.YtmphklmhhcmbnaaRows
import Derived.Test.YtmphklmhhcmbnaaXw
import Derived.Test.YtmphklmhhcmbnaaYl
import Derived.Test.YtmphklmhhcmbnaaZj
namespace Go.Proofs.YtmphklmhhcmbnaaW.Ax
open Go Go.RowKit Go.Proofs Go.Proofs.Ytmphklmhhcmbnaa.Pure
set_option linter.unusedVariables false
set_option maxRecDepth 100000 in
theorem FnExactWaste_c (r0 : Option Nat) (l0 : List Int) (r1 : Option Nat) (l1 : List Int) (st : St) (hx0 : At st r0 0 l0) (hr0 : ∀ i, r0 = some i → i < st.n) (hw0 : W64 l0) (hm0 : l0.length ≤ 9223372036854775807) (hx1 : At st r1 0 l1) (hr1 : ∀ i, r1 = some i → i < st.n) (hw1 : W64 l1) (hm1 : l1.length ≤ 9223372036854775807) : ACalls Try.prog 4 [.agg [.sl r0 0 l0.length], .sl r1 0 l1.length] st No (Pv (.bool true)) := by
  refine ent (N := 43) Try.func4 rfl (by decide) rfl rfl rfl ?_
  refine crr (by kernel_rfl) rfl ?_
  refine c_seq ?_
  refine crr (by kernel_rfl) rfl ?_
  refine c_if rfl (fun h => ?_) (fun h => ?_)
  · refine crr (by kernel_rfl) rfl ?_
    exact c_ret (fr rfl rfl)
  have hh2 := of_decide_eq_false h
  clear h
  refine c_skip ?_
  refine crr (by kernel_rfl) rfl ?_
  refine c_rs (by kernel_rfl) ?_
  refine sr 2 rfl ?_
  refine s_op rfl (o_ex loud_n rfl (szSlab_c (h0 := by omega) (h1 := by omega) (hn := by omega) ..) ?_)
  rintro v st' ⟨x1, rfl, hax1, hbx1, rfl⟩ _
  refine sra rfl ?_
  refine c_seq ?_
  refine c_rs (by kernel_rfl) ?_
  refine sra rfl ?_
  refine c_if rfl (fun h => ?_) (fun h => ?_)
  · refine crr (by kernel_rfl) rfl ?_
    exact c_ret (fr rfl rfl)
  have hh6 := of_decide_eq_false h
  clear h
  refine c_skip ?_
  refine c_rs (by kernel_rfl) ?_
  refine sr 1 rfl ?_
  refine s_op rfl (o_ex loud_n rfl (toSlab_c (hx := hx0) (hl := by omega) ..) ?_)
  rintro v st1 ⟨rv1, rfl, fv1⟩ e1
  have n1 := e1.n
  replace hx0 := hx0.ex e1
  replace hx1 := hx1.ex e1
  have bv1 := fv1.bd
  refine sr 1 rfl ?_
  refine s_op rfl (o_ex loud_n rfl (toIntS_c (hx := hx1) (hl := by omega) ..) ?_)
  rintro v st2 ⟨rv2, rfl, fv2⟩ e2
  have n2 := e2.n
  replace hx0 := hx0.ex e2
  replace hx1 := hx1.ex e2
  replace fv1 := fv1.ex e2
  have bv2 := fv2.bd
  refine s_op rfl (o_ex loud_n rfl (Waste_c (hx := fv1.at_) (hy := fv2.at_) (hl := by omega) (hlr := by omega) ..) ?_)
  rintro v st3 rfl e3
  have nv3 := e3.n
  replace hx0 := hx0.ex e3
  replace hx1 := hx1.ex e3
  replace fv1 := fv1.ex e3
  replace fv2 := fv2.ex e3
  refine sra rfl ?_
  refine c_rs (by kernel_rfl) ?_
  refine sr 1 rfl ?_
  refine s_op rfl (o_ex loud_n rfl (toSlab_c (hx := hx0) (hl := by omega) ..) ?_)
  rintro v st4 ⟨rv4, rfl, fv4⟩ e4
  have n4 := e4.n
  replace hx0 := hx0.ex e4
  replace hx1 := hx1.ex e4
  replace fv1 := fv1.ex e4
  replace fv2 := fv2.ex e4
  have bv4 := fv4.bd
  refine sra rfl ?_
  refine c_rs (by kernel_rfl) ?_
  refine sr 1 rfl ?_
  refine s_op rfl (o_ex loud_n rfl (toIntS_c (hx := hx1) (hl := by omega) ..) ?_)
  rintro v st5 ⟨rv5, rfl, fv5⟩ e5
  have n5 := e5.n
  replace hx0 := hx0.ex e5
  replace hx1 := hx1.ex e5
  replace fv1 := fv1.ex e5
  replace fv2 := fv2.ex e5
  replace fv4 := fv4.ex e5
  have bv5 := fv5.bd
  refine sra rfl ?_
  refine c_rs (by kernel_rfl) ?_
  refine sr 2 rfl ?_
  refine s_op rfl (o_ex loud_n rfl (iWaste_c (hx := fv4.at_) (hy := fv5.at_) (hl := by omega) (hlr := by omega) ..) ?_)
  rintro v st6 rfl e6
  have nv6 := e6.n
  replace hx0 := hx0.ex e6
  replace hx1 := hx1.ex e6
  replace fv1 := fv1.ex e6
  replace fv2 := fv2.ex e6
  replace fv4 := fv4.ex e6
  replace fv5 := fv5.ex e6
  refine sra rfl ?_
  refine c_seq ?_
  refine c_rs (by kernel_rfl) ?_
  refine sr 2 rfl ?_
  refine s_op rfl (oeq rfl (.v (.bool false)) (bN rfl) ?_)
  refine s_end ?_
  refine c_if_f rfl ?_
  refine c_skip ?_
  refine c_seq ?_
  refine cds [0, 1, 2, 3, 4] [.q, .q, .f, .f, .q] (by kernel_rfl) (by kernel_rfl) ?_
  refine sr 2 rfl ?_
  refine s_op rfl (o_ex loud_f rfl (toSlab_c (hx := hx0) (hl := by omega) ..) ?_)
  rintro v st7 ⟨rv7, rfl, fv7⟩ e7
  have n7 := e7.n
  replace hx0 := hx0.ex e7
  replace hx1 := hx1.ex e7
  replace fv1 := fv1.ex e7
  replace fv2 := fv2.ex e7
  replace fv4 := fv4.ex e7
  replace fv5 := fv5.ex e7
  have bv7 := fv7.bd
  refine s_op rfl (o_pure loud_f rfl (eqSlab_t (hx := fv4.at_) (hy := fv7.at_) (hl := by omega) ..) ?_)
  refine sra rfl ?_
  refine c_if_f rfl ?_
  refine c_skip ?_
  refine c_seq ?_
  refine c_rs (by kernel_rfl) ?_
  refine sr 2 rfl ?_
  refine s_op rfl (o_ex loud_n rfl (toIntS_c (hx := hx1) (hl := by omega) ..) ?_)
  rintro v st8 ⟨rv8, rfl, fv8⟩ e8
  have n8 := e8.n
  replace hx0 := hx0.ex e8
  replace hx1 := hx1.ex e8
  replace fv1 := fv1.ex e8
  replace fv2 := fv2.ex e8
  replace fv4 := fv4.ex e8
  replace fv5 := fv5.ex e8
  replace fv7 := fv7.ex e8
  have bv8 := fv8.bd
  refine s_op rfl (o_pure loud_n rfl (eqIntS_t (hx := fv5.at_) (hy := fv8.at_) (hl := by omega) ..) ?_)
  refine sra rfl ?_
  refine c_if_f rfl ?_
  refine c_skip ?_
  refine crr (by kernel_rfl) rfl ?_
  exact c_ret (fr rfl rfl)
end Go.Proofs.YtmphklmhhcmbnaaW.Ax
namespace Go.Proofs.Ytmphklmhhcmbnaa.fnExactWaste
open Go Go.Proofs.YtmphklmhhcmbnaaW.Ax
open Go.ChangeShapes Go.WideShapes Go.ChangeAt Go.RowKit Go.Joins
open Go.ChangeMaps (open_string shut_string)
set_option linter.unusedVariables false
theorem own : ownKnob Try.prog.godebug = none := by kernel_rfl
theorem laidOut : laidOutB Try.prog = true := by kernel_rfl
set_option maxRecDepth 100000 in
theorem lifted (os : Os) (started : os.Started) (H : Type) (enc : TypeId × Value → H) :
    ReturnsInHanded {} Try.checked os 4 .any (Rows.fnExactWasteSpec.pre6 enc Try.prog Try.f4 Rows.fnExactWasteRow.domain false) (Rows.fnExactWasteSpec.post enc Try.prog Try.f4 false true false false) := by
  refine returnsInHanded_of_change_sized (C := Try.checked) own started (by kernel_rfl) Try.func4
    (ChangeSpec.witness6 (enc := enc) (C := Try.checked) false ⟨#[], #[.agg #[.slice none 0 0], .slice none 0 0], []⟩ 8 (by kernel_rfl) (by kernel_rfl) (by kernel_rfl) (by kernel_rfl)) ?_
  intro W base args ds gs before hval0 hW hcnd hsz0 _
  have hval : ∀ (j : Nat) t v, Try.f4.params[j]? = some t → args[j]? = some v → Value.okWide Try.prog W .any base t v := hval0
  have hW' := hW
  obtain ⟨p, q, hA0, hV, rfl, hfz, hnd⟩ := hW
  have hA : DataW.TrodAll enc Try.prog W 0 (fun _ => true) true Try.f4.params.toList args.toList ds p := hA0
  rw [Try.params4] at hA hval
  obtain ⟨v0, vs0, d0, ds0, p0, q0, hargs, rfl, rfl, h0, r0⟩ := trodAll_cons hA
  obtain ⟨v1, vs1, d1, ds1, p1, q1, rfl, rfl, rfl, h1, r1⟩ := trodAll_cons r0
  obtain ⟨rfl, rfl, rfl⟩ := trodAll_nil r1
  obtain rfl : args = #[v0, v1] := by cases args; simp_all
  obtain ⟨rfl, rfl⟩ := trodVars_none hV
  have k0 := h0
  have lt0 : ∀ x ∈ p0, x.block < W.heap.size := by obtain ⟨m, hm⟩ := k0; exact DataW.trod_lt m _ _ _ hm
  obtain ⟨w0_0, y0_0, n0, rfl, rfl, rfl, h0_0⟩ := open_agg1 Try.underlying24 (by kernel_rfl) (by kernel_rfl) (hval 0 24 v0 rfl rfl) h0
  obtain ⟨b0, L0, o0, l0, m0⟩ := came_of_trod Try.underlying22 Try.underlying3 (by kernel_rfl) h0_0
  have k1 := h1
  have lt1 : ∀ x ∈ p1, x.block < W.heap.size := by obtain ⟨m, hm⟩ := k1; exact DataW.trod_lt m _ _ _ hm
  obtain ⟨b1, L1, o1, l1, m1⟩ := came_of_arg Try.underlying22 Try.underlying3 (by kernel_rfl) (hval 1 22 v1 rfl rfl) h1
  clear hA0 hval0 hsz0
  refine (run_law (FnExactWaste_c (cond b0 (some 0) none) l0 (cond b1 (some 1) none) l1 ⟨2, fun i => match i with | 0 => o0 | 1 => o1 | _ => .dead⟩ (m0.at_ _ 0 (show (0 : Nat) < 2 by omega) rfl) (cond_lt (show (0 : Nat) < 2 by omega)) m0.w64 m0.len (m1.at_ _ 1 (show (1 : Nat) < 2 by omega) rfl) (cond_lt (show (1 : Nat) < 2 by omega)) m1.w64 m1.len) (μ := fun i => match i with | 0 => L0 | 1 => L1 | _ => ⟨0, 0, 0⟩) (W := W) ?_ (vrl_cons (vr_agg (vrl_cons (m0.vr _ _ 0 (show (0 : Nat) < 2 by omega) rfl) (vrl_nil _ _))) (vrl_cons (m1.vr _ _ 1 (show (1 : Nat) < 2 by omega) rfl) (vrl_nil _ _)))).mono fun e W' ⟨he, bel⟩ => ?_
  · refine rel_rows fun i hi => ?_
    match i, hi with
    | 0, _ => exact ⟨m0.obr _ _, m0.own⟩
    | 1, _ => exact ⟨m1.obr _ _, m1.own⟩
    | i + 2, hi => exact absurd hi (by show ¬ (i + 2 < 2); omega)
  subst he
  exact ⟨_, rfl, _, _, _, [], _, [], hW', trodAll_mk1 (shut_bool Try.underlying4 _), (trodAll_cons_mk (Below.trod laidOut (by kernel_rfl) (of_decide_eq_true (by kernel_rfl)) k0 bel lt0) (trodAll_cons_mk (Below.trod laidOut (by kernel_rfl) (of_decide_eq_true (by kernel_rfl)) k1 bel lt1) trodAll_mk0)), rfl, bel.frame _, fun h => by cases h⟩
theorem over : Rows.fnExactWasteRow.holds Try.pinned (OpenSpec.ofChange Rows.fnExactWasteSpec) :=
  OpenClaim.holds_of_wide 4 Try.f4 rfl rfl rfl rfl rfl rfl rfl ⟨rfl, rfl, rfl, rfl, rfl⟩ rfl rfl rfl rfl rfl (by kernel_rfl) Try.func4 (by kernel_rfl)
    (of_decide_eq_true (by kernel_rfl)) (by unfold Func.isWrapper; first | (rw [if_pos (by decide +kernel)]; kernel_rfl) | (rw [if_neg (by decide +kernel)]; exact ⟨rfl, rfl⟩))
    (fun os started H enc _ => lifted os started H enc)
theorem proved : Rows.FnExactWasteSaid := over
#print axioms proved
end Go.Proofs.Ytmphklmhhcmbnaa.fnExactWaste
namespace Go.Proofs.Ytmphklmhhcmbnaa
/-- The row, under a short name, for the claim. -/
theorem fnExactWaste_holds : Rows.FnExactWasteSaid := fnExactWaste.proved
end Go.Proofs.Ytmphklmhhcmbnaa
