/- For every input the program's Names answers as the reference's (FnExactNames). No condition. -/
import Derived.Test.YtfnfiapacbeemaaRows
import Derived.Test.YtfnfiapacbeemaaXw
import Derived.Test.YtfnfiapacbeemaaYl
import Derived.Test.YtfnfiapacbeemaaGp
namespace Go.Proofs.YtfnfiapacbeemaaW.Ax
open Go Go.RowKit Go.Proofs Go.Proofs.Ytfnfiapacbeemaa.Pure
set_option linter.unusedVariables false
set_option maxRecDepth 100000 in
theorem FnExactNames_c (r0 : Option Nat) (l0 : List Int) (a1 : Int) (st : St) (hx0 : At st r0 0 l0) (hr0 : ∀ i, r0 = some i → i < st.n) (hw0 : W64 l0) (hm0 : l0.length ≤ 9223372036854775807) (wf1 : W1 a1) : ACalls Try.prog 3 [.agg [.sl r0 0 l0.length], I a1] st No (Pv (.bool true)) := by
  refine ent (N := 74) Try.func3 rfl (by decide) rfl rfl rfl ?_
  refine crr (by kernel_rfl) rfl ?_
  refine crr (by kernel_rfl) rfl ?_
  refine c_rs (by kernel_rfl) ?_
  refine sr 2 rfl ?_
  refine s_op rfl (o_ex loud_n rfl (szSlab_c (h0 := by omega) (h1 := by omega) (hn := by omega) ..) ?_)
  rintro v st' ⟨x1, rfl, hax1, hbx1, rfl⟩ _
  refine sra rfl ?_
  refine c_seq ?_
  refine c_rs (by kernel_rfl) ?_
  refine sra rfl ?_
  refine c_if rfl (fun h => ?_) (fun h => ?_)
  · refine crr (by kernel_rfl) rfl ?_
    exact c_ret (fr rfl rfl)
  have hh4 := of_decide_eq_false h
  clear h
  refine c_skip ?_
  refine c_rs (by kernel_rfl) ?_
  refine sr 1 rfl ?_
  refine s_op rfl (o_ex loud_n rfl (toSlab_c (hx := hx0) (hl := by omega) ..) ?_)
  rintro v st1 ⟨rv1, rfl, fv1⟩ e1
  have n1 := e1.n
  replace hx0 := hx0.ex e1
  have bv1 := fv1.bd
  refine sr 1 rfl ?_
  refine s_op rfl (o_ex loud_n rfl (Names_c (hx := fv1.at_) (hl := by omega) ..) ?_)
  rintro v st2 ⟨rv2, rfl, fv2⟩ e2
  have nv2 := e2.n
  replace hx0 := hx0.ex e2
  replace fv1 := fv1.ex e2
  have bv2 := fv2.bd
  have := nam_len l0 a1
  refine sra rfl ?_
  refine c_rs (by kernel_rfl) ?_
  refine sr 1 rfl ?_
  refine s_op rfl (o_ex loud_n rfl (toSlab_c (hx := hx0) (hl := by omega) ..) ?_)
  rintro v st3 ⟨rv3, rfl, fv3⟩ e3
  have n3 := e3.n
  replace hx0 := hx0.ex e3
  replace fv1 := fv1.ex e3
  replace fv2 := fv2.ex e3
  have bv3 := fv3.bd
  refine sra rfl ?_
  refine c_rs (by kernel_rfl) ?_
  refine sr 2 rfl ?_
  refine s_op rfl (o_ex loud_n rfl (iNames_c (hx := fv3.at_) (hl := by omega) ..) ?_)
  rintro v st4 ⟨rv4, rfl, fv4⟩ e4
  have nv4 := e4.n
  replace hx0 := hx0.ex e4
  replace fv1 := fv1.ex e4
  replace fv2 := fv2.ex e4
  replace fv3 := fv3.ex e4
  have bv4 := fv4.bd
  have := nam_len l0 a1
  refine sra rfl ?_
  refine c_seq ?_
  refine c_rs (by kernel_rfl) ?_
  refine sr 2 rfl ?_
  refine s_op rfl (o_pure loud_n rfl (eqStringS_t (hx := fv4.at_) (hy := fv2.at_) (hl := by omega) ..) ?_)
  refine sra rfl ?_
  refine c_if_f rfl ?_
  refine c_skip ?_
  refine c_seq ?_
  refine cds [0, 1, 2, 3, 4] [.q, .q, .f, .f, .q] (by kernel_rfl) (by kernel_rfl) ?_
  refine sr 2 rfl ?_
  refine s_op rfl (o_ex loud_f rfl (toSlab_c (hx := hx0) (hl := by omega) ..) ?_)
  rintro v st5 ⟨rv5, rfl, fv5⟩ e5
  have n5 := e5.n
  replace hx0 := hx0.ex e5
  replace fv1 := fv1.ex e5
  replace fv2 := fv2.ex e5
  replace fv3 := fv3.ex e5
  replace fv4 := fv4.ex e5
  have bv5 := fv5.bd
  refine s_op rfl (o_pure loud_f rfl (eqSlab_t (hx := fv3.at_) (hy := fv5.at_) (hl := by omega) ..) ?_)
  refine sra rfl ?_
  refine c_if_f rfl ?_
  refine c_skip ?_
  refine crr (by kernel_rfl) rfl ?_
  refine c_rs (by kernel_rfl) ?_
  refine sr 2 rfl ?_
  refine s_op rfl (o_call rfl (markSlab_c (hf := fv3) (hl := by omega) (h0 := by omega) (h1 := by omega) ..) (fun i hi h => absurd hi (by have := bv3 i h; omega)) (.inl rfl) ?_)
  rintro v st6 ⟨rfl, gv3, _⟩ e6
  have n6 := e6.n
  replace hx0 := hx0.off e6 hr0 bv3 (by omega)
  replace fv1 := fv1.off e6 bv1 bv3 (by omega)
  replace fv2 := fv2.off e6 bv2 bv3 (by omega)
  replace fv4 := fv4.off e6 bv4 bv3 (by omega)
  replace fv5 := fv5.off e6 bv5 bv3 (by omega)
  replace fv3 := gv3
  refine sra rfl ?_
  refine c_seq ?_
  refine c_rs (by kernel_rfl) ?_
  refine sr 1 rfl ?_
  refine s_op rfl (oeq rfl (.v (.bool false)) (bF (by omega)) ?_)
  refine sr 3 rfl ?_
  refine s_op rfl (o_pure loud_n rfl (eqStringS_t (hx := fv4.at_) (hy := fv2.at_) (hl := by omega) ..) ?_)
  refine sra rfl ?_
  refine c_if_f rfl ?_
  refine c_skip ?_
  refine crr (by kernel_rfl) rfl ?_
  refine c_rs (by kernel_rfl) ?_
  refine sr 2 rfl ?_
  refine s_op rfl (o_call rfl (markStringS_c (hf := fv4) (hl := by omega) (h0 := by omega) (h1 := by omega) ..) (fun i hi h => absurd hi (by have := bv4 i h; omega)) (.inl rfl) ?_)
  rintro v st7 ⟨rfl, gv4, _⟩ e7
  have n7 := e7.n
  replace hx0 := hx0.off e7 hr0 bv4 (by omega)
  replace fv1 := fv1.off e7 bv1 bv4 (by omega)
  replace fv2 := fv2.off e7 bv2 bv4 (by omega)
  replace fv3 := fv3.off e7 bv3 bv4 (by omega)
  replace fv5 := fv5.off e7 bv5 bv4 (by omega)
  replace fv4 := gv4
  refine sra rfl ?_
  refine crr (by kernel_rfl) rfl ?_
  refine c_rs (by kernel_rfl) ?_
  refine sr 2 rfl ?_
  refine s_op rfl (o_ex loud_n rfl (heldStringS_c (hx := fv4.at_) (hl := by omega) (h0 := by omega) (h1 := by omega) ..) ?_)
  rintro v st8 rfl e8
  have n8 := e8.n
  replace hx0 := hx0.ex e8
  replace fv1 := fv1.ex e8
  replace fv2 := fv2.ex e8
  replace fv3 := fv3.ex e8
  replace fv4 := fv4.ex e8
  replace fv5 := fv5.ex e8
  refine sra rfl ?_
  refine c_seq ?_
  refine c_rs (by kernel_rfl) ?_
  refine sr 1 rfl ?_
  refine s_op rfl (oeq rfl (.v (.bool false)) (bF (by omega)) ?_)
  refine s_end ?_
  refine c_if_f rfl ?_
  refine c_skip ?_
  refine c_seq ?_
  refine c_rs (by kernel_rfl) ?_
  refine sr 2 rfl ?_
  refine s_op rfl (oeq rfl (.v (.bool false)) (bN rfl) ?_)
  refine s_end ?_
  refine c_if_f rfl ?_
  refine c_skip ?_
  refine c_rs (by kernel_rfl) ?_
  refine sr 1 rfl ?_
  refine s_op rfl (o_ex loud_n rfl (toSlab_c (hx := hx0) (hl := by omega) ..) ?_)
  rintro v st9 ⟨rv9, rfl, fv9⟩ e9
  have n9 := e9.n
  replace hx0 := hx0.ex e9
  replace fv1 := fv1.ex e9
  replace fv2 := fv2.ex e9
  replace fv3 := fv3.ex e9
  replace fv4 := fv4.ex e9
  replace fv5 := fv5.ex e9
  have bv9 := fv9.bd
  refine sr 1 rfl ?_
  refine s_op rfl (o_ex loud_n rfl (iNames_c (hx := fv9.at_) (hl := by omega) ..) ?_)
  rintro v st10 ⟨rv10, rfl, fv10⟩ e10
  have nv10 := e10.n
  replace hx0 := hx0.ex e10
  replace fv1 := fv1.ex e10
  replace fv2 := fv2.ex e10
  replace fv3 := fv3.ex e10
  replace fv4 := fv4.ex e10
  replace fv5 := fv5.ex e10
  replace fv9 := fv9.ex e10
  have bv10 := fv10.bd
  have := nam_len l0 a1
  refine sra rfl ?_
  refine c_seq ?_
  refine c_rs (by kernel_rfl) ?_
  refine sr 2 rfl ?_
  refine s_op rfl (o_pure loud_n rfl (eqStringS_t (hx := fv10.at_) (hy := fv2.at_) (hl := by omega) ..) ?_)
  refine sra rfl ?_
  refine c_if_f rfl ?_
  refine c_skip ?_
  refine crr (by kernel_rfl) rfl ?_
  refine c_rs (by kernel_rfl) ?_
  refine sr 2 rfl ?_
  refine s_op rfl (o_ex loud_n rfl (heldStringS_c (hx := fv4.at_) (hl := by omega) (h0 := by omega) (h1 := by omega) ..) ?_)
  rintro v st11 rfl e11
  have n11 := e11.n
  replace hx0 := hx0.ex e11
  replace fv1 := fv1.ex e11
  replace fv2 := fv2.ex e11
  replace fv3 := fv3.ex e11
  replace fv4 := fv4.ex e11
  replace fv5 := fv5.ex e11
  replace fv9 := fv9.ex e11
  replace fv10 := fv10.ex e11
  refine sra rfl ?_
  refine c_seq ?_
  refine c_rs (by kernel_rfl) ?_
  refine sr 1 rfl ?_
  refine s_op rfl (oeq rfl (.v (.bool false)) (bF (by omega)) ?_)
  refine s_end ?_
  refine c_if_f rfl ?_
  refine c_skip ?_
  refine c_seq ?_
  refine c_rs (by kernel_rfl) ?_
  refine sr 2 rfl ?_
  refine s_op rfl (oeq rfl (.v (.bool false)) (bN rfl) ?_)
  refine s_end ?_
  refine c_if_f rfl ?_
  refine c_skip ?_
  refine crr (by kernel_rfl) rfl ?_
  exact c_ret (fr rfl rfl)
end Go.Proofs.YtfnfiapacbeemaaW.Ax
namespace Go.Proofs.Ytfnfiapacbeemaa.fnExactNames
open Go Go.Proofs.YtfnfiapacbeemaaW.Ax
open Go.ChangeShapes Go.WideShapes Go.ChangeAt Go.RowKit Go.Joins
open Go.ChangeMaps (open_string shut_string)
set_option linter.unusedVariables false
theorem own : ownKnob Try.prog.godebug = none := by kernel_rfl
theorem laidOut : laidOutB Try.prog = true := by kernel_rfl
set_option maxRecDepth 100000 in
theorem lifted (os : Os) (started : os.Started) (H : Type) (enc : TypeId × Value → H) :
    ReturnsInHanded {} Try.checked os 3 .any (Rows.fnExactNamesSpec.pre6 enc Try.prog Try.f3 Rows.fnExactNamesRow.domain false) (Rows.fnExactNamesSpec.post enc Try.prog Try.f3 false true false false) := by
  refine returnsInHanded_of_change_sized (C := Try.checked) own started (by kernel_rfl) Try.func3
    (ChangeSpec.witness6 (enc := enc) (C := Try.checked) false ⟨#[], #[.agg #[.slice none 0 0], .int .i64 0], []⟩ 8 (by kernel_rfl) (by kernel_rfl) (by kernel_rfl) (by kernel_rfl)) ?_
  intro W base args ds gs before hval0 hW hcnd hsz0 _
  have hval : ∀ (j : Nat) t v, Try.f3.params[j]? = some t → args[j]? = some v → Value.okWide Try.prog W .any base t v := hval0
  have hW' := hW
  obtain ⟨p, q, hA0, hV, rfl, hfz, hnd⟩ := hW
  have hA : DataW.TrodAll enc Try.prog W 0 (fun _ => true) true Try.f3.params.toList args.toList ds p := hA0
  rw [Try.params3] at hA hval
  obtain ⟨v0, vs0, d0, ds0, p0, q0, hargs, rfl, rfl, h0, r0⟩ := trodAll_cons hA
  obtain ⟨v1, vs1, d1, ds1, p1, q1, rfl, rfl, rfl, h1, r1⟩ := trodAll_cons r0
  obtain ⟨rfl, rfl, rfl⟩ := trodAll_nil r1
  obtain rfl : args = #[v0, v1] := by cases args; simp_all
  obtain ⟨rfl, rfl⟩ := trodVars_none hV
  have k0 := h0
  have lt0 : ∀ x ∈ p0, x.block < W.heap.size := by obtain ⟨m, hm⟩ := k0; exact DataW.trod_lt m _ _ _ hm
  obtain ⟨w0_0, y0_0, n0, rfl, rfl, rfl, h0_0⟩ := open_agg1 Try.underlying24 (by kernel_rfl) (by kernel_rfl) (hval 0 24 v0 rfl rfl) h0
  obtain ⟨b0, L0, o0, l0, m0⟩ := came_of_trod Try.underlying22 Try.underlying3 (by kernel_rfl) h0_0
  obtain ⟨a1, rfl, rfl, rfl, wf1⟩ := open_int Try.underlying3 (hval 1 3 v1 rfl rfl) h1
  clear hA0 hval0 hsz0
  refine (run_law (FnExactNames_c (cond b0 (some 0) none) l0 a1 ⟨1, fun i => match i with | 0 => o0 | _ => .dead⟩ (m0.at_ _ 0 (show (0 : Nat) < 1 by omega) rfl) (cond_lt (show (0 : Nat) < 1 by omega)) m0.w64 m0.len (w1_of wf1)) (μ := fun i => match i with | 0 => L0 | _ => ⟨0, 0, 0⟩) (W := W) ?_ (vrl_cons (vr_agg (vrl_cons (m0.vr _ _ 0 (show (0 : Nat) < 1 by omega) rfl) (vrl_nil _ _))) (vrl_cons (vr_int _ _ a1) (vrl_nil _ _)))).mono fun e W' ⟨he, bel⟩ => ?_
  · refine rel_rows fun i hi => ?_
    match i, hi with
    | 0, _ => exact ⟨m0.obr _ _, m0.own⟩
    | i + 1, hi => exact absurd hi (by show ¬ (i + 1 < 1); omega)
  subst he
  exact ⟨_, rfl, _, _, _, [], _, [], hW', trodAll_mk1 (shut_bool Try.underlying4 _), (trodAll_cons_mk (Below.trod laidOut (by kernel_rfl) (of_decide_eq_true (by kernel_rfl)) k0 bel lt0) (trodAll_cons_mk (shut_int Try.underlying3 wf1) trodAll_mk0)), rfl, bel.frame _, fun h => by cases h⟩
theorem over : Rows.fnExactNamesRow.holds Try.pinned (OpenSpec.ofChange Rows.fnExactNamesSpec) :=
  OpenClaim.holds_of_wide 3 Try.f3 rfl rfl rfl rfl rfl rfl rfl ⟨rfl, rfl, rfl, rfl, rfl⟩ rfl rfl rfl rfl rfl (by kernel_rfl) Try.func3 (by kernel_rfl)
    (of_decide_eq_true (by kernel_rfl)) (by unfold Func.isWrapper; first | (rw [if_pos (by decide +kernel)]; kernel_rfl) | (rw [if_neg (by decide +kernel)]; exact ⟨rfl, rfl⟩))
    (fun os started H enc _ => lifted os started H enc)
theorem proved : Rows.FnExactNamesSaid := over
#print axioms proved
end Go.Proofs.Ytfnfiapacbeemaa.fnExactNames
namespace Go.Proofs.Ytfnfiapacbeemaa
/-- The row, under a short name, for the claim. -/
theorem fnExactNames_holds : Rows.FnExactNamesSaid := fnExactNames.proved
end Go.Proofs.Ytfnfiapacbeemaa
