/- For every input the program's MarkerOk answers as the reference's (FnExactMarkerOk). No condition. -/
import Derived.Test.YtmphklmhhcmbnaaRows
import Derived.Test.YtmphklmhhcmbnaaXw
import Derived.Test.YtmphklmhhcmbnaaYm
import Derived.Test.YtmphklmhhcmbnaaZp
namespace Go.Proofs.YtmphklmhhcmbnaaW.Ax
open Go Go.RowKit Go.Proofs Go.Proofs.Ytmphklmhhcmbnaa.Pure
set_option linter.unusedVariables false
set_option maxRecDepth 100000 in
theorem FnExactMarkerOk_c (r0 : Option Nat) (l0 : List Int) (p1 : Int) (r1g : Option Nat) (l1g : List Int) (r1b : Option Nat) (l1b : List Int) (q1 : Int) (st : St) (hx0 : At st r0 0 l0) (hr0 : ∀ i, r0 = some i → i < st.n) (hw0 : W64 l0) (hm0 : l0.length ≤ 9223372036854775807) (hx1g : At st r1g 0 l1g) (hr1g : ∀ i, r1g = some i → i < st.n) (hw1g : W64 l1g) (hm1g : l1g.length ≤ 9223372036854775807) (hx1b : At st r1b 0 l1b) (hr1b : ∀ i, r1b = some i → i < st.n) (hw1b : W64 l1b) (hm1b : l1b.length ≤ 9223372036854775807) (wp1 : W1 p1) (wq1 : W1 q1) : ACalls Try.prog 5 [.agg [.sl r0 0 l0.length], .agg [I p1, .sl r1g 0 l1g.length, .sl r1b 0 l1b.length, I q1]] st No (Pv (.bool true)) := by
  refine ent (N := 45) Try.func5 rfl (by decide) rfl rfl rfl ?_
  refine crr (by kernel_rfl) rfl ?_
  refine crr (by kernel_rfl) rfl ?_
  refine c_rs (by kernel_rfl) ?_
  refine sr 2 rfl ?_
  refine s_op rfl (o_ex loud_n rfl (szSlab_c (h0 := by omega) (h1 := by omega) (hn := by omega) ..) ?_)
  rintro v st' ⟨x1, rfl, hax1, hbx1, rfl⟩ _
  refine sra rfl ?_
  refine c_seq ?_
  refine c_rs (by kernel_rfl) ?_
  refine sra rfl ?_
  refine c_if rfl (fun h => ?_) (fun h => ?_)
  · refine crr (by kernel_rfl) rfl ?_
    exact c_ret (fr rfl rfl)
  have hh4 := of_decide_eq_false h
  clear h
  refine c_skip ?_
  refine c_rs (by kernel_rfl) ?_
  refine sr 2 rfl ?_
  refine s_op rfl (o_ex loud_n rfl (szMarker_c (h0 := by omega) (h1 := by omega) (hn1 := by omega) (hn2 := by omega) ..) ?_)
  rintro v st' ⟨x2, rfl, hax2, hbx2, rfl⟩ _
  refine sra rfl ?_
  refine c_seq ?_
  refine c_rs (by kernel_rfl) ?_
  refine sra rfl ?_
  refine c_if rfl (fun h => ?_) (fun h => ?_)
  · refine crr (by kernel_rfl) rfl ?_
    exact c_ret (fr rfl rfl)
  have hh7 := of_decide_eq_false h
  clear h
  refine c_skip ?_
  refine cds [0, 2, 1, 3, 4, 5] [.q, .q, .f, .f, .f, .q] (by kernel_rfl) (by kernel_rfl) ?_
  refine sr 2 rfl ?_
  refine s_op rfl (o_ex loud_f rfl (toSlab_c (hx := hx0) (hl := by omega) ..) ?_)
  rintro v st1 ⟨rv1, rfl, fv1⟩ e1
  have n1 := e1.n
  replace hx0 := hx0.ex e1
  replace hx1g := hx1g.ex e1
  replace hx1b := hx1b.ex e1
  have bv1 := fv1.bd
  refine s_op rfl (o_ex loud_f rfl (toMarker_c (hx1 := hx1g) (hx2 := hx1b) (hl1 := by omega) (hl2 := by omega) ..) ?_)
  rintro v st2 ⟨rv2g, rv2b, rfl, fv2g, fv2b, dv2⟩ e2
  have n2 := e2.n
  replace hx0 := hx0.ex e2
  replace hx1g := hx1g.ex e2
  replace hx1b := hx1b.ex e2
  replace fv1 := fv1.ex e2
  have bv2g := fv2g.bd
  have bv2b := fv2b.bd
  refine s_op rfl (o_ex loud_f rfl (MarkerOk_c (hx := fv1.at_) (hl := by omega) (hg := fv2g.at_) (hb := fv2b.at_) (hlg := by omega) (hlb := by omega) ..) ?_)
  rintro v st3 rfl e3
  have nv3 := e3.n
  replace hx0 := hx0.ex e3
  replace hx1g := hx1g.ex e3
  replace hx1b := hx1b.ex e3
  replace fv1 := fv1.ex e3
  replace fv2g := fv2g.ex e3
  replace fv2b := fv2b.ex e3
  refine sra rfl ?_
  refine c_rs (by kernel_rfl) ?_
  refine sr 1 rfl ?_
  refine s_op rfl (o_ex loud_n rfl (toSlab_c (hx := hx0) (hl := by omega) ..) ?_)
  rintro v st4 ⟨rv4, rfl, fv4⟩ e4
  have n4 := e4.n
  replace hx0 := hx0.ex e4
  replace hx1g := hx1g.ex e4
  replace hx1b := hx1b.ex e4
  replace fv1 := fv1.ex e4
  replace fv2g := fv2g.ex e4
  replace fv2b := fv2b.ex e4
  have bv4 := fv4.bd
  refine sra rfl ?_
  refine c_rs (by kernel_rfl) ?_
  refine sr 1 rfl ?_
  refine s_op rfl (o_ex loud_n rfl (toMarker_c (hx1 := hx1g) (hx2 := hx1b) (hl1 := by omega) (hl2 := by omega) ..) ?_)
  rintro v st5 ⟨rv5g, rv5b, rfl, fv5g, fv5b, dv5⟩ e5
  have n5 := e5.n
  replace hx0 := hx0.ex e5
  replace hx1g := hx1g.ex e5
  replace hx1b := hx1b.ex e5
  replace fv1 := fv1.ex e5
  replace fv2g := fv2g.ex e5
  replace fv2b := fv2b.ex e5
  replace fv4 := fv4.ex e5
  have bv5g := fv5g.bd
  have bv5b := fv5b.bd
  refine sra rfl ?_
  refine c_rs (by kernel_rfl) ?_
  refine sr 2 rfl ?_
  refine s_op rfl (o_ex loud_n rfl (iMarkerOk_c (hx := fv4.at_) (hl := by omega) (hg := fv5g.at_) (hb := fv5b.at_) (hlg := by omega) (hlb := by omega) (hq := wq1) ..) ?_)
  rintro v st6 rfl e6
  have nv6 := e6.n
  replace hx0 := hx0.ex e6
  replace hx1g := hx1g.ex e6
  replace hx1b := hx1b.ex e6
  replace fv1 := fv1.ex e6
  replace fv2g := fv2g.ex e6
  replace fv2b := fv2b.ex e6
  replace fv4 := fv4.ex e6
  replace fv5g := fv5g.ex e6
  replace fv5b := fv5b.ex e6
  refine sra rfl ?_
  refine c_seq ?_
  refine c_rs (by kernel_rfl) ?_
  refine sr 2 rfl ?_
  refine s_op rfl (oneB rfl rfl rfl rfl ?_)
  refine s_end ?_
  refine c_if_f rfl ?_
  refine c_skip ?_
  refine c_seq ?_
  refine cds [0, 1, 2, 3, 4] [.q, .q, .f, .f, .q] (by kernel_rfl) (by kernel_rfl) ?_
  refine sr 2 rfl ?_
  refine s_op rfl (o_ex loud_f rfl (toSlab_c (hx := hx0) (hl := by omega) ..) ?_)
  rintro v st7 ⟨rv7, rfl, fv7⟩ e7
  have n7 := e7.n
  replace hx0 := hx0.ex e7
  replace hx1g := hx1g.ex e7
  replace hx1b := hx1b.ex e7
  replace fv1 := fv1.ex e7
  replace fv2g := fv2g.ex e7
  replace fv2b := fv2b.ex e7
  replace fv4 := fv4.ex e7
  replace fv5g := fv5g.ex e7
  replace fv5b := fv5b.ex e7
  have bv7 := fv7.bd
  refine s_op rfl (o_pure loud_f rfl (eqSlab_t (hx := fv4.at_) (hy := fv7.at_) (hl := by omega) ..) ?_)
  refine sra rfl ?_
  refine c_if_f rfl ?_
  refine c_skip ?_
  refine c_seq ?_
  refine cds [0, 1, 2, 3, 4] [.q, .q, .f, .f, .q] (by kernel_rfl) (by kernel_rfl) ?_
  refine sr 2 rfl ?_
  refine s_op rfl (o_ex loud_f rfl (toMarker_c (hx1 := hx1g) (hx2 := hx1b) (hl1 := by omega) (hl2 := by omega) ..) ?_)
  rintro v st8 ⟨rv8g, rv8b, rfl, fv8g, fv8b, dv8⟩ e8
  have n8 := e8.n
  replace hx0 := hx0.ex e8
  replace hx1g := hx1g.ex e8
  replace hx1b := hx1b.ex e8
  replace fv1 := fv1.ex e8
  replace fv2g := fv2g.ex e8
  replace fv2b := fv2b.ex e8
  replace fv4 := fv4.ex e8
  replace fv5g := fv5g.ex e8
  replace fv5b := fv5b.ex e8
  replace fv7 := fv7.ex e8
  have bv8g := fv8g.bd
  have bv8b := fv8b.bd
  refine s_op rfl (o_pure loud_f rfl (eqMarker_t (hx1 := fv5g.at_) (hx2 := fv5b.at_) (hy1 := fv8g.at_) (hy2 := fv8b.at_) (hl1 := by first | omega | simp) (hl2 := by first | omega | simp) ..) ?_)
  refine sra rfl ?_
  refine c_if_f rfl ?_
  refine c_skip ?_
  refine crr (by kernel_rfl) rfl ?_
  exact c_ret (fr rfl rfl)
end Go.Proofs.YtmphklmhhcmbnaaW.Ax
namespace Go.Proofs.Ytmphklmhhcmbnaa.fnExactMarkerOk
open Go Go.Proofs.YtmphklmhhcmbnaaW.Ax
open Go.ChangeShapes Go.WideShapes Go.ChangeAt Go.RowKit Go.Joins
open Go.ChangeMaps (open_string shut_string)
set_option linter.unusedVariables false
theorem own : ownKnob Try.prog.godebug = none := by kernel_rfl
theorem laidOut : laidOutB Try.prog = true := by kernel_rfl
set_option maxRecDepth 100000 in
theorem lifted (os : Os) (started : os.Started) (H : Type) (enc : TypeId × Value → H) :
    ReturnsInHanded {} Try.checked os 5 .any (Rows.fnExactMarkerOkSpec.pre6 enc Try.prog Try.f5 Rows.fnExactMarkerOkRow.domain false) (Rows.fnExactMarkerOkSpec.post enc Try.prog Try.f5 false true false false) := by
  refine returnsInHanded_of_change_sized (C := Try.checked) own started (by kernel_rfl) Try.func5
    (ChangeSpec.witness6 (enc := enc) (C := Try.checked) false ⟨#[], #[.agg #[.slice none 0 0], .agg #[.int .i64 0, .slice none 0 0, .slice none 0 0, .int .i64 0]], []⟩ 8 (by kernel_rfl) (by kernel_rfl) (by kernel_rfl) (by kernel_rfl)) ?_
  intro W base args ds gs before hval0 hW hcnd hsz0 _
  have hval : ∀ (j : Nat) t v, Try.f5.params[j]? = some t → args[j]? = some v → Value.okWide Try.prog W .any base t v := hval0
  have hW' := hW
  obtain ⟨p, q, hA0, hV, rfl, hfz, hnd⟩ := hW
  have hA : DataW.TrodAll enc Try.prog W 0 (fun _ => true) true Try.f5.params.toList args.toList ds p := hA0
  rw [Try.params5] at hA hval
  obtain ⟨v0, vs0, d0, ds0, p0, q0, hargs, rfl, rfl, h0, r0⟩ := trodAll_cons hA
  obtain ⟨v1, vs1, d1, ds1, p1, q1, rfl, rfl, rfl, h1, r1⟩ := trodAll_cons r0
  obtain ⟨rfl, rfl, rfl⟩ := trodAll_nil r1
  obtain rfl : args = #[v0, v1] := by cases args; simp_all
  obtain ⟨rfl, rfl⟩ := trodVars_none hV
  have k0 := h0
  have lt0 : ∀ x ∈ p0, x.block < W.heap.size := by obtain ⟨m, hm⟩ := k0; exact DataW.trod_lt m _ _ _ hm
  obtain ⟨w0_0, y0_0, n0, rfl, rfl, rfl, h0_0⟩ := open_agg1 Try.underlying24 (by kernel_rfl) (by kernel_rfl) (hval 0 24 v0 rfl rfl) h0
  obtain ⟨b0, L0, o0, l0, m0⟩ := came_of_trod Try.underlying22 Try.underlying3 (by kernel_rfl) h0_0
  have k1 := h1
  have lt1 : ∀ x ∈ p1, x.block < W.heap.size := by obtain ⟨m, hm⟩ := k1; exact DataW.trod_lt m _ _ _ hm
  obtain ⟨w1_0, w1_1, w1_2, w1_3, y1_0, y1_1, y1_2, y1_3, n1, rfl, rfl, rfl, h1_0, h1_1, h1_2, h1_3⟩ := Joins.open_agg4 Try.underlying40 (by kernel_rfl) (by kernel_rfl) (hval 1 40 v1 rfl rfl) h1
  obtain ⟨p1, e1_0, _, wfp1⟩ := DataW.trod_int Try.underlying3 h1_0
  injection e1_0 with e1_0 _
  subst e1_0
  obtain ⟨q1, e1_3, _, wfq1⟩ := DataW.trod_int Try.underlying3 h1_3
  injection e1_3 with e1_3 _
  subst e1_3
  obtain ⟨b1g, L1g, o1g, l1g, m1g⟩ := came_of_trod Try.underlying22 Try.underlying3 (by kernel_rfl) h1_1
  obtain ⟨b1b, L1b, o1b, l1b, m1b⟩ := came_of_trod Try.underlying22 Try.underlying3 (by kernel_rfl) h1_2
  clear hA0 hval0 hsz0
  refine (run_law (FnExactMarkerOk_c (cond b0 (some 0) none) l0 p1 (cond b1g (some 1) none) l1g (cond b1b (some 2) none) l1b q1 ⟨3, fun i => match i with | 0 => o0 | 1 => o1g | 2 => o1b | _ => .dead⟩ (m0.at_ _ 0 (show (0 : Nat) < 3 by omega) rfl) (cond_lt (show (0 : Nat) < 3 by omega)) m0.w64 m0.len (m1g.at_ _ 1 (show (1 : Nat) < 3 by omega) rfl) (cond_lt (show (1 : Nat) < 3 by omega)) m1g.w64 m1g.len (m1b.at_ _ 2 (show (2 : Nat) < 3 by omega) rfl) (cond_lt (show (2 : Nat) < 3 by omega)) m1b.w64 m1b.len (w1_of wfp1) (w1_of wfq1)) (μ := fun i => match i with | 0 => L0 | 1 => L1g | 2 => L1b | _ => ⟨0, 0, 0⟩) (W := W) ?_ (vrl_cons (vr_agg (vrl_cons (m0.vr _ _ 0 (show (0 : Nat) < 3 by omega) rfl) (vrl_nil _ _))) (vrl_cons (vr_agg (vrl_cons (vr_int _ _ p1) (vrl_cons (m1g.vr _ _ 1 (show (1 : Nat) < 3 by omega) rfl) (vrl_cons (m1b.vr _ _ 2 (show (2 : Nat) < 3 by omega) rfl) (vrl_cons (vr_int _ _ q1) (vrl_nil _ _)))))) (vrl_nil _ _)))).mono fun e W' ⟨he, bel⟩ => ?_
  · refine rel_rows fun i hi => ?_
    match i, hi with
    | 0, _ => exact ⟨m0.obr _ _, m0.own⟩
    | 1, _ => exact ⟨m1g.obr _ _, m1g.own⟩
    | 2, _ => exact ⟨m1b.obr _ _, m1b.own⟩
    | i + 3, hi => exact absurd hi (by show ¬ (i + 3 < 3); omega)
  subst he
  exact ⟨_, rfl, _, _, _, [], _, [], hW', trodAll_mk1 (shut_bool Try.underlying4 _), (trodAll_cons_mk (Below.trod laidOut (by kernel_rfl) (of_decide_eq_true (by kernel_rfl)) k0 bel lt0) (trodAll_cons_mk (Below.trod laidOut (by kernel_rfl) (of_decide_eq_true (by kernel_rfl)) k1 bel lt1) trodAll_mk0)), rfl, bel.frame _, fun h => by cases h⟩
theorem over : Rows.fnExactMarkerOkRow.holds Try.pinned (OpenSpec.ofChange Rows.fnExactMarkerOkSpec) :=
  OpenClaim.holds_of_wide 5 Try.f5 rfl rfl rfl rfl rfl rfl rfl ⟨rfl, rfl, rfl, rfl, rfl⟩ rfl rfl rfl rfl rfl (by kernel_rfl) Try.func5 (by kernel_rfl)
    (of_decide_eq_true (by kernel_rfl)) (by unfold Func.isWrapper; first | (rw [if_pos (by decide +kernel)]; kernel_rfl) | (rw [if_neg (by decide +kernel)]; exact ⟨rfl, rfl⟩))
    (fun os started H enc _ => lifted os started H enc)
theorem proved : Rows.FnExactMarkerOkSaid := over
#print axioms proved
end Go.Proofs.Ytmphklmhhcmbnaa.fnExactMarkerOk
namespace Go.Proofs.Ytmphklmhhcmbnaa
/-- The row, under a short name, for the claim. -/
theorem fnExactMarkerOk_holds : Rows.FnExactMarkerOkSaid := fnExactMarkerOk.proved
end Go.Proofs.Ytmphklmhhcmbnaa
