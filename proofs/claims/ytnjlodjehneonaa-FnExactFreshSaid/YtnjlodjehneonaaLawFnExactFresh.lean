/- For every input the program's Fresh answers as the reference's (FnExactFresh). No condition. -/
import Derived.Test.YtnjlodjehneonaaRows
import Derived.Test.YtnjlodjehneonaaXw
import Derived.Test.YtnjlodjehneonaaYm
import Derived.Test.YtnjlodjehneonaaZs
namespace Go.Proofs.YtnjlodjehneonaaW.Ax
open Go Go.RowKit Go.Proofs Go.Proofs.Ytnjlodjehneonaa.Pure
set_option linter.unusedVariables false
set_option maxRecDepth 100000 in
theorem FnExactFresh_c (p0 : Int) (r0g : Option Nat) (l0g : List Int) (r0b : Option Nat) (l0b : List Int) (q0 : Int) (a1 : Int) (st : St) (hx0g : At st r0g 0 l0g) (hr0g : ∀ i, r0g = some i → i < st.n) (hw0g : W64 l0g) (hm0g : l0g.length ≤ 9223372036854775807) (hx0b : At st r0b 0 l0b) (hr0b : ∀ i, r0b = some i → i < st.n) (hw0b : W64 l0b) (hm0b : l0b.length ≤ 9223372036854775807) (wp0 : W1 p0) (wq0 : W1 q0) (wf1 : W1 a1) : ACalls Try.prog 8 [.agg [I p0, .sl r0g 0 l0g.length, .sl r0b 0 l0b.length, I q0], I a1] st No (Pv (.bool true)) := by
  refine ent (N := 74) Try.func8 rfl (by decide) rfl rfl rfl ?_
  refine crr (by kernel_rfl) rfl ?_
  refine crr (by kernel_rfl) rfl ?_
  refine c_rs (by kernel_rfl) ?_
  refine sr 2 rfl ?_
  refine s_op rfl (o_ex loud_n rfl (szMarker_c (h0 := by omega) (h1 := by omega) (hn1 := by omega) (hn2 := by omega) ..) ?_)
  rintro v st' ⟨x1, rfl, hax1, hbx1, rfl⟩ _
  refine sra rfl ?_
  refine c_seq ?_
  refine c_rs (by kernel_rfl) ?_
  refine sra rfl ?_
  refine c_if rfl (fun h => ?_) (fun h => ?_)
  · refine crr (by kernel_rfl) rfl ?_
    exact c_ret (fr rfl rfl)
  have hh4 := of_decide_eq_false h
  clear h
  refine c_skip ?_
  refine c_rs (by kernel_rfl) ?_
  refine sr 1 rfl ?_
  refine s_op rfl (o_ex loud_n rfl (toMarker_c (hx1 := hx0g) (hx2 := hx0b) (hl1 := by omega) (hl2 := by omega) ..) ?_)
  rintro v st1 ⟨rv1g, rv1b, rfl, fv1g, fv1b, dv1⟩ e1
  have n1 := e1.n
  replace hx0g := hx0g.ex e1
  replace hx0b := hx0b.ex e1
  have bv1g := fv1g.bd
  have bv1b := fv1b.bd
  refine sr 1 rfl ?_
  refine s_op rfl (o_ex loud_n rfl (Fresh_c (hg := fv1g.at_) (hb := fv1b.at_) (hlg := by omega) (hlb := by omega) ..) ?_)
  rintro v st2 ⟨rv2g, rv2b, rfl, fv2g, fv2b, dv2⟩ e2
  have nv2 := e2.n
  replace hx0g := hx0g.ex e2
  replace hx0b := hx0b.ex e2
  replace fv1g := fv1g.ex e2
  replace fv1b := fv1b.ex e2
  have bv2g := fv2g.bd
  have bv2b := fv2b.bd
  have := frB_len p0 l0g l0b a1
  refine sra rfl ?_
  refine c_rs (by kernel_rfl) ?_
  refine sr 1 rfl ?_
  refine s_op rfl (o_ex loud_n rfl (toMarker_c (hx1 := hx0g) (hx2 := hx0b) (hl1 := by omega) (hl2 := by omega) ..) ?_)
  rintro v st3 ⟨rv3g, rv3b, rfl, fv3g, fv3b, dv3⟩ e3
  have n3 := e3.n
  replace hx0g := hx0g.ex e3
  replace hx0b := hx0b.ex e3
  replace fv1g := fv1g.ex e3
  replace fv1b := fv1b.ex e3
  replace fv2g := fv2g.ex e3
  replace fv2b := fv2b.ex e3
  have bv3g := fv3g.bd
  have bv3b := fv3b.bd
  refine sra rfl ?_
  refine c_rs (by kernel_rfl) ?_
  refine sr 2 rfl ?_
  refine s_op rfl (o_ex loud_n rfl (iFresh_c (hg := fv3g.at_) (hb := fv3b.at_) (hlg := by omega) (hlb := by omega) ..) ?_)
  rintro v st4 ⟨rv4g, rv4b, rfl, fv4g, fv4b, dv4⟩ e4
  have nv4 := e4.n
  replace hx0g := hx0g.ex e4
  replace hx0b := hx0b.ex e4
  replace fv1g := fv1g.ex e4
  replace fv1b := fv1b.ex e4
  replace fv2g := fv2g.ex e4
  replace fv2b := fv2b.ex e4
  replace fv3g := fv3g.ex e4
  replace fv3b := fv3b.ex e4
  have bv4g := fv4g.bd
  have bv4b := fv4b.bd
  refine sra rfl ?_
  refine c_seq ?_
  refine c_rs (by kernel_rfl) ?_
  refine sr 2 rfl ?_
  refine s_op rfl (o_pure loud_n rfl (eqMarker_t (hx1 := fv4g.at_) (hx2 := fv4b.at_) (hy1 := fv2g.at_) (hy2 := fv2b.at_) (hl1 := by first | omega | simp) (hl2 := by first | omega | simp) ..) ?_)
  refine sra rfl ?_
  refine c_if_f rfl ?_
  refine c_skip ?_
  refine c_seq ?_
  refine cds [0, 1, 2, 3, 4] [.q, .q, .f, .f, .q] (by kernel_rfl) (by kernel_rfl) ?_
  refine sr 2 rfl ?_
  refine s_op rfl (o_ex loud_f rfl (toMarker_c (hx1 := hx0g) (hx2 := hx0b) (hl1 := by omega) (hl2 := by omega) ..) ?_)
  rintro v st5 ⟨rv5g, rv5b, rfl, fv5g, fv5b, dv5⟩ e5
  have n5 := e5.n
  replace hx0g := hx0g.ex e5
  replace hx0b := hx0b.ex e5
  replace fv1g := fv1g.ex e5
  replace fv1b := fv1b.ex e5
  replace fv2g := fv2g.ex e5
  replace fv2b := fv2b.ex e5
  replace fv3g := fv3g.ex e5
  replace fv3b := fv3b.ex e5
  replace fv4g := fv4g.ex e5
  replace fv4b := fv4b.ex e5
  have bv5g := fv5g.bd
  have bv5b := fv5b.bd
  refine s_op rfl (o_pure loud_f rfl (eqMarker_t (hx1 := fv3g.at_) (hx2 := fv3b.at_) (hy1 := fv5g.at_) (hy2 := fv5b.at_) (hl1 := by first | omega | simp) (hl2 := by first | omega | simp) ..) ?_)
  refine sra rfl ?_
  refine c_if_f rfl ?_
  refine c_skip ?_
  refine crr (by kernel_rfl) rfl ?_
  refine c_rs (by kernel_rfl) ?_
  refine sr 2 rfl ?_
  refine s_op rfl (o_call rfl (markMarker_c (hf1 := fv3g) (hf2 := fv3b) (hd := dv3) (hl1 := by first | omega | simp) (hl2 := by first | omega | simp) (h0 := by omega) (h1 := by omega) ..) (fun i hi h => absurd hi (by rcases h with h | h <;> first | (have := bv3g i h; omega) | (have := bv3b i h; omega))) (.inl rfl) ?_)
  rintro v st6 ⟨rfl, gv3g, gv3b⟩ e6
  have n6 := e6.n
  replace hx0g := hx0g.off2 e6 hr0g bv3g bv3b (by omega)
  replace hx0b := hx0b.off2 e6 hr0b bv3g bv3b (by omega)
  replace fv1g := fv1g.off2 e6 bv1g bv3g bv3b (by omega)
  replace fv1b := fv1b.off2 e6 bv1b bv3g bv3b (by omega)
  replace fv2g := fv2g.off2 e6 bv2g bv3g bv3b (by omega)
  replace fv2b := fv2b.off2 e6 bv2b bv3g bv3b (by omega)
  replace fv4g := fv4g.off2 e6 bv4g bv3g bv3b (by omega)
  replace fv4b := fv4b.off2 e6 bv4b bv3g bv3b (by omega)
  replace fv5g := fv5g.off2 e6 bv5g bv3g bv3b (by omega)
  replace fv5b := fv5b.off2 e6 bv5b bv3g bv3b (by omega)
  replace fv3g := gv3g
  replace fv3b := gv3b
  refine sra rfl ?_
  refine c_seq ?_
  refine c_rs (by kernel_rfl) ?_
  refine sr 1 rfl ?_
  refine s_op rfl (oeq rfl (.v (.bool false)) (bF (by omega)) ?_)
  refine sr 3 rfl ?_
  refine s_op rfl (o_pure loud_n rfl (eqMarker_t (hx1 := fv4g.at_) (hx2 := fv4b.at_) (hy1 := fv2g.at_) (hy2 := fv2b.at_) (hl1 := by first | omega | simp) (hl2 := by first | omega | simp) ..) ?_)
  refine sra rfl ?_
  refine c_if_f rfl ?_
  refine c_skip ?_
  refine crr (by kernel_rfl) rfl ?_
  refine c_rs (by kernel_rfl) ?_
  refine sr 2 rfl ?_
  refine s_op rfl (o_call rfl (markMarker_c (hf1 := fv4g) (hf2 := fv4b) (hd := dv4) (hl1 := by first | omega | simp) (hl2 := by first | omega | simp) (h0 := by omega) (h1 := by omega) ..) (fun i hi h => absurd hi (by rcases h with h | h <;> first | (have := bv4g i h; omega) | (have := bv4b i h; omega))) (.inl rfl) ?_)
  rintro v st7 ⟨rfl, gv4g, gv4b⟩ e7
  have n7 := e7.n
  replace hx0g := hx0g.off2 e7 hr0g bv4g bv4b (by omega)
  replace hx0b := hx0b.off2 e7 hr0b bv4g bv4b (by omega)
  replace fv1g := fv1g.off2 e7 bv1g bv4g bv4b (by omega)
  replace fv1b := fv1b.off2 e7 bv1b bv4g bv4b (by omega)
  replace fv2g := fv2g.off2 e7 bv2g bv4g bv4b (by omega)
  replace fv2b := fv2b.off2 e7 bv2b bv4g bv4b (by omega)
  replace fv3g := fv3g.off2 e7 bv3g bv4g bv4b (by omega)
  replace fv3b := fv3b.off2 e7 bv3b bv4g bv4b (by omega)
  replace fv5g := fv5g.off2 e7 bv5g bv4g bv4b (by omega)
  replace fv5b := fv5b.off2 e7 bv5b bv4g bv4b (by omega)
  replace fv4g := gv4g
  replace fv4b := gv4b
  refine sra rfl ?_
  refine crr (by kernel_rfl) rfl ?_
  refine c_rs (by kernel_rfl) ?_
  refine sr 2 rfl ?_
  refine s_op rfl (o_pure loud_n rfl (heldMarker_c (hx1 := fv4g.at_) (hx2 := fv4b.at_) (hl1 := by first | omega | simp) (hl2 := by first | omega | simp) (h0 := by omega) (h1 := by omega) ..) ?_)
  refine sra rfl ?_
  refine c_seq ?_
  refine c_rs (by kernel_rfl) ?_
  refine sr 1 rfl ?_
  refine s_op rfl (oeq rfl (.v (.bool false)) (bF (by omega)) ?_)
  refine s_end ?_
  refine c_if_f rfl ?_
  refine c_skip ?_
  refine c_seq ?_
  refine c_rs (by kernel_rfl) ?_
  refine sr 2 rfl ?_
  refine s_op rfl (oeq rfl (.v (.bool false)) (bN rfl) ?_)
  refine s_end ?_
  refine c_if_f rfl ?_
  refine c_skip ?_
  refine c_rs (by kernel_rfl) ?_
  refine sr 1 rfl ?_
  refine s_op rfl (o_ex loud_n rfl (toMarker_c (hx1 := hx0g) (hx2 := hx0b) (hl1 := by omega) (hl2 := by omega) ..) ?_)
  rintro v st8 ⟨rv8g, rv8b, rfl, fv8g, fv8b, dv8⟩ e8
  have n8 := e8.n
  replace hx0g := hx0g.ex e8
  replace hx0b := hx0b.ex e8
  replace fv1g := fv1g.ex e8
  replace fv1b := fv1b.ex e8
  replace fv2g := fv2g.ex e8
  replace fv2b := fv2b.ex e8
  replace fv3g := fv3g.ex e8
  replace fv3b := fv3b.ex e8
  replace fv4g := fv4g.ex e8
  replace fv4b := fv4b.ex e8
  replace fv5g := fv5g.ex e8
  replace fv5b := fv5b.ex e8
  have bv8g := fv8g.bd
  have bv8b := fv8b.bd
  refine sr 1 rfl ?_
  refine s_op rfl (o_ex loud_n rfl (iFresh_c (hg := fv8g.at_) (hb := fv8b.at_) (hlg := by omega) (hlb := by omega) ..) ?_)
  rintro v st9 ⟨rv9g, rv9b, rfl, fv9g, fv9b, dv9⟩ e9
  have nv9 := e9.n
  replace hx0g := hx0g.ex e9
  replace hx0b := hx0b.ex e9
  replace fv1g := fv1g.ex e9
  replace fv1b := fv1b.ex e9
  replace fv2g := fv2g.ex e9
  replace fv2b := fv2b.ex e9
  replace fv3g := fv3g.ex e9
  replace fv3b := fv3b.ex e9
  replace fv4g := fv4g.ex e9
  replace fv4b := fv4b.ex e9
  replace fv5g := fv5g.ex e9
  replace fv5b := fv5b.ex e9
  replace fv8g := fv8g.ex e9
  replace fv8b := fv8b.ex e9
  have bv9g := fv9g.bd
  have bv9b := fv9b.bd
  refine sra rfl ?_
  refine c_seq ?_
  refine c_rs (by kernel_rfl) ?_
  refine sr 2 rfl ?_
  refine s_op rfl (o_pure loud_n rfl (eqMarker_t (hx1 := fv9g.at_) (hx2 := fv9b.at_) (hy1 := fv2g.at_) (hy2 := fv2b.at_) (hl1 := by first | omega | simp) (hl2 := by first | omega | simp) ..) ?_)
  refine sra rfl ?_
  refine c_if_f rfl ?_
  refine c_skip ?_
  refine crr (by kernel_rfl) rfl ?_
  refine c_rs (by kernel_rfl) ?_
  refine sr 2 rfl ?_
  refine s_op rfl (o_pure loud_n rfl (heldMarker_c (hx1 := fv4g.at_) (hx2 := fv4b.at_) (hl1 := by first | omega | simp) (hl2 := by first | omega | simp) (h0 := by omega) (h1 := by omega) ..) ?_)
  refine sra rfl ?_
  refine c_seq ?_
  refine c_rs (by kernel_rfl) ?_
  refine sr 1 rfl ?_
  refine s_op rfl (oeq rfl (.v (.bool false)) (bF (by omega)) ?_)
  refine s_end ?_
  refine c_if_f rfl ?_
  refine c_skip ?_
  refine c_seq ?_
  refine c_rs (by kernel_rfl) ?_
  refine sr 2 rfl ?_
  refine s_op rfl (oeq rfl (.v (.bool false)) (bN rfl) ?_)
  refine s_end ?_
  refine c_if_f rfl ?_
  refine c_skip ?_
  refine crr (by kernel_rfl) rfl ?_
  exact c_ret (fr rfl rfl)
end Go.Proofs.YtnjlodjehneonaaW.Ax
namespace Go.Proofs.Ytnjlodjehneonaa.fnExactFresh
open Go Go.Proofs.YtnjlodjehneonaaW.Ax
open Go.ChangeShapes Go.WideShapes Go.ChangeAt Go.RowKit Go.Joins
open Go.ChangeMaps (open_string shut_string)
set_option linter.unusedVariables false
theorem own : ownKnob Try.prog.godebug = none := by kernel_rfl
theorem laidOut : laidOutB Try.prog = true := by kernel_rfl
set_option maxRecDepth 100000 in
theorem lifted (os : Os) (started : os.Started) (H : Type) (enc : TypeId × Value → H) :
    ReturnsInHanded {} Try.checked os 8 .any (Rows.fnExactFreshSpec.pre6 enc Try.prog Try.f8 Rows.fnExactFreshRow.domain false) (Rows.fnExactFreshSpec.post enc Try.prog Try.f8 false true false false) := by
  refine returnsInHanded_of_change_sized (C := Try.checked) own started (by kernel_rfl) Try.func8
    (ChangeSpec.witness6 (enc := enc) (C := Try.checked) false ⟨#[], #[.agg #[.int .i64 0, .slice none 0 0, .slice none 0 0, .int .i64 0], .int .i64 0], []⟩ 8 (by kernel_rfl) (by kernel_rfl) (by kernel_rfl) (by kernel_rfl)) ?_
  intro W base args ds gs before hval0 hW hcnd hsz0 _
  have hval : ∀ (j : Nat) t v, Try.f8.params[j]? = some t → args[j]? = some v → Value.okWide Try.prog W .any base t v := hval0
  have hW' := hW
  obtain ⟨p, q, hA0, hV, rfl, hfz, hnd⟩ := hW
  have hA : DataW.TrodAll enc Try.prog W 0 (fun _ => true) true Try.f8.params.toList args.toList ds p := hA0
  rw [Try.params8] at hA hval
  obtain ⟨v0, vs0, d0, ds0, p0, q0, hargs, rfl, rfl, h0, r0⟩ := trodAll_cons hA
  obtain ⟨v1, vs1, d1, ds1, p1, q1, rfl, rfl, rfl, h1, r1⟩ := trodAll_cons r0
  obtain ⟨rfl, rfl, rfl⟩ := trodAll_nil r1
  obtain rfl : args = #[v0, v1] := by cases args; simp_all
  obtain ⟨rfl, rfl⟩ := trodVars_none hV
  have k0 := h0
  have lt0 : ∀ x ∈ p0, x.block < W.heap.size := by obtain ⟨m, hm⟩ := k0; exact DataW.trod_lt m _ _ _ hm
  obtain ⟨w0_0, w0_1, w0_2, w0_3, y0_0, y0_1, y0_2, y0_3, n0, rfl, rfl, rfl, h0_0, h0_1, h0_2, h0_3⟩ := Joins.open_agg4 Try.underlying39 (by kernel_rfl) (by kernel_rfl) (hval 0 39 v0 rfl rfl) h0
  obtain ⟨p0, e0_0, _, wfp0⟩ := DataW.trod_int Try.underlying3 h0_0
  injection e0_0 with e0_0 _
  subst e0_0
  obtain ⟨q0, e0_3, _, wfq0⟩ := DataW.trod_int Try.underlying3 h0_3
  injection e0_3 with e0_3 _
  subst e0_3
  obtain ⟨b0g, L0g, o0g, l0g, m0g⟩ := came_of_trod Try.underlying22 Try.underlying3 (by kernel_rfl) h0_1
  obtain ⟨b0b, L0b, o0b, l0b, m0b⟩ := came_of_trod Try.underlying22 Try.underlying3 (by kernel_rfl) h0_2
  obtain ⟨a1, rfl, rfl, rfl, wf1⟩ := open_int Try.underlying3 (hval 1 3 v1 rfl rfl) h1
  clear hA0 hval0 hsz0
  refine (run_law (FnExactFresh_c p0 (cond b0g (some 0) none) l0g (cond b0b (some 1) none) l0b q0 a1 ⟨2, fun i => match i with | 0 => o0g | 1 => o0b | _ => .dead⟩ (m0g.at_ _ 0 (show (0 : Nat) < 2 by omega) rfl) (cond_lt (show (0 : Nat) < 2 by omega)) m0g.w64 m0g.len (m0b.at_ _ 1 (show (1 : Nat) < 2 by omega) rfl) (cond_lt (show (1 : Nat) < 2 by omega)) m0b.w64 m0b.len (w1_of wfp0) (w1_of wfq0) (w1_of wf1)) (μ := fun i => match i with | 0 => L0g | 1 => L0b | _ => ⟨0, 0, 0⟩) (W := W) ?_ (vrl_cons (vr_agg (vrl_cons (vr_int _ _ p0) (vrl_cons (m0g.vr _ _ 0 (show (0 : Nat) < 2 by omega) rfl) (vrl_cons (m0b.vr _ _ 1 (show (1 : Nat) < 2 by omega) rfl) (vrl_cons (vr_int _ _ q0) (vrl_nil _ _)))))) (vrl_cons (vr_int _ _ a1) (vrl_nil _ _)))).mono fun e W' ⟨he, bel⟩ => ?_
  · refine rel_rows fun i hi => ?_
    match i, hi with
    | 0, _ => exact ⟨m0g.obr _ _, m0g.own⟩
    | 1, _ => exact ⟨m0b.obr _ _, m0b.own⟩
    | i + 2, hi => exact absurd hi (by show ¬ (i + 2 < 2); omega)
  subst he
  exact ⟨_, rfl, _, _, _, [], _, [], hW', trodAll_mk1 (shut_bool Try.underlying4 _), (trodAll_cons_mk (Below.trod laidOut (by kernel_rfl) (of_decide_eq_true (by kernel_rfl)) k0 bel lt0) (trodAll_cons_mk (shut_int Try.underlying3 wf1) trodAll_mk0)), rfl, bel.frame _, fun h => by cases h⟩
theorem over : Rows.fnExactFreshRow.holds Try.pinned (OpenSpec.ofChange Rows.fnExactFreshSpec) :=
  OpenClaim.holds_of_wide 8 Try.f8 rfl rfl rfl rfl rfl rfl rfl ⟨rfl, rfl, rfl, rfl, rfl⟩ rfl rfl rfl rfl rfl (by kernel_rfl) Try.func8 (by kernel_rfl)
    (of_decide_eq_true (by kernel_rfl)) (by unfold Func.isWrapper; first | (rw [if_pos (by decide +kernel)]; kernel_rfl) | (rw [if_neg (by decide +kernel)]; exact ⟨rfl, rfl⟩))
    (fun os started H enc _ => lifted os started H enc)
theorem proved : Rows.FnExactFreshSaid := over
#print axioms proved
end Go.Proofs.Ytnjlodjehneonaa.fnExactFresh
namespace Go.Proofs.Ytnjlodjehneonaa
/-- The row, under a short name, for the claim. -/
theorem fnExactFresh_holds : Rows.FnExactFreshSaid := fnExactFresh.proved
end Go.Proofs.Ytnjlodjehneonaa
