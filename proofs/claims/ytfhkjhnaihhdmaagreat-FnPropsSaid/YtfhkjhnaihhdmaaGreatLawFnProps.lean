/- For all drawn bytes: what is set of a drawn object is its own, and looked up; all other names stay, and who has it as prototype sees it, if it has none of its own. (P5) (FnProps). No condition. -/
import Derived.Test.YtfhkjhnaihhdmaaGreatRows
import Derived.Test.YtfhkjhnaihhdmaaGreatLProps
namespace Go.Proofs.YtfhkjhnaihhdmaaGreat.fnProps
open Go Go.Proofs.YtfhkjhnaihhdmaaGreatW.Ax
open Go.ChangeShapes Go.WideShapes Go.ChangeAt Go.RowKit Go.Joins
open Go.ChangeMaps (open_string shut_string)
set_option linter.unusedVariables false
theorem own : ownKnob Tryz.prog.godebug = none := by kernel_rfl
theorem laidOut : laidOutB Tryz.prog = true := by kernel_rfl
set_option maxRecDepth 100000 in
theorem lifted (os : Os) (started : os.Started) (H : Type) (enc : TypeId × Value → H) :
    ReturnsInHanded {} Tryz.checked os 7 .any (Rows.fnPropsSpec.pre6 enc Tryz.prog Tryz.f7 Rows.fnPropsRow.domain false) (Rows.fnPropsSpec.post enc Tryz.prog Tryz.f7 false true false false) := by
  refine returnsInHanded_of_change_sized (C := Tryz.checked) own started (by kernel_rfl) Tryz.func7
    (ChangeSpec.witness6 (enc := enc) (C := Tryz.checked) false ⟨#[], #[.slice none 0 0], []⟩ 8 (by kernel_rfl) (by kernel_rfl) (by kernel_rfl) (by kernel_rfl)) ?_
  intro W base args ds gs before hval0 hW hcnd hsz0 _
  have hval : ∀ (j : Nat) t v, Tryz.f7.params[j]? = some t → args[j]? = some v → Value.okWide Tryz.prog W .any base t v := hval0
  have hW' := hW
  obtain ⟨p, q, hA0, hV, rfl, hfz, hnd⟩ := hW
  have hA : DataW.TrodAll enc Tryz.prog W 0 (fun _ => true) true Tryz.f7.params.toList args.toList ds p := hA0
  rw [Tryz.params7] at hA hval
  obtain ⟨v0, vs0, d0, ds0, p0, q0, hargs, rfl, rfl, h0, r0⟩ := trodAll_cons hA
  obtain ⟨rfl, rfl, rfl⟩ := trodAll_nil r0
  obtain rfl : args = #[v0] := by cases args; simp_all
  obtain ⟨rfl, rfl⟩ := trodVars_none hV
  have k0 := h0
  have lt0 : ∀ x ∈ p0, x.block < W.heap.size := by obtain ⟨m, hm⟩ := k0; exact DataW.trod_lt m _ _ _ hm
  obtain ⟨b0, L0, o0, l0, m0⟩ := cameB_of_arg Tryz.underlying22 Tryz.underlying5 (by kernel_rfl) (hval 0 22 v0 rfl rfl) h0
  clear hA0 hval0 hsz0
  refine (run_law (FnProps_c (cond b0 (some 0) none) l0 ⟨1, fun i => match i with | 0 => o0 | _ => .dead⟩ (m0.at_ _ 0 (show (0 : Nat) < 1 by omega) rfl) m0.u8 m0.len (cond_lt (show (0 : Nat) < 1 by omega))) (μ := fun i => match i with | 0 => L0 | _ => ⟨0, 0, 0⟩) (W := W) ?_ (vrl_cons (m0.vr _ _ 0 (show (0 : Nat) < 1 by omega) rfl) (vrl_nil _ _))).mono fun e W' ⟨he, bel⟩ => ?_
  · refine rel_rows fun i hi => ?_
    match i, hi with
    | 0, _ => exact ⟨m0.obr _ _, m0.own⟩
    | i + 1, hi => exact absurd hi (by show ¬ (i + 1 < 1); omega)
  subst he
  exact ⟨_, rfl, _, _, _, [], _, [], hW', trodAll_mk1 (shut_bool Tryz.underlying4 _), (trodAll_cons_mk (Below.trod laidOut (by kernel_rfl) (of_decide_eq_true (by kernel_rfl)) k0 bel lt0) trodAll_mk0), rfl, bel.frame _, fun h => by cases h⟩
theorem over : Rows.fnPropsRow.holds Tryz.pinned (OpenSpec.ofChange Rows.fnPropsSpec) :=
  OpenClaim.holds_of_wide 7 Tryz.f7 rfl rfl rfl rfl rfl rfl rfl ⟨rfl, rfl, rfl, rfl, rfl⟩ rfl rfl rfl rfl rfl (by kernel_rfl) Tryz.func7 (by kernel_rfl)
    (of_decide_eq_true (by kernel_rfl)) (by unfold Func.isWrapper; first | (rw [if_pos (by decide +kernel)]; kernel_rfl) | (rw [if_neg (by decide +kernel)]; exact ⟨rfl, rfl⟩))
    (fun os started H enc _ => lifted os started H enc)
theorem proved : Rows.FnPropsSaid := over
#print axioms proved
end Go.Proofs.YtfhkjhnaihhdmaaGreat.fnProps
namespace Go.Proofs.YtfhkjhnaihhdmaaGreat
/-- The row, under a short name, for the claim. -/
theorem fnProps_holds : Rows.FnPropsSaid := fnProps.proved
end Go.Proofs.YtfhkjhnaihhdmaaGreat
