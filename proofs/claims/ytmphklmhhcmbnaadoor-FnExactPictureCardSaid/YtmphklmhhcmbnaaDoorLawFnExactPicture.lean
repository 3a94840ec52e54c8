/- For every input the program's Picture answers as the reference's (FnExactPicture), the card: the three tables of Go's library that the row lists hold what the program's own text lays (tied). No other condition. -/
import Derived.Test.YtmphklmhhcmbnaaDoorRows
import Derived.Test.YtmphklmhhcmbnaaDoorXw
import Derived.Test.YtmphklmhhcmbnaaDoorYl
import Derived.Test.YtmphklmhhcmbnaaDoorPm
import Derived.Test.YtmphklmhhcmbnaaDoorPn
import Derived.Test.YtmphklmhhcmbnaaDoorTie
import Derived.Test.YtmphklmhhcmbnaaDoorCards
import Derived.SevenTiedAt
namespace Go.Proofs.YtmphklmhhcmbnaaDoorW.Ax
open Go Go.RowKit Go.Proofs Go.Proofs.YtmphklmhhcmbnaaDoor.Pure
set_option linter.unusedVariables false
set_option maxRecDepth 100000 in
theorem FnExactPicture_c (r0 : Option Nat) (l0 : List Int) (r1 : Option Nat) (l1 : List Int) (st : St) (hx0 : At st r0 0 l0) (hr0 : ∀ i, r0 = some i → i < st.n) (hw0 : W64 l0) (hm0 : l0.length ≤ 9223372036854775807) (hx1 : At st r1 0 l1) (hr1 : ∀ i, r1 = some i → i < st.n) (hw1 : W64 l1) (hm1 : l1.length ≤ 9223372036854775807) (ht : Tab Tryd.prog st) : ACalls Tryd.prog 3 [.agg [.sl r0 0 l0.length], .sl r1 0 l1.length] st No (Pv (.bool true)) := by
  refine ent (N := 43) Tryd.func3 rfl (by decide) rfl rfl rfl ?_
  refine crr (by kernel_rfl) rfl ?_
  refine c_seq ?_
  refine crr (by kernel_rfl) rfl ?_
  refine c_if rfl (fun h => ?_) (fun h => ?_)
  · refine crr (by kernel_rfl) rfl ?_
    exact c_ret (fr rfl rfl)
  have hh2 := of_decide_eq_false h
  clear h
  refine c_skip ?_
  refine crr (by kernel_rfl) rfl ?_
  refine c_rs (by kernel_rfl) ?_
  refine sr 2 rfl ?_
  refine s_op rfl (o_ex loud_n rfl (szSlab_c (h0 := by omega) (h1 := by omega) (hn := by omega) ..) ?_)
  rintro v st' ⟨x1, rfl, hax1, hbx1, rfl⟩ _
  refine sra rfl ?_
  refine c_seq ?_
  refine c_rs (by kernel_rfl) ?_
  refine sra rfl ?_
  refine c_if rfl (fun h => ?_) (fun h => ?_)
  · refine crr (by kernel_rfl) rfl ?_
    exact c_ret (fr rfl rfl)
  have hh6 := of_decide_eq_false h
  clear h
  refine c_skip ?_
  refine c_rs (by kernel_rfl) ?_
  refine sr 1 rfl ?_
  refine s_op rfl (o_ex loud_n rfl (toSlab_c (hx := hx0) (hl := by omega) ..) ?_)
  rintro v st1 ⟨rv1, rfl, fv1⟩ e1
  have n1 := e1.n
  replace hx0 := hx0.ex e1
  replace hx1 := hx1.ex e1
  replace ht := ht.ex e1
  have bv1 := fv1.bd
  refine sr 1 rfl ?_
  refine s_op rfl (o_ex loud_n rfl (toIntS_c (hx := hx1) (hl := by omega) ..) ?_)
  rintro v st2 ⟨rv2, rfl, fv2⟩ e2
  have n2 := e2.n
  replace hx0 := hx0.ex e2
  replace hx1 := hx1.ex e2
  replace ht := ht.ex e2
  replace fv1 := fv1.ex e2
  have bv2 := fv2.bd
  refine s_op rfl (o_ex loud_n rfl (Picture_c (hx := fv1.at_) (hy := fv2.at_) (hl := by omega) (hlr := by omega) (hw := hw0) (hwr := hw1) (hok := fun h a ha => lnOk_of h ha) (hol := fun h => (ord_ok h).len) ..) ?_)
  rintro v st3 rfl e3
  have nv3 := e3.n
  replace hx0 := hx0.ex e3
  replace hx1 := hx1.ex e3
  replace ht := ht.ex e3
  replace fv1 := fv1.ex e3
  replace fv2 := fv2.ex e3
  refine sra rfl ?_
  refine c_rs (by kernel_rfl) ?_
  refine sr 1 rfl ?_
  refine s_op rfl (o_ex loud_n rfl (toSlab_c (hx := hx0) (hl := by omega) ..) ?_)
  rintro v st4 ⟨rv4, rfl, fv4⟩ e4
  have n4 := e4.n
  replace hx0 := hx0.ex e4
  replace hx1 := hx1.ex e4
  replace ht := ht.ex e4
  replace fv1 := fv1.ex e4
  replace fv2 := fv2.ex e4
  have bv4 := fv4.bd
  refine sra rfl ?_
  refine c_rs (by kernel_rfl) ?_
  refine sr 1 rfl ?_
  refine s_op rfl (o_ex loud_n rfl (toIntS_c (hx := hx1) (hl := by omega) ..) ?_)
  rintro v st5 ⟨rv5, rfl, fv5⟩ e5
  have n5 := e5.n
  replace hx0 := hx0.ex e5
  replace hx1 := hx1.ex e5
  replace ht := ht.ex e5
  replace fv1 := fv1.ex e5
  replace fv2 := fv2.ex e5
  replace fv4 := fv4.ex e5
  have bv5 := fv5.bd
  refine sra rfl ?_
  refine c_rs (by kernel_rfl) ?_
  refine sr 2 rfl ?_
  refine s_op rfl (o_ex loud_n rfl (iPicture_c (ht := ht) (hx := fv4.at_) (hy := fv5.at_) (hl := by omega) (hlr := by omega) (hw := hw0) (hwr := hw1) ..) ?_)
  rintro v st6 rfl e6
  have nv6 := e6.n
  replace hx0 := hx0.ex e6
  replace hx1 := hx1.ex e6
  replace ht := ht.ex e6
  replace fv1 := fv1.ex e6
  replace fv2 := fv2.ex e6
  replace fv4 := fv4.ex e6
  replace fv5 := fv5.ex e6
  refine sra rfl ?_
  refine c_seq ?_
  refine c_rs (by kernel_rfl) ?_
  refine sr 2 rfl ?_
  refine s_op rfl (oeq rfl (.v (.bool false)) (by simp) ?_)
  refine s_end ?_
  refine c_if_f rfl ?_
  refine c_skip ?_
  refine c_seq ?_
  refine cds [0, 1, 2, 3, 4] [.q, .q, .f, .f, .q] (by kernel_rfl) (by kernel_rfl) ?_
  refine sr 2 rfl ?_
  refine s_op rfl (o_ex loud_f rfl (toSlab_c (hx := hx0) (hl := by omega) ..) ?_)
  rintro v st7 ⟨rv7, rfl, fv7⟩ e7
  have n7 := e7.n
  replace hx0 := hx0.ex e7
  replace hx1 := hx1.ex e7
  replace ht := ht.ex e7
  replace fv1 := fv1.ex e7
  replace fv2 := fv2.ex e7
  replace fv4 := fv4.ex e7
  replace fv5 := fv5.ex e7
  have bv7 := fv7.bd
  refine s_op rfl (o_pure loud_f rfl (eqSlab_t (hx := fv4.at_) (hy := fv7.at_) (hl := by omega) ..) ?_)
  refine sra rfl ?_
  refine c_if_f rfl ?_
  refine c_skip ?_
  refine c_seq ?_
  refine c_rs (by kernel_rfl) ?_
  refine sr 2 rfl ?_
  refine s_op rfl (o_ex loud_n rfl (toIntS_c (hx := hx1) (hl := by omega) ..) ?_)
  rintro v st8 ⟨rv8, rfl, fv8⟩ e8
  have n8 := e8.n
  replace hx0 := hx0.ex e8
  replace hx1 := hx1.ex e8
  replace ht := ht.ex e8
  replace fv1 := fv1.ex e8
  replace fv2 := fv2.ex e8
  replace fv4 := fv4.ex e8
  replace fv5 := fv5.ex e8
  replace fv7 := fv7.ex e8
  have bv8 := fv8.bd
  refine s_op rfl (o_pure loud_n rfl (eqIntS_t (hx := fv5.at_) (hy := fv8.at_) (hl := by omega) ..) ?_)
  refine sra rfl ?_
  refine c_if_f rfl ?_
  refine c_skip ?_
  refine crr (by kernel_rfl) rfl ?_
  exact c_ret (fr rfl rfl)
end Go.Proofs.YtmphklmhhcmbnaaDoorW.Ax
namespace Go.Proofs.YtmphklmhhcmbnaaDoor.fnExactPicture
open Go Go.Proofs.YtmphklmhhcmbnaaDoorW.Ax
open Go.ChangeShapes Go.WideShapes Go.ChangeAt Go.RowKit Go.Joins
open Go.ChangeMaps (open_string shut_string)
set_option linter.unusedVariables false
theorem own : ownKnob Tryd.prog.godebug = none := by kernel_rfl
theorem laidOut : laidOutB Tryd.prog = true := by kernel_rfl
set_option maxRecDepth 100000 in
theorem lifted (os : Os) (started : os.Started) (H : Type) (enc : TypeId × Value → H) :
    ReturnsInHanded {} Tryd.checked os 3 .any (fun w args => (Rows.fnExactPictureSpec.pre enc Tryd.prog Tryd.f3 [] false w args ∧ laidMetH Tryd.prog laid3 w) ∧ sizedMet enc Tryd.prog Tryd.f3 (OpenSpec.ofChange Rows.fnExactPictureSpec) false w args) (Rows.fnExactPictureSpec.post enc Tryd.prog Tryd.f3 false true false false) := by
  refine returnsInHanded_of_change_and (C := Tryd.checked) (X := fun w _ => laidMetH Tryd.prog laid3 w) (fun _ _ _ hh h => h.of_heap hh) own started (by kernel_rfl) Tryd.func3
    (ChangeSpec.witness_shaped (enc := enc) (C := Tryd.checked) (os := os) (X := fun w _ => laidMetH Tryd.prog laid3 w) false (World.doorLaid Tryd.prog 24 os) #[.agg #[.slice none 0 0], .slice none 0 0] 8 rfl (World.shaped_of_RefB (by kernel_rfl) (by kernel_rfl)) (by kernel_rfl) (by kernel_rfl) (by kernel_rfl) (door_met os _)) ?_
  intro W base args ds gs before hval0 hW _ _ hL _
  have hval : ∀ (j : Nat) t v, Tryd.f3.params[j]? = some t → args[j]? = some v → Value.okWide Tryd.prog W .any base t v := hval0
  have hW' := hW
  obtain ⟨p, q, hA0, hV, rfl, hfz, hnd⟩ := hW
  have hA : DataW.TrodAll enc Tryd.prog W 0 (fun _ => true) true Tryd.f3.params.toList args.toList ds p := hA0
  rw [Tryd.params3] at hA hval
  obtain ⟨v0, vs0, d0, ds0, p0, q0, hargs, rfl, rfl, h0, r0⟩ := trodAll_cons hA
  obtain ⟨v1, vs1, d1, ds1, p1, q1, rfl, rfl, rfl, h1, r1⟩ := trodAll_cons r0
  obtain ⟨rfl, rfl, rfl⟩ := trodAll_nil r1
  obtain rfl : args = #[v0, v1] := by cases args; simp_all
  obtain ⟨rfl, rfl⟩ := trodVars_none hV
  obtain ⟨ET, fzT, hT⟩ := tab_met hL
  have k0 := h0
  have lt0 : ∀ x ∈ p0, x.block < W.heap.size := by obtain ⟨m, hm⟩ := k0; exact DataW.trod_lt m _ _ _ hm
  obtain ⟨w0_0, y0_0, n0, rfl, rfl, rfl, h0_0⟩ := open_agg1 Tryd.underlying24 (by kernel_rfl) (by kernel_rfl) (hval 0 24 v0 rfl rfl) h0
  obtain ⟨b0, L0, o0, l0, m0⟩ := came_of_trod Tryd.underlying22 Tryd.underlying3 (by kernel_rfl) h0_0
  have k1 := h1
  have lt1 : ∀ x ∈ p1, x.block < W.heap.size := by obtain ⟨m, hm⟩ := k1; exact DataW.trod_lt m _ _ _ hm
  obtain ⟨b1, L1, o1, l1, m1⟩ := came_of_arg Tryd.underlying22 Tryd.underlying3 (by kernel_rfl) (hval 1 22 v1 rfl rfl) h1
  clear hA0 hval0
  refine (run_law (FnExactPicture_c (cond b0 (some 0) none) l0 (cond b1 (some 1) none) l1 ⟨3, fun i => match i with | 0 => o0 | 1 => o1 | 2 => .fix 0 (Lib.pow10Tab.map fun z => Value.int .u64 z).toArray | _ => .dead⟩ (m0.at_ _ 0 (show (0 : Nat) < 3 by omega) rfl) (cond_lt (show (0 : Nat) < 3 by omega)) m0.w64 m0.len (m1.at_ _ 1 (show (1 : Nat) < 3 by omega) rfl) (cond_lt (show (1 : Nat) < 3 by omega)) m1.w64 m1.len ⟨2, 0, (show (2 : Nat) < 3 by omega), gPow, rfl⟩) (μ := fun i => match i with | 0 => L0 | 1 => L1 | 2 => ⟨0, 0, 0⟩ | _ => ⟨0, 0, 0⟩) (W := W) ?_ (vrl_cons (vr_agg (vrl_cons (m0.vr _ _ 0 (show (0 : Nat) < 3 by omega) rfl) (vrl_nil _ _))) (vrl_cons (m1.vr _ _ 1 (show (1 : Nat) < 3 by omega) rfl) (vrl_nil _ _)))).mono fun e W' ⟨he, bel⟩ => ?_
  · refine rel_rows fun i hi => ?_
    match i, hi with
    | 0, _ => exact ⟨m0.obr _ _, m0.own⟩
    | 1, _ => exact ⟨m1.obr _ _, m1.own⟩
    | 2, _ => exact ⟨⟨rfl, ET, fzT, hT⟩, rfl⟩
    | i + 3, hi => exact absurd hi (by show ¬ (i + 3 < 3); omega)
  subst he
  exact ⟨_, rfl, _, _, _, [], _, [], hW', trodAll_mk1 (shut_bool Tryd.underlying4 _), (trodAll_cons_mk (Below.trod laidOut (by kernel_rfl) (of_decide_eq_true (by kernel_rfl)) k0 bel lt0) (trodAll_cons_mk (Below.trod laidOut (by kernel_rfl) (of_decide_eq_true (by kernel_rfl)) k1 bel lt1) trodAll_mk0)), rfl, bel.frame _, fun h => by cases h⟩
theorem over : Rows.fnExactPictureRow.holds Tryd.pinned (OpenSpec.ofChange Rows.fnExactPictureSpec) :=
  OpenClaim.holds_of_wide 3 Tryd.f3 rfl rfl rfl rfl rfl rfl rfl ⟨rfl, rfl, rfl, rfl, rfl⟩ rfl rfl rfl rfl rfl (by kernel_rfl) Tryd.func3 (by kernel_rfl)
    (of_decide_eq_true (by kernel_rfl)) (by unfold Func.isWrapper; first | (rw [if_pos (by decide +kernel)]; kernel_rfl) | (rw [if_neg (by decide +kernel)]; exact ⟨rfl, rfl⟩))
    (fun os started H enc _ => lifted os started H enc)
theorem proved : Rows.FnExactPictureSaid := over
theorem card : Rows.FnExactPictureCardSaid :=
  Claim7.holds_tied_plain_at .later [] [.data, .data, .data] true (true, "7cafd89ae47f1e081c13d91c8b64bef861dd64d5e3961e6395fa62d75a5ee9d2") false
    proved (fun _ h => by cases h) (by kernel_rfl) (fun _ h => by cases h) fnExactPicture_row_tie rfl ⟨rfl, rfl⟩ (by kernel_rfl) rfl
    (fun f fn hf hfn => by
      obtain rfl : f = 3 := Option.some.inj ((show Tryd.prog.funcNamed Rows.fnExactPictureRow.func = some 3 by kernel_rfl).symm.trans hf) |>.symm
      obtain rfl : fn = Tryd.f3 := (Option.some.inj (Tryd.func3.symm.trans hfn)).symm
      exact ⟨by kernel_rfl, fun j t ht => by
        rw [Tryd.params3] at ht
        have hm : t ∈ [24, 22] := by simpa using Array.mem_of_getElem? ht
        have hall : ([24, 22].all fun u => !Tryd.prog.wantsStandIn u) = true := by kernel_rfl
        exact (show Tryd.prog.wantsStandIn t = false by simpa using List.all_eq_true.1 hall t hm)⟩)
    (by kernel_rfl)
#print axioms proved
end Go.Proofs.YtmphklmhhcmbnaaDoor.fnExactPicture
namespace Go.Proofs.YtmphklmhhcmbnaaDoor
/-- The row, under a short name, for the claim. -/
theorem fnExactPicture_holds : Rows.FnExactPictureCardSaid := fnExactPicture.card
end Go.Proofs.YtmphklmhhcmbnaaDoor
