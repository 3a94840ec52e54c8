/- For every input the program's SameSight answers as the reference's (FnExactSameSight), the card: the three tables of Go's library that the row lists hold what the program's own text lays (tied). No other condition. -/
import Derived.Test.YtmphklmhhcmbnaaDoorRows
import Derived.Test.YtmphklmhhcmbnaaDoorXw
import Derived.Test.YtmphklmhhcmbnaaDoorYl
import Derived.Test.YtmphklmhhcmbnaaDoorPm
import Derived.Test.YtmphklmhhcmbnaaDoorPn
import Derived.Test.YtmphklmhhcmbnaaDoorTie
import Derived.Test.YtmphklmhhcmbnaaDoorCards
import Derived.SevenTiedAt
namespace Go.Proofs.YtmphklmhhcmbnaaDoorW.Ax
open Go Go.RowKit Go.Proofs Go.Proofs.YtmphklmhhcmbnaaDoor.Pure
set_option linter.unusedVariables false
set_option maxRecDepth 100000 in
theorem FnExactSameSight_c (r0 : Option Nat) (l0 : List Int) (r1 : Option Nat) (l1 : List Int) (r2 : Option Nat) (l2 : List Int) (r3 : Option Nat) (l3 : List Int) (st : St) (hx0 : At st r0 0 l0) (hr0 : ∀ i, r0 = some i → i < st.n) (hw0 : W64 l0) (hm0 : l0.length ≤ 9223372036854775807) (hx1 : At st r1 0 l1) (hr1 : ∀ i, r1 = some i → i < st.n) (hw1 : W64 l1) (hm1 : l1.length ≤ 9223372036854775807) (hx2 : At st r2 0 l2) (hr2 : ∀ i, r2 = some i → i < st.n) (hw2 : W64 l2) (hm2 : l2.length ≤ 9223372036854775807) (hx3 : At st r3 0 l3) (hr3 : ∀ i, r3 = some i → i < st.n) (hw3 : W64 l3) (hm3 : l3.length ≤ 9223372036854775807) (ht : Tab Tryd.prog st) : ACalls Tryd.prog 4 [.agg [.sl r0 0 l0.length], .sl r1 0 l1.length, .agg [.sl r2 0 l2.length], .sl r3 0 l3.length] st No (Pv (.bool true)) := by
  refine ent (N := 77) Tryd.func4 rfl (by decide) rfl rfl rfl ?_
  refine crr (by kernel_rfl) rfl ?_
  refine c_seq ?_
  refine crr (by kernel_rfl) rfl ?_
  refine c_if rfl (fun h => ?_) (fun h => ?_)
  · refine crr (by kernel_rfl) rfl ?_
    exact c_ret (fr rfl rfl)
  have hh2 := of_decide_eq_false h
  clear h
  refine c_skip ?_
  refine c_seq ?_
  refine crr (by kernel_rfl) rfl ?_
  refine c_if rfl (fun h => ?_) (fun h => ?_)
  · refine crr (by kernel_rfl) rfl ?_
    exact c_ret (fr rfl rfl)
  have hh4 := of_decide_eq_false h
  clear h
  refine c_skip ?_
  refine crr (by kernel_rfl) rfl ?_
  refine c_rs (by kernel_rfl) ?_
  refine sr 2 rfl ?_
  refine s_op rfl (o_ex loud_n rfl (szSlab_c (h0 := by omega) (h1 := by omega) (hn := by omega) ..) ?_)
  rintro v st' ⟨x1, rfl, hax1, hbx1, rfl⟩ _
  refine sra rfl ?_
  refine c_seq ?_
  refine c_rs (by kernel_rfl) ?_
  refine sra rfl ?_
  refine c_if rfl (fun h => ?_) (fun h => ?_)
  · refine crr (by kernel_rfl) rfl ?_
    exact c_ret (fr rfl rfl)
  have hh8 := of_decide_eq_false h
  clear h
  refine c_skip ?_
  refine c_rs (by kernel_rfl) ?_
  refine sr 2 rfl ?_
  refine s_op rfl (o_ex loud_n rfl (szSlab_c (h0 := by omega) (h1 := by omega) (hn := by omega) ..) ?_)
  rintro v st' ⟨x2, rfl, hax2, hbx2, rfl⟩ _
  refine sra rfl ?_
  refine c_seq ?_
  refine c_rs (by kernel_rfl) ?_
  refine sra rfl ?_
  refine c_if rfl (fun h => ?_) (fun h => ?_)
  · refine crr (by kernel_rfl) rfl ?_
    exact c_ret (fr rfl rfl)
  have hh11 := of_decide_eq_false h
  clear h
  refine c_skip ?_
  refine cds [0, 2, 4, 6, 1, 3, 5, 7, 8, 9] [.q, .q, .q, .q, .f, .f, .f, .f, .f, .q] (by kernel_rfl) (by kernel_rfl) ?_
  refine sr 4 rfl ?_
  refine s_op rfl (o_ex loud_f rfl (toSlab_c (hx := hx0) (hl := by omega) ..) ?_)
  rintro v st1 ⟨rv1, rfl, fv1⟩ e1
  have n1 := e1.n
  replace hx0 := hx0.ex e1
  replace hx1 := hx1.ex e1
  replace hx2 := hx2.ex e1
  replace hx3 := hx3.ex e1
  replace ht := ht.ex e1
  have bv1 := fv1.bd
  refine s_op rfl (o_ex loud_f rfl (toIntS_c (hx := hx1) (hl := by omega) ..) ?_)
  rintro v st2 ⟨rv2, rfl, fv2⟩ e2
  have n2 := e2.n
  replace hx0 := hx0.ex e2
  replace hx1 := hx1.ex e2
  replace hx2 := hx2.ex e2
  replace hx3 := hx3.ex e2
  replace ht := ht.ex e2
  replace fv1 := fv1.ex e2
  have bv2 := fv2.bd
  refine s_op rfl (o_ex loud_f rfl (toSlab_c (hx := hx2) (hl := by omega) ..) ?_)
  rintro v st3 ⟨rv3, rfl, fv3⟩ e3
  have n3 := e3.n
  replace hx0 := hx0.ex e3
  replace hx1 := hx1.ex e3
  replace hx2 := hx2.ex e3
  replace hx3 := hx3.ex e3
  replace ht := ht.ex e3
  replace fv1 := fv1.ex e3
  replace fv2 := fv2.ex e3
  have bv3 := fv3.bd
  refine s_op rfl (o_ex loud_f rfl (toIntS_c (hx := hx3) (hl := by omega) ..) ?_)
  rintro v st4 ⟨rv4, rfl, fv4⟩ e4
  have n4 := e4.n
  replace hx0 := hx0.ex e4
  replace hx1 := hx1.ex e4
  replace hx2 := hx2.ex e4
  replace hx3 := hx3.ex e4
  replace ht := ht.ex e4
  replace fv1 := fv1.ex e4
  replace fv2 := fv2.ex e4
  replace fv3 := fv3.ex e4
  have bv4 := fv4.bd
  refine s_op rfl (o_ex loud_f rfl (SameSight_c (hx := fv1.at_) (hy := fv2.at_) (hx2 := fv3.at_) (hy2 := fv4.at_) (hl := by omega) (hlr := by omega) (hl2 := by omega) (hlr2 := by omega) (hw := hw0) (hwr := hw1) (hw2 := hw2) (hwr2 := hw3) ..) ?_)
  rintro v st5 rfl e5
  have nv5 := e5.n
  replace hx0 := hx0.ex e5
  replace hx1 := hx1.ex e5
  replace hx2 := hx2.ex e5
  replace hx3 := hx3.ex e5
  replace ht := ht.ex e5
  replace fv1 := fv1.ex e5
  replace fv2 := fv2.ex e5
  replace fv3 := fv3.ex e5
  replace fv4 := fv4.ex e5
  refine sra rfl ?_
  refine c_rs (by kernel_rfl) ?_
  refine sr 1 rfl ?_
  refine s_op rfl (o_ex loud_n rfl (toSlab_c (hx := hx0) (hl := by omega) ..) ?_)
  rintro v st6 ⟨rv6, rfl, fv6⟩ e6
  have n6 := e6.n
  replace hx0 := hx0.ex e6
  replace hx1 := hx1.ex e6
  replace hx2 := hx2.ex e6
  replace hx3 := hx3.ex e6
  replace ht := ht.ex e6
  replace fv1 := fv1.ex e6
  replace fv2 := fv2.ex e6
  replace fv3 := fv3.ex e6
  replace fv4 := fv4.ex e6
  have bv6 := fv6.bd
  refine sra rfl ?_
  refine c_rs (by kernel_rfl) ?_
  refine sr 1 rfl ?_
  refine s_op rfl (o_ex loud_n rfl (toIntS_c (hx := hx1) (hl := by omega) ..) ?_)
  rintro v st7 ⟨rv7, rfl, fv7⟩ e7
  have n7 := e7.n
  replace hx0 := hx0.ex e7
  replace hx1 := hx1.ex e7
  replace hx2 := hx2.ex e7
  replace hx3 := hx3.ex e7
  replace ht := ht.ex e7
  replace fv1 := fv1.ex e7
  replace fv2 := fv2.ex e7
  replace fv3 := fv3.ex e7
  replace fv4 := fv4.ex e7
  replace fv6 := fv6.ex e7
  have bv7 := fv7.bd
  refine sra rfl ?_
  refine c_rs (by kernel_rfl) ?_
  refine sr 1 rfl ?_
  refine s_op rfl (o_ex loud_n rfl (toSlab_c (hx := hx2) (hl := by omega) ..) ?_)
  rintro v st8 ⟨rv8, rfl, fv8⟩ e8
  have n8 := e8.n
  replace hx0 := hx0.ex e8
  replace hx1 := hx1.ex e8
  replace hx2 := hx2.ex e8
  replace hx3 := hx3.ex e8
  replace ht := ht.ex e8
  replace fv1 := fv1.ex e8
  replace fv2 := fv2.ex e8
  replace fv3 := fv3.ex e8
  replace fv4 := fv4.ex e8
  replace fv6 := fv6.ex e8
  replace fv7 := fv7.ex e8
  have bv8 := fv8.bd
  refine sra rfl ?_
  refine c_rs (by kernel_rfl) ?_
  refine sr 1 rfl ?_
  refine s_op rfl (o_ex loud_n rfl (toIntS_c (hx := hx3) (hl := by omega) ..) ?_)
  rintro v st9 ⟨rv9, rfl, fv9⟩ e9
  have n9 := e9.n
  replace hx0 := hx0.ex e9
  replace hx1 := hx1.ex e9
  replace hx2 := hx2.ex e9
  replace hx3 := hx3.ex e9
  replace ht := ht.ex e9
  replace fv1 := fv1.ex e9
  replace fv2 := fv2.ex e9
  replace fv3 := fv3.ex e9
  replace fv4 := fv4.ex e9
  replace fv6 := fv6.ex e9
  replace fv7 := fv7.ex e9
  replace fv8 := fv8.ex e9
  have bv9 := fv9.bd
  refine sra rfl ?_
  refine c_rs (by kernel_rfl) ?_
  refine sr 4 rfl ?_
  refine s_op rfl (o_ex loud_n rfl (iSameSight_c (ht := ht) (hx := fv6.at_) (hy := fv7.at_) (hx2 := fv8.at_) (hy2 := fv9.at_) (hl := by omega) (hlr := by omega) (hl2 := by omega) (hlr2 := by omega) (hw := hw0) (hwr := hw1) (hw2 := hw2) (hwr2 := hw3) ..) ?_)
  rintro v st10 rfl e10
  have nv10 := e10.n
  replace hx0 := hx0.ex e10
  replace hx1 := hx1.ex e10
  replace hx2 := hx2.ex e10
  replace hx3 := hx3.ex e10
  replace ht := ht.ex e10
  replace fv1 := fv1.ex e10
  replace fv2 := fv2.ex e10
  replace fv3 := fv3.ex e10
  replace fv4 := fv4.ex e10
  replace fv6 := fv6.ex e10
  replace fv7 := fv7.ex e10
  replace fv8 := fv8.ex e10
  replace fv9 := fv9.ex e10
  refine sra rfl ?_
  refine c_seq ?_
  refine c_rs (by kernel_rfl) ?_
  refine sr 2 rfl ?_
  refine s_op rfl (oneB rfl rfl rfl rfl ?_)
  refine s_end ?_
  refine c_if_f rfl ?_
  refine c_skip ?_
  refine c_seq ?_
  refine cds [0, 1, 2, 3, 4] [.q, .q, .f, .f, .q] (by kernel_rfl) (by kernel_rfl) ?_
  refine sr 2 rfl ?_
  refine s_op rfl (o_ex loud_f rfl (toSlab_c (hx := hx0) (hl := by omega) ..) ?_)
  rintro v st11 ⟨rv11, rfl, fv11⟩ e11
  have n11 := e11.n
  replace hx0 := hx0.ex e11
  replace hx1 := hx1.ex e11
  replace hx2 := hx2.ex e11
  replace hx3 := hx3.ex e11
  replace ht := ht.ex e11
  replace fv1 := fv1.ex e11
  replace fv2 := fv2.ex e11
  replace fv3 := fv3.ex e11
  replace fv4 := fv4.ex e11
  replace fv6 := fv6.ex e11
  replace fv7 := fv7.ex e11
  replace fv8 := fv8.ex e11
  replace fv9 := fv9.ex e11
  have bv11 := fv11.bd
  refine s_op rfl (o_pure loud_f rfl (eqSlab_t (hx := fv6.at_) (hy := fv11.at_) (hl := by omega) ..) ?_)
  refine sra rfl ?_
  refine c_if_f rfl ?_
  refine c_skip ?_
  refine c_seq ?_
  refine c_rs (by kernel_rfl) ?_
  refine sr 2 rfl ?_
  refine s_op rfl (o_ex loud_n rfl (toIntS_c (hx := hx1) (hl := by omega) ..) ?_)
  rintro v st12 ⟨rv12, rfl, fv12⟩ e12
  have n12 := e12.n
  replace hx0 := hx0.ex e12
  replace hx1 := hx1.ex e12
  replace hx2 := hx2.ex e12
  replace hx3 := hx3.ex e12
  replace ht := ht.ex e12
  replace fv1 := fv1.ex e12
  replace fv2 := fv2.ex e12
  replace fv3 := fv3.ex e12
  replace fv4 := fv4.ex e12
  replace fv6 := fv6.ex e12
  replace fv7 := fv7.ex e12
  replace fv8 := fv8.ex e12
  replace fv9 := fv9.ex e12
  replace fv11 := fv11.ex e12
  have bv12 := fv12.bd
  refine s_op rfl (o_pure loud_n rfl (eqIntS_t (hx := fv7.at_) (hy := fv12.at_) (hl := by omega) ..) ?_)
  refine sra rfl ?_
  refine c_if_f rfl ?_
  refine c_skip ?_
  refine c_seq ?_
  refine cds [0, 1, 2, 3, 4] [.q, .q, .f, .f, .q] (by kernel_rfl) (by kernel_rfl) ?_
  refine sr 2 rfl ?_
  refine s_op rfl (o_ex loud_f rfl (toSlab_c (hx := hx2) (hl := by omega) ..) ?_)
  rintro v st13 ⟨rv13, rfl, fv13⟩ e13
  have n13 := e13.n
  replace hx0 := hx0.ex e13
  replace hx1 := hx1.ex e13
  replace hx2 := hx2.ex e13
  replace hx3 := hx3.ex e13
  replace ht := ht.ex e13
  replace fv1 := fv1.ex e13
  replace fv2 := fv2.ex e13
  replace fv3 := fv3.ex e13
  replace fv4 := fv4.ex e13
  replace fv6 := fv6.ex e13
  replace fv7 := fv7.ex e13
  replace fv8 := fv8.ex e13
  replace fv9 := fv9.ex e13
  replace fv11 := fv11.ex e13
  replace fv12 := fv12.ex e13
  have bv13 := fv13.bd
  refine s_op rfl (o_pure loud_f rfl (eqSlab_t (hx := fv8.at_) (hy := fv13.at_) (hl := by omega) ..) ?_)
  refine sra rfl ?_
  refine c_if_f rfl ?_
  refine c_skip ?_
  refine c_seq ?_
  refine c_rs (by kernel_rfl) ?_
  refine sr 2 rfl ?_
  refine s_op rfl (o_ex loud_n rfl (toIntS_c (hx := hx3) (hl := by omega) ..) ?_)
  rintro v st14 ⟨rv14, rfl, fv14⟩ e14
  have n14 := e14.n
  replace hx0 := hx0.ex e14
  replace hx1 := hx1.ex e14
  replace hx2 := hx2.ex e14
  replace hx3 := hx3.ex e14
  replace ht := ht.ex e14
  replace fv1 := fv1.ex e14
  replace fv2 := fv2.ex e14
  replace fv3 := fv3.ex e14
  replace fv4 := fv4.ex e14
  replace fv6 := fv6.ex e14
  replace fv7 := fv7.ex e14
  replace fv8 := fv8.ex e14
  replace fv9 := fv9.ex e14
  replace fv11 := fv11.ex e14
  replace fv12 := fv12.ex e14
  replace fv13 := fv13.ex e14
  have bv14 := fv14.bd
  refine s_op rfl (o_pure loud_n rfl (eqIntS_t (hx := fv9.at_) (hy := fv14.at_) (hl := by omega) ..) ?_)
  refine sra rfl ?_
  refine c_if_f rfl ?_
  refine c_skip ?_
  refine crr (by kernel_rfl) rfl ?_
  exact c_ret (fr rfl rfl)
end Go.Proofs.YtmphklmhhcmbnaaDoorW.Ax
namespace Go.Proofs.YtmphklmhhcmbnaaDoor.fnExactSameSight
open Go Go.Proofs.YtmphklmhhcmbnaaDoorW.Ax
open Go.ChangeShapes Go.WideShapes Go.ChangeAt Go.RowKit Go.Joins
open Go.ChangeMaps (open_string shut_string)
set_option linter.unusedVariables false
theorem own : ownKnob Tryd.prog.godebug = none := by kernel_rfl
theorem laidOut : laidOutB Tryd.prog = true := by kernel_rfl
set_option maxRecDepth 100000 in
theorem lifted (os : Os) (started : os.Started) (H : Type) (enc : TypeId × Value → H) :
    ReturnsInHanded {} Tryd.checked os 4 .any (fun w args => (Rows.fnExactSameSightSpec.pre enc Tryd.prog Tryd.f4 [] false w args ∧ laidMetH Tryd.prog laid3 w) ∧ sizedMet enc Tryd.prog Tryd.f4 (OpenSpec.ofChange Rows.fnExactSameSightSpec) false w args) (Rows.fnExactSameSightSpec.post enc Tryd.prog Tryd.f4 false true false false) := by
  refine returnsInHanded_of_change_and (C := Tryd.checked) (X := fun w _ => laidMetH Tryd.prog laid3 w) (fun _ _ _ hh h => h.of_heap hh) own started (by kernel_rfl) Tryd.func4
    (ChangeSpec.witness_shaped (enc := enc) (C := Tryd.checked) (os := os) (X := fun w _ => laidMetH Tryd.prog laid3 w) false (World.doorLaid Tryd.prog 24 os) #[.agg #[.slice none 0 0], .slice none 0 0, .agg #[.slice none 0 0], .slice none 0 0] 8 rfl (World.shaped_of_RefB (by kernel_rfl) (by kernel_rfl)) (by kernel_rfl) (by kernel_rfl) (by kernel_rfl) (door_met os _)) ?_
  intro W base args ds gs before hval0 hW _ _ hL _
  have hval : ∀ (j : Nat) t v, Tryd.f4.params[j]? = some t → args[j]? = some v → Value.okWide Tryd.prog W .any base t v := hval0
  have hW' := hW
  obtain ⟨p, q, hA0, hV, rfl, hfz, hnd⟩ := hW
  have hA : DataW.TrodAll enc Tryd.prog W 0 (fun _ => true) true Tryd.f4.params.toList args.toList ds p := hA0
  rw [Tryd.params4] at hA hval
  obtain ⟨v0, vs0, d0, ds0, p0, q0, hargs, rfl, rfl, h0, r0⟩ := trodAll_cons hA
  obtain ⟨v1, vs1, d1, ds1, p1, q1, rfl, rfl, rfl, h1, r1⟩ := trodAll_cons r0
  obtain ⟨v2, vs2, d2, ds2, p2, q2, rfl, rfl, rfl, h2, r2⟩ := trodAll_cons r1
  obtain ⟨v3, vs3, d3, ds3, p3, q3, rfl, rfl, rfl, h3, r3⟩ := trodAll_cons r2
  obtain ⟨rfl, rfl, rfl⟩ := trodAll_nil r3
  obtain rfl : args = #[v0, v1, v2, v3] := by cases args; simp_all
  obtain ⟨rfl, rfl⟩ := trodVars_none hV
  obtain ⟨ET, fzT, hT⟩ := tab_met hL
  have k0 := h0
  have lt0 : ∀ x ∈ p0, x.block < W.heap.size := by obtain ⟨m, hm⟩ := k0; exact DataW.trod_lt m _ _ _ hm
  obtain ⟨w0_0, y0_0, n0, rfl, rfl, rfl, h0_0⟩ := open_agg1 Tryd.underlying24 (by kernel_rfl) (by kernel_rfl) (hval 0 24 v0 rfl rfl) h0
  obtain ⟨b0, L0, o0, l0, m0⟩ := came_of_trod Tryd.underlying22 Tryd.underlying3 (by kernel_rfl) h0_0
  have k1 := h1
  have lt1 : ∀ x ∈ p1, x.block < W.heap.size := by obtain ⟨m, hm⟩ := k1; exact DataW.trod_lt m _ _ _ hm
  obtain ⟨b1, L1, o1, l1, m1⟩ := came_of_arg Tryd.underlying22 Tryd.underlying3 (by kernel_rfl) (hval 1 22 v1 rfl rfl) h1
  have k2 := h2
  have lt2 : ∀ x ∈ p2, x.block < W.heap.size := by obtain ⟨m, hm⟩ := k2; exact DataW.trod_lt m _ _ _ hm
  obtain ⟨w2_0, y2_0, n2, rfl, rfl, rfl, h2_0⟩ := open_agg1 Tryd.underlying24 (by kernel_rfl) (by kernel_rfl) (hval 2 24 v2 rfl rfl) h2
  obtain ⟨b2, L2, o2, l2, m2⟩ := came_of_trod Tryd.underlying22 Tryd.underlying3 (by kernel_rfl) h2_0
  have k3 := h3
  have lt3 : ∀ x ∈ p3, x.block < W.heap.size := by obtain ⟨m, hm⟩ := k3; exact DataW.trod_lt m _ _ _ hm
  obtain ⟨b3, L3, o3, l3, m3⟩ := came_of_arg Tryd.underlying22 Tryd.underlying3 (by kernel_rfl) (hval 3 22 v3 rfl rfl) h3
  clear hA0 hval0
  refine (run_law (FnExactSameSight_c (cond b0 (some 0) none) l0 (cond b1 (some 1) none) l1 (cond b2 (some 2) none) l2 (cond b3 (some 3) none) l3 ⟨5, fun i => match i with | 0 => o0 | 1 => o1 | 2 => o2 | 3 => o3 | 4 => .fix 0 (Lib.pow10Tab.map fun z => Value.int .u64 z).toArray | _ => .dead⟩ (m0.at_ _ 0 (show (0 : Nat) < 5 by omega) rfl) (cond_lt (show (0 : Nat) < 5 by omega)) m0.w64 m0.len (m1.at_ _ 1 (show (1 : Nat) < 5 by omega) rfl) (cond_lt (show (1 : Nat) < 5 by omega)) m1.w64 m1.len (m2.at_ _ 2 (show (2 : Nat) < 5 by omega) rfl) (cond_lt (show (2 : Nat) < 5 by omega)) m2.w64 m2.len (m3.at_ _ 3 (show (3 : Nat) < 5 by omega) rfl) (cond_lt (show (3 : Nat) < 5 by omega)) m3.w64 m3.len ⟨4, 0, (show (4 : Nat) < 5 by omega), gPow, rfl⟩) (μ := fun i => match i with | 0 => L0 | 1 => L1 | 2 => L2 | 3 => L3 | 4 => ⟨0, 0, 0⟩ | _ => ⟨0, 0, 0⟩) (W := W) ?_ (vrl_cons (vr_agg (vrl_cons (m0.vr _ _ 0 (show (0 : Nat) < 5 by omega) rfl) (vrl_nil _ _))) (vrl_cons (m1.vr _ _ 1 (show (1 : Nat) < 5 by omega) rfl) (vrl_cons (vr_agg (vrl_cons (m2.vr _ _ 2 (show (2 : Nat) < 5 by omega) rfl) (vrl_nil _ _))) (vrl_cons (m3.vr _ _ 3 (show (3 : Nat) < 5 by omega) rfl) (vrl_nil _ _)))))).mono fun e W' ⟨he, bel⟩ => ?_
  · refine rel_rows fun i hi => ?_
    match i, hi with
    | 0, _ => exact ⟨m0.obr _ _, m0.own⟩
    | 1, _ => exact ⟨m1.obr _ _, m1.own⟩
    | 2, _ => exact ⟨m2.obr _ _, m2.own⟩
    | 3, _ => exact ⟨m3.obr _ _, m3.own⟩
    | 4, _ => exact ⟨⟨rfl, ET, fzT, hT⟩, rfl⟩
    | i + 5, hi => exact absurd hi (by show ¬ (i + 5 < 5); omega)
  subst he
  exact ⟨_, rfl, _, _, _, [], _, [], hW', trodAll_mk1 (shut_bool Tryd.underlying4 _), (trodAll_cons_mk (Below.trod laidOut (by kernel_rfl) (of_decide_eq_true (by kernel_rfl)) k0 bel lt0) (trodAll_cons_mk (Below.trod laidOut (by kernel_rfl) (of_decide_eq_true (by kernel_rfl)) k1 bel lt1) (trodAll_cons_mk (Below.trod laidOut (by kernel_rfl) (of_decide_eq_true (by kernel_rfl)) k2 bel lt2) (trodAll_cons_mk (Below.trod laidOut (by kernel_rfl) (of_decide_eq_true (by kernel_rfl)) k3 bel lt3) trodAll_mk0)))), rfl, bel.frame _, fun h => by cases h⟩
theorem over : Rows.fnExactSameSightRow.holds Tryd.pinned (OpenSpec.ofChange Rows.fnExactSameSightSpec) :=
  OpenClaim.holds_of_wide 4 Tryd.f4 rfl rfl rfl rfl rfl rfl rfl ⟨rfl, rfl, rfl, rfl, rfl⟩ rfl rfl rfl rfl rfl (by kernel_rfl) Tryd.func4 (by kernel_rfl)
    (of_decide_eq_true (by kernel_rfl)) (by unfold Func.isWrapper; first | (rw [if_pos (by decide +kernel)]; kernel_rfl) | (rw [if_neg (by decide +kernel)]; exact ⟨rfl, rfl⟩))
    (fun os started H enc _ => lifted os started H enc)
theorem proved : Rows.FnExactSameSightSaid := over
theorem card : Rows.FnExactSameSightCardSaid :=
  Claim7.holds_tied_plain_at .later [] [.data, .data, .data] true (true, "7cafd89ae47f1e081c13d91c8b64bef861dd64d5e3961e6395fa62d75a5ee9d2") false
    proved (fun _ h => by cases h) (by kernel_rfl) (fun _ h => by cases h) fnExactSameSight_row_tie rfl ⟨rfl, rfl⟩ (by kernel_rfl) rfl
    (fun f fn hf hfn => by
      obtain rfl : f = 4 := Option.some.inj ((show Tryd.prog.funcNamed Rows.fnExactSameSightRow.func = some 4 by kernel_rfl).symm.trans hf) |>.symm
      obtain rfl : fn = Tryd.f4 := (Option.some.inj (Tryd.func4.symm.trans hfn)).symm
      exact ⟨by kernel_rfl, fun j t ht => by
        rw [Tryd.params4] at ht
        have hm : t ∈ [24, 22, 24, 22] := by simpa using Array.mem_of_getElem? ht
        have hall : ([24, 22, 24, 22].all fun u => !Tryd.prog.wantsStandIn u) = true := by kernel_rfl
        exact (show Tryd.prog.wantsStandIn t = false by simpa using List.all_eq_true.1 hall t hm)⟩)
    (by kernel_rfl)
#print axioms proved
end Go.Proofs.YtmphklmhhcmbnaaDoor.fnExactSameSight
namespace Go.Proofs.YtmphklmhhcmbnaaDoor
/-- The row, under a short name, for the claim. -/
theorem fnExactSameSight_holds : Rows.FnExactSameSightCardSaid := fnExactSameSight.card
end Go.Proofs.YtmphklmhhcmbnaaDoor
