-- printed by pr.py out of the kit's print program: not written by hand
import Derived.Test.YtnjlodjehneonaaF0
import Derived.Test.YtnjlodjehneonaaF1
import Derived.Test.YtnjlodjehneonaaF2
import Derived.Test.YtnjlodjehneonaaF3
import Derived.Test.YtnjlodjehneonaaF4
namespace Go.Proofs.Ytnjlodjehneonaa.F
open Go.RowKit Go.Proofs.YtnjlodjehneonaaW.PrintWords Go.Proofs.YtnjlodjehneonaaW.PrintLast Go.Proofs.YtnjlodjehneonaaW.PrintMore Go.Proofs.YtnjlodjehneonaaW.Hand
attribute [local go_sem] max2_int min2_int max_two min_two max_three min_three max_four min_four   -- for this text's walks alone
set_option linter.unusedVariables false
set_option linter.unusedSimpArgs false

/-! ### laws_FnExactTake: function 5 -/
mutual
def laws_FnExactTake.j0 : Nat → Int → Int → Int → Bool → Int → Bool → Bool → List Int → List Int → List Int → List Int → Option (Bool)
  | 0, _, _, _, _, _, _, _, _, _, _, _ => none
  | k + 1, x1, x2, x9, x10, x13, x14, x58, x280000, x290000, x294000, x300000 => if x58 = true then (some false) else ((laws_toSlab.f k x280000).bind fun t301 => ((laws_eqSlab.f k x294000 t301).bind fun t304 => (if t304 = true then ((laws_markSlab.f k x294000 1).bind fun bt305 => (if bt305.1 < 0 then (laws_FnExactTake.j1 k x1 x2 x9 x10 true x280000 x290000 x300000) else ((laws_eqSlab.f k x300000 x290000).bind fun t307 => (if t307 = true then (if x13 = x9 then (laws_FnExactTake.j1 k x1 x2 x9 x10 (x14 != x10) x280000 x290000 x300000) else (laws_FnExactTake.j1 k x1 x2 x9 x10 true x280000 x290000 x300000)) else (laws_FnExactTake.j1 k x1 x2 x9 x10 true x280000 x290000 x300000))))) else (some false))))
def laws_FnExactTake.j1 : Nat → Int → Int → Int → Bool → Bool → List Int → List Int → List Int → Option (Bool)
  | 0, _, _, _, _, _, _, _, _ => none
  | k + 1, x1, x2, x9, x10, x84, x280000, x290000, x300000 => if x84 = true then (some false) else ((laws_markSlab.f k x300000 1).bind fun bt308 => ((laws_heldSlab.f k bt308.2 1).bind fun t310 => (if t310 < 0 then (some false) else (if t310 = bt308.1 then ((laws_toSlab.f k x280000).bind fun t311 => ((impl_Take.f k t311 x1 x2).bind fun bt314 => ((laws_eqSlab.f k bt314.1 x290000).bind fun t320 => (if t320 = true then (if bt314.2.1 = x9 then (laws_FnExactTake.j2 k bt308.1 (bt314.2.2 != x10) bt308.2) else (laws_FnExactTake.j2 k bt308.1 true bt308.2)) else (laws_FnExactTake.j2 k bt308.1 true bt308.2))))) else (some false)))))
def laws_FnExactTake.j2 : Nat → Int → Bool → List Int → Option (Bool)
  | 0, _, _, _ => none
  | k + 1, x16, x118, x300000 => if x118 = true then (some false) else ((laws_heldSlab.f k x300000 1).bind fun t321 => (if t321 < 0 then (some false) else (if t321 = x16 then (some true) else (some false))))
end
def laws_FnExactTake.f (k : Nat) (l0_0 : List Int) (a1 : Int) (a2 : Int) : Option (Bool) := (laws_szSlab.f l0_0 1048576).bind fun t280 => (if t280 < 0 then (some true) else ((laws_toSlab.f k l0_0).bind fun t281 => ((spec_Take.f k t281 a1 a2).bind fun bt284 => ((laws_toSlab.f k l0_0).bind fun t290 => ((impl_Take.f k t290 a1 a2).bind fun bt294 => ((laws_eqSlab.f k bt294.1 bt284.1).bind fun t300 => (if t300 = true then (if bt294.2.1 = bt284.2.1 then (laws_FnExactTake.j0 k a1 a2 bt284.2.1 bt284.2.2 bt294.2.1 bt294.2.2 (bt294.2.2 != bt284.2.2) l0_0 bt284.1 t290 bt294.1) else (laws_FnExactTake.j0 k a1 a2 bt284.2.1 bt284.2.2 bt294.2.1 bt294.2.2 true l0_0 bt284.1 t290 bt294.1)) else (laws_FnExactTake.j0 k a1 a2 bt284.2.1 bt284.2.2 bt294.2.1 bt294.2.2 true l0_0 bt284.1 t290 bt294.1))))))))
theorem laws_FnExactTake.mono_l : ∀ k, (∀ y0 y1 y2 y3 y4 y5 y6 y7 y8 y9 y10, LeO (laws_FnExactTake.j0 k y0 y1 y2 y3 y4 y5 y6 y7 y8 y9 y10) (laws_FnExactTake.j0 (k + 1) y0 y1 y2 y3 y4 y5 y6 y7 y8 y9 y10)) ∧ (∀ y0 y1 y2 y3 y4 y5 y6 y7, LeO (laws_FnExactTake.j1 k y0 y1 y2 y3 y4 y5 y6 y7) (laws_FnExactTake.j1 (k + 1) y0 y1 y2 y3 y4 y5 y6 y7)) ∧ (∀ y0 y1 y2, LeO (laws_FnExactTake.j2 k y0 y1 y2) (laws_FnExactTake.j2 (k + 1) y0 y1 y2))
  | 0 => ⟨fun _ _ _ _ _ _ _ _ _ _ _ r h => by simp [laws_FnExactTake.j0] at h, fun _ _ _ _ _ _ _ _ r h => by simp [laws_FnExactTake.j1] at h, fun _ _ _ r h => by simp [laws_FnExactTake.j2] at h⟩
  | k + 1 => by
    obtain ⟨ih0, ih1, ih2⟩ := laws_FnExactTake.mono_l k
    refine ⟨?_, ?_, ?_⟩
    · intro y0 y1 y2 y3 y4 y5 y6 y7 y8 y9 y10
      unfold laws_FnExactTake.j0
      repeat' first
      | (with_reducible exact ih0 _ _ _ _ _ _ _ _ _ _ _)
      | (with_reducible exact ih1 _ _ _ _ _ _ _ _)
      | (with_reducible exact ih2 _ _ _)
      | (with_reducible exact impl_Take.mono _ _ _ _)
      | (with_reducible exact laws_eqSlab.mono _ _ _)
      | (with_reducible exact laws_heldSlab.mono _ _ _)
      | (with_reducible exact laws_markSlab.mono _ _ _)
      | (with_reducible exact laws_toSlab.mono _ _)
      | (with_reducible exact spec_Take.mono _ _ _ _)
      | (with_reducible exact LeO.refl _)
      | (with_reducible exact LeO.none _)
      | (with_reducible refine LeO.ite ?_ ?_)
      | (with_reducible refine LeO.bind ?_ (fun _ => ?_))
      | exact ih0 _ _ _ _ _ _ _ _ _ _ _
      | exact ih1 _ _ _ _ _ _ _ _
      | exact ih2 _ _ _
      | exact impl_Take.mono _ _ _ _
      | exact laws_eqSlab.mono _ _ _
      | exact laws_heldSlab.mono _ _ _
      | exact laws_markSlab.mono _ _ _
      | exact laws_toSlab.mono _ _
      | exact spec_Take.mono _ _ _ _
      | exact LeO.none _
      | refine LeO.ite ?_ ?_
      | refine LeO.bind ?_ (fun _ => ?_)
    · intro y0 y1 y2 y3 y4 y5 y6 y7
      unfold laws_FnExactTake.j1
      repeat' first
      | (with_reducible exact ih0 _ _ _ _ _ _ _ _ _ _ _)
      | (with_reducible exact ih1 _ _ _ _ _ _ _ _)
      | (with_reducible exact ih2 _ _ _)
      | (with_reducible exact impl_Take.mono _ _ _ _)
      | (with_reducible exact laws_eqSlab.mono _ _ _)
      | (with_reducible exact laws_heldSlab.mono _ _ _)
      | (with_reducible exact laws_markSlab.mono _ _ _)
      | (with_reducible exact laws_toSlab.mono _ _)
      | (with_reducible exact spec_Take.mono _ _ _ _)
      | (with_reducible exact LeO.refl _)
      | (with_reducible exact LeO.none _)
      | (with_reducible refine LeO.ite ?_ ?_)
      | (with_reducible refine LeO.bind ?_ (fun _ => ?_))
      | exact ih0 _ _ _ _ _ _ _ _ _ _ _
      | exact ih1 _ _ _ _ _ _ _ _
      | exact ih2 _ _ _
      | exact impl_Take.mono _ _ _ _
      | exact laws_eqSlab.mono _ _ _
      | exact laws_heldSlab.mono _ _ _
      | exact laws_markSlab.mono _ _ _
      | exact laws_toSlab.mono _ _
      | exact spec_Take.mono _ _ _ _
      | exact LeO.none _
      | refine LeO.ite ?_ ?_
      | refine LeO.bind ?_ (fun _ => ?_)
    · intro y0 y1 y2
      unfold laws_FnExactTake.j2
      repeat' first
      | (with_reducible exact ih0 _ _ _ _ _ _ _ _ _ _ _)
      | (with_reducible exact ih1 _ _ _ _ _ _ _ _)
      | (with_reducible exact ih2 _ _ _)
      | (with_reducible exact impl_Take.mono _ _ _ _)
      | (with_reducible exact laws_eqSlab.mono _ _ _)
      | (with_reducible exact laws_heldSlab.mono _ _ _)
      | (with_reducible exact laws_markSlab.mono _ _ _)
      | (with_reducible exact laws_toSlab.mono _ _)
      | (with_reducible exact spec_Take.mono _ _ _ _)
      | (with_reducible exact LeO.refl _)
      | (with_reducible exact LeO.none _)
      | (with_reducible refine LeO.ite ?_ ?_)
      | (with_reducible refine LeO.bind ?_ (fun _ => ?_))
      | exact ih0 _ _ _ _ _ _ _ _ _ _ _
      | exact ih1 _ _ _ _ _ _ _ _
      | exact ih2 _ _ _
      | exact impl_Take.mono _ _ _ _
      | exact laws_eqSlab.mono _ _ _
      | exact laws_heldSlab.mono _ _ _
      | exact laws_markSlab.mono _ _ _
      | exact laws_toSlab.mono _ _
      | exact spec_Take.mono _ _ _ _
      | exact LeO.none _
      | refine LeO.ite ?_ ?_
      | refine LeO.bind ?_ (fun _ => ?_)
theorem laws_FnExactTake.mono : ∀ a0 a1 a2 k, LeO (laws_FnExactTake.f k a0 a1 a2) (laws_FnExactTake.f (k + 1) a0 a1 a2) := by
  intro a0 a1 a2 k
  obtain ⟨ih0, ih1, ih2⟩ := laws_FnExactTake.mono_l k
  unfold laws_FnExactTake.f
  repeat' first
      | (with_reducible exact ih0 _ _ _ _ _ _ _ _ _ _ _)
      | (with_reducible exact ih1 _ _ _ _ _ _ _ _)
      | (with_reducible exact ih2 _ _ _)
      | (with_reducible exact impl_Take.mono _ _ _ _)
      | (with_reducible exact laws_eqSlab.mono _ _ _)
      | (with_reducible exact laws_heldSlab.mono _ _ _)
      | (with_reducible exact laws_markSlab.mono _ _ _)
      | (with_reducible exact laws_toSlab.mono _ _)
      | (with_reducible exact spec_Take.mono _ _ _ _)
      | (with_reducible exact LeO.refl _)
      | (with_reducible exact LeO.none _)
      | (with_reducible refine LeO.ite ?_ ?_)
      | (with_reducible refine LeO.bind ?_ (fun _ => ?_))
      | exact ih0 _ _ _ _ _ _ _ _ _ _ _
      | exact ih1 _ _ _ _ _ _ _ _
      | exact ih2 _ _ _
      | exact impl_Take.mono _ _ _ _
      | exact laws_eqSlab.mono _ _ _
      | exact laws_heldSlab.mono _ _ _
      | exact laws_markSlab.mono _ _ _
      | exact laws_toSlab.mono _ _
      | exact spec_Take.mono _ _ _ _
      | exact LeO.none _
      | refine LeO.ite ?_ ?_
      | refine LeO.bind ?_ (fun _ => ?_)
set_option maxHeartbeats 8000000 in
set_option maxRecDepth 100000 in
theorem laws_FnExactTake.calls (k : Nat) (A0_0 : Option Addr) (c0_0 : Nat) (l0_0 : List Int) (a1 : Int) (a2 : Int) (r : Bool) (w : World) (hr0_0 : Kd.C (Kd.int .i64) w A0_0 l0_0.length l0_0) (hc0_0 : l0_0.length ≤ c0_0) (hrt : Aside0 (r = true)) (h : laws_FnExactTake.f k l0_0 a1 a2 = some r) :
    Calls Try.prog 5 #[.agg #[.slice A0_0 l0_0.length c0_0], .int .i64 a1, .int .i64 a2] w fun e w' => e = .returned (.bool r) ∧ Below w.heap.size w w' := by
  have hu24 := Try.underlying24
  have hu27 := Try.underlying27
  have HR0_0 := Aside0.mk hr0_0
  have HC0_0 := Aside0.mk hc0_0
  clear hr0_0 hc0_0
  have HB := Aside0.mk (Below.refl w.heap.size w)
  have H : ((laws_szSlab.f l0_0 1048576).bind fun t280 => (if t280 < 0 then (some true) else ((laws_toSlab.f k l0_0).bind fun t281 => ((spec_Take.f k t281 a1 a2).bind fun bt284 => ((laws_toSlab.f k l0_0).bind fun t290 => ((impl_Take.f k t290 a1 a2).bind fun bt294 => ((laws_eqSlab.f k bt294.1 bt284.1).bind fun t300 => (if t300 = true then (if bt294.2.1 = bt284.2.1 then (laws_FnExactTake.j0 k a1 a2 bt284.2.1 bt284.2.2 bt294.2.1 bt294.2.2 (bt294.2.2 != bt284.2.2) l0_0 bt284.1 t290 bt294.1) else (laws_FnExactTake.j0 k a1 a2 bt284.2.1 bt284.2.2 bt294.2.1 bt294.2.2 true l0_0 bt284.1 t290 bt294.1)) else (laws_FnExactTake.j0 k a1 a2 bt284.2.1 bt284.2.2 bt294.2.1 bt294.2.2 true l0_0 bt284.1 t290 bt294.1))))))))) = some r := h
  clear h
  replace H := Option.bind_eq_some_iff.mp H
  obtain ⟨t280, A40, H⟩ := H
  replace H : (if t280 < 0 then (some true) else ((laws_toSlab.f k l0_0).bind fun t281 => ((spec_Take.f k t281 a1 a2).bind fun bt284 => ((laws_toSlab.f k l0_0).bind fun t290 => ((impl_Take.f k t290 a1 a2).bind fun bt294 => ((laws_eqSlab.f k bt294.1 bt284.1).bind fun t300 => (if t300 = true then (if bt294.2.1 = bt284.2.1 then (laws_FnExactTake.j0 k a1 a2 bt284.2.1 bt284.2.2 bt294.2.1 bt294.2.2 (bt294.2.2 != bt284.2.2) l0_0 bt284.1 t290 bt294.1) else (laws_FnExactTake.j0 k a1 a2 bt284.2.1 bt284.2.2 bt294.2.1 bt294.2.2 true l0_0 bt284.1 t290 bt294.1)) else (laws_FnExactTake.j0 k a1 a2 bt284.2.1 bt284.2.2 bt294.2.1 bt294.2.2 true l0_0 bt284.1 t290 bt294.1)))))))) = some r := H
  have A4 := Aside0.mk A40
  clear A40
  by_cases c5 : t280 < 0
  · rw [if_pos c5] at H
    have c5b0 : decide (t280 < 0) = true := decide_eq_true c5
    clear c5
    obtain rfl := Option.some.inj H
    go_enter Try.func5, Try.ntmps5
    go_wp2_with (first | ((with_reducible refine gate_dst (N := 3) rfl ?_); refine box_event ?hg (N := 3) ?hd (cs := #[.slice A0_0 l0_0.length c0_0]) (t := 24) ?hr ?_; (case hd => rfl); (case hg => rfl); (case hr => first | (go_simp; done) | (go_simp; rfl)); intro gb279 hg w6 hbox hb; have n0_ := Aside0.mk (below_step (by repeat (first | (with_reducible first | exact HB.out | apply below_alloc | apply pw_below_drewN | apply below_drew1) | exact HB.out)) hb); have n1_ := Aside0.mk (hbox); have n2_ := Aside0.mk ((by rw [hg]; exact (below_size (by repeat (first | (with_reducible first | exact HB.out | apply below_alloc | apply pw_below_drewN | apply below_drew1) | exact HB.out))) : w.heap.size ≤ gb279)); have n3_ := Aside0.mk ((by rw [hg]; exact (below_size (by repeat (first | (with_reducible first | exact HB.out | apply below_alloc | apply pw_below_drewN | apply below_drew1) | exact HB.out))) : w.heap.size ≤ gb279)); clear HB; have HB := n0_; have BK279 := n1_; have GW279 := n2_; have GE279 := n3_; clear n0_ n1_ n2_ n3_; clear hb hbox hg; have hcz7_0 : w6.cell? ⟨gb279, 0, none⟩ = some (.slice A0_0 l0_0.length c0_0) := (blk_cell BK279.out 0).trans rfl; have hfz7_0 := blk_frozen BK279.out 0) | ((with_reducible refine gate_callee (f := 15) rfl ?_); refine goesL_ (some 23) rfl rfl Try.func15 (by kernel_rfl) rfl #[.agg #[.slice A0_0 l0_0.length c0_0], .int .i64 1048576] rfl (by (try simp only [List.map_toArray, List.map_cons, List.map_nil]); first | done | rfl | (simp only [List.length_drop, List.length_take]; rfl)) ?_; (with_reducible refine (laws_szSlab.calls _ _ l0_0 1048576 t280 _ ?side1 ?side2 A4.out).mono ?_); (case side1 => repeat (first | exact (Kd.C_below HR0_0.out HB.out) | (with_reducible refine Kd.C_alloc ?_ _) | (with_reducible refine Kd.C_drewN ?_ _) | (with_reducible refine Kd.C_drew ?_))); (case side2 => exact HC0_0.out); rintro e w8 ⟨rfl, hb⟩; refine ⟨_, rfl, ?_⟩; have n0_ := Aside0.mk (blk_below (g := gb279) (o := .cells #[.slice A0_0 l0_0.length c0_0] 24 (0, 0)) (by (with_reducible repeat (first | refine blk_drewN ?_ _ | refine blk_drew ?_ | refine blk_alloc ?_ _)); exact BK279.out) hb); have n1_ := Aside0.mk (below_step (by repeat (first | (with_reducible first | exact HB.out | apply below_alloc | apply pw_below_drewN | apply below_drew1 | refine below_set ?_ GE279.out) | exact HB.out)) hb); clear BK279; clear HB; have BK279 := n0_; have HB := n1_; clear n0_ n1_; (try clear hb); (try clear hb2); (try clear hk); (try clear hi)))
    go_ret
    exact ⟨by first | rfl | (simp [errW_none, errW_some] <;> rfl) | (simp [*, errW_none, errW_some] <;> rfl), by repeat (first | (with_reducible first | exact HB.out | apply below_alloc | apply pw_below_drewN | apply below_drew1 | refine below_set ?_ GE279.out) | exact HB.out)⟩
  · rw [if_neg c5] at H
    have c5b0 : decide (t280 < 0) = false := decide_eq_false c5
    clear c5
    replace H := Option.bind_eq_some_iff.mp H
    obtain ⟨t281, A90, H⟩ := H
    replace H : ((spec_Take.f k t281 a1 a2).bind fun bt284 => ((laws_toSlab.f k l0_0).bind fun t290 => ((impl_Take.f k t290 a1 a2).bind fun bt294 => ((laws_eqSlab.f k bt294.1 bt284.1).bind fun t300 => (if t300 = true then (if bt294.2.1 = bt284.2.1 then (laws_FnExactTake.j0 k a1 a2 bt284.2.1 bt284.2.2 bt294.2.1 bt294.2.2 (bt294.2.2 != bt284.2.2) l0_0 bt284.1 t290 bt294.1) else (laws_FnExactTake.j0 k a1 a2 bt284.2.1 bt284.2.2 bt294.2.1 bt294.2.2 true l0_0 bt284.1 t290 bt294.1)) else (laws_FnExactTake.j0 k a1 a2 bt284.2.1 bt284.2.2 bt294.2.1 bt294.2.2 true l0_0 bt284.1 t290 bt294.1)))))) = some r := H
    have A9 := Aside0.mk A90
    clear A90
    replace H := Option.bind_eq_some_iff.mp H
    obtain ⟨⟨t284, t287, t288⟩, A100, H⟩ := H
    replace H : ((laws_toSlab.f k l0_0).bind fun t290 => ((impl_Take.f k t290 a1 a2).bind fun bt294 => ((laws_eqSlab.f k bt294.1 t284).bind fun t300 => (if t300 = true then (if bt294.2.1 = t287 then (laws_FnExactTake.j0 k a1 a2 t287 t288 bt294.2.1 bt294.2.2 (bt294.2.2 != t288) l0_0 t284 t290 bt294.1) else (laws_FnExactTake.j0 k a1 a2 t287 t288 bt294.2.1 bt294.2.2 true l0_0 t284 t290 bt294.1)) else (laws_FnExactTake.j0 k a1 a2 t287 t288 bt294.2.1 bt294.2.2 true l0_0 t284 t290 bt294.1))))) = some r := H
    have A10 := Aside0.mk A100
    clear A100
    replace H := Option.bind_eq_some_iff.mp H
    obtain ⟨t290, A110, H⟩ := H
    replace H : ((impl_Take.f k t290 a1 a2).bind fun bt294 => ((laws_eqSlab.f k bt294.1 t284).bind fun t300 => (if t300 = true then (if bt294.2.1 = t287 then (laws_FnExactTake.j0 k a1 a2 t287 t288 bt294.2.1 bt294.2.2 (bt294.2.2 != t288) l0_0 t284 t290 bt294.1) else (laws_FnExactTake.j0 k a1 a2 t287 t288 bt294.2.1 bt294.2.2 true l0_0 t284 t290 bt294.1)) else (laws_FnExactTake.j0 k a1 a2 t287 t288 bt294.2.1 bt294.2.2 true l0_0 t284 t290 bt294.1)))) = some r := H
    have A11 := Aside0.mk A110
    clear A110
    replace H := Option.bind_eq_some_iff.mp H
    obtain ⟨⟨t294, t297, t298⟩, A120, H⟩ := H
    replace H : ((laws_eqSlab.f k t294 t284).bind fun t300 => (if t300 = true then (if t297 = t287 then (laws_FnExactTake.j0 k a1 a2 t287 t288 t297 t298 (t298 != t288) l0_0 t284 t290 t294) else (laws_FnExactTake.j0 k a1 a2 t287 t288 t297 t298 true l0_0 t284 t290 t294)) else (laws_FnExactTake.j0 k a1 a2 t287 t288 t297 t298 true l0_0 t284 t290 t294))) = some r := H
    have A12 := Aside0.mk A120
    clear A120
    have HC13 := Aside0.mk H
    clear H
    go_enter Try.func5, Try.ntmps5
    go_upto_region 8 with (first | ((with_reducible refine gate_dst (N := 3) rfl ?_); refine box_event ?hg (N := 3) ?hd (cs := #[.slice A0_0 l0_0.length c0_0]) (t := 24) ?hr ?_; (case hd => rfl); (case hg => rfl); (case hr => first | (go_simp; done) | (go_simp; rfl)); intro gb279 hg w14 hbox hb; have n0_ := Aside0.mk (below_step (by repeat (first | (with_reducible first | exact HB.out | apply below_alloc | apply pw_below_drewN | apply below_drew1) | exact HB.out)) hb); have n1_ := Aside0.mk (hbox); have n2_ := Aside0.mk ((by rw [hg]; exact (below_size (by repeat (first | (with_reducible first | exact HB.out | apply below_alloc | apply pw_below_drewN | apply below_drew1) | exact HB.out))) : w.heap.size ≤ gb279)); have n3_ := Aside0.mk ((by rw [hg]; exact (below_size (by repeat (first | (with_reducible first | exact HB.out | apply below_alloc | apply pw_below_drewN | apply below_drew1) | exact HB.out))) : w.heap.size ≤ gb279)); clear HB; have HB := n0_; have BK279 := n1_; have GW279 := n2_; have GE279 := n3_; clear n0_ n1_ n2_ n3_; clear hb hbox hg; have hcz15_0 : w14.cell? ⟨gb279, 0, none⟩ = some (.slice A0_0 l0_0.length c0_0) := (blk_cell BK279.out 0).trans rfl; have hfz15_0 := blk_frozen BK279.out 0) | ((with_reducible refine gate_callee (f := 15) rfl ?_); refine goesL_ (some 23) rfl rfl Try.func15 (by kernel_rfl) rfl #[.agg #[.slice A0_0 l0_0.length c0_0], .int .i64 1048576] rfl (by (try simp only [List.map_toArray, List.map_cons, List.map_nil]); first | done | rfl | (simp only [List.length_drop, List.length_take]; rfl)) ?_; (with_reducible refine (laws_szSlab.calls _ _ l0_0 1048576 t280 _ ?side1 ?side2 A4.out).mono ?_); (case side1 => repeat (first | exact (Kd.C_below HR0_0.out HB.out) | (with_reducible refine Kd.C_alloc ?_ _) | (with_reducible refine Kd.C_drewN ?_ _) | (with_reducible refine Kd.C_drew ?_))); (case side2 => exact HC0_0.out); rintro e w16 ⟨rfl, hb⟩; refine ⟨_, rfl, ?_⟩; have n0_ := Aside0.mk (blk_below (g := gb279) (o := .cells #[.slice A0_0 l0_0.length c0_0] 24 (0, 0)) (by (with_reducible repeat (first | refine blk_drewN ?_ _ | refine blk_drew ?_ | refine blk_alloc ?_ _)); exact BK279.out) hb); have n1_ := Aside0.mk (below_step (by repeat (first | (with_reducible first | exact HB.out | apply below_alloc | apply pw_below_drewN | apply below_drew1 | refine below_set ?_ GE279.out) | exact HB.out)) hb); clear BK279; clear HB; have BK279 := n0_; have HB := n1_; clear n0_ n1_; (try clear hb); (try clear hb2); (try clear hk); (try clear hi); have hcz17_0 : w16.cell? ⟨gb279, 0, none⟩ = some (.slice A0_0 l0_0.length c0_0) := (blk_cell BK279.out 0).trans rfl; have hfz17_0 := blk_frozen BK279.out 0) | ((with_reducible refine gate_callee (f := 17) rfl ?_); refine goesL_ (some 28) rfl rfl Try.func17 (by kernel_rfl) rfl #[.agg #[.slice A0_0 l0_0.length c0_0]] rfl (by (try simp only [List.map_toArray, List.map_cons, List.map_nil]); first | done | rfl | (simp only [List.length_drop, List.length_take]; rfl)) ?_; (with_reducible refine (laws_toSlab.calls k _ _ l0_0 t281 _ ?side1 ?side2 A9.out).mono ?_); (case side1 => repeat (first | exact (Kd.C_below HR0_0.out HB.out) | (with_reducible refine Kd.C_alloc ?_ _) | (with_reducible refine Kd.C_drewN ?_ _) | (with_reducible refine Kd.C_drew ?_))); (case side2 => exact HC0_0.out); rintro e w18 ⟨v282, rfl, ho0, hb⟩; refine ⟨_, rfl, ?_⟩; have n0_ := Aside0.mk (Kd.R_lower ho0 (below_size (by repeat (first | (with_reducible first | exact HB.out | apply below_alloc | apply pw_below_drewN | apply below_drew1 | refine below_set ?_ GE279.out) | exact HB.out)))); have n1_ := Aside0.mk (blk_below (g := gb279) (o := .cells #[.slice A0_0 l0_0.length c0_0] 24 (0, 0)) (by (with_reducible repeat (first | refine blk_drewN ?_ _ | refine blk_drew ?_ | refine blk_alloc ?_ _)); exact BK279.out) hb); have n2_ := Aside0.mk (below_step (by repeat (first | (with_reducible first | exact HB.out | apply below_alloc | apply pw_below_drewN | apply below_drew1 | refine below_set ?_ GE279.out) | exact HB.out)) hb); clear BK279; clear HB; have HO283 := n0_; have BK279 := n1_; have HB := n2_; clear n0_ n1_ n2_; (try clear hb); (try clear hb2); (try clear hk); (try clear hi); (try clear ho0); obtain ⟨Ao19, co19, eo19⟩ := Kd.R_slice HO283.out; subst eo19) | ((with_reducible refine gate_callee (f := 22) rfl ?_); refine goesL_ (some 31) rfl rfl Try.func22 (by kernel_rfl) rfl #[.agg #[.slice Ao19 t281.length co19], .int .i64 a1, .int .i64 a2] rfl (by (try simp only [List.map_toArray, List.map_cons, List.map_nil]); first | done | rfl | (simp only [List.length_drop, List.length_take]; rfl)) ?_; (with_reducible refine (spec_Take.calls k _ _ t281 a1 a2 t284 t287 t288 _ ?side1 ?side2 A10.out).mono ?_); (case side1 => repeat (first | exact (Kd.R_reads' HO283.out).2.2 | (with_reducible refine Kd.C_alloc ?_ _) | (with_reducible refine Kd.C_drewN ?_ _) | (with_reducible refine Kd.C_drew ?_))); (case side2 => exact (Kd.R_reads' HO283.out).2.1); rintro e w20 ⟨v285, rfl, ho0, hb⟩; refine ⟨_, rfl, ?_⟩; have n0_ := Aside0.mk (Kd.R_elder' (by (with_reducible repeat (first | apply Kd.R_alloc | apply Kd.R_drewN | apply Kd.R_drew)); exact HO283.out) (Kd.R_base ho0) hb); have n1_ := Aside0.mk (Kd.R_lower (Kd.R_new' ho0 (Kd.R_lt (by (with_reducible repeat (first | apply Kd.R_alloc | apply Kd.R_drewN | apply Kd.R_drew)); exact HO283.out))) (below_size (by repeat (first | (with_reducible first | exact HB.out | apply below_alloc | apply pw_below_drewN | apply below_drew1 | refine below_set ?_ GE279.out) | exact HB.out)))); have n2_ := Aside0.mk (blk_below (g := gb279) (o := .cells #[.slice A0_0 l0_0.length c0_0] 24 (0, 0)) (by (with_reducible repeat (first | refine blk_drewN ?_ _ | refine blk_drew ?_ | refine blk_alloc ?_ _)); exact BK279.out) hb); have n3_ := Aside0.mk (below_step (by repeat (first | (with_reducible first | exact HB.out | apply below_alloc | apply pw_below_drewN | apply below_drew1 | refine below_set ?_ GE279.out) | exact HB.out)) hb); clear HO283; clear BK279; clear HB; have HO283 := n0_; have HO286 := n1_; have BK279 := n2_; have HB := n3_; clear n0_ n1_ n2_ n3_; (try clear hb); (try clear hb2); (try clear hk); (try clear hi); (try clear ho0)) | ((with_reducible refine gate_dst (N := 8) rfl ?_); refine box_event ?hg (N := 8) ?hd (cs := #[.slice none 0 0]) (t := 27) ?hr ?_; (case hd => rfl); (case hg => rfl); (case hr => first | (go_simp; done) | (go_simp; rfl)); intro gb289 hg w21 hbox hb; have n0_ := Aside0.mk (Kd.R_below (by (with_reducible repeat (first | apply Kd.R_alloc | apply Kd.R_drewN | apply Kd.R_drew)); exact HO283.out) hb); have n1_ := Aside0.mk (Kd.R_below (by (with_reducible repeat (first | apply Kd.R_alloc | apply Kd.R_drewN | apply Kd.R_drew)); exact HO286.out) hb); have n2_ := Aside0.mk (blk_below (g := gb279) (o := .cells #[.slice A0_0 l0_0.length c0_0] 24 (0, 0)) (by (with_reducible repeat (first | refine blk_drewN ?_ _ | refine blk_drew ?_ | refine blk_alloc ?_ _)); exact BK279.out) hb); have n3_ := Aside0.mk (below_step (by repeat (first | (with_reducible first | exact HB.out | apply below_alloc | apply pw_below_drewN | apply below_drew1 | refine below_set ?_ GE279.out) | exact HB.out)) hb); have n4_ := Aside0.mk (hbox); have n5_ := Aside0.mk ((by rw [hg]; exact (below_size (by repeat (first | (with_reducible first | exact HB.out | apply below_alloc | apply pw_below_drewN | apply below_drew1 | refine below_set ?_ GE279.out) | exact HB.out))) : w.heap.size ≤ gb289)); have n6_ := Aside0.mk ((by rw [hg]; exact (below_size (by repeat (first | (with_reducible first | exact HB.out | apply below_alloc | apply pw_below_drewN | apply below_drew1 | refine below_set ?_ GE279.out) | exact HB.out))) : w.heap.size ≤ gb289)); have n7_ := Aside0.mk ((by rw [hg]; exact Nat.ne_of_lt (blk_lt (g := gb279) (o := .cells #[.slice A0_0 l0_0.length c0_0] 24 (0, 0)) (by (with_reducible repeat (first | refine blk_drewN ?_ _ | refine blk_drew ?_ | refine blk_alloc ?_ _)); exact BK279.out)) : gb279 ≠ gb289)); have n8_ := Aside0.mk ((by rw [hg]; exact Nat.ne_of_gt (blk_lt (g := gb279) (o := .cells #[.slice A0_0 l0_0.length c0_0] 24 (0, 0)) (by (with_reducible repeat (first | refine blk_drewN ?_ _ | refine blk_drew ?_ | refine blk_alloc ?_ _)); exact BK279.out)) : gb289 ≠ gb279)); clear HO283; clear HO286; clear BK279; clear HB; have HO283 := n0_; have HO286 := n1_; have BK279 := n2_; have HB := n3_; have BK289 := n4_; have GW289 := n5_; have GE289 := n6_; have NB279_289 := n7_; have NB289_279 := n8_; clear n0_ n1_ n2_ n3_ n4_ n5_ n6_ n7_ n8_; clear hb hbox hg; obtain ⟨Ao22, co22, eo22⟩ := Kd.R_slice HO286.out; subst eo22; have hnb23 := NB289_279.out; have hnc23 := NB279_289.out; have hcz24_0 : w21.cell? ⟨gb289, 0, none⟩ = some (.slice none 0 0) := (blk_cell BK289.out 0).trans rfl; have hfz24_0 := blk_frozen BK289.out 0; have hcz25_0 : w21.cell? ⟨gb279, 0, none⟩ = some (.slice A0_0 l0_0.length c0_0) := (blk_cell BK279.out 0).trans rfl; have hfz25_0 := blk_frozen BK279.out 0) | ((with_reducible refine gate_callee (f := 17) rfl ?_); refine goesL_ (some 36) rfl rfl Try.func17 (by kernel_rfl) rfl #[.agg #[.slice A0_0 l0_0.length c0_0]] rfl (by (try simp only [List.map_toArray, List.map_cons, List.map_nil]); first | done | rfl | (simp only [List.length_drop, List.length_take]; rfl)) ?_; (with_reducible refine (laws_toSlab.calls k _ _ l0_0 t290 _ ?side1 ?side2 A11.out).mono ?_); (case side1 => exact Kd.C_below HR0_0.out (by repeat (first | (with_reducible first | exact HB.out | apply below_alloc | apply pw_below_drewN | apply below_drew1 | refine below_set ?_ GE279.out | refine below_set ?_ GE289.out) | exact HB.out))); (case side2 => exact HC0_0.out); rintro e w26 ⟨v291, rfl, ho0, hb⟩; refine ⟨_, rfl, ?_⟩; have n0_ := Aside0.mk (Kd.R_elder' (by (with_reducible repeat (first | apply Kd.R_alloc | apply Kd.R_drewN | apply Kd.R_drew)); exact (Kd.R_mono (Kd.R_far (p := ⟨gb289, 0, none⟩) (Kd.R_types HO283.out BK289.out (by decide)) (fun _ hk => hk.2) (.slice Ao22 t284.length co22)) (fun _ h_ => h_.1))) (Kd.R_base ho0) hb); have n1_ := Aside0.mk (Kd.R_elder' (by (with_reducible repeat (first | apply Kd.R_alloc | apply Kd.R_drewN | apply Kd.R_drew)); exact (Kd.R_mono (Kd.R_far (p := ⟨gb289, 0, none⟩) (Kd.R_types HO286.out BK289.out (by decide)) (fun _ hk => hk.2) (.slice Ao22 t284.length co22)) (fun _ h_ => h_.1))) (Kd.R_base ho0) hb); have n2_ := Aside0.mk (Kd.R_lower (Kd.R_new' (Kd.R_new' ho0 (Kd.R_lt (by (with_reducible repeat (first | apply Kd.R_alloc | apply Kd.R_drewN | apply Kd.R_drew)); exact (Kd.R_mono (Kd.R_far (p := ⟨gb289, 0, none⟩) (Kd.R_types HO283.out BK289.out (by decide)) (fun _ hk => hk.2) (.slice Ao22 t284.length co22)) (fun _ h_ => h_.1))))) (Kd.R_lt (by (with_reducible repeat (first | apply Kd.R_alloc | apply Kd.R_drewN | apply Kd.R_drew)); exact (Kd.R_mono (Kd.R_far (p := ⟨gb289, 0, none⟩) (Kd.R_types HO286.out BK289.out (by decide)) (fun _ hk => hk.2) (.slice Ao22 t284.length co22)) (fun _ h_ => h_.1))))) (below_size (by repeat (first | (with_reducible first | exact HB.out | apply below_alloc | apply pw_below_drewN | apply below_drew1 | refine below_set ?_ GE279.out | refine below_set ?_ GE289.out) | exact HB.out)))); have n3_ := Aside0.mk (blk_below (g := gb279) (o := .cells #[.slice A0_0 l0_0.length c0_0] 24 (0, 0)) (by (with_reducible repeat (first | refine blk_drewN ?_ _ | refine blk_drew ?_ | refine blk_alloc ?_ _)); refine blk_far ?_ NB279_289.out _; (with_reducible repeat (first | refine blk_drewN ?_ _ | refine blk_drew ?_ | refine blk_alloc ?_ _)); exact BK279.out) hb); have n4_ := Aside0.mk (blk_below (g := gb289) (o := .cells #[.slice Ao22 t284.length co22] 27 (0, 0)) (by (with_reducible repeat (first | refine blk_drewN ?_ _ | refine blk_drew ?_ | refine blk_alloc ?_ _)); refine blk_put (cs := #[.slice none 0 0]) ?_ 0 _ rfl; (with_reducible repeat (first | refine blk_drewN ?_ _ | refine blk_drew ?_ | refine blk_alloc ?_ _)); exact BK289.out) hb); have n5_ := Aside0.mk (below_step (by repeat (first | (with_reducible first | exact HB.out | apply below_alloc | apply pw_below_drewN | apply below_drew1 | refine below_set ?_ GE279.out | refine below_set ?_ GE289.out) | exact HB.out)) hb); clear HO283; clear HO286; clear BK279; clear BK289; clear HB; have HO283 := n0_; have HO286 := n1_; have HO292 := n2_; have BK279 := n3_; have BK289 := n4_; have HB := n5_; clear n0_ n1_ n2_ n3_ n4_ n5_; (try clear hb); (try clear hb2); (try clear hk); (try clear hi); (try clear ho0)) | ((with_reducible refine gate_dst (N := 11) rfl ?_); refine box_event ?hg (N := 11) ?hd (cs := #[.slice none 0 0]) (t := 27) ?hr ?_; (case hd => rfl); (case hg => rfl); (case hr => first | (go_simp; done) | (go_simp; rfl)); intro gb293 hg w27 hbox hb; have n0_ := Aside0.mk (Kd.R_below (by (with_reducible repeat (first | apply Kd.R_alloc | apply Kd.R_drewN | apply Kd.R_drew)); exact HO283.out) hb); have n1_ := Aside0.mk (Kd.R_below (by (with_reducible repeat (first | apply Kd.R_alloc | apply Kd.R_drewN | apply Kd.R_drew)); exact HO286.out) hb); have n2_ := Aside0.mk (Kd.R_below (by (with_reducible repeat (first | apply Kd.R_alloc | apply Kd.R_drewN | apply Kd.R_drew)); exact HO292.out) hb); have n3_ := Aside0.mk (blk_below (g := gb279) (o := .cells #[.slice A0_0 l0_0.length c0_0] 24 (0, 0)) (by (with_reducible repeat (first | refine blk_drewN ?_ _ | refine blk_drew ?_ | refine blk_alloc ?_ _)); exact BK279.out) hb); have n4_ := Aside0.mk (blk_below (g := gb289) (o := .cells #[.slice Ao22 t284.length co22] 27 (0, 0)) (by (with_reducible repeat (first | refine blk_drewN ?_ _ | refine blk_drew ?_ | refine blk_alloc ?_ _)); exact BK289.out) hb); have n5_ := Aside0.mk (below_step (by repeat (first | (with_reducible first | exact HB.out | apply below_alloc | apply pw_below_drewN | apply below_drew1 | refine below_set ?_ GE279.out | refine below_set ?_ GE289.out) | exact HB.out)) hb); have n6_ := Aside0.mk (hbox); have n7_ := Aside0.mk ((by rw [hg]; exact (below_size (by repeat (first | (with_reducible first | exact HB.out | apply below_alloc | apply pw_below_drewN | apply below_drew1 | refine below_set ?_ GE279.out | refine below_set ?_ GE289.out) | exact HB.out))) : w.heap.size ≤ gb293)); have n8_ := Aside0.mk ((by rw [hg]; exact (below_size (by repeat (first | (with_reducible first | exact HB.out | apply below_alloc | apply pw_below_drewN | apply below_drew1 | refine below_set ?_ GE279.out | refine below_set ?_ GE289.out) | exact HB.out))) : w.heap.size ≤ gb293)); have n9_ := Aside0.mk ((by rw [hg]; exact Nat.ne_of_lt (blk_lt (g := gb279) (o := .cells #[.slice A0_0 l0_0.length c0_0] 24 (0, 0)) (by (with_reducible repeat (first | refine blk_drewN ?_ _ | refine blk_drew ?_ | refine blk_alloc ?_ _)); exact BK279.out)) : gb279 ≠ gb293)); have n10_ := Aside0.mk ((by rw [hg]; exact Nat.ne_of_gt (blk_lt (g := gb279) (o := .cells #[.slice A0_0 l0_0.length c0_0] 24 (0, 0)) (by (with_reducible repeat (first | refine blk_drewN ?_ _ | refine blk_drew ?_ | refine blk_alloc ?_ _)); exact BK279.out)) : gb293 ≠ gb279)); have n11_ := Aside0.mk ((by rw [hg]; exact Nat.ne_of_lt (blk_lt (g := gb289) (o := .cells #[.slice Ao22 t284.length co22] 27 (0, 0)) (by (with_reducible repeat (first | refine blk_drewN ?_ _ | refine blk_drew ?_ | refine blk_alloc ?_ _)); exact BK289.out)) : gb289 ≠ gb293)); have n12_ := Aside0.mk ((by rw [hg]; exact Nat.ne_of_gt (blk_lt (g := gb289) (o := .cells #[.slice Ao22 t284.length co22] 27 (0, 0)) (by (with_reducible repeat (first | refine blk_drewN ?_ _ | refine blk_drew ?_ | refine blk_alloc ?_ _)); exact BK289.out)) : gb293 ≠ gb289)); clear HO283; clear HO286; clear HO292; clear BK279; clear BK289; clear HB; have HO283 := n0_; have HO286 := n1_; have HO292 := n2_; have BK279 := n3_; have BK289 := n4_; have HB := n5_; have BK293 := n6_; have GW293 := n7_; have GE293 := n8_; have NB279_293 := n9_; have NB293_279 := n10_; have NB289_293 := n11_; have NB293_289 := n12_; clear n0_ n1_ n2_ n3_ n4_ n5_ n6_ n7_ n8_ n9_ n10_ n11_ n12_; clear hb hbox hg; obtain ⟨Ao28, co28, eo28⟩ := Kd.R_slice HO292.out; subst eo28; have hnb29 := NB293_279.out; have hnc29 := NB279_293.out; have hnb30 := NB293_289.out; have hnc30 := NB289_293.out; have hcz31_0 : w27.cell? ⟨gb293, 0, none⟩ = some (.slice none 0 0) := (blk_cell BK293.out 0).trans rfl; have hfz31_0 := blk_frozen BK293.out 0) | ((with_reducible refine gate_callee (f := 23) rfl ?_); refine goesL_ (some 41) rfl rfl Try.func23 (by kernel_rfl) rfl #[.agg #[.slice Ao28 t290.length co28], .int .i64 a1, .int .i64 a2] rfl (by (try simp only [List.map_toArray, List.map_cons, List.map_nil]); first | done | rfl | (simp only [List.length_drop, List.length_take]; rfl)) ?_; (with_reducible refine (impl_Take.calls k _ _ t290 a1 a2 t294 t297 t298 _ ?side1 ?side2 A12.out).mono ?_); (case side1 => refine (Kd.R_reads' (e := 3) (base := w.heap.size) (ok := fun k_ => ((True ∧ some k_ ≠ (.slice Ao19 t281.length co19 : Value).ownBlock) ∧ some k_ ≠ (.slice Ao22 t284.length co22 : Value).ownBlock)) (n := t290.length) (c := co28) ?_).2.2; exact (by (with_reducible repeat (first | apply Kd.R_alloc | apply Kd.R_drewN | apply Kd.R_drew)); exact (Kd.R_mono (Kd.R_far (p := ⟨gb293, 0, none⟩) (Kd.R_types HO292.out BK293.out (by decide)) (fun _ hk => hk.2) (.slice Ao28 t290.length co28)) (fun _ h_ => h_.1)))); (case side2 => exact (Kd.R_reads' HO292.out).2.1); rintro e w32 ⟨v295, rfl, ho0, hb⟩; refine ⟨_, rfl, ?_⟩; have n0_ := Aside0.mk (Kd.R_elder' (by (with_reducible repeat (first | apply Kd.R_alloc | apply Kd.R_drewN | apply Kd.R_drew)); exact (Kd.R_mono (Kd.R_far (p := ⟨gb293, 0, none⟩) (Kd.R_types HO283.out BK293.out (by decide)) (fun _ hk => hk.2) (.slice Ao28 t290.length co28)) (fun _ h_ => h_.1))) (Kd.R_base ho0) hb); have n1_ := Aside0.mk (Kd.R_elder' (by (with_reducible repeat (first | apply Kd.R_alloc | apply Kd.R_drewN | apply Kd.R_drew)); exact (Kd.R_mono (Kd.R_far (p := ⟨gb293, 0, none⟩) (Kd.R_types HO286.out BK293.out (by decide)) (fun _ hk => hk.2) (.slice Ao28 t290.length co28)) (fun _ h_ => h_.1))) (Kd.R_base ho0) hb); have n2_ := Aside0.mk (Kd.R_elder' (by (with_reducible repeat (first | apply Kd.R_alloc | apply Kd.R_drewN | apply Kd.R_drew)); exact (Kd.R_mono (Kd.R_far (p := ⟨gb293, 0, none⟩) (Kd.R_types HO292.out BK293.out (by decide)) (fun _ hk => hk.2) (.slice Ao28 t290.length co28)) (fun _ h_ => h_.1))) (Kd.R_base ho0) hb); have n3_ := Aside0.mk (Kd.R_lower (Kd.R_new' (Kd.R_new' (Kd.R_new' ho0 (Kd.R_lt (by (with_reducible repeat (first | apply Kd.R_alloc | apply Kd.R_drewN | apply Kd.R_drew)); exact (Kd.R_mono (Kd.R_far (p := ⟨gb293, 0, none⟩) (Kd.R_types HO283.out BK293.out (by decide)) (fun _ hk => hk.2) (.slice Ao28 t290.length co28)) (fun _ h_ => h_.1))))) (Kd.R_lt (by (with_reducible repeat (first | apply Kd.R_alloc | apply Kd.R_drewN | apply Kd.R_drew)); exact (Kd.R_mono (Kd.R_far (p := ⟨gb293, 0, none⟩) (Kd.R_types HO286.out BK293.out (by decide)) (fun _ hk => hk.2) (.slice Ao28 t290.length co28)) (fun _ h_ => h_.1))))) (Kd.R_lt (by (with_reducible repeat (first | apply Kd.R_alloc | apply Kd.R_drewN | apply Kd.R_drew)); exact (Kd.R_mono (Kd.R_far (p := ⟨gb293, 0, none⟩) (Kd.R_types HO292.out BK293.out (by decide)) (fun _ hk => hk.2) (.slice Ao28 t290.length co28)) (fun _ h_ => h_.1))))) (below_size (by repeat (first | (with_reducible first | exact HB.out | apply below_alloc | apply pw_below_drewN | apply below_drew1 | refine below_set ?_ GE279.out | refine below_set ?_ GE289.out | refine below_set ?_ GE293.out) | exact HB.out)))); have n4_ := Aside0.mk (blk_below (g := gb279) (o := .cells #[.slice A0_0 l0_0.length c0_0] 24 (0, 0)) (by (with_reducible repeat (first | refine blk_drewN ?_ _ | refine blk_drew ?_ | refine blk_alloc ?_ _)); refine blk_far ?_ NB279_293.out _; (with_reducible repeat (first | refine blk_drewN ?_ _ | refine blk_drew ?_ | refine blk_alloc ?_ _)); exact BK279.out) hb); have n5_ := Aside0.mk (blk_below (g := gb289) (o := .cells #[.slice Ao22 t284.length co22] 27 (0, 0)) (by (with_reducible repeat (first | refine blk_drewN ?_ _ | refine blk_drew ?_ | refine blk_alloc ?_ _)); refine blk_far ?_ NB289_293.out _; (with_reducible repeat (first | refine blk_drewN ?_ _ | refine blk_drew ?_ | refine blk_alloc ?_ _)); exact BK289.out) hb); have n6_ := Aside0.mk (blk_below (g := gb293) (o := .cells #[.slice Ao28 t290.length co28] 27 (0, 0)) (by (with_reducible repeat (first | refine blk_drewN ?_ _ | refine blk_drew ?_ | refine blk_alloc ?_ _)); refine blk_put (cs := #[.slice none 0 0]) ?_ 0 _ rfl; (with_reducible repeat (first | refine blk_drewN ?_ _ | refine blk_drew ?_ | refine blk_alloc ?_ _)); exact BK293.out) hb); have n7_ := Aside0.mk (below_step (by repeat (first | (with_reducible first | exact HB.out | apply below_alloc | apply pw_below_drewN | apply below_drew1 | refine below_set ?_ GE279.out | refine below_set ?_ GE289.out | refine below_set ?_ GE293.out) | exact HB.out)) hb); clear HO283; clear HO286; clear HO292; clear BK279; clear BK289; clear BK293; clear HB; have HO283 := n0_; have HO286 := n1_; have HO292 := n2_; have HO296 := n3_; have BK279 := n4_; have BK289 := n5_; have BK293 := n6_; have HB := n7_; clear n0_ n1_ n2_ n3_ n4_ n5_ n6_ n7_; (try clear hb); (try clear hb2); (try clear hk); (try clear hi); (try clear ho0)) | ((with_reducible refine gate_dst (N := 12) rfl ?_); refine box_event ?hg (N := 12) ?hd (cs := #[.slice none 0 0]) (t := 27) ?hr ?_; (case hd => rfl); (case hg => rfl); (case hr => first | (go_simp; done) | (go_simp; rfl)); intro gb299 hg w33 hbox hb; have n0_ := Aside0.mk (Kd.R_below (by (with_reducible repeat (first | apply Kd.R_alloc | apply Kd.R_drewN | apply Kd.R_drew)); exact HO283.out) hb); have n1_ := Aside0.mk (Kd.R_below (by (with_reducible repeat (first | apply Kd.R_alloc | apply Kd.R_drewN | apply Kd.R_drew)); exact HO286.out) hb); have n2_ := Aside0.mk (Kd.R_below (by (with_reducible repeat (first | apply Kd.R_alloc | apply Kd.R_drewN | apply Kd.R_drew)); exact HO292.out) hb); have n3_ := Aside0.mk (Kd.R_below (by (with_reducible repeat (first | apply Kd.R_alloc | apply Kd.R_drewN | apply Kd.R_drew)); exact HO296.out) hb); have n4_ := Aside0.mk (blk_below (g := gb279) (o := .cells #[.slice A0_0 l0_0.length c0_0] 24 (0, 0)) (by (with_reducible repeat (first | refine blk_drewN ?_ _ | refine blk_drew ?_ | refine blk_alloc ?_ _)); exact BK279.out) hb); have n5_ := Aside0.mk (blk_below (g := gb289) (o := .cells #[.slice Ao22 t284.length co22] 27 (0, 0)) (by (with_reducible repeat (first | refine blk_drewN ?_ _ | refine blk_drew ?_ | refine blk_alloc ?_ _)); exact BK289.out) hb); have n6_ := Aside0.mk (blk_below (g := gb293) (o := .cells #[.slice Ao28 t290.length co28] 27 (0, 0)) (by (with_reducible repeat (first | refine blk_drewN ?_ _ | refine blk_drew ?_ | refine blk_alloc ?_ _)); exact BK293.out) hb); have n7_ := Aside0.mk (below_step (by repeat (first | (with_reducible first | exact HB.out | apply below_alloc | apply pw_below_drewN | apply below_drew1 | refine below_set ?_ GE279.out | refine below_set ?_ GE289.out | refine below_set ?_ GE293.out) | exact HB.out)) hb); have n8_ := Aside0.mk (hbox); have n9_ := Aside0.mk ((by rw [hg]; exact (below_size (by repeat (first | (with_reducible first | exact HB.out | apply below_alloc | apply pw_below_drewN | apply below_drew1 | refine below_set ?_ GE279.out | refine below_set ?_ GE289.out | refine below_set ?_ GE293.out) | exact HB.out))) : w.heap.size ≤ gb299)); have n10_ := Aside0.mk ((by rw [hg]; exact (below_size (by repeat (first | (with_reducible first | exact HB.out | apply below_alloc | apply pw_below_drewN | apply below_drew1 | refine below_set ?_ GE279.out | refine below_set ?_ GE289.out | refine below_set ?_ GE293.out) | exact HB.out))) : w.heap.size ≤ gb299)); have n11_ := Aside0.mk ((by rw [hg]; exact Nat.ne_of_lt (blk_lt (g := gb279) (o := .cells #[.slice A0_0 l0_0.length c0_0] 24 (0, 0)) (by (with_reducible repeat (first | refine blk_drewN ?_ _ | refine blk_drew ?_ | refine blk_alloc ?_ _)); exact BK279.out)) : gb279 ≠ gb299)); have n12_ := Aside0.mk ((by rw [hg]; exact Nat.ne_of_gt (blk_lt (g := gb279) (o := .cells #[.slice A0_0 l0_0.length c0_0] 24 (0, 0)) (by (with_reducible repeat (first | refine blk_drewN ?_ _ | refine blk_drew ?_ | refine blk_alloc ?_ _)); exact BK279.out)) : gb299 ≠ gb279)); have n13_ := Aside0.mk ((by rw [hg]; exact Nat.ne_of_lt (blk_lt (g := gb289) (o := .cells #[.slice Ao22 t284.length co22] 27 (0, 0)) (by (with_reducible repeat (first | refine blk_drewN ?_ _ | refine blk_drew ?_ | refine blk_alloc ?_ _)); exact BK289.out)) : gb289 ≠ gb299)); have n14_ := Aside0.mk ((by rw [hg]; exact Nat.ne_of_gt (blk_lt (g := gb289) (o := .cells #[.slice Ao22 t284.length co22] 27 (0, 0)) (by (with_reducible repeat (first | refine blk_drewN ?_ _ | refine blk_drew ?_ | refine blk_alloc ?_ _)); exact BK289.out)) : gb299 ≠ gb289)); have n15_ := Aside0.mk ((by rw [hg]; exact Nat.ne_of_lt (blk_lt (g := gb293) (o := .cells #[.slice Ao28 t290.length co28] 27 (0, 0)) (by (with_reducible repeat (first | refine blk_drewN ?_ _ | refine blk_drew ?_ | refine blk_alloc ?_ _)); exact BK293.out)) : gb293 ≠ gb299)); have n16_ := Aside0.mk ((by rw [hg]; exact Nat.ne_of_gt (blk_lt (g := gb293) (o := .cells #[.slice Ao28 t290.length co28] 27 (0, 0)) (by (with_reducible repeat (first | refine blk_drewN ?_ _ | refine blk_drew ?_ | refine blk_alloc ?_ _)); exact BK293.out)) : gb299 ≠ gb293)); clear HO283; clear HO286; clear HO292; clear HO296; clear BK279; clear BK289; clear BK293; clear HB; have HO283 := n0_; have HO286 := n1_; have HO292 := n2_; have HO296 := n3_; have BK279 := n4_; have BK289 := n5_; have BK293 := n6_; have HB := n7_; have BK299 := n8_; have GW299 := n9_; have GE299 := n10_; have NB279_299 := n11_; have NB299_279 := n12_; have NB289_299 := n13_; have NB299_289 := n14_; have NB293_299 := n15_; have NB299_293 := n16_; clear n0_ n1_ n2_ n3_ n4_ n5_ n6_ n7_ n8_ n9_ n10_ n11_ n12_ n13_ n14_ n15_ n16_; clear hb hbox hg; obtain ⟨Ao34, co34, eo34⟩ := Kd.R_slice HO296.out; subst eo34; have hnb35 := NB299_279.out; have hnc35 := NB279_299.out; have hnb36 := NB299_289.out; have hnc36 := NB289_299.out; have hnb37 := NB299_293.out; have hnc37 := NB293_299.out; have hcz38_0 : w33.cell? ⟨gb299, 0, none⟩ = some (.slice none 0 0) := (blk_cell BK299.out 0).trans rfl; have hfz38_0 := blk_frozen BK299.out 0))
    (try simp only [Act.put, List.setIfInBounds_toArray, List.set_cons_zero, List.set_cons_succ])
    go_cut [58] (fun v58 wc => ∃ (kq : Nat) (x58_12 : Bool), v58 = .bool x58_12 ∧ Aside0 (laws_FnExactTake.j0 kq a1 a2 t287 t288 t297 t298 x58_12 l0_0 t284 t290 t294 = some r) ∧ Aside0 (kq ≤ k) ∧ Aside0 (Kd.R (Kd.int .i64) 3 wc w.heap.size (fun k_ => some k_ ≠ ((.slice Ao28 t290.length co28) : Value).ownBlock ∧ some k_ ≠ ((.slice Ao34 t294.length co34) : Value).ownBlock) (.slice Ao22 t284.length co22) t284) ∧ Aside0 (Kd.R (Kd.int .i64) 3 wc w.heap.size (fun k_ => some k_ ≠ ((.slice Ao22 t284.length co22) : Value).ownBlock ∧ some k_ ≠ ((.slice Ao34 t294.length co34) : Value).ownBlock) (.slice Ao28 t290.length co28) t290) ∧ Aside0 (Kd.R (Kd.int .i64) 3 wc w.heap.size (fun k_ => some k_ ≠ ((.slice Ao22 t284.length co22) : Value).ownBlock ∧ some k_ ≠ ((.slice Ao28 t290.length co28) : Value).ownBlock) (.slice Ao34 t294.length co34) t294) ∧ Aside0 (wc.heap[gb279]? = some (.cells #[(.slice A0_0 l0_0.length c0_0)] 24 (0, 0))) ∧ Aside0 (wc.heap[gb289]? = some (.cells #[(.slice Ao22 t284.length co22)] 27 (0, 0))) ∧ Aside0 (wc.heap[gb293]? = some (.cells #[(.slice Ao28 t290.length co28)] 27 (0, 0))) ∧ Aside0 (wc.heap[gb299]? = some (.cells #[(.slice Ao34 t294.length co34)] 27 (0, 0))) ∧ Aside0 (Below w.heap.size w wc))
    case first =>
      have H := HC13.out
      clear HC13
      replace H := Option.bind_eq_some_iff.mp H
      obtain ⟨t300, A390, H⟩ := H
      replace H : (if t300 = true then (if t297 = t287 then (laws_FnExactTake.j0 k a1 a2 t287 t288 t297 t298 (t298 != t288) l0_0 t284 t290 t294) else (laws_FnExactTake.j0 k a1 a2 t287 t288 t297 t298 true l0_0 t284 t290 t294)) else (laws_FnExactTake.j0 k a1 a2 t287 t288 t297 t298 true l0_0 t284 t290 t294)) = some r := H
      have A39 := Aside0.mk A390
      clear A390
      by_cases c40 : t300 = true
      · subst c40
        have H1 : (if t297 = t287 then (laws_FnExactTake.j0 k a1 a2 t287 t288 t297 t298 (t298 != t288) l0_0 t284 t290 t294) else (laws_FnExactTake.j0 k a1 a2 t287 t288 t297 t298 true l0_0 t284 t290 t294)) = some r := by rw [if_pos rfl] at H; exact H
        clear H
        have H := H1
        clear H1
        by_cases c41 : t297 = t287
        · rw [if_pos c41] at H
          have c41b0 : (t297 == t287) = true := beq_iff_eq.mpr c41
          have c41b1 : (t297 != t287) = false := bne_eq_false_iff_eq.mpr c41
          clear c41
          (first | rw [c41b0] | (simp only [i64_w, i32_w]; rw [c41b0]) | skip)
          have H' := Aside0.mk H
          clear H
          have hnb42 := NB299_279.out
          have hnc42 := NB279_299.out
          have hnb43 := NB299_289.out
          have hnc43 := NB289_299.out
          have hnb44 := NB299_293.out
          have hnc44 := NB293_299.out
          have hcz45_0 : w33.cell? ⟨gb299, 0, none⟩ = some (.slice none 0 0) := (blk_cell BK299.out 0).trans rfl
          have hfz45_0 := blk_frozen BK299.out 0
          have hnb46 := NB289_279.out
          have hnc46 := NB279_289.out
          have hnb47 := NB289_293.out
          have hnc47 := NB293_289.out
          have hcz48_0 : w33.cell? ⟨gb289, 0, none⟩ = some (.slice Ao22 t284.length co22) := (blk_cell BK289.out 0).trans rfl
          have hfz48_0 := blk_frozen BK289.out 0
          go_wp2_with (first | ((with_reducible refine gate_callee (f := 19) rfl ?_); refine goesL_ (some 47) rfl rfl Try.func19 (by kernel_rfl) rfl #[.agg #[.slice Ao34 t294.length co34], .agg #[.slice Ao22 t284.length co22]] rfl (by (try simp only [List.map_toArray, List.map_cons, List.map_nil]); first | done | rfl | (simp only [List.length_drop, List.length_take]; rfl)) ?_; (with_reducible refine (laws_eqSlab.calls k _ _ t294 _ _ t284 true _ ?side1 ?side2 ?side3 ?side4 A39.out).mono ?_); (case side1 => refine (Kd.R_reads' (e := 3) (base := w.heap.size) (ok := fun k_ => (((True ∧ some k_ ≠ (.slice Ao19 t281.length co19 : Value).ownBlock) ∧ some k_ ≠ (.slice Ao22 t284.length co22 : Value).ownBlock) ∧ some k_ ≠ (.slice Ao28 t290.length co28 : Value).ownBlock)) (n := t294.length) (c := co34) ?_).2.2; exact (by (with_reducible repeat (first | apply Kd.R_alloc | apply Kd.R_drewN | apply Kd.R_drew)); exact (Kd.R_mono (Kd.R_far (p := ⟨gb299, 0, none⟩) (Kd.R_types HO296.out BK299.out (by decide)) (fun _ hk => hk.2) (.slice Ao34 t294.length co34)) (fun _ h_ => h_.1)))); (case side2 => exact (Kd.R_reads' HO296.out).2.1); (case side3 => refine (Kd.R_reads' (e := 3) (base := w.heap.size) (ok := fun k_ => (((True ∧ some k_ ≠ (.slice Ao19 t281.length co19 : Value).ownBlock) ∧ some k_ ≠ (.slice Ao28 t290.length co28 : Value).ownBlock) ∧ some k_ ≠ (.slice Ao34 t294.length co34 : Value).ownBlock)) (n := t284.length) (c := co22) ?_).2.2; exact (by (with_reducible repeat (first | apply Kd.R_alloc | apply Kd.R_drewN | apply Kd.R_drew)); exact (Kd.R_mono (Kd.R_far (p := ⟨gb299, 0, none⟩) (Kd.R_types HO286.out BK299.out (by decide)) (fun _ hk => hk.2) (.slice Ao34 t294.length co34)) (fun _ h_ => h_.1)))); (case side4 => exact (Kd.R_reads' HO286.out).2.1); rintro e w49 ⟨rfl, hb⟩; refine ⟨_, rfl, ?_⟩; have n0_ := Aside0.mk (Kd.R_below (by (with_reducible repeat (first | apply Kd.R_alloc | apply Kd.R_drewN | apply Kd.R_drew)); exact (Kd.R_mono (Kd.R_far (p := ⟨gb299, 0, none⟩) (Kd.R_types HO283.out BK299.out (by decide)) (fun _ hk => hk.2) (.slice Ao34 t294.length co34)) (fun _ h_ => h_.1))) hb); have n1_ := Aside0.mk (Kd.R_below (by (with_reducible repeat (first | apply Kd.R_alloc | apply Kd.R_drewN | apply Kd.R_drew)); exact (Kd.R_mono (Kd.R_far (p := ⟨gb299, 0, none⟩) (Kd.R_types HO286.out BK299.out (by decide)) (fun _ hk => hk.2) (.slice Ao34 t294.length co34)) (fun _ h_ => h_.1))) hb); have n2_ := Aside0.mk (Kd.R_below (by (with_reducible repeat (first | apply Kd.R_alloc | apply Kd.R_drewN | apply Kd.R_drew)); exact (Kd.R_mono (Kd.R_far (p := ⟨gb299, 0, none⟩) (Kd.R_types HO292.out BK299.out (by decide)) (fun _ hk => hk.2) (.slice Ao34 t294.length co34)) (fun _ h_ => h_.1))) hb); have n3_ := Aside0.mk (Kd.R_below (by (with_reducible repeat (first | apply Kd.R_alloc | apply Kd.R_drewN | apply Kd.R_drew)); exact (Kd.R_mono (Kd.R_far (p := ⟨gb299, 0, none⟩) (Kd.R_types HO296.out BK299.out (by decide)) (fun _ hk => hk.2) (.slice Ao34 t294.length co34)) (fun _ h_ => h_.1))) hb); have n4_ := Aside0.mk (blk_below (g := gb279) (o := .cells #[.slice A0_0 l0_0.length c0_0] 24 (0, 0)) (by (with_reducible repeat (first | refine blk_drewN ?_ _ | refine blk_drew ?_ | refine blk_alloc ?_ _)); refine blk_far ?_ NB279_299.out _; (with_reducible repeat (first | refine blk_drewN ?_ _ | refine blk_drew ?_ | refine blk_alloc ?_ _)); exact BK279.out) hb); have n5_ := Aside0.mk (blk_below (g := gb289) (o := .cells #[.slice Ao22 t284.length co22] 27 (0, 0)) (by (with_reducible repeat (first | refine blk_drewN ?_ _ | refine blk_drew ?_ | refine blk_alloc ?_ _)); refine blk_far ?_ NB289_299.out _; (with_reducible repeat (first | refine blk_drewN ?_ _ | refine blk_drew ?_ | refine blk_alloc ?_ _)); exact BK289.out) hb); have n6_ := Aside0.mk (blk_below (g := gb293) (o := .cells #[.slice Ao28 t290.length co28] 27 (0, 0)) (by (with_reducible repeat (first | refine blk_drewN ?_ _ | refine blk_drew ?_ | refine blk_alloc ?_ _)); refine blk_far ?_ NB293_299.out _; (with_reducible repeat (first | refine blk_drewN ?_ _ | refine blk_drew ?_ | refine blk_alloc ?_ _)); exact BK293.out) hb); have n7_ := Aside0.mk (blk_below (g := gb299) (o := .cells #[.slice Ao34 t294.length co34] 27 (0, 0)) (by (with_reducible repeat (first | refine blk_drewN ?_ _ | refine blk_drew ?_ | refine blk_alloc ?_ _)); refine blk_put (cs := #[.slice none 0 0]) ?_ 0 _ rfl; (with_reducible repeat (first | refine blk_drewN ?_ _ | refine blk_drew ?_ | refine blk_alloc ?_ _)); exact BK299.out) hb); have n8_ := Aside0.mk (below_step (by repeat (first | (with_reducible first | exact HB.out | apply below_alloc | apply pw_below_drewN | apply below_drew1 | refine below_set ?_ GE279.out | refine below_set ?_ GE289.out | refine below_set ?_ GE293.out | refine below_set ?_ GE299.out) | exact HB.out)) hb); clear HO283; clear HO286; clear HO292; clear HO296; clear BK279; clear BK289; clear BK293; clear BK299; clear HB; have HO283 := n0_; have HO286 := n1_; have HO292 := n2_; have HO296 := n3_; have BK279 := n4_; have BK289 := n5_; have BK293 := n6_; have BK299 := n7_; have HB := n8_; clear n0_ n1_ n2_ n3_ n4_ n5_ n6_ n7_ n8_; (try clear hb); (try clear hb2); (try clear hk); (try clear hi)))
          go_meet
          case rel => exact ⟨_, ((t298 != t288)), (by first | rfl | (simp; done) | (simp [*]; done)), H', ⟨by first | omega | exact Nat.le_refl _⟩, ⟨by (with_reducible repeat (first | apply Kd.R_alloc | apply Kd.R_drewN | apply Kd.R_drew)); exact Kd.R_mono HO286.out (fun _ hk => ⟨hk.1.2, hk.2⟩)⟩, ⟨by (with_reducible repeat (first | apply Kd.R_alloc | apply Kd.R_drewN | apply Kd.R_drew)); exact Kd.R_mono HO292.out (fun _ hk => ⟨hk.1.2, hk.2⟩)⟩, ⟨by (with_reducible repeat (first | apply Kd.R_alloc | apply Kd.R_drewN | apply Kd.R_drew)); exact Kd.R_mono HO296.out (fun _ hk => ⟨hk.1.2, hk.2⟩)⟩, ⟨by (with_reducible repeat (first | refine blk_drewN ?_ _ | refine blk_drew ?_ | refine blk_alloc ?_ _)); exact BK279.out⟩, ⟨by (with_reducible repeat (first | refine blk_drewN ?_ _ | refine blk_drew ?_ | refine blk_alloc ?_ _)); exact BK289.out⟩, ⟨by (with_reducible repeat (first | refine blk_drewN ?_ _ | refine blk_drew ?_ | refine blk_alloc ?_ _)); exact BK293.out⟩, ⟨by (with_reducible repeat (first | refine blk_drewN ?_ _ | refine blk_drew ?_ | refine blk_alloc ?_ _)); exact BK299.out⟩, ⟨by repeat (first | (with_reducible first | exact HB.out | apply below_alloc | apply pw_below_drewN | apply below_drew1 | refine below_set ?_ GE279.out | refine below_set ?_ GE289.out | refine below_set ?_ GE293.out | refine below_set ?_ GE299.out) | exact HB.out)⟩⟩
        · rw [if_neg c41] at H
          have c41b0 : (t297 == t287) = false := beq_eq_false_iff_ne.mpr c41
          have c41b1 : (t297 != t287) = true := bne_iff_ne.mpr c41
          (first | rw [c41b0] | (simp only [i64_w, i32_w]; rw [c41b0]) | skip)
          exfalso
          revert H
          cases k with
          | zero => intro H; simp [laws_FnExactTake.j0] at H
          | succ k9 => intro H; simp only [laws_FnExactTake.j0] at H; (first | rw [if_pos rfl] at H | rw [if_pos trivial] at H); exact absurd (H.trans (congrArg some hrt.out)) (by simp)
      · replace c40 := Bool.eq_false_iff.mpr c40
        subst c40
        have H1 : (laws_FnExactTake.j0 k a1 a2 t287 t288 t297 t298 true l0_0 t284 t290 t294) = some r := by rw [if_neg (show ¬ (false = true) by decide)] at H; exact H
        clear H
        have H := H1
        clear H1
        exfalso
        revert H
        cases k with
        | zero => intro H; simp [laws_FnExactTake.j0] at H
        | succ k9 => intro H; simp only [laws_FnExactTake.j0] at H; (first | rw [if_pos rfl] at H | rw [if_pos trivial] at H); exact absurd (H.trans (congrArg some hrt.out)) (by simp)
    case rest =>
      clear HC13
      try clear c1
      try clear c2
      try clear p2
      try clear c3
      try clear c4
      try clear c5
      try clear c5b0
      try clear c15
      try clear c17
      try clear c19
      try clear c22
      try clear c23
      try clear c29
      try clear c30
      try clear c35
      try clear c36
      try clear c37
      try clear c40
      try clear c41
      try clear c41b0
      try clear c41b1
      try clear c42
      try clear c43
      try clear c44
      try clear c46
      try clear c47
      try clear hcz15_0
      try clear hcz17_0
      try clear hcz24_0
      try clear hcz25_0
      try clear hcz31_0
      try clear hcz38_0
      try clear hcz45_0
      try clear hcz48_0
      try clear hcz7_0
      try clear hfz15_0
      try clear hfz17_0
      try clear hfz24_0
      try clear hfz25_0
      try clear hfz31_0
      try clear hfz38_0
      try clear hfz45_0
      try clear hfz48_0
      try clear hfz7_0
      obtain ⟨kq, x58_12, rfl, HA, HJ12, HO_290000, HO_294000, HO_300000, BK279, BK289, BK293, BK299, HB⟩ := hcut
      cases kq with
      | zero => exact absurd HA.out (by simp [laws_FnExactTake.j0])
      | succ kj12 =>
        have H := HA.out
        clear HA
        simp only [laws_FnExactTake.j0] at H
        by_cases c50 : x58_12 = true
        · subst c50
          have H1 : (some false) = some r := by rw [if_pos rfl] at H; exact H
          clear H
          have H := H1
          clear H1
          exact absurd (H.trans (congrArg some hrt.out)) (by simp)
        · replace c50 := Bool.eq_false_iff.mpr c50
          subst c50
          have H1 : ((laws_toSlab.f kj12 l0_0).bind fun t301 => ((laws_eqSlab.f kj12 t290 t301).bind fun t304 => (if t304 = true then ((laws_markSlab.f kj12 t290 1).bind fun bt305 => (if bt305.1 < 0 then (laws_FnExactTake.j1 kj12 a1 a2 t287 t288 true l0_0 t284 t294) else ((laws_eqSlab.f kj12 t294 t284).bind fun t307 => (if t307 = true then (if t297 = t287 then (laws_FnExactTake.j1 kj12 a1 a2 t287 t288 (t298 != t288) l0_0 t284 t294) else (laws_FnExactTake.j1 kj12 a1 a2 t287 t288 true l0_0 t284 t294)) else (laws_FnExactTake.j1 kj12 a1 a2 t287 t288 true l0_0 t284 t294))))) else (some false)))) = some r := by rw [if_neg (show ¬ (false = true) by decide)] at H; exact H
          clear H
          have H := H1
          clear H1
          replace H := Option.bind_eq_some_iff.mp H
          obtain ⟨t301, A510, H⟩ := H
          replace H : ((laws_eqSlab.f kj12 t290 t301).bind fun t304 => (if t304 = true then ((laws_markSlab.f kj12 t290 1).bind fun bt305 => (if bt305.1 < 0 then (laws_FnExactTake.j1 kj12 a1 a2 t287 t288 true l0_0 t284 t294) else ((laws_eqSlab.f kj12 t294 t284).bind fun t307 => (if t307 = true then (if t297 = t287 then (laws_FnExactTake.j1 kj12 a1 a2 t287 t288 (t298 != t288) l0_0 t284 t294) else (laws_FnExactTake.j1 kj12 a1 a2 t287 t288 true l0_0 t284 t294)) else (laws_FnExactTake.j1 kj12 a1 a2 t287 t288 true l0_0 t284 t294))))) else (some false))) = some r := H
          have A51 := Aside0.mk A510
          clear A510
          replace H := Option.bind_eq_some_iff.mp H
          obtain ⟨t304, A520, H⟩ := H
          replace H : (if t304 = true then ((laws_markSlab.f kj12 t290 1).bind fun bt305 => (if bt305.1 < 0 then (laws_FnExactTake.j1 kj12 a1 a2 t287 t288 true l0_0 t284 t294) else ((laws_eqSlab.f kj12 t294 t284).bind fun t307 => (if t307 = true then (if t297 = t287 then (laws_FnExactTake.j1 kj12 a1 a2 t287 t288 (t298 != t288) l0_0 t284 t294) else (laws_FnExactTake.j1 kj12 a1 a2 t287 t288 true l0_0 t284 t294)) else (laws_FnExactTake.j1 kj12 a1 a2 t287 t288 true l0_0 t284 t294))))) else (some false)) = some r := H
          have A52 := Aside0.mk A520
          clear A520
          by_cases c53 : t304 = true
          · subst c53
            have H1 : ((laws_markSlab.f kj12 t290 1).bind fun bt305 => (if bt305.1 < 0 then (laws_FnExactTake.j1 kj12 a1 a2 t287 t288 true l0_0 t284 t294) else ((laws_eqSlab.f kj12 t294 t284).bind fun t307 => (if t307 = true then (if t297 = t287 then (laws_FnExactTake.j1 kj12 a1 a2 t287 t288 (t298 != t288) l0_0 t284 t294) else (laws_FnExactTake.j1 kj12 a1 a2 t287 t288 true l0_0 t284 t294)) else (laws_FnExactTake.j1 kj12 a1 a2 t287 t288 true l0_0 t284 t294))))) = some r := by rw [if_pos rfl] at H; exact H
            clear H
            have H := H1
            clear H1
            replace H := Option.bind_eq_some_iff.mp H
            obtain ⟨⟨t305, t306⟩, A540, H⟩ := H
            replace H : (if t305 < 0 then (laws_FnExactTake.j1 kj12 a1 a2 t287 t288 true l0_0 t284 t294) else ((laws_eqSlab.f kj12 t294 t284).bind fun t307 => (if t307 = true then (if t297 = t287 then (laws_FnExactTake.j1 kj12 a1 a2 t287 t288 (t298 != t288) l0_0 t284 t294) else (laws_FnExactTake.j1 kj12 a1 a2 t287 t288 true l0_0 t284 t294)) else (laws_FnExactTake.j1 kj12 a1 a2 t287 t288 true l0_0 t284 t294)))) = some r := H
            have A54 := Aside0.mk A540
            clear A540
            have HC55 := Aside0.mk H
            clear H
            try go_wp2
            have n0_ := Aside0.mk (Kd.R_drew HO_290000.out)
            have n1_ := Aside0.mk (Kd.R_drew HO_294000.out)
            have n2_ := Aside0.mk (Kd.R_drew HO_300000.out)
            have n3_ := Aside0.mk (blk_drew BK279.out)
            have n4_ := Aside0.mk (blk_drew BK289.out)
            have n5_ := Aside0.mk (blk_drew BK293.out)
            have n6_ := Aside0.mk (blk_drew BK299.out)
            have n7_ := Aside0.mk (below_drew1 HB.out)
            clear HO_290000
            clear HO_294000
            clear HO_300000
            clear BK279
            clear BK289
            clear BK293
            clear BK299
            clear HB
            have HO_290000 := n0_
            have HO_294000 := n1_
            have HO_300000 := n2_
            have BK279 := n3_
            have BK289 := n4_
            have BK293 := n5_
            have BK299 := n6_
            have HB := n7_
            clear n0_ n1_ n2_ n3_ n4_ n5_ n6_ n7_
            refine start_ (n := 5) (S := fun w' => w'.cell? ⟨gb293, 0, none⟩ = some (.slice Ao28 t290.length co28) ∧ w'.cell? ⟨gb279, 0, none⟩ = some (.slice A0_0 l0_0.length c0_0)) (ds := []) #[false, false, false, false, false] (by kernel_rfl) rfl rfl ⟨(blk_cell BK293.out 0).trans rfl, (blk_cell BK279.out 0).trans rfl⟩ (fun hHeld => ?_)
            generalize wc.drew = w56 at HO_290000 HO_294000 HO_300000 BK279 BK289 BK293 BK299 HB hHeld ⊢
            refine take_ (i := 0) (N := some 59) (v := ?_) (a' := ?_) #[true, false, false, false, false] rfl rfl (by kernel_rfl) (fun _ _ _ h => h) (Or.inl ⟨by rfl, ?_⟩) hHeld ?_ ?_
            rotate_left
            · rintro w' ⟨s0, s1⟩
              go_simp
              with_reducible rfl
            rotate_left
            · simp only [Act.put, List.setIfInBounds_toArray, List.set_cons_zero, List.set_cons_succ, i64_w, i32_w]
              rfl
            refine take_ (i := 1) (N := some 60) (v := ?_) (a' := ?_) #[true, true, false, false, false] rfl rfl (by kernel_rfl) (fun _ _ _ h => h) (Or.inl ⟨by rfl, ?_⟩) hHeld ?_ ?_
            rotate_left
            · rintro w' ⟨s0, s1⟩
              go_simp
              with_reducible rfl
            rotate_left
            · simp only [Act.put, List.setIfInBounds_toArray, List.set_cons_zero, List.set_cons_succ, i64_w, i32_w]
              rfl
            refine one_ (i := 2) (N := some 61) #[true, true, true, false, false] rfl rfl (by kernel_rfl) (by decide) (fun K hK => ?_)
            refine goes_ Try.func17 (by kernel_rfl) rfl #[.agg #[.slice A0_0 l0_0.length c0_0]] (by rfl) rfl rfl (by (try simp only [List.map_toArray, List.map_cons, List.map_nil]); first | done | rfl | (simp only [List.length_drop, List.length_take]; rfl)) ?_
            with_reducible refine (laws_toSlab.calls kj12 _ _ l0_0 t301 _ ?side1 ?side2 A51.out).mono ?_
            (case side1 => repeat (first | exact (Kd.C_below HR0_0.out HB.out) | (with_reducible refine Kd.C_alloc ?_ _) | (with_reducible refine Kd.C_drewN ?_ _) | (with_reducible refine Kd.C_drew ?_)))
            (case side2 => exact HC0_0.out)
            rintro e w57 ⟨v302, rfl, ho0, hb⟩
            refine ⟨_, rfl, ?_⟩
            have n0_ := Aside0.mk (Kd.R_elder' (by (with_reducible repeat (first | apply Kd.R_alloc | apply Kd.R_drewN | apply Kd.R_drew)); exact HO_290000.out) (Kd.R_base ho0) hb)
            have n1_ := Aside0.mk (Kd.R_elder' (by (with_reducible repeat (first | apply Kd.R_alloc | apply Kd.R_drewN | apply Kd.R_drew)); exact HO_294000.out) (Kd.R_base ho0) hb)
            have n2_ := Aside0.mk (Kd.R_elder' (by (with_reducible repeat (first | apply Kd.R_alloc | apply Kd.R_drewN | apply Kd.R_drew)); exact HO_300000.out) (Kd.R_base ho0) hb)
            have n3_ := Aside0.mk (Kd.R_lower (Kd.R_new' (Kd.R_new' (Kd.R_new' ho0 (Kd.R_lt (by (with_reducible repeat (first | apply Kd.R_alloc | apply Kd.R_drewN | apply Kd.R_drew)); exact HO_290000.out))) (Kd.R_lt (by (with_reducible repeat (first | apply Kd.R_alloc | apply Kd.R_drewN | apply Kd.R_drew)); exact HO_294000.out))) (Kd.R_lt (by (with_reducible repeat (first | apply Kd.R_alloc | apply Kd.R_drewN | apply Kd.R_drew)); exact HO_300000.out))) (below_size (by repeat (first | (with_reducible first | exact HB.out | apply below_alloc | apply pw_below_drewN | apply below_drew1 | refine below_set ?_ GE279.out | refine below_set ?_ GE289.out | refine below_set ?_ GE293.out | refine below_set ?_ GE299.out) | exact HB.out))))
            have n4_ := Aside0.mk (blk_below (g := gb279) (o := .cells #[.slice A0_0 l0_0.length c0_0] 24 (0, 0)) (by (with_reducible repeat (first | refine blk_drewN ?_ _ | refine blk_drew ?_ | refine blk_alloc ?_ _)); exact BK279.out) hb)
            have n5_ := Aside0.mk (blk_below (g := gb289) (o := .cells #[.slice Ao22 t284.length co22] 27 (0, 0)) (by (with_reducible repeat (first | refine blk_drewN ?_ _ | refine blk_drew ?_ | refine blk_alloc ?_ _)); exact BK289.out) hb)
            have n6_ := Aside0.mk (blk_below (g := gb293) (o := .cells #[.slice Ao28 t290.length co28] 27 (0, 0)) (by (with_reducible repeat (first | refine blk_drewN ?_ _ | refine blk_drew ?_ | refine blk_alloc ?_ _)); exact BK293.out) hb)
            have n7_ := Aside0.mk (blk_below (g := gb299) (o := .cells #[.slice Ao34 t294.length co34] 27 (0, 0)) (by (with_reducible repeat (first | refine blk_drewN ?_ _ | refine blk_drew ?_ | refine blk_alloc ?_ _)); exact BK299.out) hb)
            have n8_ := Aside0.mk (below_step (by repeat (first | (with_reducible first | exact HB.out | apply below_alloc | apply pw_below_drewN | apply below_drew1 | refine below_set ?_ GE279.out | refine below_set ?_ GE289.out | refine below_set ?_ GE293.out | refine below_set ?_ GE299.out) | exact HB.out)) hb)
            clear HO_290000
            clear HO_294000
            clear HO_300000
            clear BK279
            clear BK289
            clear BK293
            clear BK299
            clear HB
            have HO_290000 := n0_
            have HO_294000 := n1_
            have HO_300000 := n2_
            have HO303 := n3_
            have BK279 := n4_
            have BK289 := n5_
            have BK293 := n6_
            have BK299 := n7_
            have HB := n8_
            clear n0_ n1_ n2_ n3_ n4_ n5_ n6_ n7_ n8_
            (try clear hb)
            (try clear hb2)
            (try clear hk)
            (try clear hi)
            (try clear ho0)
            obtain ⟨Ao58, co58, eo58⟩ := Kd.R_slice HO303.out
            (first | subst eo58 | (injection eo58 with f1_ f2_ f3_; have f4_ := f1_.symm; have f5_ := f3_.symm; clear f1_ f2_ f3_; subst f4_; subst f5_))
            refine hK.out _ _ ⟨(blk_cell BK293.out 0).trans rfl, (blk_cell BK279.out 0).trans rfl⟩ (fun hHeld => ?_)
            clear hK K
            refine norm_ (a' := ?_) ?_ ?_
            rotate_left
            · show Act.put _ (some 61) _ = _
              simp only [Act.put, List.setIfInBounds_toArray, List.set_cons_zero, List.set_cons_succ, i64_w, i32_w]
              rfl
            refine one_ (i := 3) (N := some 62) #[true, true, true, true, false] rfl rfl (by kernel_rfl) (by decide) (fun K hK => ?_)
            refine goes_ Try.func19 (by kernel_rfl) rfl #[.agg #[.slice Ao28 t290.length co28], .agg #[.slice Ao58 t301.length co58]] (by rfl) rfl rfl (by (try simp only [List.map_toArray, List.map_cons, List.map_nil]); first | done | rfl | (simp only [List.length_drop, List.length_take]; rfl)) ?_
            with_reducible refine (laws_eqSlab.calls kj12 _ _ t290 _ _ t301 true _ ?side1 ?side2 ?side3 ?side4 A52.out).mono ?_
            (case side1 => repeat (first | exact (Kd.R_reads' HO_294000.out).2.2 | (with_reducible refine Kd.C_alloc ?_ _) | (with_reducible refine Kd.C_drewN ?_ _) | (with_reducible refine Kd.C_drew ?_)))
            (case side2 => exact (Kd.R_reads' HO_294000.out).2.1)
            (case side3 => repeat (first | exact (Kd.R_reads' HO303.out).2.2 | (with_reducible refine Kd.C_alloc ?_ _) | (with_reducible refine Kd.C_drewN ?_ _) | (with_reducible refine Kd.C_drew ?_)))
            (case side4 => exact (Kd.R_reads' HO303.out).2.1)
            rintro e w59 ⟨rfl, hb⟩
            refine ⟨_, rfl, ?_⟩
            have n0_ := Aside0.mk (Kd.R_below (by (with_reducible repeat (first | apply Kd.R_alloc | apply Kd.R_drewN | apply Kd.R_drew)); exact HO_290000.out) hb)
            have n1_ := Aside0.mk (Kd.R_below (by (with_reducible repeat (first | apply Kd.R_alloc | apply Kd.R_drewN | apply Kd.R_drew)); exact HO_294000.out) hb)
            have n2_ := Aside0.mk (Kd.R_below (by (with_reducible repeat (first | apply Kd.R_alloc | apply Kd.R_drewN | apply Kd.R_drew)); exact HO_300000.out) hb)
            have n3_ := Aside0.mk (Kd.R_below (by (with_reducible repeat (first | apply Kd.R_alloc | apply Kd.R_drewN | apply Kd.R_drew)); exact HO303.out) hb)
            have n4_ := Aside0.mk (blk_below (g := gb279) (o := .cells #[.slice A0_0 l0_0.length c0_0] 24 (0, 0)) (by (with_reducible repeat (first | refine blk_drewN ?_ _ | refine blk_drew ?_ | refine blk_alloc ?_ _)); exact BK279.out) hb)
            have n5_ := Aside0.mk (blk_below (g := gb289) (o := .cells #[.slice Ao22 t284.length co22] 27 (0, 0)) (by (with_reducible repeat (first | refine blk_drewN ?_ _ | refine blk_drew ?_ | refine blk_alloc ?_ _)); exact BK289.out) hb)
            have n6_ := Aside0.mk (blk_below (g := gb293) (o := .cells #[.slice Ao28 t290.length co28] 27 (0, 0)) (by (with_reducible repeat (first | refine blk_drewN ?_ _ | refine blk_drew ?_ | refine blk_alloc ?_ _)); exact BK293.out) hb)
            have n7_ := Aside0.mk (blk_below (g := gb299) (o := .cells #[.slice Ao34 t294.length co34] 27 (0, 0)) (by (with_reducible repeat (first | refine blk_drewN ?_ _ | refine blk_drew ?_ | refine blk_alloc ?_ _)); exact BK299.out) hb)
            have n8_ := Aside0.mk (below_step (by repeat (first | (with_reducible first | exact HB.out | apply below_alloc | apply pw_below_drewN | apply below_drew1 | refine below_set ?_ GE279.out | refine below_set ?_ GE289.out | refine below_set ?_ GE293.out | refine below_set ?_ GE299.out) | exact HB.out)) hb)
            clear HO_290000
            clear HO_294000
            clear HO_300000
            clear HO303
            clear BK279
            clear BK289
            clear BK293
            clear BK299
            clear HB
            have HO_290000 := n0_
            have HO_294000 := n1_
            have HO_300000 := n2_
            have HO303 := n3_
            have BK279 := n4_
            have BK289 := n5_
            have BK293 := n6_
            have BK299 := n7_
            have HB := n8_
            clear n0_ n1_ n2_ n3_ n4_ n5_ n6_ n7_ n8_
            (try clear hb)
            (try clear hb2)
            (try clear hk)
            (try clear hi)
            refine hK.out _ _ ⟨(blk_cell BK293.out 0).trans rfl, (blk_cell BK279.out 0).trans rfl⟩ (fun hHeld => ?_)
            clear hK K
            refine norm_ (a' := ?_) ?_ ?_
            rotate_left
            · show Act.put _ (some 62) _ = _
              simp only [Act.put, List.setIfInBounds_toArray, List.set_cons_zero, List.set_cons_succ, i64_w, i32_w]
              rfl
            refine pure_ (i := 4) (N := some 63) (v := ?_) (a' := ?_) #[true, true, true, true, true] rfl rfl (by kernel_rfl) (fun _ _ _ h => h) (Or.inl ⟨by rfl, ?_⟩) ?_ ?_
            rotate_left
            · intro w'
              go_simp
              with_reducible rfl
            rotate_left
            · simp only [Act.put, List.setIfInBounds_toArray, List.set_cons_zero, List.set_cons_succ, i64_w, i32_w]
              rfl
            refine done_ (by kernel_rfl) ?_
            have hnb60 := NB293_279.out
            have hnc60 := NB279_293.out
            have hnb61 := NB293_289.out
            have hnc61 := NB289_293.out
            have hnb62 := NB293_299.out
            have hnc62 := NB299_293.out
            have hcz63_0 : w59.cell? ⟨gb293, 0, none⟩ = some (.slice Ao28 t290.length co28) := (blk_cell BK293.out 0).trans rfl
            have hfz63_0 := blk_frozen BK293.out 0
            go_upto_region 14 with (first | ((with_reducible refine gate_callee (f := 24) rfl ?_); refine goesL_ (some 66) rfl rfl Try.func24 (by kernel_rfl) rfl #[.agg #[.slice Ao28 t290.length co28], .int .i64 1] rfl (by (try simp only [List.map_toArray, List.map_cons, List.map_nil]); first | done | rfl | (simp only [List.length_drop, List.length_take]; rfl)) ?_; (with_reducible refine (laws_markSlab.calls kj12 (fun k_ => some k_ = (.slice Ao28 t290.length co28 : Value).ownBlock) (.slice Ao28 t290.length co28) t290 1 t305 t306 w _ ?side1 ?side2 A54.out).mono ?_); (case side1 => repeat (first | (with_reducible first | exact HB.out | apply below_alloc | apply pw_below_drewN | apply below_drew1 | refine below_set ?_ GE279.out | refine below_set ?_ GE289.out | refine below_set ?_ GE293.out | refine below_set ?_ GE299.out) | exact HB.out)); (case side2 => exact Kd.R_tight rfl HO_294000.out); rintro e w64 ⟨rfl, hy0, hb, hkp⟩; refine ⟨_, rfl, ?_⟩; have n0_ := Aside0.mk (Kd.R_mono (ok' := fun k_ => some k_ ≠ (.slice Ao28 t290.length co28 : Value).ownBlock ∧ some k_ ≠ (.slice Ao34 t294.length co34 : Value).ownBlock ∧ some k_ ≠ (.slice Ao58 t301.length co58 : Value).ownBlock) (Kd.R_keptB (HO_290000.out) hkp (fun k_ hk_ hs_ => by first | exact (hk_.1.1) hs_ | (simp_all; done) | grind)) (fun k_ hk_ => by first | exact ⟨hk_.1.1.1, hk_.1.1.2, hk_.1.2⟩ | (simp_all; done) | grind)); have n1_ := Aside0.mk (Kd.R_reok rfl hy0 (fun k_ e_ => HO_294000.out.1 k_ e_)); have n2_ := Aside0.mk (Kd.R_mono (ok' := fun k_ => some k_ ≠ (.slice Ao22 t284.length co22 : Value).ownBlock ∧ some k_ ≠ (.slice Ao28 t290.length co28 : Value).ownBlock ∧ some k_ ≠ (.slice Ao58 t301.length co58 : Value).ownBlock) (Kd.R_keptB (HO_300000.out) hkp (fun k_ hk_ hs_ => by first | exact (hk_.1.2) hs_ | (simp_all; done) | grind)) (fun k_ hk_ => by first | exact ⟨hk_.1.1.1, hk_.1.1.2, hk_.1.2⟩ | (simp_all; done) | grind)); have n3_ := Aside0.mk (blk_kept (by (with_reducible repeat (first | refine blk_drewN ?_ _ | refine blk_drew ?_ | refine blk_alloc ?_ _)); exact BK279.out) hkp (fun hs_ => (fun e_ => (Kd.R_ne HO_294000.out BK279.out (by decide)) e_) hs_)); have n4_ := Aside0.mk (blk_kept (by (with_reducible repeat (first | refine blk_drewN ?_ _ | refine blk_drew ?_ | refine blk_alloc ?_ _)); exact BK289.out) hkp (fun hs_ => (fun e_ => (Kd.R_ne HO_294000.out BK289.out (by decide)) e_) hs_)); have n5_ := Aside0.mk (blk_kept (by (with_reducible repeat (first | refine blk_drewN ?_ _ | refine blk_drew ?_ | refine blk_alloc ?_ _)); exact BK293.out) hkp (fun hs_ => (fun e_ => (Kd.R_ne HO_294000.out BK293.out (by decide)) e_) hs_)); have n6_ := Aside0.mk (blk_kept (by (with_reducible repeat (first | refine blk_drewN ?_ _ | refine blk_drew ?_ | refine blk_alloc ?_ _)); exact BK299.out) hkp (fun hs_ => (fun e_ => (Kd.R_ne HO_294000.out BK299.out (by decide)) e_) hs_)); have n7_ := Aside0.mk (Kd.R_mono (ok' := fun k_ => some k_ ≠ (.slice Ao22 t284.length co22 : Value).ownBlock ∧ some k_ ≠ (.slice Ao28 t290.length co28 : Value).ownBlock ∧ some k_ ≠ (.slice Ao34 t294.length co34 : Value).ownBlock) (Kd.R_keptB (HO303.out) hkp (fun k_ hk_ hs_ => by first | exact (hk_.1.2) hs_ | (simp_all; done) | grind)) (fun k_ hk_ => by first | exact ⟨hk_.1.1.1.2, hk_.1.1.2, hk_.1.2⟩ | (simp_all; done) | grind)); have n8_ := Aside0.mk (hb); clear HO_290000; clear HO_294000; clear HO_300000; clear BK279; clear BK289; clear BK293; clear BK299; clear HO303; clear HB; have HO_290000 := n0_; have HO_294000 := n1_; have HO_300000 := n2_; have BK279 := n3_; have BK289 := n4_; have BK293 := n5_; have BK299 := n6_; have HO303 := n7_; have HB := n8_; clear n0_ n1_ n2_ n3_ n4_ n5_ n6_ n7_ n8_; (try clear hb); (try clear hkp); (try clear hy0)))
            (try simp only [Act.put, List.setIfInBounds_toArray, List.set_cons_zero, List.set_cons_succ])
            go_cut [84] (fun v84 wc => ∃ (kq : Nat) (x84_54 : Bool), v84 = .bool x84_54 ∧ Aside0 (laws_FnExactTake.j1 kq a1 a2 t287 t288 x84_54 l0_0 t284 t294 = some r) ∧ Aside0 (kq ≤ kj12) ∧ Aside0 (Kd.R (Kd.int .i64) 3 wc w.heap.size (fun k_ => some k_ ≠ ((.slice Ao28 t290.length co28) : Value).ownBlock ∧ some k_ ≠ ((.slice Ao34 t294.length co34) : Value).ownBlock) (.slice Ao22 t284.length co22) t284) ∧ Aside0 (Kd.R (Kd.int .i64) 3 wc w.heap.size (fun k_ => some k_ ≠ ((.slice Ao22 t284.length co22) : Value).ownBlock ∧ some k_ ≠ ((.slice Ao34 t294.length co34) : Value).ownBlock) (.slice Ao28 t290.length co28) t306) ∧ Aside0 (Kd.R (Kd.int .i64) 3 wc w.heap.size (fun k_ => some k_ ≠ ((.slice Ao22 t284.length co22) : Value).ownBlock ∧ some k_ ≠ ((.slice Ao28 t290.length co28) : Value).ownBlock) (.slice Ao34 t294.length co34) t294) ∧ Aside0 (wc.heap[gb279]? = some (.cells #[(.slice A0_0 l0_0.length c0_0)] 24 (0, 0))) ∧ Aside0 (wc.heap[gb289]? = some (.cells #[(.slice Ao22 t284.length co22)] 27 (0, 0))) ∧ Aside0 (wc.heap[gb293]? = some (.cells #[(.slice Ao28 t290.length co28)] 27 (0, 0))) ∧ Aside0 (wc.heap[gb299]? = some (.cells #[(.slice Ao34 t294.length co34)] 27 (0, 0))) ∧ Aside0 (Below w.heap.size w wc))
            case first =>
              have H := HC55.out
              clear HC55
              by_cases c65 : t305 < 0
              · rw [if_pos c65] at H
                have c65b0 : decide (t305 < 0) = true := decide_eq_true c65
                clear c65
                (first | rw [c65b0] | (simp only [i64_w, i32_w]; rw [c65b0]) | skip)
                exfalso
                revert H
                cases kj12 with
                | zero => intro H; simp [laws_FnExactTake.j1] at H
                | succ k9 => intro H; simp only [laws_FnExactTake.j1] at H; (first | rw [if_pos rfl] at H | rw [if_pos trivial] at H); exact absurd (H.trans (congrArg some hrt.out)) (by simp)
              · rw [if_neg c65] at H
                have c65b0 : decide (t305 < 0) = false := decide_eq_false c65
                clear c65
                (first | rw [c65b0] | (simp only [i64_w, i32_w]; rw [c65b0]) | skip)
                replace H := Option.bind_eq_some_iff.mp H
                obtain ⟨t307, A660, H⟩ := H
                replace H : (if t307 = true then (if t297 = t287 then (laws_FnExactTake.j1 kj12 a1 a2 t287 t288 (t298 != t288) l0_0 t284 t294) else (laws_FnExactTake.j1 kj12 a1 a2 t287 t288 true l0_0 t284 t294)) else (laws_FnExactTake.j1 kj12 a1 a2 t287 t288 true l0_0 t284 t294)) = some r := H
                have A66 := Aside0.mk A660
                clear A660
                by_cases c67 : t307 = true
                · subst c67
                  have H1 : (if t297 = t287 then (laws_FnExactTake.j1 kj12 a1 a2 t287 t288 (t298 != t288) l0_0 t284 t294) else (laws_FnExactTake.j1 kj12 a1 a2 t287 t288 true l0_0 t284 t294)) = some r := by rw [if_pos rfl] at H; exact H
                  clear H
                  have H := H1
                  clear H1
                  by_cases c68 : t297 = t287
                  · rw [if_pos c68] at H
                    have c68b0 : (t297 == t287) = true := beq_iff_eq.mpr c68
                    have c68b1 : (t297 != t287) = false := bne_eq_false_iff_eq.mpr c68
                    clear c68
                    have H' := Aside0.mk H
                    clear H
                    have hnb69 := NB299_279.out
                    have hnc69 := NB279_299.out
                    have hnb70 := NB299_289.out
                    have hnc70 := NB289_299.out
                    have hnb71 := NB299_293.out
                    have hnc71 := NB293_299.out
                    have hcz72_0 : w64.cell? ⟨gb299, 0, none⟩ = some (.slice Ao34 t294.length co34) := (blk_cell BK299.out 0).trans rfl
                    have hfz72_0 := blk_frozen BK299.out 0
                    have hnb73 := NB289_279.out
                    have hnc73 := NB279_289.out
                    have hnb74 := NB289_293.out
                    have hnc74 := NB293_289.out
                    have hcz75_0 : w64.cell? ⟨gb289, 0, none⟩ = some (.slice Ao22 t284.length co22) := (blk_cell BK289.out 0).trans rfl
                    have hfz75_0 := blk_frozen BK289.out 0
                    go_wp2_with (first | (go_at_call 19; (with_reducible refine (laws_eqSlab.calls kj12 _ _ t294 _ _ t284 true _ ?side1 ?side2 ?side3 ?side4 A66.out).mono ?_); (case side1 => repeat (first | exact (Kd.R_reads' HO_300000.out).2.2 | (with_reducible refine Kd.C_alloc ?_ _) | (with_reducible refine Kd.C_drewN ?_ _) | (with_reducible refine Kd.C_drew ?_))); (case side2 => exact (Kd.R_reads' HO_300000.out).2.1); (case side3 => repeat (first | exact (Kd.R_reads' HO_290000.out).2.2 | (with_reducible refine Kd.C_alloc ?_ _) | (with_reducible refine Kd.C_drewN ?_ _) | (with_reducible refine Kd.C_drew ?_))); (case side4 => exact (Kd.R_reads' HO_290000.out).2.1); rintro e w76 ⟨rfl, hb⟩; have n0_ := Aside0.mk (Kd.R_below (by (with_reducible repeat (first | apply Kd.R_alloc | apply Kd.R_drewN | apply Kd.R_drew)); exact HO_290000.out) hb); have n1_ := Aside0.mk (Kd.R_below (by (with_reducible repeat (first | apply Kd.R_alloc | apply Kd.R_drewN | apply Kd.R_drew)); exact HO_294000.out) hb); have n2_ := Aside0.mk (Kd.R_below (by (with_reducible repeat (first | apply Kd.R_alloc | apply Kd.R_drewN | apply Kd.R_drew)); exact HO_300000.out) hb); have n3_ := Aside0.mk (Kd.R_below (by (with_reducible repeat (first | apply Kd.R_alloc | apply Kd.R_drewN | apply Kd.R_drew)); exact HO303.out) hb); have n4_ := Aside0.mk (blk_below (g := gb279) (o := .cells #[.slice A0_0 l0_0.length c0_0] 24 (0, 0)) (by (with_reducible repeat (first | refine blk_drewN ?_ _ | refine blk_drew ?_ | refine blk_alloc ?_ _)); exact BK279.out) hb); have n5_ := Aside0.mk (blk_below (g := gb289) (o := .cells #[.slice Ao22 t284.length co22] 27 (0, 0)) (by (with_reducible repeat (first | refine blk_drewN ?_ _ | refine blk_drew ?_ | refine blk_alloc ?_ _)); exact BK289.out) hb); have n6_ := Aside0.mk (blk_below (g := gb293) (o := .cells #[.slice Ao28 t290.length co28] 27 (0, 0)) (by (with_reducible repeat (first | refine blk_drewN ?_ _ | refine blk_drew ?_ | refine blk_alloc ?_ _)); exact BK293.out) hb); have n7_ := Aside0.mk (blk_below (g := gb299) (o := .cells #[.slice Ao34 t294.length co34] 27 (0, 0)) (by (with_reducible repeat (first | refine blk_drewN ?_ _ | refine blk_drew ?_ | refine blk_alloc ?_ _)); exact BK299.out) hb); have n8_ := Aside0.mk (below_step (by repeat (first | (with_reducible first | exact HB.out | apply below_alloc | apply pw_below_drewN | apply below_drew1 | refine below_set ?_ GE279.out | refine below_set ?_ GE289.out | refine below_set ?_ GE293.out | refine below_set ?_ GE299.out) | exact HB.out)) hb); clear HO_290000; clear HO_294000; clear HO_300000; clear HO303; clear BK279; clear BK289; clear BK293; clear BK299; clear HB; have HO_290000 := n0_; have HO_294000 := n1_; have HO_300000 := n2_; have HO303 := n3_; have BK279 := n4_; have BK289 := n5_; have BK293 := n6_; have BK299 := n7_; have HB := n8_; clear n0_ n1_ n2_ n3_ n4_ n5_ n6_ n7_ n8_; (try clear hb); (try clear hb2); (try clear hk); (try clear hi)))
                    go_meet
                    case rel => exact ⟨_, ((t298 != t288)), (by first | rfl | (simp; done) | (simp [*]; done)), H', ⟨by have := HJ12.out; first | omega | exact Nat.le_refl _⟩, ⟨by (with_reducible repeat (first | apply Kd.R_alloc | apply Kd.R_drewN | apply Kd.R_drew)); exact Kd.R_mono HO_290000.out (fun _ hk => ⟨hk.1, hk.2.1⟩)⟩, ⟨by (with_reducible repeat (first | apply Kd.R_alloc | apply Kd.R_drewN | apply Kd.R_drew)); exact Kd.R_mono HO_294000.out (fun _ hk => ⟨hk.1.1, hk.1.2⟩)⟩, ⟨by (with_reducible repeat (first | apply Kd.R_alloc | apply Kd.R_drewN | apply Kd.R_drew)); exact Kd.R_mono HO_300000.out (fun _ hk => ⟨hk.1, hk.2.1⟩)⟩, ⟨by (with_reducible repeat (first | refine blk_drewN ?_ _ | refine blk_drew ?_ | refine blk_alloc ?_ _)); exact BK279.out⟩, ⟨by (with_reducible repeat (first | refine blk_drewN ?_ _ | refine blk_drew ?_ | refine blk_alloc ?_ _)); exact BK289.out⟩, ⟨by (with_reducible repeat (first | refine blk_drewN ?_ _ | refine blk_drew ?_ | refine blk_alloc ?_ _)); exact BK293.out⟩, ⟨by (with_reducible repeat (first | refine blk_drewN ?_ _ | refine blk_drew ?_ | refine blk_alloc ?_ _)); exact BK299.out⟩, ⟨by repeat (first | (with_reducible first | exact HB.out | apply below_alloc | apply pw_below_drewN | apply below_drew1 | refine below_set ?_ GE279.out | refine below_set ?_ GE289.out | refine below_set ?_ GE293.out | refine below_set ?_ GE299.out) | exact HB.out)⟩⟩
                  · rw [if_neg c68] at H
                    have c68b0 : (t297 == t287) = false := beq_eq_false_iff_ne.mpr c68
                    have c68b1 : (t297 != t287) = true := bne_iff_ne.mpr c68
                    exfalso
                    revert H
                    cases kj12 with
                    | zero => intro H; simp [laws_FnExactTake.j1] at H
                    | succ k9 => intro H; simp only [laws_FnExactTake.j1] at H; (first | rw [if_pos rfl] at H | rw [if_pos trivial] at H); exact absurd (H.trans (congrArg some hrt.out)) (by simp)
                · replace c67 := Bool.eq_false_iff.mpr c67
                  subst c67
                  have H1 : (laws_FnExactTake.j1 kj12 a1 a2 t287 t288 true l0_0 t284 t294) = some r := by rw [if_neg (show ¬ (false = true) by decide)] at H; exact H
                  clear H
                  have H := H1
                  clear H1
                  exfalso
                  revert H
                  cases kj12 with
                  | zero => intro H; simp [laws_FnExactTake.j1] at H
                  | succ k9 => intro H; simp only [laws_FnExactTake.j1] at H; (first | rw [if_pos rfl] at H | rw [if_pos trivial] at H); exact absurd (H.trans (congrArg some hrt.out)) (by simp)
            case rest =>
              clear HC55
              try clear c1
              try clear c2
              try clear p2
              try clear c3
              try clear c4
              try clear c5
              try clear c5b0
              try clear c6
              try clear c7
              try clear c15
              try clear c17
              try clear c19
              try clear c22
              try clear c23
              try clear c24
              try clear c29
              try clear c30
              try clear c35
              try clear c36
              try clear c37
              try clear c40
              try clear c41
              try clear c41b0
              try clear c41b1
              try clear c42
              try clear c43
              try clear c44
              try clear c46
              try clear c47
              try clear c50
              try clear c53
              try clear c60
              try clear c61
              try clear c62
              try clear c65
              try clear c65b0
              try clear c67
              try clear c68
              try clear c68b0
              try clear c68b1
              try clear c69
              try clear c70
              try clear c71
              try clear c73
              try clear c74
              try clear hcz15_0
              try clear hcz17_0
              try clear hcz24_0
              try clear hcz25_0
              try clear hcz31_0
              try clear hcz38_0
              try clear hcz45_0
              try clear hcz48_0
              try clear hcz63_0
              try clear hcz72_0
              try clear hcz75_0
              try clear hcz7_0
              try clear hfz15_0
              try clear hfz17_0
              try clear hfz24_0
              try clear hfz25_0
              try clear hfz31_0
              try clear hfz38_0
              try clear hfz45_0
              try clear hfz48_0
              try clear hfz63_0
              try clear hfz72_0
              try clear hfz75_0
              try clear hfz7_0
              try clear p2
              obtain ⟨kq, x84_54, rfl, HA, HJ54, HO_290000, HO_294000, HO_300000, BK279, BK289, BK293, BK299, HB⟩ := hcut
              have hl294000_54 := (Kd.R_reads' HO_294000.out).1
              rw [hl294000_54] at HO_294000
              (try simp only [hl294000_54])
              (try simp only [hl294000_54] at BK279)
              (try simp only [hl294000_54] at BK289)
              (try simp only [hl294000_54] at BK293)
              (try simp only [hl294000_54] at BK299)
              (try simp only [hl294000_54] at HO_290000)
              (try simp only [hl294000_54] at HO_300000)
              cases kq with
              | zero => exact absurd HA.out (by simp [laws_FnExactTake.j1])
              | succ kj54 =>
                have H := HA.out
                clear HA
                simp only [laws_FnExactTake.j1] at H
                by_cases c77 : x84_54 = true
                · subst c77
                  have H1 : (some false) = some r := by rw [if_pos rfl] at H; exact H
                  clear H
                  have H := H1
                  clear H1
                  exact absurd (H.trans (congrArg some hrt.out)) (by simp)
                · replace c77 := Bool.eq_false_iff.mpr c77
                  subst c77
                  have H1 : ((laws_markSlab.f kj54 t294 1).bind fun bt308 => ((laws_heldSlab.f kj54 bt308.2 1).bind fun t310 => (if t310 < 0 then (some false) else (if t310 = bt308.1 then ((laws_toSlab.f kj54 l0_0).bind fun t311 => ((impl_Take.f kj54 t311 a1 a2).bind fun bt314 => ((laws_eqSlab.f kj54 bt314.1 t284).bind fun t320 => (if t320 = true then (if bt314.2.1 = t287 then (laws_FnExactTake.j2 kj54 bt308.1 (bt314.2.2 != t288) bt308.2) else (laws_FnExactTake.j2 kj54 bt308.1 true bt308.2)) else (laws_FnExactTake.j2 kj54 bt308.1 true bt308.2))))) else (some false))))) = some r := by rw [if_neg (show ¬ (false = true) by decide)] at H; exact H
                  clear H
                  have H := H1
                  clear H1
                  replace H := Option.bind_eq_some_iff.mp H
                  obtain ⟨⟨t308, t309⟩, A780, H⟩ := H
                  replace H : ((laws_heldSlab.f kj54 t309 1).bind fun t310 => (if t310 < 0 then (some false) else (if t310 = t308 then ((laws_toSlab.f kj54 l0_0).bind fun t311 => ((impl_Take.f kj54 t311 a1 a2).bind fun bt314 => ((laws_eqSlab.f kj54 bt314.1 t284).bind fun t320 => (if t320 = true then (if bt314.2.1 = t287 then (laws_FnExactTake.j2 kj54 t308 (bt314.2.2 != t288) t309) else (laws_FnExactTake.j2 kj54 t308 true t309)) else (laws_FnExactTake.j2 kj54 t308 true t309))))) else (some false)))) = some r := H
                  have A78 := Aside0.mk A780
                  clear A780
                  replace H := Option.bind_eq_some_iff.mp H
                  obtain ⟨t310, A790, H⟩ := H
                  replace H : (if t310 < 0 then (some false) else (if t310 = t308 then ((laws_toSlab.f kj54 l0_0).bind fun t311 => ((impl_Take.f kj54 t311 a1 a2).bind fun bt314 => ((laws_eqSlab.f kj54 bt314.1 t284).bind fun t320 => (if t320 = true then (if bt314.2.1 = t287 then (laws_FnExactTake.j2 kj54 t308 (bt314.2.2 != t288) t309) else (laws_FnExactTake.j2 kj54 t308 true t309)) else (laws_FnExactTake.j2 kj54 t308 true t309))))) else (some false))) = some r := H
                  have A79 := Aside0.mk A790
                  clear A790
                  by_cases c80 : t310 < 0
                  · rw [if_pos c80] at H
                    have c80b0 : decide (t310 < 0) = true := decide_eq_true c80
                    clear c80
                    exact absurd (H.trans (congrArg some hrt.out)) (by simp)
                  · rw [if_neg c80] at H
                    have c80b0 : decide (t310 < 0) = false := decide_eq_false c80
                    clear c80
                    by_cases c81 : t310 = t308
                    · rw [if_pos c81] at H
                      have c81b0 : (t310 == t308) = true := beq_iff_eq.mpr c81
                      have c81b1 : (t310 != t308) = false := bne_eq_false_iff_eq.mpr c81
                      clear c81
                      replace H := Option.bind_eq_some_iff.mp H
                      obtain ⟨t311, A820, H⟩ := H
                      replace H : ((impl_Take.f kj54 t311 a1 a2).bind fun bt314 => ((laws_eqSlab.f kj54 bt314.1 t284).bind fun t320 => (if t320 = true then (if bt314.2.1 = t287 then (laws_FnExactTake.j2 kj54 t308 (bt314.2.2 != t288) t309) else (laws_FnExactTake.j2 kj54 t308 true t309)) else (laws_FnExactTake.j2 kj54 t308 true t309)))) = some r := H
                      have A82 := Aside0.mk A820
                      clear A820
                      replace H := Option.bind_eq_some_iff.mp H
                      obtain ⟨⟨t314, t317, t318⟩, A830, H⟩ := H
                      replace H : ((laws_eqSlab.f kj54 t314 t284).bind fun t320 => (if t320 = true then (if t317 = t287 then (laws_FnExactTake.j2 kj54 t308 (t318 != t288) t309) else (laws_FnExactTake.j2 kj54 t308 true t309)) else (laws_FnExactTake.j2 kj54 t308 true t309))) = some r := H
                      have A83 := Aside0.mk A830
                      clear A830
                      have HC84 := Aside0.mk H
                      clear H
                      have hnb85 := NB299_279.out
                      have hnc85 := NB279_299.out
                      have hnb86 := NB299_289.out
                      have hnc86 := NB289_299.out
                      have hnb87 := NB299_293.out
                      have hnc87 := NB293_299.out
                      have hcz88_0 : wc.cell? ⟨gb299, 0, none⟩ = some (.slice Ao34 t294.length co34) := (blk_cell BK299.out 0).trans rfl
                      have hfz88_0 := blk_frozen BK299.out 0
                      go_upto_region 25 with (first | ((with_reducible refine gate_callee (f := 24) rfl ?_); refine goesL_ (some 87) rfl rfl Try.func24 (by kernel_rfl) rfl #[.agg #[.slice Ao34 t294.length co34], .int .i64 1] rfl (by (try simp only [List.map_toArray, List.map_cons, List.map_nil]); first | done | rfl | (simp only [List.length_drop, List.length_take]; rfl)) ?_; (with_reducible refine (laws_markSlab.calls kj54 (fun k_ => some k_ = (.slice Ao34 t294.length co34 : Value).ownBlock) (.slice Ao34 t294.length co34) t294 1 t308 t309 w _ ?side1 ?side2 A78.out).mono ?_); (case side1 => repeat (first | (with_reducible first | exact HB.out | apply below_alloc | apply pw_below_drewN | apply below_drew1 | refine below_set ?_ GE279.out | refine below_set ?_ GE289.out | refine below_set ?_ GE293.out | refine below_set ?_ GE299.out) | exact HB.out)); (case side2 => exact Kd.R_tight rfl HO_300000.out); rintro e w89 ⟨rfl, hy0, hb, hkp⟩; refine ⟨_, rfl, ?_⟩; have n0_ := Aside0.mk (Kd.R_mono (ok' := fun k_ => some k_ ≠ (.slice Ao28 t306.length co28 : Value).ownBlock ∧ some k_ ≠ (.slice Ao34 t294.length co34 : Value).ownBlock) (Kd.R_keptB (HO_290000.out) hkp (fun k_ hk_ hs_ => by first | exact (hk_.2) hs_ | (simp_all; done) | grind)) (fun k_ hk_ => by first | exact ⟨hk_.1.1, hk_.1.2⟩ | (simp_all; done) | grind)); have n1_ := Aside0.mk (Kd.R_mono (ok' := fun k_ => some k_ ≠ (.slice Ao22 t284.length co22 : Value).ownBlock ∧ some k_ ≠ (.slice Ao34 t294.length co34 : Value).ownBlock) (Kd.R_keptB (HO_294000.out) hkp (fun k_ hk_ hs_ => by first | exact (hk_.2) hs_ | (simp_all; done) | grind)) (fun k_ hk_ => by first | exact ⟨hk_.1.1, hk_.1.2⟩ | (simp_all; done) | grind)); have n2_ := Aside0.mk (Kd.R_reok rfl hy0 (fun k_ e_ => HO_300000.out.1 k_ e_)); have n3_ := Aside0.mk (blk_kept (by (with_reducible repeat (first | refine blk_drewN ?_ _ | refine blk_drew ?_ | refine blk_alloc ?_ _)); exact BK279.out) hkp (fun hs_ => (fun e_ => (Kd.R_ne HO_300000.out BK279.out (by decide)) e_) hs_)); have n4_ := Aside0.mk (blk_kept (by (with_reducible repeat (first | refine blk_drewN ?_ _ | refine blk_drew ?_ | refine blk_alloc ?_ _)); exact BK289.out) hkp (fun hs_ => (fun e_ => (Kd.R_ne HO_300000.out BK289.out (by decide)) e_) hs_)); have n5_ := Aside0.mk (blk_kept (by (with_reducible repeat (first | refine blk_drewN ?_ _ | refine blk_drew ?_ | refine blk_alloc ?_ _)); exact BK293.out) hkp (fun hs_ => (fun e_ => (Kd.R_ne HO_300000.out BK293.out (by decide)) e_) hs_)); have n6_ := Aside0.mk (blk_kept (by (with_reducible repeat (first | refine blk_drewN ?_ _ | refine blk_drew ?_ | refine blk_alloc ?_ _)); exact BK299.out) hkp (fun hs_ => (fun e_ => (Kd.R_ne HO_300000.out BK299.out (by decide)) e_) hs_)); have n7_ := Aside0.mk (hb); clear HO_290000; clear HO_294000; clear HO_300000; clear BK279; clear BK289; clear BK293; clear BK299; clear HB; have HO_290000 := n0_; have HO_294000 := n1_; have HO_300000 := n2_; have BK279 := n3_; have BK289 := n4_; have BK293 := n5_; have BK299 := n6_; have HB := n7_; clear n0_ n1_ n2_ n3_ n4_ n5_ n6_ n7_; (try clear hb); (try clear hkp); (try clear hy0); have hcz90_0 : w89.cell? ⟨gb299, 0, none⟩ = some (.slice Ao34 t294.length co34) := (blk_cell BK299.out 0).trans rfl; have hfz90_0 := blk_frozen BK299.out 0) | ((with_reducible refine gate_callee (f := 25) rfl ?_); refine goesL_ (some 90) rfl rfl Try.func25 (by kernel_rfl) rfl #[.agg #[.slice Ao34 t309.length co34], .int .i64 1] rfl (by (try simp only [List.map_toArray, List.map_cons, List.map_nil]); first | done | (rw [show t309.length = t294.length from (Kd.R_reads' HO_300000.out).1.symm] <;> rfl) | rfl | (simp only [List.length_drop, List.length_take]; rfl)) ?_; (with_reducible refine (laws_heldSlab.calls kj54 _ _ t309 1 t310 _ ?side1 ?side2 A79.out).mono ?_); (case side1 => repeat (first | exact (Kd.R_reads' HO_300000.out).2.2 | (with_reducible refine Kd.C_alloc ?_ _) | (with_reducible refine Kd.C_drewN ?_ _) | (with_reducible refine Kd.C_drew ?_))); (case side2 => rw [show t309.length = t294.length from (Kd.R_reads' HO_300000.out).1.symm]; exact (Kd.R_reads' HO_300000.out).2.1); rintro e w91 ⟨rfl, hb⟩; refine ⟨_, rfl, ?_⟩; have n0_ := Aside0.mk (Kd.R_below (by (with_reducible repeat (first | apply Kd.R_alloc | apply Kd.R_drewN | apply Kd.R_drew)); exact HO_290000.out) hb); have n1_ := Aside0.mk (Kd.R_below (by (with_reducible repeat (first | apply Kd.R_alloc | apply Kd.R_drewN | apply Kd.R_drew)); exact HO_294000.out) hb); have n2_ := Aside0.mk (Kd.R_below (by (with_reducible repeat (first | apply Kd.R_alloc | apply Kd.R_drewN | apply Kd.R_drew)); exact HO_300000.out) hb); have n3_ := Aside0.mk (blk_below (g := gb279) (o := .cells #[.slice A0_0 l0_0.length c0_0] 24 (0, 0)) (by (with_reducible repeat (first | refine blk_drewN ?_ _ | refine blk_drew ?_ | refine blk_alloc ?_ _)); exact BK279.out) hb); have n4_ := Aside0.mk (blk_below (g := gb289) (o := .cells #[.slice Ao22 t284.length co22] 27 (0, 0)) (by (with_reducible repeat (first | refine blk_drewN ?_ _ | refine blk_drew ?_ | refine blk_alloc ?_ _)); exact BK289.out) hb); have n5_ := Aside0.mk (blk_below (g := gb293) (o := .cells #[.slice Ao28 t306.length co28] 27 (0, 0)) (by (with_reducible repeat (first | refine blk_drewN ?_ _ | refine blk_drew ?_ | refine blk_alloc ?_ _)); exact BK293.out) hb); have n6_ := Aside0.mk (blk_below (g := gb299) (o := .cells #[.slice Ao34 t294.length co34] 27 (0, 0)) (by (with_reducible repeat (first | refine blk_drewN ?_ _ | refine blk_drew ?_ | refine blk_alloc ?_ _)); exact BK299.out) hb); have n7_ := Aside0.mk (below_step (by repeat (first | (with_reducible first | exact HB.out | apply below_alloc | apply pw_below_drewN | apply below_drew1 | refine below_set ?_ GE279.out | refine below_set ?_ GE289.out | refine below_set ?_ GE293.out | refine below_set ?_ GE299.out) | exact HB.out)) hb); clear HO_290000; clear HO_294000; clear HO_300000; clear BK279; clear BK289; clear BK293; clear BK299; clear HB; have HO_290000 := n0_; have HO_294000 := n1_; have HO_300000 := n2_; have BK279 := n3_; have BK289 := n4_; have BK293 := n5_; have BK299 := n6_; have HB := n7_; clear n0_ n1_ n2_ n3_ n4_ n5_ n6_ n7_; (try clear hb); (try clear hb2); (try clear hk); (try clear hi); have hnb92 := NB279_289.out; have hnc92 := NB289_279.out; have hnb93 := NB279_293.out; have hnc93 := NB293_279.out; have hcz94_0 : w91.cell? ⟨gb279, 0, none⟩ = some (.slice A0_0 l0_0.length c0_0) := (blk_cell BK279.out 0).trans rfl; have hfz94_0 := blk_frozen BK279.out 0) | ((with_reducible refine gate_callee (f := 17) rfl ?_); refine goesL_ (some 98) rfl rfl Try.func17 (by kernel_rfl) rfl #[.agg #[.slice A0_0 l0_0.length c0_0]] rfl (by (try simp only [List.map_toArray, List.map_cons, List.map_nil]); first | done | rfl | (simp only [List.length_drop, List.length_take]; rfl)) ?_; (with_reducible refine (laws_toSlab.calls kj54 _ _ l0_0 t311 _ ?side1 ?side2 A82.out).mono ?_); (case side1 => repeat (first | exact (Kd.C_below HR0_0.out HB.out) | (with_reducible refine Kd.C_alloc ?_ _) | (with_reducible refine Kd.C_drewN ?_ _) | (with_reducible refine Kd.C_drew ?_))); (case side2 => exact HC0_0.out); rintro e w95 ⟨v312, rfl, ho0, hb⟩; refine ⟨_, rfl, ?_⟩; have n0_ := Aside0.mk (Kd.R_elder' (by (with_reducible repeat (first | apply Kd.R_alloc | apply Kd.R_drewN | apply Kd.R_drew)); exact HO_290000.out) (Kd.R_base ho0) hb); have n1_ := Aside0.mk (Kd.R_elder' (by (with_reducible repeat (first | apply Kd.R_alloc | apply Kd.R_drewN | apply Kd.R_drew)); exact HO_294000.out) (Kd.R_base ho0) hb); have n2_ := Aside0.mk (Kd.R_elder' (by (with_reducible repeat (first | apply Kd.R_alloc | apply Kd.R_drewN | apply Kd.R_drew)); exact HO_300000.out) (Kd.R_base ho0) hb); have n3_ := Aside0.mk (Kd.R_lower (Kd.R_new' (Kd.R_new' (Kd.R_new' ho0 (Kd.R_lt (by (with_reducible repeat (first | apply Kd.R_alloc | apply Kd.R_drewN | apply Kd.R_drew)); exact HO_290000.out))) (Kd.R_lt (by (with_reducible repeat (first | apply Kd.R_alloc | apply Kd.R_drewN | apply Kd.R_drew)); exact HO_294000.out))) (Kd.R_lt (by (with_reducible repeat (first | apply Kd.R_alloc | apply Kd.R_drewN | apply Kd.R_drew)); exact HO_300000.out))) (below_size (by repeat (first | (with_reducible first | exact HB.out | apply below_alloc | apply pw_below_drewN | apply below_drew1 | refine below_set ?_ GE279.out | refine below_set ?_ GE289.out | refine below_set ?_ GE293.out | refine below_set ?_ GE299.out) | exact HB.out)))); have n4_ := Aside0.mk (blk_below (g := gb279) (o := .cells #[.slice A0_0 l0_0.length c0_0] 24 (0, 0)) (by (with_reducible repeat (first | refine blk_drewN ?_ _ | refine blk_drew ?_ | refine blk_alloc ?_ _)); exact BK279.out) hb); have n5_ := Aside0.mk (blk_below (g := gb289) (o := .cells #[.slice Ao22 t284.length co22] 27 (0, 0)) (by (with_reducible repeat (first | refine blk_drewN ?_ _ | refine blk_drew ?_ | refine blk_alloc ?_ _)); exact BK289.out) hb); have n6_ := Aside0.mk (blk_below (g := gb293) (o := .cells #[.slice Ao28 t306.length co28] 27 (0, 0)) (by (with_reducible repeat (first | refine blk_drewN ?_ _ | refine blk_drew ?_ | refine blk_alloc ?_ _)); exact BK293.out) hb); have n7_ := Aside0.mk (blk_below (g := gb299) (o := .cells #[.slice Ao34 t294.length co34] 27 (0, 0)) (by (with_reducible repeat (first | refine blk_drewN ?_ _ | refine blk_drew ?_ | refine blk_alloc ?_ _)); exact BK299.out) hb); have n8_ := Aside0.mk (below_step (by repeat (first | (with_reducible first | exact HB.out | apply below_alloc | apply pw_below_drewN | apply below_drew1 | refine below_set ?_ GE279.out | refine below_set ?_ GE289.out | refine below_set ?_ GE293.out | refine below_set ?_ GE299.out) | exact HB.out)) hb); clear HO_290000; clear HO_294000; clear HO_300000; clear BK279; clear BK289; clear BK293; clear BK299; clear HB; have HO_290000 := n0_; have HO_294000 := n1_; have HO_300000 := n2_; have HO313 := n3_; have BK279 := n4_; have BK289 := n5_; have BK293 := n6_; have BK299 := n7_; have HB := n8_; clear n0_ n1_ n2_ n3_ n4_ n5_ n6_ n7_ n8_; (try clear hb); (try clear hb2); (try clear hk); (try clear hi); (try clear ho0); obtain ⟨Ao96, co96, eo96⟩ := Kd.R_slice HO313.out; subst eo96) | ((with_reducible refine gate_callee (f := 23) rfl ?_); refine goesL_ (some 101) rfl rfl Try.func23 (by kernel_rfl) rfl #[.agg #[.slice Ao96 t311.length co96], .int .i64 a1, .int .i64 a2] rfl (by (try simp only [List.map_toArray, List.map_cons, List.map_nil]); first | done | rfl | (simp only [List.length_drop, List.length_take]; rfl)) ?_; (with_reducible refine (impl_Take.calls kj54 _ _ t311 a1 a2 t314 t317 t318 _ ?side1 ?side2 A83.out).mono ?_); (case side1 => repeat (first | exact (Kd.R_reads' HO313.out).2.2 | (with_reducible refine Kd.C_alloc ?_ _) | (with_reducible refine Kd.C_drewN ?_ _) | (with_reducible refine Kd.C_drew ?_))); (case side2 => exact (Kd.R_reads' HO313.out).2.1); rintro e w97 ⟨v315, rfl, ho0, hb⟩; refine ⟨_, rfl, ?_⟩; have n0_ := Aside0.mk (Kd.R_elder' (by (with_reducible repeat (first | apply Kd.R_alloc | apply Kd.R_drewN | apply Kd.R_drew)); exact HO_290000.out) (Kd.R_base ho0) hb); have n1_ := Aside0.mk (Kd.R_elder' (by (with_reducible repeat (first | apply Kd.R_alloc | apply Kd.R_drewN | apply Kd.R_drew)); exact HO_294000.out) (Kd.R_base ho0) hb); have n2_ := Aside0.mk (Kd.R_elder' (by (with_reducible repeat (first | apply Kd.R_alloc | apply Kd.R_drewN | apply Kd.R_drew)); exact HO_300000.out) (Kd.R_base ho0) hb); have n3_ := Aside0.mk (Kd.R_elder' (by (with_reducible repeat (first | apply Kd.R_alloc | apply Kd.R_drewN | apply Kd.R_drew)); exact HO313.out) (Kd.R_base ho0) hb); have n4_ := Aside0.mk (Kd.R_lower (Kd.R_new' (Kd.R_new' (Kd.R_new' (Kd.R_new' ho0 (Kd.R_lt (by (with_reducible repeat (first | apply Kd.R_alloc | apply Kd.R_drewN | apply Kd.R_drew)); exact HO_290000.out))) (Kd.R_lt (by (with_reducible repeat (first | apply Kd.R_alloc | apply Kd.R_drewN | apply Kd.R_drew)); exact HO_294000.out))) (Kd.R_lt (by (with_reducible repeat (first | apply Kd.R_alloc | apply Kd.R_drewN | apply Kd.R_drew)); exact HO_300000.out))) (Kd.R_lt (by (with_reducible repeat (first | apply Kd.R_alloc | apply Kd.R_drewN | apply Kd.R_drew)); exact HO313.out))) (below_size (by repeat (first | (with_reducible first | exact HB.out | apply below_alloc | apply pw_below_drewN | apply below_drew1 | refine below_set ?_ GE279.out | refine below_set ?_ GE289.out | refine below_set ?_ GE293.out | refine below_set ?_ GE299.out) | exact HB.out)))); have n5_ := Aside0.mk (blk_below (g := gb279) (o := .cells #[.slice A0_0 l0_0.length c0_0] 24 (0, 0)) (by (with_reducible repeat (first | refine blk_drewN ?_ _ | refine blk_drew ?_ | refine blk_alloc ?_ _)); exact BK279.out) hb); have n6_ := Aside0.mk (blk_below (g := gb289) (o := .cells #[.slice Ao22 t284.length co22] 27 (0, 0)) (by (with_reducible repeat (first | refine blk_drewN ?_ _ | refine blk_drew ?_ | refine blk_alloc ?_ _)); exact BK289.out) hb); have n7_ := Aside0.mk (blk_below (g := gb293) (o := .cells #[.slice Ao28 t306.length co28] 27 (0, 0)) (by (with_reducible repeat (first | refine blk_drewN ?_ _ | refine blk_drew ?_ | refine blk_alloc ?_ _)); exact BK293.out) hb); have n8_ := Aside0.mk (blk_below (g := gb299) (o := .cells #[.slice Ao34 t294.length co34] 27 (0, 0)) (by (with_reducible repeat (first | refine blk_drewN ?_ _ | refine blk_drew ?_ | refine blk_alloc ?_ _)); exact BK299.out) hb); have n9_ := Aside0.mk (below_step (by repeat (first | (with_reducible first | exact HB.out | apply below_alloc | apply pw_below_drewN | apply below_drew1 | refine below_set ?_ GE279.out | refine below_set ?_ GE289.out | refine below_set ?_ GE293.out | refine below_set ?_ GE299.out) | exact HB.out)) hb); clear HO_290000; clear HO_294000; clear HO_300000; clear HO313; clear BK279; clear BK289; clear BK293; clear BK299; clear HB; have HO_290000 := n0_; have HO_294000 := n1_; have HO_300000 := n2_; have HO313 := n3_; have HO316 := n4_; have BK279 := n5_; have BK289 := n6_; have BK293 := n7_; have BK299 := n8_; have HB := n9_; clear n0_ n1_ n2_ n3_ n4_ n5_ n6_ n7_ n8_ n9_; (try clear hb); (try clear hb2); (try clear hk); (try clear hi); (try clear ho0)) | ((with_reducible refine gate_dst (N := 18) rfl ?_); refine box_event ?hg (N := 18) ?hd (cs := #[.slice none 0 0]) (t := 27) ?hr ?_; (case hd => rfl); (case hg => rfl); (case hr => first | (go_simp; done) | (go_simp; rfl)); intro gb319 hg w98 hbox hb; have n0_ := Aside0.mk (Kd.R_below (by (with_reducible repeat (first | apply Kd.R_alloc | apply Kd.R_drewN | apply Kd.R_drew)); exact HO_290000.out) hb); have n1_ := Aside0.mk (Kd.R_below (by (with_reducible repeat (first | apply Kd.R_alloc | apply Kd.R_drewN | apply Kd.R_drew)); exact HO_294000.out) hb); have n2_ := Aside0.mk (Kd.R_below (by (with_reducible repeat (first | apply Kd.R_alloc | apply Kd.R_drewN | apply Kd.R_drew)); exact HO_300000.out) hb); have n3_ := Aside0.mk (Kd.R_below (by (with_reducible repeat (first | apply Kd.R_alloc | apply Kd.R_drewN | apply Kd.R_drew)); exact HO313.out) hb); have n4_ := Aside0.mk (Kd.R_below (by (with_reducible repeat (first | apply Kd.R_alloc | apply Kd.R_drewN | apply Kd.R_drew)); exact HO316.out) hb); have n5_ := Aside0.mk (blk_below (g := gb279) (o := .cells #[.slice A0_0 l0_0.length c0_0] 24 (0, 0)) (by (with_reducible repeat (first | refine blk_drewN ?_ _ | refine blk_drew ?_ | refine blk_alloc ?_ _)); exact BK279.out) hb); have n6_ := Aside0.mk (blk_below (g := gb289) (o := .cells #[.slice Ao22 t284.length co22] 27 (0, 0)) (by (with_reducible repeat (first | refine blk_drewN ?_ _ | refine blk_drew ?_ | refine blk_alloc ?_ _)); exact BK289.out) hb); have n7_ := Aside0.mk (blk_below (g := gb293) (o := .cells #[.slice Ao28 t306.length co28] 27 (0, 0)) (by (with_reducible repeat (first | refine blk_drewN ?_ _ | refine blk_drew ?_ | refine blk_alloc ?_ _)); exact BK293.out) hb); have n8_ := Aside0.mk (blk_below (g := gb299) (o := .cells #[.slice Ao34 t294.length co34] 27 (0, 0)) (by (with_reducible repeat (first | refine blk_drewN ?_ _ | refine blk_drew ?_ | refine blk_alloc ?_ _)); exact BK299.out) hb); have n9_ := Aside0.mk (below_step (by repeat (first | (with_reducible first | exact HB.out | apply below_alloc | apply pw_below_drewN | apply below_drew1 | refine below_set ?_ GE279.out | refine below_set ?_ GE289.out | refine below_set ?_ GE293.out | refine below_set ?_ GE299.out) | exact HB.out)) hb); have n10_ := Aside0.mk (hbox); have n11_ := Aside0.mk ((by rw [hg]; exact (below_size (by repeat (first | (with_reducible first | exact HB.out | apply below_alloc | apply pw_below_drewN | apply below_drew1 | refine below_set ?_ GE279.out | refine below_set ?_ GE289.out | refine below_set ?_ GE293.out | refine below_set ?_ GE299.out) | exact HB.out))) : w.heap.size ≤ gb319)); have n12_ := Aside0.mk ((by rw [hg]; exact (below_size (by repeat (first | (with_reducible first | exact HB.out | apply below_alloc | apply pw_below_drewN | apply below_drew1 | refine below_set ?_ GE279.out | refine below_set ?_ GE289.out | refine below_set ?_ GE293.out | refine below_set ?_ GE299.out) | exact HB.out))) : w.heap.size ≤ gb319)); have n13_ := Aside0.mk ((by rw [hg]; exact Nat.ne_of_lt (blk_lt (g := gb279) (o := .cells #[.slice A0_0 l0_0.length c0_0] 24 (0, 0)) (by (with_reducible repeat (first | refine blk_drewN ?_ _ | refine blk_drew ?_ | refine blk_alloc ?_ _)); exact BK279.out)) : gb279 ≠ gb319)); have n14_ := Aside0.mk ((by rw [hg]; exact Nat.ne_of_gt (blk_lt (g := gb279) (o := .cells #[.slice A0_0 l0_0.length c0_0] 24 (0, 0)) (by (with_reducible repeat (first | refine blk_drewN ?_ _ | refine blk_drew ?_ | refine blk_alloc ?_ _)); exact BK279.out)) : gb319 ≠ gb279)); have n15_ := Aside0.mk ((by rw [hg]; exact Nat.ne_of_lt (blk_lt (g := gb289) (o := .cells #[.slice Ao22 t284.length co22] 27 (0, 0)) (by (with_reducible repeat (first | refine blk_drewN ?_ _ | refine blk_drew ?_ | refine blk_alloc ?_ _)); exact BK289.out)) : gb289 ≠ gb319)); have n16_ := Aside0.mk ((by rw [hg]; exact Nat.ne_of_gt (blk_lt (g := gb289) (o := .cells #[.slice Ao22 t284.length co22] 27 (0, 0)) (by (with_reducible repeat (first | refine blk_drewN ?_ _ | refine blk_drew ?_ | refine blk_alloc ?_ _)); exact BK289.out)) : gb319 ≠ gb289)); have n17_ := Aside0.mk ((by rw [hg]; exact Nat.ne_of_lt (blk_lt (g := gb293) (o := .cells #[.slice Ao28 t306.length co28] 27 (0, 0)) (by (with_reducible repeat (first | refine blk_drewN ?_ _ | refine blk_drew ?_ | refine blk_alloc ?_ _)); exact BK293.out)) : gb293 ≠ gb319)); have n18_ := Aside0.mk ((by rw [hg]; exact Nat.ne_of_gt (blk_lt (g := gb293) (o := .cells #[.slice Ao28 t306.length co28] 27 (0, 0)) (by (with_reducible repeat (first | refine blk_drewN ?_ _ | refine blk_drew ?_ | refine blk_alloc ?_ _)); exact BK293.out)) : gb319 ≠ gb293)); have n19_ := Aside0.mk ((by rw [hg]; exact Nat.ne_of_lt (blk_lt (g := gb299) (o := .cells #[.slice Ao34 t294.length co34] 27 (0, 0)) (by (with_reducible repeat (first | refine blk_drewN ?_ _ | refine blk_drew ?_ | refine blk_alloc ?_ _)); exact BK299.out)) : gb299 ≠ gb319)); have n20_ := Aside0.mk ((by rw [hg]; exact Nat.ne_of_gt (blk_lt (g := gb299) (o := .cells #[.slice Ao34 t294.length co34] 27 (0, 0)) (by (with_reducible repeat (first | refine blk_drewN ?_ _ | refine blk_drew ?_ | refine blk_alloc ?_ _)); exact BK299.out)) : gb319 ≠ gb299)); clear HO_290000; clear HO_294000; clear HO_300000; clear HO313; clear HO316; clear BK279; clear BK289; clear BK293; clear BK299; clear HB; have HO_290000 := n0_; have HO_294000 := n1_; have HO_300000 := n2_; have HO313 := n3_; have HO316 := n4_; have BK279 := n5_; have BK289 := n6_; have BK293 := n7_; have BK299 := n8_; have HB := n9_; have BK319 := n10_; have GW319 := n11_; have GE319 := n12_; have NB279_319 := n13_; have NB319_279 := n14_; have NB289_319 := n15_; have NB319_289 := n16_; have NB293_319 := n17_; have NB319_293 := n18_; have NB299_319 := n19_; have NB319_299 := n20_; clear n0_ n1_ n2_ n3_ n4_ n5_ n6_ n7_ n8_ n9_ n10_ n11_ n12_ n13_ n14_ n15_ n16_ n17_ n18_ n19_ n20_; clear hb hbox hg; obtain ⟨Ao99, co99, eo99⟩ := Kd.R_slice HO316.out; subst eo99; have hnb100 := NB319_279.out; have hnc100 := NB279_319.out; have hnb101 := NB319_289.out; have hnc101 := NB289_319.out; have hnb102 := NB319_293.out; have hnc102 := NB293_319.out; have hnb103 := NB319_299.out; have hnc103 := NB299_319.out; have hcz104_0 : w98.cell? ⟨gb319, 0, none⟩ = some (.slice none 0 0) := (blk_cell BK319.out 0).trans rfl; have hfz104_0 := blk_frozen BK319.out 0))
                      (try simp only [Act.put, List.setIfInBounds_toArray, List.set_cons_zero, List.set_cons_succ])
                      go_cut [118] (fun v118 wc => ∃ (kq : Nat) (x118_83 : Bool), v118 = .bool x118_83 ∧ Aside0 (laws_FnExactTake.j2 kq t308 x118_83 t309 = some r) ∧ Aside0 (kq ≤ kj54) ∧ Aside0 (Kd.R (Kd.int .i64) 3 wc w.heap.size (fun k_ => some k_ ≠ ((.slice Ao28 t306.length co28) : Value).ownBlock ∧ some k_ ≠ ((.slice Ao34 t294.length co34) : Value).ownBlock ∧ some k_ ≠ ((.slice Ao99 t314.length co99) : Value).ownBlock) (.slice Ao22 t284.length co22) t284) ∧ Aside0 (Kd.R (Kd.int .i64) 3 wc w.heap.size (fun k_ => some k_ ≠ ((.slice Ao22 t284.length co22) : Value).ownBlock ∧ some k_ ≠ ((.slice Ao34 t294.length co34) : Value).ownBlock ∧ some k_ ≠ ((.slice Ao99 t314.length co99) : Value).ownBlock) (.slice Ao28 t306.length co28) t306) ∧ Aside0 (Kd.R (Kd.int .i64) 3 wc w.heap.size (fun k_ => some k_ ≠ ((.slice Ao22 t284.length co22) : Value).ownBlock ∧ some k_ ≠ ((.slice Ao28 t306.length co28) : Value).ownBlock ∧ some k_ ≠ ((.slice Ao99 t314.length co99) : Value).ownBlock) (.slice Ao34 t294.length co34) t309) ∧ Aside0 (Kd.R (Kd.int .i64) 3 wc w.heap.size (fun k_ => some k_ ≠ ((.slice Ao22 t284.length co22) : Value).ownBlock ∧ some k_ ≠ ((.slice Ao28 t306.length co28) : Value).ownBlock ∧ some k_ ≠ ((.slice Ao34 t294.length co34) : Value).ownBlock) (.slice Ao99 t314.length co99) t314) ∧ Aside0 (wc.heap[gb279]? = some (.cells #[(.slice A0_0 l0_0.length c0_0)] 24 (0, 0))) ∧ Aside0 (wc.heap[gb289]? = some (.cells #[(.slice Ao22 t284.length co22)] 27 (0, 0))) ∧ Aside0 (wc.heap[gb293]? = some (.cells #[(.slice Ao28 t306.length co28)] 27 (0, 0))) ∧ Aside0 (wc.heap[gb299]? = some (.cells #[(.slice Ao34 t294.length co34)] 27 (0, 0))) ∧ Aside0 (wc.heap[gb319]? = some (.cells #[(.slice Ao99 t314.length co99)] 27 (0, 0))) ∧ Aside0 (Below w.heap.size w wc))
                      case first =>
                        have H := HC84.out
                        clear HC84
                        replace H := Option.bind_eq_some_iff.mp H
                        obtain ⟨t320, A1050, H⟩ := H
                        replace H : (if t320 = true then (if t317 = t287 then (laws_FnExactTake.j2 kj54 t308 (t318 != t288) t309) else (laws_FnExactTake.j2 kj54 t308 true t309)) else (laws_FnExactTake.j2 kj54 t308 true t309)) = some r := H
                        have A105 := Aside0.mk A1050
                        clear A1050
                        by_cases c106 : t320 = true
                        · subst c106
                          have H1 : (if t317 = t287 then (laws_FnExactTake.j2 kj54 t308 (t318 != t288) t309) else (laws_FnExactTake.j2 kj54 t308 true t309)) = some r := by rw [if_pos rfl] at H; exact H
                          clear H
                          have H := H1
                          clear H1
                          by_cases c107 : t317 = t287
                          · rw [if_pos c107] at H
                            have c107b0 : (t317 == t287) = true := beq_iff_eq.mpr c107
                            have c107b1 : (t317 != t287) = false := bne_eq_false_iff_eq.mpr c107
                            clear c107
                            (first | rw [c107b0] | (simp only [i64_w, i32_w]; rw [c107b0]) | skip)
                            have H' := Aside0.mk H
                            clear H
                            have hnb108 := NB319_279.out
                            have hnc108 := NB279_319.out
                            have hnb109 := NB319_289.out
                            have hnc109 := NB289_319.out
                            have hnb110 := NB319_293.out
                            have hnc110 := NB293_319.out
                            have hnb111 := NB319_299.out
                            have hnc111 := NB299_319.out
                            have hcz112_0 : w98.cell? ⟨gb319, 0, none⟩ = some (.slice none 0 0) := (blk_cell BK319.out 0).trans rfl
                            have hfz112_0 := blk_frozen BK319.out 0
                            have hnb113 := NB289_279.out
                            have hnc113 := NB279_289.out
                            have hnb114 := NB289_293.out
                            have hnc114 := NB293_289.out
                            have hnb115 := NB289_299.out
                            have hnc115 := NB299_289.out
                            have hcz116_0 : w98.cell? ⟨gb289, 0, none⟩ = some (.slice Ao22 t284.length co22) := (blk_cell BK289.out 0).trans rfl
                            have hfz116_0 := blk_frozen BK289.out 0
                            go_wp2_with (first | ((with_reducible refine gate_callee (f := 19) rfl ?_); refine goesL_ (some 107) rfl rfl Try.func19 (by kernel_rfl) rfl #[.agg #[.slice Ao99 t314.length co99], .agg #[.slice Ao22 t284.length co22]] rfl (by (try simp only [List.map_toArray, List.map_cons, List.map_nil]); first | done | rfl | (simp only [List.length_drop, List.length_take]; rfl)) ?_; (with_reducible refine (laws_eqSlab.calls kj54 _ _ t314 _ _ t284 true _ ?side1 ?side2 ?side3 ?side4 A105.out).mono ?_); (case side1 => refine (Kd.R_reads' (e := 3) (base := w.heap.size) (ok := fun k_ => ((((True ∧ some k_ ≠ (.slice Ao22 t284.length co22 : Value).ownBlock) ∧ some k_ ≠ (.slice Ao28 t306.length co28 : Value).ownBlock) ∧ some k_ ≠ (.slice Ao34 t294.length co34 : Value).ownBlock) ∧ some k_ ≠ (.slice Ao96 t311.length co96 : Value).ownBlock)) (n := t314.length) (c := co99) ?_).2.2; exact (by (with_reducible repeat (first | apply Kd.R_alloc | apply Kd.R_drewN | apply Kd.R_drew)); exact (Kd.R_mono (Kd.R_far (p := ⟨gb319, 0, none⟩) (Kd.R_types HO316.out BK319.out (by decide)) (fun _ hk => hk.2) (.slice Ao99 t314.length co99)) (fun _ h_ => h_.1)))); (case side2 => exact (Kd.R_reads' HO316.out).2.1); (case side3 => refine (Kd.R_reads' (e := 3) (base := w.heap.size) (ok := fun k_ => (((some k_ ≠ (.slice Ao28 t306.length co28 : Value).ownBlock ∧ some k_ ≠ (.slice Ao34 t294.length co34 : Value).ownBlock) ∧ some k_ ≠ (.slice Ao96 t311.length co96 : Value).ownBlock) ∧ some k_ ≠ (.slice Ao99 t314.length co99 : Value).ownBlock)) (n := t284.length) (c := co22) ?_).2.2; exact (by (with_reducible repeat (first | apply Kd.R_alloc | apply Kd.R_drewN | apply Kd.R_drew)); exact (Kd.R_mono (Kd.R_far (p := ⟨gb319, 0, none⟩) (Kd.R_types HO_290000.out BK319.out (by decide)) (fun _ hk => hk.2) (.slice Ao99 t314.length co99)) (fun _ h_ => h_.1)))); (case side4 => exact (Kd.R_reads' HO_290000.out).2.1); rintro e w117 ⟨rfl, hb⟩; refine ⟨_, rfl, ?_⟩; have n0_ := Aside0.mk (Kd.R_below (by (with_reducible repeat (first | apply Kd.R_alloc | apply Kd.R_drewN | apply Kd.R_drew)); exact (Kd.R_mono (Kd.R_far (p := ⟨gb319, 0, none⟩) (Kd.R_types HO_290000.out BK319.out (by decide)) (fun _ hk => hk.2) (.slice Ao99 t314.length co99)) (fun _ h_ => h_.1))) hb); have n1_ := Aside0.mk (Kd.R_below (by (with_reducible repeat (first | apply Kd.R_alloc | apply Kd.R_drewN | apply Kd.R_drew)); exact (Kd.R_mono (Kd.R_far (p := ⟨gb319, 0, none⟩) (Kd.R_types HO_294000.out BK319.out (by decide)) (fun _ hk => hk.2) (.slice Ao99 t314.length co99)) (fun _ h_ => h_.1))) hb); have n2_ := Aside0.mk (Kd.R_below (by (with_reducible repeat (first | apply Kd.R_alloc | apply Kd.R_drewN | apply Kd.R_drew)); exact (Kd.R_mono (Kd.R_far (p := ⟨gb319, 0, none⟩) (Kd.R_types HO_300000.out BK319.out (by decide)) (fun _ hk => hk.2) (.slice Ao99 t314.length co99)) (fun _ h_ => h_.1))) hb); have n3_ := Aside0.mk (Kd.R_below (by (with_reducible repeat (first | apply Kd.R_alloc | apply Kd.R_drewN | apply Kd.R_drew)); exact (Kd.R_mono (Kd.R_far (p := ⟨gb319, 0, none⟩) (Kd.R_types HO313.out BK319.out (by decide)) (fun _ hk => hk.2) (.slice Ao99 t314.length co99)) (fun _ h_ => h_.1))) hb); have n4_ := Aside0.mk (Kd.R_below (by (with_reducible repeat (first | apply Kd.R_alloc | apply Kd.R_drewN | apply Kd.R_drew)); exact (Kd.R_mono (Kd.R_far (p := ⟨gb319, 0, none⟩) (Kd.R_types HO316.out BK319.out (by decide)) (fun _ hk => hk.2) (.slice Ao99 t314.length co99)) (fun _ h_ => h_.1))) hb); have n5_ := Aside0.mk (blk_below (g := gb279) (o := .cells #[.slice A0_0 l0_0.length c0_0] 24 (0, 0)) (by (with_reducible repeat (first | refine blk_drewN ?_ _ | refine blk_drew ?_ | refine blk_alloc ?_ _)); refine blk_far ?_ NB279_319.out _; (with_reducible repeat (first | refine blk_drewN ?_ _ | refine blk_drew ?_ | refine blk_alloc ?_ _)); exact BK279.out) hb); have n6_ := Aside0.mk (blk_below (g := gb289) (o := .cells #[.slice Ao22 t284.length co22] 27 (0, 0)) (by (with_reducible repeat (first | refine blk_drewN ?_ _ | refine blk_drew ?_ | refine blk_alloc ?_ _)); refine blk_far ?_ NB289_319.out _; (with_reducible repeat (first | refine blk_drewN ?_ _ | refine blk_drew ?_ | refine blk_alloc ?_ _)); exact BK289.out) hb); have n7_ := Aside0.mk (blk_below (g := gb293) (o := .cells #[.slice Ao28 t306.length co28] 27 (0, 0)) (by (with_reducible repeat (first | refine blk_drewN ?_ _ | refine blk_drew ?_ | refine blk_alloc ?_ _)); refine blk_far ?_ NB293_319.out _; (with_reducible repeat (first | refine blk_drewN ?_ _ | refine blk_drew ?_ | refine blk_alloc ?_ _)); exact BK293.out) hb); have n8_ := Aside0.mk (blk_below (g := gb299) (o := .cells #[.slice Ao34 t294.length co34] 27 (0, 0)) (by (with_reducible repeat (first | refine blk_drewN ?_ _ | refine blk_drew ?_ | refine blk_alloc ?_ _)); refine blk_far ?_ NB299_319.out _; (with_reducible repeat (first | refine blk_drewN ?_ _ | refine blk_drew ?_ | refine blk_alloc ?_ _)); exact BK299.out) hb); have n9_ := Aside0.mk (blk_below (g := gb319) (o := .cells #[.slice Ao99 t314.length co99] 27 (0, 0)) (by (with_reducible repeat (first | refine blk_drewN ?_ _ | refine blk_drew ?_ | refine blk_alloc ?_ _)); refine blk_put (cs := #[.slice none 0 0]) ?_ 0 _ rfl; (with_reducible repeat (first | refine blk_drewN ?_ _ | refine blk_drew ?_ | refine blk_alloc ?_ _)); exact BK319.out) hb); have n10_ := Aside0.mk (below_step (by repeat (first | (with_reducible first | exact HB.out | apply below_alloc | apply pw_below_drewN | apply below_drew1 | refine below_set ?_ GE279.out | refine below_set ?_ GE289.out | refine below_set ?_ GE293.out | refine below_set ?_ GE299.out | refine below_set ?_ GE319.out) | exact HB.out)) hb); clear HO_290000; clear HO_294000; clear HO_300000; clear HO313; clear HO316; clear BK279; clear BK289; clear BK293; clear BK299; clear BK319; clear HB; have HO_290000 := n0_; have HO_294000 := n1_; have HO_300000 := n2_; have HO313 := n3_; have HO316 := n4_; have BK279 := n5_; have BK289 := n6_; have BK293 := n7_; have BK299 := n8_; have BK319 := n9_; have HB := n10_; clear n0_ n1_ n2_ n3_ n4_ n5_ n6_ n7_ n8_ n9_ n10_; (try clear hb); (try clear hb2); (try clear hk); (try clear hi)))
                            go_meet
                            case rel => exact ⟨_, ((t318 != t288)), (by first | rfl | (simp; done) | (simp [*]; done)), H', ⟨by have := HJ12.out; have := HJ54.out; first | omega | exact Nat.le_refl _⟩, ⟨by (try simp only [hl294000_54]); (with_reducible repeat (first | apply Kd.R_alloc | apply Kd.R_drewN | apply Kd.R_drew)); exact Kd.R_mono HO_290000.out (fun _ hk => ⟨hk.1.1.1, ⟨hk.1.1.2, hk.2⟩⟩)⟩, ⟨by (try simp only [hl294000_54]); (with_reducible repeat (first | apply Kd.R_alloc | apply Kd.R_drewN | apply Kd.R_drew)); exact Kd.R_mono HO_294000.out (fun _ hk => ⟨hk.1.1.1, ⟨hk.1.1.2, hk.2⟩⟩)⟩, ⟨by (try simp only [hl294000_54]); (with_reducible repeat (first | apply Kd.R_alloc | apply Kd.R_drewN | apply Kd.R_drew)); exact Kd.R_mono HO_300000.out (fun _ hk => ⟨hk.1.1.1, ⟨hk.1.1.2, hk.2⟩⟩)⟩, ⟨by (try simp only [hl294000_54]); (with_reducible repeat (first | apply Kd.R_alloc | apply Kd.R_drewN | apply Kd.R_drew)); exact Kd.R_mono HO316.out (fun _ hk => ⟨hk.1.1.1.2, ⟨hk.1.1.2, hk.1.2⟩⟩)⟩, ⟨by (try simp only [hl294000_54]); (with_reducible repeat (first | refine blk_drewN ?_ _ | refine blk_drew ?_ | refine blk_alloc ?_ _)); exact BK279.out⟩, ⟨by (try simp only [hl294000_54]); (with_reducible repeat (first | refine blk_drewN ?_ _ | refine blk_drew ?_ | refine blk_alloc ?_ _)); exact BK289.out⟩, ⟨by (try simp only [hl294000_54]); (with_reducible repeat (first | refine blk_drewN ?_ _ | refine blk_drew ?_ | refine blk_alloc ?_ _)); exact BK293.out⟩, ⟨by (try simp only [hl294000_54]); (with_reducible repeat (first | refine blk_drewN ?_ _ | refine blk_drew ?_ | refine blk_alloc ?_ _)); exact BK299.out⟩, ⟨by (try simp only [hl294000_54]); (with_reducible repeat (first | refine blk_drewN ?_ _ | refine blk_drew ?_ | refine blk_alloc ?_ _)); exact BK319.out⟩, ⟨by repeat (first | (with_reducible first | exact HB.out | apply below_alloc | apply pw_below_drewN | apply below_drew1 | refine below_set ?_ GE279.out | refine below_set ?_ GE289.out | refine below_set ?_ GE293.out | refine below_set ?_ GE299.out | refine below_set ?_ GE319.out) | exact HB.out)⟩⟩
                          · rw [if_neg c107] at H
                            have c107b0 : (t317 == t287) = false := beq_eq_false_iff_ne.mpr c107
                            have c107b1 : (t317 != t287) = true := bne_iff_ne.mpr c107
                            (first | rw [c107b0] | (simp only [i64_w, i32_w]; rw [c107b0]) | skip)
                            exfalso
                            revert H
                            cases kj54 with
                            | zero => intro H; simp [laws_FnExactTake.j2] at H
                            | succ k9 => intro H; simp only [laws_FnExactTake.j2] at H; (first | rw [if_pos rfl] at H | rw [if_pos trivial] at H); exact absurd (H.trans (congrArg some hrt.out)) (by simp)
                        · replace c106 := Bool.eq_false_iff.mpr c106
                          subst c106
                          have H1 : (laws_FnExactTake.j2 kj54 t308 true t309) = some r := by rw [if_neg (show ¬ (false = true) by decide)] at H; exact H
                          clear H
                          have H := H1
                          clear H1
                          exfalso
                          revert H
                          cases kj54 with
                          | zero => intro H; simp [laws_FnExactTake.j2] at H
                          | succ k9 => intro H; simp only [laws_FnExactTake.j2] at H; (first | rw [if_pos rfl] at H | rw [if_pos trivial] at H); exact absurd (H.trans (congrArg some hrt.out)) (by simp)
                      case rest =>
                        clear HC84
                        try clear c1
                        try clear c2
                        try clear p2
                        try clear c3
                        try clear c4
                        try clear c5
                        try clear c5b0
                        try clear c6
                        try clear c7
                        try clear c8
                        try clear c9
                        try clear c10
                        try clear c11
                        try clear c15
                        try clear c17
                        try clear c19
                        try clear c22
                        try clear c23
                        try clear c24
                        try clear c25
                        try clear c29
                        try clear c30
                        try clear c35
                        try clear c36
                        try clear c37
                        try clear c40
                        try clear c41
                        try clear c41b0
                        try clear c41b1
                        try clear c42
                        try clear c43
                        try clear c44
                        try clear c46
                        try clear c47
                        try clear c50
                        try clear c53
                        try clear c60
                        try clear c61
                        try clear c62
                        try clear c65
                        try clear c65b0
                        try clear c67
                        try clear c68
                        try clear c68b0
                        try clear c68b1
                        try clear c69
                        try clear c70
                        try clear c71
                        try clear c73
                        try clear c74
                        try clear c77
                        try clear c80
                        try clear c80b0
                        try clear c81
                        try clear c81b0
                        try clear c81b1
                        try clear c85
                        try clear c86
                        try clear c87
                        try clear c92
                        try clear c93
                        try clear c100
                        try clear c101
                        try clear c102
                        try clear c103
                        try clear c106
                        try clear c107
                        try clear c107b0
                        try clear c107b1
                        try clear c108
                        try clear c109
                        try clear c110
                        try clear c111
                        try clear c113
                        try clear c114
                        try clear c115
                        try clear hcz104_0
                        try clear hcz112_0
                        try clear hcz116_0
                        try clear hcz15_0
                        try clear hcz17_0
                        try clear hcz24_0
                        try clear hcz25_0
                        try clear hcz31_0
                        try clear hcz38_0
                        try clear hcz45_0
                        try clear hcz48_0
                        try clear hcz63_0
                        try clear hcz72_0
                        try clear hcz75_0
                        try clear hcz7_0
                        try clear hcz88_0
                        try clear hcz90_0
                        try clear hcz94_0
                        try clear hfz104_0
                        try clear hfz112_0
                        try clear hfz116_0
                        try clear hfz15_0
                        try clear hfz17_0
                        try clear hfz24_0
                        try clear hfz25_0
                        try clear hfz31_0
                        try clear hfz38_0
                        try clear hfz45_0
                        try clear hfz48_0
                        try clear hfz63_0
                        try clear hfz72_0
                        try clear hfz75_0
                        try clear hfz7_0
                        try clear hfz88_0
                        try clear hfz90_0
                        try clear hfz94_0
                        try clear p2
                        obtain ⟨kq, x118_83, rfl, HA, HJ83, HO_290000, HO_294000, HO_300000, HO_320000, BK279, BK289, BK293, BK299, BK319, HB⟩ := hcut
                        have hl300000_83 := (Kd.R_reads' HO_300000.out).1
                        rw [hl300000_83] at HO_300000
                        (try simp only [hl300000_83])
                        (try simp only [hl300000_83] at BK279)
                        (try simp only [hl300000_83] at BK289)
                        (try simp only [hl300000_83] at BK293)
                        (try simp only [hl300000_83] at BK299)
                        (try simp only [hl300000_83] at BK319)
                        (try simp only [hl300000_83] at HO_290000)
                        (try simp only [hl300000_83] at HO_294000)
                        (try simp only [hl300000_83] at HO_320000)
                        cases kq with
                        | zero => exact absurd HA.out (by simp [laws_FnExactTake.j2])
                        | succ kj83 =>
                          have H := HA.out
                          clear HA
                          simp only [laws_FnExactTake.j2] at H
                          by_cases c118 : x118_83 = true
                          · subst c118
                            have H1 : (some false) = some r := by rw [if_pos rfl] at H; exact H
                            clear H
                            have H := H1
                            clear H1
                            exact absurd (H.trans (congrArg some hrt.out)) (by simp)
                          · replace c118 := Bool.eq_false_iff.mpr c118
                            subst c118
                            have H1 : ((laws_heldSlab.f kj83 t309 1).bind fun t321 => (if t321 < 0 then (some false) else (if t321 = t308 then (some true) else (some false)))) = some r := by rw [if_neg (show ¬ (false = true) by decide)] at H; exact H
                            clear H
                            have H := H1
                            clear H1
                            replace H := Option.bind_eq_some_iff.mp H
                            obtain ⟨t321, A1190, H⟩ := H
                            replace H : (if t321 < 0 then (some false) else (if t321 = t308 then (some true) else (some false))) = some r := H
                            have A119 := Aside0.mk A1190
                            clear A1190
                            by_cases c120 : t321 < 0
                            · rw [if_pos c120] at H
                              have c120b0 : decide (t321 < 0) = true := decide_eq_true c120
                              clear c120
                              exact absurd (H.trans (congrArg some hrt.out)) (by simp)
                            · rw [if_neg c120] at H
                              have c120b0 : decide (t321 < 0) = false := decide_eq_false c120
                              clear c120
                              by_cases c121 : t321 = t308
                              · rw [if_pos c121] at H
                                have c121b0 : (t321 == t308) = true := beq_iff_eq.mpr c121
                                have c121b1 : (t321 != t308) = false := bne_eq_false_iff_eq.mpr c121
                                clear c121
                                obtain rfl := Option.some.inj H
                                have hnb122 := NB299_279.out
                                have hnc122 := NB279_299.out
                                have hnb123 := NB299_289.out
                                have hnc123 := NB289_299.out
                                have hnb124 := NB299_293.out
                                have hnc124 := NB293_299.out
                                have hnb125 := NB299_319.out
                                have hnc125 := NB319_299.out
                                have hcz126_0 : wc.cell? ⟨gb299, 0, none⟩ = some (.slice Ao34 t309.length co34) := (blk_cell BK299.out 0).trans rfl
                                have hfz126_0 := blk_frozen BK299.out 0
                                go_wp2_with (first | ((with_reducible refine gate_callee (f := 25) rfl ?_); refine goesL_ (some 121) rfl rfl Try.func25 (by kernel_rfl) rfl #[.agg #[.slice Ao34 t309.length co34], .int .i64 1] rfl (by (try simp only [List.map_toArray, List.map_cons, List.map_nil]); first | done | rfl | (simp only [List.length_drop, List.length_take]; rfl)) ?_; (with_reducible refine (laws_heldSlab.calls kj83 _ _ t309 1 t321 _ ?side1 ?side2 A119.out).mono ?_); (case side1 => repeat (first | exact (Kd.R_reads' HO_300000.out).2.2 | (with_reducible refine Kd.C_alloc ?_ _) | (with_reducible refine Kd.C_drewN ?_ _) | (with_reducible refine Kd.C_drew ?_))); (case side2 => exact (Kd.R_reads' HO_300000.out).2.1); rintro e w127 ⟨rfl, hb⟩; refine ⟨_, rfl, ?_⟩; have n0_ := Aside0.mk (Kd.R_below (by (with_reducible repeat (first | apply Kd.R_alloc | apply Kd.R_drewN | apply Kd.R_drew)); exact HO_290000.out) hb); have n1_ := Aside0.mk (Kd.R_below (by (with_reducible repeat (first | apply Kd.R_alloc | apply Kd.R_drewN | apply Kd.R_drew)); exact HO_294000.out) hb); have n2_ := Aside0.mk (Kd.R_below (by (with_reducible repeat (first | apply Kd.R_alloc | apply Kd.R_drewN | apply Kd.R_drew)); exact HO_300000.out) hb); have n3_ := Aside0.mk (Kd.R_below (by (with_reducible repeat (first | apply Kd.R_alloc | apply Kd.R_drewN | apply Kd.R_drew)); exact HO_320000.out) hb); have n4_ := Aside0.mk (blk_below (g := gb279) (o := .cells #[.slice A0_0 l0_0.length c0_0] 24 (0, 0)) (by (with_reducible repeat (first | refine blk_drewN ?_ _ | refine blk_drew ?_ | refine blk_alloc ?_ _)); exact BK279.out) hb); have n5_ := Aside0.mk (blk_below (g := gb289) (o := .cells #[.slice Ao22 t284.length co22] 27 (0, 0)) (by (with_reducible repeat (first | refine blk_drewN ?_ _ | refine blk_drew ?_ | refine blk_alloc ?_ _)); exact BK289.out) hb); have n6_ := Aside0.mk (blk_below (g := gb293) (o := .cells #[.slice Ao28 t306.length co28] 27 (0, 0)) (by (with_reducible repeat (first | refine blk_drewN ?_ _ | refine blk_drew ?_ | refine blk_alloc ?_ _)); exact BK293.out) hb); have n7_ := Aside0.mk (blk_below (g := gb299) (o := .cells #[.slice Ao34 t309.length co34] 27 (0, 0)) (by (with_reducible repeat (first | refine blk_drewN ?_ _ | refine blk_drew ?_ | refine blk_alloc ?_ _)); exact BK299.out) hb); have n8_ := Aside0.mk (blk_below (g := gb319) (o := .cells #[.slice Ao99 t314.length co99] 27 (0, 0)) (by (with_reducible repeat (first | refine blk_drewN ?_ _ | refine blk_drew ?_ | refine blk_alloc ?_ _)); exact BK319.out) hb); have n9_ := Aside0.mk (below_step (by repeat (first | (with_reducible first | exact HB.out | apply below_alloc | apply pw_below_drewN | apply below_drew1 | refine below_set ?_ GE279.out | refine below_set ?_ GE289.out | refine below_set ?_ GE293.out | refine below_set ?_ GE299.out | refine below_set ?_ GE319.out) | exact HB.out)) hb); clear HO_290000; clear HO_294000; clear HO_300000; clear HO_320000; clear BK279; clear BK289; clear BK293; clear BK299; clear BK319; clear HB; have HO_290000 := n0_; have HO_294000 := n1_; have HO_300000 := n2_; have HO_320000 := n3_; have BK279 := n4_; have BK289 := n5_; have BK293 := n6_; have BK299 := n7_; have BK319 := n8_; have HB := n9_; clear n0_ n1_ n2_ n3_ n4_ n5_ n6_ n7_ n8_ n9_; (try clear hb); (try clear hb2); (try clear hk); (try clear hi)))
                                go_ret
                                exact ⟨by first | rfl | (simp [errW_none, errW_some] <;> rfl) | (simp [*, errW_none, errW_some] <;> rfl), by repeat (first | (with_reducible first | exact HB.out | apply below_alloc | apply pw_below_drewN | apply below_drew1 | refine below_set ?_ GE279.out | refine below_set ?_ GE289.out | refine below_set ?_ GE293.out | refine below_set ?_ GE299.out | refine below_set ?_ GE319.out) | exact HB.out)⟩
                              · rw [if_neg c121] at H
                                have c121b0 : (t321 == t308) = false := beq_eq_false_iff_ne.mpr c121
                                have c121b1 : (t321 != t308) = true := bne_iff_ne.mpr c121
                                exact absurd (H.trans (congrArg some hrt.out)) (by simp)
                    · rw [if_neg c81] at H
                      have c81b0 : (t310 == t308) = false := beq_eq_false_iff_ne.mpr c81
                      have c81b1 : (t310 != t308) = true := bne_iff_ne.mpr c81
                      exact absurd (H.trans (congrArg some hrt.out)) (by simp)
          · replace c53 := Bool.eq_false_iff.mpr c53
            subst c53
            have H1 : (some false) = some r := by rw [if_neg (show ¬ (false = true) by decide)] at H; exact H
            clear H
            have H := H1
            clear H1
            exact absurd (H.trans (congrArg some hrt.out)) (by simp)

end Go.Proofs.Ytnjlodjehneonaa.F
