-- printed by pr.py out of the kit's print program: not written by hand
import Derived.Test.YtnjlodjehneonaaF0
import Derived.Test.YtnjlodjehneonaaF1
import Derived.Test.YtnjlodjehneonaaF2
import Derived.Test.YtnjlodjehneonaaF4
import Derived.Test.YtnjlodjehneonaaF6
namespace Go.Proofs.Ytnjlodjehneonaa.F
open Go.RowKit Go.Proofs.YtnjlodjehneonaaW.PrintWords Go.Proofs.YtnjlodjehneonaaW.PrintLast Go.Proofs.YtnjlodjehneonaaW.PrintMore Go.Proofs.YtnjlodjehneonaaW.Hand
attribute [local go_sem] max2_int min2_int max_two min_two max_three min_three max_four min_four   -- for this text's walks alone
set_option linter.unusedVariables false
set_option linter.unusedSimpArgs false

/-! ### laws_FnExactSlots: function 6 -/
def laws_FnExactSlots.j0 : Nat → Int → List Int → List Int → Bool → List Int → Option (Bool)
  | 0, _, _, _, _, _ => none
  | k + 1, x1, x6, x8, x46, x369000 => if x46 = true then (some false) else ((laws_markIntS.f k x8 1).bind fun bt391 => ((laws_heldIntS.f k bt391.2 1).bind fun t393 => (if t393 < 0 then (some false) else (if t393 = bt391.1 then ((laws_toSlab.f k x369000).bind fun t394 => ((impl_Slots.f k t394 x1).bind fun t397 => ((laws_eqIntS.f k t397 x6).bind fun t400 => (if t400 = true then ((laws_heldIntS.f k bt391.2 1).bind fun t401 => (if t401 < 0 then (some false) else (if t401 = bt391.1 then (some true) else (some false)))) else (some false))))) else (some false)))))
def laws_FnExactSlots.f (k : Nat) (l0_0 : List Int) (a1 : Int) : Option (Bool) := (laws_szSlab.f l0_0 1048576).bind fun t369 => (if t369 < 0 then (some true) else ((laws_toSlab.f k l0_0).bind fun t370 => ((spec_Slots.f k t370 a1).bind fun t373 => ((laws_toSlab.f k l0_0).bind fun t376 => ((impl_Slots.f k t376 a1).bind fun t380 => ((laws_eqIntS.f k t380 t373).bind fun t383 => (if t383 = true then ((laws_toSlab.f k l0_0).bind fun t384 => ((laws_eqSlab.f k t376 t384).bind fun t387 => (if t387 = true then ((laws_markSlab.f k t376 1).bind fun bt388 => (if bt388.1 < 0 then (laws_FnExactSlots.j0 k a1 t373 t380 true l0_0) else ((laws_eqIntS.f k t380 t373).bind fun t390 => (laws_FnExactSlots.j0 k a1 t373 t380 (!t390) l0_0)))) else (some false)))) else (some false))))))))
theorem laws_FnExactSlots.mono_l : ∀ k, (∀ y0 y1 y2 y3 y4, LeO (laws_FnExactSlots.j0 k y0 y1 y2 y3 y4) (laws_FnExactSlots.j0 (k + 1) y0 y1 y2 y3 y4))
  | 0 => fun _ _ _ _ _ r h => by simp [laws_FnExactSlots.j0] at h
  | k + 1 => by
    have ih0 := laws_FnExactSlots.mono_l k
    · intro y0 y1 y2 y3 y4
      unfold laws_FnExactSlots.j0
      repeat' first
      | (with_reducible exact ih0 _ _ _ _ _)
      | (with_reducible exact impl_Slots.mono _ _ _)
      | (with_reducible exact laws_eqIntS.mono _ _ _)
      | (with_reducible exact laws_eqSlab.mono _ _ _)
      | (with_reducible exact laws_heldIntS.mono _ _ _)
      | (with_reducible exact laws_markIntS.mono _ _ _)
      | (with_reducible exact laws_markSlab.mono _ _ _)
      | (with_reducible exact laws_toSlab.mono _ _)
      | (with_reducible exact spec_Slots.mono _ _ _)
      | (with_reducible exact LeO.refl _)
      | (with_reducible exact LeO.none _)
      | (with_reducible refine LeO.ite ?_ ?_)
      | (with_reducible refine LeO.bind ?_ (fun _ => ?_))
      | exact ih0 _ _ _ _ _
      | exact impl_Slots.mono _ _ _
      | exact laws_eqIntS.mono _ _ _
      | exact laws_eqSlab.mono _ _ _
      | exact laws_heldIntS.mono _ _ _
      | exact laws_markIntS.mono _ _ _
      | exact laws_markSlab.mono _ _ _
      | exact laws_toSlab.mono _ _
      | exact spec_Slots.mono _ _ _
      | exact LeO.none _
      | refine LeO.ite ?_ ?_
      | refine LeO.bind ?_ (fun _ => ?_)
theorem laws_FnExactSlots.mono : ∀ a0 a1 k, LeO (laws_FnExactSlots.f k a0 a1) (laws_FnExactSlots.f (k + 1) a0 a1) := by
  intro a0 a1 k
  have ih0 := laws_FnExactSlots.mono_l k
  unfold laws_FnExactSlots.f
  repeat' first
      | (with_reducible exact ih0 _ _ _ _ _)
      | (with_reducible exact impl_Slots.mono _ _ _)
      | (with_reducible exact laws_eqIntS.mono _ _ _)
      | (with_reducible exact laws_eqSlab.mono _ _ _)
      | (with_reducible exact laws_heldIntS.mono _ _ _)
      | (with_reducible exact laws_markIntS.mono _ _ _)
      | (with_reducible exact laws_markSlab.mono _ _ _)
      | (with_reducible exact laws_toSlab.mono _ _)
      | (with_reducible exact spec_Slots.mono _ _ _)
      | (with_reducible exact LeO.refl _)
      | (with_reducible exact LeO.none _)
      | (with_reducible refine LeO.ite ?_ ?_)
      | (with_reducible refine LeO.bind ?_ (fun _ => ?_))
      | exact ih0 _ _ _ _ _
      | exact impl_Slots.mono _ _ _
      | exact laws_eqIntS.mono _ _ _
      | exact laws_eqSlab.mono _ _ _
      | exact laws_heldIntS.mono _ _ _
      | exact laws_markIntS.mono _ _ _
      | exact laws_markSlab.mono _ _ _
      | exact laws_toSlab.mono _ _
      | exact spec_Slots.mono _ _ _
      | exact LeO.none _
      | refine LeO.ite ?_ ?_
      | refine LeO.bind ?_ (fun _ => ?_)
set_option maxHeartbeats 8000000 in
set_option maxRecDepth 100000 in
theorem laws_FnExactSlots.calls (k : Nat) (A0_0 : Option Addr) (c0_0 : Nat) (l0_0 : List Int) (a1 : Int) (r : Bool) (w : World) (hr0_0 : Kd.C (Kd.int .i64) w A0_0 l0_0.length l0_0) (hc0_0 : l0_0.length ≤ c0_0) (hrt : Aside0 (r = true)) (h : laws_FnExactSlots.f k l0_0 a1 = some r) :
    Calls Try.prog 6 #[.agg #[.slice A0_0 l0_0.length c0_0], .int .i64 a1] w fun e w' => e = .returned (.bool r) ∧ Below w.heap.size w w' := by
  have hu24 := Try.underlying24
  have hu27 := Try.underlying27
  have HR0_0 := Aside0.mk hr0_0
  have HC0_0 := Aside0.mk hc0_0
  clear hr0_0 hc0_0
  have HB := Aside0.mk (Below.refl w.heap.size w)
  have H : ((laws_szSlab.f l0_0 1048576).bind fun t369 => (if t369 < 0 then (some true) else ((laws_toSlab.f k l0_0).bind fun t370 => ((spec_Slots.f k t370 a1).bind fun t373 => ((laws_toSlab.f k l0_0).bind fun t376 => ((impl_Slots.f k t376 a1).bind fun t380 => ((laws_eqIntS.f k t380 t373).bind fun t383 => (if t383 = true then ((laws_toSlab.f k l0_0).bind fun t384 => ((laws_eqSlab.f k t376 t384).bind fun t387 => (if t387 = true then ((laws_markSlab.f k t376 1).bind fun bt388 => (if bt388.1 < 0 then (laws_FnExactSlots.j0 k a1 t373 t380 true l0_0) else ((laws_eqIntS.f k t380 t373).bind fun t390 => (laws_FnExactSlots.j0 k a1 t373 t380 (!t390) l0_0)))) else (some false)))) else (some false))))))))) = some r := h
  clear h
  replace H := Option.bind_eq_some_iff.mp H
  obtain ⟨t369, A30, H⟩ := H
  replace H : (if t369 < 0 then (some true) else ((laws_toSlab.f k l0_0).bind fun t370 => ((spec_Slots.f k t370 a1).bind fun t373 => ((laws_toSlab.f k l0_0).bind fun t376 => ((impl_Slots.f k t376 a1).bind fun t380 => ((laws_eqIntS.f k t380 t373).bind fun t383 => (if t383 = true then ((laws_toSlab.f k l0_0).bind fun t384 => ((laws_eqSlab.f k t376 t384).bind fun t387 => (if t387 = true then ((laws_markSlab.f k t376 1).bind fun bt388 => (if bt388.1 < 0 then (laws_FnExactSlots.j0 k a1 t373 t380 true l0_0) else ((laws_eqIntS.f k t380 t373).bind fun t390 => (laws_FnExactSlots.j0 k a1 t373 t380 (!t390) l0_0)))) else (some false)))) else (some false)))))))) = some r := H
  have A3 := Aside0.mk A30
  clear A30
  by_cases c4 : t369 < 0
  · rw [if_pos c4] at H
    have c4b0 : decide (t369 < 0) = true := decide_eq_true c4
    clear c4
    obtain rfl := Option.some.inj H
    go_enter Try.func6, Try.ntmps6
    go_wp2_with (first | ((with_reducible refine gate_dst (N := 2) rfl ?_); refine box_event ?hg (N := 2) ?hd (cs := #[.slice A0_0 l0_0.length c0_0]) (t := 24) ?hr ?_; (case hd => rfl); (case hg => rfl); (case hr => first | (go_simp; done) | (go_simp; rfl)); intro gb368 hg w5 hbox hb; have n0_ := Aside0.mk (below_step (by repeat (first | (with_reducible first | exact HB.out | apply below_alloc | apply pw_below_drewN | apply below_drew1) | exact HB.out)) hb); have n1_ := Aside0.mk (hbox); have n2_ := Aside0.mk ((by rw [hg]; exact (below_size (by repeat (first | (with_reducible first | exact HB.out | apply below_alloc | apply pw_below_drewN | apply below_drew1) | exact HB.out))) : w.heap.size ≤ gb368)); have n3_ := Aside0.mk ((by rw [hg]; exact (below_size (by repeat (first | (with_reducible first | exact HB.out | apply below_alloc | apply pw_below_drewN | apply below_drew1) | exact HB.out))) : w.heap.size ≤ gb368)); clear HB; have HB := n0_; have BK368 := n1_; have GW368 := n2_; have GE368 := n3_; clear n0_ n1_ n2_ n3_; clear hb hbox hg; have hcz6_0 : w5.cell? ⟨gb368, 0, none⟩ = some (.slice A0_0 l0_0.length c0_0) := (blk_cell BK368.out 0).trans rfl; have hfz6_0 := blk_frozen BK368.out 0) | ((with_reducible refine gate_callee (f := 15) rfl ?_); refine goesL_ (some 15) rfl rfl Try.func15 (by kernel_rfl) rfl #[.agg #[.slice A0_0 l0_0.length c0_0], .int .i64 1048576] rfl (by (try simp only [List.map_toArray, List.map_cons, List.map_nil]); first | done | rfl | (simp only [List.length_drop, List.length_take]; rfl)) ?_; (with_reducible refine (laws_szSlab.calls _ _ l0_0 1048576 t369 _ ?side1 ?side2 A3.out).mono ?_); (case side1 => repeat (first | exact (Kd.C_below HR0_0.out HB.out) | (with_reducible refine Kd.C_alloc ?_ _) | (with_reducible refine Kd.C_drewN ?_ _) | (with_reducible refine Kd.C_drew ?_))); (case side2 => exact HC0_0.out); rintro e w7 ⟨rfl, hb⟩; refine ⟨_, rfl, ?_⟩; have n0_ := Aside0.mk (blk_below (g := gb368) (o := .cells #[.slice A0_0 l0_0.length c0_0] 24 (0, 0)) (by (with_reducible repeat (first | refine blk_drewN ?_ _ | refine blk_drew ?_ | refine blk_alloc ?_ _)); exact BK368.out) hb); have n1_ := Aside0.mk (below_step (by repeat (first | (with_reducible first | exact HB.out | apply below_alloc | apply pw_below_drewN | apply below_drew1 | refine below_set ?_ GE368.out) | exact HB.out)) hb); clear BK368; clear HB; have BK368 := n0_; have HB := n1_; clear n0_ n1_; (try clear hb); (try clear hb2); (try clear hk); (try clear hi)))
    go_ret
    exact ⟨by first | rfl | (simp [errW_none, errW_some] <;> rfl) | (simp [*, errW_none, errW_some] <;> rfl), by repeat (first | (with_reducible first | exact HB.out | apply below_alloc | apply pw_below_drewN | apply below_drew1 | refine below_set ?_ GE368.out) | exact HB.out)⟩
  · rw [if_neg c4] at H
    have c4b0 : decide (t369 < 0) = false := decide_eq_false c4
    clear c4
    replace H := Option.bind_eq_some_iff.mp H
    obtain ⟨t370, A80, H⟩ := H
    replace H : ((spec_Slots.f k t370 a1).bind fun t373 => ((laws_toSlab.f k l0_0).bind fun t376 => ((impl_Slots.f k t376 a1).bind fun t380 => ((laws_eqIntS.f k t380 t373).bind fun t383 => (if t383 = true then ((laws_toSlab.f k l0_0).bind fun t384 => ((laws_eqSlab.f k t376 t384).bind fun t387 => (if t387 = true then ((laws_markSlab.f k t376 1).bind fun bt388 => (if bt388.1 < 0 then (laws_FnExactSlots.j0 k a1 t373 t380 true l0_0) else ((laws_eqIntS.f k t380 t373).bind fun t390 => (laws_FnExactSlots.j0 k a1 t373 t380 (!t390) l0_0)))) else (some false)))) else (some false)))))) = some r := H
    have A8 := Aside0.mk A80
    clear A80
    replace H := Option.bind_eq_some_iff.mp H
    obtain ⟨t373, A90, H⟩ := H
    replace H : ((laws_toSlab.f k l0_0).bind fun t376 => ((impl_Slots.f k t376 a1).bind fun t380 => ((laws_eqIntS.f k t380 t373).bind fun t383 => (if t383 = true then ((laws_toSlab.f k l0_0).bind fun t384 => ((laws_eqSlab.f k t376 t384).bind fun t387 => (if t387 = true then ((laws_markSlab.f k t376 1).bind fun bt388 => (if bt388.1 < 0 then (laws_FnExactSlots.j0 k a1 t373 t380 true l0_0) else ((laws_eqIntS.f k t380 t373).bind fun t390 => (laws_FnExactSlots.j0 k a1 t373 t380 (!t390) l0_0)))) else (some false)))) else (some false))))) = some r := H
    have A9 := Aside0.mk A90
    clear A90
    replace H := Option.bind_eq_some_iff.mp H
    obtain ⟨t376, A100, H⟩ := H
    replace H : ((impl_Slots.f k t376 a1).bind fun t380 => ((laws_eqIntS.f k t380 t373).bind fun t383 => (if t383 = true then ((laws_toSlab.f k l0_0).bind fun t384 => ((laws_eqSlab.f k t376 t384).bind fun t387 => (if t387 = true then ((laws_markSlab.f k t376 1).bind fun bt388 => (if bt388.1 < 0 then (laws_FnExactSlots.j0 k a1 t373 t380 true l0_0) else ((laws_eqIntS.f k t380 t373).bind fun t390 => (laws_FnExactSlots.j0 k a1 t373 t380 (!t390) l0_0)))) else (some false)))) else (some false)))) = some r := H
    have A10 := Aside0.mk A100
    clear A100
    replace H := Option.bind_eq_some_iff.mp H
    obtain ⟨t380, A110, H⟩ := H
    replace H : ((laws_eqIntS.f k t380 t373).bind fun t383 => (if t383 = true then ((laws_toSlab.f k l0_0).bind fun t384 => ((laws_eqSlab.f k t376 t384).bind fun t387 => (if t387 = true then ((laws_markSlab.f k t376 1).bind fun bt388 => (if bt388.1 < 0 then (laws_FnExactSlots.j0 k a1 t373 t380 true l0_0) else ((laws_eqIntS.f k t380 t373).bind fun t390 => (laws_FnExactSlots.j0 k a1 t373 t380 (!t390) l0_0)))) else (some false)))) else (some false))) = some r := H
    have A11 := Aside0.mk A110
    clear A110
    replace H := Option.bind_eq_some_iff.mp H
    obtain ⟨t383, A120, H⟩ := H
    replace H : (if t383 = true then ((laws_toSlab.f k l0_0).bind fun t384 => ((laws_eqSlab.f k t376 t384).bind fun t387 => (if t387 = true then ((laws_markSlab.f k t376 1).bind fun bt388 => (if bt388.1 < 0 then (laws_FnExactSlots.j0 k a1 t373 t380 true l0_0) else ((laws_eqIntS.f k t380 t373).bind fun t390 => (laws_FnExactSlots.j0 k a1 t373 t380 (!t390) l0_0)))) else (some false)))) else (some false)) = some r := H
    have A12 := Aside0.mk A120
    clear A120
    by_cases c13 : t383 = true
    · subst c13
      have H1 : ((laws_toSlab.f k l0_0).bind fun t384 => ((laws_eqSlab.f k t376 t384).bind fun t387 => (if t387 = true then ((laws_markSlab.f k t376 1).bind fun bt388 => (if bt388.1 < 0 then (laws_FnExactSlots.j0 k a1 t373 t380 true l0_0) else ((laws_eqIntS.f k t380 t373).bind fun t390 => (laws_FnExactSlots.j0 k a1 t373 t380 (!t390) l0_0)))) else (some false)))) = some r := by rw [if_pos rfl] at H; exact H
      clear H
      have H := H1
      clear H1
      replace H := Option.bind_eq_some_iff.mp H
      obtain ⟨t384, A140, H⟩ := H
      replace H : ((laws_eqSlab.f k t376 t384).bind fun t387 => (if t387 = true then ((laws_markSlab.f k t376 1).bind fun bt388 => (if bt388.1 < 0 then (laws_FnExactSlots.j0 k a1 t373 t380 true l0_0) else ((laws_eqIntS.f k t380 t373).bind fun t390 => (laws_FnExactSlots.j0 k a1 t373 t380 (!t390) l0_0)))) else (some false))) = some r := H
      have A14 := Aside0.mk A140
      clear A140
      replace H := Option.bind_eq_some_iff.mp H
      obtain ⟨t387, A150, H⟩ := H
      replace H : (if t387 = true then ((laws_markSlab.f k t376 1).bind fun bt388 => (if bt388.1 < 0 then (laws_FnExactSlots.j0 k a1 t373 t380 true l0_0) else ((laws_eqIntS.f k t380 t373).bind fun t390 => (laws_FnExactSlots.j0 k a1 t373 t380 (!t390) l0_0)))) else (some false)) = some r := H
      have A15 := Aside0.mk A150
      clear A150
      by_cases c16 : t387 = true
      · subst c16
        have H1 : ((laws_markSlab.f k t376 1).bind fun bt388 => (if bt388.1 < 0 then (laws_FnExactSlots.j0 k a1 t373 t380 true l0_0) else ((laws_eqIntS.f k t380 t373).bind fun t390 => (laws_FnExactSlots.j0 k a1 t373 t380 (!t390) l0_0)))) = some r := by rw [if_pos rfl] at H; exact H
        clear H
        have H := H1
        clear H1
        replace H := Option.bind_eq_some_iff.mp H
        obtain ⟨⟨t388, t389⟩, A170, H⟩ := H
        replace H : (if t388 < 0 then (laws_FnExactSlots.j0 k a1 t373 t380 true l0_0) else ((laws_eqIntS.f k t380 t373).bind fun t390 => (laws_FnExactSlots.j0 k a1 t373 t380 (!t390) l0_0))) = some r := H
        have A17 := Aside0.mk A170
        clear A170
        have HC18 := Aside0.mk H
        clear H
        go_enter Try.func6, Try.ntmps6
        try go_wp2_with (first | ((with_reducible refine gate_dst (N := 2) rfl ?_); refine box_event ?hg (N := 2) ?hd (cs := #[.slice A0_0 l0_0.length c0_0]) (t := 24) ?hr ?_; (case hd => rfl); (case hg => rfl); (case hr => first | (go_simp; done) | (go_simp; rfl)); intro gb368 hg w19 hbox hb; have n0_ := Aside0.mk (below_step (by repeat (first | (with_reducible first | exact HB.out | apply below_alloc | apply pw_below_drewN | apply below_drew1) | exact HB.out)) hb); have n1_ := Aside0.mk (hbox); have n2_ := Aside0.mk ((by rw [hg]; exact (below_size (by repeat (first | (with_reducible first | exact HB.out | apply below_alloc | apply pw_below_drewN | apply below_drew1) | exact HB.out))) : w.heap.size ≤ gb368)); have n3_ := Aside0.mk ((by rw [hg]; exact (below_size (by repeat (first | (with_reducible first | exact HB.out | apply below_alloc | apply pw_below_drewN | apply below_drew1) | exact HB.out))) : w.heap.size ≤ gb368)); clear HB; have HB := n0_; have BK368 := n1_; have GW368 := n2_; have GE368 := n3_; clear n0_ n1_ n2_ n3_; clear hb hbox hg; have hcz20_0 : w19.cell? ⟨gb368, 0, none⟩ = some (.slice A0_0 l0_0.length c0_0) := (blk_cell BK368.out 0).trans rfl; have hfz20_0 := blk_frozen BK368.out 0) | ((with_reducible refine gate_callee (f := 15) rfl ?_); refine goesL_ (some 15) rfl rfl Try.func15 (by kernel_rfl) rfl #[.agg #[.slice A0_0 l0_0.length c0_0], .int .i64 1048576] rfl (by (try simp only [List.map_toArray, List.map_cons, List.map_nil]); first | done | rfl | (simp only [List.length_drop, List.length_take]; rfl)) ?_; (with_reducible refine (laws_szSlab.calls _ _ l0_0 1048576 t369 _ ?side1 ?side2 A3.out).mono ?_); (case side1 => repeat (first | exact (Kd.C_below HR0_0.out HB.out) | (with_reducible refine Kd.C_alloc ?_ _) | (with_reducible refine Kd.C_drewN ?_ _) | (with_reducible refine Kd.C_drew ?_))); (case side2 => exact HC0_0.out); rintro e w21 ⟨rfl, hb⟩; refine ⟨_, rfl, ?_⟩; have n0_ := Aside0.mk (blk_below (g := gb368) (o := .cells #[.slice A0_0 l0_0.length c0_0] 24 (0, 0)) (by (with_reducible repeat (first | refine blk_drewN ?_ _ | refine blk_drew ?_ | refine blk_alloc ?_ _)); exact BK368.out) hb); have n1_ := Aside0.mk (below_step (by repeat (first | (with_reducible first | exact HB.out | apply below_alloc | apply pw_below_drewN | apply below_drew1 | refine below_set ?_ GE368.out) | exact HB.out)) hb); clear BK368; clear HB; have BK368 := n0_; have HB := n1_; clear n0_ n1_; (try clear hb); (try clear hb2); (try clear hk); (try clear hi); have hcz22_0 : w21.cell? ⟨gb368, 0, none⟩ = some (.slice A0_0 l0_0.length c0_0) := (blk_cell BK368.out 0).trans rfl; have hfz22_0 := blk_frozen BK368.out 0) | ((with_reducible refine gate_callee (f := 17) rfl ?_); refine goesL_ (some 19) rfl rfl Try.func17 (by kernel_rfl) rfl #[.agg #[.slice A0_0 l0_0.length c0_0]] rfl (by (try simp only [List.map_toArray, List.map_cons, List.map_nil]); first | done | rfl | (simp only [List.length_drop, List.length_take]; rfl)) ?_; (with_reducible refine (laws_toSlab.calls k _ _ l0_0 t370 _ ?side1 ?side2 A8.out).mono ?_); (case side1 => repeat (first | exact (Kd.C_below HR0_0.out HB.out) | (with_reducible refine Kd.C_alloc ?_ _) | (with_reducible refine Kd.C_drewN ?_ _) | (with_reducible refine Kd.C_drew ?_))); (case side2 => exact HC0_0.out); rintro e w23 ⟨v371, rfl, ho0, hb⟩; refine ⟨_, rfl, ?_⟩; have n0_ := Aside0.mk (Kd.R_lower ho0 (below_size (by repeat (first | (with_reducible first | exact HB.out | apply below_alloc | apply pw_below_drewN | apply below_drew1 | refine below_set ?_ GE368.out) | exact HB.out)))); have n1_ := Aside0.mk (blk_below (g := gb368) (o := .cells #[.slice A0_0 l0_0.length c0_0] 24 (0, 0)) (by (with_reducible repeat (first | refine blk_drewN ?_ _ | refine blk_drew ?_ | refine blk_alloc ?_ _)); exact BK368.out) hb); have n2_ := Aside0.mk (below_step (by repeat (first | (with_reducible first | exact HB.out | apply below_alloc | apply pw_below_drewN | apply below_drew1 | refine below_set ?_ GE368.out) | exact HB.out)) hb); clear BK368; clear HB; have HO372 := n0_; have BK368 := n1_; have HB := n2_; clear n0_ n1_ n2_; (try clear hb); (try clear hb2); (try clear hk); (try clear hi); (try clear ho0); obtain ⟨Ao24, co24, eo24⟩ := Kd.R_slice HO372.out; subst eo24) | ((with_reducible refine gate_callee (f := 26) rfl ?_); refine goesL_ (some 21) rfl rfl Try.func26 (by kernel_rfl) rfl #[.agg #[.slice Ao24 t370.length co24], .int .i64 a1] rfl (by (try simp only [List.map_toArray, List.map_cons, List.map_nil]); first | done | rfl | (simp only [List.length_drop, List.length_take]; rfl)) ?_; (with_reducible refine (spec_Slots.calls k _ _ t370 a1 t373 _ ?side1 ?side2 A9.out).mono ?_); (case side1 => repeat (first | exact (Kd.R_reads' HO372.out).2.2 | (with_reducible refine Kd.C_alloc ?_ _) | (with_reducible refine Kd.C_drewN ?_ _) | (with_reducible refine Kd.C_drew ?_))); (case side2 => exact (Kd.R_reads' HO372.out).2.1); rintro e w25 ⟨v374, rfl, ho0, hb⟩; refine ⟨_, rfl, ?_⟩; have n0_ := Aside0.mk (Kd.R_elder' (by (with_reducible repeat (first | apply Kd.R_alloc | apply Kd.R_drewN | apply Kd.R_drew)); exact HO372.out) (Kd.R_base ho0) hb); have n1_ := Aside0.mk (Kd.R_lower (Kd.R_new' ho0 (Kd.R_lt (by (with_reducible repeat (first | apply Kd.R_alloc | apply Kd.R_drewN | apply Kd.R_drew)); exact HO372.out))) (below_size (by repeat (first | (with_reducible first | exact HB.out | apply below_alloc | apply pw_below_drewN | apply below_drew1 | refine below_set ?_ GE368.out) | exact HB.out)))); have n2_ := Aside0.mk (blk_below (g := gb368) (o := .cells #[.slice A0_0 l0_0.length c0_0] 24 (0, 0)) (by (with_reducible repeat (first | refine blk_drewN ?_ _ | refine blk_drew ?_ | refine blk_alloc ?_ _)); exact BK368.out) hb); have n3_ := Aside0.mk (below_step (by repeat (first | (with_reducible first | exact HB.out | apply below_alloc | apply pw_below_drewN | apply below_drew1 | refine below_set ?_ GE368.out) | exact HB.out)) hb); clear HO372; clear BK368; clear HB; have HO372 := n0_; have HO375 := n1_; have BK368 := n2_; have HB := n3_; clear n0_ n1_ n2_ n3_; (try clear hb); (try clear hb2); (try clear hk); (try clear hi); (try clear ho0); have hcz26_0 : w25.cell? ⟨gb368, 0, none⟩ = some (.slice A0_0 l0_0.length c0_0) := (blk_cell BK368.out 0).trans rfl; have hfz26_0 := blk_frozen BK368.out 0) | ((with_reducible refine gate_callee (f := 17) rfl ?_); refine goesL_ (some 23) rfl rfl Try.func17 (by kernel_rfl) rfl #[.agg #[.slice A0_0 l0_0.length c0_0]] rfl (by (try simp only [List.map_toArray, List.map_cons, List.map_nil]); first | done | rfl | (simp only [List.length_drop, List.length_take]; rfl)) ?_; (with_reducible refine (laws_toSlab.calls k _ _ l0_0 t376 _ ?side1 ?side2 A10.out).mono ?_); (case side1 => repeat (first | exact (Kd.C_below HR0_0.out HB.out) | (with_reducible refine Kd.C_alloc ?_ _) | (with_reducible refine Kd.C_drewN ?_ _) | (with_reducible refine Kd.C_drew ?_))); (case side2 => exact HC0_0.out); rintro e w27 ⟨v377, rfl, ho0, hb⟩; refine ⟨_, rfl, ?_⟩; have n0_ := Aside0.mk (Kd.R_elder' (by (with_reducible repeat (first | apply Kd.R_alloc | apply Kd.R_drewN | apply Kd.R_drew)); exact HO372.out) (Kd.R_base ho0) hb); have n1_ := Aside0.mk (Kd.R_elder' (by (with_reducible repeat (first | apply Kd.R_alloc | apply Kd.R_drewN | apply Kd.R_drew)); exact HO375.out) (Kd.R_base ho0) hb); have n2_ := Aside0.mk (Kd.R_lower (Kd.R_new' (Kd.R_new' ho0 (Kd.R_lt (by (with_reducible repeat (first | apply Kd.R_alloc | apply Kd.R_drewN | apply Kd.R_drew)); exact HO372.out))) (Kd.R_lt (by (with_reducible repeat (first | apply Kd.R_alloc | apply Kd.R_drewN | apply Kd.R_drew)); exact HO375.out))) (below_size (by repeat (first | (with_reducible first | exact HB.out | apply below_alloc | apply pw_below_drewN | apply below_drew1 | refine below_set ?_ GE368.out) | exact HB.out)))); have n3_ := Aside0.mk (blk_below (g := gb368) (o := .cells #[.slice A0_0 l0_0.length c0_0] 24 (0, 0)) (by (with_reducible repeat (first | refine blk_drewN ?_ _ | refine blk_drew ?_ | refine blk_alloc ?_ _)); exact BK368.out) hb); have n4_ := Aside0.mk (below_step (by repeat (first | (with_reducible first | exact HB.out | apply below_alloc | apply pw_below_drewN | apply below_drew1 | refine below_set ?_ GE368.out) | exact HB.out)) hb); clear HO372; clear HO375; clear BK368; clear HB; have HO372 := n0_; have HO375 := n1_; have HO378 := n2_; have BK368 := n3_; have HB := n4_; clear n0_ n1_ n2_ n3_ n4_; (try clear hb); (try clear hb2); (try clear hk); (try clear hi); (try clear ho0)) | ((with_reducible refine gate_dst (N := 7) rfl ?_); refine box_event ?hg (N := 7) ?hd (cs := #[.slice none 0 0]) (t := 27) ?hr ?_; (case hd => rfl); (case hg => rfl); (case hr => first | (go_simp; done) | (go_simp; rfl)); intro gb379 hg w28 hbox hb; have n0_ := Aside0.mk (Kd.R_below (by (with_reducible repeat (first | apply Kd.R_alloc | apply Kd.R_drewN | apply Kd.R_drew)); exact HO372.out) hb); have n1_ := Aside0.mk (Kd.R_below (by (with_reducible repeat (first | apply Kd.R_alloc | apply Kd.R_drewN | apply Kd.R_drew)); exact HO375.out) hb); have n2_ := Aside0.mk (Kd.R_below (by (with_reducible repeat (first | apply Kd.R_alloc | apply Kd.R_drewN | apply Kd.R_drew)); exact HO378.out) hb); have n3_ := Aside0.mk (blk_below (g := gb368) (o := .cells #[.slice A0_0 l0_0.length c0_0] 24 (0, 0)) (by (with_reducible repeat (first | refine blk_drewN ?_ _ | refine blk_drew ?_ | refine blk_alloc ?_ _)); exact BK368.out) hb); have n4_ := Aside0.mk (below_step (by repeat (first | (with_reducible first | exact HB.out | apply below_alloc | apply pw_below_drewN | apply below_drew1 | refine below_set ?_ GE368.out) | exact HB.out)) hb); have n5_ := Aside0.mk (hbox); have n6_ := Aside0.mk ((by rw [hg]; exact (below_size (by repeat (first | (with_reducible first | exact HB.out | apply below_alloc | apply pw_below_drewN | apply below_drew1 | refine below_set ?_ GE368.out) | exact HB.out))) : w.heap.size ≤ gb379)); have n7_ := Aside0.mk ((by rw [hg]; exact (below_size (by repeat (first | (with_reducible first | exact HB.out | apply below_alloc | apply pw_below_drewN | apply below_drew1 | refine below_set ?_ GE368.out) | exact HB.out))) : w.heap.size ≤ gb379)); have n8_ := Aside0.mk ((by rw [hg]; exact Nat.ne_of_lt (blk_lt (g := gb368) (o := .cells #[.slice A0_0 l0_0.length c0_0] 24 (0, 0)) (by (with_reducible repeat (first | refine blk_drewN ?_ _ | refine blk_drew ?_ | refine blk_alloc ?_ _)); exact BK368.out)) : gb368 ≠ gb379)); have n9_ := Aside0.mk ((by rw [hg]; exact Nat.ne_of_gt (blk_lt (g := gb368) (o := .cells #[.slice A0_0 l0_0.length c0_0] 24 (0, 0)) (by (with_reducible repeat (first | refine blk_drewN ?_ _ | refine blk_drew ?_ | refine blk_alloc ?_ _)); exact BK368.out)) : gb379 ≠ gb368)); clear HO372; clear HO375; clear HO378; clear BK368; clear HB; have HO372 := n0_; have HO375 := n1_; have HO378 := n2_; have BK368 := n3_; have HB := n4_; have BK379 := n5_; have GW379 := n6_; have GE379 := n7_; have NB368_379 := n8_; have NB379_368 := n9_; clear n0_ n1_ n2_ n3_ n4_ n5_ n6_ n7_ n8_ n9_; clear hb hbox hg; obtain ⟨Ao29, co29, eo29⟩ := Kd.R_slice HO378.out; subst eo29; have hnb30 := NB379_368.out; have hnc30 := NB368_379.out; have hcz31_0 : w28.cell? ⟨gb379, 0, none⟩ = some (.slice none 0 0) := (blk_cell BK379.out 0).trans rfl; have hfz31_0 := blk_frozen BK379.out 0) | ((with_reducible refine gate_callee (f := 27) rfl ?_); refine goesL_ (some 26) rfl rfl Try.func27 (by kernel_rfl) rfl #[.agg #[.slice Ao29 t376.length co29], .int .i64 a1] rfl (by (try simp only [List.map_toArray, List.map_cons, List.map_nil]); first | done | rfl | (simp only [List.length_drop, List.length_take]; rfl)) ?_; (with_reducible refine (impl_Slots.calls k _ _ t376 a1 t380 _ ?side1 ?side2 A11.out).mono ?_); (case side1 => refine (Kd.R_reads' (e := 3) (base := w.heap.size) (ok := fun k_ => ((True ∧ some k_ ≠ (.slice Ao24 t370.length co24 : Value).ownBlock) ∧ some k_ ≠ (v374 : Value).ownBlock)) (n := t376.length) (c := co29) ?_).2.2; exact (by (with_reducible repeat (first | apply Kd.R_alloc | apply Kd.R_drewN | apply Kd.R_drew)); exact (Kd.R_mono (Kd.R_far (p := ⟨gb379, 0, none⟩) (Kd.R_types HO378.out BK379.out (by decide)) (fun _ hk => hk.2) (.slice Ao29 t376.length co29)) (fun _ h_ => h_.1)))); (case side2 => exact (Kd.R_reads' HO378.out).2.1); rintro e w32 ⟨v381, rfl, ho0, hb⟩; refine ⟨_, rfl, ?_⟩; have n0_ := Aside0.mk (Kd.R_elder' (by (with_reducible repeat (first | apply Kd.R_alloc | apply Kd.R_drewN | apply Kd.R_drew)); exact (Kd.R_mono (Kd.R_far (p := ⟨gb379, 0, none⟩) (Kd.R_types HO372.out BK379.out (by decide)) (fun _ hk => hk.2) (.slice Ao29 t376.length co29)) (fun _ h_ => h_.1))) (Kd.R_base ho0) hb); have n1_ := Aside0.mk (Kd.R_elder' (by (with_reducible repeat (first | apply Kd.R_alloc | apply Kd.R_drewN | apply Kd.R_drew)); exact (Kd.R_mono (Kd.R_far (p := ⟨gb379, 0, none⟩) (Kd.R_types HO375.out BK379.out (by decide)) (fun _ hk => hk.2) (.slice Ao29 t376.length co29)) (fun _ h_ => h_.1))) (Kd.R_base ho0) hb); have n2_ := Aside0.mk (Kd.R_elder' (by (with_reducible repeat (first | apply Kd.R_alloc | apply Kd.R_drewN | apply Kd.R_drew)); exact (Kd.R_mono (Kd.R_far (p := ⟨gb379, 0, none⟩) (Kd.R_types HO378.out BK379.out (by decide)) (fun _ hk => hk.2) (.slice Ao29 t376.length co29)) (fun _ h_ => h_.1))) (Kd.R_base ho0) hb); have n3_ := Aside0.mk (Kd.R_lower (Kd.R_new' (Kd.R_new' (Kd.R_new' ho0 (Kd.R_lt (by (with_reducible repeat (first | apply Kd.R_alloc | apply Kd.R_drewN | apply Kd.R_drew)); exact (Kd.R_mono (Kd.R_far (p := ⟨gb379, 0, none⟩) (Kd.R_types HO372.out BK379.out (by decide)) (fun _ hk => hk.2) (.slice Ao29 t376.length co29)) (fun _ h_ => h_.1))))) (Kd.R_lt (by (with_reducible repeat (first | apply Kd.R_alloc | apply Kd.R_drewN | apply Kd.R_drew)); exact (Kd.R_mono (Kd.R_far (p := ⟨gb379, 0, none⟩) (Kd.R_types HO375.out BK379.out (by decide)) (fun _ hk => hk.2) (.slice Ao29 t376.length co29)) (fun _ h_ => h_.1))))) (Kd.R_lt (by (with_reducible repeat (first | apply Kd.R_alloc | apply Kd.R_drewN | apply Kd.R_drew)); exact (Kd.R_mono (Kd.R_far (p := ⟨gb379, 0, none⟩) (Kd.R_types HO378.out BK379.out (by decide)) (fun _ hk => hk.2) (.slice Ao29 t376.length co29)) (fun _ h_ => h_.1))))) (below_size (by repeat (first | (with_reducible first | exact HB.out | apply below_alloc | apply pw_below_drewN | apply below_drew1 | refine below_set ?_ GE368.out | refine below_set ?_ GE379.out) | exact HB.out)))); have n4_ := Aside0.mk (blk_below (g := gb368) (o := .cells #[.slice A0_0 l0_0.length c0_0] 24 (0, 0)) (by (with_reducible repeat (first | refine blk_drewN ?_ _ | refine blk_drew ?_ | refine blk_alloc ?_ _)); refine blk_far ?_ NB368_379.out _; (with_reducible repeat (first | refine blk_drewN ?_ _ | refine blk_drew ?_ | refine blk_alloc ?_ _)); exact BK368.out) hb); have n5_ := Aside0.mk (blk_below (g := gb379) (o := .cells #[.slice Ao29 t376.length co29] 27 (0, 0)) (by (with_reducible repeat (first | refine blk_drewN ?_ _ | refine blk_drew ?_ | refine blk_alloc ?_ _)); refine blk_put (cs := #[.slice none 0 0]) ?_ 0 _ rfl; (with_reducible repeat (first | refine blk_drewN ?_ _ | refine blk_drew ?_ | refine blk_alloc ?_ _)); exact BK379.out) hb); have n6_ := Aside0.mk (below_step (by repeat (first | (with_reducible first | exact HB.out | apply below_alloc | apply pw_below_drewN | apply below_drew1 | refine below_set ?_ GE368.out | refine below_set ?_ GE379.out) | exact HB.out)) hb); clear HO372; clear HO375; clear HO378; clear BK368; clear BK379; clear HB; have HO372 := n0_; have HO375 := n1_; have HO378 := n2_; have HO382 := n3_; have BK368 := n4_; have BK379 := n5_; have HB := n6_; clear n0_ n1_ n2_ n3_ n4_ n5_ n6_; (try clear hb); (try clear hb2); (try clear hk); (try clear hi); (try clear ho0); obtain ⟨Ao33, co33, eo33⟩ := Kd.R_slice HO382.out; subst eo33; obtain ⟨Ao34, co34, eo34⟩ := Kd.R_slice HO375.out; subst eo34) | ((with_reducible refine gate_callee (f := 28) rfl ?_); refine goesL_ (some 29) rfl rfl Try.func28 (by kernel_rfl) rfl #[.slice Ao33 t380.length co33, .slice Ao34 t373.length co34] rfl (by (try simp only [List.map_toArray, List.map_cons, List.map_nil]); first | done | rfl | (simp only [List.length_drop, List.length_take]; rfl)) ?_; (with_reducible refine (laws_eqIntS.calls k _ _ t380 _ _ t373 true _ ?side1 ?side2 ?side3 ?side4 A12.out).mono ?_); (case side1 => repeat (first | exact (Kd.R_reads' HO382.out).2.2 | (with_reducible refine Kd.C_alloc ?_ _) | (with_reducible refine Kd.C_drewN ?_ _) | (with_reducible refine Kd.C_drew ?_))); (case side2 => exact (Kd.R_reads' HO382.out).2.1); (case side3 => repeat (first | exact (Kd.R_reads' HO375.out).2.2 | (with_reducible refine Kd.C_alloc ?_ _) | (with_reducible refine Kd.C_drewN ?_ _) | (with_reducible refine Kd.C_drew ?_))); (case side4 => exact (Kd.R_reads' HO375.out).2.1); rintro e w' ⟨rfl, ⟨nd, rfl⟩⟩; refine ⟨_, rfl, ?_⟩))
        (try (rw [drewN_self w32]; generalize hq_ : World.drewN w32 _ = w32; have n0_ : Aside0 (Kd.R (Kd.int .i64) 3 w32 w.heap.size (fun k_ => (((True ∧ some k_ ≠ (.slice Ao34 t373.length co34 : Value).ownBlock) ∧ some k_ ≠ (.slice Ao29 t376.length co29 : Value).ownBlock) ∧ some k_ ≠ (.slice Ao33 t380.length co33 : Value).ownBlock)) (.slice Ao24 t370.length co24) t370) := ⟨by rw [← hq_]; exact (by (with_reducible repeat (first | apply Kd.R_alloc | apply Kd.R_drewN | apply Kd.R_drew)); exact HO372.out)⟩; have n1_ : Aside0 (Kd.R (Kd.int .i64) 3 w32 w.heap.size (fun k_ => (((True ∧ some k_ ≠ (.slice Ao24 t370.length co24 : Value).ownBlock) ∧ some k_ ≠ (.slice Ao29 t376.length co29 : Value).ownBlock) ∧ some k_ ≠ (.slice Ao33 t380.length co33 : Value).ownBlock)) (.slice Ao34 t373.length co34) t373) := ⟨by rw [← hq_]; exact (by (with_reducible repeat (first | apply Kd.R_alloc | apply Kd.R_drewN | apply Kd.R_drew)); exact HO375.out)⟩; have n2_ : Aside0 (Kd.R (Kd.int .i64) 3 w32 w.heap.size (fun k_ => (((True ∧ some k_ ≠ (.slice Ao24 t370.length co24 : Value).ownBlock) ∧ some k_ ≠ (.slice Ao34 t373.length co34 : Value).ownBlock) ∧ some k_ ≠ (.slice Ao33 t380.length co33 : Value).ownBlock)) (.slice Ao29 t376.length co29) t376) := ⟨by rw [← hq_]; exact (by (with_reducible repeat (first | apply Kd.R_alloc | apply Kd.R_drewN | apply Kd.R_drew)); exact HO378.out)⟩; have n3_ : Aside0 (Kd.R (Kd.int .i64) 3 w32 w.heap.size (fun k_ => (((True ∧ some k_ ≠ (.slice Ao24 t370.length co24 : Value).ownBlock) ∧ some k_ ≠ (.slice Ao34 t373.length co34 : Value).ownBlock) ∧ some k_ ≠ (.slice Ao29 t376.length co29 : Value).ownBlock)) (.slice Ao33 t380.length co33) t380) := ⟨by rw [← hq_]; exact (by (with_reducible repeat (first | apply Kd.R_alloc | apply Kd.R_drewN | apply Kd.R_drew)); exact HO382.out)⟩; have n4_ : Aside0 (w32.heap[gb368]? = some (.cells #[.slice A0_0 l0_0.length c0_0] 24 (0, 0))) := ⟨by rw [← hq_]; exact (by (with_reducible repeat (first | refine blk_drewN ?_ _ | refine blk_drew ?_ | refine blk_alloc ?_ _)); exact BK368.out)⟩; have n5_ : Aside0 (w32.heap[gb379]? = some (.cells #[.slice Ao29 t376.length co29] 27 (0, 0))) := ⟨by rw [← hq_]; exact (by (with_reducible repeat (first | refine blk_drewN ?_ _ | refine blk_drew ?_ | refine blk_alloc ?_ _)); exact BK379.out)⟩; have n6_ : Aside0 (Below w.heap.size w w32) := ⟨by rw [← hq_]; exact (by repeat (first | (with_reducible first | exact HB.out | apply below_alloc | apply pw_below_drewN | apply below_drew1 | refine below_set ?_ GE368.out | refine below_set ?_ GE379.out) | exact HB.out))⟩; clear HO372 HO375 HO378 HO382 BK368 BK379 HB hq_; have HO372 := n0_; have HO375 := n1_; have HO378 := n2_; have HO382 := n3_; have BK368 := n4_; have BK379 := n5_; have HB := n6_; clear n0_ n1_ n2_ n3_ n4_ n5_ n6_))
        have n0_ := Aside0.mk (Kd.R_drew HO372.out)
        have n1_ := Aside0.mk (Kd.R_drew HO375.out)
        have n2_ := Aside0.mk (Kd.R_drew HO378.out)
        have n3_ := Aside0.mk (Kd.R_drew HO382.out)
        have n4_ := Aside0.mk (blk_drew BK368.out)
        have n5_ := Aside0.mk (blk_drew BK379.out)
        have n6_ := Aside0.mk (below_drew1 HB.out)
        clear HO372
        clear HO375
        clear HO378
        clear HO382
        clear BK368
        clear BK379
        clear HB
        have HO372 := n0_
        have HO375 := n1_
        have HO378 := n2_
        have HO382 := n3_
        have BK368 := n4_
        have BK379 := n5_
        have HB := n6_
        clear n0_ n1_ n2_ n3_ n4_ n5_ n6_
        refine start_ (n := 5) (S := fun w' => w'.cell? ⟨gb379, 0, none⟩ = some (.slice Ao29 t376.length co29) ∧ w'.cell? ⟨gb368, 0, none⟩ = some (.slice A0_0 l0_0.length c0_0)) (ds := []) #[false, false, false, false, false] (by kernel_rfl) rfl rfl ⟨(blk_cell BK379.out 0).trans rfl, (blk_cell BK368.out 0).trans rfl⟩ (fun hHeld => ?_)
        generalize w32.drew = w35 at HO372 HO375 HO378 HO382 BK368 BK379 HB hHeld ⊢
        refine take_ (i := 0) (N := some 31) (v := ?_) (a' := ?_) #[true, false, false, false, false] rfl rfl (by kernel_rfl) (fun _ _ _ h => h) (Or.inl ⟨by rfl, ?_⟩) hHeld ?_ ?_
        rotate_left
        · rintro w' ⟨s0, s1⟩
          go_simp
          with_reducible rfl
        rotate_left
        · simp only [Act.put, List.setIfInBounds_toArray, List.set_cons_zero, List.set_cons_succ, i64_w, i32_w]
          rfl
        refine take_ (i := 1) (N := some 32) (v := ?_) (a' := ?_) #[true, true, false, false, false] rfl rfl (by kernel_rfl) (fun _ _ _ h => h) (Or.inl ⟨by rfl, ?_⟩) hHeld ?_ ?_
        rotate_left
        · rintro w' ⟨s0, s1⟩
          go_simp
          with_reducible rfl
        rotate_left
        · simp only [Act.put, List.setIfInBounds_toArray, List.set_cons_zero, List.set_cons_succ, i64_w, i32_w]
          rfl
        refine one_ (i := 2) (N := some 33) #[true, true, true, false, false] rfl rfl (by kernel_rfl) (by decide) (fun K hK => ?_)
        refine goes_ Try.func17 (by kernel_rfl) rfl #[.agg #[.slice A0_0 l0_0.length c0_0]] (by rfl) rfl rfl (by (try simp only [List.map_toArray, List.map_cons, List.map_nil]); first | done | rfl | (simp only [List.length_drop, List.length_take]; rfl)) ?_
        with_reducible refine (laws_toSlab.calls k _ _ l0_0 t384 _ ?side1 ?side2 A14.out).mono ?_
        (case side1 => repeat (first | exact (Kd.C_below HR0_0.out HB.out) | (with_reducible refine Kd.C_alloc ?_ _) | (with_reducible refine Kd.C_drewN ?_ _) | (with_reducible refine Kd.C_drew ?_)))
        (case side2 => exact HC0_0.out)
        rintro e w36 ⟨v385, rfl, ho0, hb⟩
        refine ⟨_, rfl, ?_⟩
        have n0_ := Aside0.mk (Kd.R_elder' (by (with_reducible repeat (first | apply Kd.R_alloc | apply Kd.R_drewN | apply Kd.R_drew)); exact HO372.out) (Kd.R_base ho0) hb)
        have n1_ := Aside0.mk (Kd.R_elder' (by (with_reducible repeat (first | apply Kd.R_alloc | apply Kd.R_drewN | apply Kd.R_drew)); exact HO375.out) (Kd.R_base ho0) hb)
        have n2_ := Aside0.mk (Kd.R_elder' (by (with_reducible repeat (first | apply Kd.R_alloc | apply Kd.R_drewN | apply Kd.R_drew)); exact HO378.out) (Kd.R_base ho0) hb)
        have n3_ := Aside0.mk (Kd.R_elder' (by (with_reducible repeat (first | apply Kd.R_alloc | apply Kd.R_drewN | apply Kd.R_drew)); exact HO382.out) (Kd.R_base ho0) hb)
        have n4_ := Aside0.mk (Kd.R_lower (Kd.R_new' (Kd.R_new' (Kd.R_new' (Kd.R_new' ho0 (Kd.R_lt (by (with_reducible repeat (first | apply Kd.R_alloc | apply Kd.R_drewN | apply Kd.R_drew)); exact HO372.out))) (Kd.R_lt (by (with_reducible repeat (first | apply Kd.R_alloc | apply Kd.R_drewN | apply Kd.R_drew)); exact HO375.out))) (Kd.R_lt (by (with_reducible repeat (first | apply Kd.R_alloc | apply Kd.R_drewN | apply Kd.R_drew)); exact HO378.out))) (Kd.R_lt (by (with_reducible repeat (first | apply Kd.R_alloc | apply Kd.R_drewN | apply Kd.R_drew)); exact HO382.out))) (below_size (by repeat (first | (with_reducible first | exact HB.out | apply below_alloc | apply pw_below_drewN | apply below_drew1 | refine below_set ?_ GE368.out | refine below_set ?_ GE379.out) | exact HB.out))))
        have n5_ := Aside0.mk (blk_below (g := gb368) (o := .cells #[.slice A0_0 l0_0.length c0_0] 24 (0, 0)) (by (with_reducible repeat (first | refine blk_drewN ?_ _ | refine blk_drew ?_ | refine blk_alloc ?_ _)); exact BK368.out) hb)
        have n6_ := Aside0.mk (blk_below (g := gb379) (o := .cells #[.slice Ao29 t376.length co29] 27 (0, 0)) (by (with_reducible repeat (first | refine blk_drewN ?_ _ | refine blk_drew ?_ | refine blk_alloc ?_ _)); exact BK379.out) hb)
        have n7_ := Aside0.mk (below_step (by repeat (first | (with_reducible first | exact HB.out | apply below_alloc | apply pw_below_drewN | apply below_drew1 | refine below_set ?_ GE368.out | refine below_set ?_ GE379.out) | exact HB.out)) hb)
        clear HO372
        clear HO375
        clear HO378
        clear HO382
        clear BK368
        clear BK379
        clear HB
        have HO372 := n0_
        have HO375 := n1_
        have HO378 := n2_
        have HO382 := n3_
        have HO386 := n4_
        have BK368 := n5_
        have BK379 := n6_
        have HB := n7_
        clear n0_ n1_ n2_ n3_ n4_ n5_ n6_ n7_
        (try clear hb)
        (try clear hb2)
        (try clear hk)
        (try clear hi)
        (try clear ho0)
        obtain ⟨Ao37, co37, eo37⟩ := Kd.R_slice HO386.out
        (first | subst eo37 | (injection eo37 with f1_ f2_ f3_; have f4_ := f1_.symm; have f5_ := f3_.symm; clear f1_ f2_ f3_; subst f4_; subst f5_))
        refine hK.out _ _ ⟨(blk_cell BK379.out 0).trans rfl, (blk_cell BK368.out 0).trans rfl⟩ (fun hHeld => ?_)
        clear hK K
        refine norm_ (a' := ?_) ?_ ?_
        rotate_left
        · show Act.put _ (some 33) _ = _
          simp only [Act.put, List.setIfInBounds_toArray, List.set_cons_zero, List.set_cons_succ, i64_w, i32_w]
          rfl
        refine one_ (i := 3) (N := some 34) #[true, true, true, true, false] rfl rfl (by kernel_rfl) (by decide) (fun K hK => ?_)
        refine goes_ Try.func19 (by kernel_rfl) rfl #[.agg #[.slice Ao29 t376.length co29], .agg #[.slice Ao37 t384.length co37]] (by rfl) rfl rfl (by (try simp only [List.map_toArray, List.map_cons, List.map_nil]); first | done | rfl | (simp only [List.length_drop, List.length_take]; rfl)) ?_
        with_reducible refine (laws_eqSlab.calls k _ _ t376 _ _ t384 true _ ?side1 ?side2 ?side3 ?side4 A15.out).mono ?_
        (case side1 => repeat (first | exact (Kd.R_reads' HO378.out).2.2 | (with_reducible refine Kd.C_alloc ?_ _) | (with_reducible refine Kd.C_drewN ?_ _) | (with_reducible refine Kd.C_drew ?_)))
        (case side2 => exact (Kd.R_reads' HO378.out).2.1)
        (case side3 => repeat (first | exact (Kd.R_reads' HO386.out).2.2 | (with_reducible refine Kd.C_alloc ?_ _) | (with_reducible refine Kd.C_drewN ?_ _) | (with_reducible refine Kd.C_drew ?_)))
        (case side4 => exact (Kd.R_reads' HO386.out).2.1)
        rintro e w38 ⟨rfl, hb⟩
        refine ⟨_, rfl, ?_⟩
        have n0_ := Aside0.mk (Kd.R_below (by (with_reducible repeat (first | apply Kd.R_alloc | apply Kd.R_drewN | apply Kd.R_drew)); exact HO372.out) hb)
        have n1_ := Aside0.mk (Kd.R_below (by (with_reducible repeat (first | apply Kd.R_alloc | apply Kd.R_drewN | apply Kd.R_drew)); exact HO375.out) hb)
        have n2_ := Aside0.mk (Kd.R_below (by (with_reducible repeat (first | apply Kd.R_alloc | apply Kd.R_drewN | apply Kd.R_drew)); exact HO378.out) hb)
        have n3_ := Aside0.mk (Kd.R_below (by (with_reducible repeat (first | apply Kd.R_alloc | apply Kd.R_drewN | apply Kd.R_drew)); exact HO382.out) hb)
        have n4_ := Aside0.mk (Kd.R_below (by (with_reducible repeat (first | apply Kd.R_alloc | apply Kd.R_drewN | apply Kd.R_drew)); exact HO386.out) hb)
        have n5_ := Aside0.mk (blk_below (g := gb368) (o := .cells #[.slice A0_0 l0_0.length c0_0] 24 (0, 0)) (by (with_reducible repeat (first | refine blk_drewN ?_ _ | refine blk_drew ?_ | refine blk_alloc ?_ _)); exact BK368.out) hb)
        have n6_ := Aside0.mk (blk_below (g := gb379) (o := .cells #[.slice Ao29 t376.length co29] 27 (0, 0)) (by (with_reducible repeat (first | refine blk_drewN ?_ _ | refine blk_drew ?_ | refine blk_alloc ?_ _)); exact BK379.out) hb)
        have n7_ := Aside0.mk (below_step (by repeat (first | (with_reducible first | exact HB.out | apply below_alloc | apply pw_below_drewN | apply below_drew1 | refine below_set ?_ GE368.out | refine below_set ?_ GE379.out) | exact HB.out)) hb)
        clear HO372
        clear HO375
        clear HO378
        clear HO382
        clear HO386
        clear BK368
        clear BK379
        clear HB
        have HO372 := n0_
        have HO375 := n1_
        have HO378 := n2_
        have HO382 := n3_
        have HO386 := n4_
        have BK368 := n5_
        have BK379 := n6_
        have HB := n7_
        clear n0_ n1_ n2_ n3_ n4_ n5_ n6_ n7_
        (try clear hb)
        (try clear hb2)
        (try clear hk)
        (try clear hi)
        refine hK.out _ _ ⟨(blk_cell BK379.out 0).trans rfl, (blk_cell BK368.out 0).trans rfl⟩ (fun hHeld => ?_)
        clear hK K
        refine norm_ (a' := ?_) ?_ ?_
        rotate_left
        · show Act.put _ (some 34) _ = _
          simp only [Act.put, List.setIfInBounds_toArray, List.set_cons_zero, List.set_cons_succ, i64_w, i32_w]
          rfl
        refine pure_ (i := 4) (N := some 35) (v := ?_) (a' := ?_) #[true, true, true, true, true] rfl rfl (by kernel_rfl) (fun _ _ _ h => h) (Or.inl ⟨by rfl, ?_⟩) ?_ ?_
        rotate_left
        · intro w'
          go_simp
          with_reducible rfl
        rotate_left
        · simp only [Act.put, List.setIfInBounds_toArray, List.set_cons_zero, List.set_cons_succ, i64_w, i32_w]
          rfl
        refine done_ (by kernel_rfl) ?_
        have hcz39_0 : w38.cell? ⟨gb379, 0, none⟩ = some (.slice Ao29 t376.length co29) := (blk_cell BK379.out 0).trans rfl
        have hfz39_0 := blk_frozen BK379.out 0
        go_upto_region 14 with (first | ((with_reducible refine gate_callee (f := 24) rfl ?_); refine goesL_ (some 38) rfl rfl Try.func24 (by kernel_rfl) rfl #[.agg #[.slice Ao29 t376.length co29], .int .i64 1] rfl (by (try simp only [List.map_toArray, List.map_cons, List.map_nil]); first | done | rfl | (simp only [List.length_drop, List.length_take]; rfl)) ?_; (with_reducible refine (laws_markSlab.calls k (fun k_ => some k_ = (.slice Ao29 t376.length co29 : Value).ownBlock) (.slice Ao29 t376.length co29) t376 1 t388 t389 w _ ?side1 ?side2 A17.out).mono ?_); (case side1 => repeat (first | (with_reducible first | exact HB.out | apply below_alloc | apply pw_below_drewN | apply below_drew1 | refine below_set ?_ GE368.out | refine below_set ?_ GE379.out) | exact HB.out)); (case side2 => exact Kd.R_tight rfl HO378.out); rintro e w40 ⟨rfl, hy0, hb, hkp⟩; refine ⟨_, rfl, ?_⟩; have n0_ := Aside0.mk (blk_kept (by (with_reducible repeat (first | refine blk_drewN ?_ _ | refine blk_drew ?_ | refine blk_alloc ?_ _)); exact BK368.out) hkp (fun hs_ => (fun e_ => (Kd.R_ne HO378.out BK368.out (by decide)) e_) hs_)); have n1_ := Aside0.mk (Kd.R_mono (ok' := fun k_ => some k_ ≠ (.slice Ao34 t373.length co34 : Value).ownBlock ∧ some k_ ≠ (.slice Ao29 t376.length co29 : Value).ownBlock ∧ some k_ ≠ (.slice Ao33 t380.length co33 : Value).ownBlock ∧ some k_ ≠ (.slice Ao37 t384.length co37 : Value).ownBlock) (Kd.R_keptB (HO372.out) hkp (fun k_ hk_ hs_ => by first | exact (hk_.1.1.2) hs_ | (simp_all; done) | grind)) (fun k_ hk_ => by first | exact ⟨hk_.1.1.1.1.2, hk_.1.1.1.2, hk_.1.1.2, hk_.1.2⟩ | (simp_all; done) | grind)); have n2_ := Aside0.mk (Kd.R_mono (ok' := fun k_ => some k_ ≠ (.slice Ao24 t370.length co24 : Value).ownBlock ∧ some k_ ≠ (.slice Ao29 t376.length co29 : Value).ownBlock ∧ some k_ ≠ (.slice Ao33 t380.length co33 : Value).ownBlock ∧ some k_ ≠ (.slice Ao37 t384.length co37 : Value).ownBlock) (Kd.R_keptB (HO375.out) hkp (fun k_ hk_ hs_ => by first | exact (hk_.1.1.2) hs_ | (simp_all; done) | grind)) (fun k_ hk_ => by first | exact ⟨hk_.1.1.1.1.2, hk_.1.1.1.2, hk_.1.1.2, hk_.1.2⟩ | (simp_all; done) | grind)); have n3_ := Aside0.mk (Kd.R_reok rfl hy0 (fun k_ e_ => HO378.out.1 k_ e_)); have n4_ := Aside0.mk (blk_kept (by (with_reducible repeat (first | refine blk_drewN ?_ _ | refine blk_drew ?_ | refine blk_alloc ?_ _)); exact BK379.out) hkp (fun hs_ => (fun e_ => (Kd.R_ne HO378.out BK379.out (by decide)) e_) hs_)); have n5_ := Aside0.mk (Kd.R_mono (ok' := fun k_ => some k_ ≠ (.slice Ao24 t370.length co24 : Value).ownBlock ∧ some k_ ≠ (.slice Ao34 t373.length co34 : Value).ownBlock ∧ some k_ ≠ (.slice Ao29 t376.length co29 : Value).ownBlock ∧ some k_ ≠ (.slice Ao37 t384.length co37 : Value).ownBlock) (Kd.R_keptB (HO382.out) hkp (fun k_ hk_ hs_ => by first | exact (hk_.1.2) hs_ | (simp_all; done) | grind)) (fun k_ hk_ => by first | exact ⟨hk_.1.1.1.1.2, hk_.1.1.1.2, hk_.1.1.2, hk_.1.2⟩ | (simp_all; done) | grind)); have n6_ := Aside0.mk (Kd.R_mono (ok' := fun k_ => some k_ ≠ (.slice Ao24 t370.length co24 : Value).ownBlock ∧ some k_ ≠ (.slice Ao34 t373.length co34 : Value).ownBlock ∧ some k_ ≠ (.slice Ao29 t376.length co29 : Value).ownBlock ∧ some k_ ≠ (.slice Ao33 t380.length co33 : Value).ownBlock) (Kd.R_keptB (HO386.out) hkp (fun k_ hk_ hs_ => by first | exact (hk_.1.2) hs_ | (simp_all; done) | grind)) (fun k_ hk_ => by first | exact ⟨hk_.1.1.1.1.2, hk_.1.1.1.2, hk_.1.1.2, hk_.1.2⟩ | (simp_all; done) | grind)); have n7_ := Aside0.mk (hb); clear BK368; clear HO372; clear HO375; clear HO378; clear BK379; clear HO382; clear HO386; clear HB; have BK368 := n0_; have HO372 := n1_; have HO375 := n2_; have HO378 := n3_; have BK379 := n4_; have HO382 := n5_; have HO386 := n6_; have HB := n7_; clear n0_ n1_ n2_ n3_ n4_ n5_ n6_ n7_; (try clear hb); (try clear hkp); (try clear hy0)))
        (try simp only [Act.put, List.setIfInBounds_toArray, List.set_cons_zero, List.set_cons_succ])
        go_cut [46] (fun v46 wc => ∃ (kq : Nat) (x46_17 : Bool), v46 = .bool x46_17 ∧ Aside0 (laws_FnExactSlots.j0 kq a1 t373 t380 x46_17 l0_0 = some r) ∧ Aside0 (kq ≤ k) ∧ Aside0 (Kd.R (Kd.int .i64) 3 wc w.heap.size (fun k_ => some k_ ≠ ((.slice Ao33 t380.length co33) : Value).ownBlock ∧ some k_ ≠ ((.slice Ao29 t376.length co29) : Value).ownBlock) (.slice Ao34 t373.length co34) t373) ∧ Aside0 (Kd.R (Kd.int .i64) 3 wc w.heap.size (fun k_ => some k_ ≠ ((.slice Ao34 t373.length co34) : Value).ownBlock ∧ some k_ ≠ ((.slice Ao29 t376.length co29) : Value).ownBlock) (.slice Ao33 t380.length co33) t380) ∧ Aside0 (Kd.R (Kd.int .i64) 3 wc w.heap.size (fun k_ => some k_ ≠ ((.slice Ao34 t373.length co34) : Value).ownBlock ∧ some k_ ≠ ((.slice Ao33 t380.length co33) : Value).ownBlock) (.slice Ao29 t376.length co29) t389) ∧ Aside0 (wc.heap[gb368]? = some (.cells #[(.slice A0_0 l0_0.length c0_0)] 24 (0, 0))) ∧ Aside0 (wc.heap[gb379]? = some (.cells #[(.slice Ao29 t376.length co29)] 27 (0, 0))) ∧ Aside0 (Below w.heap.size w wc))
        case first =>
          have H := HC18.out
          clear HC18
          by_cases c41 : t388 < 0
          · rw [if_pos c41] at H
            have c41b0 : decide (t388 < 0) = true := decide_eq_true c41
            clear c41
            (first | rw [c41b0] | (simp only [i64_w, i32_w]; rw [c41b0]) | skip)
            exfalso
            revert H
            cases k with
            | zero => intro H; simp [laws_FnExactSlots.j0] at H
            | succ k9 => intro H; simp only [laws_FnExactSlots.j0] at H; (first | rw [if_pos rfl] at H | rw [if_pos trivial] at H); exact absurd (H.trans (congrArg some hrt.out)) (by simp)
          · rw [if_neg c41] at H
            have c41b0 : decide (t388 < 0) = false := decide_eq_false c41
            clear c41
            (first | rw [c41b0] | (simp only [i64_w, i32_w]; rw [c41b0]) | skip)
            replace H := Option.bind_eq_some_iff.mp H
            obtain ⟨t390, A420, H⟩ := H
            replace H : (laws_FnExactSlots.j0 k a1 t373 t380 (!t390) l0_0) = some r := H
            have A42 := Aside0.mk A420
            clear A420
            have H' := Aside0.mk H
            clear H
            go_wp2_with (first | (go_at_call 28; (with_reducible refine (laws_eqIntS.calls k _ _ t380 _ _ t373 t390 _ ?side1 ?side2 ?side3 ?side4 A42.out).mono ?_); (case side1 => repeat (first | exact (Kd.R_reads' HO382.out).2.2 | (with_reducible refine Kd.C_alloc ?_ _) | (with_reducible refine Kd.C_drewN ?_ _) | (with_reducible refine Kd.C_drew ?_))); (case side2 => exact (Kd.R_reads' HO382.out).2.1); (case side3 => repeat (first | exact (Kd.R_reads' HO375.out).2.2 | (with_reducible refine Kd.C_alloc ?_ _) | (with_reducible refine Kd.C_drewN ?_ _) | (with_reducible refine Kd.C_drew ?_))); (case side4 => exact (Kd.R_reads' HO375.out).2.1); rintro e w' ⟨rfl, ⟨nd, rfl⟩⟩))
            go_meet
            case rel => exact ⟨_, (!t390), (by first | rfl | (simp; done) | (simp [*]; done)), H', ⟨by first | omega | exact Nat.le_refl _⟩, ⟨by (with_reducible repeat (first | apply Kd.R_alloc | apply Kd.R_drewN | apply Kd.R_drew)); exact Kd.R_mono HO375.out (fun _ hk => ⟨hk.2.2.1, hk.2.1⟩)⟩, ⟨by (with_reducible repeat (first | apply Kd.R_alloc | apply Kd.R_drewN | apply Kd.R_drew)); exact Kd.R_mono HO382.out (fun _ hk => ⟨hk.2.1, hk.2.2.1⟩)⟩, ⟨by (with_reducible repeat (first | apply Kd.R_alloc | apply Kd.R_drewN | apply Kd.R_drew)); exact Kd.R_mono HO378.out (fun _ hk => ⟨hk.1.1.2, hk.1.2⟩)⟩, ⟨by (with_reducible repeat (first | refine blk_drewN ?_ _ | refine blk_drew ?_ | refine blk_alloc ?_ _)); exact BK368.out⟩, ⟨by (with_reducible repeat (first | refine blk_drewN ?_ _ | refine blk_drew ?_ | refine blk_alloc ?_ _)); exact BK379.out⟩, ⟨by repeat (first | (with_reducible first | exact HB.out | apply below_alloc | apply pw_below_drewN | apply below_drew1 | refine below_set ?_ GE368.out | refine below_set ?_ GE379.out) | exact HB.out)⟩⟩
        case rest =>
          clear HC18
          try clear c1
          try clear c2
          try clear p2
          try clear c3
          try clear c4
          try clear c4b0
          try clear c6
          try clear c13
          try clear c15
          try clear c16
          try clear c17
          try clear c19
          try clear c24
          try clear c26
          try clear c27
          try clear c28
          try clear c30
          try clear c41
          try clear c41b0
          try clear hcz20_0
          try clear hcz22_0
          try clear hcz26_0
          try clear hcz31_0
          try clear hcz39_0
          try clear hcz6_0
          try clear hfz20_0
          try clear hfz22_0
          try clear hfz26_0
          try clear hfz31_0
          try clear hfz39_0
          try clear hfz6_0
          obtain ⟨kq, x46_17, rfl, HA, HJ17, HO_6, HO_8, HO_380000, BK368, BK379, HB⟩ := hcut
          have hl380000_17 := (Kd.R_reads' HO_380000.out).1
          rw [hl380000_17] at HO_380000
          (try simp only [hl380000_17])
          (try simp only [hl380000_17] at BK368)
          (try simp only [hl380000_17] at BK379)
          (try simp only [hl380000_17] at HO_6)
          (try simp only [hl380000_17] at HO_8)
          cases kq with
          | zero => exact absurd HA.out (by simp [laws_FnExactSlots.j0])
          | succ kj17 =>
            have H := HA.out
            clear HA
            simp only [laws_FnExactSlots.j0] at H
            by_cases c43 : x46_17 = true
            · subst c43
              have H1 : (some false) = some r := by rw [if_pos rfl] at H; exact H
              clear H
              have H := H1
              clear H1
              exact absurd (H.trans (congrArg some hrt.out)) (by simp)
            · replace c43 := Bool.eq_false_iff.mpr c43
              subst c43
              have H1 : ((laws_markIntS.f kj17 t380 1).bind fun bt391 => ((laws_heldIntS.f kj17 bt391.2 1).bind fun t393 => (if t393 < 0 then (some false) else (if t393 = bt391.1 then ((laws_toSlab.f kj17 l0_0).bind fun t394 => ((impl_Slots.f kj17 t394 a1).bind fun t397 => ((laws_eqIntS.f kj17 t397 t373).bind fun t400 => (if t400 = true then ((laws_heldIntS.f kj17 bt391.2 1).bind fun t401 => (if t401 < 0 then (some false) else (if t401 = bt391.1 then (some true) else (some false)))) else (some false))))) else (some false))))) = some r := by rw [if_neg (show ¬ (false = true) by decide)] at H; exact H
              clear H
              have H := H1
              clear H1
              replace H := Option.bind_eq_some_iff.mp H
              obtain ⟨⟨t391, t392⟩, A440, H⟩ := H
              replace H : ((laws_heldIntS.f kj17 t392 1).bind fun t393 => (if t393 < 0 then (some false) else (if t393 = t391 then ((laws_toSlab.f kj17 l0_0).bind fun t394 => ((impl_Slots.f kj17 t394 a1).bind fun t397 => ((laws_eqIntS.f kj17 t397 t373).bind fun t400 => (if t400 = true then ((laws_heldIntS.f kj17 t392 1).bind fun t401 => (if t401 < 0 then (some false) else (if t401 = t391 then (some true) else (some false)))) else (some false))))) else (some false)))) = some r := H
              have A44 := Aside0.mk A440
              clear A440
              replace H := Option.bind_eq_some_iff.mp H
              obtain ⟨t393, A450, H⟩ := H
              replace H : (if t393 < 0 then (some false) else (if t393 = t391 then ((laws_toSlab.f kj17 l0_0).bind fun t394 => ((impl_Slots.f kj17 t394 a1).bind fun t397 => ((laws_eqIntS.f kj17 t397 t373).bind fun t400 => (if t400 = true then ((laws_heldIntS.f kj17 t392 1).bind fun t401 => (if t401 < 0 then (some false) else (if t401 = t391 then (some true) else (some false)))) else (some false))))) else (some false))) = some r := H
              have A45 := Aside0.mk A450
              clear A450
              by_cases c46 : t393 < 0
              · rw [if_pos c46] at H
                have c46b0 : decide (t393 < 0) = true := decide_eq_true c46
                clear c46
                exact absurd (H.trans (congrArg some hrt.out)) (by simp)
              · rw [if_neg c46] at H
                have c46b0 : decide (t393 < 0) = false := decide_eq_false c46
                clear c46
                by_cases c47 : t393 = t391
                · rw [if_pos c47] at H
                  have c47b0 : (t393 == t391) = true := beq_iff_eq.mpr c47
                  have c47b1 : (t393 != t391) = false := bne_eq_false_iff_eq.mpr c47
                  clear c47
                  replace H := Option.bind_eq_some_iff.mp H
                  obtain ⟨t394, A480, H⟩ := H
                  replace H : ((impl_Slots.f kj17 t394 a1).bind fun t397 => ((laws_eqIntS.f kj17 t397 t373).bind fun t400 => (if t400 = true then ((laws_heldIntS.f kj17 t392 1).bind fun t401 => (if t401 < 0 then (some false) else (if t401 = t391 then (some true) else (some false)))) else (some false)))) = some r := H
                  have A48 := Aside0.mk A480
                  clear A480
                  replace H := Option.bind_eq_some_iff.mp H
                  obtain ⟨t397, A490, H⟩ := H
                  replace H : ((laws_eqIntS.f kj17 t397 t373).bind fun t400 => (if t400 = true then ((laws_heldIntS.f kj17 t392 1).bind fun t401 => (if t401 < 0 then (some false) else (if t401 = t391 then (some true) else (some false)))) else (some false))) = some r := H
                  have A49 := Aside0.mk A490
                  clear A490
                  replace H := Option.bind_eq_some_iff.mp H
                  obtain ⟨t400, A500, H⟩ := H
                  replace H : (if t400 = true then ((laws_heldIntS.f kj17 t392 1).bind fun t401 => (if t401 < 0 then (some false) else (if t401 = t391 then (some true) else (some false)))) else (some false)) = some r := H
                  have A50 := Aside0.mk A500
                  clear A500
                  by_cases c51 : t400 = true
                  · subst c51
                    have H1 : ((laws_heldIntS.f kj17 t392 1).bind fun t401 => (if t401 < 0 then (some false) else (if t401 = t391 then (some true) else (some false)))) = some r := by rw [if_pos rfl] at H; exact H
                    clear H
                    have H := H1
                    clear H1
                    replace H := Option.bind_eq_some_iff.mp H
                    obtain ⟨t401, A520, H⟩ := H
                    replace H : (if t401 < 0 then (some false) else (if t401 = t391 then (some true) else (some false))) = some r := H
                    have A52 := Aside0.mk A520
                    clear A520
                    by_cases c53 : t401 < 0
                    · rw [if_pos c53] at H
                      have c53b0 : decide (t401 < 0) = true := decide_eq_true c53
                      clear c53
                      exact absurd (H.trans (congrArg some hrt.out)) (by simp)
                    · rw [if_neg c53] at H
                      have c53b0 : decide (t401 < 0) = false := decide_eq_false c53
                      clear c53
                      by_cases c54 : t401 = t391
                      · rw [if_pos c54] at H
                        have c54b0 : (t401 == t391) = true := beq_iff_eq.mpr c54
                        have c54b1 : (t401 != t391) = false := bne_eq_false_iff_eq.mpr c54
                        clear c54
                        obtain rfl := Option.some.inj H
                        go_wp2_with (first | ((with_reducible refine gate_callee (f := 29) rfl ?_); refine goesL_ (some 49) rfl rfl Try.func29 (by kernel_rfl) rfl #[.slice Ao33 t380.length co33, .int .i64 1] rfl (by (try simp only [List.map_toArray, List.map_cons, List.map_nil]); first | done | rfl | (simp only [List.length_drop, List.length_take]; rfl)) ?_; (with_reducible refine (laws_markIntS.calls kj17 (fun k_ => some k_ = (.slice Ao33 t380.length co33 : Value).ownBlock) (.slice Ao33 t380.length co33) t380 1 t391 t392 w _ ?side1 ?side2 A44.out).mono ?_); (case side1 => repeat (first | (with_reducible first | exact HB.out | apply below_alloc | apply pw_below_drewN | apply below_drew1 | refine below_set ?_ GE368.out | refine below_set ?_ GE379.out) | exact HB.out)); (case side2 => exact Kd.R_tight rfl HO_8.out); rintro e w55 ⟨rfl, hy0, hb, hkp⟩; refine ⟨_, rfl, ?_⟩; have n0_ := Aside0.mk (Kd.R_mono (ok' := fun k_ => some k_ ≠ (.slice Ao33 t380.length co33 : Value).ownBlock ∧ some k_ ≠ (.slice Ao29 t389.length co29 : Value).ownBlock) (Kd.R_keptB (HO_6.out) hkp (fun k_ hk_ hs_ => by first | exact (hk_.1) hs_ | (simp_all; done) | grind)) (fun k_ hk_ => by first | exact ⟨hk_.1.1, hk_.1.2⟩ | (simp_all; done) | grind)); have n1_ := Aside0.mk (Kd.R_reok rfl hy0 (fun k_ e_ => HO_8.out.1 k_ e_)); have n2_ := Aside0.mk (Kd.R_mono (ok' := fun k_ => some k_ ≠ (.slice Ao34 t373.length co34 : Value).ownBlock ∧ some k_ ≠ (.slice Ao33 t380.length co33 : Value).ownBlock) (Kd.R_keptB (HO_380000.out) hkp (fun k_ hk_ hs_ => by first | exact (hk_.2) hs_ | (simp_all; done) | grind)) (fun k_ hk_ => by first | exact ⟨hk_.1.1, hk_.1.2⟩ | (simp_all; done) | grind)); have n3_ := Aside0.mk (blk_kept (by (with_reducible repeat (first | refine blk_drewN ?_ _ | refine blk_drew ?_ | refine blk_alloc ?_ _)); exact BK368.out) hkp (fun hs_ => (fun e_ => (Kd.R_ne HO_8.out BK368.out (by decide)) e_) hs_)); have n4_ := Aside0.mk (blk_kept (by (with_reducible repeat (first | refine blk_drewN ?_ _ | refine blk_drew ?_ | refine blk_alloc ?_ _)); exact BK379.out) hkp (fun hs_ => (fun e_ => (Kd.R_ne HO_8.out BK379.out (by decide)) e_) hs_)); have n5_ := Aside0.mk (hb); clear HO_6; clear HO_8; clear HO_380000; clear BK368; clear BK379; clear HB; have HO_6 := n0_; have HO_8 := n1_; have HO_380000 := n2_; have BK368 := n3_; have BK379 := n4_; have HB := n5_; clear n0_ n1_ n2_ n3_ n4_ n5_; (try clear hb); (try clear hkp); (try clear hy0)) | ((with_reducible refine gate_callee (f := 30) rfl ?_); refine goesL_ (some 52) rfl rfl Try.func30 (by kernel_rfl) rfl #[.slice Ao33 t392.length co33, .int .i64 1] rfl (by (try simp only [List.map_toArray, List.map_cons, List.map_nil]); first | done | (rw [show t392.length = t380.length from (Kd.R_reads' HO_8.out).1.symm] <;> rfl) | rfl | (simp only [List.length_drop, List.length_take]; rfl)) ?_; (with_reducible refine (laws_heldIntS.calls kj17 _ _ t392 1 t393 _ ?side1 ?side2 A45.out).mono ?_); (case side1 => repeat (first | exact (Kd.R_reads' HO_8.out).2.2 | (with_reducible refine Kd.C_alloc ?_ _) | (with_reducible refine Kd.C_drewN ?_ _) | (with_reducible refine Kd.C_drew ?_))); (case side2 => rw [show t392.length = t380.length from (Kd.R_reads' HO_8.out).1.symm]; exact (Kd.R_reads' HO_8.out).2.1); rintro e w' ⟨rfl, ⟨nd, rfl⟩⟩; refine ⟨_, rfl, ?_⟩; have hnb56 := NB368_379.out; have hnc56 := NB379_368.out; have hcz57_0 : w55.cell? ⟨gb368, 0, none⟩ = some (.slice A0_0 l0_0.length c0_0) := (blk_cell BK368.out 0).trans rfl; have hfz57_0 := blk_frozen BK368.out 0) | ((with_reducible refine gate_callee (f := 17) rfl ?_); refine goesL_ (some 59) rfl rfl Try.func17 (by kernel_rfl) rfl #[.agg #[.slice A0_0 l0_0.length c0_0]] rfl (by (try simp only [List.map_toArray, List.map_cons, List.map_nil]); first | done | rfl | (simp only [List.length_drop, List.length_take]; rfl)) ?_; (with_reducible refine (laws_toSlab.calls kj17 _ _ l0_0 t394 _ ?side1 ?side2 A48.out).mono ?_); (case side1 => repeat (first | exact (Kd.C_below HR0_0.out (by repeat (first | (with_reducible first | exact HB.out | apply below_alloc | apply pw_below_drewN | apply below_drew1 | refine below_set ?_ GE368.out | refine below_set ?_ GE379.out) | exact HB.out))) | (with_reducible refine Kd.C_alloc ?_ _) | (with_reducible refine Kd.C_drewN ?_ _) | (with_reducible refine Kd.C_drew ?_))); (case side2 => exact HC0_0.out); rintro e w58 ⟨v395, rfl, ho0, hb⟩; refine ⟨_, rfl, ?_⟩; have n0_ := Aside0.mk (Kd.R_elder' (by (with_reducible repeat (first | apply Kd.R_alloc | apply Kd.R_drewN | apply Kd.R_drew)); exact HO_6.out) (Kd.R_base ho0) hb); have n1_ := Aside0.mk (Kd.R_elder' (by (with_reducible repeat (first | apply Kd.R_alloc | apply Kd.R_drewN | apply Kd.R_drew)); exact HO_8.out) (Kd.R_base ho0) hb); have n2_ := Aside0.mk (Kd.R_elder' (by (with_reducible repeat (first | apply Kd.R_alloc | apply Kd.R_drewN | apply Kd.R_drew)); exact HO_380000.out) (Kd.R_base ho0) hb); have n3_ := Aside0.mk (Kd.R_lower (Kd.R_new' (Kd.R_new' (Kd.R_new' ho0 (Kd.R_lt (by (with_reducible repeat (first | apply Kd.R_alloc | apply Kd.R_drewN | apply Kd.R_drew)); exact HO_6.out))) (Kd.R_lt (by (with_reducible repeat (first | apply Kd.R_alloc | apply Kd.R_drewN | apply Kd.R_drew)); exact HO_8.out))) (Kd.R_lt (by (with_reducible repeat (first | apply Kd.R_alloc | apply Kd.R_drewN | apply Kd.R_drew)); exact HO_380000.out))) (below_size (by repeat (first | (with_reducible first | exact HB.out | apply below_alloc | apply pw_below_drewN | apply below_drew1 | refine below_set ?_ GE368.out | refine below_set ?_ GE379.out) | exact HB.out)))); have n4_ := Aside0.mk (blk_below (g := gb368) (o := .cells #[.slice A0_0 l0_0.length c0_0] 24 (0, 0)) (by (with_reducible repeat (first | refine blk_drewN ?_ _ | refine blk_drew ?_ | refine blk_alloc ?_ _)); exact BK368.out) hb); have n5_ := Aside0.mk (blk_below (g := gb379) (o := .cells #[.slice Ao29 t389.length co29] 27 (0, 0)) (by (with_reducible repeat (first | refine blk_drewN ?_ _ | refine blk_drew ?_ | refine blk_alloc ?_ _)); exact BK379.out) hb); have n6_ := Aside0.mk (below_step (by repeat (first | (with_reducible first | exact HB.out | apply below_alloc | apply pw_below_drewN | apply below_drew1 | refine below_set ?_ GE368.out | refine below_set ?_ GE379.out) | exact HB.out)) hb); clear HO_6; clear HO_8; clear HO_380000; clear BK368; clear BK379; clear HB; have HO_6 := n0_; have HO_8 := n1_; have HO_380000 := n2_; have HO396 := n3_; have BK368 := n4_; have BK379 := n5_; have HB := n6_; clear n0_ n1_ n2_ n3_ n4_ n5_ n6_; (try clear hb); (try clear hb2); (try clear hk); (try clear hi); (try clear ho0); obtain ⟨Ao59, co59, eo59⟩ := Kd.R_slice HO396.out; subst eo59) | ((with_reducible refine gate_callee (f := 27) rfl ?_); refine goesL_ (some 61) rfl rfl Try.func27 (by kernel_rfl) rfl #[.agg #[.slice Ao59 t394.length co59], .int .i64 a1] rfl (by (try simp only [List.map_toArray, List.map_cons, List.map_nil]); first | done | rfl | (simp only [List.length_drop, List.length_take]; rfl)) ?_; (with_reducible refine (impl_Slots.calls kj17 _ _ t394 a1 t397 _ ?side1 ?side2 A49.out).mono ?_); (case side1 => repeat (first | exact (Kd.R_reads' HO396.out).2.2 | (with_reducible refine Kd.C_alloc ?_ _) | (with_reducible refine Kd.C_drewN ?_ _) | (with_reducible refine Kd.C_drew ?_))); (case side2 => exact (Kd.R_reads' HO396.out).2.1); rintro e w60 ⟨v398, rfl, ho0, hb⟩; refine ⟨_, rfl, ?_⟩; have n0_ := Aside0.mk (Kd.R_elder' (by (with_reducible repeat (first | apply Kd.R_alloc | apply Kd.R_drewN | apply Kd.R_drew)); exact HO_6.out) (Kd.R_base ho0) hb); have n1_ := Aside0.mk (Kd.R_elder' (by (with_reducible repeat (first | apply Kd.R_alloc | apply Kd.R_drewN | apply Kd.R_drew)); exact HO_8.out) (Kd.R_base ho0) hb); have n2_ := Aside0.mk (Kd.R_elder' (by (with_reducible repeat (first | apply Kd.R_alloc | apply Kd.R_drewN | apply Kd.R_drew)); exact HO_380000.out) (Kd.R_base ho0) hb); have n3_ := Aside0.mk (Kd.R_elder' (by (with_reducible repeat (first | apply Kd.R_alloc | apply Kd.R_drewN | apply Kd.R_drew)); exact HO396.out) (Kd.R_base ho0) hb); have n4_ := Aside0.mk (Kd.R_lower (Kd.R_new' (Kd.R_new' (Kd.R_new' (Kd.R_new' ho0 (Kd.R_lt (by (with_reducible repeat (first | apply Kd.R_alloc | apply Kd.R_drewN | apply Kd.R_drew)); exact HO_6.out))) (Kd.R_lt (by (with_reducible repeat (first | apply Kd.R_alloc | apply Kd.R_drewN | apply Kd.R_drew)); exact HO_8.out))) (Kd.R_lt (by (with_reducible repeat (first | apply Kd.R_alloc | apply Kd.R_drewN | apply Kd.R_drew)); exact HO_380000.out))) (Kd.R_lt (by (with_reducible repeat (first | apply Kd.R_alloc | apply Kd.R_drewN | apply Kd.R_drew)); exact HO396.out))) (below_size (by repeat (first | (with_reducible first | exact HB.out | apply below_alloc | apply pw_below_drewN | apply below_drew1 | refine below_set ?_ GE368.out | refine below_set ?_ GE379.out) | exact HB.out)))); have n5_ := Aside0.mk (blk_below (g := gb368) (o := .cells #[.slice A0_0 l0_0.length c0_0] 24 (0, 0)) (by (with_reducible repeat (first | refine blk_drewN ?_ _ | refine blk_drew ?_ | refine blk_alloc ?_ _)); exact BK368.out) hb); have n6_ := Aside0.mk (blk_below (g := gb379) (o := .cells #[.slice Ao29 t389.length co29] 27 (0, 0)) (by (with_reducible repeat (first | refine blk_drewN ?_ _ | refine blk_drew ?_ | refine blk_alloc ?_ _)); exact BK379.out) hb); have n7_ := Aside0.mk (below_step (by repeat (first | (with_reducible first | exact HB.out | apply below_alloc | apply pw_below_drewN | apply below_drew1 | refine below_set ?_ GE368.out | refine below_set ?_ GE379.out) | exact HB.out)) hb); clear HO_6; clear HO_8; clear HO_380000; clear HO396; clear BK368; clear BK379; clear HB; have HO_6 := n0_; have HO_8 := n1_; have HO_380000 := n2_; have HO396 := n3_; have HO399 := n4_; have BK368 := n5_; have BK379 := n6_; have HB := n7_; clear n0_ n1_ n2_ n3_ n4_ n5_ n6_ n7_; (try clear hb); (try clear hb2); (try clear hk); (try clear hi); (try clear ho0); obtain ⟨Ao61, co61, eo61⟩ := Kd.R_slice HO399.out; subst eo61) | ((with_reducible refine gate_callee (f := 28) rfl ?_); refine goesL_ (some 64) rfl rfl Try.func28 (by kernel_rfl) rfl #[.slice Ao61 t397.length co61, .slice Ao34 t373.length co34] rfl (by (try simp only [List.map_toArray, List.map_cons, List.map_nil]); first | done | rfl | (simp only [List.length_drop, List.length_take]; rfl)) ?_; (with_reducible refine (laws_eqIntS.calls kj17 _ _ t397 _ _ t373 true _ ?side1 ?side2 ?side3 ?side4 A50.out).mono ?_); (case side1 => repeat (first | exact (Kd.R_reads' HO399.out).2.2 | (with_reducible refine Kd.C_alloc ?_ _) | (with_reducible refine Kd.C_drewN ?_ _) | (with_reducible refine Kd.C_drew ?_))); (case side2 => exact (Kd.R_reads' HO399.out).2.1); (case side3 => repeat (first | exact (Kd.R_reads' HO_6.out).2.2 | (with_reducible refine Kd.C_alloc ?_ _) | (with_reducible refine Kd.C_drewN ?_ _) | (with_reducible refine Kd.C_drew ?_))); (case side4 => exact (Kd.R_reads' HO_6.out).2.1); rintro e w' ⟨rfl, ⟨nd, rfl⟩⟩; refine ⟨_, rfl, ?_⟩) | ((with_reducible refine gate_callee (f := 30) rfl ?_); refine goesL_ (some 68) rfl rfl Try.func30 (by kernel_rfl) rfl #[.slice Ao33 t392.length co33, .int .i64 1] rfl (by (try simp only [List.map_toArray, List.map_cons, List.map_nil]); first | done | (rw [show t392.length = t380.length from (Kd.R_reads' HO_8.out).1.symm] <;> rfl) | rfl | (simp only [List.length_drop, List.length_take]; rfl)) ?_; (with_reducible refine (laws_heldIntS.calls kj17 _ _ t392 1 t401 _ ?side1 ?side2 A52.out).mono ?_); (case side1 => repeat (first | exact (Kd.R_reads' HO_8.out).2.2 | (with_reducible refine Kd.C_alloc ?_ _) | (with_reducible refine Kd.C_drewN ?_ _) | (with_reducible refine Kd.C_drew ?_))); (case side2 => rw [show t392.length = t380.length from (Kd.R_reads' HO_8.out).1.symm]; exact (Kd.R_reads' HO_8.out).2.1); rintro e w' ⟨rfl, ⟨nd, rfl⟩⟩; refine ⟨_, rfl, ?_⟩))
                        go_ret
                        exact ⟨by first | rfl | (simp [errW_none, errW_some] <;> rfl) | (simp [*, errW_none, errW_some] <;> rfl), by repeat (first | (with_reducible first | exact HB.out | apply below_alloc | apply pw_below_drewN | apply below_drew1 | refine below_set ?_ GE368.out | refine below_set ?_ GE379.out) | exact HB.out)⟩
                      · rw [if_neg c54] at H
                        have c54b0 : (t401 == t391) = false := beq_eq_false_iff_ne.mpr c54
                        have c54b1 : (t401 != t391) = true := bne_iff_ne.mpr c54
                        exact absurd (H.trans (congrArg some hrt.out)) (by simp)
                  · replace c51 := Bool.eq_false_iff.mpr c51
                    subst c51
                    have H1 : (some false) = some r := by rw [if_neg (show ¬ (false = true) by decide)] at H; exact H
                    clear H
                    have H := H1
                    clear H1
                    exact absurd (H.trans (congrArg some hrt.out)) (by simp)
                · rw [if_neg c47] at H
                  have c47b0 : (t393 == t391) = false := beq_eq_false_iff_ne.mpr c47
                  have c47b1 : (t393 != t391) = true := bne_iff_ne.mpr c47
                  exact absurd (H.trans (congrArg some hrt.out)) (by simp)
      · replace c16 := Bool.eq_false_iff.mpr c16
        subst c16
        have H1 : (some false) = some r := by rw [if_neg (show ¬ (false = true) by decide)] at H; exact H
        clear H
        have H := H1
        clear H1
        exact absurd (H.trans (congrArg some hrt.out)) (by simp)
    · replace c13 := Bool.eq_false_iff.mpr c13
      subst c13
      have H1 : (some false) = some r := by rw [if_neg (show ¬ (false = true) by decide)] at H; exact H
      clear H
      have H := H1
      clear H1
      exact absurd (H.trans (congrArg some hrt.out)) (by simp)

/-! ### spec_l2Give: function 68 -/
mutual
def spec_l2Give.j0 : Nat → Int → Int → Int → Bool → List Int → Option (List Int)
  | 0, _, _, _, _, _ => none
  | k + 1, x1, x5, x6, x31, x403000 => if x31 = true then (if 0 ≤ x6 then (if x6 < (x403000.length : Int) then ((spec_l2Size.f (rd x403000 x6)).bind fun t409 => (spec_l2Give.j1 k x1 x5 (wrap64 (x6 + t409)) x403000)) else (none)) else (none)) else (spec_l2Give.j1 k x1 x5 x6 x403000)
def spec_l2Give.j1 : Nat → Int → Int → Int → List Int → Option (List Int)
  | 0, _, _, _, _ => none
  | k + 1, x1, x5, x6, x403000 => spec_l2Give.l0 k x1 x5 x6 0 x403000
def spec_l2Give.l0 : Nat → Int → Int → Int → Int → List Int → Option (List Int)
  | 0, _, _, _, _, _ => none
  | k + 1, x1, x5, x6, x7, x403000 => if x7 < x1 then (if 0 ≤ x7 then (if x7 < (x403000.length : Int) then ((spec_l2Size.f (rd x403000 x7)).bind fun t411 => (if (wrap64 (x7 + t411)) = x1 then ((spec_l2Kind.f (rd x403000 x7)).bind fun t413 => (if t413 = 0 then ((spec_l2Size.f (rd x403000 x7)).bind fun t415 => (spec_l2Give.l0 k x1 x7 x6 (wrap64 (x7 + t415)) x403000)) else ((spec_l2Size.f (rd x403000 x7)).bind fun t417 => (spec_l2Give.l0 k x1 x5 x6 (wrap64 (x7 + t417)) x403000)))) else ((spec_l2Size.f (rd x403000 x7)).bind fun t419 => (spec_l2Give.l0 k x1 x5 x6 (wrap64 (x7 + t419)) x403000)))) else (none)) else (none)) else (spec_l2Give.l1 k x5 x6 x5 x403000)
def spec_l2Give.l1 : Nat → Int → Int → Int → List Int → Option (List Int)
  | 0, _, _, _, _ => none
  | k + 1, x5, x6, x8, x403000 => if x8 < x6 then (if 0 ≤ x8 then (if x8 < (x403000.length : Int) then (spec_l2Give.l1 k x5 x6 (wrap64 (x8 + 1)) (x403000.set (x8 : Int).toNat 0)) else (none)) else (none)) else (if 0 ≤ x5 then (if x5 < (x403000.length : Int) then (some (x403000.set (x5 : Int).toNat (wrap64 (8 * (wrap64 (x6 - x5)))))) else (none)) else (none))
end
def spec_l2Give.f (k : Nat) (l0_0 : List Int) (a1 : Int) : Option (List Int) := if 0 ≤ a1 then (if a1 < (l0_0.length : Int) then ((spec_l2Size.f (rd l0_0 a1)).bind fun t405 => (if (wrap64 (a1 + t405)) < (l0_0.length : Int) then (if 0 ≤ (wrap64 (a1 + t405)) then ((spec_l2Kind.f (rd l0_0 (wrap64 (a1 + t405)))).bind fun t407 => (spec_l2Give.j0 k a1 a1 (wrap64 (a1 + t405)) (t407 == 0) l0_0)) else (none)) else (spec_l2Give.j0 k a1 a1 (wrap64 (a1 + t405)) false l0_0))) else (none)) else (none)
theorem spec_l2Give.mono_l : ∀ k, (∀ y0 y1 y2 y3 y4, LeO (spec_l2Give.j0 k y0 y1 y2 y3 y4) (spec_l2Give.j0 (k + 1) y0 y1 y2 y3 y4)) ∧ (∀ y0 y1 y2 y3, LeO (spec_l2Give.j1 k y0 y1 y2 y3) (spec_l2Give.j1 (k + 1) y0 y1 y2 y3)) ∧ (∀ y0 y1 y2 y3 y4, LeO (spec_l2Give.l0 k y0 y1 y2 y3 y4) (spec_l2Give.l0 (k + 1) y0 y1 y2 y3 y4)) ∧ (∀ y0 y1 y2 y3, LeO (spec_l2Give.l1 k y0 y1 y2 y3) (spec_l2Give.l1 (k + 1) y0 y1 y2 y3))
  | 0 => ⟨fun _ _ _ _ _ r h => by simp [spec_l2Give.j0] at h, fun _ _ _ _ r h => by simp [spec_l2Give.j1] at h, fun _ _ _ _ _ r h => by simp [spec_l2Give.l0] at h, fun _ _ _ _ r h => by simp [spec_l2Give.l1] at h⟩
  | k + 1 => by
    obtain ⟨ih0, ih1, ih2, ih3⟩ := spec_l2Give.mono_l k
    refine ⟨?_, ?_, ?_, ?_⟩
    · intro y0 y1 y2 y3 y4
      unfold spec_l2Give.j0
      repeat' first
      | (with_reducible exact ih0 _ _ _ _ _)
      | (with_reducible exact ih1 _ _ _ _)
      | (with_reducible exact ih2 _ _ _ _ _)
      | (with_reducible exact ih3 _ _ _ _)
      | (with_reducible exact LeO.refl _)
      | (with_reducible exact LeO.none _)
      | (with_reducible refine LeO.ite ?_ ?_)
      | (with_reducible refine LeO.bind ?_ (fun _ => ?_))
      | exact ih0 _ _ _ _ _
      | exact ih1 _ _ _ _
      | exact ih2 _ _ _ _ _
      | exact ih3 _ _ _ _
      | exact LeO.none _
      | refine LeO.ite ?_ ?_
      | refine LeO.bind ?_ (fun _ => ?_)
    · intro y0 y1 y2 y3
      unfold spec_l2Give.j1
      repeat' first
      | (with_reducible exact ih0 _ _ _ _ _)
      | (with_reducible exact ih1 _ _ _ _)
      | (with_reducible exact ih2 _ _ _ _ _)
      | (with_reducible exact ih3 _ _ _ _)
      | (with_reducible exact LeO.refl _)
      | (with_reducible exact LeO.none _)
      | (with_reducible refine LeO.ite ?_ ?_)
      | (with_reducible refine LeO.bind ?_ (fun _ => ?_))
      | exact ih0 _ _ _ _ _
      | exact ih1 _ _ _ _
      | exact ih2 _ _ _ _ _
      | exact ih3 _ _ _ _
      | exact LeO.none _
      | refine LeO.ite ?_ ?_
      | refine LeO.bind ?_ (fun _ => ?_)
    · intro y0 y1 y2 y3 y4
      unfold spec_l2Give.l0
      repeat' first
      | (with_reducible exact ih0 _ _ _ _ _)
      | (with_reducible exact ih1 _ _ _ _)
      | (with_reducible exact ih2 _ _ _ _ _)
      | (with_reducible exact ih3 _ _ _ _)
      | (with_reducible exact LeO.refl _)
      | (with_reducible exact LeO.none _)
      | (with_reducible refine LeO.ite ?_ ?_)
      | (with_reducible refine LeO.bind ?_ (fun _ => ?_))
      | exact ih0 _ _ _ _ _
      | exact ih1 _ _ _ _
      | exact ih2 _ _ _ _ _
      | exact ih3 _ _ _ _
      | exact LeO.none _
      | refine LeO.ite ?_ ?_
      | refine LeO.bind ?_ (fun _ => ?_)
    · intro y0 y1 y2 y3
      unfold spec_l2Give.l1
      repeat' first
      | (with_reducible exact ih0 _ _ _ _ _)
      | (with_reducible exact ih1 _ _ _ _)
      | (with_reducible exact ih2 _ _ _ _ _)
      | (with_reducible exact ih3 _ _ _ _)
      | (with_reducible exact LeO.refl _)
      | (with_reducible exact LeO.none _)
      | (with_reducible refine LeO.ite ?_ ?_)
      | (with_reducible refine LeO.bind ?_ (fun _ => ?_))
      | exact ih0 _ _ _ _ _
      | exact ih1 _ _ _ _
      | exact ih2 _ _ _ _ _
      | exact ih3 _ _ _ _
      | exact LeO.none _
      | refine LeO.ite ?_ ?_
      | refine LeO.bind ?_ (fun _ => ?_)
theorem spec_l2Give.mono : ∀ a0 a1 k, LeO (spec_l2Give.f k a0 a1) (spec_l2Give.f (k + 1) a0 a1) := by
  intro a0 a1 k
  obtain ⟨ih0, ih1, ih2, ih3⟩ := spec_l2Give.mono_l k
  unfold spec_l2Give.f
  repeat' first
      | (with_reducible exact ih0 _ _ _ _ _)
      | (with_reducible exact ih1 _ _ _ _)
      | (with_reducible exact ih2 _ _ _ _ _)
      | (with_reducible exact ih3 _ _ _ _)
      | (with_reducible exact LeO.refl _)
      | (with_reducible exact LeO.none _)
      | (with_reducible refine LeO.ite ?_ ?_)
      | (with_reducible refine LeO.bind ?_ (fun _ => ?_))
      | exact ih0 _ _ _ _ _
      | exact ih1 _ _ _ _
      | exact ih2 _ _ _ _ _
      | exact ih3 _ _ _ _
      | exact LeO.none _
      | refine LeO.ite ?_ ?_
      | refine LeO.bind ?_ (fun _ => ?_)
set_option maxHeartbeats 8000000 in
set_option maxRecDepth 100000 in
theorem spec_l2Give.calls (k : Nat) (P0_0_ : Nat → Prop) (u9000_ : Value) (l0_0 : List Int) (a1 : Int) (r : List Int) (w0 w : World) (hB : Below w0.heap.size w0 w) (ho0_0 : Kd.R (Kd.int .i64) 3 w w0.heap.size P0_0_ u9000_ l0_0) (h : spec_l2Give.f k l0_0 a1 = some r) :
    Calls Try.prog 68 #[.agg #[u9000_], .int .i64 a1] w fun e w' => ∃ v0_ : Value, e = .returned (.agg #[v0_]) ∧ Kd.R (Kd.int .i64) 3 w' w0.heap.size (fun k_ => (P0_0_ k_ ∨ w.heap.size ≤ k_)) v0_ r ∧ Below w0.heap.size w0 w' ∧ Kept w w' (fun k_ => P0_0_ k_) := by
  have hu27 := Try.underlying27
  have HO0_0 := Aside0.mk (show Kd.R (Kd.int .i64) 3 w w0.heap.size (fun k_ => (P0_0_ k_ ∨ w.heap.size ≤ k_)) u9000_ l0_0 from Kd.R_mono ho0_0 (fun k_ hk => (.inl hk)))
  have HK := Aside0.mk (Kept.refl w (fun k_ => P0_0_ k_))
  have HW0 := Aside0.mk hB.size
  have HB := Aside0.mk hB
  clear hB
  have H : (if 0 ≤ a1 then (if a1 < (l0_0.length : Int) then ((spec_l2Size.f (rd l0_0 a1)).bind fun t405 => (if (wrap64 (a1 + t405)) < (l0_0.length : Int) then (if 0 ≤ (wrap64 (a1 + t405)) then ((spec_l2Kind.f (rd l0_0 (wrap64 (a1 + t405)))).bind fun t407 => (spec_l2Give.j0 k a1 a1 (wrap64 (a1 + t405)) (t407 == 0) l0_0)) else (none)) else (spec_l2Give.j0 k a1 a1 (wrap64 (a1 + t405)) false l0_0))) else (none)) else (none)) = some r := h
  clear h
  by_cases c3 : 0 ≤ a1
  · rw [if_pos c3] at H
    have c3b0 : decide (0 ≤ a1) = true := decide_eq_true c3
    clear c3
    by_cases c4 : a1 < (l0_0.length : Int)
    · rw [if_pos c4] at H
      have c4b0 : decide (a1 < (l0_0.length : Int)) = true := decide_eq_true c4
      clear c4
      replace H := Option.bind_eq_some_iff.mp H
      obtain ⟨t405, A50, H⟩ := H
      replace H : (if (wrap64 (a1 + t405)) < (l0_0.length : Int) then (if 0 ≤ (wrap64 (a1 + t405)) then ((spec_l2Kind.f (rd l0_0 (wrap64 (a1 + t405)))).bind fun t407 => (spec_l2Give.j0 k a1 a1 (wrap64 (a1 + t405)) (t407 == 0) l0_0)) else (none)) else (spec_l2Give.j0 k a1 a1 (wrap64 (a1 + t405)) false l0_0)) = some r := H
      have A5 := Aside0.mk A50
      clear A50
      have HC6 := Aside0.mk H
      clear H
      obtain ⟨Ao7, co7, eo7⟩ := Kd.R_slice HO0_0.out
      subst eo7
      go_enter Try.func68, Try.ntmps68
      go_upto_region 2 with (first | ((with_reducible refine gate_dst (N := 2) rfl ?_); refine box_event ?hg (N := 2) ?hd (cs := #[.slice Ao7 l0_0.length co7]) (t := 27) ?hr ?_; (case hd => rfl); (case hg => rfl); (case hr => first | (go_simp; done) | (go_simp; rfl)); intro gb402 hg w8 hbox hb; have n0_ := Aside0.mk (Kd.R_below (by (with_reducible repeat (first | apply Kd.R_alloc | apply Kd.R_drewN | apply Kd.R_drew)); exact HO0_0.out) hb); have n1_ := Aside0.mk (Kept.below (S := (fun k_ => P0_0_ k_)) (by repeat (first | (with_reducible first | exact HK.out | apply Kept.alloc | apply Kept.drewN | apply Kept.drew) | exact HK.out)) hb); have n2_ := Aside0.mk (below_step (by repeat (first | (with_reducible first | exact HB.out | apply below_alloc | apply pw_below_drewN | apply below_drew1) | exact HB.out)) hb); have n3_ := Aside0.mk (hbox); have n4_ := Aside0.mk ((by rw [hg]; exact (by first | exact HK.out.1 | exact (show Kept w _ (fun k_ => P0_0_ k_) from by repeat (first | (with_reducible first | exact HK.out | apply Kept.alloc | apply Kept.drewN | apply Kept.drew) | exact HK.out)).1) : w.heap.size ≤ gb402)); have n5_ := Aside0.mk ((by rw [hg]; exact (below_size (by repeat (first | (with_reducible first | exact HB.out | apply below_alloc | apply pw_below_drewN | apply below_drew1) | exact HB.out))) : w0.heap.size ≤ gb402)); clear HO0_0; clear HK; clear HB; have HO0_0 := n0_; have HK := n1_; have HB := n2_; have BK402 := n3_; have GW402 := n4_; have GE402 := n5_; clear n0_ n1_ n2_ n3_ n4_ n5_; clear hb hbox hg) | ((with_reducible refine gate_dst (N := 4) rfl ?_); refine box_event ?hg (N := 4) ?hd (cs := #[.slice none 0 0]) (t := 27) ?hr ?_; (case hd => rfl); (case hg => rfl); (case hr => first | (go_simp; done) | (go_simp; rfl)); intro gb403 hg w9 hbox hb; have n0_ := Aside0.mk (Kd.R_below (by (with_reducible repeat (first | apply Kd.R_alloc | apply Kd.R_drewN | apply Kd.R_drew)); exact HO0_0.out) hb); have n1_ := Aside0.mk (blk_below (g := gb402) (o := .cells #[.slice Ao7 l0_0.length co7] 27 (0, 0)) (by (with_reducible repeat (first | refine blk_drewN ?_ _ | refine blk_drew ?_ | refine blk_alloc ?_ _)); exact BK402.out) hb); have n2_ := Aside0.mk (Kept.below (S := (fun k_ => P0_0_ k_)) (by repeat (first | (with_reducible first | exact HK.out | apply Kept.alloc | apply Kept.drewN | apply Kept.drew | refine Kept.setCell ?_ (.inr GW402.out) _) | exact HK.out)) hb); have n3_ := Aside0.mk (below_step (by repeat (first | (with_reducible first | exact HB.out | apply below_alloc | apply pw_below_drewN | apply below_drew1 | refine below_set ?_ GE402.out) | exact HB.out)) hb); have n4_ := Aside0.mk (hbox); have n5_ := Aside0.mk ((by rw [hg]; exact (by first | exact HK.out.1 | exact (show Kept w _ (fun k_ => P0_0_ k_) from by repeat (first | (with_reducible first | exact HK.out | apply Kept.alloc | apply Kept.drewN | apply Kept.drew | refine Kept.setCell ?_ (.inr GW402.out) _) | exact HK.out)).1) : w.heap.size ≤ gb403)); have n6_ := Aside0.mk ((by rw [hg]; exact (below_size (by repeat (first | (with_reducible first | exact HB.out | apply below_alloc | apply pw_below_drewN | apply below_drew1 | refine below_set ?_ GE402.out) | exact HB.out))) : w0.heap.size ≤ gb403)); have n7_ := Aside0.mk ((by rw [hg]; exact Nat.ne_of_lt (blk_lt (g := gb402) (o := .cells #[.slice Ao7 l0_0.length co7] 27 (0, 0)) (by (with_reducible repeat (first | refine blk_drewN ?_ _ | refine blk_drew ?_ | refine blk_alloc ?_ _)); exact BK402.out)) : gb402 ≠ gb403)); have n8_ := Aside0.mk ((by rw [hg]; exact Nat.ne_of_gt (blk_lt (g := gb402) (o := .cells #[.slice Ao7 l0_0.length co7] 27 (0, 0)) (by (with_reducible repeat (first | refine blk_drewN ?_ _ | refine blk_drew ?_ | refine blk_alloc ?_ _)); exact BK402.out)) : gb403 ≠ gb402)); clear HO0_0; clear BK402; clear HK; clear HB; have HO0_0 := n0_; have BK402 := n1_; have HK := n2_; have HB := n3_; have BK403 := n4_; have GW403 := n5_; have GE403 := n6_; have NB402_403 := n7_; have NB403_402 := n8_; clear n0_ n1_ n2_ n3_ n4_ n5_ n6_ n7_ n8_; clear hb hbox hg; have hnb10 := NB402_403.out; have hnc10 := NB403_402.out; have hcz11_0 : w9.cell? ⟨gb402, 0, none⟩ = some (.slice Ao7 l0_0.length co7) := (blk_cell BK402.out 0).trans rfl; have hfz11_0 := blk_frozen BK402.out 0; have p404 : 0 ≤ (a1 : Int) := of_decide_eq_true (by first | (with_reducible assumption) | assumption); have q404 : a1 < (l0_0.length : Int) := of_decide_eq_true (by first | (with_reducible assumption) | assumption); obtain ⟨ad404, e404, hx404_0⟩ := Kd.at_int (Kd.R_reads' HO0_0.out).2.2 a1 p404 q404; cases e404; replace p404 := eq_true p404; replace q404 := eq_true q404) | ((with_reducible refine gate_callee (f := 58) rfl ?_); refine goesL_ (some 16) rfl rfl Try.func58 (by kernel_rfl) rfl #[.int .i64 (rd l0_0 a1)] rfl (by (try simp only [List.map_toArray, List.map_cons, List.map_nil]); first | done | rfl | (simp only [List.length_drop, List.length_take]; rfl)) ?_; (with_reducible refine (spec_l2Size.calls (rd l0_0 a1) t405 _ A5.out).mono ?_); rintro e w' ⟨rfl, ⟨nd, rfl⟩⟩; refine ⟨_, rfl, ?_⟩))
      (try simp only [Act.put, List.setIfInBounds_toArray, List.set_cons_zero, List.set_cons_succ])
      go_cut [31] (fun v31 wc => ∃ (kq : Nat) (x31_5 : Bool), v31 = .bool x31_5 ∧ Aside0 (spec_l2Give.j0 kq a1 a1 (wrap64 (a1 + t405)) x31_5 l0_0 = some r) ∧ Aside0 (kq ≤ k) ∧ Aside0 (Kd.R (Kd.int .i64) 3 wc w0.heap.size (fun k_ => (P0_0_ k_ ∨ w.heap.size ≤ k_)) (.slice (some ad404) l0_0.length co7) l0_0) ∧ Aside0 (wc.heap[gb402]? = some (.cells #[(.slice (some ad404) l0_0.length co7)] 27 (0, 0))) ∧ Aside0 (wc.heap[gb403]? = some (.cells #[(.slice none 0 0)] 27 (0, 0))) ∧ Aside0 (Kept w wc (fun k_ => P0_0_ k_)) ∧ Aside0 (Below w0.heap.size w0 wc))
      case first =>
        have H := HC6.out
        clear HC6
        by_cases c12 : (wrap64 (a1 + t405)) < (l0_0.length : Int)
        · rw [if_pos c12] at H
          have c12b0 : decide ((wrap64 (a1 + t405)) < (l0_0.length : Int)) = true := decide_eq_true c12
          clear c12
          (first | rw [c12b0] | (simp only [i64_w, i32_w]; rw [c12b0]) | skip)
          obtain ⟨ji13, hji13⟩ : ∃ j_ : Int, (wrap64 (a1 + t405)) = j_ := ⟨_, rfl⟩
          replace H : (if 0 ≤ (ji13) then ((spec_l2Kind.f (rd l0_0 (ji13))).bind fun t407 => (spec_l2Give.j0 k a1 a1 ji13 (t407 == 0) l0_0)) else (none)) = some r := by first | (rw [hji13] at H; exact H) | (simp only [hji13] at H ⊢; exact H)
          (try rw [hji13] at c12b0)
          have hji13w : (IntKind.i64.wrap (a1 + t405)) = ji13 := (i64_w _).trans hji13
          by_cases c14 : 0 ≤ (ji13)
          · rw [if_pos c14] at H
            have c14b0 : decide (0 ≤ (ji13)) = true := decide_eq_true c14
            clear c14
            replace H := Option.bind_eq_some_iff.mp H
            obtain ⟨t407, A150, H⟩ := H
            replace H : (spec_l2Give.j0 k a1 a1 ji13 (t407 == 0) l0_0) = some r := H
            have A15 := Aside0.mk A150
            clear A150
            have H' := Aside0.mk H
            clear H
            have hnb16 := NB402_403.out
            have hnc16 := NB403_402.out
            have hcz17_0 : w9.cell? ⟨gb402, 0, none⟩ = some (.slice (some ad404) l0_0.length co7) := (blk_cell BK402.out 0).trans rfl
            have hfz17_0 := blk_frozen BK402.out 0
            have p406 : 0 ≤ ((ji13) : Int) := of_decide_eq_true (by first | (with_reducible assumption) | assumption)
            have q406 : (ji13) < (l0_0.length : Int) := of_decide_eq_true (by first | (with_reducible assumption) | assumption)
            obtain ⟨ad406, e406, hx406_0⟩ := Kd.at_int (Kd.R_reads' HO0_0.out).2.2 (ji13) p406 q406
            obtain rfl : ad404 = ad406 := (by injection e406)
            replace p406 := eq_true p406
            replace q406 := eq_true q406
            go_wp2_with (first | (go_at_call 56; (with_reducible refine (spec_l2Kind.calls (rd l0_0 (ji13)) t407 _ A15.out).mono ?_); rintro e w' ⟨rfl, ⟨nd, rfl⟩⟩))
            (try simp only [← hji13])
            go_meet
            case rel => exact ⟨_, ((t407 == 0)), (by first | rfl | (simp; done) | (simp [*]; done)), (by first | exact H' | (exact ⟨by have h_ := H'.out; (try simp only [← hji13] at h_); exact h_⟩) | (exact ⟨by (simp only [hji13]); exact H'.out⟩)), ⟨by first | omega | exact Nat.le_refl _⟩, ⟨by (with_reducible repeat (first | apply Kd.R_alloc | apply Kd.R_drewN | apply Kd.R_drew)); exact HO0_0.out⟩, ⟨by (with_reducible repeat (first | refine blk_drewN ?_ _ | refine blk_drew ?_ | refine blk_alloc ?_ _)); exact BK402.out⟩, ⟨by (with_reducible repeat (first | refine blk_drewN ?_ _ | refine blk_drew ?_ | refine blk_alloc ?_ _)); exact BK403.out⟩, ⟨by repeat (first | (with_reducible first | exact HK.out | apply Kept.alloc | apply Kept.drewN | apply Kept.drew | refine Kept.setCell ?_ (.inr GW402.out) _ | refine Kept.setCell ?_ (.inr GW403.out) _) | exact HK.out)⟩, ⟨by repeat (first | (with_reducible first | exact HB.out | apply below_alloc | apply pw_below_drewN | apply below_drew1 | refine below_set ?_ GE402.out | refine below_set ?_ GE403.out) | exact HB.out)⟩⟩
          · rw [if_neg c14] at H
            exact absurd H (by simp)
        · rw [if_neg c12] at H
          have c12b0 : decide ((wrap64 (a1 + t405)) < (l0_0.length : Int)) = false := decide_eq_false c12
          clear c12
          (first | rw [c12b0] | (simp only [i64_w, i32_w]; rw [c12b0]) | skip)
          have H' := Aside0.mk H
          clear H
          have hnb18 := NB402_403.out
          have hnc18 := NB403_402.out
          have hcz19_0 : w9.cell? ⟨gb402, 0, none⟩ = some (.slice (some ad404) l0_0.length co7) := (blk_cell BK402.out 0).trans rfl
          have hfz19_0 := blk_frozen BK402.out 0
          go_wp2
          go_meet
          case rel => exact ⟨_, (false), (by first | rfl | (simp; done) | (simp [*]; done)), H', ⟨by first | omega | exact Nat.le_refl _⟩, ⟨by (with_reducible repeat (first | apply Kd.R_alloc | apply Kd.R_drewN | apply Kd.R_drew)); exact HO0_0.out⟩, ⟨by (with_reducible repeat (first | refine blk_drewN ?_ _ | refine blk_drew ?_ | refine blk_alloc ?_ _)); exact BK402.out⟩, ⟨by (with_reducible repeat (first | refine blk_drewN ?_ _ | refine blk_drew ?_ | refine blk_alloc ?_ _)); exact BK403.out⟩, ⟨by repeat (first | (with_reducible first | exact HK.out | apply Kept.alloc | apply Kept.drewN | apply Kept.drew | refine Kept.setCell ?_ (.inr GW402.out) _ | refine Kept.setCell ?_ (.inr GW403.out) _) | exact HK.out)⟩, ⟨by repeat (first | (with_reducible first | exact HB.out | apply below_alloc | apply pw_below_drewN | apply below_drew1 | refine below_set ?_ GE402.out | refine below_set ?_ GE403.out) | exact HB.out)⟩⟩
      case rest =>
        clear HC6
        try clear c1
        try clear p2
        try clear c3
        try clear c3b0
        try clear c4
        try clear c4b0
        try clear p4
        try clear q4
        try clear hx4
        try clear c5
        try clear c6
        try clear p6
        try clear c10
        try clear c12
        try clear c12b0
        try clear c14
        try clear c14b0
        try clear c16
        try clear c18
        try clear hcz11_0
        try clear hcz17_0
        try clear hcz19_0
        try clear hfz11_0
        try clear hfz17_0
        try clear hfz19_0
        try clear hx404_0
        try clear hx406_0
        try clear p404
        try clear p406
        try clear q404
        try clear q406
        obtain ⟨kq, x31_5, rfl, HA, HJ5, HO_403000, BK402, BK403, HK, HB⟩ := hcut
        cases kq with
        | zero => exact absurd HA.out (by simp [spec_l2Give.j0])
        | succ kj5 =>
          have H := HA.out
          clear HA
          simp only [spec_l2Give.j0] at H
          have HC20 := Aside0.mk H
          clear H
          go_upto_if 31 with (fail)
          go_cut [6] (fun v6 wc => ∃ (kq : Nat) (x6_19 : Int), v6 = .int .i64 x6_19 ∧ Aside0 (spec_l2Give.j1 kq a1 a1 x6_19 l0_0 = some r) ∧ Aside0 (kq ≤ kj5) ∧ Aside0 (Kd.R (Kd.int .i64) 3 wc w0.heap.size (fun k_ => (P0_0_ k_ ∨ w.heap.size ≤ k_)) (.slice (some ad404) l0_0.length co7) l0_0) ∧ Aside0 (wc.heap[gb402]? = some (.cells #[(.slice (some ad404) l0_0.length co7)] 27 (0, 0))) ∧ Aside0 (wc.heap[gb403]? = some (.cells #[(.slice none 0 0)] 27 (0, 0))) ∧ Aside0 (Kept w wc (fun k_ => P0_0_ k_)) ∧ Aside0 (Below w0.heap.size w0 wc))
          case first =>
            have H := HC20.out
            clear HC20
            by_cases c21 : x31_5 = true
            · subst c21
              have H1 : (if 0 ≤ (wrap64 (a1 + t405)) then (if (wrap64 (a1 + t405)) < (l0_0.length : Int) then ((spec_l2Size.f (rd l0_0 (wrap64 (a1 + t405)))).bind fun t409 => (spec_l2Give.j1 kj5 a1 a1 (wrap64 ((wrap64 (a1 + t405)) + t409)) l0_0)) else (none)) else (none)) = some r := by rw [if_pos rfl] at H; exact H
              clear H
              have H := H1
              clear H1
              obtain ⟨ji22, hji22⟩ : ∃ j_ : Int, (wrap64 (a1 + t405)) = j_ := ⟨_, rfl⟩
              replace H : (if 0 ≤ (ji22) then (if (ji22) < (l0_0.length : Int) then ((spec_l2Size.f (rd l0_0 (ji22))).bind fun t409 => (spec_l2Give.j1 kj5 a1 a1 (wrap64 ((ji22) + t409)) l0_0)) else (none)) else (none)) = some r := by first | (rw [hji22] at H; exact H) | (simp only [hji22] at H ⊢; exact H)
              have hji22w : (IntKind.i64.wrap (a1 + t405)) = ji22 := (i64_w _).trans hji22
              by_cases c23 : 0 ≤ (ji22)
              · rw [if_pos c23] at H
                have c23b0 : decide (0 ≤ (ji22)) = true := decide_eq_true c23
                clear c23
                (first | rw [c23b0] | (simp only [i64_w, i32_w]; rw [c23b0]) | skip)
                by_cases c24 : (ji22) < (l0_0.length : Int)
                · rw [if_pos c24] at H
                  have c24b0 : decide ((ji22) < (l0_0.length : Int)) = true := decide_eq_true c24
                  clear c24
                  replace H := Option.bind_eq_some_iff.mp H
                  obtain ⟨t409, A250, H⟩ := H
                  replace H : (spec_l2Give.j1 kj5 a1 a1 (wrap64 ((ji22) + t409)) l0_0) = some r := H
                  have A25 := Aside0.mk A250
                  clear A250
                  have H' := Aside0.mk H
                  clear H
                  have hnb26 := NB402_403.out
                  have hnc26 := NB403_402.out
                  have hcz27_0 : wc.cell? ⟨gb402, 0, none⟩ = some (.slice (some ad404) l0_0.length co7) := (blk_cell BK402.out 0).trans rfl
                  have hfz27_0 := blk_frozen BK402.out 0
                  have p408 : 0 ≤ ((ji22) : Int) := of_decide_eq_true (by first | (with_reducible assumption) | assumption)
                  have q408 : (ji22) < (l0_0.length : Int) := of_decide_eq_true (by first | (with_reducible assumption) | assumption)
                  obtain ⟨ad408, e408, hx408_0⟩ := Kd.at_int (Kd.R_reads' HO_403000.out).2.2 (ji22) p408 q408
                  obtain rfl : ad404 = ad408 := (by injection e408)
                  replace p408 := eq_true p408
                  replace q408 := eq_true q408
                  go_wp2_with (first | ((with_reducible refine gate_callee (f := 58) rfl ?_); refine goesL_ (some 38) rfl rfl Try.func58 (by kernel_rfl) rfl #[.int .i64 (rd l0_0 (ji22))] rfl (by (try simp only [List.map_toArray, List.map_cons, List.map_nil]); first | done | (simp only [hji22]; rfl) | rfl | (simp only [List.length_drop, List.length_take]; rfl)) ?_; (with_reducible refine (spec_l2Size.calls (rd l0_0 (ji22)) t409 _ A25.out).mono ?_); rintro e w' ⟨rfl, ⟨nd, rfl⟩⟩; refine ⟨_, rfl, ?_⟩))
                  (try simp only [← hji22])
                  go_meet
                  case rel => exact ⟨_, (wrap64 ((ji22) + t409)), (by first | rfl | (simp; done) | (simp only [← hji22] <;> (first | rfl | simp)) | (simp [*]; done)), (by first | exact H' | (exact ⟨by have h_ := H'.out; (try simp only [← hji22] at h_); exact h_⟩) | (exact ⟨by (simp only [hji22]); exact H'.out⟩)), ⟨by have := HJ5.out; first | omega | exact Nat.le_refl _⟩, ⟨by (with_reducible repeat (first | apply Kd.R_alloc | apply Kd.R_drewN | apply Kd.R_drew)); exact HO_403000.out⟩, ⟨by (with_reducible repeat (first | refine blk_drewN ?_ _ | refine blk_drew ?_ | refine blk_alloc ?_ _)); exact BK402.out⟩, ⟨by (with_reducible repeat (first | refine blk_drewN ?_ _ | refine blk_drew ?_ | refine blk_alloc ?_ _)); exact BK403.out⟩, ⟨by repeat (first | (with_reducible first | exact HK.out | apply Kept.alloc | apply Kept.drewN | apply Kept.drew | refine Kept.setCell ?_ (.inr GW402.out) _ | refine Kept.setCell ?_ (.inr GW403.out) _) | exact HK.out)⟩, ⟨by repeat (first | (with_reducible first | exact HB.out | apply below_alloc | apply pw_below_drewN | apply below_drew1 | refine below_set ?_ GE402.out | refine below_set ?_ GE403.out) | exact HB.out)⟩⟩
                · rw [if_neg c24] at H
                  exact absurd H (by simp)
              · rw [if_neg c23] at H
                exact absurd H (by simp)
            · replace c21 := Bool.eq_false_iff.mpr c21
              subst c21
              have H1 : (spec_l2Give.j1 kj5 a1 a1 (wrap64 (a1 + t405)) l0_0) = some r := by rw [if_neg (show ¬ (false = true) by decide)] at H; exact H
              clear H
              have H := H1
              clear H1
              have H' := Aside0.mk H
              clear H
              go_wp2
              go_meet
              case rel => exact ⟨_, ((wrap64 (a1 + t405))), (by first | rfl | (simp; done) | (simp [*]; done)), H', ⟨by have := HJ5.out; first | omega | exact Nat.le_refl _⟩, ⟨by (with_reducible repeat (first | apply Kd.R_alloc | apply Kd.R_drewN | apply Kd.R_drew)); exact HO_403000.out⟩, ⟨by (with_reducible repeat (first | refine blk_drewN ?_ _ | refine blk_drew ?_ | refine blk_alloc ?_ _)); exact BK402.out⟩, ⟨by (with_reducible repeat (first | refine blk_drewN ?_ _ | refine blk_drew ?_ | refine blk_alloc ?_ _)); exact BK403.out⟩, ⟨by repeat (first | (with_reducible first | exact HK.out | apply Kept.alloc | apply Kept.drewN | apply Kept.drew | refine Kept.setCell ?_ (.inr GW402.out) _ | refine Kept.setCell ?_ (.inr GW403.out) _) | exact HK.out)⟩, ⟨by repeat (first | (with_reducible first | exact HB.out | apply below_alloc | apply pw_below_drewN | apply below_drew1 | refine below_set ?_ GE402.out | refine below_set ?_ GE403.out) | exact HB.out)⟩⟩
          case rest =>
            clear HC20
            try clear c1
            try clear c2
            try clear p2
            try clear c3
            try clear c3b0
            try clear c4
            try clear c4b0
            try clear p4
            try clear q4
            try clear hx4
            try clear c5
            try clear c6
            try clear p6
            try clear c10
            try clear c12
            try clear c12b0
            try clear c14
            try clear c14b0
            try clear c16
            try clear c18
            try clear c21
            try clear c23
            try clear c23b0
            try clear c24
            try clear c24b0
            try clear c26
            try clear hcz11_0
            try clear hcz17_0
            try clear hcz19_0
            try clear hcz27_0
            try clear hfz11_0
            try clear hfz17_0
            try clear hfz19_0
            try clear hfz27_0
            try clear hx404_0
            try clear hx406_0
            try clear hx408_0
            try clear p2
            try clear p4
            try clear p404
            try clear p406
            try clear p408
            try clear p6
            try clear q4
            try clear q404
            try clear q406
            try clear q408
            obtain ⟨kq, x6_19, rfl, HA, HJ19, HO_403000, BK402, BK403, HK, HB⟩ := hcut
            cases kq with
            | zero => exact absurd HA.out (by simp [spec_l2Give.j1])
            | succ kj19 =>
              have H := HA.out
              clear HA
              simp only [spec_l2Give.j1] at H
              have H' := Aside0.mk H
              clear H
              go_wp2
              go_loopg [5, 7] kj19 (fun kq v5 v7 w' => ∃ (x5_3 : Int) (x7_3 : Int), v5 = .int .i64 x5_3 ∧ v7 = .int .i64 x7_3 ∧ Aside0 (spec_l2Give.l0 kq a1 x5_3 x6_19 x7_3 l0_0 = some r) ∧ Aside0 (kq ≤ kj19) ∧ Aside0 (Kd.R (Kd.int .i64) 3 w' w0.heap.size (fun k_ => (P0_0_ k_ ∨ w.heap.size ≤ k_)) (.slice (some ad404) l0_0.length co7) l0_0) ∧ Aside0 (w'.heap[gb402]? = some (.cells #[(.slice (some ad404) l0_0.length co7)] 27 (0, 0))) ∧ Aside0 (w'.heap[gb403]? = some (.cells #[(.slice none 0 0)] 27 (0, 0))) ∧ Aside0 (Kept w w' (fun k_ => P0_0_ k_)) ∧ Aside0 (Below w0.heap.size w0 w'))
              case atStart => exact ⟨(a1), (0), (by first | rfl | (simp; done) | (simp [*]; done)), (by first | rfl | (simp; done) | (simp [*]; done)), H', ⟨Nat.le_refl _⟩, ⟨by (with_reducible repeat (first | apply Kd.R_alloc | apply Kd.R_drewN | apply Kd.R_drew)); exact HO_403000.out⟩, ⟨by (with_reducible repeat (first | refine blk_drewN ?_ _ | refine blk_drew ?_ | refine blk_alloc ?_ _)); exact BK402.out⟩, ⟨by (with_reducible repeat (first | refine blk_drewN ?_ _ | refine blk_drew ?_ | refine blk_alloc ?_ _)); exact BK403.out⟩, ⟨by repeat (first | (with_reducible first | exact HK.out | apply Kept.alloc | apply Kept.drewN | apply Kept.drew | refine Kept.setCell ?_ (.inr GW402.out) _ | refine Kept.setCell ?_ (.inr GW403.out) _) | exact HK.out)⟩, ⟨by repeat (first | (with_reducible first | exact HB.out | apply below_alloc | apply pw_below_drewN | apply below_drew1 | refine below_set ?_ GE402.out | refine below_set ?_ GE403.out) | exact HB.out)⟩⟩
              case round =>
                clear H'
                try clear c1
                try clear c2
                try clear p2
                try clear c3
                try clear c3b0
                try clear c4
                try clear c4b0
                try clear p4
                try clear q4
                try clear hx4
                try clear c5
                try clear c6
                try clear p6
                try clear c10
                try clear c12
                try clear c12b0
                try clear c14
                try clear c14b0
                try clear c16
                try clear c18
                try clear c21
                try clear c23
                try clear c23b0
                try clear c24
                try clear c24b0
                try clear c26
                try clear hcz11_0
                try clear hcz17_0
                try clear hcz19_0
                try clear hcz27_0
                try clear hfz11_0
                try clear hfz17_0
                try clear hfz19_0
                try clear hfz27_0
                try clear hx404_0
                try clear hx406_0
                try clear hx408_0
                try clear p2
                try clear p4
                try clear p404
                try clear p406
                try clear p408
                try clear p6
                try clear q4
                try clear q404
                try clear q406
                try clear q408
                obtain ⟨x5_3, x7_3, rfl, rfl, HA, HK3, HO_403000, BK402, BK403, HK, HB⟩ := hrel
                cases gk with
                | zero => exact absurd HA.out (by simp [spec_l2Give.l0])
                | succ k3 =>
                  have H := HA.out
                  clear HA
                  simp only [spec_l2Give.l0] at H
                  by_cases c28 : x7_3 < a1
                  · rw [if_pos c28] at H
                    have c28b0 : decide (x7_3 < a1) = true := decide_eq_true c28
                    clear c28
                    by_cases c29 : 0 ≤ x7_3
                    · rw [if_pos c29] at H
                      have c29b0 : decide (0 ≤ x7_3) = true := decide_eq_true c29
                      clear c29
                      by_cases c30 : x7_3 < (l0_0.length : Int)
                      · rw [if_pos c30] at H
                        have c30b0 : decide (x7_3 < (l0_0.length : Int)) = true := decide_eq_true c30
                        clear c30
                        replace H := Option.bind_eq_some_iff.mp H
                        obtain ⟨t411, A310, H⟩ := H
                        replace H : (if (wrap64 (x7_3 + t411)) = a1 then ((spec_l2Kind.f (rd l0_0 x7_3)).bind fun t413 => (if t413 = 0 then ((spec_l2Size.f (rd l0_0 x7_3)).bind fun t415 => (spec_l2Give.l0 k3 a1 x7_3 x6_19 (wrap64 (x7_3 + t415)) l0_0)) else ((spec_l2Size.f (rd l0_0 x7_3)).bind fun t417 => (spec_l2Give.l0 k3 a1 x5_3 x6_19 (wrap64 (x7_3 + t417)) l0_0)))) else ((spec_l2Size.f (rd l0_0 x7_3)).bind fun t419 => (spec_l2Give.l0 k3 a1 x5_3 x6_19 (wrap64 (x7_3 + t419)) l0_0))) = some r := H
                        have A31 := Aside0.mk A310
                        clear A310
                        by_cases c32 : (wrap64 (x7_3 + t411)) = a1
                        · rw [if_pos c32] at H
                          have c32b0 : ((wrap64 (x7_3 + t411)) == a1) = true := beq_iff_eq.mpr c32
                          have c32b1 : ((wrap64 (x7_3 + t411)) != a1) = false := bne_eq_false_iff_eq.mpr c32
                          clear c32
                          replace H := Option.bind_eq_some_iff.mp H
                          obtain ⟨t413, A330, H⟩ := H
                          replace H : (if t413 = 0 then ((spec_l2Size.f (rd l0_0 x7_3)).bind fun t415 => (spec_l2Give.l0 k3 a1 x7_3 x6_19 (wrap64 (x7_3 + t415)) l0_0)) else ((spec_l2Size.f (rd l0_0 x7_3)).bind fun t417 => (spec_l2Give.l0 k3 a1 x5_3 x6_19 (wrap64 (x7_3 + t417)) l0_0))) = some r := H
                          have A33 := Aside0.mk A330
                          clear A330
                          by_cases c34 : t413 = 0
                          · rw [if_pos c34] at H
                            have c34b0 : (t413 == 0) = true := beq_iff_eq.mpr c34
                            have c34b1 : (t413 != 0) = false := bne_eq_false_iff_eq.mpr c34
                            clear c34
                            replace H := Option.bind_eq_some_iff.mp H
                            obtain ⟨t415, A350, H⟩ := H
                            replace H : (spec_l2Give.l0 k3 a1 x7_3 x6_19 (wrap64 (x7_3 + t415)) l0_0) = some r := H
                            have A35 := Aside0.mk A350
                            clear A350
                            have H' := Aside0.mk H
                            clear H
                            have hnb36 := NB402_403.out
                            have hnc36 := NB403_402.out
                            have hcz37_0 : wr.cell? ⟨gb402, 0, none⟩ = some (.slice (some ad404) l0_0.length co7) := (blk_cell BK402.out 0).trans rfl
                            have hfz37_0 := blk_frozen BK402.out 0
                            have p410 : 0 ≤ (x7_3 : Int) := of_decide_eq_true (by first | (with_reducible assumption) | assumption)
                            have q410 : x7_3 < (l0_0.length : Int) := of_decide_eq_true (by first | (with_reducible assumption) | assumption)
                            obtain ⟨ad410, e410, hx410_0⟩ := Kd.at_int (Kd.R_reads' HO_403000.out).2.2 x7_3 p410 q410
                            obtain rfl : ad404 = ad410 := (by injection e410)
                            replace p410 := eq_true p410
                            replace q410 := eq_true q410
                            go_wp2_with (first | ((with_reducible refine gate_callee (f := 58) rfl ?_); refine goesL_ (some 57) rfl rfl Try.func58 (by kernel_rfl) rfl #[.int .i64 (rd l0_0 x7_3)] rfl (by (try simp only [List.map_toArray, List.map_cons, List.map_nil]); first | done | rfl | (simp only [List.length_drop, List.length_take]; rfl)) ?_; (with_reducible refine (spec_l2Size.calls (rd l0_0 x7_3) t411 _ A31.out).mono ?_); rintro e w' ⟨rfl, ⟨nd, rfl⟩⟩; refine ⟨_, rfl, ?_⟩; have p412 : 0 ≤ (x7_3 : Int) := of_decide_eq_true (by first | (with_reducible assumption) | assumption); have q412 : x7_3 < (l0_0.length : Int) := of_decide_eq_true (by first | (with_reducible assumption) | assumption); obtain ⟨ad412, e412, hx412_0⟩ := Kd.at_int (Kd.R_reads' HO_403000.out).2.2 x7_3 p412 q412; obtain rfl : ad404 = ad412 := (by injection e412); replace p412 := eq_true p412; replace q412 := eq_true q412) | (go_at_call 56; (with_reducible refine (spec_l2Kind.calls (rd l0_0 x7_3) t413 _ A33.out).mono ?_); rintro e w' ⟨rfl, ⟨nd, rfl⟩⟩; have p414 : 0 ≤ (x7_3 : Int) := of_decide_eq_true (by first | (with_reducible assumption) | assumption); have q414 : x7_3 < (l0_0.length : Int) := of_decide_eq_true (by first | (with_reducible assumption) | assumption); obtain ⟨ad414, e414, hx414_0⟩ := Kd.at_int (Kd.R_reads' HO_403000.out).2.2 x7_3 p414 q414; obtain rfl : ad404 = ad414 := (by injection e414); replace p414 := eq_true p414; replace q414 := eq_true q414) | ((with_reducible refine gate_callee (f := 58) rfl ?_); refine goesL_ (some 49) rfl rfl Try.func58 (by kernel_rfl) rfl #[.int .i64 (rd l0_0 x7_3)] rfl (by (try simp only [List.map_toArray, List.map_cons, List.map_nil]); first | done | rfl | (simp only [List.length_drop, List.length_take]; rfl)) ?_; (with_reducible refine (spec_l2Size.calls (rd l0_0 x7_3) t415 _ A35.out).mono ?_); rintro e w' ⟨rfl, ⟨nd, rfl⟩⟩; refine ⟨_, rfl, ?_⟩))
                            go_roundg k3
                            case measure => have := HJ5.out; have := HJ19.out; have := HK3.out; omega
                            case rel => exact ⟨(x7_3), (wrap64 (x7_3 + t415)), (by first | rfl | (simp; done) | (simp [*]; done)), (by first | rfl | (simp; done) | (simp [*]; done)), H', ⟨by have := HJ5.out; have := HJ19.out; have := HK3.out; omega⟩, ⟨by (with_reducible repeat (first | apply Kd.R_alloc | apply Kd.R_drewN | apply Kd.R_drew)); exact HO_403000.out⟩, ⟨by (with_reducible repeat (first | refine blk_drewN ?_ _ | refine blk_drew ?_ | refine blk_alloc ?_ _)); exact BK402.out⟩, ⟨by (with_reducible repeat (first | refine blk_drewN ?_ _ | refine blk_drew ?_ | refine blk_alloc ?_ _)); exact BK403.out⟩, ⟨by repeat (first | (with_reducible first | exact HK.out | apply Kept.alloc | apply Kept.drewN | apply Kept.drew | refine Kept.setCell ?_ (.inr GW402.out) _ | refine Kept.setCell ?_ (.inr GW403.out) _) | exact HK.out)⟩, ⟨by repeat (first | (with_reducible first | exact HB.out | apply below_alloc | apply pw_below_drewN | apply below_drew1 | refine below_set ?_ GE402.out | refine below_set ?_ GE403.out) | exact HB.out)⟩⟩
                          · rw [if_neg c34] at H
                            have c34b0 : (t413 == 0) = false := beq_eq_false_iff_ne.mpr c34
                            have c34b1 : (t413 != 0) = true := bne_iff_ne.mpr c34
                            replace H := Option.bind_eq_some_iff.mp H
                            obtain ⟨t417, A380, H⟩ := H
                            replace H : (spec_l2Give.l0 k3 a1 x5_3 x6_19 (wrap64 (x7_3 + t417)) l0_0) = some r := H
                            have A38 := Aside0.mk A380
                            clear A380
                            have H' := Aside0.mk H
                            clear H
                            have hnb39 := NB402_403.out
                            have hnc39 := NB403_402.out
                            have hcz40_0 : wr.cell? ⟨gb402, 0, none⟩ = some (.slice (some ad404) l0_0.length co7) := (blk_cell BK402.out 0).trans rfl
                            have hfz40_0 := blk_frozen BK402.out 0
                            have p410 : 0 ≤ (x7_3 : Int) := of_decide_eq_true (by first | (with_reducible assumption) | assumption)
                            have q410 : x7_3 < (l0_0.length : Int) := of_decide_eq_true (by first | (with_reducible assumption) | assumption)
                            obtain ⟨ad410, e410, hx410_0⟩ := Kd.at_int (Kd.R_reads' HO_403000.out).2.2 x7_3 p410 q410
                            obtain rfl : ad404 = ad410 := (by injection e410)
                            replace p410 := eq_true p410
                            replace q410 := eq_true q410
                            go_wp2_with (first | ((with_reducible refine gate_callee (f := 58) rfl ?_); refine goesL_ (some 57) rfl rfl Try.func58 (by kernel_rfl) rfl #[.int .i64 (rd l0_0 x7_3)] rfl (by (try simp only [List.map_toArray, List.map_cons, List.map_nil]); first | done | rfl | (simp only [List.length_drop, List.length_take]; rfl)) ?_; (with_reducible refine (spec_l2Size.calls (rd l0_0 x7_3) t411 _ A31.out).mono ?_); rintro e w' ⟨rfl, ⟨nd, rfl⟩⟩; refine ⟨_, rfl, ?_⟩; have p412 : 0 ≤ (x7_3 : Int) := of_decide_eq_true (by first | (with_reducible assumption) | assumption); have q412 : x7_3 < (l0_0.length : Int) := of_decide_eq_true (by first | (with_reducible assumption) | assumption); obtain ⟨ad412, e412, hx412_0⟩ := Kd.at_int (Kd.R_reads' HO_403000.out).2.2 x7_3 p412 q412; obtain rfl : ad404 = ad412 := (by injection e412); replace p412 := eq_true p412; replace q412 := eq_true q412) | (go_at_call 56; (with_reducible refine (spec_l2Kind.calls (rd l0_0 x7_3) t413 _ A33.out).mono ?_); rintro e w' ⟨rfl, ⟨nd, rfl⟩⟩; have p416 : 0 ≤ (x7_3 : Int) := of_decide_eq_true (by first | (with_reducible assumption) | assumption); have q416 : x7_3 < (l0_0.length : Int) := of_decide_eq_true (by first | (with_reducible assumption) | assumption); obtain ⟨ad416, e416, hx416_0⟩ := Kd.at_int (Kd.R_reads' HO_403000.out).2.2 x7_3 p416 q416; obtain rfl : ad404 = ad416 := (by injection e416); replace p416 := eq_true p416; replace q416 := eq_true q416) | ((with_reducible refine gate_callee (f := 58) rfl ?_); refine goesL_ (some 49) rfl rfl Try.func58 (by kernel_rfl) rfl #[.int .i64 (rd l0_0 x7_3)] rfl (by (try simp only [List.map_toArray, List.map_cons, List.map_nil]); first | done | rfl | (simp only [List.length_drop, List.length_take]; rfl)) ?_; (with_reducible refine (spec_l2Size.calls (rd l0_0 x7_3) t417 _ A38.out).mono ?_); rintro e w' ⟨rfl, ⟨nd, rfl⟩⟩; refine ⟨_, rfl, ?_⟩))
                            go_roundg k3
                            case measure => have := HJ5.out; have := HJ19.out; have := HK3.out; omega
                            case rel => exact ⟨(x5_3), (wrap64 (x7_3 + t417)), (by first | rfl | (simp; done) | (simp [*]; done)), (by first | rfl | (simp; done) | (simp [*]; done)), H', ⟨by have := HJ5.out; have := HJ19.out; have := HK3.out; omega⟩, ⟨by (with_reducible repeat (first | apply Kd.R_alloc | apply Kd.R_drewN | apply Kd.R_drew)); exact HO_403000.out⟩, ⟨by (with_reducible repeat (first | refine blk_drewN ?_ _ | refine blk_drew ?_ | refine blk_alloc ?_ _)); exact BK402.out⟩, ⟨by (with_reducible repeat (first | refine blk_drewN ?_ _ | refine blk_drew ?_ | refine blk_alloc ?_ _)); exact BK403.out⟩, ⟨by repeat (first | (with_reducible first | exact HK.out | apply Kept.alloc | apply Kept.drewN | apply Kept.drew | refine Kept.setCell ?_ (.inr GW402.out) _ | refine Kept.setCell ?_ (.inr GW403.out) _) | exact HK.out)⟩, ⟨by repeat (first | (with_reducible first | exact HB.out | apply below_alloc | apply pw_below_drewN | apply below_drew1 | refine below_set ?_ GE402.out | refine below_set ?_ GE403.out) | exact HB.out)⟩⟩
                        · rw [if_neg c32] at H
                          have c32b0 : ((wrap64 (x7_3 + t411)) == a1) = false := beq_eq_false_iff_ne.mpr c32
                          have c32b1 : ((wrap64 (x7_3 + t411)) != a1) = true := bne_iff_ne.mpr c32
                          replace H := Option.bind_eq_some_iff.mp H
                          obtain ⟨t419, A410, H⟩ := H
                          replace H : (spec_l2Give.l0 k3 a1 x5_3 x6_19 (wrap64 (x7_3 + t419)) l0_0) = some r := H
                          have A41 := Aside0.mk A410
                          clear A410
                          have H' := Aside0.mk H
                          clear H
                          have hnb42 := NB402_403.out
                          have hnc42 := NB403_402.out
                          have hcz43_0 : wr.cell? ⟨gb402, 0, none⟩ = some (.slice (some ad404) l0_0.length co7) := (blk_cell BK402.out 0).trans rfl
                          have hfz43_0 := blk_frozen BK402.out 0
                          have p410 : 0 ≤ (x7_3 : Int) := of_decide_eq_true (by first | (with_reducible assumption) | assumption)
                          have q410 : x7_3 < (l0_0.length : Int) := of_decide_eq_true (by first | (with_reducible assumption) | assumption)
                          obtain ⟨ad410, e410, hx410_0⟩ := Kd.at_int (Kd.R_reads' HO_403000.out).2.2 x7_3 p410 q410
                          obtain rfl : ad404 = ad410 := (by injection e410)
                          replace p410 := eq_true p410
                          replace q410 := eq_true q410
                          go_wp2_with (first | ((with_reducible refine gate_callee (f := 58) rfl ?_); refine goesL_ (some 57) rfl rfl Try.func58 (by kernel_rfl) rfl #[.int .i64 (rd l0_0 x7_3)] rfl (by (try simp only [List.map_toArray, List.map_cons, List.map_nil]); first | done | rfl | (simp only [List.length_drop, List.length_take]; rfl)) ?_; (with_reducible refine (spec_l2Size.calls (rd l0_0 x7_3) t411 _ A31.out).mono ?_); rintro e w' ⟨rfl, ⟨nd, rfl⟩⟩; refine ⟨_, rfl, ?_⟩; have p418 : 0 ≤ (x7_3 : Int) := of_decide_eq_true (by first | (with_reducible assumption) | assumption); have q418 : x7_3 < (l0_0.length : Int) := of_decide_eq_true (by first | (with_reducible assumption) | assumption); obtain ⟨ad418, e418, hx418_0⟩ := Kd.at_int (Kd.R_reads' HO_403000.out).2.2 x7_3 p418 q418; obtain rfl : ad404 = ad418 := (by injection e418); replace p418 := eq_true p418; replace q418 := eq_true q418) | ((with_reducible refine gate_callee (f := 58) rfl ?_); refine goesL_ (some 49) rfl rfl Try.func58 (by kernel_rfl) rfl #[.int .i64 (rd l0_0 x7_3)] rfl (by (try simp only [List.map_toArray, List.map_cons, List.map_nil]); first | done | rfl | (simp only [List.length_drop, List.length_take]; rfl)) ?_; (with_reducible refine (spec_l2Size.calls (rd l0_0 x7_3) t419 _ A41.out).mono ?_); rintro e w' ⟨rfl, ⟨nd, rfl⟩⟩; refine ⟨_, rfl, ?_⟩))
                          go_roundg k3
                          case measure => have := HJ5.out; have := HJ19.out; have := HK3.out; omega
                          case rel => exact ⟨(x5_3), (wrap64 (x7_3 + t419)), (by first | rfl | (simp; done) | (simp [*]; done)), (by first | rfl | (simp; done) | (simp [*]; done)), H', ⟨by have := HJ5.out; have := HJ19.out; have := HK3.out; omega⟩, ⟨by (with_reducible repeat (first | apply Kd.R_alloc | apply Kd.R_drewN | apply Kd.R_drew)); exact HO_403000.out⟩, ⟨by (with_reducible repeat (first | refine blk_drewN ?_ _ | refine blk_drew ?_ | refine blk_alloc ?_ _)); exact BK402.out⟩, ⟨by (with_reducible repeat (first | refine blk_drewN ?_ _ | refine blk_drew ?_ | refine blk_alloc ?_ _)); exact BK403.out⟩, ⟨by repeat (first | (with_reducible first | exact HK.out | apply Kept.alloc | apply Kept.drewN | apply Kept.drew | refine Kept.setCell ?_ (.inr GW402.out) _ | refine Kept.setCell ?_ (.inr GW403.out) _) | exact HK.out)⟩, ⟨by repeat (first | (with_reducible first | exact HB.out | apply below_alloc | apply pw_below_drewN | apply below_drew1 | refine below_set ?_ GE402.out | refine below_set ?_ GE403.out) | exact HB.out)⟩⟩
                      · rw [if_neg c30] at H
                        exact absurd H (by simp)
                    · rw [if_neg c29] at H
                      exact absurd H (by simp)
                  · rw [if_neg c28] at H
                    have c28b0 : decide (x7_3 < a1) = false := decide_eq_false c28
                    clear c28
                    have H' := Aside0.mk H
                    clear H
                    go_wp2
                    go_loopg [8] k3 (fun kq v8 w' => ∃ (x8_4 : Int) (x403000_4 : List Int) (u403000 : Value), v8 = .int .i64 x8_4 ∧ Aside0 (spec_l2Give.l1 kq x5_3 x6_19 x8_4 x403000_4 = some r) ∧ Aside0 (kq ≤ k3) ∧ Aside0 (Kd.R (Kd.int .i64) 3 w' w0.heap.size (fun k_ => (P0_0_ k_ ∨ w.heap.size ≤ k_)) u403000 x403000_4) ∧ Aside0 (w'.heap[gb402]? = some (.cells #[u403000] 27 (0, 0))) ∧ Aside0 (w'.heap[gb403]? = some (.cells #[(.slice none 0 0)] 27 (0, 0))) ∧ Aside0 (Kept w w' (fun k_ => P0_0_ k_)) ∧ Aside0 (Below w0.heap.size w0 w'))
                    case atStart => exact ⟨(x5_3), (l0_0), (.slice (some ad404) l0_0.length co7), (by first | rfl | (simp; done) | (simp [*]; done)), H', ⟨Nat.le_refl _⟩, ⟨by (with_reducible repeat (first | apply Kd.R_alloc | apply Kd.R_drewN | apply Kd.R_drew)); exact HO_403000.out⟩, ⟨by (with_reducible repeat (first | refine blk_drewN ?_ _ | refine blk_drew ?_ | refine blk_alloc ?_ _)); exact BK402.out⟩, ⟨by (with_reducible repeat (first | refine blk_drewN ?_ _ | refine blk_drew ?_ | refine blk_alloc ?_ _)); exact BK403.out⟩, ⟨by repeat (first | (with_reducible first | exact HK.out | apply Kept.alloc | apply Kept.drewN | apply Kept.drew | refine Kept.setCell ?_ (.inr GW402.out) _ | refine Kept.setCell ?_ (.inr GW403.out) _) | exact HK.out)⟩, ⟨by repeat (first | (with_reducible first | exact HB.out | apply below_alloc | apply pw_below_drewN | apply below_drew1 | refine below_set ?_ GE402.out | refine below_set ?_ GE403.out) | exact HB.out)⟩⟩
                    case round =>
                      clear H'
                      try clear c1
                      try clear c2
                      try clear p2
                      try clear c3
                      try clear c3b0
                      try clear c4
                      try clear c4b0
                      try clear p4
                      try clear q4
                      try clear hx4
                      try clear c5
                      try clear c6
                      try clear p6
                      try clear c10
                      try clear c12
                      try clear c12b0
                      try clear c14
                      try clear c14b0
                      try clear c16
                      try clear c18
                      try clear c21
                      try clear c23
                      try clear c23b0
                      try clear c24
                      try clear c24b0
                      try clear c26
                      try clear c28
                      try clear c28b0
                      try clear c29
                      try clear c29b0
                      try clear c30
                      try clear c30b0
                      try clear c32
                      try clear c32b0
                      try clear c32b1
                      try clear c34
                      try clear c34b0
                      try clear c34b1
                      try clear c36
                      try clear c39
                      try clear p40
                      try clear q40
                      try clear hx40
                      try clear p41
                      try clear q41
                      try clear hx41
                      try clear c42
                      try clear hcz11_0
                      try clear hcz17_0
                      try clear hcz19_0
                      try clear hcz27_0
                      try clear hcz37_0
                      try clear hcz40_0
                      try clear hcz43_0
                      try clear hfz11_0
                      try clear hfz17_0
                      try clear hfz19_0
                      try clear hfz27_0
                      try clear hfz37_0
                      try clear hfz40_0
                      try clear hfz43_0
                      try clear hx404_0
                      try clear hx406_0
                      try clear hx408_0
                      try clear hx410_0
                      try clear hx412_0
                      try clear hx414_0
                      try clear hx416_0
                      try clear hx418_0
                      try clear p2
                      try clear p4
                      try clear p404
                      try clear p406
                      try clear p408
                      try clear p410
                      try clear p412
                      try clear p414
                      try clear p416
                      try clear p418
                      try clear p6
                      try clear q4
                      try clear q404
                      try clear q406
                      try clear q408
                      try clear q410
                      try clear q412
                      try clear q414
                      try clear q416
                      try clear q418
                      obtain ⟨x8_4, x403000_4, u403000, rfl, HA, HK4, HO_403000, BK402, BK403, HK, HB⟩ := hrel
                      cases gk with
                      | zero => exact absurd HA.out (by simp [spec_l2Give.l1])
                      | succ k4 =>
                        have H := HA.out
                        clear HA
                        simp only [spec_l2Give.l1] at H
                        by_cases c44 : x8_4 < x6_19
                        · rw [if_pos c44] at H
                          have c44b0 : decide (x8_4 < x6_19) = true := decide_eq_true c44
                          clear c44
                          by_cases c45 : 0 ≤ x8_4
                          · rw [if_pos c45] at H
                            have c45b0 : decide (0 ≤ x8_4) = true := decide_eq_true c45
                            clear c45
                            by_cases c46 : x8_4 < (x403000_4.length : Int)
                            · rw [if_pos c46] at H
                              have c46b0 : decide (x8_4 < (x403000_4.length : Int)) = true := decide_eq_true c46
                              clear c46
                              obtain ⟨y420, hy420⟩ : ∃ y_ : List Int, y_ = (x403000_4.set (x8_4 : Int).toNat 0) := ⟨_, rfl⟩
                              replace H : (spec_l2Give.l1 k4 x5_3 x6_19 (wrap64 (x8_4 + 1)) y420) = some r := by first | (rw [hy420]; with_reducible exact H) | (have H2_ := (Option.bind_some _ _).symm.trans H; rw [hy420]; with_reducible exact H2_) | (have H2_ := (Option.bind_some _ _).symm.trans H; with_reducible exact H2_) | with_reducible exact H | (rw [hy420]; exact H) | exact H
                              have Ny420 := Aside0.mk hy420
                              clear hy420
                              have H' := Aside0.mk H
                              clear H
                              have hnb48 := NB402_403.out
                              have hnc48 := NB403_402.out
                              have hcz49_0 : wr.cell? ⟨gb402, 0, none⟩ = some (u403000) := (blk_cell BK402.out 0).trans rfl
                              have hfz49_0 := blk_frozen BK402.out 0
                              have p47 : 0 ≤ (x8_4 : Int) := of_decide_eq_true (by first | (with_reducible assumption) | assumption)
                              have q47 : (x8_4 : Int) < ((x403000_4.length : Int) : Int) := of_decide_eq_true (by first | (with_reducible assumption) | assumption)
                              obtain ⟨go47, co47, eo47, gb47, gl47, cl47, HG47⟩ := Kd.R_form HO_403000.out (by omega)
                              (first | cases eo47 | (injection eo47 with ea_ en_ ec_; (first | subst ea_ | (injection ea_ with ea_; subst ea_)); subst ec_; clear en_))
                              have GB47 := Aside0.mk gb47
                              have GG47 := Aside0.mk HG47
                              clear gb47 gl47 HG47
                              have HMgo47 := Aside0.mk (show (P0_0_ go47 ∨ w.heap.size ≤ go47) from (HO_403000.out.1 _ rfl))
                              obtain ⟨hx47_0, hf47_0⟩ := Kd.R_celln 0 HO_403000.out (x8_4 : Int) p47 q47
                              replace p47 := eq_true p47
                              replace q47 := eq_true q47
                              have HP50 := Kd.R_putg HO_403000.out (x8_4 : Int) 0
                              go_wp2_with (first | ((with_reducible refine gate_store (t := 3) (p := 80) rfl ?_); refine store_event (t := 3) (p := 80) (v := ?vo_w51) (w1 := (wr.setCell ⟨go47, (x8_4 : Int).toNat, none⟩ (.int .i64 0))) ?hg ?ho ?hn ?hr ?_; (case ho => rfl); (case hg => rfl); (case hn => rfl); (case hr => first | (go_simp; done) | (go_simp; rfl)); intro w51 hw; have hg : wr.grownBy w51 (some go47) := (by rw [hw]; exact HP50.2); have hp_ : Kd.R (Kd.int .i64) 3 w51 w0.heap.size (fun k_ => (P0_0_ k_ ∨ w.heap.size ≤ k_)) (.slice (some ⟨go47, 0, none⟩) x403000_4.length co47) y420 := (by rw [hw, Ny420.out]; exact HP50.1); clear HP50; have n0_ := Aside0.mk (hp_); have n1_ := Aside0.mk (blk_grown (g := gb402) (o := .cells #[.slice (some ⟨go47, 0, none⟩) x403000_4.length co47] 27 (0, 0)) (by (with_reducible repeat (first | refine blk_drewN ?_ _ | refine blk_drew ?_ | refine blk_alloc ?_ _)); exact BK402.out) hg (Kd.R_ne HO_403000.out BK402.out (by decide))); have n2_ := Aside0.mk (blk_grown (g := gb403) (o := .cells #[.slice none 0 0] 27 (0, 0)) (by (with_reducible repeat (first | refine blk_drewN ?_ _ | refine blk_drew ?_ | refine blk_alloc ?_ _)); exact BK403.out) hg (Kd.R_ne HO_403000.out BK403.out (by decide))); have n3_ := Aside0.mk ((by rw [hw]; exact below_set (HB.out) GB47.out : Below w0.heap.size w0 w51)); have n4_ := Aside0.mk (Kept.of_grown (S := (fun k_ => P0_0_ k_)) hg (by repeat (first | (with_reducible first | exact HK.out | apply Kept.alloc | apply Kept.drewN | apply Kept.drew | refine Kept.setCell ?_ (.inr GW402.out) _ | refine Kept.setCell ?_ (.inr GW403.out) _) | exact HK.out)) (fun k_ e_ => (HO_403000.out.1 k_ e_))); clear HO_403000; clear BK402; clear BK403; clear HB; clear HK; have HO_403000 := n0_; have BK402 := n1_; have BK403 := n2_; have HB := n3_; have HK := n4_; clear n0_ n1_ n2_ n3_ n4_; clear hg hw hp_))
                              go_roundg k4
                              case measure => have := HJ5.out; have := HJ19.out; have := HK3.out; have := HK4.out; omega
                              case rel => exact ⟨(wrap64 (x8_4 + 1)), (y420), (.slice (some ⟨go47, 0, none⟩) x403000_4.length co47), (by first | rfl | (simp; done) | (simp [*]; done)), H', ⟨by have := HJ5.out; have := HJ19.out; have := HK3.out; have := HK4.out; omega⟩, ⟨by (with_reducible repeat (first | apply Kd.R_alloc | apply Kd.R_drewN | apply Kd.R_drew)); exact HO_403000.out⟩, ⟨by (with_reducible repeat (first | refine blk_drewN ?_ _ | refine blk_drew ?_ | refine blk_alloc ?_ _)); exact BK402.out⟩, ⟨by (with_reducible repeat (first | refine blk_drewN ?_ _ | refine blk_drew ?_ | refine blk_alloc ?_ _)); exact BK403.out⟩, ⟨by repeat (first | (with_reducible first | exact HK.out | apply Kept.alloc | apply Kept.drewN | apply Kept.drew | refine Kept.setCell ?_ (.inr GW402.out) _ | refine Kept.setCell ?_ (.inr GW403.out) _) | exact HK.out)⟩, ⟨by repeat (first | (with_reducible first | exact HB.out | apply below_alloc | apply pw_below_drewN | apply below_drew1 | refine below_set ?_ GE402.out | refine below_set ?_ GE403.out) | exact HB.out)⟩⟩
                            · rw [if_neg c46] at H
                              exact absurd H (by simp)
                          · rw [if_neg c45] at H
                            exact absurd H (by simp)
                        · rw [if_neg c44] at H
                          have c44b0 : decide (x8_4 < x6_19) = false := decide_eq_false c44
                          clear c44
                          by_cases c52 : 0 ≤ x5_3
                          · rw [if_pos c52] at H
                            have c52b0 : decide (0 ≤ x5_3) = true := decide_eq_true c52
                            clear c52
                            by_cases c53 : x5_3 < (x403000_4.length : Int)
                            · rw [if_pos c53] at H
                              have c53b0 : decide (x5_3 < (x403000_4.length : Int)) = true := decide_eq_true c53
                              clear c53
                              obtain ⟨y421, hy421⟩ : ∃ y_ : List Int, y_ = (x403000_4.set (x5_3 : Int).toNat (wrap64 (8 * (wrap64 (x6_19 - x5_3))))) := ⟨_, rfl⟩
                              replace H : (some y421) = some r := by first | (rw [hy421]; with_reducible exact H) | (have H2_ := (Option.bind_some _ _).symm.trans H; rw [hy421]; with_reducible exact H2_) | (have H2_ := (Option.bind_some _ _).symm.trans H; with_reducible exact H2_) | with_reducible exact H | (rw [hy421]; exact H) | exact H
                              have Ny421 := Aside0.mk hy421
                              clear hy421
                              obtain rfl := Option.some.inj H
                              have hnb55 := NB402_403.out
                              have hnc55 := NB403_402.out
                              have hcz56_0 : wr.cell? ⟨gb402, 0, none⟩ = some (u403000) := (blk_cell BK402.out 0).trans rfl
                              have hfz56_0 := blk_frozen BK402.out 0
                              have p54 : 0 ≤ (x5_3 : Int) := of_decide_eq_true (by first | (with_reducible assumption) | assumption)
                              have q54 : (x5_3 : Int) < ((x403000_4.length : Int) : Int) := of_decide_eq_true (by first | (with_reducible assumption) | assumption)
                              obtain ⟨go54, co54, eo54, gb54, gl54, cl54, HG54⟩ := Kd.R_form HO_403000.out (by omega)
                              (first | cases eo54 | (injection eo54 with ea_ en_ ec_; (first | subst ea_ | (injection ea_ with ea_; subst ea_)); subst ec_; clear en_))
                              have GB54 := Aside0.mk gb54
                              have GG54 := Aside0.mk HG54
                              clear gb54 gl54 HG54
                              have HMgo54 := Aside0.mk (show (P0_0_ go54 ∨ w.heap.size ≤ go54) from (HO_403000.out.1 _ rfl))
                              obtain ⟨hx54_0, hf54_0⟩ := Kd.R_celln 0 HO_403000.out (x5_3 : Int) p54 q54
                              replace p54 := eq_true p54
                              replace q54 := eq_true q54
                              have HP57 := Kd.R_putg HO_403000.out (x5_3 : Int) (wrap64 (8 * (wrap64 (x6_19 - x5_3))))
                              go_wp2_with (first | ((with_reducible refine gate_store (t := 3) (p := 88) rfl ?_); refine store_event (t := 3) (p := 88) (v := ?vo_w58) (w1 := (wr.setCell ⟨go54, (x5_3 : Int).toNat, none⟩ (.int .i64 (wrap64 (8 * (wrap64 (x6_19 - x5_3))))))) ?hg ?ho ?hn ?hr ?_; (case ho => rfl); (case hg => rfl); (case hn => rfl); (case hr => first | (go_simp; done) | (go_simp; rfl)); intro w58 hw; have hg : wr.grownBy w58 (some go54) := (by rw [hw]; exact HP57.2); have hp_ : Kd.R (Kd.int .i64) 3 w58 w0.heap.size (fun k_ => (P0_0_ k_ ∨ w.heap.size ≤ k_)) (.slice (some ⟨go54, 0, none⟩) x403000_4.length co54) y421 := (by rw [hw, Ny421.out]; exact HP57.1); clear HP57; have n0_ := Aside0.mk (hp_); have n1_ := Aside0.mk (blk_grown (g := gb402) (o := .cells #[.slice (some ⟨go54, 0, none⟩) x403000_4.length co54] 27 (0, 0)) (by (with_reducible repeat (first | refine blk_drewN ?_ _ | refine blk_drew ?_ | refine blk_alloc ?_ _)); exact BK402.out) hg (Kd.R_ne HO_403000.out BK402.out (by decide))); have n2_ := Aside0.mk (blk_grown (g := gb403) (o := .cells #[.slice none 0 0] 27 (0, 0)) (by (with_reducible repeat (first | refine blk_drewN ?_ _ | refine blk_drew ?_ | refine blk_alloc ?_ _)); exact BK403.out) hg (Kd.R_ne HO_403000.out BK403.out (by decide))); have n3_ := Aside0.mk ((by rw [hw]; exact below_set (HB.out) GB54.out : Below w0.heap.size w0 w58)); have n4_ := Aside0.mk (Kept.of_grown (S := (fun k_ => P0_0_ k_)) hg (by repeat (first | (with_reducible first | exact HK.out | apply Kept.alloc | apply Kept.drewN | apply Kept.drew | refine Kept.setCell ?_ (.inr GW402.out) _ | refine Kept.setCell ?_ (.inr GW403.out) _) | exact HK.out)) (fun k_ e_ => (HO_403000.out.1 k_ e_))); clear HO_403000; clear BK402; clear BK403; clear HB; clear HK; have HO_403000 := n0_; have BK402 := n1_; have BK403 := n2_; have HB := n3_; have HK := n4_; clear n0_ n1_ n2_ n3_ n4_; clear hg hw hp_; have hcz59_0 : w58.cell? ⟨gb402, 0, none⟩ = some (.slice (some ⟨go54, 0, none⟩) x403000_4.length co54) := (blk_cell BK402.out 0).trans rfl; have hfz59_0 := blk_frozen BK402.out 0; have hcz60_0 : w58.cell? ⟨gb403, 0, none⟩ = some (.slice none 0 0) := (blk_cell BK403.out 0).trans rfl; have hfz60_0 := blk_frozen BK403.out 0))
                              refine bodyPost_ret (results_cell_row rfl _ _ gb403 27 #[.slice (some ⟨go54, 0, none⟩) x403000_4.length co54] (0, 0) _ rfl (by (with_reducible repeat (first | refine blk_drewN ?_ _ | refine blk_drew ?_ | refine blk_alloc ?_ _)); refine blk_put (cs := #[.slice none 0 0]) ?_ 0 _ rfl; (with_reducible repeat (first | refine blk_drewN ?_ _ | refine blk_drew ?_ | refine blk_alloc ?_ _)); exact BK403.out) Try.underlying27 rfl (by kernel_rfl)) rfl ?_
                              exact ⟨_, by first | rfl | (simp [errW_none, errW_some] <;> rfl) | (simp [*, errW_none, errW_some] <;> rfl), by (with_reducible repeat (first | apply Kd.R_alloc | apply Kd.R_drewN | apply Kd.R_drew)); exact Kd.R_mono (Kd.R_far (p := ⟨gb403, 0, none⟩) (Kd.R_types HO_403000.out BK403.out (by decide)) (fun _ hk => hk.2) (.slice (some ⟨go54, 0, none⟩) x403000_4.length co54)) (fun _ hk => hk.1), by repeat (first | (with_reducible first | exact HB.out | apply below_alloc | apply pw_below_drewN | apply below_drew1 | refine below_set ?_ GE402.out | refine below_set ?_ GE403.out) | exact HB.out), by repeat (first | (with_reducible first | exact HK.out | apply Kept.alloc | apply Kept.drewN | apply Kept.drew | refine Kept.setCell ?_ (.inr GW402.out) _ | refine Kept.setCell ?_ (.inr GW403.out) _) | exact HK.out)⟩
                            · rw [if_neg c53] at H
                              exact absurd H (by simp)
                          · rw [if_neg c52] at H
                            exact absurd H (by simp)
    · rw [if_neg c4] at H
      exact absurd H (by simp)
  · rw [if_neg c3] at H
    exact absurd H (by simp)

end Go.Proofs.Ytnjlodjehneonaa.F
