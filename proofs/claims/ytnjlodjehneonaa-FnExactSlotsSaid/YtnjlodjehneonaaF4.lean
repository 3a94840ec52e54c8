-- printed by pr.py out of the kit's print program: not written by hand
import Derived.Test.YtnjlodjehneonaaF0
import Derived.Test.YtnjlodjehneonaaF1
import Derived.Test.YtnjlodjehneonaaF3
namespace Go.Proofs.Ytnjlodjehneonaa.F
open Go.RowKit Go.Proofs.YtnjlodjehneonaaW.PrintWords Go.Proofs.YtnjlodjehneonaaW.PrintLast Go.Proofs.YtnjlodjehneonaaW.PrintMore Go.Proofs.YtnjlodjehneonaaW.Hand
attribute [local go_sem] max2_int min2_int max_two min_two max_three min_three max_four min_four   -- for this text's walks alone
set_option linter.unusedVariables false
set_option linter.unusedSimpArgs false

/-! ### impl_Take: function 23 -/
mutual
def impl_Take.j0 : Nat → Int → Int → Bool → List Int → List Int → Option (List Int × Int × Bool)
  | 0, _, _, _, _, _ => none
  | k + 1, x1, x2, x26, x246000, x252000 => if x26 = true then (some (x252000, 0, false)) else ((impl_Blocks.f k x246000).bind fun t253 => (impl_Take.l0 k x1 x2 t253 (t253.length : Int) 0 x246000 x252000))
def impl_Take.l0 : Nat → Int → Int → List Int → Int → Int → List Int → List Int → Option (List Int × Int × Bool)
  | 0, _, _, _, _, _, _, _ => none
  | k + 1, x1, x2, x29, x30, x31, x246000, x252000 => if x31 < x30 then (if 0 ≤ x31 then (if x31 < (x29.length : Int) then (if 0 ≤ (rd x29 x31) then (if (rd x29 x31) < (x246000.length : Int) then (if (Go.bits .and .i64 (rd x246000 (rd x29 x31)) 7) = 0 then (impl_Take.j2 k x1 x2 (rd x29 x31) ((rd x246000 (rd x29 x31)) / 8) x29 x30 x31 (decide (((rd x246000 (rd x29 x31)) / 8) < x2)) x246000 x252000) else (impl_Take.j2 k x1 x2 (rd x29 x31) ((rd x246000 (rd x29 x31)) / 8) x29 x30 x31 true x246000 x252000)) else (none)) else (none)) else (none)) else (none)) else (some (x252000, 0, false))
def impl_Take.j2 : Nat → Int → Int → Int → Int → List Int → Int → Int → Bool → List Int → List Int → Option (List Int × Int × Bool)
  | 0, _, _, _, _, _, _, _, _, _, _ => none
  | k + 1, x1, x2, x11, x12, x29, x30, x31, x52, x246000, x252000 => if x52 = true then (impl_Take.l0 k x1 x2 x29 x30 (wrap64 (x31 + 1)) x246000 x252000) else (if (wrap64 (x12 - x2)) ≥ 2 then (if 0 ≤ (wrap64 (x11 + x2)) then (if (wrap64 (x11 + x2)) < (x252000.length : Int) then (if 0 ≤ x11 then (if x11 ≤ (wrap64 (x11 + x2)) then (if (wrap64 (x11 + x2)) ≤ (x252000.length : Int) then (if x11 < (wrap64 (x11 + x2)) then (if x11 < (x252000.length : Int) then (some (((cleared (x252000.set ((wrap64 (x11 + x2)) : Int).toNat (wrap64 ((wrap64 (8 * (wrap64 (x12 - x2)))) + 0))) ((x11 : Int).toNat) ((((wrap64 (x11 + x2)) : Int).toNat) - ((x11 : Int).toNat))).set (x11 : Int).toNat (wrap64 ((wrap64 (8 * x2)) + x1))), x11, true)) else (none)) else (none)) else (none)) else (none)) else (none)) else (none)) else (none)) else (if 0 ≤ x11 then (if x11 ≤ (wrap64 (x11 + x12)) then (if (wrap64 (x11 + x12)) ≤ (x252000.length : Int) then (if x11 < (wrap64 (x11 + x12)) then (if x11 < (x252000.length : Int) then (some (((cleared x252000 ((x11 : Int).toNat) ((((wrap64 (x11 + x12)) : Int).toNat) - ((x11 : Int).toNat))).set (x11 : Int).toNat (wrap64 ((wrap64 (8 * x12)) + x1))), x11, true)) else (none)) else (none)) else (none)) else (none)) else (none)))
end
def impl_Take.f (k : Nat) (l0_0 : List Int) (a1 : Int) (a2 : Int) : Option (List Int × Int × Bool) := (impl_SlabOk.f k l0_0).bind fun t247 => (if t247 = true then ((impl_copySlab.f l0_0).bind fun t248 => ((impl_within.f a1 1 5).bind fun t252 => (if t252 = true then (impl_Take.j0 k a1 a2 (decide (a2 < 2)) l0_0 t248) else (impl_Take.j0 k a1 a2 true l0_0 t248)))) else (some (([] : List Int), 0, false)))
theorem impl_Take.mono_l : ∀ k, (∀ y0 y1 y2 y3 y4, LeO (impl_Take.j0 k y0 y1 y2 y3 y4) (impl_Take.j0 (k + 1) y0 y1 y2 y3 y4)) ∧ (∀ y0 y1 y2 y3 y4 y5 y6, LeO (impl_Take.l0 k y0 y1 y2 y3 y4 y5 y6) (impl_Take.l0 (k + 1) y0 y1 y2 y3 y4 y5 y6)) ∧ (∀ y0 y1 y2 y3 y4 y5 y6 y7 y8 y9, LeO (impl_Take.j2 k y0 y1 y2 y3 y4 y5 y6 y7 y8 y9) (impl_Take.j2 (k + 1) y0 y1 y2 y3 y4 y5 y6 y7 y8 y9))
  | 0 => ⟨fun _ _ _ _ _ r h => by simp [impl_Take.j0] at h, fun _ _ _ _ _ _ _ r h => by simp [impl_Take.l0] at h, fun _ _ _ _ _ _ _ _ _ _ r h => by simp [impl_Take.j2] at h⟩
  | k + 1 => by
    obtain ⟨ih0, ih1, ih2⟩ := impl_Take.mono_l k
    refine ⟨?_, ?_, ?_⟩
    · intro y0 y1 y2 y3 y4
      unfold impl_Take.j0
      repeat' first
      | (with_reducible exact ih0 _ _ _ _ _)
      | (with_reducible exact ih1 _ _ _ _ _ _ _)
      | (with_reducible exact ih2 _ _ _ _ _ _ _ _ _ _)
      | (with_reducible exact impl_Blocks.mono _ _)
      | (with_reducible exact impl_SlabOk.mono _ _)
      | (with_reducible exact LeO.refl _)
      | (with_reducible exact LeO.none _)
      | (with_reducible refine LeO.ite ?_ ?_)
      | (with_reducible refine LeO.bind ?_ (fun _ => ?_))
      | exact ih0 _ _ _ _ _
      | exact ih1 _ _ _ _ _ _ _
      | exact ih2 _ _ _ _ _ _ _ _ _ _
      | exact impl_Blocks.mono _ _
      | exact impl_SlabOk.mono _ _
      | exact LeO.none _
      | refine LeO.ite ?_ ?_
      | refine LeO.bind ?_ (fun _ => ?_)
    · intro y0 y1 y2 y3 y4 y5 y6
      unfold impl_Take.l0
      repeat' first
      | (with_reducible exact ih0 _ _ _ _ _)
      | (with_reducible exact ih1 _ _ _ _ _ _ _)
      | (with_reducible exact ih2 _ _ _ _ _ _ _ _ _ _)
      | (with_reducible exact impl_Blocks.mono _ _)
      | (with_reducible exact impl_SlabOk.mono _ _)
      | (with_reducible exact LeO.refl _)
      | (with_reducible exact LeO.none _)
      | (with_reducible refine LeO.ite ?_ ?_)
      | (with_reducible refine LeO.bind ?_ (fun _ => ?_))
      | exact ih0 _ _ _ _ _
      | exact ih1 _ _ _ _ _ _ _
      | exact ih2 _ _ _ _ _ _ _ _ _ _
      | exact impl_Blocks.mono _ _
      | exact impl_SlabOk.mono _ _
      | exact LeO.none _
      | refine LeO.ite ?_ ?_
      | refine LeO.bind ?_ (fun _ => ?_)
    · intro y0 y1 y2 y3 y4 y5 y6 y7 y8 y9
      unfold impl_Take.j2
      repeat' first
      | (with_reducible exact ih0 _ _ _ _ _)
      | (with_reducible exact ih1 _ _ _ _ _ _ _)
      | (with_reducible exact ih2 _ _ _ _ _ _ _ _ _ _)
      | (with_reducible exact impl_Blocks.mono _ _)
      | (with_reducible exact impl_SlabOk.mono _ _)
      | (with_reducible exact LeO.refl _)
      | (with_reducible exact LeO.none _)
      | (with_reducible refine LeO.ite ?_ ?_)
      | (with_reducible refine LeO.bind ?_ (fun _ => ?_))
      | exact ih0 _ _ _ _ _
      | exact ih1 _ _ _ _ _ _ _
      | exact ih2 _ _ _ _ _ _ _ _ _ _
      | exact impl_Blocks.mono _ _
      | exact impl_SlabOk.mono _ _
      | exact LeO.none _
      | refine LeO.ite ?_ ?_
      | refine LeO.bind ?_ (fun _ => ?_)
theorem impl_Take.mono : ∀ a0 a1 a2 k, LeO (impl_Take.f k a0 a1 a2) (impl_Take.f (k + 1) a0 a1 a2) := by
  intro a0 a1 a2 k
  obtain ⟨ih0, ih1, ih2⟩ := impl_Take.mono_l k
  unfold impl_Take.f
  repeat' first
      | (with_reducible exact ih0 _ _ _ _ _)
      | (with_reducible exact ih1 _ _ _ _ _ _ _)
      | (with_reducible exact ih2 _ _ _ _ _ _ _ _ _ _)
      | (with_reducible exact impl_Blocks.mono _ _)
      | (with_reducible exact impl_SlabOk.mono _ _)
      | (with_reducible exact LeO.refl _)
      | (with_reducible exact LeO.none _)
      | (with_reducible refine LeO.ite ?_ ?_)
      | (with_reducible refine LeO.bind ?_ (fun _ => ?_))
      | exact ih0 _ _ _ _ _
      | exact ih1 _ _ _ _ _ _ _
      | exact ih2 _ _ _ _ _ _ _ _ _ _
      | exact impl_Blocks.mono _ _
      | exact impl_SlabOk.mono _ _
      | exact LeO.none _
      | refine LeO.ite ?_ ?_
      | refine LeO.bind ?_ (fun _ => ?_)
set_option maxHeartbeats 8000000 in
set_option maxRecDepth 100000 in
theorem impl_Take.calls (k : Nat) (A0_0 : Option Addr) (c0_0 : Nat) (l0_0 : List Int) (a1 : Int) (a2 : Int) (r1 : List Int) (r2 : Int) (r3 : Bool) (w : World) (hr0_0 : Kd.C (Kd.int .i64) w A0_0 l0_0.length l0_0) (hc0_0 : l0_0.length ≤ c0_0) (h : impl_Take.f k l0_0 a1 a2 = some (r1, r2, r3)) :
    Calls Try.prog 23 #[.agg #[.slice A0_0 l0_0.length c0_0], .int .i64 a1, .int .i64 a2] w fun e w' => ∃ v0_ : Value, e = .returned (.tuple #[.agg #[v0_], .int .i64 r2, .bool r3]) ∧ Kd.R (Kd.int .i64) 3 w' w.heap.size (fun _ => True) v0_ r1 ∧ Below w.heap.size w w' := by
  have hu27 := Try.underlying27
  have HR0_0 := Aside0.mk hr0_0
  have HC0_0 := Aside0.mk hc0_0
  clear hr0_0 hc0_0
  have HB := Aside0.mk (Below.refl w.heap.size w)
  have H : ((impl_SlabOk.f k l0_0).bind fun t247 => (if t247 = true then ((impl_copySlab.f l0_0).bind fun t248 => ((impl_within.f a1 1 5).bind fun t252 => (if t252 = true then (impl_Take.j0 k a1 a2 (decide (a2 < 2)) l0_0 t248) else (impl_Take.j0 k a1 a2 true l0_0 t248)))) else (some (([] : List Int), 0, false)))) = some (r1, r2, r3) := h
  clear h
  replace H := Option.bind_eq_some_iff.mp H
  obtain ⟨t247, A40, H⟩ := H
  replace H : (if t247 = true then ((impl_copySlab.f l0_0).bind fun t248 => ((impl_within.f a1 1 5).bind fun t252 => (if t252 = true then (impl_Take.j0 k a1 a2 (decide (a2 < 2)) l0_0 t248) else (impl_Take.j0 k a1 a2 true l0_0 t248)))) else (some (([] : List Int), 0, false))) = some (r1, r2, r3) := H
  have A4 := Aside0.mk A40
  clear A40
  by_cases c5 : t247 = true
  · subst c5
    have H1 : ((impl_copySlab.f l0_0).bind fun t248 => ((impl_within.f a1 1 5).bind fun t252 => (if t252 = true then (impl_Take.j0 k a1 a2 (decide (a2 < 2)) l0_0 t248) else (impl_Take.j0 k a1 a2 true l0_0 t248)))) = some (r1, r2, r3) := by rw [if_pos rfl] at H; exact H
    clear H
    have H := H1
    clear H1
    replace H := Option.bind_eq_some_iff.mp H
    obtain ⟨t248, A60, H⟩ := H
    replace H : ((impl_within.f a1 1 5).bind fun t252 => (if t252 = true then (impl_Take.j0 k a1 a2 (decide (a2 < 2)) l0_0 t248) else (impl_Take.j0 k a1 a2 true l0_0 t248))) = some (r1, r2, r3) := H
    have A6 := Aside0.mk A60
    clear A60
    have HC7 := Aside0.mk H
    clear H
    go_enter Try.func23, Try.ntmps23
    go_upto_region 4 with (first | ((with_reducible refine gate_dst (N := 3) rfl ?_); refine box_event ?hg (N := 3) ?hd (cs := #[.slice A0_0 l0_0.length c0_0]) (t := 27) ?hr ?_; (case hd => rfl); (case hg => rfl); (case hr => first | (go_simp; done) | (go_simp; rfl)); intro gb245 hg w8 hbox hb; have n0_ := Aside0.mk (below_step (by repeat (first | (with_reducible first | exact HB.out | apply below_alloc | apply pw_below_drewN | apply below_drew1) | exact HB.out)) hb); have n1_ := Aside0.mk (hbox); have n2_ := Aside0.mk ((by rw [hg]; exact (below_size (by repeat (first | (with_reducible first | exact HB.out | apply below_alloc | apply pw_below_drewN | apply below_drew1) | exact HB.out))) : w.heap.size ≤ gb245)); have n3_ := Aside0.mk ((by rw [hg]; exact (below_size (by repeat (first | (with_reducible first | exact HB.out | apply below_alloc | apply pw_below_drewN | apply below_drew1) | exact HB.out))) : w.heap.size ≤ gb245)); clear HB; have HB := n0_; have BK245 := n1_; have GW245 := n2_; have GE245 := n3_; clear n0_ n1_ n2_ n3_; clear hb hbox hg) | ((with_reducible refine gate_dst (N := 6) rfl ?_); refine box_event ?hg (N := 6) ?hd (cs := #[.slice none 0 0]) (t := 27) ?hr ?_; (case hd => rfl); (case hg => rfl); (case hr => first | (go_simp; done) | (go_simp; rfl)); intro gb246 hg w9 hbox hb; have n0_ := Aside0.mk (blk_below (g := gb245) (o := .cells #[.slice A0_0 l0_0.length c0_0] 27 (0, 0)) (by (with_reducible repeat (first | refine blk_drewN ?_ _ | refine blk_drew ?_ | refine blk_alloc ?_ _)); exact BK245.out) hb); have n1_ := Aside0.mk (below_step (by repeat (first | (with_reducible first | exact HB.out | apply below_alloc | apply pw_below_drewN | apply below_drew1 | refine below_set ?_ GE245.out) | exact HB.out)) hb); have n2_ := Aside0.mk (hbox); have n3_ := Aside0.mk ((by rw [hg]; exact (below_size (by repeat (first | (with_reducible first | exact HB.out | apply below_alloc | apply pw_below_drewN | apply below_drew1 | refine below_set ?_ GE245.out) | exact HB.out))) : w.heap.size ≤ gb246)); have n4_ := Aside0.mk ((by rw [hg]; exact (below_size (by repeat (first | (with_reducible first | exact HB.out | apply below_alloc | apply pw_below_drewN | apply below_drew1 | refine below_set ?_ GE245.out) | exact HB.out))) : w.heap.size ≤ gb246)); have n5_ := Aside0.mk ((by rw [hg]; exact Nat.ne_of_lt (blk_lt (g := gb245) (o := .cells #[.slice A0_0 l0_0.length c0_0] 27 (0, 0)) (by (with_reducible repeat (first | refine blk_drewN ?_ _ | refine blk_drew ?_ | refine blk_alloc ?_ _)); exact BK245.out)) : gb245 ≠ gb246)); have n6_ := Aside0.mk ((by rw [hg]; exact Nat.ne_of_gt (blk_lt (g := gb245) (o := .cells #[.slice A0_0 l0_0.length c0_0] 27 (0, 0)) (by (with_reducible repeat (first | refine blk_drewN ?_ _ | refine blk_drew ?_ | refine blk_alloc ?_ _)); exact BK245.out)) : gb246 ≠ gb245)); clear BK245; clear HB; have BK245 := n0_; have HB := n1_; have BK246 := n2_; have GW246 := n3_; have GE246 := n4_; have NB245_246 := n5_; have NB246_245 := n6_; clear n0_ n1_ n2_ n3_ n4_ n5_ n6_; clear hb hbox hg; have hnb10 := NB245_246.out; have hnc10 := NB246_245.out; have hcz11_0 : w9.cell? ⟨gb245, 0, none⟩ = some (.slice A0_0 l0_0.length c0_0) := (blk_cell BK245.out 0).trans rfl; have hfz11_0 := blk_frozen BK245.out 0) | ((with_reducible refine gate_callee (f := 62) rfl ?_); refine goesL_ (some 15) rfl rfl Try.func62 (by kernel_rfl) rfl #[.agg #[.slice A0_0 l0_0.length c0_0]] rfl (by (try simp only [List.map_toArray, List.map_cons, List.map_nil]); first | done | rfl | (simp only [List.length_drop, List.length_take]; rfl)) ?_; (with_reducible refine (impl_SlabOk.calls k _ _ l0_0 true _ ?side1 ?side2 A4.out).mono ?_); (case side1 => repeat (first | exact (Kd.C_below HR0_0.out HB.out) | (with_reducible refine Kd.C_alloc ?_ _) | (with_reducible refine Kd.C_drewN ?_ _) | (with_reducible refine Kd.C_drew ?_))); (case side2 => exact HC0_0.out); rintro e w12 ⟨rfl, hb⟩; refine ⟨_, rfl, ?_⟩; have n0_ := Aside0.mk (blk_below (g := gb245) (o := .cells #[.slice A0_0 l0_0.length c0_0] 27 (0, 0)) (by (with_reducible repeat (first | refine blk_drewN ?_ _ | refine blk_drew ?_ | refine blk_alloc ?_ _)); exact BK245.out) hb); have n1_ := Aside0.mk (blk_below (g := gb246) (o := .cells #[.slice none 0 0] 27 (0, 0)) (by (with_reducible repeat (first | refine blk_drewN ?_ _ | refine blk_drew ?_ | refine blk_alloc ?_ _)); exact BK246.out) hb); have n2_ := Aside0.mk (below_step (by repeat (first | (with_reducible first | exact HB.out | apply below_alloc | apply pw_below_drewN | apply below_drew1 | refine below_set ?_ GE245.out | refine below_set ?_ GE246.out) | exact HB.out)) hb); clear BK245; clear BK246; clear HB; have BK245 := n0_; have BK246 := n1_; have HB := n2_; clear n0_ n1_ n2_; (try clear hb); (try clear hb2); (try clear hk); (try clear hi); have hcz13_0 : w12.cell? ⟨gb245, 0, none⟩ = some (.slice A0_0 l0_0.length c0_0) := (blk_cell BK245.out 0).trans rfl; have hfz13_0 := blk_frozen BK245.out 0) | ((with_reducible refine gate_callee (f := 63) rfl ?_); refine goesL_ (some 19) rfl rfl Try.func63 (by kernel_rfl) rfl #[.agg #[.slice A0_0 l0_0.length c0_0]] rfl (by (try simp only [List.map_toArray, List.map_cons, List.map_nil]); first | done | rfl | (simp only [List.length_drop, List.length_take]; rfl)) ?_; (with_reducible refine (impl_copySlab.calls _ _ l0_0 t248 _ ?side1 ?side2 A6.out).mono ?_); (case side1 => repeat (first | exact (Kd.C_below HR0_0.out HB.out) | (with_reducible refine Kd.C_alloc ?_ _) | (with_reducible refine Kd.C_drewN ?_ _) | (with_reducible refine Kd.C_drew ?_))); (case side2 => exact HC0_0.out); rintro e w14 ⟨v249, rfl, ho0, hb⟩; refine ⟨_, rfl, ?_⟩; have n0_ := Aside0.mk (Kd.R_lower ho0 (below_size (by repeat (first | (with_reducible first | exact HB.out | apply below_alloc | apply pw_below_drewN | apply below_drew1 | refine below_set ?_ GE245.out | refine below_set ?_ GE246.out) | exact HB.out)))); have n1_ := Aside0.mk (blk_below (g := gb245) (o := .cells #[.slice A0_0 l0_0.length c0_0] 27 (0, 0)) (by (with_reducible repeat (first | refine blk_drewN ?_ _ | refine blk_drew ?_ | refine blk_alloc ?_ _)); exact BK245.out) hb); have n2_ := Aside0.mk (blk_below (g := gb246) (o := .cells #[.slice none 0 0] 27 (0, 0)) (by (with_reducible repeat (first | refine blk_drewN ?_ _ | refine blk_drew ?_ | refine blk_alloc ?_ _)); exact BK246.out) hb); have n3_ := Aside0.mk (below_step (by repeat (first | (with_reducible first | exact HB.out | apply below_alloc | apply pw_below_drewN | apply below_drew1 | refine below_set ?_ GE245.out | refine below_set ?_ GE246.out) | exact HB.out)) hb); clear BK245; clear BK246; clear HB; have HO250 := n0_; have BK245 := n1_; have BK246 := n2_; have HB := n3_; clear n0_ n1_ n2_ n3_; (try clear hb); (try clear hb2); (try clear hk); (try clear hi); (try clear ho0)) | ((with_reducible refine gate_dst (N := 9) rfl ?_); refine box_event ?hg (N := 9) ?hd (cs := #[.slice none 0 0]) (t := 27) ?hr ?_; (case hd => rfl); (case hg => rfl); (case hr => first | (go_simp; done) | (go_simp; rfl)); intro gb251 hg w15 hbox hb; have n0_ := Aside0.mk (Kd.R_below (by (with_reducible repeat (first | apply Kd.R_alloc | apply Kd.R_drewN | apply Kd.R_drew)); exact HO250.out) hb); have n1_ := Aside0.mk (blk_below (g := gb245) (o := .cells #[.slice A0_0 l0_0.length c0_0] 27 (0, 0)) (by (with_reducible repeat (first | refine blk_drewN ?_ _ | refine blk_drew ?_ | refine blk_alloc ?_ _)); exact BK245.out) hb); have n2_ := Aside0.mk (blk_below (g := gb246) (o := .cells #[.slice none 0 0] 27 (0, 0)) (by (with_reducible repeat (first | refine blk_drewN ?_ _ | refine blk_drew ?_ | refine blk_alloc ?_ _)); exact BK246.out) hb); have n3_ := Aside0.mk (below_step (by repeat (first | (with_reducible first | exact HB.out | apply below_alloc | apply pw_below_drewN | apply below_drew1 | refine below_set ?_ GE245.out | refine below_set ?_ GE246.out) | exact HB.out)) hb); have n4_ := Aside0.mk (hbox); have n5_ := Aside0.mk ((by rw [hg]; exact (below_size (by repeat (first | (with_reducible first | exact HB.out | apply below_alloc | apply pw_below_drewN | apply below_drew1 | refine below_set ?_ GE245.out | refine below_set ?_ GE246.out) | exact HB.out))) : w.heap.size ≤ gb251)); have n6_ := Aside0.mk ((by rw [hg]; exact (below_size (by repeat (first | (with_reducible first | exact HB.out | apply below_alloc | apply pw_below_drewN | apply below_drew1 | refine below_set ?_ GE245.out | refine below_set ?_ GE246.out) | exact HB.out))) : w.heap.size ≤ gb251)); have n7_ := Aside0.mk ((by rw [hg]; exact Nat.ne_of_lt (blk_lt (g := gb245) (o := .cells #[.slice A0_0 l0_0.length c0_0] 27 (0, 0)) (by (with_reducible repeat (first | refine blk_drewN ?_ _ | refine blk_drew ?_ | refine blk_alloc ?_ _)); exact BK245.out)) : gb245 ≠ gb251)); have n8_ := Aside0.mk ((by rw [hg]; exact Nat.ne_of_gt (blk_lt (g := gb245) (o := .cells #[.slice A0_0 l0_0.length c0_0] 27 (0, 0)) (by (with_reducible repeat (first | refine blk_drewN ?_ _ | refine blk_drew ?_ | refine blk_alloc ?_ _)); exact BK245.out)) : gb251 ≠ gb245)); have n9_ := Aside0.mk ((by rw [hg]; exact Nat.ne_of_lt (blk_lt (g := gb246) (o := .cells #[.slice none 0 0] 27 (0, 0)) (by (with_reducible repeat (first | refine blk_drewN ?_ _ | refine blk_drew ?_ | refine blk_alloc ?_ _)); exact BK246.out)) : gb246 ≠ gb251)); have n10_ := Aside0.mk ((by rw [hg]; exact Nat.ne_of_gt (blk_lt (g := gb246) (o := .cells #[.slice none 0 0] 27 (0, 0)) (by (with_reducible repeat (first | refine blk_drewN ?_ _ | refine blk_drew ?_ | refine blk_alloc ?_ _)); exact BK246.out)) : gb251 ≠ gb246)); clear HO250; clear BK245; clear BK246; clear HB; have HO250 := n0_; have BK245 := n1_; have BK246 := n2_; have HB := n3_; have BK251 := n4_; have GW251 := n5_; have GE251 := n6_; have NB245_251 := n7_; have NB251_245 := n8_; have NB246_251 := n9_; have NB251_246 := n10_; clear n0_ n1_ n2_ n3_ n4_ n5_ n6_ n7_ n8_ n9_ n10_; clear hb hbox hg; obtain ⟨Ao16, co16, eo16⟩ := Kd.R_slice HO250.out; subst eo16; have hnb17 := NB251_245.out; have hnc17 := NB245_251.out; have hnb18 := NB251_246.out; have hnc18 := NB246_251.out; have hcz19_0 : w15.cell? ⟨gb251, 0, none⟩ = some (.slice none 0 0) := (blk_cell BK251.out 0).trans rfl; have hfz19_0 := blk_frozen BK251.out 0))
    (try simp only [Act.put, List.setIfInBounds_toArray, List.set_cons_zero, List.set_cons_succ])
    go_cut [26] (fun v26 wc => ∃ (kq : Nat) (x26_6 : Bool), v26 = .bool x26_6 ∧ Aside0 (impl_Take.j0 kq a1 a2 x26_6 l0_0 t248 = some (r1, r2, r3)) ∧ Aside0 (kq ≤ k) ∧ Aside0 (Kd.R (Kd.int .i64) 3 wc w.heap.size (fun _ => True) (.slice Ao16 t248.length co16) t248) ∧ Aside0 (wc.heap[gb245]? = some (.cells #[(.slice A0_0 l0_0.length c0_0)] 27 (0, 0))) ∧ Aside0 (wc.heap[gb246]? = some (.cells #[(.slice none 0 0)] 27 (0, 0))) ∧ Aside0 (wc.heap[gb251]? = some (.cells #[(.slice Ao16 t248.length co16)] 27 (0, 0))) ∧ Aside0 (Below w.heap.size w wc))
    case first =>
      have H := HC7.out
      clear HC7
      replace H := Option.bind_eq_some_iff.mp H
      obtain ⟨t252, A200, H⟩ := H
      replace H : (if t252 = true then (impl_Take.j0 k a1 a2 (decide (a2 < 2)) l0_0 t248) else (impl_Take.j0 k a1 a2 true l0_0 t248)) = some (r1, r2, r3) := H
      have A20 := Aside0.mk A200
      clear A200
      by_cases c21 : t252 = true
      · subst c21
        have H1 : (impl_Take.j0 k a1 a2 (decide (a2 < 2)) l0_0 t248) = some (r1, r2, r3) := by rw [if_pos rfl] at H; exact H
        clear H
        have H := H1
        clear H1
        have H' := Aside0.mk H
        clear H
        go_wp2_with (first | ((with_reducible refine gate_callee (f := 64) rfl ?_); refine goesL_ (some 21) rfl rfl Try.func64 (by kernel_rfl) rfl #[.int .i64 a1, .int .i64 1, .int .i64 5] rfl (by (try simp only [List.map_toArray, List.map_cons, List.map_nil]); first | done | rfl | (simp only [List.length_drop, List.length_take]; rfl)) ?_; (with_reducible refine (impl_within.calls a1 1 5 true _ A20.out).mono ?_); rintro e w' ⟨rfl, ⟨nd, rfl⟩⟩; refine ⟨_, rfl, ?_⟩))
        go_meet
        case rel => exact ⟨_, (decide (a2 < 2)), (by first | rfl | (simp; done) | (simp [*]; done)), H', ⟨by first | omega | exact Nat.le_refl _⟩, ⟨by (with_reducible repeat (first | apply Kd.R_alloc | apply Kd.R_drewN | apply Kd.R_drew)); exact Kd.R_mono (Kd.R_far (p := ⟨gb251, 0, none⟩) (Kd.R_types HO250.out BK251.out (by decide)) (fun _ hk => hk.2) (.slice Ao16 t248.length co16)) (fun _ hk => trivial)⟩, ⟨by (with_reducible repeat (first | refine blk_drewN ?_ _ | refine blk_drew ?_ | refine blk_alloc ?_ _)); refine blk_far ?_ NB245_251.out _; (with_reducible repeat (first | refine blk_drewN ?_ _ | refine blk_drew ?_ | refine blk_alloc ?_ _)); exact BK245.out⟩, ⟨by (with_reducible repeat (first | refine blk_drewN ?_ _ | refine blk_drew ?_ | refine blk_alloc ?_ _)); refine blk_far ?_ NB246_251.out _; (with_reducible repeat (first | refine blk_drewN ?_ _ | refine blk_drew ?_ | refine blk_alloc ?_ _)); exact BK246.out⟩, ⟨by (with_reducible repeat (first | refine blk_drewN ?_ _ | refine blk_drew ?_ | refine blk_alloc ?_ _)); refine blk_put (cs := #[.slice none 0 0]) ?_ 0 _ rfl; (with_reducible repeat (first | refine blk_drewN ?_ _ | refine blk_drew ?_ | refine blk_alloc ?_ _)); exact BK251.out⟩, ⟨by repeat (first | (with_reducible first | exact HB.out | apply below_alloc | apply pw_below_drewN | apply below_drew1 | refine below_set ?_ GE245.out | refine below_set ?_ GE246.out | refine below_set ?_ GE251.out) | exact HB.out)⟩⟩
      · replace c21 := Bool.eq_false_iff.mpr c21
        subst c21
        have H1 : (impl_Take.j0 k a1 a2 true l0_0 t248) = some (r1, r2, r3) := by rw [if_neg (show ¬ (false = true) by decide)] at H; exact H
        clear H
        have H := H1
        clear H1
        have H' := Aside0.mk H
        clear H
        go_wp2_with (first | ((with_reducible refine gate_callee (f := 64) rfl ?_); refine goesL_ (some 21) rfl rfl Try.func64 (by kernel_rfl) rfl #[.int .i64 a1, .int .i64 1, .int .i64 5] rfl (by (try simp only [List.map_toArray, List.map_cons, List.map_nil]); first | done | rfl | (simp only [List.length_drop, List.length_take]; rfl)) ?_; (with_reducible refine (impl_within.calls a1 1 5 false _ A20.out).mono ?_); rintro e w' ⟨rfl, ⟨nd, rfl⟩⟩; refine ⟨_, rfl, ?_⟩))
        go_meet
        case rel => exact ⟨_, (true), (by first | rfl | (simp; done) | (simp [*]; done)), H', ⟨by first | omega | exact Nat.le_refl _⟩, ⟨by (with_reducible repeat (first | apply Kd.R_alloc | apply Kd.R_drewN | apply Kd.R_drew)); exact Kd.R_mono (Kd.R_far (p := ⟨gb251, 0, none⟩) (Kd.R_types HO250.out BK251.out (by decide)) (fun _ hk => hk.2) (.slice Ao16 t248.length co16)) (fun _ hk => trivial)⟩, ⟨by (with_reducible repeat (first | refine blk_drewN ?_ _ | refine blk_drew ?_ | refine blk_alloc ?_ _)); refine blk_far ?_ NB245_251.out _; (with_reducible repeat (first | refine blk_drewN ?_ _ | refine blk_drew ?_ | refine blk_alloc ?_ _)); exact BK245.out⟩, ⟨by (with_reducible repeat (first | refine blk_drewN ?_ _ | refine blk_drew ?_ | refine blk_alloc ?_ _)); refine blk_far ?_ NB246_251.out _; (with_reducible repeat (first | refine blk_drewN ?_ _ | refine blk_drew ?_ | refine blk_alloc ?_ _)); exact BK246.out⟩, ⟨by (with_reducible repeat (first | refine blk_drewN ?_ _ | refine blk_drew ?_ | refine blk_alloc ?_ _)); refine blk_put (cs := #[.slice none 0 0]) ?_ 0 _ rfl; (with_reducible repeat (first | refine blk_drewN ?_ _ | refine blk_drew ?_ | refine blk_alloc ?_ _)); exact BK251.out⟩, ⟨by repeat (first | (with_reducible first | exact HB.out | apply below_alloc | apply pw_below_drewN | apply below_drew1 | refine below_set ?_ GE245.out | refine below_set ?_ GE246.out | refine below_set ?_ GE251.out) | exact HB.out)⟩⟩
    case rest =>
      clear HC7
      try clear c1
      try clear c2
      try clear p2
      try clear c5
      try clear c6
      try clear c10
      try clear c17
      try clear c18
      try clear c21
      try clear hcz11_0
      try clear hcz13_0
      try clear hcz19_0
      try clear hfz11_0
      try clear hfz13_0
      try clear hfz19_0
      obtain ⟨kq, x26_6, rfl, HA, HJ6, HO_252000, BK245, BK246, BK251, HB⟩ := hcut
      cases kq with
      | zero => exact absurd HA.out (by simp [impl_Take.j0])
      | succ kj6 =>
        have H := HA.out
        clear HA
        simp only [impl_Take.j0] at H
        by_cases c22 : x26_6 = true
        · subst c22
          have H1 : (some (t248, 0, false)) = some (r1, r2, r3) := by rw [if_pos rfl] at H; exact H
          clear H
          have H := H1
          clear H1
          simp only [Option.some.injEq, Prod.mk.injEq] at H
          obtain ⟨rfl, rfl, rfl⟩ := H
          have hnb23 := NB251_245.out
          have hnc23 := NB245_251.out
          have hnb24 := NB251_246.out
          have hnc24 := NB246_251.out
          have hcz25_0 : wc.cell? ⟨gb251, 0, none⟩ = some (.slice Ao16 t248.length co16) := (blk_cell BK251.out 0).trans rfl
          have hfz25_0 := blk_frozen BK251.out 0
          have hnb26 := NB246_245.out
          have hnc26 := NB245_246.out
          have hcz27_0 : wc.cell? ⟨gb246, 0, none⟩ = some (.slice none 0 0) := (blk_cell BK246.out 0).trans rfl
          have hfz27_0 := blk_frozen BK246.out 0
          go_wp2
          refine bodyPost_ret (results_ctt rfl _ _ gb246 27 #[.slice Ao16 t248.length co16] (0, 0) _ rfl (by (with_reducible repeat (first | refine blk_drewN ?_ _ | refine blk_drew ?_ | refine blk_alloc ?_ _)); refine blk_put (cs := #[.slice none 0 0]) ?_ 0 _ rfl; (with_reducible repeat (first | refine blk_drewN ?_ _ | refine blk_drew ?_ | refine blk_alloc ?_ _)); exact BK246.out) Try.underlying27 rfl (by kernel_rfl)) rfl ?_
          exact ⟨_, by first | rfl | (simp [errW_none, errW_some] <;> rfl) | (simp [*, errW_none, errW_some] <;> rfl), by (with_reducible repeat (first | apply Kd.R_alloc | apply Kd.R_drewN | apply Kd.R_drew)); exact Kd.R_mono (Kd.R_far (p := ⟨gb246, 0, none⟩) (Kd.R_types HO_252000.out BK246.out (by decide)) (fun _ hk => hk.2) (.slice Ao16 t248.length co16)) (fun _ hk => trivial), by repeat (first | (with_reducible first | exact HB.out | apply below_alloc | apply pw_below_drewN | apply below_drew1 | refine below_set ?_ GE245.out | refine below_set ?_ GE246.out | refine below_set ?_ GE251.out) | exact HB.out)⟩
        · replace c22 := Bool.eq_false_iff.mpr c22
          subst c22
          have H1 : ((impl_Blocks.f kj6 l0_0).bind fun t253 => (impl_Take.l0 kj6 a1 a2 t253 (t253.length : Int) 0 l0_0 t248)) = some (r1, r2, r3) := by rw [if_neg (show ¬ (false = true) by decide)] at H; exact H
          clear H
          have H := H1
          clear H1
          replace H := Option.bind_eq_some_iff.mp H
          obtain ⟨t253, A280, H⟩ := H
          replace H : (impl_Take.l0 kj6 a1 a2 t253 (t253.length : Int) 0 l0_0 t248) = some (r1, r2, r3) := H
          have A28 := Aside0.mk A280
          clear A280
          have H' := Aside0.mk H
          clear H
          have hnb29 := NB245_246.out
          have hnc29 := NB246_245.out
          have hnb30 := NB245_251.out
          have hnc30 := NB251_245.out
          have hcz31_0 : wc.cell? ⟨gb245, 0, none⟩ = some (.slice A0_0 l0_0.length c0_0) := (blk_cell BK245.out 0).trans rfl
          have hfz31_0 := blk_frozen BK245.out 0
          go_wp2_with (first | ((with_reducible refine gate_callee (f := 65) rfl ?_); refine goesL_ (some 29) rfl rfl Try.func65 (by kernel_rfl) rfl #[.agg #[.slice A0_0 l0_0.length c0_0]] rfl (by (try simp only [List.map_toArray, List.map_cons, List.map_nil]); first | done | rfl | (simp only [List.length_drop, List.length_take]; rfl)) ?_; (with_reducible refine (impl_Blocks.calls kj6 _ _ l0_0 t253 _ ?side1 ?side2 A28.out).mono ?_); (case side1 => repeat (first | exact (Kd.C_below HR0_0.out HB.out) | (with_reducible refine Kd.C_alloc ?_ _) | (with_reducible refine Kd.C_drewN ?_ _) | (with_reducible refine Kd.C_drew ?_))); (case side2 => exact HC0_0.out); rintro e w32 ⟨v254, rfl, ho0, hb⟩; refine ⟨_, rfl, ?_⟩; have n0_ := Aside0.mk (Kd.R_elder' (by (with_reducible repeat (first | apply Kd.R_alloc | apply Kd.R_drewN | apply Kd.R_drew)); exact HO_252000.out) (Kd.R_base ho0) hb); have n1_ := Aside0.mk (Kd.R_lower (Kd.R_new' ho0 (Kd.R_lt (by (with_reducible repeat (first | apply Kd.R_alloc | apply Kd.R_drewN | apply Kd.R_drew)); exact HO_252000.out))) (below_size (by repeat (first | (with_reducible first | exact HB.out | apply below_alloc | apply pw_below_drewN | apply below_drew1 | refine below_set ?_ GE245.out | refine below_set ?_ GE246.out | refine below_set ?_ GE251.out) | exact HB.out)))); have n2_ := Aside0.mk (blk_below (g := gb245) (o := .cells #[.slice A0_0 l0_0.length c0_0] 27 (0, 0)) (by (with_reducible repeat (first | refine blk_drewN ?_ _ | refine blk_drew ?_ | refine blk_alloc ?_ _)); exact BK245.out) hb); have n3_ := Aside0.mk (blk_below (g := gb246) (o := .cells #[.slice none 0 0] 27 (0, 0)) (by (with_reducible repeat (first | refine blk_drewN ?_ _ | refine blk_drew ?_ | refine blk_alloc ?_ _)); exact BK246.out) hb); have n4_ := Aside0.mk (blk_below (g := gb251) (o := .cells #[.slice Ao16 t248.length co16] 27 (0, 0)) (by (with_reducible repeat (first | refine blk_drewN ?_ _ | refine blk_drew ?_ | refine blk_alloc ?_ _)); exact BK251.out) hb); have n5_ := Aside0.mk (below_step (by repeat (first | (with_reducible first | exact HB.out | apply below_alloc | apply pw_below_drewN | apply below_drew1 | refine below_set ?_ GE245.out | refine below_set ?_ GE246.out | refine below_set ?_ GE251.out) | exact HB.out)) hb); clear HO_252000; clear BK245; clear BK246; clear BK251; clear HB; have HO_252000 := n0_; have HO255 := n1_; have BK245 := n2_; have BK246 := n3_; have BK251 := n4_; have HB := n5_; clear n0_ n1_ n2_ n3_ n4_ n5_; (try clear hb); (try clear hb2); (try clear hk); (try clear hi); (try clear ho0); obtain ⟨Ao33, co33, eo33⟩ := Kd.R_slice HO255.out; subst eo33))
          go_loopg [31] kj6 (fun kq v31 w' => ∃ (x29_2 : List Int) (x31_2 : Int) (x252000_2 : List Int) (u252000 : Value), v31 = .int .i64 x31_2 ∧ Aside0 (impl_Take.l0 kq a1 a2 x29_2 (t253.length : Int) x31_2 l0_0 x252000_2 = some (r1, r2, r3)) ∧ Aside0 (kq ≤ kj6) ∧ Aside0 (Kd.R (Kd.int .i64) 3 w' w.heap.size (fun k_ => some k_ ≠ (u252000 : Value).ownBlock) (.slice Ao33 t253.length co33) x29_2) ∧ Aside0 (Kd.R (Kd.int .i64) 3 w' w.heap.size (fun k_ => some k_ ≠ ((.slice Ao33 t253.length co33) : Value).ownBlock) u252000 x252000_2) ∧ Aside0 (w'.heap[gb245]? = some (.cells #[(.slice A0_0 l0_0.length c0_0)] 27 (0, 0))) ∧ Aside0 (w'.heap[gb246]? = some (.cells #[(.slice none 0 0)] 27 (0, 0))) ∧ Aside0 (w'.heap[gb251]? = some (.cells #[u252000] 27 (0, 0))) ∧ Aside0 (Below w.heap.size w w'))
          case atStart => exact ⟨(t253), (0), (t248), (.slice Ao16 t248.length co16), (by first | rfl | (simp; done) | (simp [*]; done)), H', ⟨Nat.le_refl _⟩, ⟨by (with_reducible repeat (first | apply Kd.R_alloc | apply Kd.R_drewN | apply Kd.R_drew)); exact Kd.R_mono HO255.out (fun _ hk => hk.2)⟩, ⟨by (with_reducible repeat (first | apply Kd.R_alloc | apply Kd.R_drewN | apply Kd.R_drew)); exact Kd.R_mono HO_252000.out (fun _ hk => hk.2)⟩, ⟨by (with_reducible repeat (first | refine blk_drewN ?_ _ | refine blk_drew ?_ | refine blk_alloc ?_ _)); exact BK245.out⟩, ⟨by (with_reducible repeat (first | refine blk_drewN ?_ _ | refine blk_drew ?_ | refine blk_alloc ?_ _)); exact BK246.out⟩, ⟨by (with_reducible repeat (first | refine blk_drewN ?_ _ | refine blk_drew ?_ | refine blk_alloc ?_ _)); exact BK251.out⟩, ⟨by repeat (first | (with_reducible first | exact HB.out | apply below_alloc | apply pw_below_drewN | apply below_drew1 | refine below_set ?_ GE245.out | refine below_set ?_ GE246.out | refine below_set ?_ GE251.out) | exact HB.out)⟩⟩
          case round =>
            clear H'
            try clear c1
            try clear c2
            try clear p2
            try clear c3
            try clear c5
            try clear c6
            try clear c10
            try clear c17
            try clear c18
            try clear c21
            try clear c22
            try clear c23
            try clear c24
            try clear c26
            try clear c29
            try clear c30
            try clear hcz11_0
            try clear hcz13_0
            try clear hcz19_0
            try clear hcz25_0
            try clear hcz27_0
            try clear hcz31_0
            try clear hfz11_0
            try clear hfz13_0
            try clear hfz19_0
            try clear hfz25_0
            try clear hfz27_0
            try clear hfz31_0
            try clear p2
            obtain ⟨x29_2, x31_2, x252000_2, u252000, rfl, HA, HK2, HO_29, HO_252000, BK245, BK246, BK251, HB⟩ := hrel
            have hl29_2 := (Kd.R_reads' HO_29.out).1
            rw [hl29_2] at HO_29
            (try simp only [hl29_2])
            (try simp only [hl29_2] at BK245)
            (try simp only [hl29_2] at BK246)
            (try simp only [hl29_2] at BK251)
            (try simp only [hl29_2] at HO_252000)
            cases gk with
            | zero => exact absurd HA.out (by simp [impl_Take.l0])
            | succ k2 =>
              have H := HA.out
              clear HA
              simp only [impl_Take.l0] at H
              by_cases c34 : x31_2 < (t253.length : Int)
              · rw [if_pos c34] at H
                have c34b0 : decide (x31_2 < (t253.length : Int)) = true := decide_eq_true c34
                (try (have c34b0h := c34b0; simp only [hl29_2] at c34b0h))
                clear c34
                by_cases c35 : 0 ≤ x31_2
                · rw [if_pos c35] at H
                  have c35b0 : decide (0 ≤ x31_2) = true := decide_eq_true c35
                  clear c35
                  by_cases c36 : x31_2 < (x29_2.length : Int)
                  · rw [if_pos c36] at H
                    have c36b0 : decide (x31_2 < (x29_2.length : Int)) = true := decide_eq_true c36
                    (try (have c36b0h := c36b0; simp only [hl29_2] at c36b0h))
                    clear c36
                    by_cases c37 : 0 ≤ (rd x29_2 x31_2)
                    · rw [if_pos c37] at H
                      have c37b0 : decide (0 ≤ (rd x29_2 x31_2)) = true := decide_eq_true c37
                      clear c37
                      by_cases c38 : (rd x29_2 x31_2) < (l0_0.length : Int)
                      · rw [if_pos c38] at H
                        have c38b0 : decide ((rd x29_2 x31_2) < (l0_0.length : Int)) = true := decide_eq_true c38
                        (try (have c38b0h := c38b0; simp only [hl29_2] at c38b0h))
                        clear c38
                        have HC39 := Aside0.mk H
                        clear H
                        have p256 : 0 ≤ (x31_2 : Int) := of_decide_eq_true (by first | (with_reducible assumption) | assumption)
                        have q256 : x31_2 < (x29_2.length : Int) := of_decide_eq_true (by first | (with_reducible assumption) | assumption)
                        obtain ⟨ad256, e256, hx256_0⟩ := Kd.at_int (Kd.R_reads' HO_29.out).2.2 x31_2 p256 q256
                        cases e256
                        replace p256 := eq_true p256
                        replace q256 := eq_true q256
                        have hnb40 := NB245_246.out
                        have hnc40 := NB246_245.out
                        have hnb41 := NB245_251.out
                        have hnc41 := NB251_245.out
                        have hcz42_0 : wr.cell? ⟨gb245, 0, none⟩ = some (.slice A0_0 l0_0.length c0_0) := (blk_cell BK245.out 0).trans rfl
                        have hfz42_0 := blk_frozen BK245.out 0
                        have p257 : 0 ≤ ((rd x29_2 x31_2) : Int) := of_decide_eq_true (by first | (with_reducible assumption) | assumption)
                        have q257 : (rd x29_2 x31_2) < (l0_0.length : Int) := of_decide_eq_true (by first | (with_reducible assumption) | assumption)
                        obtain ⟨ad257, e257, hx257_0⟩ := Kd.at_int HR0_0.out (rd x29_2 x31_2) p257 q257
                        cases e257
                        replace hx257_0 := (HB.out.cell (World.block_lt_of_cell? w _ hx257_0)).trans hx257_0
                        replace p257 := eq_true p257
                        replace q257 := eq_true q257
                        go_upto_region 10 with (fail)
                        go_cut [52] (fun v52 wc => ∃ (kq : Nat) (x52_38 : Bool), v52 = .bool x52_38 ∧ Aside0 (impl_Take.j2 kq a1 a2 (rd x29_2 x31_2) ((rd l0_0 (rd x29_2 x31_2)) / 8) x29_2 (t253.length : Int) x31_2 x52_38 l0_0 x252000_2 = some (r1, r2, r3)) ∧ Aside0 (kq ≤ k2) ∧ Aside0 (Kd.R (Kd.int .i64) 3 wc w.heap.size (fun k_ => some k_ ≠ (u252000 : Value).ownBlock) (.slice (some ad256) x29_2.length co33) x29_2) ∧ Aside0 (Kd.R (Kd.int .i64) 3 wc w.heap.size (fun k_ => some k_ ≠ ((.slice (some ad256) x29_2.length co33) : Value).ownBlock) u252000 x252000_2) ∧ Aside0 (wc.heap[gb245]? = some (.cells #[(.slice (some ad257) l0_0.length c0_0)] 27 (0, 0))) ∧ Aside0 (wc.heap[gb246]? = some (.cells #[(.slice none 0 0)] 27 (0, 0))) ∧ Aside0 (wc.heap[gb251]? = some (.cells #[u252000] 27 (0, 0))) ∧ Aside0 (Below w.heap.size w wc))
                        case first =>
                          have H := HC39.out
                          clear HC39
                          by_cases c43 : (Go.bits .and .i64 (rd l0_0 (rd x29_2 x31_2)) 7) = 0
                          · rw [if_pos c43] at H
                            have c43b0 : ((Go.bits .and .i64 (rd l0_0 (rd x29_2 x31_2)) 7) == 0) = true := beq_iff_eq.mpr c43
                            have c43b1 : ((Go.bits .and .i64 (rd l0_0 (rd x29_2 x31_2)) 7) != 0) = false := bne_eq_false_iff_eq.mpr c43
                            clear c43
                            (first | rw [c43b0] | (simp only [i64_w, i32_w]; rw [c43b0]) | skip)
                            have H' := Aside0.mk H
                            clear H
                            have hnb44 := NB245_246.out
                            have hnc44 := NB246_245.out
                            have hnb45 := NB245_251.out
                            have hnc45 := NB251_245.out
                            have hcz46_0 : wr.cell? ⟨gb245, 0, none⟩ = some (.slice (some ad257) l0_0.length c0_0) := (blk_cell BK245.out 0).trans rfl
                            have hfz46_0 := blk_frozen BK245.out 0
                            have p258 : 0 ≤ ((rd x29_2 x31_2) : Int) := of_decide_eq_true (by first | (with_reducible assumption) | assumption)
                            have q258 : (rd x29_2 x31_2) < (l0_0.length : Int) := of_decide_eq_true (by first | (with_reducible assumption) | assumption)
                            obtain ⟨ad258, e258, hx258_0⟩ := Kd.at_int HR0_0.out (rd x29_2 x31_2) p258 q258
                            obtain rfl : ad257 = ad258 := (by injection e258)
                            replace hx258_0 := (HB.out.cell (World.block_lt_of_cell? w _ hx258_0)).trans hx258_0
                            replace p258 := eq_true p258
                            replace q258 := eq_true q258
                            go_wp2
                            go_meet
                            case rel => exact ⟨_, (decide (((rd l0_0 (rd x29_2 x31_2)) / 8) < a2)), (by first | rfl | (simp; done) | (simp [*]; done)), H', ⟨by have := HJ6.out; have := HK2.out; first | omega | exact Nat.le_refl _⟩, ⟨by (try simp only [hl29_2]); (with_reducible repeat (first | apply Kd.R_alloc | apply Kd.R_drewN | apply Kd.R_drew)); exact HO_29.out⟩, ⟨by (try simp only [hl29_2]); (with_reducible repeat (first | apply Kd.R_alloc | apply Kd.R_drewN | apply Kd.R_drew)); exact HO_252000.out⟩, ⟨by (try simp only [hl29_2]); (with_reducible repeat (first | refine blk_drewN ?_ _ | refine blk_drew ?_ | refine blk_alloc ?_ _)); exact BK245.out⟩, ⟨by (try simp only [hl29_2]); (with_reducible repeat (first | refine blk_drewN ?_ _ | refine blk_drew ?_ | refine blk_alloc ?_ _)); exact BK246.out⟩, ⟨by (try simp only [hl29_2]); (with_reducible repeat (first | refine blk_drewN ?_ _ | refine blk_drew ?_ | refine blk_alloc ?_ _)); exact BK251.out⟩, ⟨by repeat (first | (with_reducible first | exact HB.out | apply below_alloc | apply pw_below_drewN | apply below_drew1 | refine below_set ?_ GE245.out | refine below_set ?_ GE246.out | refine below_set ?_ GE251.out) | exact HB.out)⟩⟩
                          · rw [if_neg c43] at H
                            have c43b0 : ((Go.bits .and .i64 (rd l0_0 (rd x29_2 x31_2)) 7) == 0) = false := beq_eq_false_iff_ne.mpr c43
                            have c43b1 : ((Go.bits .and .i64 (rd l0_0 (rd x29_2 x31_2)) 7) != 0) = true := bne_iff_ne.mpr c43
                            (first | rw [c43b0] | (simp only [i64_w, i32_w]; rw [c43b0]) | skip)
                            have H' := Aside0.mk H
                            clear H
                            have hnb47 := NB245_246.out
                            have hnc47 := NB246_245.out
                            have hnb48 := NB245_251.out
                            have hnc48 := NB251_245.out
                            have hcz49_0 : wr.cell? ⟨gb245, 0, none⟩ = some (.slice (some ad257) l0_0.length c0_0) := (blk_cell BK245.out 0).trans rfl
                            have hfz49_0 := blk_frozen BK245.out 0
                            have p258 : 0 ≤ ((rd x29_2 x31_2) : Int) := of_decide_eq_true (by first | (with_reducible assumption) | assumption)
                            have q258 : (rd x29_2 x31_2) < (l0_0.length : Int) := of_decide_eq_true (by first | (with_reducible assumption) | assumption)
                            obtain ⟨ad258, e258, hx258_0⟩ := Kd.at_int HR0_0.out (rd x29_2 x31_2) p258 q258
                            obtain rfl : ad257 = ad258 := (by injection e258)
                            replace hx258_0 := (HB.out.cell (World.block_lt_of_cell? w _ hx258_0)).trans hx258_0
                            replace p258 := eq_true p258
                            replace q258 := eq_true q258
                            go_wp2
                            go_meet
                            case rel => exact ⟨_, (true), (by first | rfl | (simp; done) | (simp [*]; done)), H', ⟨by have := HJ6.out; have := HK2.out; first | omega | exact Nat.le_refl _⟩, ⟨by (try simp only [hl29_2]); (with_reducible repeat (first | apply Kd.R_alloc | apply Kd.R_drewN | apply Kd.R_drew)); exact HO_29.out⟩, ⟨by (try simp only [hl29_2]); (with_reducible repeat (first | apply Kd.R_alloc | apply Kd.R_drewN | apply Kd.R_drew)); exact HO_252000.out⟩, ⟨by (try simp only [hl29_2]); (with_reducible repeat (first | refine blk_drewN ?_ _ | refine blk_drew ?_ | refine blk_alloc ?_ _)); exact BK245.out⟩, ⟨by (try simp only [hl29_2]); (with_reducible repeat (first | refine blk_drewN ?_ _ | refine blk_drew ?_ | refine blk_alloc ?_ _)); exact BK246.out⟩, ⟨by (try simp only [hl29_2]); (with_reducible repeat (first | refine blk_drewN ?_ _ | refine blk_drew ?_ | refine blk_alloc ?_ _)); exact BK251.out⟩, ⟨by repeat (first | (with_reducible first | exact HB.out | apply below_alloc | apply pw_below_drewN | apply below_drew1 | refine below_set ?_ GE245.out | refine below_set ?_ GE246.out | refine below_set ?_ GE251.out) | exact HB.out)⟩⟩
                        case rest =>
                          clear HC39
                          try clear c1
                          try clear c2
                          try clear p2
                          try clear q2
                          try clear hx2
                          try clear c3
                          try clear c4
                          try clear c5
                          try clear c6
                          try clear c10
                          try clear c17
                          try clear c18
                          try clear c21
                          try clear c22
                          try clear c23
                          try clear c24
                          try clear p25
                          try clear q25
                          try clear hx25
                          try clear c26
                          try clear c29
                          try clear c30
                          try clear c34
                          try clear c34b0
                          try clear c35
                          try clear c35b0
                          try clear c36
                          try clear c36b0
                          try clear c37
                          try clear c37b0
                          try clear c38
                          try clear c38b0
                          try clear c40
                          try clear c41
                          try clear c43
                          try clear c43b0
                          try clear c43b1
                          try clear c44
                          try clear c45
                          try clear c47
                          try clear c48
                          try clear hcz11_0
                          try clear hcz13_0
                          try clear hcz19_0
                          try clear hcz25_0
                          try clear hcz27_0
                          try clear hcz31_0
                          try clear hcz42_0
                          try clear hcz46_0
                          try clear hcz49_0
                          try clear hfz11_0
                          try clear hfz13_0
                          try clear hfz19_0
                          try clear hfz25_0
                          try clear hfz27_0
                          try clear hfz31_0
                          try clear hfz42_0
                          try clear hfz46_0
                          try clear hfz49_0
                          try clear hx256_0
                          try clear hx257_0
                          try clear hx258_0
                          try clear p2
                          try clear p256
                          try clear p257
                          try clear p258
                          try clear q256
                          try clear q257
                          try clear q258
                          obtain ⟨kq, x52_38, rfl, HA, HJ38, HO_29, HO_252000, BK245, BK246, BK251, HB⟩ := hcut
                          cases kq with
                          | zero => exact absurd HA.out (by simp [impl_Take.j2])
                          | succ kj38 =>
                            have H := HA.out
                            clear HA
                            simp only [impl_Take.j2] at H
                            by_cases c50 : x52_38 = true
                            · subst c50
                              have H1 : (impl_Take.l0 kj38 a1 a2 x29_2 (t253.length : Int) (wrap64 (x31_2 + 1)) l0_0 x252000_2) = some (r1, r2, r3) := by rw [if_pos rfl] at H; exact H
                              clear H
                              have H := H1
                              clear H1
                              have H' := Aside0.mk H
                              clear H
                              go_wp2
                              (try simp only [← hl29_2])
                              go_roundg kj38
                              case measure => have := HJ6.out; have := HK2.out; have := HJ38.out; omega
                              case rel => exact ⟨(x29_2), (wrap64 (x31_2 + 1)), (x252000_2), (u252000), (by first | rfl | (simp; done) | (simp [*]; done)), H', ⟨by have := HJ6.out; have := HK2.out; have := HJ38.out; omega⟩, ⟨by (try simp only [hl29_2]); (with_reducible repeat (first | apply Kd.R_alloc | apply Kd.R_drewN | apply Kd.R_drew)); exact HO_29.out⟩, ⟨by (try simp only [hl29_2]); (with_reducible repeat (first | apply Kd.R_alloc | apply Kd.R_drewN | apply Kd.R_drew)); exact HO_252000.out⟩, ⟨by (try simp only [hl29_2]); (with_reducible repeat (first | refine blk_drewN ?_ _ | refine blk_drew ?_ | refine blk_alloc ?_ _)); exact BK245.out⟩, ⟨by (try simp only [hl29_2]); (with_reducible repeat (first | refine blk_drewN ?_ _ | refine blk_drew ?_ | refine blk_alloc ?_ _)); exact BK246.out⟩, ⟨by (try simp only [hl29_2]); (with_reducible repeat (first | refine blk_drewN ?_ _ | refine blk_drew ?_ | refine blk_alloc ?_ _)); exact BK251.out⟩, ⟨by repeat (first | (with_reducible first | exact HB.out | apply below_alloc | apply pw_below_drewN | apply below_drew1 | refine below_set ?_ GE245.out | refine below_set ?_ GE246.out | refine below_set ?_ GE251.out) | exact HB.out)⟩⟩
                            · replace c50 := Bool.eq_false_iff.mpr c50
                              subst c50
                              have H1 : (if (wrap64 (((rd l0_0 (rd x29_2 x31_2)) / 8) - a2)) ≥ 2 then (if 0 ≤ (wrap64 ((rd x29_2 x31_2) + a2)) then (if (wrap64 ((rd x29_2 x31_2) + a2)) < (x252000_2.length : Int) then (if 0 ≤ (rd x29_2 x31_2) then (if (rd x29_2 x31_2) ≤ (wrap64 ((rd x29_2 x31_2) + a2)) then (if (wrap64 ((rd x29_2 x31_2) + a2)) ≤ (x252000_2.length : Int) then (if (rd x29_2 x31_2) < (wrap64 ((rd x29_2 x31_2) + a2)) then (if (rd x29_2 x31_2) < (x252000_2.length : Int) then (some (((cleared (x252000_2.set ((wrap64 ((rd x29_2 x31_2) + a2)) : Int).toNat (wrap64 ((wrap64 (8 * (wrap64 (((rd l0_0 (rd x29_2 x31_2)) / 8) - a2)))) + 0))) (((rd x29_2 x31_2) : Int).toNat) ((((wrap64 ((rd x29_2 x31_2) + a2)) : Int).toNat) - (((rd x29_2 x31_2) : Int).toNat))).set ((rd x29_2 x31_2) : Int).toNat (wrap64 ((wrap64 (8 * a2)) + a1))), (rd x29_2 x31_2), true)) else (none)) else (none)) else (none)) else (none)) else (none)) else (none)) else (none)) else (if 0 ≤ (rd x29_2 x31_2) then (if (rd x29_2 x31_2) ≤ (wrap64 ((rd x29_2 x31_2) + ((rd l0_0 (rd x29_2 x31_2)) / 8))) then (if (wrap64 ((rd x29_2 x31_2) + ((rd l0_0 (rd x29_2 x31_2)) / 8))) ≤ (x252000_2.length : Int) then (if (rd x29_2 x31_2) < (wrap64 ((rd x29_2 x31_2) + ((rd l0_0 (rd x29_2 x31_2)) / 8))) then (if (rd x29_2 x31_2) < (x252000_2.length : Int) then (some (((cleared x252000_2 (((rd x29_2 x31_2) : Int).toNat) ((((wrap64 ((rd x29_2 x31_2) + ((rd l0_0 (rd x29_2 x31_2)) / 8))) : Int).toNat) - (((rd x29_2 x31_2) : Int).toNat))).set ((rd x29_2 x31_2) : Int).toNat (wrap64 ((wrap64 (8 * ((rd l0_0 (rd x29_2 x31_2)) / 8))) + a1))), (rd x29_2 x31_2), true)) else (none)) else (none)) else (none)) else (none)) else (none))) = some (r1, r2, r3) := by rw [if_neg (show ¬ (false = true) by decide)] at H; exact H
                              clear H
                              have H := H1
                              clear H1
                              by_cases c51 : (wrap64 (((rd l0_0 (rd x29_2 x31_2)) / 8) - a2)) ≥ 2
                              · rw [if_pos c51] at H
                                have c51b0 : decide (2 ≤ (wrap64 (((rd l0_0 (rd x29_2 x31_2)) / 8) - a2))) = true := decide_eq_true c51
                                clear c51
                                obtain ⟨ji52, hji52⟩ : ∃ j_ : Int, (wrap64 ((rd x29_2 x31_2) + a2)) = j_ := ⟨_, rfl⟩
                                replace H : (if 0 ≤ (ji52) then (if (ji52) < (x252000_2.length : Int) then (if 0 ≤ (rd x29_2 x31_2) then (if (rd x29_2 x31_2) ≤ (ji52) then (if (ji52) ≤ (x252000_2.length : Int) then (if (rd x29_2 x31_2) < (ji52) then (if (rd x29_2 x31_2) < (x252000_2.length : Int) then (some (((cleared (x252000_2.set ((ji52) : Int).toNat (wrap64 ((wrap64 (8 * (wrap64 (((rd l0_0 (rd x29_2 x31_2)) / 8) - a2)))) + 0))) (((rd x29_2 x31_2) : Int).toNat) ((((ji52) : Int).toNat) - (((rd x29_2 x31_2) : Int).toNat))).set ((rd x29_2 x31_2) : Int).toNat (wrap64 ((wrap64 (8 * a2)) + a1))), (rd x29_2 x31_2), true)) else (none)) else (none)) else (none)) else (none)) else (none)) else (none)) else (none)) = some (r1, r2, r3) := by first | (rw [hji52] at H; exact H) | (simp only [hji52] at H ⊢; exact H)
                                have hji52w : (IntKind.i64.wrap ((rd x29_2 x31_2) + a2)) = ji52 := (i64_w _).trans hji52
                                by_cases c53 : 0 ≤ (ji52)
                                · rw [if_pos c53] at H
                                  have c53b0 : decide (0 ≤ (ji52)) = true := decide_eq_true c53
                                  clear c53
                                  by_cases c54 : (ji52) < (x252000_2.length : Int)
                                  · rw [if_pos c54] at H
                                    have c54b0 : decide ((ji52) < (x252000_2.length : Int)) = true := decide_eq_true c54
                                    (try (have c54b0h := c54b0; simp only [hl29_2] at c54b0h))
                                    clear c54
                                    obtain ⟨y259, hy259⟩ : ∃ y_ : List Int, y_ = (x252000_2.set ((ji52) : Int).toNat (wrap64 ((wrap64 (8 * (wrap64 (((rd l0_0 (rd x29_2 x31_2)) / 8) - a2)))) + 0))) := ⟨_, rfl⟩
                                    replace H : (if 0 ≤ (rd x29_2 x31_2) then (if (rd x29_2 x31_2) ≤ (ji52) then (if (ji52) ≤ (x252000_2.length : Int) then (if (rd x29_2 x31_2) < (ji52) then (if (rd x29_2 x31_2) < (x252000_2.length : Int) then (some (((cleared y259 (((rd x29_2 x31_2) : Int).toNat) ((((ji52) : Int).toNat) - (((rd x29_2 x31_2) : Int).toNat))).set ((rd x29_2 x31_2) : Int).toNat (wrap64 ((wrap64 (8 * a2)) + a1))), (rd x29_2 x31_2), true)) else (none)) else (none)) else (none)) else (none)) else (none)) = some (r1, r2, r3) := by first | (rw [hy259]; with_reducible exact H) | (have H2_ := (Option.bind_some _ _).symm.trans H; rw [hy259]; with_reducible exact H2_) | (have H2_ := (Option.bind_some _ _).symm.trans H; with_reducible exact H2_) | with_reducible exact H | (rw [hy259]; exact H) | exact H
                                    have Ny259 := Aside0.mk hy259
                                    clear hy259
                                    by_cases c56 : 0 ≤ (rd x29_2 x31_2)
                                    · rw [if_pos c56] at H
                                      have c56b0 := eq_true c56
                                      have c56b1 : decide (0 ≤ (rd x29_2 x31_2)) = true := decide_eq_true c56
                                      clear c56
                                      by_cases c57 : (rd x29_2 x31_2) ≤ (ji52)
                                      · rw [if_pos c57] at H
                                        have c57b0 := eq_true c57
                                        have c57b1 : decide ((rd x29_2 x31_2) ≤ (ji52)) = true := decide_eq_true c57
                                        clear c57
                                        by_cases c58 : (ji52) ≤ (x252000_2.length : Int)
                                        · rw [if_pos c58] at H
                                          have c58b0 := eq_true c58
                                          have c58b1 : decide ((ji52) ≤ (x252000_2.length : Int)) = true := decide_eq_true c58
                                          clear c58
                                          obtain ⟨y260, hy260⟩ : ∃ y_ : List Int, y_ = ((y259.take ((ji52) : Int).toNat).drop ((rd x29_2 x31_2) : Int).toNat) := ⟨_, rfl⟩
                                          replace H : (if (rd x29_2 x31_2) < (ji52) then (if (rd x29_2 x31_2) < (x252000_2.length : Int) then (some (((cleared y259 (((rd x29_2 x31_2) : Int).toNat) ((((ji52) : Int).toNat) - (((rd x29_2 x31_2) : Int).toNat))).set ((rd x29_2 x31_2) : Int).toNat (wrap64 ((wrap64 (8 * a2)) + a1))), (rd x29_2 x31_2), true)) else (none)) else (none)) = some (r1, r2, r3) := by first | (rw [hy260]; with_reducible exact H) | (have H2_ := (Option.bind_some _ _).symm.trans H; rw [hy260]; with_reducible exact H2_) | (have H2_ := (Option.bind_some _ _).symm.trans H; with_reducible exact H2_) | with_reducible exact H | (rw [hy260]; exact H) | exact H
                                          have Ny260 := Aside0.mk hy260
                                          clear hy260
                                          by_cases c59 : (rd x29_2 x31_2) < (ji52)
                                          · rw [if_pos c59] at H
                                            have c59b0 := eq_true c59
                                            have c59b1 : decide ((rd x29_2 x31_2) < (ji52)) = true := decide_eq_true c59
                                            clear c59
                                            obtain ⟨y264, hy264⟩ : ∃ y_ : List Int, y_ = (cleared y259 (((rd x29_2 x31_2) : Int).toNat) ((((ji52) : Int).toNat) - (((rd x29_2 x31_2) : Int).toNat))) := ⟨_, rfl⟩
                                            replace H : (if (rd x29_2 x31_2) < (x252000_2.length : Int) then (some ((y264.set ((rd x29_2 x31_2) : Int).toNat (wrap64 ((wrap64 (8 * a2)) + a1))), (rd x29_2 x31_2), true)) else (none)) = some (r1, r2, r3) := by first | (rw [hy264]; with_reducible exact H) | (have H2_ := (Option.bind_some _ _).symm.trans H; rw [hy264]; with_reducible exact H2_) | (have H2_ := (Option.bind_some _ _).symm.trans H; with_reducible exact H2_) | with_reducible exact H | (rw [hy264]; exact H) | exact H
                                            have Ny264 := Aside0.mk hy264
                                            clear hy264
                                            by_cases c60 : (rd x29_2 x31_2) < (x252000_2.length : Int)
                                            · rw [if_pos c60] at H
                                              have c60b0 : decide ((rd x29_2 x31_2) < (x252000_2.length : Int)) = true := decide_eq_true c60
                                              (try (have c60b0h := c60b0; simp only [hl29_2] at c60b0h))
                                              clear c60
                                              obtain ⟨y265, hy265⟩ : ∃ y_ : List Int, y_ = (y264.set ((rd x29_2 x31_2) : Int).toNat (wrap64 ((wrap64 (8 * a2)) + a1))) := ⟨_, rfl⟩
                                              replace H : (some (y265, (rd x29_2 x31_2), true)) = some (r1, r2, r3) := by first | (rw [hy265]; with_reducible exact H) | (have H2_ := (Option.bind_some _ _).symm.trans H; rw [hy265]; with_reducible exact H2_) | (have H2_ := (Option.bind_some _ _).symm.trans H; with_reducible exact H2_) | with_reducible exact H | (rw [hy265]; exact H) | exact H
                                              have Ny265 := Aside0.mk hy265
                                              clear hy265
                                              simp only [Option.some.injEq, Prod.mk.injEq] at H
                                              obtain ⟨rfl, rfl, rfl⟩ := H
                                              have hnb62 := NB251_245.out
                                              have hnc62 := NB245_251.out
                                              have hnb63 := NB251_246.out
                                              have hnc63 := NB246_251.out
                                              have hcz64_0 : wc.cell? ⟨gb251, 0, none⟩ = some (u252000) := (blk_cell BK251.out 0).trans rfl
                                              have hfz64_0 := blk_frozen BK251.out 0
                                              have p55 : 0 ≤ ((ji52) : Int) := of_decide_eq_true (by first | (with_reducible assumption) | assumption)
                                              have q55 : ((ji52) : Int) < ((x252000_2.length : Int) : Int) := of_decide_eq_true (by first | (with_reducible assumption) | assumption)
                                              obtain ⟨go55, co55, eo55, gb55, gl55, cl55, HG55⟩ := Kd.R_form HO_252000.out (by omega)
                                              (first | cases eo55 | (injection eo55 with ea_ en_ ec_; (first | subst ea_ | (injection ea_ with ea_; subst ea_)); subst ec_; clear en_))
                                              have GB55 := Aside0.mk gb55
                                              have GG55 := Aside0.mk HG55
                                              clear gb55 gl55 HG55
                                              obtain ⟨hx55_0, hf55_0⟩ := Kd.R_celln 0 HO_252000.out ((ji52) : Int) p55 q55
                                              replace p55 := eq_true p55
                                              replace q55 := eq_true q55
                                              have HP65 := Kd.R_putg HO_252000.out ((ji52) : Int) (wrap64 ((wrap64 (8 * (wrap64 (((rd l0_0 (rd x29_2 x31_2)) / 8) - a2)))) + 0))
                                              go_wp2_with (first | ((with_reducible refine gate_store (t := 3) (p := 69) rfl ?_); refine store_event (t := 3) (p := 69) (v := ?vo_w66) (w1 := (wc.setCell ⟨go55, ((ji52) : Int).toNat, none⟩ (.int .i64 (wrap64 ((wrap64 (8 * (wrap64 (((rd l0_0 (rd x29_2 x31_2)) / 8) - a2)))) + 0))))) ?hg ?ho ?hn ?hr ?_; (case ho => rfl); (case hg => rfl); (case hn => rfl); (case hr => first | (go_simp; done) | (go_simp; rfl)); intro w66 hw; have hg : wc.grownBy w66 (some go55) := (by rw [hw]; exact HP65.2); have hp_ : Kd.R (Kd.int .i64) 3 w66 w.heap.size (fun k_ => some k_ ≠ (.slice (some ad256) x29_2.length co33 : Value).ownBlock) (.slice (some ⟨go55, 0, none⟩) x252000_2.length co55) y259 := (by rw [hw, Ny259.out]; exact HP65.1); clear HP65; have n0_ := Aside0.mk (Kd.R_after (v := (.slice (some ⟨go55, 0, none⟩) x252000_2.length co55)) (v1 := (.slice (some ⟨go55, 0, none⟩) x252000_2.length co55)) (ok := (fun _ => True)) (by (with_reducible repeat (first | apply Kd.R_alloc | apply Kd.R_drewN | apply Kd.R_drew)); exact Kd.R_mono HO_29.out (fun _ hk => ⟨trivial, hk⟩)) hg (.inl rfl)); have n1_ := Aside0.mk (hp_); have n2_ := Aside0.mk (blk_grown (g := gb245) (o := .cells #[.slice (some ad257) l0_0.length c0_0] 27 (0, 0)) (by (with_reducible repeat (first | refine blk_drewN ?_ _ | refine blk_drew ?_ | refine blk_alloc ?_ _)); exact BK245.out) hg (Kd.R_ne HO_252000.out BK245.out (by decide))); have n3_ := Aside0.mk (blk_grown (g := gb246) (o := .cells #[.slice none 0 0] 27 (0, 0)) (by (with_reducible repeat (first | refine blk_drewN ?_ _ | refine blk_drew ?_ | refine blk_alloc ?_ _)); exact BK246.out) hg (Kd.R_ne HO_252000.out BK246.out (by decide))); have n4_ := Aside0.mk (blk_grown (g := gb251) (o := .cells #[.slice (some ⟨go55, 0, none⟩) x252000_2.length co55] 27 (0, 0)) (by (with_reducible repeat (first | refine blk_drewN ?_ _ | refine blk_drew ?_ | refine blk_alloc ?_ _)); exact BK251.out) hg (Kd.R_ne HO_252000.out BK251.out (by decide))); have n5_ := Aside0.mk ((by rw [hw]; exact below_set (HB.out) GB55.out : Below w.heap.size w w66)); clear HO_29; clear HO_252000; clear BK245; clear BK246; clear BK251; clear HB; have HO_29 := n0_; have HO_252000 := n1_; have BK245 := n2_; have BK246 := n3_; have BK251 := n4_; have HB := n5_; clear n0_ n1_ n2_ n3_ n4_ n5_; clear hg hw hp_; have hcz67_0 : w66.cell? ⟨gb251, 0, none⟩ = some (.slice (some ⟨go55, 0, none⟩) x252000_2.length co55) := (blk_cell BK251.out 0).trans rfl; have hfz67_0 := blk_frozen BK251.out 0; have hlx68 := (Kd.R_reads' HO_252000.out).1; have q68 : ((ji52) : Int) ≤ ((x252000_2.length : Int) : Int) := of_decide_eq_true (by first | (with_reducible assumption) | assumption); obtain ⟨i068, hi068, _, hsz68, _⟩ := info_parts info3; have hroom68 : x252000_2.length ≤ co55 := (Kd.R_reads' HO_252000.out).2.1; have hroomc68 : y259.length ≤ co55 := (by rw [← hlx68]; exact hroom68); have hC68 : Kd.C (Kd.int .i64) _ (some ⟨go55, 0, none⟩) y259.length y259 := (Kd.R_reads' HO_252000.out).2.2; have ql68 : ((rd x29_2 x31_2) : Int) ≤ ((ji52) : Int) := of_decide_eq_true (by first | (with_reducible assumption) | assumption); have q068 : (0 : Int) ≤ ((rd x29_2 x31_2) : Int) := of_decide_eq_true (by first | (with_reducible assumption) | assumption); have hcut68 := cut_mid (P := Try.prog) 22 3 .i64 .i64 Try.underlying22 hi068 1 hsz68 (some ⟨go55, 0, none⟩) x252000_2.length co55 (rd x29_2 x31_2) (ji52) q068 ql68 q68 hroom68; have hr68 := Kd.C_mid (lo := ((rd x29_2 x31_2) : Int).toNat) (hi := ((ji52) : Int).toNat) (c := co55) hC68 (by omega) (by omega) hroomc68; obtain ⟨A68, hA68⟩ : ∃ A1, A1 = (if co55 = ((rd x29_2 x31_2) : Int).toNat then (some ⟨go55, 0, none⟩) else ((some ⟨go55, 0, none⟩) : Option Addr).map (·.add (((rd x29_2 x31_2) : Int).toNat * 1))) := ⟨_, rfl⟩; obtain ⟨c68, hc68⟩ : ∃ c1, c1 = co55 - ((rd x29_2 x31_2) : Int).toNat := ⟨_, rfl⟩; have hy68 : y260.length = ((ji52) : Int).toNat - ((rd x29_2 x31_2) : Int).toNat := (by rw [Ny260.out, List.length_drop, List.length_take] <;> omega); rw [show ((y259).take ((ji52) : Int).toNat).drop ((rd x29_2 x31_2) : Int).toNat = y260 from Ny260.out.symm] at hr68; replace hr68 : Kd.C (Kd.int .i64) _ A68 y260.length y260 := (by rw [hA68]; exact hr68); rw [← hy68, ← hA68, ← hc68] at hcut68; have HR263 := Aside0.mk hr68; have HC263 := Aside0.mk (show y260.length ≤ c68 from by rw [hy68, hc68]; exact Nat.sub_le_sub_right (Nat.le_trans (by omega) hroom68) _); clear hr68 hC68 hroom68 hi068 hsz68 hc68 hroomc68; have KY68 := Aside0.mk hy68; have KA68 := Aside0.mk hA68; clear hy68 hA68; have KE68 := Aside0.mk hlx68; have KL68 := Aside0.mk (show ((ji52) : Int).toNat ≤ y259.length from by omega); have KM68 := Aside0.mk (show ((rd x29_2 x31_2) : Int).toNat ≤ ((ji52) : Int).toNat from by omega); clear hlx68; replace q68 := eq_true q68) | ((with_reducible refine gate_builtin (b := .clear) (xs := #[.tmp 76]) rfl ?_); have hk_ : ((rd x29_2 x31_2) : Int) < ((ji52) : Int) := of_decide_eq_true (by first | (with_reducible assumption) | assumption); have h0_ : (0 : Int) ≤ ((rd x29_2 x31_2) : Int) := of_decide_eq_true (by first | (with_reducible assumption) | assumption); have hh_ : ((ji52) : Int) ≤ ((x252000_2.length : Int) : Int) := of_decide_eq_true (by first | (with_reducible assumption) | assumption); have hn_ := (Kd.R_reads' HO_252000.out).1; refine R_clear (w0 := w) w.heap.size rfl (.tmp 76) 22 3 rfl Try.underlying22 zero_int (g := go55) (n := x252000_2.length) (c := co55) (lo := ((rd x29_2 x31_2) : Int).toNat) (hi := ((ji52) : Int).toNat) rfl ?hA ?hm ?h1 ?h2 (by (with_reducible repeat (first | apply Kd.R_alloc | apply Kd.R_drewN | apply Kd.R_drew)); exact HO_252000.out) (by repeat (first | (with_reducible first | exact HB.out | apply below_alloc | apply pw_below_drewN | apply below_drew1 | refine below_set ?_ GE245.out | refine below_set ?_ GE246.out | refine below_set ?_ GE251.out) | exact HB.out)) (below_size (by repeat (first | (with_reducible first | exact HB.out | apply below_alloc | apply pw_below_drewN | apply below_drew1 | refine below_set ?_ GE245.out | refine below_set ?_ GE246.out | refine below_set ?_ GE251.out) | exact HB.out))) ?_; (case hA => exact KA68.out); (case hm => exact KY68.out); (case h1 => omega); (case h2 => omega); intro w69 ho hb hg; clear hk_ h0_ hh_ hn_; rw [← Ny264.out] at ho; have n0_ := Aside0.mk (Kd.R_after (v := (.slice (some ⟨go55, 0, none⟩) x252000_2.length co55)) (v1 := (.slice (some ⟨go55, 0, none⟩) x252000_2.length co55)) (ok := (fun _ => True)) (by (with_reducible repeat (first | apply Kd.R_alloc | apply Kd.R_drewN | apply Kd.R_drew)); exact HO_29.out) hg (.inl rfl)); have n1_ := Aside0.mk (ho); have n2_ := Aside0.mk (blk_grown (g := gb245) (o := .cells #[.slice (some ad257) l0_0.length c0_0] 27 (0, 0)) (by (with_reducible repeat (first | refine blk_drewN ?_ _ | refine blk_drew ?_ | refine blk_alloc ?_ _)); exact BK245.out) hg (Kd.R_ne HO_252000.out BK245.out (by decide))); have n3_ := Aside0.mk (blk_grown (g := gb246) (o := .cells #[.slice none 0 0] 27 (0, 0)) (by (with_reducible repeat (first | refine blk_drewN ?_ _ | refine blk_drew ?_ | refine blk_alloc ?_ _)); exact BK246.out) hg (Kd.R_ne HO_252000.out BK246.out (by decide))); have n4_ := Aside0.mk (blk_grown (g := gb251) (o := .cells #[.slice (some ⟨go55, 0, none⟩) x252000_2.length co55] 27 (0, 0)) (by (with_reducible repeat (first | refine blk_drewN ?_ _ | refine blk_drew ?_ | refine blk_alloc ?_ _)); exact BK251.out) hg (Kd.R_ne HO_252000.out BK251.out (by decide))); have n5_ := Aside0.mk (hb); clear HO_29; clear HO_252000; clear BK245; clear BK246; clear BK251; clear HB; have HO_29 := n0_; have HO_252000 := n1_; have BK245 := n2_; have BK246 := n3_; have BK251 := n4_; have HB := n5_; clear n0_ n1_ n2_ n3_ n4_ n5_; clear ho hb hg; have hcz71_0 : w69.cell? ⟨gb251, 0, none⟩ = some (.slice (some ⟨go55, 0, none⟩) x252000_2.length co55) := (blk_cell BK251.out 0).trans rfl; have hfz71_0 := blk_frozen BK251.out 0; have p61 : 0 ≤ ((rd x29_2 x31_2) : Int) := of_decide_eq_true (by first | (with_reducible assumption) | assumption); have q61 : ((rd x29_2 x31_2) : Int) < ((x252000_2.length : Int) : Int) := of_decide_eq_true (by first | (with_reducible assumption) | assumption); obtain ⟨hx61_0, hf61_0⟩ := Kd.R_celln 0 HO_252000.out ((rd x29_2 x31_2) : Int) p61 q61; replace p61 := eq_true p61; replace q61 := eq_true q61; obtain ⟨hy72_, hz72_⟩ := Kd.R_celln 0 HO_252000.out ((rd x29_2 x31_2) : Int) (of_decide_eq_true (by first | (with_reducible assumption) | assumption)) (of_decide_eq_true (by first | (with_reducible assumption) | assumption)); have HP72 := Kd.R_putg HO_252000.out ((rd x29_2 x31_2) : Int) (wrap64 ((wrap64 (8 * a2)) + a1))) | ((with_reducible refine gate_store (t := 3) (p := 84) rfl ?_); refine store_event (t := 3) (p := 84) (v := ?vo_w73) (w1 := (w69.setCell ⟨go55, ((rd x29_2 x31_2) : Int).toNat, none⟩ (.int .i64 (wrap64 ((wrap64 (8 * a2)) + a1))))) ?hg ?ho ?hn ?hr ?_; (case ho => rfl); (case hg => rfl); (case hn => rfl); (case hr => first | (go_simp; done) | (go_simp; rfl)); intro w73 hw; have hg : w69.grownBy w73 (some go55) := (by rw [hw]; exact HP72.2); have hp_ : Kd.R (Kd.int .i64) 3 w73 w.heap.size (fun k_ => some k_ ≠ (.slice (some ad256) x29_2.length co33 : Value).ownBlock) (.slice (some ⟨go55, 0, none⟩) x252000_2.length co55) y265 := (by rw [hw, Ny265.out]; exact HP72.1); clear HP72; have n0_ := Aside0.mk (Kd.R_after (v := (.slice (some ⟨go55, 0, none⟩) x252000_2.length co55)) (v1 := (.slice (some ⟨go55, 0, none⟩) x252000_2.length co55)) (ok := (fun _ => True)) (by (with_reducible repeat (first | apply Kd.R_alloc | apply Kd.R_drewN | apply Kd.R_drew)); exact HO_29.out) hg (.inl rfl)); have n1_ := Aside0.mk (hp_); have n2_ := Aside0.mk (blk_grown (g := gb245) (o := .cells #[.slice (some ad257) l0_0.length c0_0] 27 (0, 0)) (by (with_reducible repeat (first | refine blk_drewN ?_ _ | refine blk_drew ?_ | refine blk_alloc ?_ _)); exact BK245.out) hg (Kd.R_ne HO_252000.out BK245.out (by decide))); have n3_ := Aside0.mk (blk_grown (g := gb246) (o := .cells #[.slice none 0 0] 27 (0, 0)) (by (with_reducible repeat (first | refine blk_drewN ?_ _ | refine blk_drew ?_ | refine blk_alloc ?_ _)); exact BK246.out) hg (Kd.R_ne HO_252000.out BK246.out (by decide))); have n4_ := Aside0.mk (blk_grown (g := gb251) (o := .cells #[.slice (some ⟨go55, 0, none⟩) x252000_2.length co55] 27 (0, 0)) (by (with_reducible repeat (first | refine blk_drewN ?_ _ | refine blk_drew ?_ | refine blk_alloc ?_ _)); exact BK251.out) hg (Kd.R_ne HO_252000.out BK251.out (by decide))); have n5_ := Aside0.mk ((by rw [hw]; exact below_set (HB.out) GB55.out : Below w.heap.size w w73)); clear HO_29; clear HO_252000; clear BK245; clear BK246; clear BK251; clear HB; have HO_29 := n0_; have HO_252000 := n1_; have BK245 := n2_; have BK246 := n3_; have BK251 := n4_; have HB := n5_; clear n0_ n1_ n2_ n3_ n4_ n5_; clear hg hw hp_; have hcz74_0 : w73.cell? ⟨gb251, 0, none⟩ = some (.slice (some ⟨go55, 0, none⟩) x252000_2.length co55) := (blk_cell BK251.out 0).trans rfl; have hfz74_0 := blk_frozen BK251.out 0; have hnb75 := NB246_245.out; have hnc75 := NB245_246.out; have hcz76_0 : w73.cell? ⟨gb246, 0, none⟩ = some (.slice none 0 0) := (blk_cell BK246.out 0).trans rfl; have hfz76_0 := blk_frozen BK246.out 0))
                                              refine bodyPost_ret (results_ctt rfl _ _ gb246 27 #[.slice (some ⟨go55, 0, none⟩) x252000_2.length co55] (0, 0) _ rfl (by (with_reducible repeat (first | refine blk_drewN ?_ _ | refine blk_drew ?_ | refine blk_alloc ?_ _)); refine blk_put (cs := #[.slice none 0 0]) ?_ 0 _ rfl; (with_reducible repeat (first | refine blk_drewN ?_ _ | refine blk_drew ?_ | refine blk_alloc ?_ _)); exact BK246.out) Try.underlying27 rfl (by kernel_rfl)) rfl ?_
                                              exact ⟨_, by first | rfl | (simp [errW_none, errW_some] <;> rfl) | (simp only [← hji52]; first | rfl | (simp [errW_none, errW_some] <;> rfl)) | (simp [*, errW_none, errW_some] <;> rfl), by (with_reducible repeat (first | apply Kd.R_alloc | apply Kd.R_drewN | apply Kd.R_drew)); exact Kd.R_mono (Kd.R_far (p := ⟨gb246, 0, none⟩) (Kd.R_types HO_252000.out BK246.out (by decide)) (fun _ hk => hk.2) (.slice (some ⟨go55, 0, none⟩) x252000_2.length co55)) (fun _ hk => trivial), by repeat (first | (with_reducible first | exact HB.out | apply below_alloc | apply pw_below_drewN | apply below_drew1 | refine below_set ?_ GE245.out | refine below_set ?_ GE246.out | refine below_set ?_ GE251.out) | exact HB.out)⟩
                                            · rw [if_neg c60] at H
                                              exact absurd H (by simp)
                                          · rw [if_neg c59] at H
                                            exact absurd H (by simp)
                                        · rw [if_neg c58] at H
                                          exact absurd H (by simp)
                                      · rw [if_neg c57] at H
                                        exact absurd H (by simp)
                                    · rw [if_neg c56] at H
                                      exact absurd H (by simp)
                                  · rw [if_neg c54] at H
                                    exact absurd H (by simp)
                                · rw [if_neg c53] at H
                                  exact absurd H (by simp)
                              · rw [if_neg c51] at H
                                have c51b0 : decide (2 ≤ (wrap64 (((rd l0_0 (rd x29_2 x31_2)) / 8) - a2))) = false := decide_eq_false c51
                                clear c51
                                by_cases c77 : 0 ≤ (rd x29_2 x31_2)
                                · rw [if_pos c77] at H
                                  have c77b0 := eq_true c77
                                  have c77b1 : decide (0 ≤ (rd x29_2 x31_2)) = true := decide_eq_true c77
                                  clear c77
                                  by_cases c78 : (rd x29_2 x31_2) ≤ (wrap64 ((rd x29_2 x31_2) + ((rd l0_0 (rd x29_2 x31_2)) / 8)))
                                  · rw [if_pos c78] at H
                                    have c78b0 := eq_true c78
                                    have c78b1 : decide ((rd x29_2 x31_2) ≤ (wrap64 ((rd x29_2 x31_2) + ((rd l0_0 (rd x29_2 x31_2)) / 8)))) = true := decide_eq_true c78
                                    by_cases c79 : (wrap64 ((rd x29_2 x31_2) + ((rd l0_0 (rd x29_2 x31_2)) / 8))) ≤ (x252000_2.length : Int)
                                    · rw [if_pos c79] at H
                                      have c79b0 := eq_true c79
                                      have c79b1 : decide ((wrap64 ((rd x29_2 x31_2) + ((rd l0_0 (rd x29_2 x31_2)) / 8))) ≤ (x252000_2.length : Int)) = true := decide_eq_true c79
                                      obtain ⟨y266, hy266⟩ : ∃ y_ : List Int, y_ = ((x252000_2.take ((wrap64 ((rd x29_2 x31_2) + ((rd l0_0 (rd x29_2 x31_2)) / 8))) : Int).toNat).drop ((rd x29_2 x31_2) : Int).toNat) := ⟨_, rfl⟩
                                      replace H : (if (rd x29_2 x31_2) < (wrap64 ((rd x29_2 x31_2) + ((rd l0_0 (rd x29_2 x31_2)) / 8))) then (if (rd x29_2 x31_2) < (x252000_2.length : Int) then (some (((cleared x252000_2 (((rd x29_2 x31_2) : Int).toNat) ((((wrap64 ((rd x29_2 x31_2) + ((rd l0_0 (rd x29_2 x31_2)) / 8))) : Int).toNat) - (((rd x29_2 x31_2) : Int).toNat))).set ((rd x29_2 x31_2) : Int).toNat (wrap64 ((wrap64 (8 * ((rd l0_0 (rd x29_2 x31_2)) / 8))) + a1))), (rd x29_2 x31_2), true)) else (none)) else (none)) = some (r1, r2, r3) := by first | (rw [hy266]; with_reducible exact H) | (have H2_ := (Option.bind_some _ _).symm.trans H; rw [hy266]; with_reducible exact H2_) | (have H2_ := (Option.bind_some _ _).symm.trans H; with_reducible exact H2_) | with_reducible exact H | (rw [hy266]; exact H) | exact H
                                      have Ny266 := Aside0.mk hy266
                                      clear hy266
                                      by_cases c80 : (rd x29_2 x31_2) < (wrap64 ((rd x29_2 x31_2) + ((rd l0_0 (rd x29_2 x31_2)) / 8)))
                                      · rw [if_pos c80] at H
                                        have c80b0 := eq_true c80
                                        have c80b1 : decide ((rd x29_2 x31_2) < (wrap64 ((rd x29_2 x31_2) + ((rd l0_0 (rd x29_2 x31_2)) / 8)))) = true := decide_eq_true c80
                                        obtain ⟨y270, hy270⟩ : ∃ y_ : List Int, y_ = (cleared x252000_2 (((rd x29_2 x31_2) : Int).toNat) ((((wrap64 ((rd x29_2 x31_2) + ((rd l0_0 (rd x29_2 x31_2)) / 8))) : Int).toNat) - (((rd x29_2 x31_2) : Int).toNat))) := ⟨_, rfl⟩
                                        replace H : (if (rd x29_2 x31_2) < (x252000_2.length : Int) then (some ((y270.set ((rd x29_2 x31_2) : Int).toNat (wrap64 ((wrap64 (8 * ((rd l0_0 (rd x29_2 x31_2)) / 8))) + a1))), (rd x29_2 x31_2), true)) else (none)) = some (r1, r2, r3) := by first | (rw [hy270]; with_reducible exact H) | (have H2_ := (Option.bind_some _ _).symm.trans H; rw [hy270]; with_reducible exact H2_) | (have H2_ := (Option.bind_some _ _).symm.trans H; with_reducible exact H2_) | with_reducible exact H | (rw [hy270]; exact H) | exact H
                                        have Ny270 := Aside0.mk hy270
                                        clear hy270
                                        by_cases c81 : (rd x29_2 x31_2) < (x252000_2.length : Int)
                                        · rw [if_pos c81] at H
                                          have c81b0 : decide ((rd x29_2 x31_2) < (x252000_2.length : Int)) = true := decide_eq_true c81
                                          (try (have c81b0h := c81b0; simp only [hl29_2] at c81b0h))
                                          clear c81
                                          obtain ⟨y271, hy271⟩ : ∃ y_ : List Int, y_ = (y270.set ((rd x29_2 x31_2) : Int).toNat (wrap64 ((wrap64 (8 * ((rd l0_0 (rd x29_2 x31_2)) / 8))) + a1))) := ⟨_, rfl⟩
                                          replace H : (some (y271, (rd x29_2 x31_2), true)) = some (r1, r2, r3) := by first | (rw [hy271]; with_reducible exact H) | (have H2_ := (Option.bind_some _ _).symm.trans H; rw [hy271]; with_reducible exact H2_) | (have H2_ := (Option.bind_some _ _).symm.trans H; with_reducible exact H2_) | with_reducible exact H | (rw [hy271]; exact H) | exact H
                                          have Ny271 := Aside0.mk hy271
                                          clear hy271
                                          simp only [Option.some.injEq, Prod.mk.injEq] at H
                                          obtain ⟨rfl, rfl, rfl⟩ := H
                                          have hnb83 := NB251_245.out
                                          have hnc83 := NB245_251.out
                                          have hnb84 := NB251_246.out
                                          have hnc84 := NB246_251.out
                                          have hcz85_0 : wc.cell? ⟨gb251, 0, none⟩ = some (u252000) := (blk_cell BK251.out 0).trans rfl
                                          have hfz85_0 := blk_frozen BK251.out 0
                                          obtain ⟨Ao87, co87, eo87⟩ := Kd.R_slice HO_252000.out
                                          subst eo87
                                          have q86 : ((wrap64 ((rd x29_2 x31_2) + ((rd l0_0 (rd x29_2 x31_2)) / 8))) : Int) ≤ ((x252000_2.length : Int) : Int) := of_decide_eq_true (by first | (with_reducible assumption) | assumption)
                                          obtain ⟨i086, hi086, _, hsz86, _⟩ := info_parts info3
                                          have hroom86 : x252000_2.length ≤ co87 := (Kd.R_reads' HO_252000.out).2.1
                                          have hC86 : Kd.C (Kd.int .i64) _ Ao87 x252000_2.length x252000_2 := (Kd.R_reads' HO_252000.out).2.2
                                          have ql86 : ((rd x29_2 x31_2) : Int) ≤ ((wrap64 ((rd x29_2 x31_2) + ((rd l0_0 (rd x29_2 x31_2)) / 8))) : Int) := of_decide_eq_true (by first | (with_reducible assumption) | assumption)
                                          have q086 : (0 : Int) ≤ ((rd x29_2 x31_2) : Int) := of_decide_eq_true (by first | (with_reducible assumption) | assumption)
                                          have hcut86 := cut_mid (P := Try.prog) 22 3 .i64 .i64 Try.underlying22 hi086 1 hsz86 Ao87 x252000_2.length co87 (rd x29_2 x31_2) (wrap64 ((rd x29_2 x31_2) + ((rd l0_0 (rd x29_2 x31_2)) / 8))) q086 ql86 q86 hroom86
                                          have hr86 := Kd.C_mid (lo := ((rd x29_2 x31_2) : Int).toNat) (hi := ((wrap64 ((rd x29_2 x31_2) + ((rd l0_0 (rd x29_2 x31_2)) / 8))) : Int).toNat) (c := co87) hC86 (by omega) (by omega) hroom86
                                          obtain ⟨A86, hA86⟩ : ∃ A1, A1 = (if co87 = ((rd x29_2 x31_2) : Int).toNat then Ao87 else (Ao87 : Option Addr).map (·.add (((rd x29_2 x31_2) : Int).toNat * 1))) := ⟨_, rfl⟩
                                          obtain ⟨c86, hc86⟩ : ∃ c1, c1 = co87 - ((rd x29_2 x31_2) : Int).toNat := ⟨_, rfl⟩
                                          have hy86 : y266.length = ((wrap64 ((rd x29_2 x31_2) + ((rd l0_0 (rd x29_2 x31_2)) / 8))) : Int).toNat - ((rd x29_2 x31_2) : Int).toNat := (by rw [Ny266.out, List.length_drop, List.length_take] <;> omega)
                                          rw [show ((x252000_2).take ((wrap64 ((rd x29_2 x31_2) + ((rd l0_0 (rd x29_2 x31_2)) / 8))) : Int).toNat).drop ((rd x29_2 x31_2) : Int).toNat = y266 from Ny266.out.symm] at hr86
                                          replace hr86 : Kd.C (Kd.int .i64) _ A86 y266.length y266 := (by rw [hA86]; exact hr86)
                                          rw [← hy86, ← hA86, ← hc86] at hcut86
                                          have HR269 := Aside0.mk hr86
                                          have HC269 := Aside0.mk (show y266.length ≤ c86 from by rw [hy86, hc86]; exact Nat.sub_le_sub_right (Nat.le_trans (by omega) hroom86) _)
                                          clear hr86 hC86 hroom86 hi086 hsz86 hc86
                                          have KY86 := Aside0.mk hy86
                                          have KA86 := Aside0.mk hA86
                                          clear hy86 hA86
                                          have KL86 := Aside0.mk (show ((wrap64 ((rd x29_2 x31_2) + ((rd l0_0 (rd x29_2 x31_2)) / 8))) : Int).toNat ≤ x252000_2.length from by omega)
                                          have KM86 := Aside0.mk (show ((rd x29_2 x31_2) : Int).toNat ≤ ((wrap64 ((rd x29_2 x31_2) + ((rd l0_0 (rd x29_2 x31_2)) / 8))) : Int).toNat from by omega)
                                          replace q86 := eq_true q86
                                          obtain ⟨go89, co89, eo89, gb89, gl89, cl89, HG89⟩ := Kd.R_form HO_252000.out (by have hk_ : ((rd x29_2 x31_2) : Int) < ((wrap64 ((rd x29_2 x31_2) + ((rd l0_0 (rd x29_2 x31_2)) / 8))) : Int) := of_decide_eq_true (by first | (with_reducible assumption) | assumption); have h0_ : (0 : Int) ≤ ((rd x29_2 x31_2) : Int) := of_decide_eq_true (by first | (with_reducible assumption) | assumption); have hh_ : ((wrap64 ((rd x29_2 x31_2) + ((rd l0_0 (rd x29_2 x31_2)) / 8))) : Int) ≤ ((x252000_2.length : Int) : Int) := of_decide_eq_true (by first | (with_reducible assumption) | assumption); omega)
                                          (first | cases eo89 | (injection eo89 with ea_ en_ ec_; (first | subst ea_ | (injection ea_ with ea_; subst ea_)); subst ec_; clear en_))
                                          have GB89 := Aside0.mk gb89
                                          have GG89 := Aside0.mk HG89
                                          clear gb89 gl89 HG89
                                          go_wp2_with (first | ((with_reducible refine gate_builtin (b := .clear) (xs := #[.tmp 76]) rfl ?_); have hk_ : ((rd x29_2 x31_2) : Int) < ((wrap64 ((rd x29_2 x31_2) + ((rd l0_0 (rd x29_2 x31_2)) / 8))) : Int) := of_decide_eq_true (by first | (with_reducible assumption) | assumption); have h0_ : (0 : Int) ≤ ((rd x29_2 x31_2) : Int) := of_decide_eq_true (by first | (with_reducible assumption) | assumption); have hh_ : ((wrap64 ((rd x29_2 x31_2) + ((rd l0_0 (rd x29_2 x31_2)) / 8))) : Int) ≤ ((x252000_2.length : Int) : Int) := of_decide_eq_true (by first | (with_reducible assumption) | assumption); have hn_ := (Kd.R_reads' HO_252000.out).1; refine R_clear (w0 := w) w.heap.size rfl (.tmp 76) 22 3 rfl Try.underlying22 zero_int (g := go89) (n := x252000_2.length) (c := co87) (lo := ((rd x29_2 x31_2) : Int).toNat) (hi := ((wrap64 ((rd x29_2 x31_2) + ((rd l0_0 (rd x29_2 x31_2)) / 8))) : Int).toNat) rfl ?hA ?hm ?h1 ?h2 (by (with_reducible repeat (first | apply Kd.R_alloc | apply Kd.R_drewN | apply Kd.R_drew)); exact HO_252000.out) (by repeat (first | (with_reducible first | exact HB.out | apply below_alloc | apply pw_below_drewN | apply below_drew1 | refine below_set ?_ GE245.out | refine below_set ?_ GE246.out | refine below_set ?_ GE251.out) | exact HB.out)) (below_size (by repeat (first | (with_reducible first | exact HB.out | apply below_alloc | apply pw_below_drewN | apply below_drew1 | refine below_set ?_ GE245.out | refine below_set ?_ GE246.out | refine below_set ?_ GE251.out) | exact HB.out))) ?_; (case hA => exact KA86.out); (case hm => exact KY86.out); (case h1 => omega); (case h2 => omega); intro w88 ho hb hg; clear hk_ h0_ hh_ hn_; rw [← Ny270.out] at ho; have n0_ := Aside0.mk (Kd.R_after (v := (.slice (some ⟨go89, 0, none⟩) x252000_2.length co87)) (v1 := (.slice (some ⟨go89, 0, none⟩) x252000_2.length co87)) (ok := (fun _ => True)) (by (with_reducible repeat (first | apply Kd.R_alloc | apply Kd.R_drewN | apply Kd.R_drew)); exact Kd.R_mono HO_29.out (fun _ hk => ⟨trivial, hk⟩)) hg (.inl rfl)); have n1_ := Aside0.mk (ho); have n2_ := Aside0.mk (blk_grown (g := gb245) (o := .cells #[.slice (some ad257) l0_0.length c0_0] 27 (0, 0)) (by (with_reducible repeat (first | refine blk_drewN ?_ _ | refine blk_drew ?_ | refine blk_alloc ?_ _)); exact BK245.out) hg (Kd.R_ne HO_252000.out BK245.out (by decide))); have n3_ := Aside0.mk (blk_grown (g := gb246) (o := .cells #[.slice none 0 0] 27 (0, 0)) (by (with_reducible repeat (first | refine blk_drewN ?_ _ | refine blk_drew ?_ | refine blk_alloc ?_ _)); exact BK246.out) hg (Kd.R_ne HO_252000.out BK246.out (by decide))); have n4_ := Aside0.mk (blk_grown (g := gb251) (o := .cells #[.slice (some ⟨go89, 0, none⟩) x252000_2.length co87] 27 (0, 0)) (by (with_reducible repeat (first | refine blk_drewN ?_ _ | refine blk_drew ?_ | refine blk_alloc ?_ _)); exact BK251.out) hg (Kd.R_ne HO_252000.out BK251.out (by decide))); have n5_ := Aside0.mk (hb); clear HO_29; clear HO_252000; clear BK245; clear BK246; clear BK251; clear HB; have HO_29 := n0_; have HO_252000 := n1_; have BK245 := n2_; have BK246 := n3_; have BK251 := n4_; have HB := n5_; clear n0_ n1_ n2_ n3_ n4_ n5_; clear ho hb hg; have hcz90_0 : w88.cell? ⟨gb251, 0, none⟩ = some (.slice (some ⟨go89, 0, none⟩) x252000_2.length co87) := (blk_cell BK251.out 0).trans rfl; have hfz90_0 := blk_frozen BK251.out 0; have p82 : 0 ≤ ((rd x29_2 x31_2) : Int) := of_decide_eq_true (by first | (with_reducible assumption) | assumption); have q82 : ((rd x29_2 x31_2) : Int) < ((x252000_2.length : Int) : Int) := of_decide_eq_true (by first | (with_reducible assumption) | assumption); obtain ⟨hx82_0, hf82_0⟩ := Kd.R_celln 0 HO_252000.out ((rd x29_2 x31_2) : Int) p82 q82; replace p82 := eq_true p82; replace q82 := eq_true q82; obtain ⟨hy91_, hz91_⟩ := Kd.R_celln 0 HO_252000.out ((rd x29_2 x31_2) : Int) (of_decide_eq_true (by first | (with_reducible assumption) | assumption)) (of_decide_eq_true (by first | (with_reducible assumption) | assumption)); have HP91 := Kd.R_putg HO_252000.out ((rd x29_2 x31_2) : Int) (wrap64 ((wrap64 (8 * ((rd l0_0 (rd x29_2 x31_2)) / 8))) + a1))) | ((with_reducible refine gate_store (t := 3) (p := 84) rfl ?_); refine store_event (t := 3) (p := 84) (v := ?vo_w92) (w1 := (w88.setCell ⟨go89, ((rd x29_2 x31_2) : Int).toNat, none⟩ (.int .i64 (wrap64 ((wrap64 (8 * ((rd l0_0 (rd x29_2 x31_2)) / 8))) + a1))))) ?hg ?ho ?hn ?hr ?_; (case ho => rfl); (case hg => rfl); (case hn => rfl); (case hr => first | (go_simp; done) | (go_simp; rfl)); intro w92 hw; have hg : w88.grownBy w92 (some go89) := (by rw [hw]; exact HP91.2); have hp_ : Kd.R (Kd.int .i64) 3 w92 w.heap.size (fun k_ => some k_ ≠ (.slice (some ad256) x29_2.length co33 : Value).ownBlock) (.slice (some ⟨go89, 0, none⟩) x252000_2.length co87) y271 := (by rw [hw, Ny271.out]; exact HP91.1); clear HP91; have n0_ := Aside0.mk (Kd.R_after (v := (.slice (some ⟨go89, 0, none⟩) x252000_2.length co87)) (v1 := (.slice (some ⟨go89, 0, none⟩) x252000_2.length co87)) (ok := (fun _ => True)) (by (with_reducible repeat (first | apply Kd.R_alloc | apply Kd.R_drewN | apply Kd.R_drew)); exact HO_29.out) hg (.inl rfl)); have n1_ := Aside0.mk (hp_); have n2_ := Aside0.mk (blk_grown (g := gb245) (o := .cells #[.slice (some ad257) l0_0.length c0_0] 27 (0, 0)) (by (with_reducible repeat (first | refine blk_drewN ?_ _ | refine blk_drew ?_ | refine blk_alloc ?_ _)); exact BK245.out) hg (Kd.R_ne HO_252000.out BK245.out (by decide))); have n3_ := Aside0.mk (blk_grown (g := gb246) (o := .cells #[.slice none 0 0] 27 (0, 0)) (by (with_reducible repeat (first | refine blk_drewN ?_ _ | refine blk_drew ?_ | refine blk_alloc ?_ _)); exact BK246.out) hg (Kd.R_ne HO_252000.out BK246.out (by decide))); have n4_ := Aside0.mk (blk_grown (g := gb251) (o := .cells #[.slice (some ⟨go89, 0, none⟩) x252000_2.length co87] 27 (0, 0)) (by (with_reducible repeat (first | refine blk_drewN ?_ _ | refine blk_drew ?_ | refine blk_alloc ?_ _)); exact BK251.out) hg (Kd.R_ne HO_252000.out BK251.out (by decide))); have n5_ := Aside0.mk ((by rw [hw]; exact below_set (HB.out) GB89.out : Below w.heap.size w w92)); clear HO_29; clear HO_252000; clear BK245; clear BK246; clear BK251; clear HB; have HO_29 := n0_; have HO_252000 := n1_; have BK245 := n2_; have BK246 := n3_; have BK251 := n4_; have HB := n5_; clear n0_ n1_ n2_ n3_ n4_ n5_; clear hg hw hp_; have hcz93_0 : w92.cell? ⟨gb251, 0, none⟩ = some (.slice (some ⟨go89, 0, none⟩) x252000_2.length co87) := (blk_cell BK251.out 0).trans rfl; have hfz93_0 := blk_frozen BK251.out 0; have hnb94 := NB246_245.out; have hnc94 := NB245_246.out; have hcz95_0 : w92.cell? ⟨gb246, 0, none⟩ = some (.slice none 0 0) := (blk_cell BK246.out 0).trans rfl; have hfz95_0 := blk_frozen BK246.out 0))
                                          refine bodyPost_ret (results_ctt rfl _ _ gb246 27 #[.slice (some ⟨go89, 0, none⟩) x252000_2.length co87] (0, 0) _ rfl (by (with_reducible repeat (first | refine blk_drewN ?_ _ | refine blk_drew ?_ | refine blk_alloc ?_ _)); refine blk_put (cs := #[.slice none 0 0]) ?_ 0 _ rfl; (with_reducible repeat (first | refine blk_drewN ?_ _ | refine blk_drew ?_ | refine blk_alloc ?_ _)); exact BK246.out) Try.underlying27 rfl (by kernel_rfl)) rfl ?_
                                          exact ⟨_, by first | rfl | (simp [errW_none, errW_some] <;> rfl) | (simp [*, errW_none, errW_some] <;> rfl), by (with_reducible repeat (first | apply Kd.R_alloc | apply Kd.R_drewN | apply Kd.R_drew)); exact Kd.R_mono (Kd.R_far (p := ⟨gb246, 0, none⟩) (Kd.R_types HO_252000.out BK246.out (by decide)) (fun _ hk => hk.2) (.slice (some ⟨go89, 0, none⟩) x252000_2.length co87)) (fun _ hk => trivial), by repeat (first | (with_reducible first | exact HB.out | apply below_alloc | apply pw_below_drewN | apply below_drew1 | refine below_set ?_ GE245.out | refine below_set ?_ GE246.out | refine below_set ?_ GE251.out) | exact HB.out)⟩
                                        · rw [if_neg c81] at H
                                          exact absurd H (by simp)
                                      · rw [if_neg c80] at H
                                        exact absurd H (by simp)
                                    · rw [if_neg c79] at H
                                      exact absurd H (by simp)
                                  · rw [if_neg c78] at H
                                    exact absurd H (by simp)
                                · rw [if_neg c77] at H
                                  exact absurd H (by simp)
                      · rw [if_neg c38] at H
                        exact absurd H (by simp)
                    · rw [if_neg c37] at H
                      exact absurd H (by simp)
                  · rw [if_neg c36] at H
                    exact absurd H (by simp)
                · rw [if_neg c35] at H
                  exact absurd H (by simp)
              · rw [if_neg c34] at H
                have c34b0 : decide (x31_2 < (t253.length : Int)) = false := decide_eq_false c34
                (try (have c34b0h := c34b0; simp only [hl29_2] at c34b0h))
                clear c34
                simp only [Option.some.injEq, Prod.mk.injEq] at H
                obtain ⟨rfl, rfl, rfl⟩ := H
                have hnb96 := NB251_245.out
                have hnc96 := NB245_251.out
                have hnb97 := NB251_246.out
                have hnc97 := NB246_251.out
                have hcz98_0 : wr.cell? ⟨gb251, 0, none⟩ = some (u252000) := (blk_cell BK251.out 0).trans rfl
                have hfz98_0 := blk_frozen BK251.out 0
                obtain ⟨Ao99, co99, eo99⟩ := Kd.R_slice HO_252000.out
                subst eo99
                have hnb100 := NB246_245.out
                have hnc100 := NB245_246.out
                have hcz101_0 : wr.cell? ⟨gb246, 0, none⟩ = some (.slice none 0 0) := (blk_cell BK246.out 0).trans rfl
                have hfz101_0 := blk_frozen BK246.out 0
                go_wp2
                refine bodyPost_ret (results_ctt rfl _ _ gb246 27 #[.slice Ao99 x252000_2.length co99] (0, 0) _ rfl (by (with_reducible repeat (first | refine blk_drewN ?_ _ | refine blk_drew ?_ | refine blk_alloc ?_ _)); refine blk_put (cs := #[.slice none 0 0]) ?_ 0 _ rfl; (with_reducible repeat (first | refine blk_drewN ?_ _ | refine blk_drew ?_ | refine blk_alloc ?_ _)); exact BK246.out) Try.underlying27 rfl (by kernel_rfl)) rfl ?_
                exact ⟨_, by first | rfl | (simp [errW_none, errW_some] <;> rfl) | (simp [*, errW_none, errW_some] <;> rfl), by (with_reducible repeat (first | apply Kd.R_alloc | apply Kd.R_drewN | apply Kd.R_drew)); exact Kd.R_mono (Kd.R_far (p := ⟨gb246, 0, none⟩) (Kd.R_types HO_252000.out BK246.out (by decide)) (fun _ hk => hk.2) (.slice Ao99 x252000_2.length co99)) (fun _ hk => trivial), by repeat (first | (with_reducible first | exact HB.out | apply below_alloc | apply pw_below_drewN | apply below_drew1 | refine below_set ?_ GE245.out | refine below_set ?_ GE246.out | refine below_set ?_ GE251.out) | exact HB.out)⟩
  · replace c5 := Bool.eq_false_iff.mpr c5
    subst c5
    have H1 : (some (([] : List Int), 0, false)) = some (r1, r2, r3) := by rw [if_neg (show ¬ (false = true) by decide)] at H; exact H
    clear H
    have H := H1
    clear H1
    simp only [Option.some.injEq, Prod.mk.injEq] at H
    obtain ⟨rfl, rfl, rfl⟩ := H
    go_enter Try.func23, Try.ntmps23
    go_wp2_with (first | ((with_reducible refine gate_dst (N := 3) rfl ?_); refine box_event ?hg (N := 3) ?hd (cs := #[.slice A0_0 l0_0.length c0_0]) (t := 27) ?hr ?_; (case hd => rfl); (case hg => rfl); (case hr => first | (go_simp; done) | (go_simp; rfl)); intro gb245 hg w102 hbox hb; have n0_ := Aside0.mk (below_step (by repeat (first | (with_reducible first | exact HB.out | apply below_alloc | apply pw_below_drewN | apply below_drew1) | exact HB.out)) hb); have n1_ := Aside0.mk (hbox); have n2_ := Aside0.mk ((by rw [hg]; exact (below_size (by repeat (first | (with_reducible first | exact HB.out | apply below_alloc | apply pw_below_drewN | apply below_drew1) | exact HB.out))) : w.heap.size ≤ gb245)); have n3_ := Aside0.mk ((by rw [hg]; exact (below_size (by repeat (first | (with_reducible first | exact HB.out | apply below_alloc | apply pw_below_drewN | apply below_drew1) | exact HB.out))) : w.heap.size ≤ gb245)); clear HB; have HB := n0_; have BK245 := n1_; have GW245 := n2_; have GE245 := n3_; clear n0_ n1_ n2_ n3_; clear hb hbox hg) | ((with_reducible refine gate_dst (N := 6) rfl ?_); refine box_event ?hg (N := 6) ?hd (cs := #[.slice none 0 0]) (t := 27) ?hr ?_; (case hd => rfl); (case hg => rfl); (case hr => first | (go_simp; done) | (go_simp; rfl)); intro gb246 hg w103 hbox hb; have n0_ := Aside0.mk (blk_below (g := gb245) (o := .cells #[.slice A0_0 l0_0.length c0_0] 27 (0, 0)) (by (with_reducible repeat (first | refine blk_drewN ?_ _ | refine blk_drew ?_ | refine blk_alloc ?_ _)); exact BK245.out) hb); have n1_ := Aside0.mk (below_step (by repeat (first | (with_reducible first | exact HB.out | apply below_alloc | apply pw_below_drewN | apply below_drew1 | refine below_set ?_ GE245.out) | exact HB.out)) hb); have n2_ := Aside0.mk (hbox); have n3_ := Aside0.mk ((by rw [hg]; exact (below_size (by repeat (first | (with_reducible first | exact HB.out | apply below_alloc | apply pw_below_drewN | apply below_drew1 | refine below_set ?_ GE245.out) | exact HB.out))) : w.heap.size ≤ gb246)); have n4_ := Aside0.mk ((by rw [hg]; exact (below_size (by repeat (first | (with_reducible first | exact HB.out | apply below_alloc | apply pw_below_drewN | apply below_drew1 | refine below_set ?_ GE245.out) | exact HB.out))) : w.heap.size ≤ gb246)); have n5_ := Aside0.mk ((by rw [hg]; exact Nat.ne_of_lt (blk_lt (g := gb245) (o := .cells #[.slice A0_0 l0_0.length c0_0] 27 (0, 0)) (by (with_reducible repeat (first | refine blk_drewN ?_ _ | refine blk_drew ?_ | refine blk_alloc ?_ _)); exact BK245.out)) : gb245 ≠ gb246)); have n6_ := Aside0.mk ((by rw [hg]; exact Nat.ne_of_gt (blk_lt (g := gb245) (o := .cells #[.slice A0_0 l0_0.length c0_0] 27 (0, 0)) (by (with_reducible repeat (first | refine blk_drewN ?_ _ | refine blk_drew ?_ | refine blk_alloc ?_ _)); exact BK245.out)) : gb246 ≠ gb245)); clear BK245; clear HB; have BK245 := n0_; have HB := n1_; have BK246 := n2_; have GW246 := n3_; have GE246 := n4_; have NB245_246 := n5_; have NB246_245 := n6_; clear n0_ n1_ n2_ n3_ n4_ n5_ n6_; clear hb hbox hg; have hnb104 := NB245_246.out; have hnc104 := NB246_245.out; have hcz105_0 : w103.cell? ⟨gb245, 0, none⟩ = some (.slice A0_0 l0_0.length c0_0) := (blk_cell BK245.out 0).trans rfl; have hfz105_0 := blk_frozen BK245.out 0) | ((with_reducible refine gate_callee (f := 62) rfl ?_); refine goesL_ (some 15) rfl rfl Try.func62 (by kernel_rfl) rfl #[.agg #[.slice A0_0 l0_0.length c0_0]] rfl (by (try simp only [List.map_toArray, List.map_cons, List.map_nil]); first | done | rfl | (simp only [List.length_drop, List.length_take]; rfl)) ?_; (with_reducible refine (impl_SlabOk.calls k _ _ l0_0 false _ ?side1 ?side2 A4.out).mono ?_); (case side1 => repeat (first | exact (Kd.C_below HR0_0.out HB.out) | (with_reducible refine Kd.C_alloc ?_ _) | (with_reducible refine Kd.C_drewN ?_ _) | (with_reducible refine Kd.C_drew ?_))); (case side2 => exact HC0_0.out); rintro e w106 ⟨rfl, hb⟩; refine ⟨_, rfl, ?_⟩; have n0_ := Aside0.mk (blk_below (g := gb245) (o := .cells #[.slice A0_0 l0_0.length c0_0] 27 (0, 0)) (by (with_reducible repeat (first | refine blk_drewN ?_ _ | refine blk_drew ?_ | refine blk_alloc ?_ _)); exact BK245.out) hb); have n1_ := Aside0.mk (blk_below (g := gb246) (o := .cells #[.slice none 0 0] 27 (0, 0)) (by (with_reducible repeat (first | refine blk_drewN ?_ _ | refine blk_drew ?_ | refine blk_alloc ?_ _)); exact BK246.out) hb); have n2_ := Aside0.mk (below_step (by repeat (first | (with_reducible first | exact HB.out | apply below_alloc | apply pw_below_drewN | apply below_drew1 | refine below_set ?_ GE245.out | refine below_set ?_ GE246.out) | exact HB.out)) hb); clear BK245; clear BK246; clear HB; have BK245 := n0_; have BK246 := n1_; have HB := n2_; clear n0_ n1_ n2_; (try clear hb); (try clear hb2); (try clear hk); (try clear hi); have hcz107_0 : w106.cell? ⟨gb246, 0, none⟩ = some (.slice none 0 0) := (blk_cell BK246.out 0).trans rfl; have hfz107_0 := blk_frozen BK246.out 0))
    refine bodyPost_ret (results_ctt rfl _ _ gb246 27 #[.slice none 0 0] (0, 0) _ rfl (by (with_reducible repeat (first | refine blk_drewN ?_ _ | refine blk_drew ?_ | refine blk_alloc ?_ _)); refine blk_put (cs := #[.slice none 0 0]) ?_ 0 _ rfl; (with_reducible repeat (first | refine blk_drewN ?_ _ | refine blk_drew ?_ | refine blk_alloc ?_ _)); exact BK246.out) Try.underlying27 rfl (by kernel_rfl)) rfl ?_
    exact ⟨_, by first | rfl | (simp [errW_none, errW_some] <;> rfl) | (simp [*, errW_none, errW_some] <;> rfl), by first | exact Kd.R_nil _ _ _ _ _ | exact Kd.N_nil _ _ _ _ _ | exact Kd.V_nil _ _ _ _ _ | exact Kd.Q_nil _ _ _ _ _ | exact Kd.S_nil _ _ _ _ _, by repeat (first | (with_reducible first | exact HB.out | apply below_alloc | apply pw_below_drewN | apply below_drew1 | refine below_set ?_ GE245.out | refine below_set ?_ GE246.out) | exact HB.out)⟩

/-! ### laws_markIntS: function 29 -/
def laws_markIntS.l0 : Nat → List Int → Int → Int → Option (Int × List Int)
  | 0, _, _, _ => none
  | k + 1, x0, x1, x5 => if x5 < (x0.length : Int) then (if 0 ≤ x5 then (laws_markIntS.l0 k (x0.set (x5 : Int).toNat x1) (wrap64 (x1 + 1)) (wrap64 (x5 + 1))) else (none)) else (some (x1, x0))
def laws_markIntS.f (k : Nat) (l0 : List Int) (a1 : Int) : Option (Int × List Int) := laws_markIntS.l0 k l0 a1 0
theorem laws_markIntS.mono_l : ∀ k, (∀ y0 y1 y2, LeO (laws_markIntS.l0 k y0 y1 y2) (laws_markIntS.l0 (k + 1) y0 y1 y2))
  | 0 => fun _ _ _ r h => by simp [laws_markIntS.l0] at h
  | k + 1 => by
    have ih0 := laws_markIntS.mono_l k
    · intro y0 y1 y2
      unfold laws_markIntS.l0
      repeat' first
      | (with_reducible exact ih0 _ _ _)
      | (with_reducible exact LeO.refl _)
      | (with_reducible exact LeO.none _)
      | (with_reducible refine LeO.ite ?_ ?_)
      | (with_reducible refine LeO.bind ?_ (fun _ => ?_))
      | exact ih0 _ _ _
      | exact LeO.none _
      | refine LeO.ite ?_ ?_
      | refine LeO.bind ?_ (fun _ => ?_)
theorem laws_markIntS.mono : ∀ a0 a1 k, LeO (laws_markIntS.f k a0 a1) (laws_markIntS.f (k + 1) a0 a1) := by
  intro a0 a1 k
  have ih0 := laws_markIntS.mono_l k
  unfold laws_markIntS.f
  repeat' first
      | (with_reducible exact ih0 _ _ _)
      | (with_reducible exact LeO.refl _)
      | (with_reducible exact LeO.none _)
      | (with_reducible refine LeO.ite ?_ ?_)
      | (with_reducible refine LeO.bind ?_ (fun _ => ?_))
      | exact ih0 _ _ _
      | exact LeO.none _
      | refine LeO.ite ?_ ?_
      | refine LeO.bind ?_ (fun _ => ?_)
set_option maxHeartbeats 8000000 in
set_option maxRecDepth 100000 in
theorem laws_markIntS.calls (k : Nat) (P0_ : Nat → Prop) (u9000_ : Value) (l0 : List Int) (a1 : Int) (r1 : Int) (r2 : List Int) (w0 w : World) (hB : Below w0.heap.size w0 w) (ho0 : Kd.R (Kd.int .i64) 3 w w0.heap.size P0_ u9000_ l0) (h : laws_markIntS.f k l0 a1 = some (r1, r2)) :
    Calls Try.prog 29 #[u9000_, .int .i64 a1] w fun e w' => e = .returned (.int .i64 r1) ∧ Kd.R (Kd.int .i64) 3 w' w0.heap.size (fun k_ => (P0_ k_ ∨ w.heap.size ≤ k_)) u9000_ r2 ∧ Below w0.heap.size w0 w' ∧ Kept w w' (fun k_ => P0_ k_) := by
  have HO0 := Aside0.mk (show Kd.R (Kd.int .i64) 3 w w0.heap.size (fun k_ => (P0_ k_ ∨ w.heap.size ≤ k_)) u9000_ l0 from Kd.R_mono ho0 (fun k_ hk => (.inl hk)))
  have HK := Aside0.mk (Kept.refl w (fun k_ => P0_ k_))
  have HW0 := Aside0.mk hB.size
  have HB := Aside0.mk hB
  clear hB
  have H : (laws_markIntS.l0 k l0 a1 0) = some (r1, r2) := h
  clear h
  have H' := Aside0.mk H
  clear H
  go_enter Try.func29, Try.ntmps29
  go_wp2
  go_loopg [1, 5] k (fun kq v1 v5 w' => ∃ (x0_1 : List Int) (x1_1 : Int) (x5_1 : Int), v1 = .int .i64 x1_1 ∧ v5 = .int .i64 x5_1 ∧ Aside0 (laws_markIntS.l0 kq x0_1 x1_1 x5_1 = some (r1, r2)) ∧ Aside0 (kq ≤ k) ∧ Aside0 (Kd.R (Kd.int .i64) 3 w' w0.heap.size (fun k_ => (P0_ k_ ∨ w.heap.size ≤ k_)) u9000_ x0_1) ∧ Aside0 (Kept w w' (fun k_ => P0_ k_)) ∧ Aside0 (Below w0.heap.size w0 w'))
  case atStart => exact ⟨(l0), (a1), (0), (by first | rfl | (simp; done) | (simp [*]; done)), (by first | rfl | (simp; done) | (simp [*]; done)), H', ⟨Nat.le_refl _⟩, ⟨by (with_reducible repeat (first | apply Kd.R_alloc | apply Kd.R_drewN | apply Kd.R_drew)); exact HO0.out⟩, ⟨by repeat (first | (with_reducible first | exact HK.out | apply Kept.alloc | apply Kept.drewN | apply Kept.drew) | exact HK.out)⟩, ⟨by repeat (first | (with_reducible first | exact HB.out | apply below_alloc | apply pw_below_drewN | apply below_drew1) | exact HB.out)⟩⟩
  case round =>
    clear H'
    try clear c2
    try clear p2
    obtain ⟨x0_1, x1_1, x5_1, rfl, rfl, HA, HK1, HO_0, HK, HB⟩ := hrel
    cases gk with
    | zero => exact absurd HA.out (by simp [laws_markIntS.l0])
    | succ k1 =>
      have H := HA.out
      clear HA
      simp only [laws_markIntS.l0] at H
      by_cases c3 : x5_1 < (x0_1.length : Int)
      · rw [if_pos c3] at H
        have c3b0 : decide (x5_1 < (x0_1.length : Int)) = true := decide_eq_true c3
        clear c3
        by_cases c4 : 0 ≤ x5_1
        · rw [if_pos c4] at H
          have c4b0 : decide (0 ≤ x5_1) = true := decide_eq_true c4
          clear c4
          obtain ⟨y272, hy272⟩ : ∃ y_ : List Int, y_ = (x0_1.set (x5_1 : Int).toNat x1_1) := ⟨_, rfl⟩
          replace H : (laws_markIntS.l0 k1 y272 (wrap64 (x1_1 + 1)) (wrap64 (x5_1 + 1))) = some (r1, r2) := by first | (rw [hy272]; with_reducible exact H) | (have H2_ := (Option.bind_some _ _).symm.trans H; rw [hy272]; with_reducible exact H2_) | (have H2_ := (Option.bind_some _ _).symm.trans H; with_reducible exact H2_) | with_reducible exact H | (rw [hy272]; exact H) | exact H
          have Ny272 := Aside0.mk hy272
          clear hy272
          have H' := Aside0.mk H
          clear H
          obtain ⟨Ao6, co6, eo6⟩ := Kd.R_slice HO_0.out
          subst eo6
          have p5 : 0 ≤ (x5_1 : Int) := of_decide_eq_true (by first | (with_reducible assumption) | assumption)
          have q5 : (x5_1 : Int) < ((x0_1.length : Int) : Int) := of_decide_eq_true (by first | (with_reducible assumption) | assumption)
          obtain ⟨go5, co5, eo5, gb5, gl5, cl5, HG5⟩ := Kd.R_form HO_0.out (by omega)
          (first | cases eo5 | (injection eo5 with ea_ en_ ec_; (first | subst ea_ | (injection ea_ with ea_; subst ea_)); subst ec_; clear en_))
          have GB5 := Aside0.mk gb5
          have GG5 := Aside0.mk HG5
          clear gb5 gl5 HG5
          have HMgo5 := Aside0.mk (show (P0_ go5 ∨ w.heap.size ≤ go5) from (HO_0.out.1 _ rfl))
          obtain ⟨hx5_0, hf5_0⟩ := Kd.R_celln 0 HO_0.out (x5_1 : Int) p5 q5
          replace p5 := eq_true p5
          replace q5 := eq_true q5
          have HP7 := Kd.R_putg HO_0.out (x5_1 : Int) x1_1
          go_wp2_with (first | ((with_reducible refine gate_store (t := 3) (p := 15) rfl ?_); refine store_event (t := 3) (p := 15) (v := ?vo_w8) (w1 := (wr.setCell ⟨go5, (x5_1 : Int).toNat, none⟩ (.int .i64 x1_1))) ?hg ?ho ?hn ?hr ?_; (case ho => rfl); (case hg => rfl); (case hn => rfl); (case hr => first | (go_simp; done) | (go_simp; rfl)); intro w8 hw; have hg : wr.grownBy w8 (some go5) := (by rw [hw]; exact HP7.2); have hp_ : Kd.R (Kd.int .i64) 3 w8 w0.heap.size (fun k_ => (P0_ k_ ∨ w.heap.size ≤ k_)) (.slice (some ⟨go5, 0, none⟩) x0_1.length co6) y272 := (by rw [hw, Ny272.out]; exact HP7.1); clear HP7; have n0_ := Aside0.mk (hp_); have n1_ := Aside0.mk ((by rw [hw]; exact below_set (HB.out) GB5.out : Below w0.heap.size w0 w8)); have n2_ := Aside0.mk (Kept.of_grown (S := (fun k_ => P0_ k_)) hg (by repeat (first | (with_reducible first | exact HK.out | apply Kept.alloc | apply Kept.drewN | apply Kept.drew) | exact HK.out)) (fun k_ e_ => (HO_0.out.1 k_ e_))); clear HO_0; clear HB; clear HK; have HO_0 := n0_; have HB := n1_; have HK := n2_; clear n0_ n1_ n2_; clear hg hw hp_))
          go_roundg k1
          case measure => have := HK1.out; omega
          case rel => exact ⟨(y272), (wrap64 (x1_1 + 1)), (wrap64 (x5_1 + 1)), (by first | rfl | (simp; done) | (simp [*]; done)), (by first | rfl | (simp; done) | (simp [*]; done)), H', ⟨by have := HK1.out; omega⟩, ⟨by (with_reducible repeat (first | apply Kd.R_alloc | apply Kd.R_drewN | apply Kd.R_drew)); exact HO_0.out⟩, ⟨by repeat (first | (with_reducible first | exact HK.out | apply Kept.alloc | apply Kept.drewN | apply Kept.drew) | exact HK.out)⟩, ⟨by repeat (first | (with_reducible first | exact HB.out | apply below_alloc | apply pw_below_drewN | apply below_drew1) | exact HB.out)⟩⟩
        · rw [if_neg c4] at H
          exact absurd H (by simp)
      · rw [if_neg c3] at H
        have c3b0 : decide (x5_1 < (x0_1.length : Int)) = false := decide_eq_false c3
        clear c3
        simp only [Option.some.injEq, Prod.mk.injEq] at H
        obtain ⟨rfl, rfl⟩ := H
        obtain ⟨Ao9, co9, eo9⟩ := Kd.R_slice HO_0.out
        subst eo9
        go_wp2
        go_ret
        exact ⟨by first | rfl | (simp [errW_none, errW_some] <;> rfl) | (simp [*, errW_none, errW_some] <;> rfl), by (with_reducible repeat (first | apply Kd.R_alloc | apply Kd.R_drewN | apply Kd.R_drew)); exact HO_0.out, by repeat (first | (with_reducible first | exact HB.out | apply below_alloc | apply pw_below_drewN | apply below_drew1) | exact HB.out), by repeat (first | (with_reducible first | exact HK.out | apply Kept.alloc | apply Kept.drewN | apply Kept.drew) | exact HK.out)⟩

/-! ### laws_markSlab: function 24 -/
def laws_markSlab.f (k : Nat) (l0_0 : List Int) (a1 : Int) : Option (Int × List Int) := (laws_markIntS.f k l0_0 a1).bind fun bt274 => (some (bt274.1, bt274.2))
theorem laws_markSlab.mono : ∀ a0 a1 k, LeO (laws_markSlab.f k a0 a1) (laws_markSlab.f (k + 1) a0 a1) := by
  intro a0 a1 k
  unfold laws_markSlab.f
  repeat' first
      | (with_reducible exact laws_markIntS.mono _ _ _)
      | (with_reducible exact LeO.refl _)
      | (with_reducible exact LeO.none _)
      | (with_reducible refine LeO.ite ?_ ?_)
      | (with_reducible refine LeO.bind ?_ (fun _ => ?_))
      | exact laws_markIntS.mono _ _ _
      | exact LeO.none _
      | refine LeO.ite ?_ ?_
      | refine LeO.bind ?_ (fun _ => ?_)
set_option maxHeartbeats 8000000 in
set_option maxRecDepth 100000 in
theorem laws_markSlab.calls (k : Nat) (P0_0_ : Nat → Prop) (u9000_ : Value) (l0_0 : List Int) (a1 : Int) (r1 : Int) (r2 : List Int) (w0 w : World) (hB : Below w0.heap.size w0 w) (ho0_0 : Kd.R (Kd.int .i64) 3 w w0.heap.size P0_0_ u9000_ l0_0) (h : laws_markSlab.f k l0_0 a1 = some (r1, r2)) :
    Calls Try.prog 24 #[.agg #[u9000_], .int .i64 a1] w fun e w' => e = .returned (.int .i64 r1) ∧ Kd.R (Kd.int .i64) 3 w' w0.heap.size (fun k_ => (P0_0_ k_ ∨ w.heap.size ≤ k_)) u9000_ r2 ∧ Below w0.heap.size w0 w' ∧ Kept w w' (fun k_ => P0_0_ k_) := by
  have hu27 := Try.underlying27
  have HO0_0 := Aside0.mk (show Kd.R (Kd.int .i64) 3 w w0.heap.size (fun k_ => (P0_0_ k_ ∨ w.heap.size ≤ k_)) u9000_ l0_0 from Kd.R_mono ho0_0 (fun k_ hk => (.inl hk)))
  have HK := Aside0.mk (Kept.refl w (fun k_ => P0_0_ k_))
  have HW0 := Aside0.mk hB.size
  have HB := Aside0.mk hB
  clear hB
  have H : ((laws_markIntS.f k l0_0 a1).bind fun bt274 => (some (bt274.1, bt274.2))) = some (r1, r2) := h
  clear h
  replace H := Option.bind_eq_some_iff.mp H
  obtain ⟨⟨t274, t275⟩, A30, H⟩ := H
  replace H : (some (t274, t275)) = some (r1, r2) := H
  have A3 := Aside0.mk A30
  clear A30
  simp only [Option.some.injEq, Prod.mk.injEq] at H
  obtain ⟨rfl, rfl⟩ := H
  obtain ⟨Ao4, co4, eo4⟩ := Kd.R_slice HO0_0.out
  subst eo4
  go_enter Try.func24, Try.ntmps24
  go_wp2_with (first | ((with_reducible refine gate_dst (N := 2) rfl ?_); refine box_event ?hg (N := 2) ?hd (cs := #[.slice Ao4 l0_0.length co4]) (t := 27) ?hr ?_; (case hd => rfl); (case hg => rfl); (case hr => first | (go_simp; done) | (go_simp; rfl)); intro gb273 hg w5 hbox hb; have n0_ := Aside0.mk (Kd.R_below (by (with_reducible repeat (first | apply Kd.R_alloc | apply Kd.R_drewN | apply Kd.R_drew)); exact HO0_0.out) hb); have n1_ := Aside0.mk (Kept.below (S := (fun k_ => P0_0_ k_)) (by repeat (first | (with_reducible first | exact HK.out | apply Kept.alloc | apply Kept.drewN | apply Kept.drew) | exact HK.out)) hb); have n2_ := Aside0.mk (below_step (by repeat (first | (with_reducible first | exact HB.out | apply below_alloc | apply pw_below_drewN | apply below_drew1) | exact HB.out)) hb); have n3_ := Aside0.mk (hbox); have n4_ := Aside0.mk ((by rw [hg]; exact (by first | exact HK.out.1 | exact (show Kept w _ (fun k_ => P0_0_ k_) from by repeat (first | (with_reducible first | exact HK.out | apply Kept.alloc | apply Kept.drewN | apply Kept.drew) | exact HK.out)).1) : w.heap.size ≤ gb273)); have n5_ := Aside0.mk ((by rw [hg]; exact (below_size (by repeat (first | (with_reducible first | exact HB.out | apply below_alloc | apply pw_below_drewN | apply below_drew1) | exact HB.out))) : w0.heap.size ≤ gb273)); clear HO0_0; clear HK; clear HB; have HO0_0 := n0_; have HK := n1_; have HB := n2_; have BK273 := n3_; have GW273 := n4_; have GE273 := n5_; clear n0_ n1_ n2_ n3_ n4_ n5_; clear hb hbox hg; have hcz6_0 : w5.cell? ⟨gb273, 0, none⟩ = some (.slice Ao4 l0_0.length co4) := (blk_cell BK273.out 0).trans rfl; have hfz6_0 := blk_frozen BK273.out 0) | ((with_reducible refine gate_callee (f := 29) rfl ?_); refine goesL_ (some 8) rfl rfl Try.func29 (by kernel_rfl) rfl #[.slice Ao4 l0_0.length co4, .int .i64 a1] rfl (by (try simp only [List.map_toArray, List.map_cons, List.map_nil]); first | done | rfl | (simp only [List.length_drop, List.length_take]; rfl)) ?_; (with_reducible refine (laws_markIntS.calls k (fun k_ => some k_ = (.slice Ao4 l0_0.length co4 : Value).ownBlock) (.slice Ao4 l0_0.length co4) l0_0 a1 t274 t275 w0 _ ?side1 ?side2 A3.out).mono ?_); (case side1 => repeat (first | (with_reducible first | exact HB.out | apply below_alloc | apply pw_below_drewN | apply below_drew1 | refine below_set ?_ GE273.out) | exact HB.out)); (case side2 => exact Kd.R_tight rfl HO0_0.out); rintro e w7 ⟨rfl, hy0, hb, hkp⟩; refine ⟨_, rfl, ?_⟩; have n0_ := Aside0.mk (Kd.R_reok rfl hy0 (fun k_ e_ => HO0_0.out.1 k_ e_)); have n1_ := Aside0.mk (blk_kept (by (with_reducible repeat (first | refine blk_drewN ?_ _ | refine blk_drew ?_ | refine blk_alloc ?_ _)); exact BK273.out) hkp (fun hs_ => (fun e_ => (Kd.R_ne HO0_0.out BK273.out (by decide)) e_) hs_)); have n2_ := Aside0.mk (Kept.then_ (S := (fun k_ => P0_0_ k_)) (by repeat (first | (with_reducible first | exact HK.out | apply Kept.alloc | apply Kept.drewN | apply Kept.drew | refine Kept.setCell ?_ (.inr GW273.out) _) | exact HK.out)) hkp (fun k_ hs_ => (fun e_ => (HO0_0.out.1 k_ e_.symm)) hs_)); have n3_ := Aside0.mk (hb); clear HO0_0; clear BK273; clear HK; clear HB; have HO0_0 := n0_; have BK273 := n1_; have HK := n2_; have HB := n3_; clear n0_ n1_ n2_ n3_; (try clear hb); (try clear hkp); (try clear hy0)))
  go_ret
  exact ⟨by first | rfl | (simp [errW_none, errW_some] <;> rfl) | (simp [*, errW_none, errW_some] <;> rfl), by (with_reducible repeat (first | apply Kd.R_alloc | apply Kd.R_drewN | apply Kd.R_drew)); exact HO0_0.out, by repeat (first | (with_reducible first | exact HB.out | apply below_alloc | apply pw_below_drewN | apply below_drew1 | refine below_set ?_ GE273.out) | exact HB.out), by repeat (first | (with_reducible first | exact HK.out | apply Kept.alloc | apply Kept.drewN | apply Kept.drew | refine Kept.setCell ?_ (.inr GW273.out) _) | exact HK.out)⟩

/-! ### laws_heldIntS: function 30 -/
def laws_heldIntS.l0 : Nat → List Int → Int → Int → Option (Int)
  | 0, _, _, _ => none
  | k + 1, x0, x1, x5 => if x5 < (x0.length : Int) then (if 0 ≤ x5 then (if (rd x0 x5) = x1 then (laws_heldIntS.l0 k x0 (wrap64 (x1 + 1)) (wrap64 (x5 + 1))) else (some (-1))) else (none)) else (some x1)
def laws_heldIntS.f (k : Nat) (l0 : List Int) (a1 : Int) : Option (Int) := laws_heldIntS.l0 k l0 a1 0
theorem laws_heldIntS.mono_l : ∀ k, (∀ y0 y1 y2, LeO (laws_heldIntS.l0 k y0 y1 y2) (laws_heldIntS.l0 (k + 1) y0 y1 y2))
  | 0 => fun _ _ _ r h => by simp [laws_heldIntS.l0] at h
  | k + 1 => by
    have ih0 := laws_heldIntS.mono_l k
    · intro y0 y1 y2
      unfold laws_heldIntS.l0
      repeat' first
      | (with_reducible exact ih0 _ _ _)
      | (with_reducible exact LeO.refl _)
      | (with_reducible exact LeO.none _)
      | (with_reducible refine LeO.ite ?_ ?_)
      | (with_reducible refine LeO.bind ?_ (fun _ => ?_))
      | exact ih0 _ _ _
      | exact LeO.none _
      | refine LeO.ite ?_ ?_
      | refine LeO.bind ?_ (fun _ => ?_)
theorem laws_heldIntS.mono : ∀ a0 a1 k, LeO (laws_heldIntS.f k a0 a1) (laws_heldIntS.f (k + 1) a0 a1) := by
  intro a0 a1 k
  have ih0 := laws_heldIntS.mono_l k
  unfold laws_heldIntS.f
  repeat' first
      | (with_reducible exact ih0 _ _ _)
      | (with_reducible exact LeO.refl _)
      | (with_reducible exact LeO.none _)
      | (with_reducible refine LeO.ite ?_ ?_)
      | (with_reducible refine LeO.bind ?_ (fun _ => ?_))
      | exact ih0 _ _ _
      | exact LeO.none _
      | refine LeO.ite ?_ ?_
      | refine LeO.bind ?_ (fun _ => ?_)
set_option maxHeartbeats 8000000 in
set_option maxRecDepth 100000 in
theorem laws_heldIntS.calls (k : Nat) (A0 : Option Addr) (c0 : Nat) (l0 : List Int) (a1 : Int) (r : Int) (w : World) (hr0 : Kd.C (Kd.int .i64) w A0 l0.length l0) (hc0 : l0.length ≤ c0) (h : laws_heldIntS.f k l0 a1 = some r) :
    Calls Try.prog 30 #[.slice A0 l0.length c0, .int .i64 a1] w fun e w' => e = .returned (.int .i64 r) ∧ Drawn0 w w' := by
  have HR0 := Aside0.mk hr0
  have HC0 := Aside0.mk hc0
  clear hr0 hc0
  have H : (laws_heldIntS.l0 k l0 a1 0) = some r := h
  clear h
  have H' := Aside0.mk H
  clear H
  go_enter Try.func30, Try.ntmps30
  go_wp2
  go_loopg [1, 5] k (fun kq v1 v5 w' => ∃ (x1_1 : Int) (x5_1 : Int), v1 = .int .i64 x1_1 ∧ v5 = .int .i64 x5_1 ∧ Aside0 (laws_heldIntS.l0 kq l0 x1_1 x5_1 = some r) ∧ Aside0 (kq ≤ k) ∧ Drawn0 w w')
  case atStart => exact ⟨(a1), (0), (by first | rfl | (simp; done) | (simp [*]; done)), (by first | rfl | (simp; done) | (simp [*]; done)), H', ⟨Nat.le_refl _⟩, by repeat (first | exact Drawn0.refl _ | apply Drawn0.step)⟩
  case round =>
    clear H'
    try clear p2
    obtain ⟨x1_1, x5_1, rfl, rfl, HA, HK1, ⟨m1, rfl⟩⟩ := hrel
    cases gk with
    | zero => exact absurd HA.out (by simp [laws_heldIntS.l0])
    | succ k1 =>
      have H := HA.out
      clear HA
      simp only [laws_heldIntS.l0] at H
      by_cases c3 : x5_1 < (l0.length : Int)
      · rw [if_pos c3] at H
        have c3b0 : decide (x5_1 < (l0.length : Int)) = true := decide_eq_true c3
        clear c3
        by_cases c4 : 0 ≤ x5_1
        · rw [if_pos c4] at H
          have c4b0 : decide (0 ≤ x5_1) = true := decide_eq_true c4
          clear c4
          by_cases c5 : (rd l0 x5_1) = x1_1
          · rw [if_pos c5] at H
            have c5b0 : ((rd l0 x5_1) == x1_1) = true := beq_iff_eq.mpr c5
            have c5b1 : ((rd l0 x5_1) != x1_1) = false := bne_eq_false_iff_eq.mpr c5
            clear c5
            have H' := Aside0.mk H
            clear H
            have p276 : 0 ≤ (x5_1 : Int) := of_decide_eq_true (by first | (with_reducible assumption) | assumption)
            have q276 : x5_1 < (l0.length : Int) := of_decide_eq_true (by first | (with_reducible assumption) | assumption)
            obtain ⟨ad276, e276, hx276_0⟩ := Kd.at_int HR0.out x5_1 p276 q276
            cases e276
            replace p276 := eq_true p276
            replace q276 := eq_true q276
            go_wp2
            go_roundg k1
            case measure => have := HK1.out; omega
            case rel => exact ⟨(wrap64 (x1_1 + 1)), (wrap64 (x5_1 + 1)), (by first | rfl | (simp; done) | (simp [*]; done)), (by first | rfl | (simp; done) | (simp [*]; done)), H', ⟨by have := HK1.out; omega⟩, by repeat (first | exact Drawn0.refl _ | apply Drawn0.step)⟩
          · rw [if_neg c5] at H
            have c5b0 : ((rd l0 x5_1) == x1_1) = false := beq_eq_false_iff_ne.mpr c5
            have c5b1 : ((rd l0 x5_1) != x1_1) = true := bne_iff_ne.mpr c5
            obtain rfl := Option.some.inj H
            have p276 : 0 ≤ (x5_1 : Int) := of_decide_eq_true (by first | (with_reducible assumption) | assumption)
            have q276 : x5_1 < (l0.length : Int) := of_decide_eq_true (by first | (with_reducible assumption) | assumption)
            obtain ⟨ad276, e276, hx276_0⟩ := Kd.at_int HR0.out x5_1 p276 q276
            cases e276
            replace p276 := eq_true p276
            replace q276 := eq_true q276
            go_wp2
            go_ret
            exact ⟨by first | rfl | (simp; done) | (simp [*]; done), by repeat (first | exact Drawn0.refl _ | apply Drawn0.step)⟩
        · rw [if_neg c4] at H
          exact absurd H (by simp)
      · rw [if_neg c3] at H
        have c3b0 : decide (x5_1 < (l0.length : Int)) = false := decide_eq_false c3
        clear c3
        obtain rfl := Option.some.inj H
        go_wp2
        go_ret
        exact ⟨by first | rfl | (simp; done) | (simp [*]; done), by repeat (first | exact Drawn0.refl _ | apply Drawn0.step)⟩

/-! ### laws_heldSlab: function 25 -/
def laws_heldSlab.f (k : Nat) (l0_0 : List Int) (a1 : Int) : Option (Int) := (laws_heldIntS.f k l0_0 a1).bind fun t278 => (if t278 < 0 then (some (-1)) else (some t278))
theorem laws_heldSlab.mono : ∀ a0 a1 k, LeO (laws_heldSlab.f k a0 a1) (laws_heldSlab.f (k + 1) a0 a1) := by
  intro a0 a1 k
  unfold laws_heldSlab.f
  repeat' first
      | (with_reducible exact laws_heldIntS.mono _ _ _)
      | (with_reducible exact LeO.refl _)
      | (with_reducible exact LeO.none _)
      | (with_reducible refine LeO.ite ?_ ?_)
      | (with_reducible refine LeO.bind ?_ (fun _ => ?_))
      | exact laws_heldIntS.mono _ _ _
      | exact LeO.none _
      | refine LeO.ite ?_ ?_
      | refine LeO.bind ?_ (fun _ => ?_)
set_option maxHeartbeats 8000000 in
set_option maxRecDepth 100000 in
theorem laws_heldSlab.calls (k : Nat) (A0_0 : Option Addr) (c0_0 : Nat) (l0_0 : List Int) (a1 : Int) (r : Int) (w : World) (hr0_0 : Kd.C (Kd.int .i64) w A0_0 l0_0.length l0_0) (hc0_0 : l0_0.length ≤ c0_0) (h : laws_heldSlab.f k l0_0 a1 = some r) :
    Calls Try.prog 25 #[.agg #[.slice A0_0 l0_0.length c0_0], .int .i64 a1] w fun e w' => e = .returned (.int .i64 r) ∧ Below w.heap.size w w' := by
  have hu27 := Try.underlying27
  have HR0_0 := Aside0.mk hr0_0
  have HC0_0 := Aside0.mk hc0_0
  clear hr0_0 hc0_0
  have HB := Aside0.mk (Below.refl w.heap.size w)
  have H : ((laws_heldIntS.f k l0_0 a1).bind fun t278 => (if t278 < 0 then (some (-1)) else (some t278))) = some r := h
  clear h
  replace H := Option.bind_eq_some_iff.mp H
  obtain ⟨t278, A30, H⟩ := H
  replace H : (if t278 < 0 then (some (-1)) else (some t278)) = some r := H
  have A3 := Aside0.mk A30
  clear A30
  by_cases c4 : t278 < 0
  · rw [if_pos c4] at H
    have c4b0 : decide (t278 < 0) = true := decide_eq_true c4
    clear c4
    obtain rfl := Option.some.inj H
    go_enter Try.func25, Try.ntmps25
    go_wp2_with (first | ((with_reducible refine gate_dst (N := 2) rfl ?_); refine box_event ?hg (N := 2) ?hd (cs := #[.slice A0_0 l0_0.length c0_0]) (t := 27) ?hr ?_; (case hd => rfl); (case hg => rfl); (case hr => first | (go_simp; done) | (go_simp; rfl)); intro gb277 hg w5 hbox hb; have n0_ := Aside0.mk (below_step (by repeat (first | (with_reducible first | exact HB.out | apply below_alloc | apply pw_below_drewN | apply below_drew1) | exact HB.out)) hb); have n1_ := Aside0.mk (hbox); have n2_ := Aside0.mk ((by rw [hg]; exact (below_size (by repeat (first | (with_reducible first | exact HB.out | apply below_alloc | apply pw_below_drewN | apply below_drew1) | exact HB.out))) : w.heap.size ≤ gb277)); have n3_ := Aside0.mk ((by rw [hg]; exact (below_size (by repeat (first | (with_reducible first | exact HB.out | apply below_alloc | apply pw_below_drewN | apply below_drew1) | exact HB.out))) : w.heap.size ≤ gb277)); clear HB; have HB := n0_; have BK277 := n1_; have GW277 := n2_; have GE277 := n3_; clear n0_ n1_ n2_ n3_; clear hb hbox hg; have hcz6_0 : w5.cell? ⟨gb277, 0, none⟩ = some (.slice A0_0 l0_0.length c0_0) := (blk_cell BK277.out 0).trans rfl; have hfz6_0 := blk_frozen BK277.out 0) | ((with_reducible refine gate_callee (f := 30) rfl ?_); refine goesL_ (some 8) rfl rfl Try.func30 (by kernel_rfl) rfl #[.slice A0_0 l0_0.length c0_0, .int .i64 a1] rfl (by (try simp only [List.map_toArray, List.map_cons, List.map_nil]); first | done | rfl | (simp only [List.length_drop, List.length_take]; rfl)) ?_; (with_reducible refine (laws_heldIntS.calls k _ _ l0_0 a1 t278 _ ?side1 ?side2 A3.out).mono ?_); (case side1 => repeat (first | exact (Kd.C_below HR0_0.out HB.out) | (with_reducible refine Kd.C_alloc ?_ _) | (with_reducible refine Kd.C_drewN ?_ _) | (with_reducible refine Kd.C_drew ?_))); (case side2 => exact HC0_0.out); rintro e w' ⟨rfl, ⟨nd, rfl⟩⟩; refine ⟨_, rfl, ?_⟩))
    go_ret
    exact ⟨by first | rfl | (simp [errW_none, errW_some] <;> rfl) | (simp [*, errW_none, errW_some] <;> rfl), by repeat (first | (with_reducible first | exact HB.out | apply below_alloc | apply pw_below_drewN | apply below_drew1 | refine below_set ?_ GE277.out) | exact HB.out)⟩
  · rw [if_neg c4] at H
    have c4b0 : decide (t278 < 0) = false := decide_eq_false c4
    clear c4
    obtain rfl := Option.some.inj H
    go_enter Try.func25, Try.ntmps25
    go_wp2_with (first | ((with_reducible refine gate_dst (N := 2) rfl ?_); refine box_event ?hg (N := 2) ?hd (cs := #[.slice A0_0 l0_0.length c0_0]) (t := 27) ?hr ?_; (case hd => rfl); (case hg => rfl); (case hr => first | (go_simp; done) | (go_simp; rfl)); intro gb277 hg w7 hbox hb; have n0_ := Aside0.mk (below_step (by repeat (first | (with_reducible first | exact HB.out | apply below_alloc | apply pw_below_drewN | apply below_drew1) | exact HB.out)) hb); have n1_ := Aside0.mk (hbox); have n2_ := Aside0.mk ((by rw [hg]; exact (below_size (by repeat (first | (with_reducible first | exact HB.out | apply below_alloc | apply pw_below_drewN | apply below_drew1) | exact HB.out))) : w.heap.size ≤ gb277)); have n3_ := Aside0.mk ((by rw [hg]; exact (below_size (by repeat (first | (with_reducible first | exact HB.out | apply below_alloc | apply pw_below_drewN | apply below_drew1) | exact HB.out))) : w.heap.size ≤ gb277)); clear HB; have HB := n0_; have BK277 := n1_; have GW277 := n2_; have GE277 := n3_; clear n0_ n1_ n2_ n3_; clear hb hbox hg; have hcz8_0 : w7.cell? ⟨gb277, 0, none⟩ = some (.slice A0_0 l0_0.length c0_0) := (blk_cell BK277.out 0).trans rfl; have hfz8_0 := blk_frozen BK277.out 0) | ((with_reducible refine gate_callee (f := 30) rfl ?_); refine goesL_ (some 8) rfl rfl Try.func30 (by kernel_rfl) rfl #[.slice A0_0 l0_0.length c0_0, .int .i64 a1] rfl (by (try simp only [List.map_toArray, List.map_cons, List.map_nil]); first | done | rfl | (simp only [List.length_drop, List.length_take]; rfl)) ?_; (with_reducible refine (laws_heldIntS.calls k _ _ l0_0 a1 t278 _ ?side1 ?side2 A3.out).mono ?_); (case side1 => repeat (first | exact (Kd.C_below HR0_0.out HB.out) | (with_reducible refine Kd.C_alloc ?_ _) | (with_reducible refine Kd.C_drewN ?_ _) | (with_reducible refine Kd.C_drew ?_))); (case side2 => exact HC0_0.out); rintro e w' ⟨rfl, ⟨nd, rfl⟩⟩; refine ⟨_, rfl, ?_⟩))
    go_ret
    exact ⟨by first | rfl | (simp [errW_none, errW_some] <;> rfl) | (simp [*, errW_none, errW_some] <;> rfl), by repeat (first | (with_reducible first | exact HB.out | apply below_alloc | apply pw_below_drewN | apply below_drew1 | refine below_set ?_ GE277.out) | exact HB.out)⟩

end Go.Proofs.Ytnjlodjehneonaa.F
