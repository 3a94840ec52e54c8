/- From a law's arguments to a store of rows that are only read, and back to the world. -/
import Derived.Test.YtmphklmhhcmbnaaDoorXB
import Derived.Lib.SmallJoins
import Derived.OpenShut
import Derived.ShutString
import Derived.SizedLaws
namespace Go.Proofs.YtmphklmhhcmbnaaDoorW.Ax
open Go Go.RowKit Go.ChangeShapes Go.WideShapes Go.ChangeAt Go.Joins Go.Deep
set_option linter.unusedVariables false

theorem array1 {α : Type} {cs : Array α} (h : cs.size = 1) : ∃ c0, cs = #[c0] := by
  obtain ⟨l⟩ := cs
  match l, h with
  | [c0], _ => exact ⟨c0, rfl⟩

section
variable {P : Program} {w : World} {H : Type} {enc : TypeId × Value → H} {base : Nat} {spare : Nat → Bool} {held : Bool}
theorem open_agg1 {r : Reach} {b0 : Nat} {t : TypeId} {f0 : Field} {v : Value} {d : DataW H} {p : List MemPlace} (hs : P.underlying t = some (.struct #[f0])) (hone : oneCellFields P #[f0] = true) (hC : P.cellsOf t = 1)
    (hv : Value.okWide P w r b0 t v) (h : DataW.Trod enc P w base spare held t v d p) :
    ∃ (v0 : Value) (y0 : DataW H × List MemPlace) (n : Nat), v = .agg #[v0] ∧ d = .agg [y0.1] ∧ p = y0.2 ∧ DataW.trod enc P w base spare held n f0.type [v0] = some y0 := by
  obtain ⟨cs, rfl, hsz⟩ := okWide_struct hs hv
  obtain ⟨c0, rfl⟩ := array1 (hsz.trans hC)
  obtain ⟨fuel, hf⟩ := h
  obtain ⟨y0, n, hx, _, h0⟩ := trod_struct1 hs hf
  obtain ⟨o0, k0⟩ := hone_of hone 0 f0 rfl
  simp only [Prod.mk.injEq] at hx
  exact ⟨c0, y0, n, rfl, hx.1, hx.2, by simpa [Value.cells, o0, k0] using h0⟩
end

/-- A slice of whole numbers that came in: the row of a store that stands for it. -/
structure Came (w : World) (v : Value) (b : Bool) (L : Loc) (o : Ob) (l : List Int) : Prop where
  own : o.own = false
  obr : ∀ n μ, ObR n μ w L o
  vr : ∀ n μ (i : Nat), i < n → μ i = L → VR n μ (.sl (cond b (some i) none) 0 l.length) v
  at_ : ∀ st (i : Nat), i < st.n → st.ob i = o → At st (cond b (some i) none) 0 l
  w64 : W64 l
  len : l.length ≤ 9223372036854775807

section
variable {P : Program} {w : World} {H : Type} {enc : TypeId × Value → H}
theorem w1_of {x : Int} (h : (Lit.int .i64 x).wf = true) : W1 x := by
  have h : (decide (IntKind.i64.min ≤ x) && decide (x ≤ IntKind.i64.max)) = true := h
  rw [show IntKind.i64.min = -9223372036854775808 by rfl, show IntKind.i64.max = 9223372036854775807 by rfl, Bool.and_eq_true, decide_eq_true_eq, decide_eq_true_eq] at h
  exact h
theorem came_of_trod {t e : TypeId} {n : Nat} {v : Value} {y : DataW H × List MemPlace} (ht : P.underlying t = some (.slice e)) (he : P.underlying e = some (.int .i64)) (hc : P.cellsOf e = 1)
    (h : DataW.trod enc P w 0 (fun _ => true) true n t [v] = some y) : ∃ b L o l, Came w v b L o l := by
  rcases open_ints ht he hc h with ⟨hcs, _⟩ | ⟨a, len, cap, zs, hcs, _, hl, hm, hz, _, hcell, hwz⟩
  · injection hcs with hcs _
    subst hcs
    exact ⟨false, ⟨0, 0, 0⟩, .dead, [], rfl, fun _ _ => trivial, fun _ _ _ _ _ => ⟨rfl, rfl, none, rfl⟩, fun _ _ _ _ => At.nil _ _ _, fun x hx => by simp at hx, by simp⟩
  · injection hcs with hcs _
    subst hcs
    have hzl : zs.length = cap := by simpa using hz
    have hlen : (zs.take len).length = len := by simp; omega
    have hw : W64 (zs.take len) := fun x hx => w1_of (hwz x (List.mem_of_mem_take hx))
    have hmm : (zs.take len).length ≤ 9223372036854775807 := by rw [hlen]; simp [maxLen] at hm; omega
    rcases Nat.eq_zero_or_pos cap with hcz | hcz
    · have hnil : zs.take len = [] := List.eq_nil_of_length_eq_zero (by omega)
      have hl0 : len = 0 := by omega
      subst hl0
      refine ⟨true, ⟨a.block, a.off, a.off + cap⟩, .dead, zs.take 0, rfl, fun _ _ => trivial, fun n μ i hi hL => ?_, fun st i hi ho => At.nil _ _ _, hw, hmm⟩
      exact ⟨hi, a, cap, rfl, by omega, .inl hcz⟩
    · obtain ⟨ab, ao, asp⟩ := a
      have hsp : asp = none := by
        have := hcell 0 (by omega)
        simp only [World.cell?, Addr.add, if_true] at this
        cases asp with
        | none => rfl
        | some s => simp at this; split at this <;> cases this
      subst hsp
      have key : ∀ i, i < cap → ∃ cs E fz, w.heap[ab]? = some (.cells cs E fz) ∧ cs[ao + i]? = some (.int .i64 (zs.getD i 0)) := fun i hi => by
        have := hcell i (by omega)
        rw [show (⟨ab, ao, none⟩ : Addr).add i = ⟨ab, ao + i, none⟩ by unfold Addr.add; split <;> simp_all] at this
        simp only [World.cell?] at this
        split at this
        · rename_i cs E fz hh
          exact ⟨cs, E, fz, hh, by simpa using this⟩
        · cases this
      obtain ⟨cs, E, fz, hh, h1⟩ := key (cap - 1) (by omega)
      have hsz := (Array.getElem?_eq_some_iff.1 h1).1
      refine ⟨true, ⟨ab, ao, ao + cap⟩, .row false ((zs.take len).map I), zs.take len, rfl, fun n μ => ⟨cs, E, fz, hh, fun h => by simp at h, by rw [List.length_map, hlen]; dsimp only; omega, by dsimp only; omega, fun j hj => ?_⟩, fun n μ i hi hL => ?_, fun st i hi ho => at_row hi ho, hw, hmm⟩
      · rw [List.length_map, hlen] at hj
        obtain ⟨cs', E', fz', hh', h2⟩ := key j (by omega)
        rw [hh] at hh'
        injection hh' with hh'
        injection hh' with e1 e2 e3
        subst e1
        have e4 : ((zs.take len).map I).getD j .junk = I (zs.getD j 0) := by
          simp [List.getD, hj, List.getElem?_eq_getElem (show j < zs.length by omega)]
        rw [e4, Array.getD_eq_getD_getElem?, h2]
        rfl
      · show VR n μ (.sl (some i) 0 _) _
        rw [hlen]
        refine ⟨hi, ⟨ab, ao, none⟩, cap, rfl, hl, .inr ?_⟩
        rw [hL]
        exact ⟨rfl, by dsimp only; omega, by simp [maxLen] at hm; omega⟩
theorem came_of_arg {r : Reach} {b0 : Nat} {t e : TypeId} {v : Value} {d : DataW H} {p : List MemPlace} (ht : P.underlying t = some (.slice e)) (he : P.underlying e = some (.int .i64)) (hc : P.cellsOf e = 1)
    (hv : Value.okWide P w r b0 t v) (h : DataW.Trod enc P w 0 (fun _ => true) true t v d p) : ∃ b L o l, Came w v b L o l := by
  obtain ⟨a, len, cap, rfl⟩ := okWide_slice ht hv
  obtain ⟨n, hn⟩ := h
  exact came_of_trod ht he hc (by simpa [Value.cells] using hn)
end

theorem cond_lt {b : Bool} {k n : Nat} (h : k < n) : ∀ i, cond b (some k) none = some i → i < n := fun i hi => by
  cases b with
  | true => injection hi with hi; omega
  | false => cases hi
theorem vrl_nil (n : Nat) (μ : Nat → Loc) : VRL n μ [] [] := rfl
theorem vrl_cons {n : Nat} {μ : Nat → Loc} {a : AV} {v : Value} {l : List AV} {m : List Value} (h : VR n μ a v) (k : VRL n μ l m) : VRL n μ (a :: l) (v :: m) := ⟨v, m, rfl, h, k⟩
theorem vr_int (n : Nat) (μ : Nat → Loc) (x : Int) : VR n μ (I x) (.int .i64 x) := rfl
theorem vr_str (n : Nat) (μ : Nat → Loc) (s : ByteArray) : VR n μ (.str s) (.string s) := rfl
theorem vr_bool (n : Nat) (μ : Nat → Loc) (b : Bool) : VR n μ (.bool b) (.bool b) := rfl
theorem vr_agg {n : Nat} {μ : Nat → Loc} {l : List AV} {m : List Value} (h : VRL n μ l m) : VR n μ (.agg l) (.agg m.toArray) := ⟨m, rfl, h⟩
theorem rel_rows {μ : Nat → Loc} {st : St} {w : World} (h : ∀ i, i < st.n → ObR st.n μ w (μ i) (st.ob i) ∧ (st.ob i).own = false) : Rel μ st w :=
  ⟨fun i hi => (h i hi).1, fun i j hi _ _ ho => by rw [(h i hi).2] at ho; cases ho⟩

/-- A law that holds of the store holds of the world. -/
theorem run_law {P : Program} {f : Nat} {args : List AV} {st : St} {μ : Nat → Loc} {W : World} {cargs : List Value} (h : ACalls P f args st No (Pv (.bool true))) (hr : Rel μ st W) (hv : VRL st.n μ args cargs) :
    Calls P f cargs.toArray W fun e w' => e = .returned (.bool true) ∧ Below W.heap.size W w' :=
  (h.2 μ W cargs hr hv).mono fun e w' ⟨v, cv, μ', st', h1, h2, h3, h4, h5⟩ => by
    have h5 : v = .bool true := h5
    subst h5
    have h2 : cv = .bool true := h2
    subst h2
    exact ⟨h1, ⟨h4.os, h4.tape, h4.output, h4.size, fun b hb => h4.blk b hb fun i hi hT => hT.elim⟩⟩
end Go.Proofs.YtmphklmhhcmbnaaDoorW.Ax
