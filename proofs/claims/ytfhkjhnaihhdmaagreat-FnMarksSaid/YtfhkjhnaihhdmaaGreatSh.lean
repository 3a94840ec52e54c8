/- slices.Insert: the library's contract, laid, and told of the abstract store. -/
import Derived.Test.YtfhkjhnaihhdmaaGreatXU
import Derived.Shelf.Spec.SlicesInsert
import Derived.Shelf.Spec.SlicesInsertGrow
namespace Go.Proofs
open Go.Shelf Go.Lib Go.RowKit

def Tryz.laysInsert_ren : Go.Shelf.Ren := ⟨fun | 21 => 78 | 27 => 148 | 28 => 149 | 35 => 180 | 39 => 205 | n => n, fun | 22 => 24 | 3 => 3 | 4 => 4 | 0 => 0 | n => n, fun | n => n⟩
theorem Tryz.laysInsert : Go.Proofs.Lays2.n21 Tryz.prog Tryz.laysInsert_ren := {
  mixed := by kernel_rfl
  f21 := Tryz.func78.trans (congrArg some (by kernel_rfl))
  f27 := Tryz.func148.trans (congrArg some (by kernel_rfl))
  f28 := Tryz.func149.trans (congrArg some (by kernel_rfl))
  f35 := Tryz.func180.trans (congrArg some (by kernel_rfl))
  f39 := Tryz.func205.trans (congrArg some (by kernel_rfl))
  t0 := Tryz.underlying0
  a0 := Tryz.isAgg0
  z0 := Tryz.sizeOf0
  v0 := Tryz.zeroValue0
  t3 := Tryz.underlying3
  a3 := Tryz.isAgg3
  z3 := Tryz.sizeOf3
  v3 := Tryz.zeroValue3
  t4 := Tryz.underlying4
  a4 := Tryz.isAgg4
  z4 := Tryz.sizeOf4
  v4 := Tryz.zeroValue4
  t22 := Tryz.underlying24
  a22 := Tryz.isAgg24
  z22 := Tryz.sizeOf24
  v22 := Tryz.zeroValue24
  i3 := by kernel_rfl }
end Go.Proofs
namespace Go.Proofs.YtfhkjhnaihhdmaaGreatW.Ax
open Go Go.RowKit Go.Proofs Go.Lib
set_option linter.unusedVariables false
/-- What storing a row of cells makes of a world. -/
structure SC (b o : Nat) (vs : List Value) (cs : Array Value) (E : Nat) (w w' : World) : Prop where
  heap : ∃ cs' : Array Value, w'.heap[b]? = some (.cells cs' E (0, 0)) ∧ cs'.size = cs.size ∧ ∀ j, cs'.getD j undef = if o ≤ j ∧ j < o + vs.length then vs.getD (j - o) undef else cs.getD j undef
  other : ∀ b', b' ≠ b → w'.heap[b']? = w.heap[b']?
  size : w'.heap.size = w.heap.size
  os : w'.os = w.os
  tape : w'.tape = w.tape
  output : w'.output = w.output
theorem sc_cells (b E : Nat) : ∀ (vs : List Value) (o : Nat) (cs : Array Value) (w : World), w.heap[b]? = some (.cells cs E (0, 0)) → o + vs.length ≤ cs.size → SC b o vs cs E w (w.setCells b o vs)
  | [], o, cs, w, h, hl => ⟨⟨cs, h, rfl, fun j => by rw [if_neg (fun h => by simp only [List.length_nil] at h; omega)]⟩, fun _ _ => rfl, rfl, rfl, rfl, rfl⟩
  | v :: r, o, cs, w, h, hl => by
    have hl' : o + 1 + r.length ≤ cs.size := by simp at hl; omega
    have hw1 : (w.setCell ⟨b, o, none⟩ v).heap[b]? = some (.cells (cs.setIfInBounds o v) E (0, 0)) := by
      simp [World.setCell, Array.getElem?_modify, h]
    obtain ⟨⟨cs', h1, h2, h3⟩, h4, h5, h6, h7, h8⟩ := sc_cells b E r (o + 1) (cs.setIfInBounds o v) (w.setCell ⟨b, o, none⟩ v) hw1 (by simpa using hl')
    refine ⟨⟨cs', h1, by rw [h2]; simp, fun j => ?_⟩, fun b' hb' => ?_, ?_, h6, h7, h8⟩
    · rw [h3 j]
      by_cases hj : j = o
      · subst hj
        rw [if_neg (by omega), if_pos (by simp), Nat.sub_self]
        simp [show j < cs.size by omega]
      · by_cases hin : o + 1 ≤ j ∧ j < o + 1 + r.length
        · rw [if_pos hin, if_pos (by simp; omega), show j - o = (j - (o + 1)) + 1 by omega]
          simp
        · rw [if_neg hin, if_neg (by simp; omega)]
          simp [Ne.symm hj]
    · refine (h4 b' hb').trans ?_
      simp [World.setCell, Array.getElem?_modify, Ne.symm hb']
    · refine h5.trans ?_
      simp [World.setCell]

/-- A number put into a row. -/
def insL (b : List Int) (k : Nat) (x : Int) : List Int := b.take k ++ x :: b.drop k
theorem insL_len (b : List Int) (k : Nat) (x : Int) : (insL b k x).length = b.length + 1 := by
  unfold insL; simp; omega
theorem insL_get (b : List Int) (k : Nat) (x : Int) (hk : k ≤ b.length) (j : Nat) (hj : j ≤ b.length) : (insL b k x).getD j 0 = if j < k then b.getD j 0 else if j = k then x else b.getD (j - 1) 0 := by
  unfold insL
  by_cases h1 : j < k
  · rw [if_pos h1]
    simp only [List.getD]
    rw [List.getElem?_append_left (by simp; omega), List.getElem?_take, if_pos h1]
  · rw [if_neg h1]
    have hl : (b.take k).length = k := by simp; omega
    by_cases h2 : j = k
    · subst h2
      rw [if_pos rfl]
      simp only [List.getD]
      rw [List.getElem?_append_right (by omega), hl, Nat.sub_self]
      rfl
    · rw [if_neg h2]
      obtain ⟨m, rfl⟩ : ∃ m, j = k + 1 + m := ⟨j - k - 1, by omega⟩
      simp only [List.getD]
      rw [List.getElem?_append_right (by omega), hl, show k + 1 + m - k = m + 1 by omega, List.getElem?_cons_succ, List.getElem?_drop, show k + 1 + m - 1 = k + m by omega]
/-- What comes back: a row of its own, made anew or the old one. -/
def InsP (n0 n : Nat) (l : List Int) : AV → St → Prop := fun v st' => ∃ r2, v = .sl r2 0 l.length ∧ Fr n0 st' r2 l ∧ ∀ i, r2 = some i → n ≤ i
section
variable {μ : Nat → Loc} {st : St} {w w' : World} {n0 : Nat} {l : List Int} {L : Loc} {E c : Nat} {cs : Array Value}
theorem row_of (n : Nat) (μ' : Nat → Loc) (hc : w'.heap[L.b]? = some (.cells cs E (0, 0))) (hz : L.s + l.length ≤ L.z) (hz' : L.z ≤ cs.size) (hv : ∀ j, j < l.length → cs.getD (L.s + j) undef = .int .i64 (l.getD j 0)) : ObR n μ' w' L (.row true (l.map I)) :=
  ⟨cs, E, (0, 0), hc, fun _ => rfl, by simpa using hz, hz', fun j hj => by
    have hj' : j < l.length := by simpa using hj
    have e : (l.map I).getD j .junk = I (l.getD j 0) := by simp [List.getD, hj']
    rw [e, hv j hj']
    rfl⟩
theorem vr_of {n : Nat} {μ' : Nat → Loc} (i : Nat) (hi : i < n) (hL : μ' i = L) (m : Nat) (h1 : m ≤ c) (h2 : L.s + c ≤ L.z) (h3 : c ≤ 9223372036854775807) : VR n μ' (.sl (some i) 0 m) (.slice (some ⟨L.b, L.s, none⟩) m c) := by
  simp only [VR]
  refine ⟨hi, _, c, rfl, h1, .inr ?_⟩
  rw [hL]
  exact ⟨rfl, by omega, h3⟩
theorem fin_some (h : Rel μ st w) (hn0 : n0 ≤ st.n) {i : Nat} (hi : i < st.n) (hown : (st.ob i).own = true) (hL : L.b = (μ i).b ∨ w.heap.size ≤ L.b) (hsz : w.heap.size ≤ w'.heap.size) (hw : ∀ b, b < w.heap.size → b ≠ (μ i).b → w'.heap[b]? = w.heap[b]?)
    (hos : w'.os = w.os) (hta : w'.tape = w.tape) (hou : w'.output = w.output) (hc : w'.heap[L.b]? = some (.cells cs E (0, 0))) (hz : L.s + l.length ≤ L.z) (hz' : L.z ≤ cs.size) (hv : ∀ j, j < l.length → cs.getD (L.s + j) undef = .int .i64 (l.getD j 0))
    (h1 : l.length ≤ c) (h2 : L.s + c ≤ L.z) (h3 : c ≤ 9223372036854775807) :
    ∃ v cv μ' st', (Value.slice (some ⟨L.b, L.s, none⟩) l.length c) = cv ∧ VR st'.n μ' v cv ∧ Rel μ' st' w' ∧ Stp (fun k => some i = some k) μ st w μ' st' w' ∧ InsP n0 st.n l v st' := by
  obtain ⟨r1, r2⟩ := app_ok h hi hown (o := .row true (l.map I)) hL hsz hw hos hta hou (row_of _ _ hc hz hz' hv)
  refine ⟨.sl (some st.n) 0 l.length, _, _, _, rfl, vr_of st.n (Nat.lt_succ_self _) (upd_same _ _ _) _ h1 h2 h3, r1, ?_, some st.n, rfl, .inr ⟨st.n, rfl, hn0, Nat.lt_succ_self _, app_ob _ _ _⟩, fun k hk => by injection hk with hk; omega⟩
  have : (fun k => some i = some k) = (· = i) := by funext k; exact propext ⟨fun h => by injection h with h; exact h.symm, fun h => by rw [h]⟩
  rw [this]
  exact r2
theorem fin_none (h : Rel μ st w) (hn0 : n0 ≤ st.n) (hp : Pre w w') (hL : w.heap.size ≤ L.b) (hc : w'.heap[L.b]? = some (.cells cs E (0, 0))) (hz : L.s + l.length ≤ L.z) (hz' : L.z ≤ cs.size) (hv : ∀ j, j < l.length → cs.getD (L.s + j) undef = .int .i64 (l.getD j 0))
    (h1 : l.length ≤ c) (h2 : L.s + c ≤ L.z) (h3 : c ≤ 9223372036854775807) :
    ∃ v cv μ' st', (Value.slice (some ⟨L.b, L.s, none⟩) l.length c) = cv ∧ VR st'.n μ' v cv ∧ Rel μ' st' w' ∧ Stp (fun k => (none : Option Nat) = some k) μ st w μ' st' w' ∧ InsP n0 st.n l v st' := by
  obtain ⟨r1, r2⟩ := push_ok h (o := .row true (l.map I)) hp hL (row_of _ _ hc hz hz' hv)
  refine ⟨.sl (some st.n) 0 l.length, _, _, _, rfl, vr_of st.n (Nat.lt_succ_self _) (upd_same _ _ _) _ h1 h2 h3, r1, ?_, some st.n, rfl, .inr ⟨st.n, rfl, hn0, Nat.lt_succ_self _, push_ob _ _⟩, fun k hk => by injection hk with hk; omega⟩
  have : (fun k => (none : Option Nat) = some k) = No := by funext k; exact propext ⟨fun h => (by cases h), fun h => h.elim⟩
  rw [this]
  exact r2
end
theorem arr_get (l : List Value) (Z : Array Value) (j : Nat) (h : j < l.length) : (l.toArray ++ Z).getD j undef = l.getD j undef := by
  simp [List.getD, Array.getElem?_append, h]
theorem ints_get (b : List Int) (j : Nat) (h : j < b.length) : (b.map (Value.int .i64)).getD j undef = .int .i64 (b.getD j 0) := by
  simp [List.getD, h]
theorem cell_of {w : World} {g E : Nat} {cs : Array Value} {fz : Nat × Nat} (h : w.heap[g]? = some (.cells cs E fz)) (o : Nat) : w.cell? ⟨g, o, none⟩ = cs[o]? := by simp [World.cell?, h]
theorem froz_of {w : World} {g E : Nat} {cs : Array Value} (h : w.heap[g]? = some (.cells cs E (0, 0))) (o : Nat) : w.frozen? ⟨g, o, none⟩ = false := by simp [World.frozen?, h]
theorem get_of {cs : Array Value} {o : Nat} {v : Value} (h : cs.getD o undef = v) (ho : o < cs.size) : cs[o]? = some v := by
  rw [Array.getD_eq_getD_getElem?, Array.getElem?_eq_getElem ho] at h
  rw [Array.getElem?_eq_getElem ho]
  exact congrArg some h
theorem Insert_c (n0 m0 : Nat) (r : Option Nat) (rv : Nat) (b : List Int) (k : Nat) (x : Int) (st : St) (hn0 : n0 ≤ st.n) (hb : Fr n0 st r b) (hk : k ≤ b.length) (hv : Fr m0 st (some rv) [x]) (hne : r ≠ some rv) (hl : b.length ≤ 1073741824) :
    ACalls Tryz.prog 78 [.sl r 0 b.length, I k, .sl (some rv) 0 [x].length] st (fun i => r = some i) (InsP n0 st.n (insL b k x)) := by
  refine ⟨by kernel_rfl, fun μ w cargs hr hvr => ?_⟩
  have hil := insL_len b k x
  have hig := insL_get b k x hk
  simp only [VRL] at hvr
  obtain ⟨s, _, rfl, hs, kv, _, rfl, hkv, vv, _, rfl, hvv, rfl⟩ := hvr
  have hkv : kv = .int .i64 k := hkv
  subst hkv
  simp only [VR] at hvv
  obtain ⟨hrv, Av, vc, rfl, hvc, hAv⟩ := hvv
  obtain ⟨_, _, hov⟩ := hv.ob
  have hobv := hr.obj rv hrv
  rw [hov] at hobv
  obtain ⟨csv, Ev, fzv, g1, g2, g3, g4, g5⟩ := hobv
  have g2 := g2 rfl
  subst g2
  simp only [List.length_map, List.length_cons, List.length_nil] at g3 hvc
  have gx : csv.getD ((μ rv).s + 0) undef = .int .i64 x := g5 0 (by simp)
  have gx' : csv[(μ rv).s + 0]? = some (.int .i64 x) := get_of gx (by omega)
  rcases hAv with hAv | ⟨rfl, hz1, hz2⟩
  · omega
  have hvs : ∀ (j : Nat) (v : Value), [Value.int .i64 x][j]? = some v → w.cell? ⟨(μ rv).b, (μ rv).s + 0 + j, none⟩ = some v := fun j v hj => by
    have : j = 0 := by
      have := (List.getElem?_eq_some_iff.1 hj).1
      simpa using this
    subst this
    rw [cell_of g1, Nat.add_zero ((μ rv).s + 0), gx']
    simpa using hj
  have h1v : ∀ v ∈ [Value.int .i64 x], v.oneCell' = true := fun v hv => by rw [List.mem_singleton] at hv; subst hv; rfl
  rcases hb with ⟨rfl, rfl⟩ | ⟨i, rfl, h0i, hi, hob⟩
  · -- nil
    have hk0 : k = 0 := by simpa using hk
    subst hk0
    simp only [VR] at hs
    obtain ⟨_, _, A, rfl⟩ := hs
    have key := Any2.slices_Insert_int_end_grow Tryz.laysInsert A 0 0 (μ rv).b ((μ rv).s + 0) 1 vc [] [.int .i64 x] w (by omega) (by omega) (by omega) (by omega) rfl rfl (fun _ => rfl) (fun a _ j v h => by simp at h) hvs h1v
    refine key.mono ?_
    rintro e w' ⟨rfl, rfl⟩
    have hge := grownCap_ge w (0 + 1) 0 (Tryz.laysInsert_ren.t 3)
    have hpre := pre_drew_alloc w (.cells ((([] : List Value) ++ [Value.int .i64 x]).toArray ++ Builtin.zeroCells (Value.int .i64 0).cells (grownCap w (0 + 1) 0 (Tryz.laysInsert_ren.t 3) - (0 + 1))) (Tryz.laysInsert_ren.t 3))
    obtain ⟨v, cv, μ', st', h1, h2⟩ := fin_none (l := insL [] 0 x) (c := grownCap w (0 + 1) 0 (Tryz.laysInsert_ren.t 3)) (L := ⟨w.heap.size, 0, grownCap w (0 + 1) 0 (Tryz.laysInsert_ren.t 3)⟩) hr hn0 hpre (Nat.le_refl _) (heap_alloc_new w.drew _) (by simpa [insL] using hge)
      (by rw [Array.size_append, size_zeroCells]; show grownCap w (0 + 1) 0 (Tryz.laysInsert_ren.t 3) ≤ 1 + (grownCap w (0 + 1) 0 (Tryz.laysInsert_ren.t 3) - (0 + 1)) * 1; omega) (fun j hj => by
        have : j = 0 := by rw [hil] at hj; simp only [List.length_nil] at hj; omega
        subst this
        rw [Nat.zero_add, arr_get _ _ _ (by simp)]
        rfl) (by simpa [insL] using hge) (by simp) (gcl _ _ _ _ (by omega))
    exact ⟨v, cv, μ', st', congrArg Ending.returned h1, h2⟩
  · simp only [VR] at hs
    obtain ⟨_, A, c, rfl, hlc, hA⟩ := hs
    have hobi := hr.obj i hi
    rw [hob] at hobi
    obtain ⟨cs, E, fz, q1, q2, q3, q4, q5⟩ := hobi
    have q2 := q2 rfl
    subst q2
    rw [List.length_map] at q3 q5
    have hown : (st.ob i).own = true := by rw [hob]; rfl
    have hsep : (μ i).b ≠ (μ rv).b := hr.sep i rv hi hrv (fun e => hne (by rw [e])) hown (by rw [hov]; rfl)
    have q6 : ∀ j, j < b.length → cs.getD ((μ i).s + j) undef = .int .i64 (b.getD j 0) := fun j hj => by
      have := q5 j hj
      have e : (b.map I).getD j .junk = I (b.getD j 0) := by simp [List.getD, hj]
      rw [e] at this
      exact this
    have hlt : (μ i).b < w.heap.size := (Array.getElem?_eq_some_iff.1 q1).1
    have hcl : (b.map (Value.int .i64)).length = b.length := by simp
    have hcs : ∀ (j : Nat) (v : Value), (b.map (Value.int .i64))[j]? = some v → w.cell? ⟨(μ i).b, (μ i).s + 0 + j, none⟩ = some v := fun j v hj => by
      have hj' : j < b.length := by have := (List.getElem?_eq_some_iff.1 hj).1; simpa using this
      rw [cell_of q1, Nat.add_zero, get_of (q6 j hj') (by omega), ← hj]
      simp [List.getD, hj']
    have h1c : ∀ v ∈ b.map (Value.int .i64), v.oneCell' = true := fun v hv => by
      obtain ⟨y, _, rfl⟩ := List.mem_map.1 hv
      rfl
    by_cases hroom : b.length + 1 ≤ c
    · rcases hA with hA | ⟨rfl, hz, hc3⟩
      · omega
      have hsp : ∀ j, j < b.length + 1 → (w.cell? ⟨(μ i).b, (μ i).s + 0 + j, none⟩).isSome = true := fun j hj => by
        rw [cell_of q1, Array.getElem?_eq_getElem (show (μ i).s + 0 + j < cs.size by omega)]; rfl
      by_cases hkn : k = b.length
      · subst hkn
        have key := Any2.slices_Insert_int_end_room Tryz.laysInsert (μ i).b ((μ i).s + 0) b.length c (μ rv).b ((μ rv).s + 0) 1 vc [.int .i64 x] w (by omega) hroom hc3 rfl (fun j hj => by rw [Nat.add_assoc]; exact hsp _ (by omega)) (fun j _ => froz_of q1 _) hvs h1v
        refine key.mono ?_
        rintro e w' ⟨rfl, rfl⟩
        obtain ⟨⟨cs', s1, s2, s3⟩, s4, s5, s6, s7, s8⟩ := sc_cells (μ i).b E [.int .i64 x] ((μ i).s + 0 + b.length) cs w q1 (by simp; omega)
        obtain ⟨v, cv, μ', st', h1, h2⟩ := fin_some (l := insL b b.length x) (c := c) (L := ⟨(μ i).b, (μ i).s + 0, (μ i).z⟩) hr hn0 hi hown (.inl rfl) (Nat.le_of_eq s5.symm) (fun b' _ hb' => s4 b' hb') s6 s7 s8 s1 (by dsimp only; omega) (by dsimp only; omega) (fun j hj => by
          dsimp only
          rw [s3, hig j (by omega)]
          simp only [List.length_cons, List.length_nil]
          by_cases hj1 : j < b.length
          · rw [if_neg (by omega), if_pos hj1, Nat.add_zero, q6 j hj1]
          · rw [if_pos (by omega), if_neg hj1, if_pos (by omega), show (μ i).s + 0 + j - ((μ i).s + 0 + b.length) = 0 by omega]; rfl) (by omega) (by dsimp only; omega) hc3
        rw [hil] at h1
        exact ⟨v, cv, μ', st', congrArg Ending.returned h1, h2⟩
      · have key := Any2.slices_Insert_int_shift Tryz.laysInsert (μ i).b ((μ i).s + 0) b.length c k (μ rv).b ((μ rv).s + 0) 1 vc (b.map (Value.int .i64)) [.int .i64 x] w (by omega) (by omega) hroom hc3 (Ne.symm hsep) hcl rfl hcs hsp (fun j _ => froz_of q1 _) hvs h1c h1v
          Ev E csv.size cs.size (by simp [World.shape?, g1]) (by simp [World.shape?, q1]) (by omega) (froz_of g1 _) (froz_of g1 _)
        refine key.mono ?_
        rintro e w' ⟨rfl, rfl⟩
        have hdl : ((b.map (Value.int .i64)).drop k).length = b.length - k := by simp
        obtain ⟨⟨cs1, s1, s2, s3⟩, s4, s5, s6, s7, s8⟩ := sc_cells (μ i).b E ((b.map (Value.int .i64)).drop k) ((μ i).s + 0 + (k + 1)) cs w.drew q1 (by rw [hdl]; omega)
        obtain ⟨⟨cs2, t1, t2, t3⟩, t4, t5, t6, t7, t8⟩ := sc_cells (μ i).b E [.int .i64 x] ((μ i).s + 0 + k) cs1 _ s1 (by simp; omega)
        obtain ⟨v, cv, μ', st', h1, h2⟩ := fin_some (l := insL b k x) (c := c) (L := ⟨(μ i).b, (μ i).s + 0, (μ i).z⟩) hr hn0 hi hown (.inl rfl) (Nat.le_of_eq (t5.trans s5).symm) (fun b' _ hb' => (t4 b' hb').trans (s4 b' hb')) (t6.trans s6) (t7.trans s7) (t8.trans s8) t1 (by dsimp only; omega) (by dsimp only; omega) (fun j hj => by
          dsimp only
          rw [t3, s3, hig j (by omega), hdl]
          simp only [List.length_cons, List.length_nil]
          by_cases hj1 : j < k
          · rw [if_neg (by omega), if_neg (by omega), if_pos hj1, Nat.add_zero, q6 j (by omega)]
          · rw [if_neg hj1]
            by_cases hj2 : j = k
            · rw [if_pos (by omega), if_pos hj2, show (μ i).s + 0 + j - ((μ i).s + 0 + k) = 0 by omega]; rfl
            · rw [if_neg (by omega), if_pos (by omega), if_neg hj2, show (μ i).s + 0 + j - ((μ i).s + 0 + (k + 1)) = j - 1 - k by omega]
              have := ints_get b (j - 1) (by omega)
              rw [← this]
              simp only [List.getD, List.getElem?_drop, show k + (j - 1 - k) = j - 1 by omega]) (by omega) (by dsimp only; omega) hc3
        rw [hil] at h1
        exact ⟨v, cv, μ', st', congrArg Ending.returned h1, h2⟩
    · have hcn : c = b.length := by omega
      by_cases hkn : k = b.length
      · subst hkn
        have key := Any2.slices_Insert_int_end_grow Tryz.laysInsert (some A) b.length c (μ rv).b ((μ rv).s + 0) 1 vc (b.map (Value.int .i64)) [.int .i64 x] w (by omega) hlc (by omega) (by omega) hcl rfl (fun e => by cases e) (fun a ha j v hj => by
          injection ha with ha
          subst ha
          rcases hA with hA | ⟨rfl, _, _⟩
          · have : j < b.length := by have := (List.getElem?_eq_some_iff.1 hj).1; simpa using this
            omega
          · rw [Addr.add_lit]; exact hcs j v hj) hvs h1v
        refine key.mono ?_
        rintro e w' ⟨rfl, rfl⟩
        have hge := grownCap_ge w (b.length + 1) c (Tryz.laysInsert_ren.t 3)
        have hpre := pre_drew_alloc w (.cells (((b.map (Value.int .i64)) ++ [Value.int .i64 x]).toArray ++ Builtin.zeroCells (Value.int .i64 0).cells (grownCap w (b.length + 1) c (Tryz.laysInsert_ren.t 3) - (b.length + 1))) (Tryz.laysInsert_ren.t 3))
        obtain ⟨v, cv, μ', st', h1, h2⟩ := fin_some (l := insL b b.length x) (c := grownCap w (b.length + 1) c (Tryz.laysInsert_ren.t 3)) (L := ⟨w.heap.size, 0, grownCap w (b.length + 1) c (Tryz.laysInsert_ren.t 3)⟩) hr hn0 hi hown (.inr (Nat.le_refl _)) hpre.size (fun b' h _ => hpre.blk b' h) rfl rfl rfl (heap_alloc_new w.drew _) (by dsimp only; omega)
          (by simp [size_zeroCells, Value.cells]; omega) (fun j hj => by
            rw [Nat.zero_add, arr_get _ _ _ (by simp; omega), hig j (by omega)]
            by_cases hj1 : j < b.length
            · rw [if_pos hj1, ← ints_get b j hj1]
              simp [List.getD, List.getElem?_append, hj1]
            · rw [if_neg hj1, if_pos (by omega)]
              have : j = b.length := by omega
              subst this
              simp only [List.getD]
              rw [List.getElem?_append_right (by rw [hcl]; exact Nat.le_refl _), hcl, Nat.sub_self]
              rfl) (by omega) (by dsimp only; omega) (gcl _ _ _ _ (by omega))
        rw [hil] at h1
        exact ⟨v, cv, μ', st', congrArg Ending.returned h1, h2⟩
      · rcases hA with hA | ⟨rfl, hz, hc3⟩
        · omega
        have key := Any2.slices_Insert_int_grow Tryz.laysInsert (μ i).b ((μ i).s + 0) b.length c k (μ rv).b ((μ rv).s + 0) 1 vc (b.map (Value.int .i64)) [.int .i64 x] w (by omega) (by omega) hlc (by omega) (by omega) hcl rfl hcs hvs h1c h1v
        refine key.mono ?_
        rintro e w' ⟨rfl, rfl⟩
        have hge := grownCap_ge w (b.length + 1) c (Tryz.laysInsert_ren.t 3)
        generalize hZ : (((b.map (Value.int .i64)).take k).toArray ++ Builtin.zeroCells (Value.int .i64 0).cells (b.length + 1 - k) ++ Builtin.zeroCells (Value.int .i64 0).cells (grownCap w (b.length + 1) c (Tryz.laysInsert_ren.t 3) - (b.length + 1))) = Z
        have hZs : Z.size = grownCap w (b.length + 1) c (Tryz.laysInsert_ren.t 3) := by
          rw [← hZ]; simp [size_zeroCells, Value.cells]; omega
        have hpre := pre_alloc w (.cells Z (Tryz.laysInsert_ren.t 3))
        have ha1 : (w.alloc (.cells Z (Tryz.laysInsert_ren.t 3))).drew.heap[w.heap.size]? = some (.cells Z (Tryz.laysInsert_ren.t 3) (0, 0)) := heap_alloc_new w _
        have hdl : ((b.map (Value.int .i64)).drop k).length = b.length - k := by simp
        obtain ⟨⟨cs1, s1, s2, s3⟩, s4, s5, s6, s7, s8⟩ := sc_cells w.heap.size (Tryz.laysInsert_ren.t 3) [.int .i64 x] k Z _ ha1 (by simp; omega)
        obtain ⟨⟨cs2, t1, t2, t3⟩, t4, t5, t6, t7, t8⟩ := sc_cells w.heap.size (Tryz.laysInsert_ren.t 3) ((b.map (Value.int .i64)).drop k) (k + 1) cs1 (((w.alloc (.cells Z (Tryz.laysInsert_ren.t 3))).drew.setCells w.heap.size k [.int .i64 x]).drew) s1 (by rw [hdl]; omega)
        have hsz : w.heap.size ≤ ((((w.alloc (.cells Z (Tryz.laysInsert_ren.t 3))).drew.setCells w.heap.size k [.int .i64 x]).drew).setCells w.heap.size (k + 1) ((b.map (Value.int .i64)).drop k)).heap.size := by
          rw [t5]
          show _ ≤ ((w.alloc (.cells Z (Tryz.laysInsert_ren.t 3))).drew.setCells w.heap.size k [.int .i64 x]).heap.size
          rw [s5]
          exact hpre.size
        obtain ⟨v, cv, μ', st', h1, h2⟩ := fin_some (l := insL b k x) (c := grownCap w (b.length + 1) c (Tryz.laysInsert_ren.t 3)) (L := ⟨w.heap.size, 0, grownCap w (b.length + 1) c (Tryz.laysInsert_ren.t 3)⟩) hr hn0 hi hown (.inr (Nat.le_refl _)) hsz
          (fun b' h _ => (t4 b' (by omega)).trans ((s4 b' (by omega)).trans (hpre.blk b' h))) (t6.trans s6) (t7.trans s7) (t8.trans s8) t1 (by dsimp only; omega) (by dsimp only; omega) (fun j hj => by
            dsimp only
            rw [Nat.zero_add, t3, s3, hig j (by omega), hdl]
            simp only [List.length_cons, List.length_nil]
            by_cases hj1 : j < k
            · rw [if_neg (by omega), if_neg (by omega), if_pos hj1, ← hZ, ← ints_get b j (by omega), Array.append_assoc, arr_get _ _ _ (by simp; omega)]
              simp only [List.getD, List.getElem?_take, if_pos hj1]
            · rw [if_neg hj1]
              by_cases hj2 : j = k
              · rw [if_neg (by omega), if_pos (by omega), if_pos hj2, show j - k = 0 by omega]; rfl
              · rw [if_pos (by omega), if_neg hj2]
                have := ints_get b (j - 1) (by omega)
                rw [← this]
                simp only [List.getD, List.getElem?_drop, show k + (j - (k + 1)) = j - 1 by omega]) (by omega) (by dsimp only; omega) (gcl _ _ _ _ (by omega))
        rw [hil] at h1
        exact ⟨v, cv, μ', st', congrArg Ending.returned h1, h2⟩
end Go.Proofs.YtfhkjhnaihhdmaaGreatW.Ax
