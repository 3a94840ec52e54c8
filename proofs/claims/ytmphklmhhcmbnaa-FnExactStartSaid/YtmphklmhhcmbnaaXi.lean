/- Blocks of the store: made, written, given up. -/
import Derived.Test.YtmphklmhhcmbnaaXh
namespace Go.Proofs.YtmphklmhhcmbnaaW.Ax
open Go Go.RowKit
set_option linter.unusedVariables false
set_option linter.unusedSimpArgs false

def St.push (st : St) (o : Ob) : St := ⟨st.n + 1, upd st.ob st.n o⟩
def St.set (st : St) (r : Nat) (o : Ob) : St := ⟨st.n, upd st.ob r o⟩
/-- A row that was appended to: the elder one is given up, the new one bears a new number. -/
def St.app (st : St) (r : Nat) (o : Ob) : St := (st.set r .dead).push o
def cell (st : St) (r : Option Nat) (j : Nat) : Option AV :=
  match r with
  | some i => if i < st.n then (match st.ob i with | .row _ l => l[j]? | _ => none) else none
  | none => none
abbrev I (n : Int) : AV := .int .i64 n

theorem push_ob (st : St) (o : Ob) : (st.push o).ob st.n = o := upd_same _ _ _
theorem push_old (st : St) (o : Ob) {i : Nat} (h : i < st.n) : (st.push o).ob i = st.ob i := upd_ne _ _ (by omega)
theorem set_ob (st : St) (r : Nat) (o : Ob) : (st.set r o).ob r = o := upd_same _ _ _
theorem set_ne (st : St) (r : Nat) (o : Ob) {i : Nat} (h : i ≠ r) : (st.set r o).ob i = st.ob i := upd_ne _ _ h
theorem app_ob (st : St) (r : Nat) (o : Ob) : (st.app r o).ob st.n = o := upd_same _ _ _
theorem app_ne (st : St) (r : Nat) (o : Ob) {i : Nat} (h : i < st.n) (h' : i ≠ r) : (st.app r o).ob i = st.ob i := (push_old (st.set r .dead) o h).trans (set_ne _ _ _ h')
theorem ex_push (st : St) (o : Ob) : Ex st (st.push o) := ⟨Nat.le_succ _, fun i hi _ => push_old st o hi⟩
theorem ext_set (st : St) (r : Nat) (o : Ob) : Ext (· = r) st (st.set r o) := ⟨Nat.le_refl _, fun i hi hn => set_ne st r o hn⟩
theorem ext_app (st : St) (r : Nat) (o : Ob) : Ext (· = r) st (st.app r o) := ⟨Nat.le_succ _, fun i hi hn => app_ne st r o hi hn⟩
theorem cell_ext {T : Nat → Prop} {st st' : St} (h : Ext T st st') {r : Option Nat} {j : Nat} {v : AV} (hc : cell st r j = some v) (hn : ∀ i, r = some i → ¬ T i) : cell st' r j = some v := by
  cases r with
  | none => cases hc
  | some i =>
    unfold cell at hc ⊢
    simp only at hc ⊢
    split at hc
    · rename_i hlt
      rw [if_pos (Nat.lt_of_lt_of_le hlt h.n), h.ob i hlt (hn i rfl)]
      exact hc
    · cases hc
theorem cell_row {st : St} {i : Nat} {own : Bool} {l : List AV} (hi : i < st.n) (ho : st.ob i = .row own l) (j : Nat) : cell st (some i) j = l[j]? := by
  simp [cell, hi, ho]

section
variable {μ : Nat → Loc} {st : St} {w : World}

theorem Rel.dead (h : Rel μ st w) (r : Nat) : Rel μ (st.set r .dead) w := by
  refine ⟨fun i hi => ?_, fun i j hi hj hne ho hl => ?_⟩
  · by_cases e : i = r
    · subst e; rw [set_ob]; trivial
    · rw [set_ne _ _ _ e]; exact h.obj i hi
  · have e1 : i ≠ r := fun e => by subst e; rw [set_ob] at ho; cases ho
    have e2 : j ≠ r := fun e => by subst e; rw [set_ob] at hl; cases hl
    rw [set_ne _ _ _ e1] at ho
    rw [set_ne _ _ _ e2] at hl
    exact h.sep i j hi hj hne ho hl

theorem mu_push (μ : Nat → Loc) (st : St) (L : Loc) : ∀ i, i < st.n → upd μ st.n L i = μ i := fun i hi => upd_ne _ _ (by omega)

/-- A new block. -/
theorem push_ok (h : Rel μ st w) {o : Ob} {L : Loc} {w' : World} (hp : Pre w w') (hL : w.heap.size ≤ L.b) (hO : ObR (st.n + 1) (upd μ st.n L) w' L o) :
    Rel (upd μ st.n L) (st.push o) w' ∧ Stp No μ st w (upd μ st.n L) (st.push o) w' := by
  have hmu := mu_push μ st L
  have hnew : upd μ st.n L st.n = L := upd_same _ _ _
  have hlt : ∀ i, i < st.n → (st.ob i).live = true → (μ i).b < w.heap.size := fun i hi hl => (h.obj i hi).lt hl
  constructor
  · refine ⟨fun i hi => ?_, fun i j hi hj hne ho hl => ?_⟩
    · have hi' : i < st.n + 1 := hi
      rcases Nat.lt_or_ge i st.n with hlt' | hge
      · rw [push_old _ _ hlt', hmu i hlt']
        cases hl : (st.ob i).live with
        | true => exact (h.obj i hlt').mono (Nat.le_succ _) hmu (hp.blk _ (hlt i hlt' hl))
        | false =>
          have : st.ob i = .dead := by cases ho : st.ob i <;> simp_all [Ob.live]
          rw [this]; trivial
      · have : i = st.n := by omega
        subst this
        rw [push_ob, hnew]
        exact hO
    · have hi' : i < st.n + 1 := hi
      have hj' : j < st.n + 1 := hj
      rcases Nat.lt_or_ge i st.n with h1 | h1 <;> rcases Nat.lt_or_ge j st.n with h2 | h2
      · rw [push_old _ _ h1] at ho
        rw [push_old _ _ h2] at hl
        rw [hmu i h1, hmu j h2]
        exact h.sep i j h1 h2 hne ho hl
      · have : j = st.n := by omega
        subst this
        rw [push_old _ _ h1] at ho
        rw [hmu i h1, hnew]
        have := hlt i h1 (Ob.live_of_own ho)
        omega
      · have : i = st.n := by omega
        subst this
        rw [push_old _ _ h2] at hl
        rw [hmu j h2, hnew]
        have := hlt j h2 hl
        omega
      · omega
  · refine ⟨Nat.le_succ _, hmu, fun i hi _ => push_old _ _ hi, fun i hi ho => by rw [push_old _ _ hi] at ho; exact ho, fun i hi ho => by rw [push_old _ _ hi] at ho; exact ho, hp.size, fun b hb _ => hp.blk b hb, fun i h1 h2 _ => ?_, hp.os, hp.tape, hp.output⟩
    have h2' : i < st.n + 1 := h2
    have : i = st.n := by omega
    subst this
    rw [hnew]
    exact .inl hL

/-- A block of the call's own is written. -/
theorem set_ok (h : Rel μ st w) {r : Nat} (hr : r < st.n) (hown : (st.ob r).own = true) {o : Ob} {w' : World} (hsz : w'.heap.size = w.heap.size) (hw : ∀ b, b ≠ (μ r).b → w'.heap[b]? = w.heap[b]?) (hos : w'.os = w.os) (hta : w'.tape = w.tape) (hou : w'.output = w.output)
    (hO : ObR st.n μ w' (μ r) o) : Rel μ (st.set r o) w' ∧ Stp (· = r) μ st w μ (st.set r o) w' := by
  have hne : ∀ i, i < st.n → i ≠ r → (st.ob i).live = true → (μ i).b ≠ (μ r).b := fun i hi e hl => Ne.symm (h.sep r i hr hi (Ne.symm e) hown hl)
  constructor
  · refine ⟨fun i hi => ?_, fun i j hi hj hij ho hl => ?_⟩
    · by_cases e : i = r
      · subst e; rw [set_ob]; exact hO
      · rw [set_ne _ _ _ e]
        cases hl : (st.ob i).live with
        | true => exact (h.obj i hi).mono (Nat.le_refl _) (fun _ _ => rfl) (hw _ (hne i hi e hl))
        | false =>
          have : st.ob i = .dead := by cases ho : st.ob i <;> simp_all [Ob.live]
          rw [this]; trivial
    · by_cases e1 : i = r
      · subst e1
        have e2 : j ≠ i := Ne.symm hij
        rw [set_ne _ _ _ e2] at hl
        exact h.sep i j hi hj hij hown hl
      · rw [set_ne _ _ _ e1] at ho
        by_cases e2 : j = r
        · subst e2; exact h.sep i j hi hj hij ho (Ob.live_of_own hown)
        · rw [set_ne _ _ _ e2] at hl; exact h.sep i j hi hj hij ho hl
  · refine ⟨Nat.le_refl _, fun _ _ => rfl, fun i hi hn => set_ne _ _ _ hn, fun i hi ho => ?_, fun i hi hl => ?_, by omega, fun b hb hd => hw b ?_, fun i h1 h2 => ?_, hos, hta, hou⟩
    · by_cases e : i = r
      · subst e; exact hown
      · rw [set_ne _ _ _ e] at ho; exact ho
    · by_cases e : i = r
      · subst e; exact Ob.live_of_own hown
      · rw [set_ne _ _ _ e] at hl; exact hl
    · exact fun e => hd r hr rfl hown e.symm
    · have h2' : i < st.n := h2
      omega

/-- A row is given up, and a new one stands in a new block or in its own. -/
theorem app_ok (h : Rel μ st w) {r : Nat} (hr : r < st.n) (hown : (st.ob r).own = true) {o : Ob} {L : Loc} {w' : World} (hL : L.b = (μ r).b ∨ w.heap.size ≤ L.b) (hsz : w.heap.size ≤ w'.heap.size)
    (hw : ∀ b, b < w.heap.size → b ≠ (μ r).b → w'.heap[b]? = w.heap[b]?) (hos : w'.os = w.os) (hta : w'.tape = w.tape) (hou : w'.output = w.output) (hO : ObR (st.n + 1) (upd μ st.n L) w' L o) :
    Rel (upd μ st.n L) (st.app r o) w' ∧ Stp (· = r) μ st w (upd μ st.n L) (st.app r o) w' := by
  have hmu := mu_push μ st L
  have hnew : upd μ st.n L st.n = L := upd_same _ _ _
  have hne : ∀ i, i < st.n → i ≠ r → (st.ob i).live = true → (μ i).b ≠ (μ r).b := fun i hi e hl => Ne.symm (h.sep r i hr hi (Ne.symm e) hown hl)
  have hlt : ∀ i, i < st.n → (st.ob i).live = true → (μ i).b < w.heap.size := fun i hi hl => (h.obj i hi).lt hl
  have hd : (st.app r o).ob r = .dead := (push_old (st.set r .dead) o hr).trans (set_ob _ _ _)
  have hn1 : (st.app r o).n = st.n + 1 := rfl
  have hLne : ∀ i, i < st.n → i ≠ r → (st.ob i).live = true → (μ i).b ≠ L.b := fun i hi e hl => by
    rcases hL with hL | hL
    · rw [hL]; exact hne i hi e hl
    · have := hlt i hi hl; omega
  constructor
  · refine ⟨fun i hi => ?_, fun i j hi hj hij ho hl => ?_⟩
    · have hi' : i < st.n + 1 := hi
      rcases Nat.lt_or_ge i st.n with h1 | h1
      · by_cases e : i = r
        · subst e; rw [hd]; trivial
        · rw [app_ne _ _ _ h1 e, hmu i h1]
          cases hl : (st.ob i).live with
          | true => exact (h.obj i h1).mono (Nat.le_succ _) hmu (hw _ (hlt i h1 hl) (hne i h1 e hl))
          | false =>
            have : st.ob i = .dead := by cases ho : st.ob i <;> simp_all [Ob.live]
            rw [this]; trivial
      · have : i = st.n := by omega
        subst this
        rw [app_ob, hnew]
        exact hO
    · have hi' : i < st.n + 1 := hi
      have hj' : j < st.n + 1 := hj
      have e1 : i ≠ r := fun e => by subst e; rw [hd] at ho; cases ho
      have e2 : j ≠ r := fun e => by subst e; rw [hd] at hl; cases hl
      rcases Nat.lt_or_ge i st.n with h1 | h1 <;> rcases Nat.lt_or_ge j st.n with h2 | h2
      · rw [app_ne _ _ _ h1 e1] at ho
        rw [app_ne _ _ _ h2 e2] at hl
        rw [hmu i h1, hmu j h2]
        exact h.sep i j h1 h2 hij ho hl
      · have : j = st.n := by omega
        subst this
        rw [app_ne _ _ _ h1 e1] at ho
        rw [hmu i h1, hnew]
        exact hLne i h1 e1 (Ob.live_of_own ho)
      · have : i = st.n := by omega
        subst this
        rw [app_ne _ _ _ h2 e2] at hl
        rw [hmu j h2, hnew]
        exact Ne.symm (hLne j h2 e2 hl)
      · omega
  · refine ⟨Nat.le_succ _, hmu, fun i hi hn => app_ne _ _ _ hi hn, fun i hi ho => ?_, fun i hi hl => ?_, hsz, fun b hb hdd => hw b hb fun e => hdd r hr rfl hown e.symm, fun i h1 h2 _ => ?_, hos, hta, hou⟩
    · by_cases e : i = r
      · subst e; exact hown
      · rw [app_ne _ _ _ hi e] at ho; exact ho
    · by_cases e : i = r
      · subst e; exact Ob.live_of_own hown
      · rw [app_ne _ _ _ hi e] at hl; exact hl
    · have h2' : i < st.n + 1 := h2
      have : i = st.n := by omega
      subst this
      rw [hnew]
      rcases hL with hL | hL
      · exact .inr ⟨r, hr, rfl, hown, hL.symm⟩
      · exact .inl hL

theorem pre_alloc (w : World) (o : Obj) : Pre w (w.alloc o) := ⟨by simp, fun b hb => heap_alloc_old w o hb, rfl, rfl, rfl⟩
theorem pre_drew_alloc (w : World) (o : Obj) : Pre w (w.drew.alloc o) := (Pre.drew w).trans (pre_alloc w.drew o)

/-- A new row of cells. -/
theorem push_row (h : Rel μ st w) {w1 : World} (hp1 : Pre w w1) (hs1 : w1.heap.size = w.heap.size) {l : List AV} {cs : Array Value} {E : Nat} (hl : l.length ≤ cs.size) (hv : ∀ j, j < l.length → VR st.n μ (l.getD j .junk) (cs.getD j undef)) :
    Rel (upd μ st.n ⟨w.heap.size, 0, cs.size⟩) (st.push (.row true l)) (w1.alloc (.cells cs E)) ∧ Stp No μ st w (upd μ st.n ⟨w.heap.size, 0, cs.size⟩) (st.push (.row true l)) (w1.alloc (.cells cs E)) := by
  refine push_ok h (hp1.trans (pre_alloc _ _)) (Nat.le_refl _) ⟨cs, E, (0, 0), ?_, fun _ => rfl, by simpa using hl, Nat.le_refl _, fun j hj => ?_⟩
  · rw [← hs1]; exact heap_alloc_new w1 _
  · rw [Nat.zero_add]
    exact VR.mono (Nat.le_succ _) (mu_push μ st _) _ _ (hv j hj)
end
end Go.Proofs.YtmphklmhhcmbnaaW.Ax
