/- Plain words on a heap: what its values lead to; the cells of an object. -/
import Derived.Test.YtfhkjhnaihhdmaaYj
import Derived.Test.YtfhkjhnaihhdmaaMA
namespace Go.Proofs.YtfhkjhnaihhdmaaW.Ax
open Go Go.RowKit Go.Proofs Go.Proofs.Ytfhkjhnaihhdmaa.Pure
set_option linter.unusedVariables false

theorem at_of {l : List Int} {v k b : Int} (h : Rf l v k b) (hb : 0 ≤ b) : v / 8 ∈ blocks l ∧ 0 ≤ v / 8 ∧ v / 8 + size l (v / 8).toNat ≤ l.length ∧ l.length ≤ 2000 ∧ kindOf l (v / 8).toNat = b ∧ 2 ≤ size l (v / 8).toNat := by
  have h3 := kat_in hb h.2
  have h4 := ((kat_of hb).1 h.2).2
  have h7 := size_pos (block_at h3.1).2.2.1
  exact ⟨h3.1, h3.2.1, by omega, h3.2.2.2, h4, h7.1⟩
theorem shp_of {l : List Int} (hp : Heap l) {v k b : Int} (h : Rf l v k b) (hb : 0 ≤ b) : ShpK l (v / 8) (size l (v / 8).toNat) b := by
  have h1 := at_of h hb
  have := hp.2 _ h1.1
  unfold Shp at this
  rwa [h1.2.2.2.2.1] at this
/-- A cell. -/
theorem cell_at {l : List Int} (hp : Heap l) {v : Int} (h : Rf l v 7 3) : v % 8 = 7 ∧ v / 8 ∈ blocks l ∧ 0 ≤ v / 8 ∧ v / 8 + 4 ≤ l.length ∧ l.length ≤ 2000 ∧ Rf l (rd l (v / 8 + 1)) 4 1 ∧ Plain l (rd l (v / 8 + 2)) ∧ Nxt l (rd l (v / 8 + 3)) 3 := by
  have h1 := at_of h (by omega)
  have h2 := (shp_of hp h (by omega)).2.2.1 rfl
  have h3 := h2.1.1.1
  unfold Spl at h3
  exact ⟨h.1, h1.1, h1.2.1, by omega, h1.2.2.2.1, h2.1.1.2, h2.1.2, h2.2⟩
/-- An object. -/
theorem obj_at {l : List Int} (hp : Heap l) {v : Int} (h : Rf l v 5 2) : v % 8 = 5 ∧ v / 8 ∈ blocks l ∧ 0 ≤ v / 8 ∧ v / 8 + 3 ≤ l.length ∧ l.length ≤ 2000 ∧ (rd l (v / 8 + 1) = 1 ∨ Rf l (rd l (v / 8 + 1)) 5 2) ∧ Nxt l (rd l (v / 8 + 2)) 3 := by
  have h1 := at_of h (by omega)
  have h2 := (shp_of hp h (by omega)).2.1 rfl
  have h3 := h2.1.1
  unfold Spl at h3
  exact ⟨h.1, h1.1, h1.2.1, by omega, h1.2.2.2.1, h2.1.2, h2.2⟩
/-- A text. -/
theorem text_at {l : List Int} (hp : Heap l) {v : Int} (h : Rf l v 4 1) : v % 8 = 4 ∧ v / 8 ∈ blocks l ∧ 0 ≤ v / 8 ∧ v / 8 + size l (v / 8).toNat ≤ l.length ∧ l.length ≤ 2000 ∧ 2 ≤ size l (v / 8).toNat ∧ Txt l (v / 8) (size l (v / 8).toNat) := by
  have h1 := at_of h (by omega)
  exact ⟨h.1, h1.1, h1.2.1, h1.2.2.1, h1.2.2.2.1, h1.2.2.2.2.2, (shp_of hp h (by omega)).1 rfl⟩
theorem leads_rf {l : List Int} {v i : Int} (h : Leads l v i) : (v % 8 = 4 → Rf l v 4 1) ∧ (v % 8 = 5 → Rf l v 5 2) ∧ (v % 8 = 6 → Rf l v 6 4) ∧ (v % 8 = 7 → Rf l v 7 i) := ⟨fun e => ⟨e, h.2.1 e⟩, fun e => ⟨e, h.2.2.1 e⟩, fun e => ⟨e, h.2.2.2.1 e⟩, fun e => ⟨e, h.2.2.2.2 e⟩⟩

/-- What follows a cell; where it ends. -/
def nxC (l : List Int) (v : Int) : Int := rd l (v / 8 + 3)
def stC (v : Int) : Bool := decide (v = 0)
/-- The cells of an object, each once; whether they go in a circle. -/
def cellsR (l : List Int) (obj : Int) : List Int × Bool := chain (nxC l) stC (l.length + 1) (rd l (obj / 8 + 2)) []
def places (l : List Int) (obj : Int) : List Int := (cellsR l obj).1.map (· / 8)
/-- The first cell of a name. -/
def ownC (l : List Int) (obj name : Int) : Option Int := (cellsR l obj).1.find? fun v => decide (rd l (v / 8 + 1) = name)
def ownV (l : List Int) (obj name : Int) : Int := match ownC l obj name with | some v => rd l (v / 8 + 2) | none => 0
def OwnR (l : List Int) (obj name : Int) : AV := .tup [I (ownV l obj name), .bool (ownC l obj name).isSome]
/-- The cells on the way along a chain. -/
structure Way (l : List Int) (C : List Int × Bool) (d : Nat) (v : Int) (out : List Int) : Prop where
  on : On (nxC l) stC C d v out
  d : d + out.length = l.length + 1
  rf : ∀ x ∈ out, Rf l x 7 3
  nx : Nxt l v 3
theorem Way.len {l : List Int} {C : List Int × Bool} {d : Nat} {v : Int} {out : List Int} (h : Way l C d v out) {a : Int} (ha : a ∈ blocks l) : out.length < l.length ∧ ∃ e, d = e + 1 := by
  have := chain_len (k := 7) h.on.nd (fun x hx => ⟨(h.rf x hx).1, (at_of (h.rf x hx) (by omega)).1⟩) ha
  have := h.d
  exact ⟨by omega, d - 1, by omega⟩
theorem way_start {l : List Int} (hp : Heap l) {obj : Int} (h : Rf l obj 5 2) : Way l (cellsR l obj) (l.length + 1) (rd l (obj / 8 + 2)) [] := ⟨on_start .., by simp, fun x hx => by simp at hx, (obj_at hp h).2.2.2.2.2.2⟩
theorem Way.step {l : List Int} (hp : Heap l) {C : List Int × Bool} {d : Nat} {v : Int} {out : List Int} (h : Way l C (d + 1) v out) (hv : v ≠ 0) (hn : v ∉ out) : Way l C d (nxC l v) (out ++ [v]) where
  on := h.on.step (decide_eq_false hv) hn
  d := by have := h.d; simp; omega
  rf := fun x hx => by
    rcases List.mem_append.1 hx with hx | hx
    · exact h.rf x hx
    · rw [List.mem_singleton.1 hx]; exact h.nx.resolve_left hv
  nx := (cell_at hp (h.nx.resolve_left hv)).2.2.2.2.2.2.2
theorem Way.mem {l : List Int} {C : List Int × Bool} {d : Nat} {v : Int} {out : List Int} (h : Way l C d v out) (hv : v ≠ 0) : v / 8 ∈ out.map (· / 8) ↔ v ∈ out := mem_map8 (fun x hx => (h.rf x hx).1) (h.nx.resolve_left hv).1
theorem places_at {l : List Int} (hp : Heap l) {obj : Int} (h : Rf l obj 5 2) : ∀ (d : Nat) (v : Int) (out : List Int), Way l (cellsR l obj) d v out → ∀ x ∈ (cellsR l obj).1, Rf l x 7 3
  | 0, v, out, hw, x, hx => by obtain ⟨_, e, he⟩ := hw.len (obj_at hp h).2.1; cases he
  | d + 1, v, out, hw, x, hx => by
    by_cases hv : v = 0
    · have := hw.on.stop_ (decide_eq_true hv)
      rw [this] at hx
      exact hw.rf x hx
    · by_cases hm : v ∈ out
      · have := (hw.on.circle (decide_eq_false hv) hm).1
        rw [this] at hx
        exact hw.rf x hx
      · exact places_at hp h d _ _ (hw.step hp hv hm) x hx
theorem cells_rf {l : List Int} (hp : Heap l) {obj : Int} (h : Rf l obj 5 2) : ∀ x ∈ (cellsR l obj).1, Rf l x 7 3 := places_at hp h _ _ _ (way_start hp h)
end Go.Proofs.YtfhkjhnaihhdmaaW.Ax
