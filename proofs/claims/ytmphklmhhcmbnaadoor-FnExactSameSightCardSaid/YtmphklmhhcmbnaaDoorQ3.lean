/- Merged: Yq Yn Yo Yp Yr. -/
import Derived.Test.YtmphklmhhcmbnaaDoorQ2
import Derived.Test.YtmphklmhhcmbnaaDoorMA
/- Plain words on a heap: what its values lead to; the cells of an object. -/
namespace Go.Proofs.YtmphklmhhcmbnaaDoorW.Ax
open Go Go.RowKit Go.Proofs Go.Proofs.YtmphklmhhcmbnaaDoor.Pure
set_option linter.unusedVariables false

theorem at_of {l : List Int} {v k b : Int} (h : Rf l v k b) (hb : 0 ≤ b) : v / 8 ∈ blocks l ∧ 0 ≤ v / 8 ∧ v / 8 + size l (v / 8).toNat ≤ l.length ∧ l.length ≤ 2000 ∧ kindOf l (v / 8).toNat = b ∧ 2 ≤ size l (v / 8).toNat := by
  have h3 := kat_in hb h.2
  have h4 := ((kat_of hb).1 h.2).2
  have h7 := size_pos (block_at h3.1).2.2.1
  exact ⟨h3.1, h3.2.1, by omega, h3.2.2.2, h4, h7.1⟩
theorem shp_of {l : List Int} (hp : Heap l) {v k b : Int} (h : Rf l v k b) (hb : 0 ≤ b) : ShpK l (v / 8) (size l (v / 8).toNat) b := by
  have h1 := at_of h hb
  have := hp.2 _ h1.1
  unfold Shp at this
  rwa [h1.2.2.2.2.1] at this
/-- A cell. -/
theorem cell_at {l : List Int} (hp : Heap l) {v : Int} (h : Rf l v 7 3) : v % 8 = 7 ∧ v / 8 ∈ blocks l ∧ 0 ≤ v / 8 ∧ v / 8 + 4 ≤ l.length ∧ l.length ≤ 2000 ∧ Rf l (rd l (v / 8 + 1)) 4 1 ∧ Plain l (rd l (v / 8 + 2)) ∧ Nxt l (rd l (v / 8 + 3)) 3 := by
  have h1 := at_of h (by omega)
  have h2 := (shp_of hp h (by omega)).2.2.1 rfl
  have h3 := h2.1.1.1
  unfold Spl at h3
  exact ⟨h.1, h1.1, h1.2.1, by omega, h1.2.2.2.1, h2.1.1.2, h2.1.2, h2.2⟩
/-- An object. -/
theorem obj_at {l : List Int} (hp : Heap l) {v : Int} (h : Rf l v 5 2) : v % 8 = 5 ∧ v / 8 ∈ blocks l ∧ 0 ≤ v / 8 ∧ v / 8 + 3 ≤ l.length ∧ l.length ≤ 2000 ∧ (rd l (v / 8 + 1) = 1 ∨ Rf l (rd l (v / 8 + 1)) 5 2) ∧ Nxt l (rd l (v / 8 + 2)) 3 := by
  have h1 := at_of h (by omega)
  have h2 := (shp_of hp h (by omega)).2.1 rfl
  have h3 := h2.1.1
  unfold Spl at h3
  exact ⟨h.1, h1.1, h1.2.1, by omega, h1.2.2.2.1, h2.1.2, h2.2⟩
/-- A text. -/
theorem text_at {l : List Int} (hp : Heap l) {v : Int} (h : Rf l v 4 1) : v % 8 = 4 ∧ v / 8 ∈ blocks l ∧ 0 ≤ v / 8 ∧ v / 8 + size l (v / 8).toNat ≤ l.length ∧ l.length ≤ 2000 ∧ 2 ≤ size l (v / 8).toNat ∧ Txt l (v / 8) (size l (v / 8).toNat) := by
  have h1 := at_of h (by omega)
  exact ⟨h.1, h1.1, h1.2.1, h1.2.2.1, h1.2.2.2.1, h1.2.2.2.2.2, (shp_of hp h (by omega)).1 rfl⟩
theorem leads_rf {l : List Int} {v i : Int} (h : Leads l v i) : (v % 8 = 4 → Rf l v 4 1) ∧ (v % 8 = 5 → Rf l v 5 2) ∧ (v % 8 = 6 → Rf l v 6 4) ∧ (v % 8 = 7 → Rf l v 7 i) := ⟨fun e => ⟨e, h.2.1 e⟩, fun e => ⟨e, h.2.2.1 e⟩, fun e => ⟨e, h.2.2.2.1 e⟩, fun e => ⟨e, h.2.2.2.2 e⟩⟩

/-- What follows a cell; where it ends. -/
def nxC (l : List Int) (v : Int) : Int := rd l (v / 8 + 3)
def stC (v : Int) : Bool := decide (v = 0)
/-- The cells of an object, each once; whether they go in a circle. -/
def cellsR (l : List Int) (obj : Int) : List Int × Bool := chain (nxC l) stC (l.length + 1) (rd l (obj / 8 + 2)) []
def places (l : List Int) (obj : Int) : List Int := (cellsR l obj).1.map (· / 8)
/-- The first cell of a name. -/
def ownC (l : List Int) (obj name : Int) : Option Int := (cellsR l obj).1.find? fun v => decide (rd l (v / 8 + 1) = name)
def ownV (l : List Int) (obj name : Int) : Int := match ownC l obj name with | some v => rd l (v / 8 + 2) | none => 0
def OwnR (l : List Int) (obj name : Int) : AV := .tup [I (ownV l obj name), .bool (ownC l obj name).isSome]
/-- The cells on the way along a chain. -/
structure Way (l : List Int) (C : List Int × Bool) (d : Nat) (v : Int) (out : List Int) : Prop where
  on : On (nxC l) stC C d v out
  d : d + out.length = l.length + 1
  rf : ∀ x ∈ out, Rf l x 7 3
  nx : Nxt l v 3
theorem Way.len {l : List Int} {C : List Int × Bool} {d : Nat} {v : Int} {out : List Int} (h : Way l C d v out) {a : Int} (ha : a ∈ blocks l) : out.length < l.length ∧ ∃ e, d = e + 1 := by
  have := chain_len (k := 7) h.on.nd (fun x hx => ⟨(h.rf x hx).1, (at_of (h.rf x hx) (by omega)).1⟩) ha
  have := h.d
  exact ⟨by omega, d - 1, by omega⟩
theorem way_start {l : List Int} (hp : Heap l) {obj : Int} (h : Rf l obj 5 2) : Way l (cellsR l obj) (l.length + 1) (rd l (obj / 8 + 2)) [] := ⟨on_start .., by simp, fun x hx => by simp at hx, (obj_at hp h).2.2.2.2.2.2⟩
theorem Way.step {l : List Int} (hp : Heap l) {C : List Int × Bool} {d : Nat} {v : Int} {out : List Int} (h : Way l C (d + 1) v out) (hv : v ≠ 0) (hn : v ∉ out) : Way l C d (nxC l v) (out ++ [v]) where
  on := h.on.step (decide_eq_false hv) hn
  d := by have := h.d; simp; omega
  rf := fun x hx => by
    rcases List.mem_append.1 hx with hx | hx
    · exact h.rf x hx
    · rw [List.mem_singleton.1 hx]; exact h.nx.resolve_left hv
  nx := (cell_at hp (h.nx.resolve_left hv)).2.2.2.2.2.2.2
theorem Way.mem {l : List Int} {C : List Int × Bool} {d : Nat} {v : Int} {out : List Int} (h : Way l C d v out) (hv : v ≠ 0) : v / 8 ∈ out.map (· / 8) ↔ v ∈ out := mem_map8 (fun x hx => (h.rf x hx).1) (h.nx.resolve_left hv).1
theorem places_at {l : List Int} (hp : Heap l) {obj : Int} (h : Rf l obj 5 2) : ∀ (d : Nat) (v : Int) (out : List Int), Way l (cellsR l obj) d v out → ∀ x ∈ (cellsR l obj).1, Rf l x 7 3
  | 0, v, out, hw, x, hx => by obtain ⟨_, e, he⟩ := hw.len (obj_at hp h).2.1; cases he
  | d + 1, v, out, hw, x, hx => by
    by_cases hv : v = 0
    · have := hw.on.stop_ (decide_eq_true hv)
      rw [this] at hx
      exact hw.rf x hx
    · by_cases hm : v ∈ out
      · have := (hw.on.circle (decide_eq_false hv) hm).1
        rw [this] at hx
        exact hw.rf x hx
      · exact places_at hp h d _ _ (hw.step hp hv hm) x hx
theorem cells_rf {l : List Int} (hp : Heap l) {obj : Int} (h : Rf l obj 5 2) : ∀ x ∈ (cellsR l obj).1, Rf l x 7 3 := places_at hp h _ _ _ (way_start hp h)
end Go.Proofs.YtmphklmhhcmbnaaDoorW.Ax

/- Chapter 4, walked: texts. -/
namespace Go.Proofs.YtmphklmhhcmbnaaDoorW.Ax
open Go Go.RowKit Go.Proofs Go.Proofs.YtmphklmhhcmbnaaDoor.Pure
set_option linter.unusedVariables false
set_option maxRecDepth 100000

/-- The bytes of a text. -/
def tx (l : List Int) (a : Int) (k : Nat) : List Int := (List.range k).map fun i : Nat => rd l (a + 2 + i)
theorem tx_len (l : List Int) (a : Int) (k : Nat) : (tx l a k).length = k := by simp [tx]
theorem tx_app (l : List Int) (a : Int) (k : Nat) : tx l a (k + 1) = tx l a k ++ [rd l (a + 2 + k)] := by simp [tx, List.range_succ]
def txt (l : List Int) (a : Int) : ByteArray := bstr (tx l a (rd l (a + 1)).toNat)
theorem At.some_of {l : List Int} {r : Option Nat} {o : Nat} {st : St} (hx : At st r o l) (h : 0 < l.length) : ∃ q, r = some q := by
  cases r with
  | some q => exact ⟨q, rfl⟩
  | none =>
    have := hx 0 h
    cases this
end Go.Proofs.YtmphklmhhcmbnaaDoorW.Ax

/- References; texts that are looked for: walked. -/
namespace Go.Proofs.YtmphklmhhcmbnaaDoorW.Ax
open Go Go.RowKit Go.Proofs Go.Proofs.YtmphklmhhcmbnaaDoor.Pure
set_option linter.unusedVariables false
set_option maxRecDepth 100000

end Go.Proofs.YtmphklmhhcmbnaaDoorW.Ax

/- Texts that are looked for: walked. -/
namespace Go.Proofs.YtmphklmhhcmbnaaDoorW.Ax
open Go Go.RowKit Go.Proofs Go.Proofs.YtmphklmhhcmbnaaDoor.Pure
set_option linter.unusedVariables false
set_option maxRecDepth 100000

theorem str_eq (s t : ByteArray) : (s.toList == t.toList) = decide (s = t) := by
  have key : ∀ u : ByteArray, u.toList = u.data.toList := fun u => by
    have loop : ∀ (n i : Nat) (r : List UInt8), u.size - i = n → ByteArray.toList.loop u i r = r.reverse ++ u.data.toList.drop i := by
      intro n
      induction n with
      | zero =>
        intro i r h
        unfold ByteArray.toList.loop
        have hs : u.data.toList.length = u.size := Array.length_toList
        rw [if_neg (by omega), List.drop_of_length_le (by omega)]; simp
      | succ n ih =>
        intro i r h
        unfold ByteArray.toList.loop
        have hi : i < u.size := by omega
        have hl : i < u.data.toList.length := by rw [Array.length_toList]; exact hi
        rw [if_pos hi, ih (i + 1) _ (by omega), List.drop_eq_getElem_cons hl]
        have hg : u.get! i = u.data.toList[i] := by
          have hi' : i < u.data.size := hi
          show u.data[i]! = _
          rw [getElem!_pos u.data i hi']
          exact (Array.getElem_toList hi').symm
        rw [hg]; simp
    have := loop _ 0 [] rfl
    simpa [ByteArray.toList] using this
  rw [key, key]
  by_cases h : s = t
  · subst h; simp
  · rw [decide_eq_false h]
    have : s.data.toList ≠ t.data.toList := fun e => h (ByteArray.ext (Array.toList_inj.1 e))
    simpa using this
theorem bstr_size (ns : List Int) : (bstr ns).size = ns.length := by
  have key : ∀ (ns : List Int) (s : ByteArray), (ns.foldl (fun r n => r.push (UInt8.ofNat n.toNat)) s).size = s.size + ns.length := by
    intro ns
    induction ns with
    | nil => intro s; simp
    | cons n ns ih => intro s; rw [List.foldl_cons, ih]; simp [ByteArray.size_push]; omega
  have := key ns ByteArray.empty
  unfold bstr
  rw [this]; simp
theorem txt_size {l : List Int} {a n : Int} (h : Txt l a n) : ((txt l a).size : Int) = rd l (a + 1) := by
  unfold txt
  rw [bstr_size, tx_len]
  have := h.1
  omega

/-- The first text block of these bytes. -/
def tfind (l : List Int) (t : ByteArray) : List Int → Option Int
  | [] => none
  | b :: r => if kindOf l b.toNat = 1 ∧ txt l b = t then some b else tfind l t r
def tfV (x : Option Int) : Int := match x with | some b => 8 * b + 4 | none => 0
def TfR (x : Option Int) : AV := .tup [I (tfV x), .bool x.isSome]
theorem tfind_app {l : List Int} {t : ByteArray} : ∀ (r s : List Int), (∀ b ∈ r, ¬ (kindOf l b.toNat = 1 ∧ txt l b = t)) → tfind l t (r ++ s) = tfind l t s
  | [], s, _ => rfl
  | c :: r, s, h => by
    rw [List.cons_append, tfind, if_neg (h c List.mem_cons_self)]
    exact tfind_app r s fun b hb => h b (List.mem_cons_of_mem _ hb)
theorem txt_of {l : List Int} (hp : Heap l) {a : Int} (ha : a ∈ blocks l) (hk : kindOf l a.toNat = 1) : 0 ≤ a ∧ a + size l a.toNat ≤ l.length ∧ l.length ≤ 2000 ∧ (2 : Int) ≤ size l a.toNat ∧ Txt l a (size l a.toNat) ∧ a ≤ 1999 := by
  have h := block_at ha
  have hs := size_pos h.2.2.1
  have := hp.2 a ha
  unfold Shp at this
  rw [hk] at this
  exact ⟨h.1, by omega, h.2.2.2, by omega, this.1 rfl, by omega⟩
end Go.Proofs.YtmphklmhhcmbnaaDoorW.Ax

/- Chapter 4, walked: texts that are found, texts of values. -/
namespace Go.Proofs.YtmphklmhhcmbnaaDoorW.Ax
open Go Go.RowKit Go.Proofs Go.Proofs.YtmphklmhhcmbnaaDoor.Pure
set_option linter.unusedVariables false
set_option maxRecDepth 100000

end Go.Proofs.YtmphklmhhcmbnaaDoorW.Ax
