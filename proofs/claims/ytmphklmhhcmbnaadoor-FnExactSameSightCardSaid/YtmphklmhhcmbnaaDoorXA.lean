/- Merged: Xa Xb Xc Xd Xe Xf Xg Xh Xi Xj. -/
import Derived.Still
import Derived.Tactics
import Derived.WalkKit
import Derived.Below
import Derived.KernelRfl
import Derived.Deep.LoopGhost
import Derived.Deep.Quiet
import Derived.Laws.BitsLemmas
import Derived.Laws.Rows
import Derived.Laws.Cells
import Derived.Laws.CopyRow
/- An abstract store for walks: values, blocks by number, and what it means that a world is described by such a store. No program in sight. -/
namespace Go.Proofs.YtmphklmhhcmbnaaDoorW.Ax
open Go Go.RowKit
set_option linter.unusedVariables false

inductive AV where
  | junk
  | und
  | int (k : IntKind) (n : Int)
  | bool (b : Bool)
  | str (s : ByteArray)
  | sl (r : Option Nat) (o n : Nat)
  | ptr (r : Option Nat) (o : Nat)
  | map (r : Nat)
  | fn (f : Nat) (cap : List AV)
  | agg (cs : List AV)
  | tup (vs : List AV)

structure Loc where
  b : Nat
  s : Nat
  z : Nat

mutual
def VR (n : Nat) (μ : Nat → Loc) : AV → Value → Prop
  | .junk, _ => True
  | .und, v => v = undef
  | .int k x, v => v = .int k x
  | .bool x, v => v = .bool x
  | .str x, v => v = .string x
  | .sl none o m, v => o = 0 ∧ m = 0 ∧ ∃ A, v = .slice A 0 0
  | .sl (some r) o m, v => r < n ∧ ∃ A c, v = .slice (some A) m c ∧ m ≤ c ∧ (c = 0 ∨ (A = ⟨(μ r).b, (μ r).s + o, none⟩ ∧ (μ r).s + o + c ≤ (μ r).z ∧ c ≤ 9223372036854775807))
  | .ptr none _, _ => False
  | .ptr (some r) o, v => r < n ∧ v = .pointer (some ⟨(μ r).b, (μ r).s + o, none⟩)
  | .map r, v => r < n ∧ v = .map (some (μ r).b)
  | .fn f cap, v => ∃ l : List Value, v = .func (.func f) #[] l.toArray ∧ VRL n μ cap l
  | .agg cs, v => ∃ l : List Value, v = .agg l.toArray ∧ VRL n μ cs l
  | .tup vs, v => ∃ l : List Value, v = .tuple l.toArray ∧ VRL n μ vs l
def VRL (n : Nat) (μ : Nat → Loc) : List AV → List Value → Prop
  | [], l => l = []
  | c :: cs, l => ∃ v l', l = v :: l' ∧ VR n μ c v ∧ VRL n μ cs l'
end

mutual
theorem VR.mono {n n' : Nat} {μ μ' : Nat → Loc} (hn : n ≤ n') (hμ : ∀ i, i < n → μ' i = μ i) : ∀ (a : AV) (v : Value), VR n μ a v → VR n' μ' a v
  | .junk, _, _ => by simp [VR]
  | .und, _, h => by simpa [VR] using h
  | .int _ _, _, h => by simpa [VR] using h
  | .bool _, _, h => by simpa [VR] using h
  | .str _, _, h => by simpa [VR] using h
  | .sl none _ _, _, h => by simpa [VR] using h
  | .sl (some r) _ _, _, h => by
    simp only [VR] at h ⊢
    obtain ⟨h1, h2⟩ := h
    rw [hμ r h1]
    exact ⟨by omega, h2⟩
  | .ptr none _, _, h => by simp [VR] at h
  | .ptr (some r) _, _, h => by
    simp only [VR] at h ⊢
    obtain ⟨h1, h2⟩ := h
    rw [hμ r h1]
    exact ⟨by omega, h2⟩
  | .map r, _, h => by
    simp only [VR] at h ⊢
    obtain ⟨h1, h2⟩ := h
    rw [hμ r h1]
    exact ⟨by omega, h2⟩
  | .fn _ cap, _, h => by
    simp only [VR] at h ⊢
    obtain ⟨l, h1, h2⟩ := h
    exact ⟨l, h1, VRL.mono hn hμ cap l h2⟩
  | .agg cs, _, h => by
    simp only [VR] at h ⊢
    obtain ⟨l, h1, h2⟩ := h
    exact ⟨l, h1, VRL.mono hn hμ cs l h2⟩
  | .tup vs, _, h => by
    simp only [VR] at h ⊢
    obtain ⟨l, h1, h2⟩ := h
    exact ⟨l, h1, VRL.mono hn hμ vs l h2⟩
theorem VRL.mono {n n' : Nat} {μ μ' : Nat → Loc} (hn : n ≤ n') (hμ : ∀ i, i < n → μ' i = μ i) : ∀ (a : List AV) (l : List Value), VRL n μ a l → VRL n' μ' a l
  | [], _, h => by simpa [VRL] using h
  | c :: cs, _, h => by
    simp only [VRL] at h ⊢
    obtain ⟨v, l', h1, h2, h3⟩ := h
    exact ⟨v, l', h1, VR.mono hn hμ c v h2, VRL.mono hn hμ cs l' h3⟩
end

theorem VRL.length {n : Nat} {μ : Nat → Loc} : ∀ {a : List AV} {l : List Value}, VRL n μ a l → l.length = a.length
  | [], _, h => by simp only [VRL] at h; simp [h]
  | c :: cs, _, h => by
    simp only [VRL] at h
    obtain ⟨v, l', rfl, _, h3⟩ := h
    simp [VRL.length h3]
theorem VRL.get {n : Nat} {μ : Nat → Loc} : ∀ {a : List AV} {l : List Value}, VRL n μ a l → ∀ i, VR n μ (a.getD i .junk) (l.getD i undef)
  | [], _, _, i => by simp [VR]
  | c :: cs, _, h, i => by
    simp only [VRL] at h
    obtain ⟨v, l', rfl, h2, h3⟩ := h
    cases i with
    | zero => simpa using h2
    | succ i => simpa using VRL.get h3 i
theorem VRL.of_get {n : Nat} {μ : Nat → Loc} : ∀ {a : List AV} {l : List Value}, l.length = a.length → (∀ i, i < a.length → VR n μ (a.getD i .junk) (l.getD i undef)) → VRL n μ a l
  | [], l, hl, _ => by simp only [VRL]; exact List.eq_nil_of_length_eq_zero (by simpa using hl)
  | c :: cs, [], hl, _ => by simp at hl
  | c :: cs, v :: l, hl, h => by
    simp only [VRL]
    exact ⟨v, l, rfl, by simpa using h 0 (by simp), VRL.of_get (by simpa using hl) fun i hi => by simpa using h (i + 1) (by simpa using hi)⟩
theorem VRL.set {n : Nat} {μ : Nat → Loc} {a : List AV} {l : List Value} (h : VRL n μ a l) (i : Nat) {x : AV} {v : Value} (hv : VR n μ x v) : VRL n μ (a.set i x) (l.set i v) := by
  refine VRL.of_get (by simp [h.length]) fun j hj => ?_
  have hj' : j < a.length := by simpa using hj
  have hl : j < l.length := by rw [h.length]; exact hj'
  by_cases e : i = j
  · subst e; simpa [List.getD, List.getElem?_set, hj', hl] using hv
  · simpa [List.getD, List.getElem?_set, e] using h.get j
theorem VRL.append {n : Nat} {μ : Nat → Loc} : ∀ {a b : List AV} {l m : List Value}, VRL n μ a l → VRL n μ b m → VRL n μ (a ++ b) (l ++ m)
  | [], _, _, _, h, h' => by simp only [VRL] at h; subst h; simpa using h'
  | c :: cs, _, _, _, h, h' => by
    simp only [VRL] at h
    obtain ⟨v, l', rfl, h2, h3⟩ := h
    simp only [List.cons_append, VRL]
    exact ⟨v, _, rfl, h2, VRL.append h3 h'⟩

inductive Ob where
  | dead
  | row (own : Bool) (l : List AV)
  | map (es : List (Int × AV))
  | fix (b : Nat) (vs : Array Value)
  | mrow (s : ByteArray)
def Ob.own : Ob → Bool
  | .row o _ => o
  | .map _ => true
  | .dead => false
  | .fix _ _ => false
  | .mrow _ => true
def Ob.live : Ob → Bool
  | .dead => false
  | _ => true
theorem Ob.live_of_own {o : Ob} (h : o.own = true) : o.live = true := by cases o <;> simp_all [Ob.own, Ob.live]

structure St where
  n : Nat
  ob : Nat → Ob

def ERL (n : Nat) (μ : Nat → Loc) : List (Int × AV) → List MapEntry → Prop
  | [], l => l = []
  | (k, x) :: es, l => ∃ (m : MapEntry) (l' : List MapEntry), l = m :: l' ∧ m.key = .int .i64 k ∧ VR n μ x m.val ∧ ERL n μ es l'
theorem ERL.mono {n n' : Nat} {μ μ' : Nat → Loc} (hn : n ≤ n') (hμ : ∀ i, i < n → μ' i = μ i) : ∀ (es : List (Int × AV)) (l : List MapEntry), ERL n μ es l → ERL n' μ' es l
  | [], _, h => h
  | (k, x) :: es, l, h => by
    simp only [ERL] at h ⊢
    obtain ⟨m, l', h1, h2, h3, h4⟩ := h
    exact ⟨m, l', h1, h2, VR.mono hn hμ _ _ h3, ERL.mono hn hμ es l' h4⟩

def ObR (n : Nat) (μ : Nat → Loc) (w : World) (L : Loc) : Ob → Prop
  | .dead => True
  | .row own l => ∃ cs T fz, w.heap[L.b]? = some (.cells cs T fz) ∧ (own = true → fz = (0, 0)) ∧ L.s + l.length ≤ L.z ∧ L.z ≤ cs.size ∧ ∀ j, j < l.length → VR n μ (l.getD j .junk) (cs.getD (L.s + j) undef)
  | .map es => ∃ (l : List MapEntry) (clock : Nat), w.heap[L.b]? = some (.map l.toArray clock) ∧ ERL n μ es l
  | .fix b vs => L.b = b ∧ ∃ E fz, w.heap[b]? = some (.cells vs E fz)
  | .mrow s => ∃ cs E fz, w.heap[L.b]? = some (.cells cs E fz) ∧ (fz = (0, 0) ∨ cs.size ≤ fz.1) ∧ L.s + s.size ≤ L.z ∧ L.z ≤ cs.size ∧ ∀ j, j < s.size → cs.getD (L.s + j) undef = .int .u8 (s.data.toList.getD j 0).toNat

theorem ObR.mono {n n' : Nat} {μ μ' : Nat → Loc} (hn : n ≤ n') (hμ : ∀ i, i < n → μ' i = μ i) {w w' : World} {L : Loc} {o : Ob} (hw : w'.heap[L.b]? = w.heap[L.b]?) (h : ObR n μ w L o) : ObR n' μ' w' L o := by
  cases o with
  | dead => trivial
  | row own l =>
    obtain ⟨cs, T, fz, h1, h2, h3, h4, h5⟩ := h
    exact ⟨cs, T, fz, hw.trans h1, h2, h3, h4, fun j hj => VR.mono hn hμ _ _ (h5 j hj)⟩
  | map es =>
    obtain ⟨l, clock, h1, h2⟩ := h
    exact ⟨l, clock, hw.trans h1, ERL.mono hn hμ _ _ h2⟩
  | fix b vs =>
    obtain ⟨h1, E, fz, h2⟩ := h
    subst h1
    exact ⟨rfl, E, fz, hw.trans h2⟩
  | mrow s =>
    obtain ⟨cs, E, fz, h1, h2⟩ := h
    exact ⟨cs, E, fz, hw.trans h1, h2⟩

theorem ObR.lt {n : Nat} {μ : Nat → Loc} {w : World} {L : Loc} {o : Ob} (h : ObR n μ w L o) (hl : o.live = true) : L.b < w.heap.size := by
  cases o with
  | dead => simp [Ob.live] at hl
  | row own l =>
    obtain ⟨cs, T, fz, h1, _⟩ := h
    exact (Array.getElem?_eq_some_iff.1 h1).1
  | map es =>
    obtain ⟨l, clock, h1, _⟩ := h
    exact (Array.getElem?_eq_some_iff.1 h1).1
  | fix b vs =>
    obtain ⟨h1, E, fz, h2⟩ := h
    subst h1
    exact (Array.getElem?_eq_some_iff.1 h2).1
  | mrow s =>
    obtain ⟨cs, E, fz, h1, _⟩ := h
    exact (Array.getElem?_eq_some_iff.1 h1).1

structure Rel (μ : Nat → Loc) (st : St) (w : World) : Prop where
  obj : ∀ i, i < st.n → ObR st.n μ w (μ i) (st.ob i)
  sep : ∀ i j, i < st.n → j < st.n → i ≠ j → (st.ob i).own = true → (st.ob j).live = true → (μ i).b ≠ (μ j).b

/-- From one world to a later one: what was there stays, but for the own blocks of 'T'. -/
structure Stp (T : Nat → Prop) (μ : Nat → Loc) (st : St) (w : World) (μ' : Nat → Loc) (st' : St) (w' : World) : Prop where
  n : st.n ≤ st'.n
  mu : ∀ i, i < st.n → μ' i = μ i
  ob : ∀ i, i < st.n → ¬ T i → st'.ob i = st.ob i
  own : ∀ i, i < st.n → (st'.ob i).own = true → (st.ob i).own = true
  live : ∀ i, i < st.n → (st'.ob i).live = true → (st.ob i).live = true
  size : w.heap.size ≤ w'.heap.size
  blk : ∀ b, b < w.heap.size → (∀ i, i < st.n → T i → (st.ob i).own = true → (μ i).b ≠ b) → w'.heap[b]? = w.heap[b]?
  new : ∀ i, st.n ≤ i → i < st'.n → (st'.ob i).live = true → w.heap.size ≤ (μ' i).b ∨ ∃ j, j < st.n ∧ T j ∧ (st.ob j).own = true ∧ (μ j).b = (μ' i).b
  os : w'.os = w.os
  tape : w'.tape = w.tape
  output : w'.output = w.output

theorem Stp.refl (T : Nat → Prop) (μ : Nat → Loc) (st : St) (w : World) : Stp T μ st w μ st w :=
  ⟨Nat.le_refl _, fun _ _ => rfl, fun _ _ _ => rfl, fun _ _ h => h, fun _ _ h => h, Nat.le_refl _, fun _ _ _ => rfl, fun i h1 h2 => by omega, rfl, rfl, rfl⟩

theorem Stp.trans {T T' : Nat → Prop} {μ st w μ₁ st₁ w₁ μ₂ st₂ w₂} (h : Stp T μ st w μ₁ st₁ w₁) (k : Stp T' μ₁ st₁ w₁ μ₂ st₂ w₂) (hT : ∀ i, i < st.n → T' i → T i) : Stp T μ st w μ₂ st₂ w₂ where
  n := Nat.le_trans h.n k.n
  mu := fun i hi => (k.mu i (Nat.lt_of_lt_of_le hi h.n)).trans (h.mu i hi)
  ob := fun i hi hn => (k.ob i (Nat.lt_of_lt_of_le hi h.n) (fun ht => hn (hT i hi ht))).trans (h.ob i hi hn)
  own := fun i hi ho => h.own i hi (k.own i (Nat.lt_of_lt_of_le hi h.n) ho)
  live := fun i hi ho => h.live i hi (k.live i (Nat.lt_of_lt_of_le hi h.n) ho)
  size := Nat.le_trans h.size k.size
  blk := fun b hb hd => by
    refine (k.blk b (Nat.lt_of_lt_of_le hb h.size) fun i hi ht ho => ?_).trans (h.blk b hb hd)
    rcases Nat.lt_or_ge i st.n with hlt | hge
    · rw [h.mu i hlt]
      exact hd i hlt (hT i hlt ht) (h.own i hlt ho)
    · rcases h.new i hge hi (Ob.live_of_own ho) with hh | ⟨j, hj, htj, hoj, hbj⟩
      · omega
      · rw [← hbj]; exact hd j hj htj hoj
  new := fun i h1 h2 ho => by
    rcases Nat.lt_or_ge i st₁.n with hlt | hge
    · rw [k.mu i hlt]
      exact h.new i h1 hlt (k.live i hlt ho)
    · rcases k.new i hge h2 ho with hh | ⟨j, hj, htj, hoj, hbj⟩
      · exact .inl (Nat.le_trans h.size hh)
      · rcases Nat.lt_or_ge j st.n with hlt | hge'
        · exact .inr ⟨j, hlt, hT j hlt htj, h.own j hlt hoj, by rw [← h.mu j hlt]; exact hbj⟩
        · rcases h.new j hge' hj (Ob.live_of_own hoj) with hh | ⟨j0, q1, q2, q3, q4⟩
          · exact .inl (by rw [← hbj]; exact hh)
          · exact .inr ⟨j0, q1, q2, q3, q4.trans hbj⟩
  os := k.os.trans h.os
  tape := k.tape.trans h.tape
  output := k.output.trans h.output

/-- Of what was there nothing has turned. -/
structure Pre (w w' : World) : Prop where
  size : w.heap.size ≤ w'.heap.size
  blk : ∀ b, b < w.heap.size → w'.heap[b]? = w.heap[b]?
  os : w'.os = w.os
  tape : w'.tape = w.tape
  output : w'.output = w.output
theorem Pre.refl (w : World) : Pre w w := ⟨Nat.le_refl _, fun _ _ => rfl, rfl, rfl, rfl⟩
theorem Pre.trans {a b c : World} (h : Pre a b) (k : Pre b c) : Pre a c :=
  ⟨Nat.le_trans h.size k.size, fun x hx => (k.blk x (Nat.lt_of_lt_of_le hx h.size)).trans (h.blk x hx), k.os.trans h.os, k.tape.trans h.tape, k.output.trans h.output⟩
theorem Pre.drew (w : World) : Pre w { w with drawn := w.drawn + 1 } := ⟨Nat.le_refl _, fun _ _ => rfl, rfl, rfl, rfl⟩

theorem Rel.pre {μ : Nat → Loc} {st : St} {w w' : World} (h : Rel μ st w) (hp : Pre w w') : Rel μ st w' := by
  refine ⟨fun i hi => ?_, h.sep⟩
  cases hl : (st.ob i).live with
  | true => exact (h.obj i hi).mono (Nat.le_refl _) (fun _ _ => rfl) (hp.blk _ ((h.obj i hi).lt hl))
  | false =>
    have : st.ob i = .dead := by cases ho : st.ob i <;> simp_all [Ob.live]
    rw [this]; trivial
theorem Stp.pre {T : Nat → Prop} {μ st w μ' st' w' w''} (h : Stp T μ st w μ' st' w') (hp : Pre w' w'') : Stp T μ st w μ' st' w'' :=
  ⟨h.n, h.mu, h.ob, h.own, h.live, Nat.le_trans h.size hp.size, fun b hb hd => (hp.blk b (Nat.lt_of_lt_of_le hb h.size)).trans (h.blk b hb hd), h.new, hp.os.trans h.os, hp.tape.trans h.tape, hp.output.trans h.output⟩

/-! ### A frame -/
def upd {α : Type} (f : Nat → α) (d : Nat) (v : α) : Nat → α := fun i => cond (Nat.beq i d) v (f i)
theorem upd_same {α : Type} (f : Nat → α) (d : Nat) (v : α) : upd f d v d = v := by simp [upd]
theorem upd_ne {α : Type} (f : Nat → α) {d i : Nat} (v : α) (h : i ≠ d) : upd f d v i = f i := by
  unfold upd
  have : Nat.beq i d = false := by
    cases hb : Nat.beq i d with
    | false => rfl
    | true => exact absurd (Nat.eq_of_beq_eq_true hb) h
  rw [this]; rfl

/-- The slots; those that hold the place of a variable of the frame's own (box, offset); these variables' cells. -/
structure Aa where
  s : Nat → AV
  p : Nat → Option (Nat × Nat)
  x : Nat → Option (List AV)

inductive RV where
  | v (a : AV)
  | lp (k o : Nat)

def Aa.put (a : Aa) (d : Option Nat) (r : RV) : Aa :=
  match d with
  | none => a
  | some d =>
    match r with
    | .v x => ⟨upd a.s d x, upd a.p d none, a.x⟩
    | .lp k o => ⟨upd a.s d .junk, upd a.p d (some (k, o)), a.x⟩

def RR (n : Nat) (μ : Nat → Loc) (β : Nat → Nat) : RV → Value → Prop
  | .v a, v => VR n μ a v
  | .lp k o, v => v = .pointer (some ⟨β k, o, none⟩)

structure Inv (T : Nat → Prop) (μ0 : Nat → Loc) (st0 : St) (w0 : World) (N : Nat) (β : Nat → Nat) (a : Aa) (μ : Nat → Loc) (st : St) (w : World) (ca : Act) : Prop where
  rel : Rel μ st w
  stp : Stp T μ0 st0 w0 μ st w
  size : ca.tmps.size = N
  defers : ca.defers = []
  slot : ∀ i, VR st.n μ (a.s i) (ca.tmps.getD i undef)
  lp : ∀ i k o, a.p i = some (k, o) → ca.tmps.getD i undef = .pointer (some ⟨β k, o, none⟩)
  box : ∀ k l, a.x k = some l → ∃ cs E, w.heap[β k]? = some (.cells cs E (0, 0)) ∧ VRL st.n μ l cs.toList
  bsep : ∀ k k', a.x k ≠ none → a.x k' ≠ none → k ≠ k' → β k ≠ β k'
  bst : ∀ k i, a.x k ≠ none → i < st.n → (st.ob i).live = true → (μ i).b ≠ β k
  bnew : ∀ k, a.x k ≠ none → w0.heap.size ≤ β k

section
variable {T : Nat → Prop} {μ0 : Nat → Loc} {st0 : St} {w0 : World} {N : Nat} {β : Nat → Nat} {a : Aa} {μ : Nat → Loc} {st : St} {w : World} {ca : Act}

theorem Inv.blt (h : Inv T μ0 st0 w0 N β a μ st w ca) {k : Nat} (hk : a.x k ≠ none) : β k < w.heap.size := by
  cases hx : a.x k with
  | none => exact absurd hx hk
  | some l =>
    obtain ⟨cs, E, h1, _⟩ := h.box k l hx
    exact (Array.getElem?_eq_some_iff.1 h1).1

theorem Inv.pre (h : Inv T μ0 st0 w0 N β a μ st w ca) {w' : World} (hp : Pre w w') : Inv T μ0 st0 w0 N β a μ st w' ca := by
  refine ⟨h.rel.pre hp, h.stp.pre hp, h.size, h.defers, h.slot, h.lp, fun k l hk => ?_, h.bsep, h.bst, h.bnew⟩
  obtain ⟨cs, E, h1, h2⟩ := h.box k l hk
  exact ⟨cs, E, (hp.blk _ (h.blt (by simp [hk]))).trans h1, h2⟩

theorem getD_set (t : Array Value) (d : Nat) (v : Value) (i : Nat) : (t.setIfInBounds d v).getD i undef = if i = d ∧ d < t.size then v else t.getD i undef := by
  rw [Array.getD_eq_getD_getElem?, Array.getD_eq_getD_getElem?, Array.getElem?_setIfInBounds]
  by_cases h : d = i
  · subst h
    by_cases h2 : d < t.size <;> simp [h2]
  · have h' : ¬ i = d := fun e => h e.symm
    simp [h, h']

/-- A value laid into a slot. -/
theorem Inv.put (h : Inv T μ0 st0 w0 N β a μ st w ca) {d : Option Nat} (hd : ∀ x, d = some x → x < N) {r : RV} {v : Value} (hr : RR st.n μ β r v) :
    Inv T μ0 st0 w0 N β (a.put d r) μ st w (ca.put d v) := by
  cases d with
  | none => exact h
  | some d =>
    have hdN : d < ca.tmps.size := by rw [h.size]; exact hd d rfl
    cases r with
    | v x =>
      refine ⟨h.rel, h.stp, by simp [Act.put, h.size], h.defers, fun i => ?_, fun i k o hi => ?_, h.box, h.bsep, h.bst, h.bnew⟩
      · show VR st.n μ (upd a.s d x i) ((ca.tmps.setIfInBounds d v).getD i undef)
        rw [getD_set]
        by_cases e : i = d
        · subst e; rw [upd_same, if_pos ⟨rfl, hdN⟩]; exact hr
        · rw [upd_ne _ _ e, if_neg (fun hh => e hh.1)]; exact h.slot i
      · have hi' : upd a.p d none i = some (k, o) := hi
        show (ca.tmps.setIfInBounds d v).getD i undef = _
        rw [getD_set]
        by_cases e : i = d
        · subst e; rw [upd_same] at hi'; cases hi'
        · rw [upd_ne _ _ e] at hi'; rw [if_neg (fun hh => e hh.1)]; exact h.lp i k o hi'
    | lp k0 o0 =>
      have hr' : v = .pointer (some ⟨β k0, o0, none⟩) := hr
      refine ⟨h.rel, h.stp, by simp [Act.put, h.size], h.defers, fun i => ?_, fun i k o hi => ?_, h.box, h.bsep, h.bst, h.bnew⟩
      · show VR st.n μ (upd a.s d .junk i) ((ca.tmps.setIfInBounds d v).getD i undef)
        rw [getD_set]
        by_cases e : i = d
        · subst e; rw [upd_same]; simp [VR]
        · rw [upd_ne _ _ e, if_neg (fun hh => e hh.1)]; exact h.slot i
      · have hi' : upd a.p d (some (k0, o0)) i = some (k, o) := hi
        show (ca.tmps.setIfInBounds d v).getD i undef = _
        rw [getD_set]
        by_cases e : i = d
        · subst e
          rw [upd_same] at hi'
          rw [if_pos ⟨rfl, hdN⟩, hr']
          injection hi' with e1
          injection e1 with e2 e3
          subst e2; subst e3; rfl
        · rw [upd_ne _ _ e] at hi'; rw [if_neg (fun hh => e hh.1)]; exact h.lp i k o hi'

/-- Fewer slots are told of. -/
theorem Inv.weak (h : Inv T μ0 st0 w0 N β a μ st w ca) {a' : Aa} (hs : ∀ i, a'.s i = a.s i ∨ a'.s i = .junk) (hp : ∀ i, a'.p i = a.p i ∨ a'.p i = none) (hx : ∀ k, a'.x k = a.x k ∨ a'.x k = none) :
    Inv T μ0 st0 w0 N β a' μ st w ca := by
  have hx' : ∀ k, a'.x k ≠ none → a.x k ≠ none := fun k hk => by
    rcases hx k with e | e
    · rw [← e]; exact hk
    · exact absurd e hk
  refine ⟨h.rel, h.stp, h.size, h.defers, fun i => ?_, fun i k o hi => ?_, fun k l hk => ?_, fun k k' h1 h2 h3 => h.bsep k k' (hx' k h1) (hx' k' h2) h3, fun k i h1 h2 h3 => h.bst k i (hx' k h1) h2 h3, fun k hk => h.bnew k (hx' k hk)⟩
  · rcases hs i with e | e
    · rw [e]; exact h.slot i
    · rw [e]; simp [VR]
  · rcases hp i with e | e
    · rw [e] at hi; exact h.lp i k o hi
    · rw [e] at hi; cases hi
  · rcases hx k with e | e
    · rw [e] at hk; exact h.box k l hk
    · rw [e] at hk; cases hk
end
end Go.Proofs.YtmphklmhhcmbnaaDoorW.Ax

/- The abstract store's walk: what an operation, a region, a piece of code, a call does, told of abstract frames and stores. -/
namespace Go.Proofs.YtmphklmhhcmbnaaDoorW.Ax
open Go Go.RowKit
set_option linter.unusedVariables false

def Good (T : Nat → Prop) (μ0 : Nat → Loc) (st0 : St) (w0 : World) (N : Nat) (R : Aa → St → Prop) (ca : Act) (w : World) : Prop :=
  ∃ β a μ st, Inv T μ0 st0 w0 N β a μ st w ca ∧ R a st

theorem Good.mono {T : Nat → Prop} {μ0 : Nat → Loc} {st0 : St} {w0 : World} {N : Nat} {R R' : Aa → St → Prop} {ca : Act} {w : World} (h : ∀ a st, R a st → R' a st) (hg : Good T μ0 st0 w0 N R ca w) : Good T μ0 st0 w0 N R' ca w :=
  let ⟨β, a, μ, st, hi, hr⟩ := hg
  ⟨β, a, μ, st, hi, h a st hr⟩

/-- One operation: 'f': nothing of what was there may turn. -/
def AOp (P : Program) (T : Nat → Prop) (st0 : St) (N : Nat) (o : Oper) (f : Bool) (R : Aa → St → Prop) (a : Aa) (st : St) : Prop :=
  (∀ x, o.dst = some x → x < N) → ∀ μ0 w0 β μ w ca, Inv T μ0 st0 w0 N β a μ st w ca → ∀ Q' : Exit → Act → World → Prop,
    o.wp P ca w (fun ca' w' => (f = true → Pre w w') ∧ Good T μ0 st0 w0 N R ca' w') Q'

/-- An operation that only reads: one value, in every world in which what was there still is. -/
def AQ (P : Program) (T : Nat → Prop) (st0 : St) (N : Nat) (o : Oper) (r : RV) (a : Aa) (st : St) : Prop :=
  ∀ μ0 w0 β μ w ca, Inv T μ0 st0 w0 N β a μ st w ca → ∃ cv, RR st.n μ β r cv ∧ ∀ w', Pre w w' → (execOp ca.eval o).run P w' = .ok (.value cv) w'

/-- How an operation of a region is met: 'q': it only reads · 'f': nothing of what was there may turn · 'n': freely. -/
inductive Md where
  | q | f | n
  deriving DecidableEq

def ALeaf (P : Program) (T : Nat → Prop) (st0 : St) (N : Nat) (o : Oper) (m : Md) (R : Aa → St → Prop) (a : Aa) (st : St) : Prop :=
  match m with
  | .q => ∃ r, AQ P T st0 N o r a st ∧ R (a.put o.dst r) st
  | .f => AOp P T st0 N o true R a st
  | .n => AOp P T st0 N o false R a st

def AOps (P : Program) (T : Nat → Prop) (st0 : St) (N : Nat) (ops : Array Oper) (Q : Aa → St → Prop) : List Md → List Oper → Aa → St → Prop
  | _, [], a, st => Q a st
  | ms, o :: rest, a, st =>
    match o.guard with
    | none => ALeaf P T st0 N o (ms.headD .n) (AOps P T st0 N ops Q ms.tail rest) a st
    | some (j, want) => ∃ t, (ops[j]?).bind (·.dst) = some t ∧
        ((a.s t = .bool want ∧ ALeaf P T st0 N o (ms.headD .n) (AOps P T st0 N ops Q ms.tail rest) a st) ∨ ((a.s t = .bool (!want) ∨ a.s t = .und) ∧ AOps P T st0 N ops Q ms.tail rest (a.put o.dst (.v .und)) st))

theorem AOp_of_AQ {P : Program} {T : Nat → Prop} {st0 : St} {N : Nat} {o : Oper} {f : Bool} {R : Aa → St → Prop} {a : Aa} {st : St} {r : RV} (h : AQ P T st0 N o r a st) (hr : R (a.put o.dst r) st) : AOp P T st0 N o f R a st := by
  intro hd μ0 w0 β μ w ca hi Q'
  obtain ⟨cv, h1, h2⟩ := h μ0 w0 β μ w ca hi
  unfold Oper.wp
  rw [h2 w (Pre.refl w)]
  exact ⟨fun _ => Pre.refl w, β, _, μ, st, hi.put hd h1, hr⟩
theorem AOp_of_leaf {P : Program} {T : Nat → Prop} {st0 : St} {N : Nat} {o : Oper} {m : Md} {R : Aa → St → Prop} {a : Aa} {st : St} (h : ALeaf P T st0 N o m R a st) : AOp P T st0 N o (m == .f) R a st := by
  cases m with
  | q => obtain ⟨r, h1, h2⟩ := h; exact AOp_of_AQ h1 h2
  | f => exact h
  | n => exact h

def dstsOk (N : Nat) (l : List Oper) : Bool := l.all fun o => match o.dst with | some d => Nat.blt d N | none => true
theorem dstsOk_spec {N : Nat} {l : List Oper} (h : dstsOk N l = true) : ∀ o ∈ l, ∀ x, o.dst = some x → x < N := by
  intro o ho x hx
  have h1 := List.all_eq_true.1 h o ho
  rw [hx] at h1
  exact Nat.le_of_ble_eq_true h1

theorem yielded_of {T : Nat → Prop} {μ0 : Nat → Loc} {st0 : St} {w0 : World} {N : Nat} {β : Nat → Nat} {a : Aa} {μ : Nat → Loc} {st : St} {w : World} {ca : Act} (h : Inv T μ0 st0 w0 N β a μ st w ca)
    {ops : Array Oper} {j t : Nat} {b : Bool} (ht : (ops[j]?).bind (·.dst) = some t) (hs : a.s t = .bool b) : yielded ops ca.tmps j = some b := by
  have hv := h.slot t
  rw [hs] at hv
  simp only [VR] at hv
  have : ca.tmps[t]? = some (.bool b) := by
    rw [Array.getD_eq_getD_getElem?] at hv
    cases hx : ca.tmps[t]? with
    | none => rw [hx] at hv; simp [undef] at hv
    | some v => rw [hx] at hv; simpa using hv
  simp [yielded, ht, this]

theorem yielded_not {T : Nat → Prop} {μ0 : Nat → Loc} {st0 : St} {w0 : World} {N : Nat} {β : Nat → Nat} {a : Aa} {μ : Nat → Loc} {st : St} {w : World} {ca : Act} (h : Inv T μ0 st0 w0 N β a μ st w ca)
    {ops : Array Oper} {j t : Nat} {b : Bool} (ht : (ops[j]?).bind (·.dst) = some t) (hs : a.s t = .bool (!b) ∨ a.s t = .und) : yielded ops ca.tmps j ≠ some b := by
  rcases hs with hs | hs
  · rw [yielded_of h ht hs]; cases b <;> simp
  · have hv := h.slot t
    rw [hs] at hv
    simp only [VR] at hv
    rw [Array.getD_eq_getD_getElem?] at hv
    unfold yielded
    rw [ht]
    cases hx : ca.tmps[t]? with
    | none => simp [hx]
    | some v => rw [hx] at hv; simp only [Option.getD_some] at hv; subst hv; simp [hx, undef]

theorem wp_mono2 {P : Program} {o : Oper} {a : Act} {w : World} {K K' : Act → World → Prop} {Q Q' : Exit → Act → World → Prop} (h : ∀ a w, K a w → K' a w) (hq : ∀ e a w, Q e a w → Q' e a w) (hh : o.wp P a w K Q) : o.wp P a w K' Q' := by
  unfold Oper.wp at *
  generalize (execOp a.eval o).run P w = r at *
  cases r with
  | ok n w' =>
    cases n <;> simp only [Oper.upon] at hh ⊢ <;>
      first
        | exact h _ _ hh
        | exact Calls.mono hh (fun e w'' he => by cases e <;> first | exact h _ _ he | exact hq _ _ _ he | exact he.imp fun _ he => he.imp fun _ he => hq _ _ _ he)
        | exact Rows.mono hh (fun _ _ he => h _ _ he)
  | halt x w' => cases x <;> simp only [Oper.upon] at hh ⊢ <;> first | exact hq _ _ _ hh | exact hh

theorem wpList_of_AOps {P : Program} {T : Nat → Prop} {st0 : St} {N : Nat} {ops : Array Oper} {Q : Aa → St → Prop} {μ0 : Nat → Loc} {w0 : World} {Q' : Exit → Act → World → Prop}
    (hQ : ∀ ca w, Good T μ0 st0 w0 N Q ca w → Q' .normal ca w) : ∀ (l : List Oper) (ms : List Md), (∀ o ∈ l, ∀ x, o.dst = some x → x < N) →
    ∀ ca w, Good T μ0 st0 w0 N (AOps P T st0 N ops Q ms l) ca w → wpList P ops Q' l ca w
  | [], _, _, ca, w, h => hQ ca w (h.mono fun _ _ h => h)
  | o :: rest, ms, hd, ca, w, h => by
    obtain ⟨β, a, μ, st, hi, hr⟩ := h
    have ih := wpList_of_AOps (Q := Q) (P := P) (T := T) (st0 := st0) (N := N) (ops := ops) hQ rest ms.tail (fun o ho => hd o (List.mem_cons_of_mem _ ho))
    have hd0 := hd o (List.mem_cons_self ..)
    unfold wpList
    simp only [AOps] at hr
    cases hg : o.guard with
    | none =>
      rw [hg] at hr
      rw [if_pos (by simp [Region.wanted, hg])]
      exact .inl (Oper.wp_mono (fun ca' w' hk => ih ca' w' hk.2) (AOp_of_leaf hr hd0 _ _ _ _ _ _ hi Q'))
    | some jw =>
      obtain ⟨j, want⟩ := jw
      rw [hg] at hr
      obtain ⟨t, ht, ⟨hs, hr⟩ | ⟨hs, hr⟩⟩ := hr
      · have hy := yielded_of hi ht hs
        rw [if_pos (by simp [Region.wanted, hg, hy])]
        exact .inl (Oper.wp_mono (fun ca' w' hk => ih ca' w' hk.2) (AOp_of_leaf hr hd0 _ _ _ _ _ _ hi Q'))
      · have hy := yielded_not hi ht hs
        rw [if_neg (by simp [Region.wanted, hg, hy])]
        exact ih _ _ ⟨β, _, μ, st, hi.put hd0 (by simp [RR, VR]), hr⟩

/-! ### Code -/
inductive AX where
  | normal
  | exit (id : Nat)
  | ret

def CQ (T : Nat → Prop) (μ0 : Nat → Loc) (st0 : St) (w0 : World) (N : Nat) (Q : AX → Aa → St → Prop) : Exit → Act → World → Prop
  | .normal, ca, w => Good T μ0 st0 w0 N (Q .normal) ca w
  | .exit i, ca, w => Good T μ0 st0 w0 N (Q (.exit i)) ca w
  | .ret, ca, w => Good T μ0 st0 w0 N (Q .ret) ca w
  | _, _, _ => False

def ACode (P : Program) (T : Nat → Prop) (st0 : St) (N : Nat) (c : Code) (Q : AX → Aa → St → Prop) (a : Aa) (st : St) : Prop :=
  ∀ μ0 w0 β μ w ca, Inv T μ0 st0 w0 N β a μ st w ca → c.wp P (CQ T μ0 st0 w0 N Q) ca w

def thenQ (K : Aa → St → Prop) (Q : AX → Aa → St → Prop) : AX → Aa → St → Prop
  | .normal => K
  | e => Q e
def blockQ (id : Nat) (Q : AX → Aa → St → Prop) : AX → Aa → St → Prop
  | .exit i => cond (Nat.beq i id) (Q .normal) (Q (.exit i))
  | e => Q e

section
variable {P : Program} {T : Nat → Prop} {st0 : St} {N : Nat} {Q : AX → Aa → St → Prop} {a : Aa} {st : St}

theorem c_mono {c : Code} {Q' : AX → Aa → St → Prop} (hq : ∀ e a st, Q e a st → Q' e a st) (h : ACode P T st0 N c Q a st) : ACode P T st0 N c Q' a st :=
  fun μ0 w0 β μ w ca hi => wp_mono (h μ0 w0 β μ w ca hi) fun e ca w q => by
    cases e <;> simp only [CQ] at q ⊢ <;> exact q.mono fun a st q => hq _ _ _ q

theorem c_seq {x y : Code} (h : ACode P T st0 N x (thenQ (ACode P T st0 N y Q) Q) a st) : ACode P T st0 N (.seq x y) Q a st := by
  intro μ0 w0 β μ w ca hi
  refine wp_seq (wp_mono (h μ0 w0 β μ w ca hi) fun e ca' w' q => ?_)
  cases e with
  | normal =>
    obtain ⟨β', a', μ', st', hi', hr⟩ := q
    exact hr μ0 w0 β' μ' w' ca' hi'
  | exit id => exact q
  | ret => exact q
  | goto l => exact q
  | panic ch => exact q
  | outgrown => exact q

theorem c_skip (h : Q .normal a st) : ACode P T st0 N .skip Q a st := fun _ _ β μ w ca hi => wp_skip ⟨β, a, μ, st, hi, h⟩
theorem c_exit {id : Nat} (h : Q (.exit id) a st) : ACode P T st0 N (.exit id) Q a st := fun _ _ β μ w ca hi => wp_exit ⟨β, a, μ, st, hi, h⟩
theorem c_ret (h : Q .ret a st) : ACode P T st0 N .ret Q a st := fun _ _ β μ w ca hi => wp_ret ⟨β, a, μ, st, hi, h⟩
theorem c_label {l : Nat} (h : Q .normal a st) : ACode P T st0 N (.label l) Q a st := fun _ _ β μ w ca hi => wp_label ⟨β, a, μ, st, hi, h⟩

theorem c_block {id : Nat} {c : Code} (h : ACode P T st0 N c (blockQ id Q) a st) : ACode P T st0 N (.block id c) Q a st := by
  intro μ0 w0 β μ w ca hi
  refine wp_block (wp_mono (h μ0 w0 β μ w ca hi) fun e ca' w' q => ?_)
  cases e with
  | exit i =>
    simp only [CQ, blockQ, Exit.inBlock] at q ⊢
    by_cases hc : i = id
    · subst hc
      rw [if_pos rfl]
      simpa using q
    · rw [if_neg hc]
      have hb : Nat.beq i id = false := by
        cases hb : Nat.beq i id with
        | false => rfl
        | true => exact absurd (Nat.eq_of_beq_eq_true hb) hc
      rw [hb] at q
      exact q
  | normal => exact q
  | ret => exact q
  | goto l => exact q
  | panic ch => exact q
  | outgrown => exact q

theorem eval_tmp {μ0 : Nat → Loc} {w0 : World} {β : Nat → Nat} {μ : Nat → Loc} {w : World} {ca : Act} (hi : Inv T μ0 st0 w0 N β a μ st w ca) {t : Nat} {b : Bool} (h : a.s t = .bool b) : ca.eval (.tmp t) = .bool b := by
  have := hi.slot t
  rw [h] at this
  simp only [VR] at this
  exact this

theorem c_if {t : Nat} {b : Bool} {x y : Code} (ht : a.s t = .bool b) (h1 : b = true → ACode P T st0 N x Q a st) (h2 : b = false → ACode P T st0 N y Q a st) : ACode P T st0 N (.cond (.tmp t) x y) Q a st := by
  intro μ0 w0 β μ w ca hi
  refine wp_cond_split (t := b) (eval_tmp hi ht) (fun hb => h1 hb _ _ _ _ _ _ hi) (fun hb => h2 hb _ _ _ _ _ _ hi)
theorem c_if_t {t : Nat} {x y : Code} (ht : a.s t = .bool true) (h : ACode P T st0 N x Q a st) : ACode P T st0 N (.cond (.tmp t) x y) Q a st := c_if ht (fun _ => h) (fun h => by cases h)
theorem c_if_f {t : Nat} {x y : Code} (ht : a.s t = .bool false) (h : ACode P T st0 N y Q a st) : ACode P T st0 N (.cond (.tmp t) x y) Q a st := c_if ht (fun h => by cases h) (fun _ => h)

theorem c_weak {c : Code} {a' : Aa} (hs : ∀ i, a'.s i = a.s i ∨ a'.s i = .junk) (hp : ∀ i, a'.p i = a.p i ∨ a'.p i = none) (hx : ∀ k, a'.x k = a.x k ∨ a'.x k = none) (h : ACode P T st0 N c Q a' st) : ACode P T st0 N c Q a st :=
  fun μ0 w0 β μ w ca hi => h μ0 w0 β μ w ca (hi.weak hs hp hx)

/-- A loop: the relation bears a number, which every round lowers. -/
theorem c_loop {c : Code} (I : Nat → Aa → St → Prop) (n : Nat) (h0 : I n a st) (round : ∀ n a st, I n a st → ACode P T st0 N c (thenQ (fun a' st' => ∃ n', n' < n ∧ I n' a' st') Q) a st) :
    ACode P T st0 N (.loop c) Q a st := by
  intro μ0 w0 β μ w ca hi
  refine wp_loop_ghost (fun n ca w => Good T μ0 st0 w0 N (I n) ca w) n ⟨β, a, μ, st, hi, h0⟩ fun n ca w hg => ?_
  obtain ⟨β, a, μ, st, hi, hr⟩ := hg
  refine wp_mono (round n a st hr μ0 w0 β μ w ca hi) fun e ca' w' q => ?_
  cases e with
  | normal =>
    obtain ⟨β', a', μ', st', hi', n', hn, hr'⟩ := q
    exact ⟨n', hn, β', a', μ', st', hi', hr'⟩
  | exit id => exact q
  | ret => exact q
  | goto l => exact q
  | panic ch => exact q
  | outgrown => exact q

theorem c_region {id : Nat} {l : List Oper} (hd : dstsOk N l = true) (h : AOps P T st0 N l.toArray (Q .normal) [] l a st) : ACode P T st0 N (.region id l.toArray false) Q a st := by
  intro μ0 w0 β μ w ca hi
  exact wp_region_lit (wpList_of_AOps (fun _ _ h => h) l [] (dstsOk_spec hd) ca w ⟨β, a, μ, st, hi, h⟩)
end

/-! ### Calls -/
def goes (P : Program) (f : Nat) : Bool :=
  match P.funcs[f]? with
  | some fn => fn.body.isSome && !(fn.name == "runtime.NumGoroutine")
  | none => false

def ACalls (P : Program) (f : Nat) (args : List AV) (st : St) (T : Nat → Prop) (Post : AV → St → Prop) : Prop :=
  goes P f = true ∧ ∀ μ w (cargs : List Value), Rel μ st w → VRL st.n μ args cargs →
    Calls P f cargs.toArray w fun e w' => ∃ v cv μ' st', e = .returned cv ∧ VR st'.n μ' v cv ∧ Rel μ' st' w' ∧ Stp T μ st w μ' st' w' ∧ Post v st'

theorem ACalls.mono {P : Program} {f : Nat} {args : List AV} {st : St} {T : Nat → Prop} {Post Post' : AV → St → Prop} (h : ACalls P f args st T Post) (hp : ∀ v st', Post v st' → Post' v st') : ACalls P f args st T Post' :=
  ⟨h.1, fun μ w cargs hr hv => (h.2 μ w cargs hr hv).mono fun _ _ ⟨v, cv, μ', st', h1, h2, h3, h4, h5⟩ => ⟨v, cv, μ', st', h1, h2, h3, h4, hp v st' h5⟩⟩

def start (args : List AV) : Aa := ⟨fun i => args.getD i .junk, fun _ => none, fun _ => none⟩

end Go.Proofs.YtmphklmhhcmbnaaDoorW.Ax

/- A region that draws its order: one walk, in one order, serves every order. -/
namespace Go.Proofs.YtmphklmhhcmbnaaDoorW.Ax
open Go Go.RowKit
set_option linter.unusedVariables false

section
variable {P : Program} {ops : Array Oper} {Q' : Exit → Act → World → Prop} {fl : Nat → Bool}

def wpE (P : Program) (ops : Array Oper) (Q' : Exit → Act → World → Prop) (fl : Nat → Bool) : Nat → Array Bool → Act → World → Prop
  | 0, listed, ca, w => Region.ready .any ops listed = [] ∧ Q' .normal ca w
  | fuel + 1, listed, ca, w => (Region.ready .any ops listed = [] → Q' .normal ca w) ∧
      ∀ i ∈ Region.ready .any ops listed, wpOp P ops Q' i (fun ca' w' => (fl i = true → Pre w w') ∧ wpE P ops Q' fl fuel (listed.setIfInBounds i true) ca' w') ca w

theorem wpAny_of_wpE : ∀ (fuel : Nat) (listed : Array Bool) (ca : Act) (w : World), wpE P ops Q' fl fuel listed ca w → wpAny P .any ops Q' fuel listed ca w
  | 0, _, _, _, h => h
  | fuel + 1, _, _, _, h => ⟨h.1, fun i hi => wpOp_mono (fun ca' w' hk => wpAny_of_wpE fuel _ ca' w' hk.2) (h.2 i hi)⟩

/-- 'o' yields 'v' here, and in every world in which what is here still is. -/
def YQ (P : Program) (ops : Array Oper) (o : Oper) (v : Value) (ca : Act) (w : World) : Prop :=
  (Region.wanted o (yielded ops ca.tmps) = true ∧ ∀ w', Pre w w' → (execOp ca.eval o).run P w' = .ok (.value v) w') ∨ (Region.wanted o (yielded ops ca.tmps) = false ∧ v = undef)

theorem YQ.pre {o : Oper} {v : Value} {ca : Act} {w w' : World} (h : YQ P ops o v ca w) (hp : Pre w w') : YQ P ops o v ca w' :=
  h.imp (fun h => ⟨h.1, fun w'' hp' => h.2 w'' (hp.trans hp')⟩) id
theorem YQ.same {o : Oper} {v : Value} {ca ca' : Act} {w : World} (h : YQ P ops o v ca w) (he : execOp ca'.eval o = execOp ca.eval o) (hw : Region.wanted o (yielded ops ca'.tmps) = Region.wanted o (yielded ops ca.tmps)) : YQ P ops o v ca' w := by
  unfold YQ at *
  rw [he, hw]
  exact h
theorem YQ.op {i : Nat} {o : Oper} {v : Value} {ca : Act} {w : World} (hi : ops[i]? = some o) (h : YQ P ops o v ca w) {K : Act → World → Prop} (hk : K (ca.put o.dst v) w) : wpOp P ops Q' i K ca w := by
  unfold wpOp
  simp only [hi]
  rcases h with ⟨h1, h2⟩ | ⟨h1, rfl⟩
  · rw [if_pos h1]
    refine .inl ?_
    unfold Oper.wp
    rw [h2 w (Pre.refl w)]
    exact hk
  · rw [if_neg (by simp [h1])]
    exact hk

/-- Another operation, apart from one that only reads: it goes the same whether that one's value lies in its slot already or not. -/
theorem wpOp_swap {j : Nat} {oi oj : Oper} {v : Value} (hj : ops[j]? = some oj) (hap : oi.apart ops oj = true) (hsj : ∀ cs b, oj.op ≠ .select cs b)
    (hQ : ∀ e ca w, e ≠ .normal → ¬ Q' e ca w) {K : Act → World → Prop} {Y : Act → Prop} {ca : Act} {w : World} (hY : ∀ d u, Y ({ ca with defers := d }.put oj.dst u)) (h : wpOp P ops Q' j K (ca.put oi.dst v) w) :
    wpOp P ops Q' j (fun ca' w' => Y ca' ∧ K (ca'.put oi.dst v) w') ca w := by
  obtain ⟨h1, h2, h3⟩ := Oper.apart_spec hap
  have hY' : ∀ u, Y (ca.put oj.dst u) := fun u => hY ca.defers u
  unfold wpOp at *
  simp only [hj] at *
  rw [wanted_put oj ca oi.dst v h1] at h
  split
  · rename_i hw
    simp only [hw, if_true] at h
    rcases h with h | ⟨_, a0, w0, h⟩
    case inr => exact absurd h (hQ _ _ _ (by simp))
    refine .inl ?_
    unfold Oper.wp at *
    rw [execOp_put oj hsj ca oi.dst v h1] at h
    generalize (execOp ca.eval oj).run P w = r at *
    cases r with
    | ok n w' =>
      cases n <;> simp only [Oper.upon] at h ⊢
      case value u => exact ⟨hY' u, by rw [← Act.put_comm ca v u h2]; exact h⟩
      case skip => exact ⟨hY' _, by rw [← Act.put_comm ca v undef h2]; exact h⟩
      case defer d =>
        refine ⟨hY _ _, ?_⟩
        rw [Act.put_defers] at h
        rw [← Act.put_comm _ v undef h2]
        exact h
      case enter f args =>
        refine h.mono fun e w'' he => ?_
        cases e with
        | returned u =>
          refine ⟨hY' u, ?_⟩
          rw [← Act.put_comm ca v u h2]
          exact he
        | panicked ch => exact absurd he (hQ _ _ _ (by simp))
        | outgrown => obtain ⟨a0, w0, he⟩ := he; exact absurd he (hQ _ _ _ (by simp))
      case row row args =>
        refine h.mono fun u w'' he => ?_
        refine ⟨hY' u, ?_⟩
        rw [← Act.put_comm ca v u h2]
        exact he
    | halt x w' => cases x <;> simp only [Oper.upon] at h ⊢; exact absurd h (hQ _ _ _ (by simp))
  · rename_i hw
    simp only [hw] at h
    exact ⟨hY' _, by rw [← Act.put_comm ca v undef h2]; exact h⟩

theorem wpE_first {i : Nat} {oi : Oper} {v : Value} (hi : ops[i]? = some oi) (hsel : ∀ (j : Nat) (o : Oper) cs b, ops[j]? = some o → o.op ≠ .select cs b) (hQ : ∀ e ca w, e ≠ .normal → ¬ Q' e ca w) :
    ∀ (fuel : Nat) (listed : Array Bool) (ca : Act) (w : World),
      (∀ j oj, ops[j]? = some oj → j ≠ i → listed.getD j true = false → (∀ e ∈ oj.after, Region.binds .any e = true → e.on ≠ i) → oi.apart ops oj = true ∧ fl j = true) →
      i ∈ Region.ready .any ops listed → YQ P ops oi v ca w → wpE P ops Q' fl fuel (listed.setIfInBounds i true) (ca.put oi.dst v) w → wpE P ops Q' fl (fuel + 1) listed ca w := by
  intro fuel
  induction fuel with
  | zero =>
    intro listed ca w _ hr hy H
    refine ⟨fun h => (by rw [h] at hr; cases hr), fun j hj => ?_⟩
    by_cases hji : j = i
    · subst hji; exact hy.op hi ⟨fun _ => Pre.refl w, H⟩
    · have := ready_mono hj hji
      rw [H.1] at this
      cases this
  | succ fuel ih =>
    intro listed ca w hfree hr hy H
    refine ⟨fun h => (by rw [h] at hr; cases hr), fun j hj => ?_⟩
    by_cases hji : j = i
    · subst hji; exact hy.op hi ⟨fun _ => Pre.refl w, H⟩
    · have h1 := H.2 j (ready_mono hj hji)
      obtain ⟨hjun, oj, hoj, hall⟩ := mem_ready.1 hj
      have hnot : ∀ e ∈ oj.after, Region.binds .any e = true → e.on ≠ i := fun e he hb heq => by
        have h1 := hall e he hb
        have h0 := (mem_ready.1 hr).1
        rw [heq] at h1
        rcases Nat.lt_or_ge i listed.size with h' | h'
        · simp [h'] at h0 h1; rw [h0] at h1; cases h1
        · simp [Array.getElem?_eq_none h'] at h1
      obtain ⟨hap, hfl⟩ := hfree j oj hoj hji hjun hnot
      obtain ⟨_, _, h3⟩ := Oper.apart_spec hap
      have h2 := wpOp_swap (oi := oi) (v := v) hoj hap (fun cs b => hsel j oj cs b hoj) hQ (Y := fun ca' => YQ P ops oi v ca' w)
        (fun d u => YQ.same hy ((execOp_put oi (fun cs b => hsel i oi cs b hi) { ca with defers := d } oj.dst u h3).trans rfl) ((wanted_put oi { ca with defers := d } oj.dst u h3).trans rfl)) h1
      have hfree' : ∀ k ok, ops[k]? = some ok → k ≠ i → (listed.setIfInBounds j true).getD k true = false →
          (∀ e ∈ ok.after, Region.binds .any e = true → e.on ≠ i) → oi.apart ops ok = true ∧ fl k = true := fun k ok hk hki hun hno => by
        refine hfree k ok hk hki ?_ hno
        by_cases hjk : j = k
        · subst hjk; exact hjun
        · rw [getD_set_ne true hjk] at hun; exact hun
      refine wpOp_mono (fun ca' w' h3 => ?_) h2
      obtain ⟨hy', hp, hE⟩ := h3
      refine ⟨hp, ih (listed.setIfInBounds j true) ca' w' hfree' (ready_mono hr (Ne.symm hji)) (hy'.pre (hp hfl)) ?_⟩
      rw [Array.setIfInBounds_comm _ _ hji]
      exact hE

theorem wpE_sole {i : Nat} {fuel : Nat} {listed : Array Bool} {ca : Act} {w : World} (hr : Region.ready .any ops listed = [i])
    (h : wpOp P ops Q' i (fun ca' w' => (fl i = true → Pre w w') ∧ wpE P ops Q' fl fuel (listed.setIfInBounds i true) ca' w') ca w) : wpE P ops Q' fl (fuel + 1) listed ca w :=
  ⟨fun h => (by rw [hr] at h; cases h), fun j hj => by rw [hr, List.mem_singleton] at hj; subst hj; exact h⟩
end

/-- What is asked of an order ('sch') and of the ways ('ms', in that order): what only reads comes as soon as it may, and what else may come ahead of it leaves all as it was; all else comes up alone. -/
def flagOf (sch : List Nat) (ms : List Md) (j : Nat) : Bool :=
  (sch.zipIdx.any fun (i, p) => i == j && (ms.getD p .n != .n))
def schedOk (ops : Array Oper) (fl : Nat → Bool) : List Nat → List Md → Array Bool → Bool
  | [], _, listed => (Region.ready .any ops listed).isEmpty
  | i :: sch, ms, listed =>
    (match ms.headD .n with
     | .q => (Region.ready .any ops listed).contains i && (List.range ops.size).all fun j => j == i || listed.getD j true || (match ops[j]?, ops[i]? with
         | some oj, some oi => oj.after.any (fun e => Region.binds .any e && e.on == i) || (oi.apart ops oj && fl j)
         | _, _ => true)
     | .f => fl i && Region.ready .any ops listed == [i]
     | .n => !fl i && Region.ready .any ops listed == [i]) && schedOk ops fl sch ms.tail (listed.setIfInBounds i true)
def drawOk (ops : Array Oper) (sch : List Nat) (ms : List Md) : Bool :=
  Region.noSelect ops && sch.length == ops.size && schedOk ops (flagOf sch ms) sch ms (Array.replicate ops.size false)

section
variable {P : Program} {T : Nat → Prop} {st0 : St} {N : Nat} {ops : Array Oper} {Q : Aa → St → Prop} {μ0 : Nat → Loc} {w0 : World} {Q' : Exit → Act → World → Prop} {fl : Nat → Bool}

theorem wpE_of_AOps (hQ : ∀ ca w, Good T μ0 st0 w0 N Q ca w → Q' .normal ca w) (hQn : ∀ e ca w, e ≠ .normal → ¬ Q' e ca w) (hs : Region.noSelect ops = true) (hd : ∀ (i : Nat) o, ops[i]? = some o → ∀ x, o.dst = some x → x < N) :
    ∀ (sch : List Nat) (ms : List Md) (listed : Array Bool), schedOk ops fl sch ms listed = true → ∀ ca w, Good T μ0 st0 w0 N (AOps P T st0 N ops Q ms (sch.filterMap (ops[·]?))) ca w →
      wpE P ops Q' fl sch.length listed ca w
  | [], _, listed, hB, ca, w, h => ⟨by simpa [schedOk] using hB, hQ ca w (h.mono fun _ _ h => h)⟩
  | i :: sch, ms, listed, hB, ca, w, h => by
    obtain ⟨β, a, μ, st, hi, hr⟩ := h
    simp only [schedOk, Bool.and_eq_true] at hB
    obtain ⟨hB, hB'⟩ := hB
    have ih := fun ca w => wpE_of_AOps hQ hQn hs hd sch ms.tail (listed.setIfInBounds i true) hB' ca w
    have hin : i ∈ Region.ready .any ops listed := by
      cases hm : ms.headD .n <;> rw [hm] at hB <;> simp only [Bool.and_eq_true, beq_iff_eq] at hB
      · simpa using hB.1
      · rw [hB.2]; simp
      · rw [hB.2]; simp
    obtain ⟨hjun, oi, hoi, hall⟩ := mem_ready.1 hin
    have hd0 := hd i oi hoi
    simp only [List.filterMap_cons, hoi, AOps] at hr
    -- what is met of the operation
    have key : (∃ v, (∃ r, RR st.n μ β r v ∧ AOps P T st0 N ops Q ms.tail (sch.filterMap (ops[·]?)) (a.put oi.dst r) st) ∧ YQ P ops oi v ca w) ∨
        (ms.headD .n ≠ .q ∧ wpOp P ops Q' i (fun ca' w' => (fl i = true → Pre w w') ∧ Good T μ0 st0 w0 N (AOps P T st0 N ops Q ms.tail (sch.filterMap (ops[·]?))) ca' w') ca w) := by
      have leaf : Region.wanted oi (yielded ops ca.tmps) = true → ALeaf P T st0 N oi (ms.headD .n) (AOps P T st0 N ops Q ms.tail (sch.filterMap (ops[·]?))) a st → _ := fun hw hl => by
        show (∃ v, (∃ r, RR st.n μ β r v ∧ AOps P T st0 N ops Q ms.tail (sch.filterMap (ops[·]?)) (a.put oi.dst r) st) ∧ YQ P ops oi v ca w) ∨
          (ms.headD .n ≠ .q ∧ wpOp P ops Q' i (fun ca' w' => (fl i = true → Pre w w') ∧ Good T μ0 st0 w0 N (AOps P T st0 N ops Q ms.tail (sch.filterMap (ops[·]?))) ca' w') ca w)
        cases hm : ms.headD .n with
        | q =>
          rw [hm] at hl
          obtain ⟨r, hq, hr⟩ := hl
          obtain ⟨cv, h1, h2⟩ := hq μ0 w0 β μ w ca hi
          exact .inl ⟨cv, ⟨r, h1, hr⟩, .inl ⟨hw, h2⟩⟩
        | f =>
          rw [hm] at hl
          refine .inr ⟨by simp, ?_⟩
          unfold wpOp
          simp only [hoi, hw, if_true]
          exact .inl (Oper.wp_mono (fun ca' w' hk => ⟨fun _ => hk.1 rfl, hk.2⟩) (hl hd0 _ _ _ _ _ _ hi Q'))
        | n =>
          rw [hm] at hl hB
          refine .inr ⟨by simp, ?_⟩
          unfold wpOp
          simp only [hoi, hw, if_true]
          refine .inl (Oper.wp_mono (fun ca' w' hk => ⟨fun hf => ?_, hk.2⟩) (hl hd0 _ _ _ _ _ _ hi Q'))
          simp [hf] at hB
      cases hg : oi.guard with
      | none =>
        rw [hg] at hr
        exact leaf (by simp [Region.wanted, hg]) hr
      | some jw =>
        obtain ⟨j, want⟩ := jw
        rw [hg] at hr
        obtain ⟨t, ht, ⟨hsb, hr⟩ | ⟨hsb, hr⟩⟩ := hr
        · have hy := yielded_of hi ht hsb
          exact leaf (by simp [Region.wanted, hg, hy]) hr
        · have hy := yielded_not hi ht hsb
          exact .inl ⟨undef, ⟨.v .und, by simp [RR, VR], hr⟩, .inr ⟨by simp [Region.wanted, hg, hy], rfl⟩⟩
    rcases key with ⟨v, ⟨r, hrr, hrest⟩, hy⟩ | ⟨hne, hop⟩
    · have hgood : Good T μ0 st0 w0 N (AOps P T st0 N ops Q ms.tail (sch.filterMap (ops[·]?))) (ca.put oi.dst v) w := ⟨β, _, μ, st, hi.put hd0 hrr, hrest⟩
      cases hm : ms.headD .n with
      | q =>
        rw [hm] at hB
        simp only [Bool.and_eq_true, List.all_eq_true, List.mem_range] at hB
        refine wpE_first hoi (Region.noSelect_spec hs) hQn sch.length listed ca w (fun j oj hj hne hun hno => ?_) hin hy (ih _ _ hgood)
        have h1 := hB.2 j (Array.getElem?_eq_some_iff.1 hj).1
        simp only [hj, hoi, Bool.or_eq_true, beq_iff_eq, hne, false_or, hun, Bool.false_eq_true, Bool.and_eq_true] at h1
        rcases h1 with h1 | h1
        · obtain ⟨e, he, hb⟩ := Array.any_eq_true'.1 h1
          simp only [Bool.and_eq_true, beq_iff_eq] at hb
          exact absurd hb.2 (hno e he hb.1)
        · exact h1
      | f =>
        rw [hm] at hB
        simp only [Bool.and_eq_true, beq_iff_eq] at hB
        exact wpE_sole hB.2 (hy.op hoi ⟨fun _ => Pre.refl w, ih _ _ hgood⟩)
      | n =>
        rw [hm] at hB
        simp only [Bool.and_eq_true, beq_iff_eq] at hB
        exact wpE_sole hB.2 (hy.op hoi ⟨fun _ => Pre.refl w, ih _ _ hgood⟩)
    · have hsole : Region.ready .any ops listed = [i] := by
        cases hm : ms.headD .n <;> rw [hm] at hB hne <;> simp only [Bool.and_eq_true, beq_iff_eq] at hB
        · exact absurd rfl hne
        · exact hB.2
        · exact hB.2
      exact wpE_sole hsole (wpOp_mono (fun ca' w' hk => ⟨hk.1, ih ca' w' hk.2⟩) hop)
end

theorem c_draw {P : Program} {T : Nat → Prop} {st0 : St} {N : Nat} {Q : AX → Aa → St → Prop} {a : Aa} {st : St} {id : Nat} {l : List Oper} (hm : P.follows .mixedOrders = true) (sch : List Nat) (ms : List Md) (hd : dstsOk N l = true) (hB : drawOk l.toArray sch ms = true)
    (h : AOps P T st0 N l.toArray (Q .normal) ms (sch.filterMap (l.toArray[·]?)) a st) : ACode P T st0 N (.region id l.toArray true) Q a st := by
  intro μ0 w0 β μ w ca hi
  simp only [drawOk, Bool.and_eq_true, beq_iff_eq] at hB
  obtain ⟨⟨hs, hlen⟩, hB⟩ := hB
  refine wp_mono (wp_region_any (Q := fun e ca w => e = .normal ∧ Good T μ0 st0 w0 N (Q .normal) ca w) hm (wpAny_of_wpE (fl := flagOf sch ms) _ _ _ _ ?_)) fun e ca' w' hq => by obtain ⟨rfl, hq⟩ := hq; exact hq
  rw [← hlen] at hB ⊢
  exact wpE_of_AOps (fun ca w h => ⟨rfl, h⟩) (fun e ca w hne hq => hne hq.1) hs (fun i o ho x hx => dstsOk_spec hd o (by simpa using List.mem_of_getElem? (by simpa using ho)) x hx) sch ms _ hB ca _ ⟨β, a, μ, st, hi.pre (Pre.drew w), h⟩
end Go.Proofs.YtmphklmhhcmbnaaDoorW.Ax

/- The operations that only read slots, constants and variables of the frame's own: what they yield, computed. -/
namespace Go.Proofs.YtmphklmhhcmbnaaDoorW.Ax
open Go Go.RowKit
set_option linter.unusedVariables false
set_option linter.unusedSimpArgs false

/-! ### Types -/
inductive Z where
  | int (k : IntKind) | bool | str | nil | junk
  deriving DecidableEq
def Z.av : Z → AV
  | .int k => .int k 0
  | .bool => .bool false
  | .str => .str ByteArray.empty
  | .nil => .sl none 0 0
  | .junk => .junk
@[noinline] def Z.of : Value → Z
  | .int k n => if n = 0 then .int k else .junk
  | .bool b => if b = false then .bool else .junk
  | .string s => if s = ByteArray.empty then .str else .junk
  | .slice none 0 0 => .nil
  | _ => .junk
theorem Z.of_vr (n : Nat) (μ : Nat → Loc) (v : Value) : VR n μ (Z.of v).av v := by
  unfold Z.of
  split
  · split
    · rename_i h; subst h; simp [Z.av, VR]
    · simp [Z.av, VR]
  · split
    · rename_i h; subst h; simp [Z.av, VR]
    · simp [Z.av, VR]
  · split
    · rename_i h; subst h; simp [Z.av, VR]
    · simp [Z.av, VR]
  · simp [Z.av, VR]
  · simp [Z.av, VR]

inductive TyK where
  | int (k : IntKind) | bool | str | slice (e : Nat) | struct (n : Nat) | map (k e : Nat) | other
  deriving DecidableEq
structure TyI where
  k : TyK
  zero : List Z
  bytes : Nat
  deriving DecidableEq
def TyI.agg (i : TyI) : Bool := match i.k with | .struct _ => true | _ => false

@[noinline] def kOf (P : Program) : TypeDesc → Option TyK
  | .int k => some (.int k)
  | .bool => some .bool
  | .string => some .str
  | .slice e => some (.slice e)
  | .struct fs => if fs.toList.zipIdx.all (fun (f, j) => f.offset == j && ((P.info? f.type).map (·.size) == some 1) && !(match P.underlying f.type with | some (.struct _) | some (.array _ _) | none => true | _ => false)) then some (.struct fs.size) else none
  | .map k e => some (.map k e)
  | .array _ _ => none
  | _ => some .other
@[noinline] def tyOf (P : Program) (t : Nat) : Option TyI :=
  match P.info? t, P.underlying t with
  | some i, some d =>
    match i.zero, kOf P d with
    | some z, some k => if i.size = z.cells.size then some ⟨k, z.cells.toList.map Z.of, i.bytes⟩ else none
    | _, _ => none
  | _, _ => none

abbrev Tb := List (Nat × TyI)
def look (tb : Tb) (t : Nat) : Option TyI :=
  match tb with
  | [] => none
  | (i, x) :: r => cond (Nat.beq i t) (some x) (look r t)
class TbOk (P : Program) (tb : outParam Tb) : Prop where
  ok : (tb.all fun (t, i) => tyOf P t == some i) = true
  mixed : P.follows .mixedOrders = true

theorem look_ok {P : Program} {tb : Tb} [h : TbOk P tb] {t : Nat} {i : TyI} (hl : look tb t = some i) : tyOf P t = some i := by
  have h := h.ok
  induction tb with
  | nil => cases hl
  | cons x r ih =>
    obtain ⟨j, y⟩ := x
    simp only [List.all_cons, Bool.and_eq_true] at h
    unfold look at hl
    cases hb : Nat.beq j t with
    | true =>
      rw [hb] at hl
      have e := Nat.eq_of_beq_eq_true hb
      subst e
      simp only [cond_true] at hl
      injection hl with hl
      subst hl
      simpa using h.1
    | false =>
      rw [hb] at hl
      exact ih hl h.2

structure TyR (P : Program) (t : Nat) (i : TyI) : Prop where
  info : ∃ inf z, P.info? t = some inf ∧ inf.size = i.zero.length ∧ inf.bytes = i.bytes ∧ inf.zero = some z ∧ z.cells.toList.map Z.of = i.zero ∧ z.cells.size = inf.size
  und : ∃ d, P.underlying t = some d ∧ kOf P d = some i.k
theorem tyR {P : Program} {tb : Tb} [h : TbOk P tb] {t : Nat} {i : TyI} (hl : look tb t = some i) : TyR P t i := by
  have h := look_ok (P := P) hl
  unfold tyOf at h
  split at h
  · rename_i inf d hi hd
    split at h
    · rename_i z k hz hk
      split at h
      · rename_i hs
        injection h with h
        subst h
        exact ⟨⟨inf, z, hi, by simp [hs], rfl, hz, rfl, hs.symm⟩, ⟨d, hd, hk⟩⟩
      · cases h
    · cases h
  · cases h

section
variable {P : Program} {t : Nat} {i : TyI}
theorem TyR.und_of (h : TyR P t i) : (∀ k, i.k = .int k → P.underlying t = some (.int k)) ∧ (i.k = .bool → P.underlying t = some .bool) ∧ (i.k = .str → P.underlying t = some .string) ∧ (∀ e, i.k = .slice e → P.underlying t = some (.slice e)) ∧
    (∀ k e, i.k = .map k e → P.underlying t = some (.map k e)) := by
  obtain ⟨d, hd, hk⟩ := h.und
  refine ⟨fun k hh => ?_, fun hh => ?_, fun hh => ?_, fun e hh => ?_, fun k e hh => ?_⟩ <;> (rw [hh] at hk; rw [hd]; cases d <;> simp only [kOf] at hk <;> first | rfl | (injection hk with hk; injection hk with h1; subst h1; rfl) | (injection hk with hk; injection hk with h1 h2; subst h1; subst h2; rfl) | (injection hk with hk; cases hk; rfl) | (cases hk; done) | (injection hk with hk; cases hk; done) | (split at hk <;> cases hk))
theorem TyR.struct (h : TyR P t i) {n : Nat} (hk : i.k = .struct n) : ∃ fs : Array Field, P.underlying t = some (.struct fs) ∧ fs.size = n ∧ ∀ (j : Nat) (f : Field), fs[j]? = some f → f.offset = j ∧ (∃ inf, P.info? f.type = some inf ∧ inf.size = 1) ∧ ∃ d, P.underlying f.type = some d ∧ (∀ fs, d ≠ .struct fs) ∧ ∀ n e, d ≠ .array n e := by
  obtain ⟨d, hd, hk'⟩ := h.und
  rw [hk] at hk'
  cases d <;> simp only [kOf] at hk' <;> try (injection hk' with hk'; cases hk'; done)
  case struct fs =>
    split at hk'
    · rename_i hall
      injection hk' with hk'
      injection hk' with hk'
      refine ⟨fs, hd, hk', fun j f hf => ?_⟩
      have := List.all_eq_true.1 hall (f, j) (List.mem_zipIdx_iff_getElem?.2 (by simpa using hf))
      simp only [Bool.and_eq_true, beq_iff_eq, Bool.not_eq_true'] at this
      obtain ⟨⟨h1, h2⟩, h3⟩ := this
      refine ⟨h1, ?_, ?_⟩
      · cases hh : P.info? f.type with
        | none => rw [hh] at h2; simp at h2
        | some inf => rw [hh] at h2; exact ⟨inf, rfl, by simpa using h2⟩
      · cases hh : P.underlying f.type with
        | none => rw [hh] at h3; simp at h3
        | some d => exact ⟨d, rfl, fun fs e => by subst e; rw [hh] at h3; simp at h3, fun n e e' => by subst e'; rw [hh] at h3; simp at h3⟩
    · cases hk'
  all_goals cases hk'
theorem TyR.agg (h : TyR P t i) (w : World) : (isAgg t).run P w = .ok i.agg w := by
  obtain ⟨d, hd, hk⟩ := h.und
  have hr : (underlying t).run P w = .ok d w := by simp [underlying, hd]
  unfold isAgg
  rw [Sem.run_bind, hr, Result.andThen_ok]
  unfold TyI.agg
  cases d <;> simp only [kOf] at hk <;> first | (injection hk with hk; rw [← hk]; rfl) | (split at hk <;> first | (injection hk with hk; rw [← hk]; rfl) | (cases hk; done)) | (cases hk; done)
theorem TyR.size (h : TyR P t i) (w : World) : (sizeOf t).run P w = .ok i.zero.length w := by
  obtain ⟨inf, z, h1, h2, _⟩ := h.info
  simp [sizeOf, typeInfo, h1, h2]
theorem TyR.zeroV (h : TyR P t i) (n : Nat) (μ : Nat → Loc) : ∃ z : Value, (∀ w, (zeroValue t).run P w = .ok z w) ∧ VRL n μ (i.zero.map Z.av) z.cells.toList ∧ z.cells.size = i.zero.length := by
  obtain ⟨inf, z, h1, h2, _, h4, h5, h6⟩ := h.info
  refine ⟨z, fun w => by simp [zeroValue, typeInfo, h1, h4], ?_, by rw [h6, h2]⟩
  rw [← h5]
  refine VRL.of_get (by simp) fun j hj => ?_
  have hj' : j < z.cells.size := by simpa using hj
  simp [hj', Z.of_vr]
end

/-! ### Operands -/
def constA : Value → AV
  | .int k n => .int k n
  | .bool b => .bool b
  | .string s => .str s
  | .slice none 0 0 => .sl none 0 0
  | .func (.func f) ⟨[]⟩ ⟨[]⟩ => .fn f []
  | _ => .junk
theorem constA_vr (n : Nat) (μ : Nat → Loc) (v : Value) : VR n μ (constA v) v := by
  unfold constA
  split <;> simp [VR, VRL]
def av (a : Aa) : Operand → AV
  | .tmp t => a.s t
  | .const v => constA v
  | .func f => .fn f []
  | .global _ => .junk
def rv (a : Aa) : Operand → RV
  | .tmp t => match a.p t with
    | some (k, o) => .lp k o
    | none => .v (a.s t)
  | x => .v (av a x)
def avs (a : Aa) : List Operand → List AV
  | [] => []
  | x :: r => av a x :: avs a r
/-- A value, seen to its head. -/
def seen (v : AV) : Option RV :=
  match v with
  | .int k n => some (.v (.int k n))
  | .bool b => some (.v (.bool b))
  | .str s => some (.v (.str s))
  | .sl r o n => some (.v (.sl r o n))
  | .ptr r o => some (.v (.ptr r o))
  | .map r => some (.v (.map r))
  | .fn f c => some (.v (.fn f c))
  | .agg cs => some (.v (.agg cs))
  | .tup vs => some (.v (.tup vs))
  | .junk => some (.v .junk)
  | .und => some (.v .und)
theorem seen_eq {v : AV} {r : RV} (h : seen v = some r) : r = .v v := by
  unfold seen at h
  split at h <;> (injection h with h; exact h.symm)

section
variable {P : Program} {T : Nat → Prop} {μ0 : Nat → Loc} {st0 : St} {w0 : World} {N : Nat} {β : Nat → Nat} {a : Aa} {μ : Nat → Loc} {st : St} {w : World} {ca : Act}
theorem av_vr (h : Inv T μ0 st0 w0 N β a μ st w ca) (x : Operand) : VR st.n μ (av a x) (ca.eval x) := by
  cases x with
  | tmp t => exact h.slot t
  | const v => exact constA_vr _ _ v
  | func f => simp [av, VR, VRL, Act.eval]
  | global g => simp [av, VR]
theorem av_lp (h : Inv T μ0 st0 w0 N β a μ st w ca) {t k o : Nat} (hp : a.p t = some (k, o)) : ca.eval (.tmp t) = .pointer (some ⟨β k, o, none⟩) := h.lp t k o hp
theorem rv_rr (h : Inv T μ0 st0 w0 N β a μ st w ca) (x : Operand) : RR st.n μ β (rv a x) (ca.eval x) := by
  cases x with
  | tmp t =>
    cases hp : a.p t with
    | none => simp only [rv, hp]; exact h.slot t
    | some ko => simp only [rv, hp]; exact h.lp t ko.1 ko.2 hp
  | const v => exact constA_vr _ _ v
  | func f => exact av_vr h (.func f)
  | global g => exact av_vr h (.global g)
theorem avs_vr (h : Inv T μ0 st0 w0 N β a μ st w ca) : ∀ (xs : List Operand), VRL st.n μ (avs a xs) (xs.map ca.eval)
  | [] => by simp [avs, VRL]
  | x :: r => by
    simp only [avs, VRL, List.map_cons]
    exact ⟨_, _, rfl, av_vr h x, avs_vr h r⟩
end

/-! ### What they yield -/
def mvA (a : Aa) (x : Operand) : Option RV :=
  match rv a x with
  | .lp k o => some (.lp k o)
  | .v v => seen v
theorem mvA_eq {a : Aa} {x : Operand} {r : RV} (h : mvA a x = some r) : r = rv a x := by
  unfold mvA at h
  split at h
  · rename_i k o hh; injection h with h; rw [hh, h]
  · rename_i v hh; rw [hh]; exact seen_eq h

def kidx : IntKind → Nat
  | .i8 => 0 | .i16 => 1 | .i32 => 2 | .i64 => 3 | .u8 => 4 | .u16 => 5 | .u32 => 6 | .u64 => 7
theorem kidx_eq {j k : IntKind} (h : Nat.beq (kidx j) (kidx k) = true) : j = k := by
  have := Nat.eq_of_beq_eq_true h
  cases j <;> cases k <;> first | rfl | (simp [kidx] at this; done)

/-- A whole number's mask. -/
def maskA (m : Int) (n : Int) : Option Int :=
  if n = 7 then some (m % 8) else if n = 255 then some (m % 256) else if n = 4294967295 then some (m % 4294967296) else if n = 1073741823 then some (m % 1073741824) else none
def shrA (m : Int) (n : Int) : Option Int :=
  if n = 3 then some (m / 8) else if n = 33 then some (m / 8589934592) else if n = 45 then some (m / 35184372088832) else none
def binA (op : BinOp) (x y : AV) : Option AV :=
  match x, y with
  | .int k m, .int j n =>
    match op with
    | .shr => match k with | .i64 => (shrA m n).bind fun z => some (.int k z) | _ => none
    | op =>
      cond (Nat.beq (kidx k) (kidx j)) (match op with
        | .add => some (.int k (k.wrap (m + n)))
        | .sub => some (.int k (k.wrap (m - n)))
        | .mul => some (.int k (k.wrap (m * n)))
        | .and => match k with | .i64 => (maskA m n).bind fun z => some (.int k z) | _ => none
        | .eql => some (.bool (decide (m = n)))
        | .neq => some (.bool (!decide (m = n)))
        | .lss => some (.bool (decide (m < n)))
        | .leq => some (.bool (decide (m ≤ n)))
        | .gtr => some (.bool (decide (n < m)))
        | .geq => some (.bool (decide (n ≤ m)))
        | _ => none) none
  | .str s, .str u =>
    match op with
    | .eql => some (.bool (s.toList == u.toList))
    | .neq => some (.bool (!(s.toList == u.toList)))
    | _ => none
  | _, _ => none

theorem mask_i64 (m : Int) (j : Nat) (hj : j ≤ 62) : (Op.intBits .and .i64 m ((2 : Int) ^ j - 1)) = (pure (.int .i64 (m % 2 ^ j)) : Sem Value) := by
  have hp : (2 : Nat) ^ j < 2 ^ 63 := Nat.pow_lt_pow_right (by omega) (by omega)
  have hpos : 0 < (2 : Nat) ^ j := Nat.two_pow_pos j
  have h1 : ((2 : Int) ^ j - 1) = (((2 : Nat) ^ j - 1 : Nat) : Int) := by
    rw [Int.ofNat_sub hpos]; simp
  have h2 : (BitVec.ofInt 64 ((2 : Int) ^ j - 1)).toNat = 2 ^ j - 1 := by
    rw [h1, BitVec.toNat_ofInt]
    omega
  have key : (BitVec.ofInt 64 m &&& BitVec.ofInt 64 ((2 : Int) ^ j - 1)).toNat = (m % ((2 ^ 64 : Nat) : Int)).toNat % 2 ^ j := by
    rw [BitVec.toNat_and, h2, BitVec.toNat_ofInt, Nat.and_two_pow_sub_one_eq_mod]
  have hd : ((2 : Nat) ^ j) ∣ 2 ^ 64 := Nat.pow_dvd_pow 2 (by omega)
  have key2 : (((m % ((2 ^ 64 : Nat) : Int)).toNat % 2 ^ j : Nat) : Int) = m % 2 ^ j := by
    have h0 : 0 ≤ m % ((2 ^ 64 : Nat) : Int) := Int.emod_nonneg _ (by omega)
    rw [Int.natCast_emod, Int.toNat_of_nonneg h0]
    have : (((2 : Nat) ^ j : Nat) : Int) ∣ ((2 ^ 64 : Nat) : Int) := Int.natCast_dvd_natCast.2 hd
    rw [Int.emod_emod_of_dvd _ this]
    simp
  show (pure (.int .i64 (IntKind.i64.wrap ((BitVec.ofInt 64 m &&& BitVec.ofInt 64 ((2 : Int) ^ j - 1)).toNat : Nat))) : Sem Value) = _
  have hr : IntKind.i64.wrap (m % 2 ^ j) = m % 2 ^ j := by
    rw [IntKind.wrap_i64]
    have h0 : 0 ≤ m % 2 ^ j := Int.emod_nonneg _ (by have : (0 : Int) < 2 ^ j := by exact_mod_cast hpos
                                                     omega)
    have h3 : m % 2 ^ j < 2 ^ j := Int.emod_lt_of_pos _ (by exact_mod_cast hpos)
    have h4 : ((2 : Int) ^ j) < 2 ^ 63 := by exact_mod_cast hp
    omega
  rw [key, key2, hr]

theorem maskA_ok {m n z : Int} (h : maskA m n = some z) : Op.intBits .and .i64 m n = (pure (.int .i64 z) : Sem Value) := by
  unfold maskA at h
  split at h
  · rename_i e; subst e; injection h with h; subst h; exact mask_i64 m 3 (by omega)
  · split at h
    · rename_i e; subst e; injection h with h; subst h; exact mask_i64 m 8 (by omega)
    · split at h
      · rename_i e; subst e; injection h with h; subst h; exact mask_i64 m 32 (by omega)
      · split at h
        · rename_i e; subst e; injection h with h; subst h; exact mask_i64 m 30 (by omega)
        · cases h
theorem shrA_ok {m n z : Int} {j : IntKind} (h : shrA m n = some z) : Op.shift .shr .i64 m j n = (pure (.int .i64 z) : Sem Value) := by
  unfold shrA at h
  split at h
  · rename_i e; subst e; injection h with h; subst h; simp [Op.shift, IntKind.bits, Int.fdiv_eq_ediv_of_nonneg]
  · split at h
    · rename_i e; subst e; injection h with h; subst h; simp [Op.shift, IntKind.bits, Int.fdiv_eq_ediv_of_nonneg]
    · split at h
      · rename_i e; subst e; injection h with h; subst h; simp [Op.shift, IntKind.bits, Int.fdiv_eq_ediv_of_nonneg]
      · cases h

theorem binA_ok {n : Nat} {μ : Nat → Loc} {op : BinOp} {x y r : AV} (h : binA op x y = some r) {cx cy : Value} (hx : VR n μ x cx) (hy : VR n μ y cy) :
    ∃ c, VR n μ r c ∧ ∀ t, binOp op t cx cy = pure c := by
  cases x <;> cases y <;> simp only [binA] at h <;> try (cases h; done)
  case int.int k m j q =>
    simp only [VR] at hx hy
    subst hx; subst hy
    by_cases hop : op = .shr
    · subst hop
      simp only at h
      cases k <;> simp only at h <;> try (cases h; done)
      cases hz : shrA m q with
      | none => rw [hz] at h; cases h
      | some z =>
        rw [hz] at h
        simp only [Option.bind_some] at h
        injection h with h
        subst h
        exact ⟨.int .i64 z, by simp [VR], fun t => by rw [← shrA_ok (j := j) hz]; rfl⟩
    · cases hb : Nat.beq (kidx k) (kidx j) with
      | false => rw [hb] at h; cases op <;> simp at h hop
      | true =>
        have e := kidx_eq hb
        subst e
        rw [hb] at h
        cases op <;> simp only [cond_true] at h hop <;> try (cases h; done)
        case and =>
          cases k <;> simp only at h <;> try (cases h; done)
          cases hz : maskA m q with
          | none => rw [hz] at h; cases h
          | some z =>
            rw [hz] at h
            simp only [Option.bind_some] at h
            injection h with h
            subst h
            exact ⟨.int .i64 z, by simp [VR], fun t => by rw [← maskA_ok hz]; simp [binOp]⟩
        case shr => exact absurd trivial hop
        all_goals
          injection h with h
          subst h
          refine ⟨_, by simp only [VR]; rfl, fun t => ?_⟩
          simp [binOp, Op.intArith, Op.intCmp, bne, GT.gt, GE.ge]
        all_goals rfl
  case str.str s u =>
    simp only [VR] at hx hy
    subst hx; subst hy
    cases op <;> simp only at h <;> try (cases h; done)
    all_goals (injection h with h; subst h; exact ⟨_, by simp only [VR]; rfl, fun t => by simp [binOp, Op.stringOp]⟩)
end Go.Proofs.YtmphklmhhcmbnaaDoorW.Ax

/- What the operations yield that only read a frame: the law. -/
namespace Go.Proofs.YtmphklmhhcmbnaaDoorW.Ax
open Go Go.RowKit
set_option linter.unusedVariables false
set_option linter.unusedSimpArgs false

def headA (l : List AV) : Option RV := match l with | v :: _ => seen v | [] => none
def takeA : Nat → List AV → Option (List AV)
  | 0, _ => some []
  | n + 1, l => match l with | v :: r => (match takeA n r with | some s => some (v :: s) | none => none) | [] => none
theorem takeA_eq : ∀ (n : Nat) (l s : List AV), takeA n l = some s → s = l.take n ∧ n ≤ l.length
  | 0, l, s, h => by simp [takeA] at h; simp [← h]
  | n + 1, [], s, h => by simp [takeA] at h
  | n + 1, v :: r, s, h => by
    simp only [takeA] at h
    cases hh : takeA n r with
    | none => rw [hh] at h; cases h
    | some u =>
      rw [hh] at h
      injection h with h
      obtain ⟨h1, h2⟩ := takeA_eq n r u hh
      subst h
      simp [h1, h2]
def structN (tb : Tb) (t : Nat) : Option Nat := match look tb t with | some i => (match i.k with | .struct n => some n | _ => none) | none => none
def setA : List AV → List (Nat × AV) → Option (List AV)
  | l, [] => some l
  | l, (i, v) :: r => match (cond (Nat.blt i l.length) (some (l.set i v)) none) with | some l' => setA l' r | none => none
def partsA (a : Aa) : List (Nat × Operand) → List (Nat × AV)
  | [] => []
  | (i, x) :: r => (i, av a x) :: partsA a r
def oneA : AV → Bool
  | .int _ _ | .bool _ | .str _ | .sl _ _ _ | .ptr _ _ | .map _ | .fn _ _ => true
  | _ => false

def run1 (tb : Tb) (a : Aa) (op : Op) : Option RV :=
  match op with
  | .move x => mvA a x
  | .assign x => mvA a x
  | .pick c x y =>
    match av a c with
    | .bool b =>
      match av a x, av a y with
      | .bool p, .bool q => some (.v (.bool (cond b p q)))
      | .bool p, _ => cond b (some (.v (.bool p))) none
      | _, .bool q => cond b none (some (.v (.bool q)))
      | _, _ => none
    | _ => none
  | .unOp u _ x =>
    match u with
    | .not => (match av a x with | .bool b => some (.v (.bool (!b))) | _ => none)
    | _ => none
  | .binOp op _ x y _ => match binA op (av a x) (av a y) with | some v => some (.v v) | none => none
  | .load t x =>
    match rv a x with
    | .lp k o =>
      match a.x k with
      | some l =>
        match look tb t with
        | some i => cond i.agg (match takeA i.zero.length (l.drop o) with | some s => some (.v (.agg s)) | none => none) (headA (l.drop o))
        | none => none
      | none => none
    | _ => none
  | .fieldAddr t x f =>
    match rv a x with
    | .lp k o => match structN tb t with | some n => cond (Nat.blt f n) (some (.lp k (o + f))) none | none => none
    | .v (.ptr r o) => match structN tb t with | some n => cond (Nat.blt f n) (some (.v (.ptr r (o + f)))) none | none => none
    | _ => none
  | .field t x f =>
    match av a x with
    | .agg l => match structN tb t with | some n => cond (Nat.blt f n) (headA (l.drop f)) none | none => none
    | _ => none
  | .nilCheck x =>
    match rv a x with
    | .lp k o => some (.lp k o)
    | .v (.ptr r o) => some (.v (.ptr r o))
    | _ => none
  | .extract x i => match av a x with | .tup l => headA (l.drop i) | _ => none
  | .convert s d x =>
    match av a x with
    | .int k n =>
      match look tb s with
      | some _ => (match look tb d with | some i => (match i.k with | .int j => some (.v (.int j (j.wrap n))) | _ => none) | none => none)
      | none => none
    | _ => none
  | .makeFunc f first cap =>
    match f with
    | .func f => (match first.toList with | [] => some (.v (.fn f (avs a cap.toList))) | _ => none)
    | _ => none
  | .build t parts =>
    match structN tb t with
    | some n => (match look tb t with | some i => cond (Nat.beq i.zero.length n && (partsA a parts.toList).all fun p => oneA p.2) (match setA (i.zero.map Z.av) (partsA a parts.toList) with | some l => some (.v (.agg l)) | none => none) none | none => none)
    | none => none
  | .call c =>
    match c.callee with
    | .builtin b =>
      match b with
      | .len =>
        match c.args.toList, c.argTypes.toList with
        | [x], [t] =>
          match look tb t with
          | some i =>
            match i.k, av a x with
            | .slice _, .sl _ _ n => some (.v (.int .i64 n))
            | .str, .str s => some (.v (.int .i64 s.size))
            | _, _ => none
          | none => none
        | _, _ => none
      | _ => none
    | _ => none
  | _ => none

section
variable {P : Program} {tb : Tb} [TbOk P tb] {T : Nat → Prop} {μ0 : Nat → Loc} {st0 : St} {w0 : World} {N : Nat} {β : Nat → Nat} {a : Aa} {μ : Nat → Loc} {st : St} {w : World} {ca : Act}

theorem VR.one {n : Nat} {μ : Nat → Loc} {v : AV} {cv : Value} (h : VR n μ v cv) (ho : oneA v = true) : cv.oneCell' = true ∧ cv.cells = #[cv] := by
  cases v <;> simp only [oneA] at ho <;> try (cases ho; done)
  case sl r o m =>
    cases r with
    | none => simp only [VR] at h; obtain ⟨_, _, A, rfl⟩ := h; exact ⟨rfl, rfl⟩
    | some r => simp only [VR] at h; obtain ⟨_, A, c, rfl, _⟩ := h; exact ⟨rfl, rfl⟩
  case ptr r o =>
    cases r with
    | none => simp [VR] at h
    | some r => simp only [VR] at h; rw [h.2]; exact ⟨rfl, rfl⟩
  case map r => simp only [VR] at h; rw [h.2]; exact ⟨rfl, rfl⟩
  case fn f c => simp only [VR] at h; obtain ⟨l, rfl, _⟩ := h; exact ⟨rfl, rfl⟩
  all_goals (simp only [VR] at h; rw [h]; exact ⟨rfl, rfl⟩)

theorem headA_ok {n : Nat} {μ : Nat → Loc} {l : List AV} {cs : List Value} {r : RV} (h : headA l = some r) (hv : VRL n μ l cs) : ∃ cv cs', cs = cv :: cs' ∧ ∃ v, r = .v v ∧ VR n μ v cv := by
  cases l with
  | nil => cases h
  | cons v rest =>
    simp only [VRL] at hv
    obtain ⟨cv, cs', rfl, h1, _⟩ := hv
    exact ⟨cv, cs', rfl, v, seen_eq h, h1⟩
theorem VRL.drop {n : Nat} {μ : Nat → Loc} : ∀ (k : Nat) {l : List AV} {cs : List Value}, VRL n μ l cs → VRL n μ (l.drop k) (cs.drop k)
  | 0, _, _, h => by simpa using h
  | k + 1, [], cs, h => by simp only [VRL] at h; subst h; simp [VRL]
  | k + 1, v :: l, cs, h => by
    simp only [VRL] at h
    obtain ⟨cv, cs', rfl, _, h2⟩ := h
    simpa using VRL.drop k h2
theorem VRL.take {n : Nat} {μ : Nat → Loc} : ∀ (k : Nat) {l : List AV} {cs : List Value}, VRL n μ l cs → VRL n μ (l.take k) (cs.take k)
  | 0, _, _, h => by simp [VRL]
  | k + 1, [], cs, h => by simp only [VRL] at h; subst h; simp [VRL]
  | k + 1, v :: l, cs, h => by
    simp only [VRL] at h
    obtain ⟨cv, cs', rfl, h1, h2⟩ := h
    simp only [List.take_succ_cons, VRL]
    exact ⟨cv, _, rfl, h1, VRL.take k h2⟩

/-- A load out of a row of cells. -/
theorem run_loadAt {t : Nat} {i : TyI} (ht : look tb t = some i) (w : World) (g o : Nat) (cs : Array Value) (E : Nat) (fz : Nat × Nat) (hg : w.heap[g]? = some (.cells cs E fz)) (v : Value)
    (h : if i.agg = true then i.zero.length ≤ (cs.toList.drop o).length ∧ v = .agg ((cs.toList.drop o).take i.zero.length).toArray else (cs.toList.drop o).head? = some v) :
    (Instr.loadAt t (.pointer (some ⟨g, o, none⟩))).run P w = .ok v w := by
  have hT := tyR (P := P) ht
  have hc : ∀ j, w.cell? ⟨g, j, none⟩ = cs[j]? := fun j => cell_of_row w g j cs E fz hg
  simp only [Instr.loadAt, Instr.sureAddr, pure_bind, loadVar, Sem.run_bind, hT.agg w, Result.andThen_ok]
  cases ha : i.agg with
  | true =>
    rw [ha] at h
    simp only [if_true] at h
    obtain ⟨h1, rfl⟩ := h
    have hl : (loadCells ⟨g, o, none⟩ ((cs.toList.drop o).take i.zero.length).length).run P w = .ok ((cs.toList.drop o).take i.zero.length).toArray w :=
      run_loadCells_list (P := P) w ⟨g, o, none⟩ _ (fun j v hv => by
        rw [Addr.add_lit, hc]
        rw [List.getElem?_take] at hv
        split at hv
        · simpa using hv
        · cases hv)
    have h2 : ((cs.toList.drop o).take i.zero.length).length = i.zero.length := by rw [List.length_take]; omega
    rw [h2] at hl
    simp [hT.size w, hl]
  | false =>
    rw [ha] at h
    simp only [Bool.false_eq_true, if_false] at h ⊢
    have h3 : cs[o]? = some v := by simpa [List.head?_drop] using h
    simp [hc, h3]

theorem run_fieldAt {t n f : Nat} (hs : structN tb t = some n) (hf : f < n) (w : World) (g o : Nat) : (Instr.fieldAt t (.pointer (some ⟨g, o, none⟩)) f).run P w = .ok (.pointer (some ⟨g, o + f, none⟩)) w := by
  unfold structN at hs
  cases hl : look tb t with
  | none => rw [hl] at hs; cases hs
  | some i =>
    rw [hl] at hs
    simp only at hs
    cases hk : i.k <;> rw [hk] at hs <;> simp only at hs <;> try (cases hs; done)
    injection hs with hs
    subst hs
    obtain ⟨fs, h1, h2, h3⟩ := (tyR (P := P) hl).struct hk
    have hfl : f < fs.size := by omega
    obtain ⟨e1, ⟨inf, e2, e3⟩, _⟩ := h3 f fs[f] (by simp [hfl])
    have hget : fs[f]? = some fs[f] := by simp [hfl]
    simp [Instr.fieldAt, underlying, h1, hget, Instr.sureAddr, fieldPlace, sizeOf, typeInfo, e2, e3, e1, Addr.add_lit]

theorem run_len_slice {t n c : Nat} {A : Option Addr} {i : TyI} {e : Nat} (ht : look tb t = some i) (hk : i.k = .slice e) (w : World) (ty : TypeId) : (Builtin.len_ #[t] ty #[.slice A n c]).run P w = .ok (.int .i64 n) w := by
  have := (tyR (P := P) ht).und_of.2.2.2.1 e hk
  simp [Builtin.len_, underlying, this, goInt]
theorem run_len_str {t : Nat} {s : ByteArray} {i : TyI} (ht : look tb t = some i) (hk : i.k = .str) (w : World) (ty : TypeId) : (Builtin.len_ #[t] ty #[.string s]).run P w = .ok (.int .i64 s.size) w := by
  have := (tyR (P := P) ht).und_of.2.2.1 hk
  simp [Builtin.len_, underlying, this, goInt]

theorem setA_ok {n : Nat} {μ : Nat → Loc} : ∀ (ps : List (Nat × AV)) (cps : List (Nat × Value)) (l s : List AV) (cs : Array Value) (place : Nat → Option (Nat × Nat)), setA l ps = some s → VRL n μ l cs.toList →
    (∀ i, i < l.length → place i = some (i, 1)) → (ps.map (·.1) = cps.map (·.1)) → (∀ (j : Nat) p q, ps[j]? = some p → cps[j]? = some q → VR n μ p.2 q.2 ∧ oneA p.2 = true) →
    ∃ cs' : Array Value, Instr.fill place cs cps = some cs' ∧ VRL n μ s cs'.toList
  | [], [], l, s, cs, place, h, hv, hp, hm, hps => by
    simp only [setA] at h
    injection h with h
    subst h
    exact ⟨cs, rfl, hv⟩
  | [], q :: r, l, s, cs, place, h, hv, hp, hm, hps => by simp at hm
  | p :: r, [], l, s, cs, place, h, hv, hp, hm, hps => by simp at hm
  | (i, v) :: r, (i', cv) :: cr, l, s, cs, place, h, hv, hp, hm, hps => by
    simp only [List.map_cons, List.cons.injEq] at hm
    obtain ⟨rfl, hm⟩ := hm
    simp only [setA] at h
    cases hb : Nat.blt i l.length with
    | false => rw [hb] at h; simp at h
    | true =>
      rw [hb] at h
      simp only [cond_true] at h
      have hi : i < l.length := Nat.le_of_ble_eq_true hb
      have h0 := hps 0 _ _ rfl rfl
      have hone := h0.1.one h0.2
      have hsz : cs.size = l.length := by have := hv.length; simpa using this
      have hv' : VRL n μ (l.set i v) (cs.setIfInBounds i cv).toList := by
        rw [Array.toList_setIfInBounds]
        exact hv.set i h0.1
      obtain ⟨cs', h1, h2⟩ := setA_ok r cr (l.set i v) s (cs.setIfInBounds i cv) place h hv' (fun j hj => hp j (by simpa using hj)) hm (fun j p q hp hq => hps (j + 1) p q (by simpa using hp) (by simpa using hq))
      refine ⟨cs', ?_, h2⟩
      simp only [Instr.fill, hp i hi, hone.2]
      rw [if_neg (by simp; omega)]
      simpa using h1
end
end Go.Proofs.YtmphklmhhcmbnaaDoorW.Ax

/- What the operations yield that only read a frame: each of them. -/
namespace Go.Proofs.YtmphklmhhcmbnaaDoorW.Ax
open Go Go.RowKit
set_option linter.unusedVariables false
set_option linter.unusedSimpArgs false

section
variable {P : Program} {tb : Tb} [TbOk P tb] {T : Nat → Prop} {st0 : St} {N : Nat} {a : Aa} {st : St} {dst : Option Nat} {ty : Nat} {pos : String} {aft : Array Edge} {gd : Option (Nat × Bool)}

omit [TbOk P tb] in
theorem AQ.mk' {op : Op} {r : RV} (h : ∀ μ0 w0 β μ w ca, Inv T μ0 st0 w0 N β a μ st w ca → ∃ cv, RR st.n μ β r cv ∧ ∀ w', Pre w w' → (execOp ca.eval ⟨dst, op, ty, pos, aft, gd⟩).run P w' = .ok (.value cv) w') : AQ P T st0 N ⟨dst, op, ty, pos, aft, gd⟩ r a st := h

omit [TbOk P tb] in
theorem q_move {x : Operand} {r : RV} (h : mvA a x = some r) : AQ P T st0 N ⟨dst, .move x, ty, pos, aft, gd⟩ r a st := by
  intro μ0 w0 β μ w ca hi
  rw [mvA_eq h]
  exact ⟨ca.eval x, rv_rr hi x, fun w' _ => by simp [execOp]⟩
omit [TbOk P tb] in
theorem q_assign {x : Operand} {r : RV} (h : mvA a x = some r) : AQ P T st0 N ⟨dst, .assign x, ty, pos, aft, gd⟩ r a st := by
  intro μ0 w0 β μ w ca hi
  rw [mvA_eq h]
  exact ⟨ca.eval x, rv_rr hi x, fun w' _ => by simp [execOp]⟩
omit [TbOk P tb] in
theorem q_pick {c x y : Operand} {r : RV} (h : run1 tb a (.pick c x y) = some r) : AQ P T st0 N ⟨dst, .pick c x y, ty, pos, aft, gd⟩ r a st := by
  intro μ0 w0 β μ w ca hi
  have hc := av_vr hi c
  have hx := av_vr hi x
  have hy := av_vr hi y
  simp only [run1] at h
  split at h
  · rename_i b hb
    rw [hb] at hc
    simp only [VR] at hc
    have fin : ∀ p : Bool, r = .v (.bool p) → (if b = true then ca.eval x else ca.eval y) = .bool p → ∃ cv, RR st.n μ β r cv ∧ ∀ w', Pre w w' → (execOp ca.eval ⟨dst, .pick c x y, ty, pos, aft, gd⟩).run P w' = .ok (.value cv) w' := fun p e1 e2 => by
      subst e1
      refine ⟨.bool p, by simp [RR, VR], fun w' _ => ?_⟩
      simp [execOp, hc, asBool, e2]
    split at h
    · rename_i p q hp hq
      rw [hp] at hx; rw [hq] at hy
      simp only [VR] at hx hy
      injection h with h
      refine fin (cond b p q) h.symm ?_
      cases b <;> simp [hx, hy]
    · rename_i p _ _ hp _
      rw [hp] at hx
      simp only [VR] at hx
      cases b with
      | true => simp only [cond_true] at h; injection h with h; exact fin _ h.symm (by simp [hx])
      | false => simp at h
    · rename_i q _ hq _
      rw [hq] at hy
      simp only [VR] at hy
      cases b with
      | true => simp at h
      | false => simp only [cond_false] at h; injection h with h; exact fin _ h.symm (by simp [hy])
    · cases h
  · cases h
omit [TbOk P tb] in
theorem q_unOp {u : UnOp} {t : Nat} {x : Operand} {r : RV} (h : run1 tb a (.unOp u t x) = some r) : AQ P T st0 N ⟨dst, .unOp u t x, ty, pos, aft, gd⟩ r a st := by
  intro μ0 w0 β μ w ca hi
  have hx := av_vr hi x
  simp only [run1] at h
  cases u <;> simp only at h <;> try (cases h; done)
  split at h
  · rename_i b hb
    rw [hb] at hx
    simp only [VR] at hx
    injection h with h
    subst h
    exact ⟨.bool (!b), by simp [RR, VR], fun w' _ => by simp [execOp, hx, Op.unary]⟩
  · cases h
omit [TbOk P tb] in
theorem eqGuard_int (op : BinOp) (t : Nat) (x y : Operand) (k : IntKind) (n : Int) (v : Value) (w : World) : (eqGuard op t x y (.int k n) v).run P w = .ok () w := by
  cases op <;> simp [eqGuard]
omit [TbOk P tb] in
theorem eqGuard_str (op : BinOp) (t : Nat) (x y : Operand) (s : ByteArray) (v : Value) (w : World) : (eqGuard op t x y (.string s) v).run P w = .ok () w := by
  cases op <;> simp [eqGuard]
omit [TbOk P tb] in
theorem q_binOp {op : BinOp} {t : Nat} {x y : Operand} {yt : Nat} {r : RV} (h : run1 tb a (.binOp op t x y yt) = some r) : AQ P T st0 N ⟨dst, .binOp op t x y yt, ty, pos, aft, gd⟩ r a st := by
  intro μ0 w0 β μ w ca hi
  have hx := av_vr hi x
  have hy := av_vr hi y
  simp only [run1] at h
  split at h
  · rename_i v hv
    injection h with h
    subst h
    obtain ⟨c, h1, h2⟩ := binA_ok hv hx hy
    refine ⟨c, h1, fun w' _ => ?_⟩
    have hg : (eqGuard op t x y (ca.eval x) (ca.eval y)).run P w' = .ok () w' := by
      have : (∃ k n, ca.eval x = .int k n) ∨ ∃ s, ca.eval x = .string s := by
        cases hxa : av a x <;> rw [hxa] at hv hx <;> simp only [binA] at hv <;> try (cases hv; done)
        · simp only [VR] at hx; exact .inl ⟨_, _, hx⟩
        · simp only [VR] at hx; exact .inr ⟨_, hx⟩
      rcases this with ⟨k, n, e⟩ | ⟨s, e⟩
      · rw [e]; exact eqGuard_int op t x y k n _ w'
      · rw [e]; exact eqGuard_str op t x y s _ w'
    simp only [execOp, Sem.run_bind, hg, Result.andThen_ok, h2, Sem.run_pure]
  · cases h
omit [TbOk P tb] in
theorem rv_lp {x : Operand} {k o : Nat} (h : rv a x = .lp k o) : ∃ t, x = .tmp t ∧ a.p t = some (k, o) := by
  cases x with
  | tmp t =>
    refine ⟨t, rfl, ?_⟩
    simp only [rv] at h
    cases hp : a.p t with
    | none => rw [hp] at h; cases h
    | some ko => obtain ⟨k', o'⟩ := ko; rw [hp] at h; simp only at h; injection h with e1 e2; rw [e1, e2]
  | const v => simp [rv] at h
  | func f => simp [rv] at h
  | global g => simp [rv] at h
theorem q_load {t : Nat} {x : Operand} {r : RV} (h : run1 tb a (.load t x) = some r) : AQ P T st0 N ⟨dst, .load t x, ty, pos, aft, gd⟩ r a st := by
  intro μ0 w0 β μ w ca hi
  have hx := rv_rr hi x
  simp only [run1] at h
  split at h
  · rename_i k o hk
    rw [hk] at hx
    simp only [RR] at hx
    split at h
    · rename_i l hl
      split at h
      · rename_i i ht
        obtain ⟨cs, E, hg, hv⟩ := hi.box k l hl
        have hb := hi.blt (k := k) (by simp [hl])
        have hvd := hv.drop o
        have key : ∀ cv, (if i.agg = true then i.zero.length ≤ (cs.toList.drop o).length ∧ cv = .agg ((cs.toList.drop o).take i.zero.length).toArray else (cs.toList.drop o).head? = some cv) → RR st.n μ β r cv →
            ∃ cv, RR st.n μ β r cv ∧ ∀ w', Pre w w' → (execOp ca.eval ⟨dst, .load t x, ty, pos, aft, gd⟩).run P w' = .ok (.value cv) w' := fun cv h1 h2 => by
          refine ⟨cv, h2, fun w' hp => ?_⟩
          have hg' : w'.heap[β k]? = some (.cells cs E (0, 0)) := (hp.blk _ hb).trans hg
          have := run_loadAt (P := P) ht w' (β k) o cs E (0, 0) hg' cv h1
          simp [execOp, hx, this]
        cases ha : i.agg with
        | true =>
          rw [ha] at h
          simp only [cond_true] at h
          split at h
          · rename_i s hs
            obtain ⟨h1, h2⟩ := takeA_eq _ _ _ hs
            injection h with h
            subst h
            refine key _ (by rw [ha, if_pos rfl]; exact ⟨by rw [hvd.length]; exact h2, rfl⟩) ?_
            simp only [RR, VR]
            exact ⟨_, rfl, by rw [h1]; exact hvd.take _⟩
          · cases h
        | false =>
          rw [ha] at h
          simp only [cond_false] at h
          obtain ⟨cv, cs', e1, v, e2, e3⟩ := headA_ok h hvd
          subst e2
          exact key cv (by rw [ha]; simp [e1]) e3
      · cases h
    · cases h
  · cases h
theorem q_fieldAddr {t : Nat} {x : Operand} {f : Nat} {r : RV} (h : run1 tb a (.fieldAddr t x f) = some r) : AQ P T st0 N ⟨dst, .fieldAddr t x f, ty, pos, aft, gd⟩ r a st := by
  intro μ0 w0 β μ w ca hi
  have hx := rv_rr hi x
  simp only [run1] at h
  split at h
  · rename_i k o hk
    rw [hk] at hx
    simp only [RR] at hx
    split at h
    · rename_i n hn
      cases hb : Nat.blt f n with
      | false => rw [hb] at h; simp at h
      | true =>
        rw [hb] at h
        simp only [cond_true] at h
        injection h with h
        subst h
        exact ⟨_, rfl, fun w' _ => by simp [execOp, hx, run_fieldAt (P := P) hn (Nat.le_of_ble_eq_true hb)]⟩
    · cases h
  · rename_i q o hk
    rw [hk] at hx
    obtain ⟨q, rfl⟩ : ∃ q', q = some q' := by
      cases q with
      | none => simp [RR, VR] at hx
      | some q => exact ⟨q, rfl⟩
    simp only [RR, VR] at hx
    obtain ⟨hq, hx⟩ := hx
    split at h
    · rename_i n hn
      cases hb : Nat.blt f n with
      | false => rw [hb] at h; simp at h
      | true =>
        rw [hb] at h
        simp only [cond_true] at h
        injection h with h
        subst h
        refine ⟨.pointer (some ⟨(μ q).b, (μ q).s + (o + f), none⟩), by simp [RR, VR, hq], fun w' _ => ?_⟩
        simp [execOp, hx, run_fieldAt (P := P) hn (Nat.le_of_ble_eq_true hb), Nat.add_assoc]
    · cases h
  · cases h
theorem q_field {t : Nat} {x : Operand} {f : Nat} {r : RV} (h : run1 tb a (.field t x f) = some r) : AQ P T st0 N ⟨dst, .field t x f, ty, pos, aft, gd⟩ r a st := by
  intro μ0 w0 β μ w ca hi
  have hx := av_vr hi x
  simp only [run1] at h
  split at h
  · rename_i l hl
    rw [hl] at hx
    simp only [VR] at hx
    obtain ⟨cs, hx, hv⟩ := hx
    split at h
    · rename_i n hn
      cases hb : Nat.blt f n with
      | false => rw [hb] at h; simp at h
      | true =>
        rw [hb] at h
        simp only [cond_true] at h
        obtain ⟨cv, cs', e1, v, e2, e3⟩ := headA_ok h (hv.drop f)
        subst e2
        refine ⟨cv, e3, fun w' _ => ?_⟩
        have hfn := Nat.le_of_ble_eq_true hb
        unfold structN at hn
        cases hlt : look tb t with
        | none => rw [hlt] at hn; cases hn
        | some i =>
          rw [hlt] at hn
          simp only at hn
          cases hk : i.k <;> rw [hk] at hn <;> simp only at hn <;> try (cases hn; done)
          injection hn with hn
          subst hn
          obtain ⟨fs, h1, h2, h3⟩ := (tyR (P := P) hlt).struct hk
          have hfl : f < fs.size := by omega
          obtain ⟨e4, _, d, e5, e6, e7⟩ := h3 f fs[f] (by simp [hfl])
          have hget : fs[f]? = some fs[f] := by simp [hfl]
          have hcs : cs[f]? = some cv := by
            have : (cs.drop f)[0]? = some cv := by rw [e1]; rfl
            simpa using this
          have hag : (isAgg fs[f].type).run P w' = .ok false w' := by
            have hr : (underlying fs[f].type).run P w' = .ok d w' := by simp [underlying, e5]
            unfold isAgg
            rw [Sem.run_bind, hr, Result.andThen_ok]
            cases d <;> first | rfl | exact absurd rfl (e6 _) | exact absurd rfl (e7 _ _)
          simp [execOp, hx, Instr.field, underlying, h1, hget, asAgg, part, hag, e4, hcs]
    · cases h
  · cases h
omit [TbOk P tb] in
theorem q_nilCheck {x : Operand} {r : RV} (h : run1 tb a (.nilCheck x) = some r) : AQ P T st0 N ⟨dst, .nilCheck x, ty, pos, aft, gd⟩ r a st := by
  intro μ0 w0 β μ w ca hi
  have hx := rv_rr hi x
  simp only [run1] at h
  split at h
  · rename_i k o hk
    rw [hk] at hx
    simp only [RR] at hx
    injection h with h
    subst h
    exact ⟨_, rfl, fun w' _ => by simp [execOp, hx]⟩
  · rename_i q o hk
    rw [hk] at hx
    obtain ⟨q, rfl⟩ : ∃ q', q = some q' := by
      cases q with
      | none => simp [RR, VR] at hx
      | some q => exact ⟨q, rfl⟩
    simp only [RR, VR] at hx
    injection h with h
    subst h
    exact ⟨_, by simp only [RR, VR]; exact ⟨hx.1, rfl⟩, fun w' _ => by simp [execOp, hx.2]⟩
  · cases h
omit [TbOk P tb] in
theorem q_extract {x : Operand} {i : Nat} {r : RV} (h : run1 tb a (.extract x i) = some r) : AQ P T st0 N ⟨dst, .extract x i, ty, pos, aft, gd⟩ r a st := by
  intro μ0 w0 β μ w ca hi
  have hx := av_vr hi x
  simp only [run1] at h
  split at h
  · rename_i l hl
    rw [hl] at hx
    simp only [VR] at hx
    obtain ⟨cs, hx, hv⟩ := hx
    obtain ⟨cv, cs', e1, v, e2, e3⟩ := headA_ok h (hv.drop i)
    subst e2
    refine ⟨cv, e3, fun w' _ => ?_⟩
    have hcs : cs[i]? = some cv := by
      have : (cs.drop i)[0]? = some cv := by rw [e1]; rfl
      simpa using this
    simp [execOp, hx, Instr.extract, hcs]
  · cases h
theorem q_convert {s d : Nat} {x : Operand} {r : RV} (h : run1 tb a (.convert s d x) = some r) : AQ P T st0 N ⟨dst, .convert s d x, ty, pos, aft, gd⟩ r a st := by
  intro μ0 w0 β μ w ca hi
  have hx := av_vr hi x
  simp only [run1] at h
  split at h
  · rename_i k n hl
    rw [hl] at hx
    simp only [VR] at hx
    split at h
    · rename_i j0 hj0
      obtain ⟨ds, hds, _⟩ := (tyR (P := P) hj0).und
      split at h
      · rename_i i ht
        split at h
        · rename_i j hk
          injection h with h
          subst h
          have hu := (tyR (P := P) ht).und_of.1 j hk
          refine ⟨.int j (j.wrap n), by simp [RR, VR], fun w' _ => ?_⟩
          simp [execOp, hx, convert, underlying, hds, hu, Conv.intToInt]
        · cases h
      · cases h
    · cases h
  · cases h
omit [TbOk P tb] in
theorem q_makeFunc {fn : Fn} {first cap : Array Operand} {r : RV} (h : run1 tb a (.makeFunc fn first cap) = some r) : AQ P T st0 N ⟨dst, .makeFunc fn first cap, ty, pos, aft, gd⟩ r a st := by
  intro μ0 w0 β μ w ca hi
  simp only [run1] at h
  split at h
  · rename_i f
    split at h
    · rename_i hf
      injection h with h
      subst h
      have hfirst : first = #[] := by
        cases first; simp at hf; simp [hf]
      refine ⟨.func (.func f) #[] (cap.toList.map ca.eval).toArray, ?_, fun w' _ => ?_⟩
      · simp only [RR, VR]
        exact ⟨_, rfl, avs_vr hi cap.toList⟩
      · simp [execOp, hfirst, Instr.makeFunc]
        cases cap; simp
    · cases h
  · cases h
omit [TbOk P tb] in
theorem partsA_map (x : List (Nat × Operand)) : (partsA a x).map (·.1) = x.map (·.1) := by
  induction x with
  | nil => rfl
  | cons p r ih => obtain ⟨i, y⟩ := p; simp [partsA, ih]
omit [TbOk P tb] in
theorem partsA_get : ∀ (x : List (Nat × Operand)) (j : Nat), (partsA a x)[j]? = (x[j]?).map fun p => (p.1, av a p.2)
  | [], j => by simp [partsA]
  | (i, y) :: r, 0 => by simp [partsA]
  | (i, y) :: r, j + 1 => by simpa [partsA] using partsA_get r j
omit [TbOk P tb] in
theorem mapM_all {α β : Type} (f : α → Sem β) (g : α → β) (w : World) : ∀ (l : List α), (∀ x ∈ l, (f x).run P w = .ok (g x) w) → (l.mapM f).run P w = .ok (l.map g) w
  | [], _ => by simp
  | x :: r, h => by
    have h0 := h x (List.mem_cons_self ..)
    have ih := mapM_all f g w r (fun y hy => h y (List.mem_cons_of_mem _ hy))
    simp [List.mapM_cons, h0, ih]
theorem q_build {t : Nat} {parts : Array (Nat × Operand)} {r : RV} (h : run1 tb a (.build t parts) = some r) : AQ P T st0 N ⟨dst, .build t parts, ty, pos, aft, gd⟩ r a st := by
  intro μ0 w0 β μ w ca hi
  simp only [run1] at h
  split at h
  · rename_i n hn
    split at h
    · rename_i i ht
      cases hone : (Nat.beq i.zero.length n && (partsA a parts.toList).all fun p => oneA p.2) with
      | false => rw [hone] at h; simp at h
      | true =>
        rw [hone] at h
        simp only [cond_true] at h
        simp only [Bool.and_eq_true] at hone
        obtain ⟨hlen, hone⟩ := hone
        have hlen := Nat.eq_of_beq_eq_true hlen
        split at h
        · rename_i s hs
          injection h with h
          subst h
          have hT := tyR (P := P) ht
          obtain ⟨z, hz, hzv, hzs⟩ := hT.zeroV st.n μ
          unfold structN at hn
          rw [ht] at hn
          simp only at hn
          cases hk : i.k <;> rw [hk] at hn <;> simp only at hn <;> try (cases hn; done)
          injection hn with hn
          subst hn
          obtain ⟨fs, h1, h2, h3⟩ := hT.struct hk
          have hplaces : ∀ w', (fs.mapM (fun (f : Field) => do pure (f.offset, ← sizeOf f.type))).run P w' = .ok (fs.map fun (f : Field) => (f.offset, 1)) w' := fun w' => by
            rw [Array.mapM_eq_mapM_toList]
            rw [Sem.run_map]
            rw [mapM_all (P := P) _ (fun (f : Field) => (f.offset, 1)) w' fs.toList (fun f hf => by
              obtain ⟨j, hj⟩ := List.mem_iff_getElem?.1 hf
              obtain ⟨_, ⟨inf, e2, e3⟩, _⟩ := h3 j f (by simpa using hj)
              simp [sizeOf, typeInfo, e2, e3])]
            simp [Array.toList_map, ← Array.toList_map]
          obtain ⟨cs', hf, hv⟩ := setA_ok (partsA a parts.toList) (parts.map fun (p : Nat × Operand) => (p.1, ca.eval p.2)).toList (i.zero.map Z.av) s z.cells (fun j => (fs.map fun (f : Field) => (f.offset, 1))[j]?) hs hzv
            (fun j hj => by
              have hj' : j < fs.size := by simp at hj; omega
              have := (h3 j fs[j] (by simp [hj'])).1
              simp [hj', this])
            (by rw [partsA_map]; simp [List.map_map, Function.comp_def])
            (fun j p q hp hq => by
              rw [partsA_get] at hp
              have hq' : (parts.toList[j]?).map (fun (p : Nat × Operand) => (p.1, ca.eval p.2)) = some q := by simpa using hq
              cases hx : parts.toList[j]? with
              | none => rw [hx] at hp; cases hp
              | some x =>
                rw [hx] at hp hq'
                simp only [Option.map_some, Option.some.injEq] at hp hq'
                subst hp; subst hq'
                refine ⟨av_vr hi x.2, ?_⟩
                have := List.all_eq_true.1 hone (x.1, av a x.2) (List.mem_iff_getElem?.2 ⟨j, by rw [partsA_get, hx]; rfl⟩)
                exact this)
          refine ⟨.agg cs', by simp only [RR, VR]; exact ⟨_, by simp, hv⟩, fun w' _ => ?_⟩
          have hu : (underlying t).run P w' = .ok (.struct fs) w' := by simp [underlying, h1]
          have hparts : (parts.map fun (x : Nat × Operand) => match x with | (i, x) => (i, ca.eval x)) = (parts.map fun (p : Nat × Operand) => (p.1, ca.eval p.2)) := rfl
          simp only [execOp, Instr.build, Sem.run_bind, hz, Result.andThen_ok, hu, hplaces]
          simp only [hparts, hf, Sem.run_pure, Result.andThen_ok, Sem.run_bind]
        · cases h
    · cases h
  · cases h
theorem q_len {c : Call} {r : RV} (h : run1 tb a (.call c) = some r) : AQ P T st0 N ⟨dst, .call c, ty, pos, aft, gd⟩ r a st := by
  intro μ0 w0 β μ w ca hi
  obtain ⟨callee, args, types⟩ := c
  simp only [run1] at h
  split at h
  · split at h
    · split at h
      · rename_i x t hx ht
        have ha : args = #[x] := by cases args; simp at hx; simp [hx]
        have hty : types = #[t] := by cases types; simp at ht; simp [ht]
        subst ha; subst hty
        have hv := av_vr hi x
        split at h
        · rename_i i hi'
          split at h
          · rename_i e _ _ n hk hn
            rw [hn] at hv
            injection h with h
            subst h
            have : ∃ A c, ca.eval x = .slice A n c := by
              rename_i r' o'
              cases r' with
              | none => simp only [VR] at hv; obtain ⟨_, h0, A, hA⟩ := hv; exact ⟨A, 0, by rw [hA, h0]⟩
              | some q => simp only [VR] at hv; obtain ⟨_, A, c, hv, _⟩ := hv; exact ⟨some A, c, hv⟩
            obtain ⟨A, c, hv⟩ := this
            exact ⟨.int .i64 n, by simp [RR, VR], fun w' _ => by simp [execOp, resolve, invoke, builtin, hv, run_len_slice (P := P) hi' hk]⟩
          · rename_i s hk hn
            rw [hn] at hv
            simp only [VR] at hv
            injection h with h
            subst h
            exact ⟨.int .i64 s.size, by simp [RR, VR], fun w' _ => by simp [execOp, resolve, invoke, builtin, hv, run_len_str (P := P) hi' hk]⟩
          · cases h
        · cases h
      · cases h
    · cases h
  · cases h
end
end Go.Proofs.YtmphklmhhcmbnaaDoorW.Ax

/- Many operations of a frame at once. -/
namespace Go.Proofs.YtmphklmhhcmbnaaDoorW.Ax
open Go Go.RowKit
set_option linter.unusedVariables false
set_option linter.unusedSimpArgs false

section
variable {P : Program} {tb : Tb} [TbOk P tb] {T : Nat → Prop} {st0 : St} {N : Nat}

theorem run1_ok {a : Aa} {st : St} {o : Oper} {r : RV} (h : run1 tb a o.op = some r) : AQ P T st0 N o r a st := by
  obtain ⟨dst, op, ty, pos, aft, gd⟩ := o
  simp only at h
  cases op
  case move x => exact q_move h
  case assign x => exact q_assign h
  case pick c x y => exact q_pick h
  case unOp u t x => exact q_unOp h
  case binOp op t x y yt => exact q_binOp h
  case load t x => exact q_load h
  case fieldAddr t x f => exact q_fieldAddr h
  case field t x f => exact q_field h
  case nilCheck x => exact q_nilCheck h
  case extract x i => exact q_extract h
  case convert s d x => exact q_convert h
  case makeFunc f first cap => exact q_makeFunc h
  case build t parts => exact q_build h
  case call c => exact q_len h
  all_goals (simp only [run1] at h; cases h)

/-! ### Variables of the frame's own -/
def clr (p : Nat → Option (Nat × Nat)) (d : Nat) : Nat → Option (Nat × Nat) := fun i => match p i with | some (k, o) => cond (Nat.beq k d) none (some (k, o)) | none => none
def Aa.box (a : Aa) (d : Nat) (l : List AV) : Aa := ⟨upd a.s d .junk, upd (clr a.p d) d (some (d, 0)), upd a.x d (some l)⟩
def Aa.sto (a : Aa) (k : Nat) (l : List AV) : Aa := ⟨a.s, a.p, upd a.x k (some l)⟩
def cellsOf (v : AV) : List AV := match v with | .agg l => l | v => [v]
def forceL : List AV → Option (List AV)
  | [] => some []
  | v :: l => match forceL l with | some s => (match seen v with | some (.v u) => some (u :: s) | _ => none) | none => none
def cellsB (v : AV) : Option (List AV) :=
  match v with
  | .agg l => forceL l
  | .int k n => some [.int k n]
  | .bool b => some [.bool b]
  | .str s => some [.str s]
  | .sl r o n => some [.sl r o n]
  | .ptr r o => some [.ptr r o]
  | .map r => some [.map r]
  | .fn f c => some [.fn f c]
  | _ => none
def stoA : List AV → Nat → List AV → Option (List AV)
  | l, 0, [] => some l
  | x :: l, 0, v :: vs => match stoA l 0 vs with | some s => some (v :: s) | none => none
  | x :: l, o + 1, vs => match stoA l o vs with | some s => some (x :: s) | none => none
  | [], _, _ => none
theorem stoA_eq : ∀ (l : List AV) (o : Nat) (vs l' : List AV), stoA l o vs = some l' → l' = l.take o ++ vs ++ l.drop (o + vs.length) ∧ o + vs.length ≤ l.length
  | [], 0, [], l', h => by simp [stoA] at h; simp [← h]
  | [], 0, v :: vs, l', h => by simp [stoA] at h
  | [], o + 1, vs, l', h => by simp [stoA] at h
  | x :: l, 0, [], l', h => by simp [stoA] at h; simp [← h]
  | x :: l, 0, v :: vs, l', h => by
    simp only [stoA] at h
    cases hh : stoA l 0 vs with
    | none => rw [hh] at h; cases h
    | some s =>
      rw [hh] at h
      injection h with h
      obtain ⟨h1, h2⟩ := stoA_eq l 0 vs s hh
      subst h
      simp only [List.take_zero, List.nil_append, Nat.zero_add] at h1 h2 ⊢
      refine ⟨?_, by simp; omega⟩
      rw [h1]; simp
  | x :: l, o + 1, vs, l', h => by
    simp only [stoA] at h
    cases hh : stoA l o vs with
    | none => rw [hh] at h; cases h
    | some s =>
      rw [hh] at h
      injection h with h
      obtain ⟨h1, h2⟩ := stoA_eq l o vs s hh
      subst h
      refine ⟨?_, by simp; omega⟩
      rw [h1, show o + 1 + vs.length = (o + vs.length) + 1 by omega]; simp
theorem forceL_eq : ∀ (l s : List AV), forceL l = some s → s = l
  | [], s, h => by simp [forceL] at h; exact h
  | v :: l, s, h => by
    simp only [forceL] at h
    cases hh : forceL l with
    | none => rw [hh] at h; cases h
    | some s' =>
      rw [hh] at h
      simp only at h
      split at h
      · rename_i u hu
        have := seen_eq hu
        injection this with this
        injection h with h
        rw [← h, this, forceL_eq l s' hh]
      · cases h

section
variable {a : Aa} {st : St} {β : Nat → Nat} {μ0 : Nat → Loc} {w0 : World} {μ : Nat → Loc} {w : World} {ca : Act}
omit [TbOk P tb] in
theorem VRL.ones {n : Nat} {μ : Nat → Loc} : ∀ {l : List AV} {cs : List Value}, VRL n μ l cs → l.all oneA = true → ∀ x ∈ cs, x.oneCell' = true
  | [], _, hv, _, x, hx => by simp only [VRL] at hv; subst hv; cases hx
  | y :: l, _, hv, ho, x, hx => by
    simp only [VRL] at hv
    obtain ⟨v, l', rfl, h1, h2⟩ := hv
    simp only [List.all_cons, Bool.and_eq_true] at ho
    cases hx with
    | head => exact (h1.one ho.1).1
    | tail _ hx => exact VRL.ones h2 ho.2 x hx
omit [TbOk P tb] in
theorem VR.cellsB {n : Nat} {μ : Nat → Loc} {v : AV} {cv : Value} {l : List AV} (h : VR n μ v cv) (hl : Ax.cellsB v = some l) : VRL n μ l cv.cells.toList := by
  cases v <;> simp only [Ax.cellsB] at hl <;> try (cases hl; done)
  case agg cs =>
    have := forceL_eq _ _ hl
    subst this
    simp only [VR] at h
    obtain ⟨l', rfl, h⟩ := h
    simpa [Value.cells] using h
  all_goals
    injection hl with hl
    subst hl
    rw [(h.one rfl).2]
    simp only [VRL]
    exact ⟨_, [], rfl, h, rfl⟩

omit [TbOk P tb] in
/-- A new variable of the frame's own. -/
theorem Inv.box_new (h : Inv T μ0 st0 w0 N β a μ st w ca) {d : Nat} (hd : d < N) {l : List AV} {cs : Array Value} {E : Nat} (hv : VRL st.n μ l cs.toList) :
    Inv T μ0 st0 w0 N (upd β d w.heap.size) (a.box d l) μ st (w.alloc (.cells cs E)) (ca.put (some d) (.pointer (some ⟨w.heap.size, 0, none⟩))) := by
  have hp : Pre w (w.alloc (.cells cs E)) := ⟨by simp, fun b hb => heap_alloc_old w _ hb, rfl, rfl, rfl⟩
  have h1 := h.pre hp
  have hx : ∀ k, k ≠ d → (a.box d l).x k = a.x k := fun k hk => upd_ne _ _ hk
  have hxd : (a.box d l).x d = some l := upd_same _ _ _
  have hb : ∀ k, k ≠ d → upd β d w.heap.size k = β k := fun k hk => upd_ne _ _ hk
  have hbd : upd β d w.heap.size d = w.heap.size := upd_same _ _ _
  have hdN : d < ca.tmps.size := by rw [h.size]; exact hd
  refine ⟨h1.rel, h1.stp, by simp [Act.put, h.size], h.defers, fun i => ?_, fun i k o hi => ?_, fun k l' hk => ?_, fun k k' h2 h3 h4 => ?_, fun k i h2 h3 h4 => ?_, fun k h2 => ?_⟩
  · show VR st.n μ (upd a.s d .junk i) ((ca.tmps.setIfInBounds d _).getD i undef)
    rw [getD_set]
    by_cases e : i = d
    · subst e; rw [upd_same]; simp [VR]
    · rw [upd_ne _ _ e, if_neg (fun hh => e hh.1)]; exact h.slot i
  · have hi' : upd (clr a.p d) d (some (d, 0)) i = some (k, o) := hi
    show (ca.tmps.setIfInBounds d _).getD i undef = _
    rw [getD_set]
    by_cases e : i = d
    · subst e
      rw [upd_same] at hi'
      injection hi' with e1
      injection e1 with e2 e3
      subst e2; subst e3
      rw [if_pos ⟨rfl, hdN⟩, hbd]
    · rw [upd_ne _ _ e] at hi'
      rw [if_neg (fun hh => e hh.1)]
      unfold clr at hi'
      split at hi'
      · rename_i k' o' hk'
        cases hbq : Nat.beq k' d with
        | true => rw [hbq] at hi'; simp at hi'
        | false =>
          rw [hbq] at hi'
          simp only [cond_false] at hi'
          injection hi' with e1
          injection e1 with e2 e3
          subst e2; subst e3
          have hne : k' ≠ d := fun e => by subst e; simp at hbq
          rw [hb k' hne]
          exact h.lp i k' o' hk'
      · cases hi'
  · by_cases e : k = d
    · subst e
      rw [hxd] at hk
      injection hk with hk
      subst hk
      rw [hbd]
      exact ⟨cs, E, heap_alloc_new w _, hv⟩
    · rw [hx k e] at hk
      rw [hb k e]
      exact h1.box k l' hk
  · by_cases e : k = d
    · subst e
      have e' : k' ≠ k := Ne.symm h4
      rw [hbd, hb k' e']
      have := h.blt (k := k') (by rw [← hx k' e']; exact h3)
      omega
    · by_cases e' : k' = d
      · subst e'
        rw [hbd, hb k e]
        have := h.blt (k := k) (by rw [← hx k e]; exact h2)
        omega
      · rw [hb k e, hb k' e']
        exact h.bsep k k' (by rw [← hx k e]; exact h2) (by rw [← hx k' e']; exact h3) h4
  · by_cases e : k = d
    · subst e
      rw [hbd]
      have := (h.rel.obj i h3).lt h4
      omega
    · rw [hb k e]
      exact h.bst k i (by rw [← hx k e]; exact h2) h3 h4
  · by_cases e : k = d
    · subst e; rw [hbd]; exact h.stp.size
    · rw [hb k e]; exact h.bnew k (by rw [← hx k e]; exact h2)

omit [TbOk P tb] in
/-- A variable of the frame's own is written. -/
theorem Inv.box_set (h : Inv T μ0 st0 w0 N β a μ st w ca) {k : Nat} {l l' : List AV} {cs cs' : Array Value} {E : Nat} (hx : a.x k = some l) (hg : w.heap[β k]? = some (.cells cs E (0, 0))) (hv : VRL st.n μ l' cs'.toList) :
    Inv T μ0 st0 w0 N β (a.sto k l') μ st (w.setRow (β k) cs') ca := by
  have hk0 : a.x k ≠ none := by simp [hx]
  have hlt := h.blt hk0
  have hoth : ∀ b, b ≠ β k → (w.setRow (β k) cs').heap[b]? = w.heap[b]? := fun b hb => setRow_other w (β k) b cs' hb
  have hself : (w.setRow (β k) cs').heap[β k]? = some (.cells cs' E (0, 0)) := setRow_heap w (β k) cs cs' E (0, 0) hg
  have hsz : (w.setRow (β k) cs').heap.size = w.heap.size := by simp [World.setRow]
  have hxk : ∀ j, (a.sto k l').x j ≠ none → a.x j ≠ none := fun j hj => by
    by_cases e : j = k
    · subst e; exact hk0
    · have : (a.sto k l').x j = a.x j := upd_ne _ _ e
      rw [← this]; exact hj
  refine ⟨⟨fun i hi => ?_, h.rel.sep⟩, ⟨h.stp.n, h.stp.mu, h.stp.ob, h.stp.own, h.stp.live, by rw [hsz]; exact h.stp.size, fun b hb hd => ?_, h.stp.new, h.stp.os, h.stp.tape, h.stp.output⟩, h.size, h.defers, h.slot, h.lp, fun j l2 hj => ?_, fun j j' h1 h2 h3 => h.bsep j j' (hxk j h1) (hxk j' h2) h3, fun j i h1 h2 h3 => h.bst j i (hxk j h1) h2 h3, fun j hj => h.bnew j (hxk j hj)⟩
  · cases hl : (st.ob i).live with
    | true => exact (h.rel.obj i hi).mono (Nat.le_refl _) (fun _ _ => rfl) (hoth _ (h.bst k i hk0 hi hl))
    | false =>
      have : st.ob i = .dead := by cases ho : st.ob i <;> simp_all [Ob.live]
      rw [this]; trivial
  · have := h.bnew k hk0
    rw [hoth b (by omega)]
    exact h.stp.blk b hb hd
  · by_cases e : j = k
    · subst e
      have : (a.sto j l').x j = some l' := upd_same _ _ _
      rw [this] at hj
      injection hj with hj
      subst hj
      exact ⟨cs', E, hself, hv⟩
    · have : (a.sto k l').x j = a.x j := upd_ne _ _ e
      rw [this] at hj
      obtain ⟨cs2, E2, h1, h2⟩ := h.box j l2 hj
      exact ⟨cs2, E2, by rw [hoth _ (h.bsep j k (by simp [hj]) hk0 e)]; exact h1, h2⟩
end

/-- One operation of a frame: what it makes of the frame. -/
def run2 (tb : Tb) (m : Md) (a : Aa) (o : Oper) : Option Aa :=
  match o.op with
  | .box t x =>
    match o.dst, m with
    | _, .q => none
    | some d, _ => (match cellsB (av a x) with | some l => some (a.box d l) | none => none)
    | none, _ => none
  | .alloc t =>
    match o.dst, m with
    | _, .q => none
    | some d, _ => (match look tb t with | some i => (match forceL (i.zero.map Z.av) with | some l => some (a.box d l) | none => none) | none => none)
    | none, _ => none
  | .store t x v =>
    match m, o.dst with
    | .n, none =>
      match rv a x with
      | .lp k o =>
        match a.x k with
        | some l =>
          match look tb t with
          | some i =>
            match cellsB (av a v) with
            | some vs => cond (vs.all oneA && Nat.beq vs.length i.zero.length) (match stoA l o vs with | some l' => some (a.sto k l') | none => none) none
            | none => none
          | none => none
        | none => none
      | _ => none
    | _, _ => none
  | op =>
    match run1 tb a op with
    | some (.v x) => (match o.dst with | some d => some (a.put (some d) (.v x)) | none => some a)
    | some (.lp k q) => (match o.dst with | some d => some (a.put (some d) (.lp k q)) | none => some a)
    | none => none

theorem run2_ok {m : Md} {a a' : Aa} {st : St} {o : Oper} {R : Aa → St → Prop} (h : run2 tb m a o = some a') (hR : R a' st) : ALeaf P T st0 N o m R a st := by
  have fin : (∀ f : Bool, (m = .n → f = false) → AOp P T st0 N o f R a st) → m ≠ .q → ALeaf P T st0 N o m R a st := fun hh hm => by
    cases m with
    | q => exact absurd rfl hm
    | f => exact hh true (fun e => by cases e)
    | n => exact hh false (fun _ => rfl)
  have pure1 : (match run1 tb a o.op with
    | some (.v x) => (match o.dst with | some d => some (a.put (some d) (.v x)) | none => some a)
    | some (.lp k q) => (match o.dst with | some d => some (a.put (some d) (.lp k q)) | none => some a)
    | none => none) = some a' → ALeaf P T st0 N o m R a st := fun h => by
    have h' : ∃ r, run1 tb a o.op = some r ∧ a' = a.put o.dst r := by
      cases hr : run1 tb a o.op with
      | none => rw [hr] at h; cases h
      | some r =>
        refine ⟨r, rfl, ?_⟩
        rw [hr] at h
        cases r <;> cases hd : o.dst <;> rw [hd] at h <;> simp only at h <;> injection h with h <;> rw [← h] <;> rfl
    obtain ⟨r, hr, rfl⟩ := h'
    · have hq := run1_ok (P := P) (T := T) (st0 := st0) (N := N) (st := st) hr
      cases m with
      | q => exact ⟨r, hq, hR⟩
      | f => exact AOp_of_AQ hq hR
      | n => exact AOp_of_AQ hq hR
  obtain ⟨dst, op, ty, pos, aft, gd⟩ := o
  simp only [run2] at h
  split at h
  · rename_i t x
    split at h
    · cases h
    · rename_i d hm
      split at h
      · rename_i l hl
        injection h with h
        subst h
        refine fin (fun f _ hd μ0 w0 β μ w ca hi Q' => ?_) (fun e => by subst e; simp at hm)
        have hv := (av_vr hi x).cellsB hl
        have hr : (execOp ca.eval ⟨some d, .box t x, ty, pos, aft, gd⟩).run P w = .ok (.value (.pointer (some ⟨w.heap.size, 0, none⟩))) (w.alloc (.cells (ca.eval x).cells t)) := by
          simp [execOp, Instr.box, newVar, newRow]
        unfold Oper.wp
        rw [hr]
        exact ⟨fun _ => ⟨by simp, fun b hb => heap_alloc_old w _ hb, rfl, rfl, rfl⟩, _, _, μ, st, hi.box_new (hd d rfl) hv, hR⟩
      · cases h
    · cases h
  · rename_i t
    split at h
    · cases h
    · rename_i d hm
      split at h
      · rename_i i ht
        split at h
        · rename_i l hl
          injection h with h
          subst h
          have hl := forceL_eq _ _ hl
          subst hl
          refine fin (fun f _ hd μ0 w0 β μ w ca hi Q' => ?_) (fun e => by subst e; simp at hm)
          obtain ⟨z, hz, hzv, _⟩ := (tyR (P := P) ht).zeroV st.n μ
          have hr : (execOp ca.eval ⟨some d, .alloc t, ty, pos, aft, gd⟩).run P w = .ok (.value (.pointer (some ⟨w.heap.size, 0, none⟩))) (w.alloc (.cells z.cells t)) := by
            simp [execOp, Instr.alloc, hz, newVar, newRow]
          unfold Oper.wp
          rw [hr]
          exact ⟨fun _ => ⟨by simp, fun b hb => heap_alloc_old w _ hb, rfl, rfl, rfl⟩, _, _, μ, st, hi.box_new (hd d rfl) hzv, hR⟩
        · cases h
      · cases h
    · cases h
  · rename_i t x v
    split at h
    · rename_i hm
      split at h
      · rename_i k o hk
        split at h
        · rename_i l hx
          split at h
          · rename_i i ht
            split at h
            · rename_i vs hvs
              cases hc : (vs.all oneA && Nat.beq vs.length i.zero.length) with
              | false => rw [hc] at h; simp at h
              | true =>
                rw [hc] at h
                simp only [cond_true] at h
                simp only [Bool.and_eq_true] at hc
                obtain ⟨hone, hlen⟩ := hc
                have hlen := Nat.eq_of_beq_eq_true hlen
                split at h
                · rename_i l' hl'
                  injection h with h
                  subst h
                  obtain ⟨e1, e2⟩ := stoA_eq _ _ _ _ hl'
                  refine fin (fun f hf hd μ0 w0 β μ w ca hi Q' => ?_) (by simp)
                  have hf := hf rfl
                  subst hf
                  have hp := rv_rr hi x
                  rw [hk] at hp
                  simp only [RR] at hp
                  have hv := (av_vr hi v).cellsB hvs
                  obtain ⟨cs, E, hg, hcs⟩ := hi.box k l hx
                  have hvl := hv.length
                  have hcl := hcs.length
                  have hsz : (sizeOf t).run P w = .ok i.zero.length w := (tyR (P := P) ht).size w
                  have hone' := VRL.ones hv hone
                  have hst := run_storeCells_at P (β k) o E (ca.eval v).cells.toList 0 cs w hg (by rw [hvl]; simp at hcl; omega) hone'
                  have hr : (execOp ca.eval ⟨none, .store t x v, ty, pos, aft, gd⟩).run P w = .ok .skip (w.setRow (β k) (cs.toList.take (o + 0) ++ (ca.eval v).cells.toList ++ cs.toList.drop (o + 0 + (ca.eval v).cells.toList.length)).toArray) := by
                    have hne : (ca.eval v).cells.size = i.zero.length := by have := hvl; simp at this; omega
                    simp only [execOp, Instr.storeAt, hp, Instr.sureAddr, pure_bind, storeVar, Sem.run_bind, hsz, Result.andThen_ok, hne, ne_eq, not_true_eq_false, if_false, hst, Sem.run_pure]
                  unfold Oper.wp
                  rw [hr]
                  refine ⟨(fun hh => by cases hh), β, _, μ, st, hi.box_set hx hg ?_, hR⟩
                  rw [e1]
                  simp only [Nat.add_zero]
                  have hl2 : (ca.eval v).cells.toList.length = vs.length := hvl
                  rw [hl2]
                  exact ((hcs.take o).append hv).append (hcs.drop _)
                · cases h
            · cases h
          · cases h
        · cases h
      · cases h
    · cases h
  · exact pure1 h

/-- Many operations. -/
def runN (tb : Tb) (ops : Array Oper) : Nat → List Md → List Oper → Aa → Option (List Md × List Oper × Aa)
  | 0, ms, l, a => some (ms, l, a)
  | n + 1, ms, l, a =>
    match l with
    | [] => none
    | o :: l =>
      match o.guard with
      | none => (match run2 tb (ms.headD .n) a o with | some a' => runN tb ops n ms.tail l a' | none => none)
      | some (j, want) =>
        match (ops[j]?).bind (·.dst) with
        | some t =>
          match a.s t, want with
          | .bool true, true => (match run2 tb (ms.headD .n) a o with | some a' => runN tb ops n ms.tail l a' | none => none)
          | .bool false, false => (match run2 tb (ms.headD .n) a o with | some a' => runN tb ops n ms.tail l a' | none => none)
          | .bool true, false => (match o.dst with | some d => runN tb ops n ms.tail l (a.put (some d) (.v .und)) | none => runN tb ops n ms.tail l a)
          | .bool false, true => (match o.dst with | some d => runN tb ops n ms.tail l (a.put (some d) (.v .und)) | none => runN tb ops n ms.tail l a)
          | .und, _ => (match o.dst with | some d => runN tb ops n ms.tail l (a.put (some d) (.v .und)) | none => runN tb ops n ms.tail l a)
          | _, _ => none
        | none => none

theorem s_run {ops : Array Oper} {Q : Aa → St → Prop} {st : St} : ∀ (n : Nat) {ms ms' : List Md} {l l' : List Oper} {a a' : Aa}, runN tb ops n ms l a = some (ms', l', a') → AOps P T st0 N ops Q ms' l' a' st → AOps P T st0 N ops Q ms l a st
  | 0, ms, ms', l, l', a, a', h, hq => by
    simp only [runN] at h
    injection h with h
    injection h with h1 h
    injection h with h2 h3
    subst h1; subst h2; subst h3
    exact hq
  | n + 1, ms, ms', [], l', a, a', h, hq => by simp [runN] at h
  | n + 1, ms, ms', o :: l, l', a, a', h, hq => by
    simp only [runN] at h
    simp only [AOps]
    split at h
    · rename_i hg
      try rw [hg]
      split at h
      · rename_i a1 h1
        exact run2_ok h1 (s_run n h hq)
      · cases h
    · rename_i j want hg
      try rw [hg]
      split at h
      · rename_i t ht
        split at h
        · rename_i hs
          split at h
          · rename_i a1 h1
            exact ⟨t, ht, .inl ⟨hs, run2_ok h1 (s_run n h hq)⟩⟩
          · cases h
        · rename_i hs
          split at h
          · rename_i a1 h1
            exact ⟨t, ht, .inl ⟨hs, run2_ok h1 (s_run n h hq)⟩⟩
          · cases h
        · rename_i hs
          refine ⟨t, ht, .inr ⟨.inl hs, ?_⟩⟩
          cases hd : o.dst <;> rw [hd] at h <;> exact s_run n h hq
        · rename_i hs
          refine ⟨t, ht, .inr ⟨.inl hs, ?_⟩⟩
          cases hd : o.dst <;> rw [hd] at h <;> exact s_run n h hq
        · rename_i hs
          refine ⟨t, ht, .inr ⟨.inr hs, ?_⟩⟩
          cases hd : o.dst <;> rw [hd] at h <;> exact s_run n h hq
        · cases h
      · cases h

theorem s_nil {ops : Array Oper} {Q : Aa → St → Prop} {st : St} {ms : List Md} {a : Aa} (h : Q a st) : AOps P T st0 N ops Q ms [] a st := h
theorem s_cons {ops : Array Oper} {Q : Aa → St → Prop} {st : St} {ms : List Md} {a : Aa} {o : Oper} {l : List Oper} (hg : o.guard = none) (h : ALeaf P T st0 N o (ms.headD .n) (AOps P T st0 N ops Q ms.tail l) a st) : AOps P T st0 N ops Q ms (o :: l) a st := by
  simp only [AOps, hg]
  exact h
theorem s_guard {ops : Array Oper} {Q : Aa → St → Prop} {st : St} {ms : List Md} {a : Aa} {o : Oper} {l : List Oper} {j t : Nat} {b : Bool} (hg : o.guard = some (j, b)) (ht : (ops[j]?).bind (·.dst) = some t) (hs : a.s t = .bool b)
    (h : ALeaf P T st0 N o (ms.headD .n) (AOps P T st0 N ops Q ms.tail l) a st) : AOps P T st0 N ops Q ms (o :: l) a st := by
  simp only [AOps, hg]
  exact ⟨t, ht, .inl ⟨hs, h⟩⟩
end
end Go.Proofs.YtmphklmhhcmbnaaDoorW.Ax

/- Entering a function, calling one, and what a store may become. -/
namespace Go.Proofs.YtmphklmhhcmbnaaDoorW.Ax
open Go Go.RowKit
set_option linter.unusedVariables false
set_option linter.unusedSimpArgs false

/-- What is told of the store behind a call: nothing of what was there has turned, but for 'T'. -/
structure Ext (T : Nat → Prop) (st st' : St) : Prop where
  n : st.n ≤ st'.n
  ob : ∀ i, i < st.n → ¬ T i → st'.ob i = st.ob i
def No : Nat → Prop := fun _ => False
abbrev Ex := Ext No
theorem Ext.refl (T : Nat → Prop) (st : St) : Ext T st st := ⟨Nat.le_refl _, fun _ _ _ => rfl⟩
theorem Ext.trans {T T' : Nat → Prop} {a b c : St} (h : Ext T a b) (k : Ext T' b c) (hT : ∀ i, i < a.n → T' i → T i) : Ext T a c :=
  ⟨Nat.le_trans h.n k.n, fun i hi hn => (k.ob i (Nat.lt_of_lt_of_le hi h.n) (fun ht => hn (hT i hi ht))).trans (h.ob i hi hn)⟩
theorem Ext.tr {a b c : St} (h : Ex a b) (k : Ex b c) : Ex a c := h.trans k fun _ _ h => h
theorem Stp.ext {T : Nat → Prop} {μ st w μ' st' w'} (h : Stp T μ st w μ' st' w') : Ext T st st' := ⟨h.n, h.ob⟩
theorem Stp.pre_of {T : Nat → Prop} {μ st w μ' st' w'} (h : Stp T μ st w μ' st' w') (hT : ∀ i, i < st.n → ¬ T i) : Pre w w' :=
  ⟨h.size, fun b hb => h.blk b hb fun i hi ht _ => absurd ht (hT i hi), h.os, h.tape, h.output⟩

section
variable {P : Program} {T : Nat → Prop} {μ0 : Nat → Loc} {st0 : St} {w0 : World} {N : Nat} {β : Nat → Nat} {a : Aa} {μ : Nat → Loc} {st : St} {w : World} {ca : Act}

/-- The store goes on, the frame's own variables stay. -/
theorem Inv.step (h : Inv T μ0 st0 w0 N β a μ st w ca) {T' : Nat → Prop} {μ' : Nat → Loc} {st' : St} {w' : World} (hr : Rel μ' st' w') (hs : Stp T' μ st w μ' st' w') (hT : ∀ i, i < st0.n → T' i → T i) : Inv T μ0 st0 w0 N β a μ' st' w' ca := by
  have hbox : ∀ k, a.x k ≠ none → w'.heap[β k]? = w.heap[β k]? := fun k hk => hs.blk _ (h.blt hk) fun i hi _ ho => h.bst k i hk hi (Ob.live_of_own ho)
  refine ⟨hr, h.stp.trans hs hT, h.size, h.defers, fun i => VR.mono hs.n hs.mu _ _ (h.slot i), h.lp, fun k l hk => ?_, h.bsep, fun k i hk hi hl => ?_, h.bnew⟩
  · obtain ⟨cs, E, h1, h2⟩ := h.box k l hk
    exact ⟨cs, E, (hbox k (by simp [hk])).trans h1, VRL.mono hs.n hs.mu _ _ h2⟩
  · rcases Nat.lt_or_ge i st.n with hlt | hge
    · rw [hs.mu i hlt]
      exact h.bst k i hk hlt (hs.live i hlt hl)
    · have := h.blt hk
      rcases hs.new i hge hi hl with hh | ⟨j, hj, _, hoj, hbj⟩
      · omega
      · rw [← hbj]; exact h.bst k j hk hj (Ob.live_of_own hoj)
end

section
variable {P : Program} {tb : Tb} [TbOk P tb] {T : Nat → Prop} {st0 : St} {N : Nat}

/-- A call under a contract. -/
theorem o_call {dst : Option Nat} {x : Operand} {args : Array Operand} {types : Array Nat} {ty : Nat} {pos : String} {aft : Array Edge} {gd : Option (Nat × Bool)} {m : Md} {R : Aa → St → Prop} {a : Aa} {st : St}
    {f : Nat} {cap : List AV} {T' : Nat → Prop} {Post : AV → St → Prop} (hx : av a x = .fn f cap) (h : ACalls P f (avs a args.toList ++ cap) st T' Post) (hT : ∀ i, i < st0.n → T' i → T i) (hm : m = .n ∨ m = .f ∧ ∀ i, i < st.n → ¬ T' i)
    (hR : ∀ v st', Post v st' → Ext T' st st' → R (a.put dst (.v v)) st') : ALeaf P T st0 N ⟨dst, .call ⟨.value x, args, types⟩, ty, pos, aft, gd⟩ m R a st := by
  have main : ∀ fl : Bool, (fl = true → ∀ i, i < st.n → ¬ T' i) → AOp P T st0 N ⟨dst, .call ⟨.value x, args, types⟩, ty, pos, aft, gd⟩ fl R a st := by
    intro fl hfl hd μ0 w0 β μ w ca hi Q'
    obtain ⟨hgo, hc⟩ := h
    have hxv := av_vr hi x
    rw [hx] at hxv
    simp only [VR] at hxv
    obtain ⟨lc, hxe, hlc⟩ := hxv
    have hargs : VRL st.n μ (avs a args.toList ++ cap) (args.toList.map ca.eval ++ lc) := (avs_vr hi args.toList).append hlc
    have hrun : (execOp ca.eval ⟨dst, .call ⟨.value x, args, types⟩, ty, pos, aft, gd⟩).run P w = .ok (.enter f (args.toList.map ca.eval ++ lc).toArray) w := by
      unfold goes at hgo
      cases hf : P.funcs[f]? with
      | none => rw [hf] at hgo; cases hgo
      | some fn =>
        rw [hf] at hgo
        simp only [Bool.and_eq_true, Bool.not_eq_true'] at hgo
        obtain ⟨hb, hn⟩ := hgo
        have hb' : fn.body.isNone = false := by cases hbb : fn.body <;> simp_all
        have he : (args.map ca.eval ++ lc.toArray) = (args.toList.map ca.eval ++ lc).toArray := by
          cases args; simp
        have hn2 : ¬ fn.name = "runtime.NumGoroutine" := by simpa using hn
        have hb2 : ¬ fn.body = none := by intro hh; rw [hh] at hb; cases hb
        simp [execOp, resolve, hxe, Deferred.ofValue, invoke, callFunc, hf, hn2, hb2, he]
    unfold Oper.wp
    rw [hrun]
    refine (hc μ w _ hi.rel hargs).mono fun e w' hp => ?_
    obtain ⟨v, cv, μ', st', rfl, hv, hr, hs, hpost⟩ := hp
    have hi' := hi.step hr hs hT
    exact ⟨fun hh => hs.pre_of (hfl hh), β, _, μ', st', hi'.put (r := .v v) hd hv, hR v st' hpost hs.ext⟩
  rcases hm with rfl | ⟨rfl, hm⟩
  · exact main false (fun e => by cases e)
  · exact main true (fun _ => hm)

/-! ### Entering -/
def res1 (tb : Tb) (a : Aa) : ResultVar → Option AV
  | .tmp t => match seen (a.s t) with | some (.v v) => some v | _ => none
  | .cell t ty => match run1 tb a (.load ty (.tmp t)) with | some (.v v) => some v | _ => none
def resL (tb : Tb) (a : Aa) : List ResultVar → Option (List AV)
  | [] => some []
  | r :: rs => match res1 tb a r with | some v => (match resL tb a rs with | some vs => some (v :: vs) | none => none) | none => none
def resA (tb : Tb) (rs : List ResultVar) (a : Aa) : Option AV :=
  match resL tb a rs with
  | some l => match l with
    | [v] => some v
    | l => some (.tup l)
  | none => none
def RetQ (tb : Tb) (rs : List ResultVar) (Post : AV → St → Prop) : AX → Aa → St → Prop
  | .exit _, _, _ => False
  | .normal, a, st => ∃ v, resA tb rs a = some v ∧ Post v st
  | .ret, a, st => ∃ v, resA tb rs a = some v ∧ Post v st

theorem mapM_some {α β : Type} (f : α → Sem β) (w : World) : ∀ (l : List α) (r : List β), l.length = r.length → (∀ (j : Nat) x y, l[j]? = some x → r[j]? = some y → (f x).run P w = .ok y w) → (l.mapM f).run P w = .ok r w
  | [], [], _, _ => by simp
  | [], y :: r, h, _ => by simp at h
  | x :: l, [], h, _ => by simp at h
  | x :: l, y :: r, h, hh => by
    have h0 := hh 0 x y rfl rfl
    have ih := mapM_some f w l r (by simpa using h) (fun j a b ha hb => hh (j + 1) a b (by simpa using ha) (by simpa using hb))
    simp [List.mapM_cons, h0, ih]

def rdRes (ca : Act) : ResultVar → Sem Value
  | .tmp t => pure (ca.tmps.getD t undef)
  | .cell b t => do loadVar t (← asAddr (ca.tmps.getD b undef))

theorem resL_ok {μ0 : Nat → Loc} {w0 : World} {β : Nat → Nat} {a : Aa} {μ : Nat → Loc} {st : St} {w : World} {ca : Act} (h : Inv T μ0 st0 w0 N β a μ st w ca) :
    ∀ (rs : List ResultVar) (l : List AV), resL tb a rs = some l → ∃ cs : List Value, VRL st.n μ l cs ∧ rs.length = cs.length ∧
      ∀ (j : Nat) x y, rs[j]? = some x → cs[j]? = some y → (rdRes ca x).run P w = .ok y w
  | [], l, hl => by
    simp only [resL] at hl
    injection hl with hl
    subst hl
    exact ⟨[], rfl, rfl, fun j x y hx => by simp at hx⟩
  | r :: rs, l, hl => by
    simp only [resL] at hl
    split at hl
    · rename_i v hv
      split at hl
      · rename_i vs hvs
        injection hl with hl
        subst hl
        obtain ⟨cs, h1, h2, h3⟩ := resL_ok h rs vs hvs
        have key : ∃ cv, VR st.n μ v cv ∧ (rdRes ca r).run P w = .ok cv w := by
          cases r with
          | tmp t =>
            simp only [res1] at hv
            split at hv
            · rename_i u hu
              have := seen_eq hu
              injection this with this
              injection hv with hv
              subst hv
              exact ⟨_, by rw [this]; exact h.slot t, rfl⟩
            · cases hv
          | cell t ty =>
            simp only [res1] at hv
            split at hv
            · rename_i u hu
              injection hv with hv
              subst hv
              obtain ⟨cv, h4, h5⟩ := run1_ok (P := P) (T := T) (st0 := st0) (N := N) (st := st) (o := ⟨none, .load ty (.tmp t), 0, "", #[], none⟩) hu μ0 w0 β μ w ca h
              refine ⟨cv, h4, ?_⟩
              have h6 := h5 w (Pre.refl w)
              -- the slot holds a place
              have hp : ∃ k o, a.p t = some (k, o) := by
                simp only [run1, rv] at hu
                split at hu
                · rename_i k o hk
                  cases hp : a.p t with
                  | none => rw [hp] at hk; cases hk
                  | some ko => exact ⟨ko.1, ko.2, rfl⟩
                · cases hu
              obtain ⟨k, o, hp⟩ := hp
              have h7 := h.lp t k o hp
              simp only [rdRes, h7, asAddr, pure_bind]
              simp only [execOp, Act.eval, h7, Instr.loadAt, Instr.sureAddr, pure_bind, Sem.run_bind] at h6
              cases hl : (loadVar ty ⟨β k, o, none⟩).run P w with
              | halt x w' => rw [hl] at h6; simp at h6
              | ok x w' => rw [hl] at h6; simp at h6; rw [h6.1, h6.2]
            · cases hv
        obtain ⟨cv, h4, h5⟩ := key
        refine ⟨cv :: cs, by simp only [VRL]; exact ⟨_, _, rfl, h4, h1⟩, by simp [h2], fun j x y hx hy => ?_⟩
        cases j with
        | zero =>
          simp at hx hy
          subst hx; subst hy
          exact h5
        | succ j => exact h3 j x y (by simpa using hx) (by simpa using hy)
      · cases hl
    · cases hl

theorem enter {f : Nat} {fn : Func} {c : Code} {rs : List ResultVar} (hf : P.funcs[f]? = some fn) (hb : fn.body = some c) (hgo : (!(fn.name == "runtime.NumGoroutine")) = true) {args : List AV} {st : St} {T : Nat → Prop} {Post : AV → St → Prop}
    (hN : Nat.ble args.length N = true) (hN' : fn.ntmps = N) (hrs : fn.results.toList = rs) (h : ACode P T st N c (RetQ tb rs Post) (start args) st) : ACalls P f args st T Post := by
  refine ⟨by simp [goes, hf, hb]; simpa using hgo, fun μ w cargs hr hv => ?_⟩
  have hlen := hv.length
  have hN := Nat.le_of_ble_eq_true hN
  refine calls_of_wp hf hb ?_
  have hi : Inv T μ st w N (fun _ => 0) (start args) μ st w { tmps := cargs.toArray ++ Array.replicate (fn.ntmps - cargs.toArray.size) undef, defers := [] } := by
    refine ⟨hr, Stp.refl _ _ _ _, by simp only [Array.size_append, Array.size_replicate, List.size_toArray]; omega, rfl, fun i => ?_, fun i k o hk => by simp [start] at hk, fun k l hk => by simp [start] at hk, fun k k' hk => by simp [start] at hk, fun k i hk => by simp [start] at hk, fun k hk => by simp [start] at hk⟩
    show VR st.n μ (args.getD i .junk) _
    rcases Nat.lt_or_ge i cargs.length with hlt | hge
    · have := hv.get i
      have e : (cargs.toArray ++ Array.replicate (fn.ntmps - cargs.toArray.size) undef).getD i undef = cargs.getD i undef := by
        simp [Array.getElem?_append, hlt]
      rw [e]; exact this
    · rw [show args.getD i .junk = .junk by simp; rw [List.getElem?_eq_none (by omega)]; rfl]
      simp [VR]
  refine wp_mono (h μ w _ μ w _ hi) fun e ca' w' hq => ?_
  have fin : Good T μ st w N (fun a st' => ∃ v, resA tb rs a = some v ∧ Post v st') ca' w' → ca'.defers = [] ∧ ∃ v, (results fn ca'.tmps).run P w' = .ok v w' ∧ ∃ v' cv μ' st', Ending.returned v = .returned cv ∧ VR st'.n μ' v' cv ∧ Rel μ' st' w' ∧ Stp T μ st w μ' st' w' ∧ Post v' st' := by
    rintro ⟨β, a, μ', st', hi', v, hv', hp⟩
    refine ⟨hi'.defers, ?_⟩
    unfold resA at hv'
    split at hv'
    · rename_i l hl
      obtain ⟨cs, h1, h2, h3⟩ := resL_ok (P := P) hi' rs l hl
      have hm := mapM_some (P := P) _ w' rs cs h2 h3
      have hres : (results fn ca'.tmps).run P w' = .ok (if h : cs.toArray.size = 1 then cs.toArray[0] else .tuple cs.toArray) w' := by
        unfold results
        rw [Sem.run_bind, Array.mapM_eq_mapM_toList, Sem.run_map, hrs]
        have hm' : ∀ g : ResultVar → Sem Value, (∀ x, g x = rdRes ca' x) → (rs.mapM g).run P w' = .ok cs w' := fun g hg => by rw [funext hg]; exact hm
        rw [hm' _ (fun x => by cases x <;> rfl)]
        simp
      split at hv'
      · rename_i u
        injection hv' with hv'
        subst hv'
        simp only [VRL] at h1
        obtain ⟨cv, l', rfl, h4, rfl⟩ := h1
        exact ⟨cv, by simpa using hres, u, cv, μ', st', rfl, h4, hi'.rel, hi'.stp, hp⟩
      · rename_i hne
        injection hv' with hv'
        subst hv'
        have hl1 : ¬ cs.toArray.size = 1 := by
          have := h1.length
          intro hh
          match l, this with
          | [x], _ => exact hne x rfl
          | [], this => simp at hh; simp at this; rw [this] at hh; simp at hh
          | _ :: _ :: _, this => simp at hh this; omega
        rw [dif_neg hl1] at hres
        exact ⟨_, hres, _, .tuple cs.toArray, μ', st', rfl, by simp only [VR]; exact ⟨cs, rfl, h1⟩, hi'.rel, hi'.stp, hp⟩
    · cases hv'
  cases e with
  | normal => exact fin hq
  | ret => exact fin hq
  | exit id => obtain ⟨_, _, _, _, _, hq⟩ := hq; exact hq.elim
  | goto l => exact hq.elim
  | panic ch => exact hq.elim
  | outgrown => exact hq.elim
end
end Go.Proofs.YtmphklmhhcmbnaaDoorW.Ax

/- Blocks of the store: made, written, given up. -/
namespace Go.Proofs.YtmphklmhhcmbnaaDoorW.Ax
open Go Go.RowKit
set_option linter.unusedVariables false
set_option linter.unusedSimpArgs false

def St.push (st : St) (o : Ob) : St := ⟨st.n + 1, upd st.ob st.n o⟩
def St.set (st : St) (r : Nat) (o : Ob) : St := ⟨st.n, upd st.ob r o⟩
/-- A row that was appended to: the elder one is given up, the new one bears a new number. -/
def St.app (st : St) (r : Nat) (o : Ob) : St := (st.set r .dead).push o
def cell (st : St) (r : Option Nat) (j : Nat) : Option AV :=
  match r with
  | some i => if i < st.n then (match st.ob i with | .row _ l => l[j]? | _ => none) else none
  | none => none
abbrev I (n : Int) : AV := .int .i64 n

theorem push_ob (st : St) (o : Ob) : (st.push o).ob st.n = o := upd_same _ _ _
theorem push_old (st : St) (o : Ob) {i : Nat} (h : i < st.n) : (st.push o).ob i = st.ob i := upd_ne _ _ (by omega)
theorem set_ob (st : St) (r : Nat) (o : Ob) : (st.set r o).ob r = o := upd_same _ _ _
theorem set_ne (st : St) (r : Nat) (o : Ob) {i : Nat} (h : i ≠ r) : (st.set r o).ob i = st.ob i := upd_ne _ _ h
theorem app_ob (st : St) (r : Nat) (o : Ob) : (st.app r o).ob st.n = o := upd_same _ _ _
theorem app_ne (st : St) (r : Nat) (o : Ob) {i : Nat} (h : i < st.n) (h' : i ≠ r) : (st.app r o).ob i = st.ob i := (push_old (st.set r .dead) o h).trans (set_ne _ _ _ h')
theorem ex_push (st : St) (o : Ob) : Ex st (st.push o) := ⟨Nat.le_succ _, fun i hi _ => push_old st o hi⟩
theorem ext_set (st : St) (r : Nat) (o : Ob) : Ext (· = r) st (st.set r o) := ⟨Nat.le_refl _, fun i hi hn => set_ne st r o hn⟩
theorem ext_app (st : St) (r : Nat) (o : Ob) : Ext (· = r) st (st.app r o) := ⟨Nat.le_succ _, fun i hi hn => app_ne st r o hi hn⟩
theorem cell_ext {T : Nat → Prop} {st st' : St} (h : Ext T st st') {r : Option Nat} {j : Nat} {v : AV} (hc : cell st r j = some v) (hn : ∀ i, r = some i → ¬ T i) : cell st' r j = some v := by
  cases r with
  | none => cases hc
  | some i =>
    unfold cell at hc ⊢
    simp only at hc ⊢
    split at hc
    · rename_i hlt
      rw [if_pos (Nat.lt_of_lt_of_le hlt h.n), h.ob i hlt (hn i rfl)]
      exact hc
    · cases hc
theorem cell_row {st : St} {i : Nat} {own : Bool} {l : List AV} (hi : i < st.n) (ho : st.ob i = .row own l) (j : Nat) : cell st (some i) j = l[j]? := by
  simp [cell, hi, ho]

section
variable {μ : Nat → Loc} {st : St} {w : World}

theorem Rel.dead (h : Rel μ st w) (r : Nat) : Rel μ (st.set r .dead) w := by
  refine ⟨fun i hi => ?_, fun i j hi hj hne ho hl => ?_⟩
  · by_cases e : i = r
    · subst e; rw [set_ob]; trivial
    · rw [set_ne _ _ _ e]; exact h.obj i hi
  · have e1 : i ≠ r := fun e => by subst e; rw [set_ob] at ho; cases ho
    have e2 : j ≠ r := fun e => by subst e; rw [set_ob] at hl; cases hl
    rw [set_ne _ _ _ e1] at ho
    rw [set_ne _ _ _ e2] at hl
    exact h.sep i j hi hj hne ho hl

theorem mu_push (μ : Nat → Loc) (st : St) (L : Loc) : ∀ i, i < st.n → upd μ st.n L i = μ i := fun i hi => upd_ne _ _ (by omega)

/-- A new block. -/
theorem push_ok (h : Rel μ st w) {o : Ob} {L : Loc} {w' : World} (hp : Pre w w') (hL : w.heap.size ≤ L.b) (hO : ObR (st.n + 1) (upd μ st.n L) w' L o) :
    Rel (upd μ st.n L) (st.push o) w' ∧ Stp No μ st w (upd μ st.n L) (st.push o) w' := by
  have hmu := mu_push μ st L
  have hnew : upd μ st.n L st.n = L := upd_same _ _ _
  have hlt : ∀ i, i < st.n → (st.ob i).live = true → (μ i).b < w.heap.size := fun i hi hl => (h.obj i hi).lt hl
  constructor
  · refine ⟨fun i hi => ?_, fun i j hi hj hne ho hl => ?_⟩
    · have hi' : i < st.n + 1 := hi
      rcases Nat.lt_or_ge i st.n with hlt' | hge
      · rw [push_old _ _ hlt', hmu i hlt']
        cases hl : (st.ob i).live with
        | true => exact (h.obj i hlt').mono (Nat.le_succ _) hmu (hp.blk _ (hlt i hlt' hl))
        | false =>
          have : st.ob i = .dead := by cases ho : st.ob i <;> simp_all [Ob.live]
          rw [this]; trivial
      · have : i = st.n := by omega
        subst this
        rw [push_ob, hnew]
        exact hO
    · have hi' : i < st.n + 1 := hi
      have hj' : j < st.n + 1 := hj
      rcases Nat.lt_or_ge i st.n with h1 | h1 <;> rcases Nat.lt_or_ge j st.n with h2 | h2
      · rw [push_old _ _ h1] at ho
        rw [push_old _ _ h2] at hl
        rw [hmu i h1, hmu j h2]
        exact h.sep i j h1 h2 hne ho hl
      · have : j = st.n := by omega
        subst this
        rw [push_old _ _ h1] at ho
        rw [hmu i h1, hnew]
        have := hlt i h1 (Ob.live_of_own ho)
        omega
      · have : i = st.n := by omega
        subst this
        rw [push_old _ _ h2] at hl
        rw [hmu j h2, hnew]
        have := hlt j h2 hl
        omega
      · omega
  · refine ⟨Nat.le_succ _, hmu, fun i hi _ => push_old _ _ hi, fun i hi ho => by rw [push_old _ _ hi] at ho; exact ho, fun i hi ho => by rw [push_old _ _ hi] at ho; exact ho, hp.size, fun b hb _ => hp.blk b hb, fun i h1 h2 _ => ?_, hp.os, hp.tape, hp.output⟩
    have h2' : i < st.n + 1 := h2
    have : i = st.n := by omega
    subst this
    rw [hnew]
    exact .inl hL

/-- A block of the call's own is written. -/
theorem set_ok (h : Rel μ st w) {r : Nat} (hr : r < st.n) (hown : (st.ob r).own = true) {o : Ob} {w' : World} (hsz : w'.heap.size = w.heap.size) (hw : ∀ b, b ≠ (μ r).b → w'.heap[b]? = w.heap[b]?) (hos : w'.os = w.os) (hta : w'.tape = w.tape) (hou : w'.output = w.output)
    (hO : ObR st.n μ w' (μ r) o) : Rel μ (st.set r o) w' ∧ Stp (· = r) μ st w μ (st.set r o) w' := by
  have hne : ∀ i, i < st.n → i ≠ r → (st.ob i).live = true → (μ i).b ≠ (μ r).b := fun i hi e hl => Ne.symm (h.sep r i hr hi (Ne.symm e) hown hl)
  constructor
  · refine ⟨fun i hi => ?_, fun i j hi hj hij ho hl => ?_⟩
    · by_cases e : i = r
      · subst e; rw [set_ob]; exact hO
      · rw [set_ne _ _ _ e]
        cases hl : (st.ob i).live with
        | true => exact (h.obj i hi).mono (Nat.le_refl _) (fun _ _ => rfl) (hw _ (hne i hi e hl))
        | false =>
          have : st.ob i = .dead := by cases ho : st.ob i <;> simp_all [Ob.live]
          rw [this]; trivial
    · by_cases e1 : i = r
      · subst e1
        have e2 : j ≠ i := Ne.symm hij
        rw [set_ne _ _ _ e2] at hl
        exact h.sep i j hi hj hij hown hl
      · rw [set_ne _ _ _ e1] at ho
        by_cases e2 : j = r
        · subst e2; exact h.sep i j hi hj hij ho (Ob.live_of_own hown)
        · rw [set_ne _ _ _ e2] at hl; exact h.sep i j hi hj hij ho hl
  · refine ⟨Nat.le_refl _, fun _ _ => rfl, fun i hi hn => set_ne _ _ _ hn, fun i hi ho => ?_, fun i hi hl => ?_, by omega, fun b hb hd => hw b ?_, fun i h1 h2 => ?_, hos, hta, hou⟩
    · by_cases e : i = r
      · subst e; exact hown
      · rw [set_ne _ _ _ e] at ho; exact ho
    · by_cases e : i = r
      · subst e; exact Ob.live_of_own hown
      · rw [set_ne _ _ _ e] at hl; exact hl
    · exact fun e => hd r hr rfl hown e.symm
    · have h2' : i < st.n := h2
      omega

/-- A row is given up, and a new one stands in a new block or in its own. -/
theorem app_ok (h : Rel μ st w) {r : Nat} (hr : r < st.n) (hown : (st.ob r).own = true) {o : Ob} {L : Loc} {w' : World} (hL : L.b = (μ r).b ∨ w.heap.size ≤ L.b) (hsz : w.heap.size ≤ w'.heap.size)
    (hw : ∀ b, b < w.heap.size → b ≠ (μ r).b → w'.heap[b]? = w.heap[b]?) (hos : w'.os = w.os) (hta : w'.tape = w.tape) (hou : w'.output = w.output) (hO : ObR (st.n + 1) (upd μ st.n L) w' L o) :
    Rel (upd μ st.n L) (st.app r o) w' ∧ Stp (· = r) μ st w (upd μ st.n L) (st.app r o) w' := by
  have hmu := mu_push μ st L
  have hnew : upd μ st.n L st.n = L := upd_same _ _ _
  have hne : ∀ i, i < st.n → i ≠ r → (st.ob i).live = true → (μ i).b ≠ (μ r).b := fun i hi e hl => Ne.symm (h.sep r i hr hi (Ne.symm e) hown hl)
  have hlt : ∀ i, i < st.n → (st.ob i).live = true → (μ i).b < w.heap.size := fun i hi hl => (h.obj i hi).lt hl
  have hd : (st.app r o).ob r = .dead := (push_old (st.set r .dead) o hr).trans (set_ob _ _ _)
  have hn1 : (st.app r o).n = st.n + 1 := rfl
  have hLne : ∀ i, i < st.n → i ≠ r → (st.ob i).live = true → (μ i).b ≠ L.b := fun i hi e hl => by
    rcases hL with hL | hL
    · rw [hL]; exact hne i hi e hl
    · have := hlt i hi hl; omega
  constructor
  · refine ⟨fun i hi => ?_, fun i j hi hj hij ho hl => ?_⟩
    · have hi' : i < st.n + 1 := hi
      rcases Nat.lt_or_ge i st.n with h1 | h1
      · by_cases e : i = r
        · subst e; rw [hd]; trivial
        · rw [app_ne _ _ _ h1 e, hmu i h1]
          cases hl : (st.ob i).live with
          | true => exact (h.obj i h1).mono (Nat.le_succ _) hmu (hw _ (hlt i h1 hl) (hne i h1 e hl))
          | false =>
            have : st.ob i = .dead := by cases ho : st.ob i <;> simp_all [Ob.live]
            rw [this]; trivial
      · have : i = st.n := by omega
        subst this
        rw [app_ob, hnew]
        exact hO
    · have hi' : i < st.n + 1 := hi
      have hj' : j < st.n + 1 := hj
      have e1 : i ≠ r := fun e => by subst e; rw [hd] at ho; cases ho
      have e2 : j ≠ r := fun e => by subst e; rw [hd] at hl; cases hl
      rcases Nat.lt_or_ge i st.n with h1 | h1 <;> rcases Nat.lt_or_ge j st.n with h2 | h2
      · rw [app_ne _ _ _ h1 e1] at ho
        rw [app_ne _ _ _ h2 e2] at hl
        rw [hmu i h1, hmu j h2]
        exact h.sep i j h1 h2 hij ho hl
      · have : j = st.n := by omega
        subst this
        rw [app_ne _ _ _ h1 e1] at ho
        rw [hmu i h1, hnew]
        exact hLne i h1 e1 (Ob.live_of_own ho)
      · have : i = st.n := by omega
        subst this
        rw [app_ne _ _ _ h2 e2] at hl
        rw [hmu j h2, hnew]
        exact Ne.symm (hLne j h2 e2 hl)
      · omega
  · refine ⟨Nat.le_succ _, hmu, fun i hi hn => app_ne _ _ _ hi hn, fun i hi ho => ?_, fun i hi hl => ?_, hsz, fun b hb hdd => hw b hb fun e => hdd r hr rfl hown e.symm, fun i h1 h2 _ => ?_, hos, hta, hou⟩
    · by_cases e : i = r
      · subst e; exact hown
      · rw [app_ne _ _ _ hi e] at ho; exact ho
    · by_cases e : i = r
      · subst e; exact Ob.live_of_own hown
      · rw [app_ne _ _ _ hi e] at hl; exact hl
    · have h2' : i < st.n + 1 := h2
      have : i = st.n := by omega
      subst this
      rw [hnew]
      rcases hL with hL | hL
      · exact .inr ⟨r, hr, rfl, hown, hL.symm⟩
      · exact .inl hL

theorem pre_alloc (w : World) (o : Obj) : Pre w (w.alloc o) := ⟨by simp, fun b hb => heap_alloc_old w o hb, rfl, rfl, rfl⟩
theorem pre_drew_alloc (w : World) (o : Obj) : Pre w (w.drew.alloc o) := (Pre.drew w).trans (pre_alloc w.drew o)

/-- A new row of cells. -/
theorem push_row (h : Rel μ st w) {w1 : World} (hp1 : Pre w w1) (hs1 : w1.heap.size = w.heap.size) {l : List AV} {cs : Array Value} {E : Nat} (hl : l.length ≤ cs.size) (hv : ∀ j, j < l.length → VR st.n μ (l.getD j .junk) (cs.getD j undef)) :
    Rel (upd μ st.n ⟨w.heap.size, 0, cs.size⟩) (st.push (.row true l)) (w1.alloc (.cells cs E)) ∧ Stp No μ st w (upd μ st.n ⟨w.heap.size, 0, cs.size⟩) (st.push (.row true l)) (w1.alloc (.cells cs E)) := by
  refine push_ok h (hp1.trans (pre_alloc _ _)) (Nat.le_refl _) ⟨cs, E, (0, 0), ?_, fun _ => rfl, by simpa using hl, Nat.le_refl _, fun j hj => ?_⟩
  · rw [← hs1]; exact heap_alloc_new w1 _
  · rw [Nat.zero_add]
    exact VR.mono (Nat.le_succ _) (mu_push μ st _) _ _ (hv j hj)
end
end Go.Proofs.YtmphklmhhcmbnaaDoorW.Ax

/- Operations on the store's blocks. -/
namespace Go.Proofs.YtmphklmhhcmbnaaDoorW.Ax
open Go Go.RowKit
set_option linter.unusedVariables false
set_option linter.unusedSimpArgs false

/-- What an operation may touch: what the call began with, as far as it is let, and all that was made since. -/
def May (T : Nat → Prop) (st0 : St) (r : Nat) : Prop := r < st0.n → T r

section
variable {P : Program} {tb : Tb} [TbOk P tb] {T : Nat → Prop} {st0 : St} {N : Nat} {a : Aa} {st : St} {R : Aa → St → Prop} {m : Md}

omit [TbOk P tb] in
theorem leaf_val {o : Oper} {T' : Nat → Prop} (v : AV) (st' : St) (hT : ∀ i, i < st0.n → T' i → T i) (hm : m = .n ∨ m = .f ∧ ∀ i, i < st.n → ¬ T' i)
    (h : ∀ μ0 w0 β μ w ca, Inv T μ0 st0 w0 N β a μ st w ca → ∃ cv μ' w', (execOp ca.eval o).run P w = .ok (.value cv) w' ∧ VR st'.n μ' v cv ∧ Rel μ' st' w' ∧ Stp T' μ st w μ' st' w')
    (hR : R (a.put o.dst (.v v)) st') : ALeaf P T st0 N o m R a st := by
  have main : ∀ fl : Bool, (fl = true → ∀ i, i < st.n → ¬ T' i) → AOp P T st0 N o fl R a st := by
    intro fl hfl hd μ0 w0 β μ w ca hi Q'
    obtain ⟨cv, μ', w', hrun, hv, hr, hs⟩ := h μ0 w0 β μ w ca hi
    unfold Oper.wp
    rw [hrun]
    exact ⟨fun hh => hs.pre_of (hfl hh), β, _, μ', st', (hi.step hr hs hT).put (r := .v v) hd hv, hR⟩
  rcases hm with rfl | ⟨rfl, hm⟩
  · exact main false (fun e => by cases e)
  · exact main true (fun _ => hm)
omit [TbOk P tb] in
theorem leaf_skip {o : Oper} {T' : Nat → Prop} (st' : St) (hT : ∀ i, i < st0.n → T' i → T i) (hm : m = .n ∨ m = .f ∧ ∀ i, i < st.n → ¬ T' i)
    (h : ∀ μ0 w0 β μ w ca, Inv T μ0 st0 w0 N β a μ st w ca → ∃ w', (execOp ca.eval o).run P w = .ok .skip w' ∧ Rel μ st' w' ∧ Stp T' μ st w μ st' w')
    (hR : R (a.put o.dst (.v .junk)) st') : ALeaf P T st0 N o m R a st := by
  have main : ∀ fl : Bool, (fl = true → ∀ i, i < st.n → ¬ T' i) → AOp P T st0 N o fl R a st := by
    intro fl hfl hd μ0 w0 β μ w ca hi Q'
    obtain ⟨w', hrun, hr, hs⟩ := h μ0 w0 β μ w ca hi
    unfold Oper.wp
    rw [hrun]
    exact ⟨fun hh => hs.pre_of (hfl hh), β, _, μ, st', (hi.step hr hs hT).put (r := .v .junk) hd (by simp [RR, VR]), hR⟩
  rcases hm with rfl | ⟨rfl, hm⟩
  · exact main false (fun e => by cases e)
  · exact main true (fun _ => hm)
omit [TbOk P tb] in
theorem leaf_q {o : Oper} (r : RV) (h : AQ P T st0 N o r a st) (hR : R (a.put o.dst r) st) : ALeaf P T st0 N o m R a st := by
  cases m with
  | q => exact ⟨r, h, hR⟩
  | f => exact AOp_of_AQ h hR
  | n => exact AOp_of_AQ h hR

def Md.loud (m : Md) : Prop := m = .n ∨ m = .f
theorem loud_n : Md.loud .n := .inl rfl
theorem loud_f : Md.loud .f := .inr rfl
omit [TbOk P tb] in
theorem loud_no (h : m.loud) (st : St) : m = .n ∨ m = .f ∧ ∀ i, i < st.n → ¬ No i := h.imp id fun h => ⟨h, fun _ _ h => h⟩
omit [TbOk P tb] in
theorem no_T : ∀ i, i < st0.n → No i → T i := fun _ _ h => h.elim

/-- A type of one cell. -/
def one1 (tb : Tb) (t : Nat) : Option (Z × Nat) := match look tb t with | some i => (match i.zero with | [z] => cond i.agg none (some (z, i.bytes)) | _ => none) | none => none
def elem1 (tb : Tb) (t : Nat) : Option (Nat × Z × Nat) := match look tb t with | some i => (match i.k with | .slice e => (match one1 tb e with | some (z, b) => some (e, z, b) | none => none) | _ => none) | none => none
omit [TbOk P tb] in
theorem one1_ok {t : Nat} {z : Z} {b : Nat} (h : one1 tb t = some (z, b)) : ∃ i, look tb t = some i ∧ i.zero = [z] ∧ i.bytes = b ∧ i.agg = false := by
  unfold one1 at h
  split at h
  · rename_i i hi
    split at h
    · rename_i z' hz
      cases ha : i.agg with
      | true => rw [ha] at h; cases h
      | false =>
        rw [ha] at h
        simp only [cond_false] at h
        injection h with h
        injection h with h1 h2
        subst h1
        exact ⟨i, hi, hz, h2, ha⟩
    · cases h
  · cases h
theorem elem1_ok {t e : Nat} {z : Z} {b : Nat} (h : elem1 tb t = some (e, z, b)) : P.underlying t = some (.slice e) ∧ one1 tb e = some (z, b) := by
  unfold elem1 at h
  split at h
  · rename_i i hi
    split at h
    · rename_i e' hk
      split at h
      · rename_i z' b' h1
        injection h with h
        injection h with h2 h3
        injection h3 with h3 h4
        subst h2; subst h3; subst h4
        exact ⟨(tyR (P := P) hi).und_of.2.2.2.1 _ hk, h1⟩
      · cases h
    · cases h
  · cases h
theorem one1_info {t : Nat} {z : Z} {b : Nat} (h : one1 tb t = some (z, b)) : ∃ (inf : TypeInfo) (v : Value), P.info? t = some inf ∧ inf.size = 1 ∧ inf.bytes = b ∧ inf.zero = some v ∧ v.cells.size = 1 ∧ ∀ n μ, VR n μ z.av (v.cells.getD 0 undef) := by
  obtain ⟨i, hi, hz, hb, ha⟩ := one1_ok h
  obtain ⟨inf, v, h1, h2, h3, h4, h5, h6⟩ := (tyR (P := P) hi).info
  rw [hz] at h2 h5
  refine ⟨inf, v, h1, h2, by rw [h3, hb], h4, by rw [h6, h2]; rfl, fun n μ => ?_⟩
  have hsz : v.cells.size = 1 := by rw [h6, h2]; rfl
  have h7 : v.cells.toList = [v.cells.getD 0 undef] := by
    match hv : v.cells, hsz with
    | ⟨[x]⟩, _ => simp
  rw [h7] at h5
  simp only [List.map_cons, List.map_nil, List.cons.injEq, and_true] at h5
  rw [← h5]
  exact Z.of_vr n μ _

variable {dst : Option Nat} {ty : Nat} {pos : String} {aft : Array Edge} {gd : Option (Nat × Bool)}

omit [TbOk P tb] in
/-- A variable whose place is handed on. -/
theorem o_boxS {t : Nat} {x : Operand} {l : List AV} (hm : m.loud) (hl : cellsB (av a x) = some l) (hR : R (a.put dst (.v (.ptr (some st.n) 0))) (st.push (.row true l))) : ALeaf P T st0 N ⟨dst, .box t x, ty, pos, aft, gd⟩ m R a st := by
  refine leaf_val _ _ no_T (loud_no hm st) (fun μ0 w0 β μ w ca hi => ?_) hR
  have hv := (av_vr hi x).cellsB hl
  have hlen := hv.length
  obtain ⟨h1, h2⟩ := push_row hi.rel (Pre.refl w) rfl (l := l) (cs := (ca.eval x).cells) (E := t) (by simp at hlen; omega) (fun j hj => by simpa using hv.get j)
  refine ⟨.pointer (some ⟨w.heap.size, 0, none⟩), _, _, ?_, ?_, h1, h2⟩
  · simp [execOp, Instr.box, newVar, newRow]
  · simp only [VR]
    exact ⟨Nat.lt_succ_self _, by rw [upd_same]⟩
theorem o_allocS {t : Nat} {i : TyI} (hm : m.loud) (ht : look tb t = some i) (hR : R (a.put dst (.v (.ptr (some st.n) 0))) (st.push (.row true (i.zero.map Z.av)))) : ALeaf P T st0 N ⟨dst, .alloc t, ty, pos, aft, gd⟩ m R a st := by
  refine leaf_val _ _ no_T (loud_no hm st) (fun μ0 w0 β μ w ca hi => ?_) hR
  obtain ⟨z, hz, hzv, hzs⟩ := (tyR (P := P) ht).zeroV st.n μ
  have hlen := hzv.length
  obtain ⟨h1, h2⟩ := push_row hi.rel (Pre.refl w) rfl (l := i.zero.map Z.av) (cs := z.cells) (E := t) (by simp at hlen; simp; omega) (fun j hj => by simpa using hzv.get j)
  refine ⟨.pointer (some ⟨w.heap.size, 0, none⟩), _, _, ?_, ?_, h1, h2⟩
  · simp [execOp, Instr.alloc, hz, newVar, newRow]
  · simp only [VR]
    exact ⟨Nat.lt_succ_self _, by rw [upd_same]⟩

theorem o_idx {t : Nat} {x ix : Operand} {r : Option Nat} {o n : Nat} {k : IntKind} {q : Int} {e : Nat × Z × Nat} (ht : elem1 tb t = some e) (hx : av a x = .sl r o n) (hi : av a ix = .int k q) (h0 : 0 ≤ q) (h1 : q < n)
    (hR : R (a.put dst (.v (.ptr r (o + q.toNat)))) st) : ALeaf P T st0 N ⟨dst, .indexAddr t x ix, ty, pos, aft, gd⟩ m R a st := by
  obtain ⟨e, z, b⟩ := e
  refine leaf_q (.v (.ptr r (o + q.toNat))) (fun μ0 w0 β μ w ca hinv => ?_) hR
  obtain ⟨hu, h1'⟩ := elem1_ok (P := P) ht
  obtain ⟨inf, v, e1, e2, _⟩ := one1_info (P := P) h1'
  have hxv := av_vr hinv x
  have hiv := av_vr hinv ix
  rw [hx] at hxv
  rw [hi] at hiv
  simp only [VR] at hiv
  cases r with
  | none =>
    simp only [VR] at hxv
    omega
  | some r =>
    simp only [VR] at hxv
    obtain ⟨hr, A, c, hxe, hc, hA⟩ := hxv
    rcases hA with hA | ⟨hA, _⟩
    · omega
    · refine ⟨.pointer (some ⟨(μ r).b, (μ r).s + (o + q.toNat), none⟩), ⟨hr, rfl⟩, fun w' _ => ?_⟩
      have hlt : q < (n : Int) := h1
      simp [execOp, hxe, hiv, Instr.indexAt, asIntOf, underlying, hu, h0, hlt, sizeOf, typeInfo, e1, e2, hA, Addr.add_lit, Nat.add_assoc]

omit [TbOk P tb] in
/-- What a cell of the store holds, in the world. -/
theorem cell_w {μ0 : Nat → Loc} {w0 : World} {β : Nat → Nat} {μ : Nat → Loc} {w : World} {ca : Act} (hi : Inv T μ0 st0 w0 N β a μ st w ca) {r : Option Nat} {j : Nat} {v : AV} (hc : cell st r j = some v) :
    ∃ i, r = some i ∧ i < st.n ∧ ∃ (cs : Array Value) (E : Nat) (fz : Nat × Nat) (cv : Value), w.heap[(μ i).b]? = some (.cells cs E fz) ∧ cs[(μ i).s + j]? = some cv ∧ VR st.n μ v cv ∧ (μ i).s + j < cs.size := by
  cases r with
  | none => cases hc
  | some i =>
    unfold cell at hc
    simp only at hc
    split at hc
    · rename_i hlt
      split at hc
      · rename_i own l ho
        have h := hi.rel.obj i hlt
        rw [ho] at h
        obtain ⟨cs, E, fz, h1, h2, h3, h4, h5⟩ := h
        have hj : j < l.length := (List.getElem?_eq_some_iff.1 hc).1
        have h6 := h5 j hj
        have hb : (μ i).s + j < cs.size := by omega
        have e1 : l.getD j .junk = v := by rw [List.getD, hc]; rfl
        have e2 : cs.getD ((μ i).s + j) undef = cs[(μ i).s + j] := by simp [hb]
        rw [e1, e2] at h6
        exact ⟨i, rfl, hlt, cs, E, fz, _, h1, by simp [hb], h6, hb⟩
      · cases hc
    · cases hc

theorem o_ld {t : Nat} {x : Operand} {r : Option Nat} {j : Nat} {v : AV} {zb : Z × Nat} (ht : one1 tb t = some zb) (hx : av a x = .ptr r j) (hc : cell st r j = some v) (hR : R (a.put dst (.v v)) st) : ALeaf P T st0 N ⟨dst, .load t x, ty, pos, aft, gd⟩ m R a st := by
  obtain ⟨z, b⟩ := zb
  refine leaf_q (.v v) (fun μ0 w0 β μ w ca hinv => ?_) hR
  obtain ⟨i, hi, hz, _, hag⟩ := one1_ok ht
  obtain ⟨q, rfl, hq, cs, E, fz, cv, h1, h2, h3, h4⟩ := cell_w hinv hc
  have hxv := av_vr hinv x
  rw [hx] at hxv
  simp only [VR] at hxv
  refine ⟨cv, h3, fun w' hp => ?_⟩
  have hlt : (μ q).b < w.heap.size := (Array.getElem?_eq_some_iff.1 h1).1
  have := run_loadAt (P := P) hi w' (μ q).b ((μ q).s + j) cs E fz ((hp.blk _ hlt).trans h1) cv (by rw [hag]; simp [List.head?_drop, h2])
  simp [execOp, hxv.2, this]
/-- A struct behind a place. -/
theorem o_ldS {t : Nat} {x : Operand} {r : Nat} {j : Nat} {i : TyI} {own : Bool} {l s : List AV} (ht : look tb t = some i) (hag : i.agg = true) (hx : av a x = .ptr (some r) j) (hr : r < st.n) (ho : st.ob r = .row own l) (hs : takeA i.zero.length (l.drop j) = some s)
    (hR : R (a.put dst (.v (.agg s))) st) : ALeaf P T st0 N ⟨dst, .load t x, ty, pos, aft, gd⟩ m R a st := by
  refine leaf_q (.v (.agg s)) (fun μ0 w0 β μ w ca hinv => ?_) hR
  have h := hinv.rel.obj r hr
  rw [ho] at h
  obtain ⟨cs, E, fz, h1, h2, h3, h4, h5⟩ := h
  have hxv := av_vr hinv x
  rw [hx] at hxv
  simp only [VR] at hxv
  obtain ⟨e1, e2⟩ := takeA_eq _ _ _ hs
  have hdl : j + i.zero.length ≤ l.length ∨ i.zero.length = 0 := by
    rw [List.length_drop] at e2
    omega
  have hlen : i.zero.length ≤ (cs.toList.drop ((μ r).s + j)).length := by
    rw [List.length_drop, Array.length_toList]
    omega
  have hvs : VRL st.n μ s ((cs.toList.drop ((μ r).s + j)).take i.zero.length) := by
    refine VRL.of_get (by rw [e1, List.length_take, List.length_take]; omega) fun k hk => ?_
    have hk' : k < i.zero.length := by rw [e1, List.length_take] at hk; omega
    have h6 := h5 (j + k) (by omega)
    have e3 : s.getD k .junk = l.getD (j + k) .junk := by
      rw [e1]
      simp only [List.getD, List.getElem?_take, List.getElem?_drop, hk', if_true]
    have e4 : ((cs.toList.drop ((μ r).s + j)).take i.zero.length).getD k undef = cs.getD ((μ r).s + (j + k)) undef := by
      have hb : (μ r).s + (j + k) < cs.size := by omega
      simp [List.getD, List.getElem?_take, List.getElem?_drop, hk', Nat.add_assoc, hb]
    rw [e3, e4]
    exact h6
  refine ⟨_, by simp only [RR, VR]; exact ⟨_, rfl, hvs⟩, fun w' hp => ?_⟩
  have hlt : (μ r).b < w.heap.size := (Array.getElem?_eq_some_iff.1 h1).1
  have := run_loadAt (P := P) ht w' (μ r).b ((μ r).s + j) cs E fz ((hp.blk _ hlt).trans h1) _ (by rw [hag, if_pos rfl]; exact ⟨hlen, rfl⟩)
  simp [execOp, hxv.2, this]

omit [TbOk P tb] in
theorem splice_get {α : Type} (l vs : List α) (j k : Nat) (d : α) (hj : j + vs.length ≤ l.length) : (l.take j ++ vs ++ l.drop (j + vs.length)).getD k d = if j ≤ k ∧ k < j + vs.length then vs.getD (k - j) d else l.getD k d := by
  simp only [List.getD]
  rcases Nat.lt_or_ge k j with c1 | c1
  · rw [if_neg (by omega), List.append_assoc, List.getElem?_append_left (by rw [List.length_take]; omega), List.getElem?_take, if_pos c1]
  · rcases Nat.lt_or_ge k (j + vs.length) with c2 | c2
    · rw [if_pos ⟨c1, c2⟩, List.append_assoc, List.getElem?_append_right (by rw [List.length_take]; omega), List.length_take, Nat.min_eq_left (by omega), List.getElem?_append_left (by omega)]
    · rw [if_neg (by omega), List.getElem?_append_right (by rw [List.length_append, List.length_take]; omega), List.length_append, List.length_take, Nat.min_eq_left (by omega), List.getElem?_drop, show j + vs.length + (k - (j + vs.length)) = k by omega]
/-- A store into a row (or a variable) of the call's own. -/
theorem o_st {t : Nat} {x v : Operand} {r j : Nat} {l vs : List AV} {i : TyI} (ht : look tb t = some i) (hx : av a x = .ptr (some r) j) (hr : r < st.n) (hmay : May T st0 r) (ho : st.ob r = .row true l) (hv : cellsB (av a v) = some vs) (hone : vs.all oneA = true) (hlen : vs.length = i.zero.length) (hj : j + vs.length ≤ l.length)
    (hR : R (a.put dst (.v .junk)) (st.set r (.row true (l.take j ++ vs ++ l.drop (j + vs.length))))) : ALeaf P T st0 N ⟨dst, .store t x v, ty, pos, aft, gd⟩ .n R a st := by
  refine leaf_skip (T' := (· = r)) _ (fun k hk e => by subst e; exact hmay hk) (.inl rfl) (fun μ0 w0 β μ w ca hinv => ?_) hR
  have h := hinv.rel.obj r hr
  rw [ho] at h
  obtain ⟨cs, E, fz, h1, h2, h3, h4, h5⟩ := h
  have hfz := h2 rfl
  subst hfz
  have hxv := av_vr hinv x
  rw [hx] at hxv
  simp only [VR] at hxv
  have hvv := (av_vr hinv v).cellsB hv
  have hvl := hvv.length
  have hones := VRL.ones hvv hone
  have hsz : (sizeOf t).run P w = .ok i.zero.length w := (tyR (P := P) ht).size w
  have hst := run_storeCells_at P (μ r).b ((μ r).s + j) E (ca.eval v).cells.toList 0 cs w h1 (by rw [hvl]; omega) hones
  have hne : (ca.eval v).cells.size = i.zero.length := by have := hvl; simp at this; omega
  have hrun : (execOp ca.eval ⟨dst, .store t x v, ty, pos, aft, gd⟩).run P w = .ok .skip (w.setRow (μ r).b (cs.toList.take ((μ r).s + j + 0) ++ (ca.eval v).cells.toList ++ cs.toList.drop ((μ r).s + j + 0 + (ca.eval v).cells.toList.length)).toArray) := by
    simp only [execOp, Instr.storeAt, hxv.2, Instr.sureAddr, pure_bind, storeVar, Sem.run_bind, hsz, Result.andThen_ok, hne, ne_eq, not_true_eq_false, if_false, hst, Sem.run_pure]
  refine ⟨_, hrun, ?_⟩
  have hown : (st.ob r).own = true := by rw [ho]; rfl
  refine set_ok hinv.rel hr hown (by simp [World.setRow]) (fun b hb => setRow_other w _ b _ hb) rfl rfl rfl ?_
  refine ⟨_, E, (0, 0), setRow_heap w _ cs _ E (0, 0) h1, fun _ => rfl, ?_, ?_, fun k hk => ?_⟩
  · simp only [List.length_append, List.length_take, List.length_drop]; omega
  · simp only [List.size_toArray, List.length_append, List.length_take, List.length_drop, Array.length_toList, hvl]; omega
  · have hk' : k < l.length := by simp only [List.length_append, List.length_take, List.length_drop] at hk; omega
    have hcs : (μ r).s + k < cs.size := by omega
    have hvl2 : (ca.eval v).cells.toList.length = vs.length := hvl
    generalize (ca.eval v).cells.toList = cvs at *
    simp only [Nat.add_zero]
    have e2 : (cs.toList.take ((μ r).s + j) ++ cvs ++ cs.toList.drop ((μ r).s + j + cvs.length)).toArray.getD ((μ r).s + k) undef = (cs.toList.take ((μ r).s + j) ++ cvs ++ cs.toList.drop ((μ r).s + j + cvs.length)).getD ((μ r).s + k) undef := by
      simp [List.getD]
    rw [e2, splice_get l vs j k .junk hj, splice_get cs.toList cvs ((μ r).s + j) ((μ r).s + k) undef (by have := Array.length_toList (xs := cs); omega)]
    by_cases c : j ≤ k ∧ k < j + vs.length
    · rw [if_pos c, if_pos (by omega), show (μ r).s + k - ((μ r).s + j) = k - j by omega]
      exact hvv.get _
    · rw [if_neg c, if_neg (by omega)]
      have := h5 k hk'
      simpa [List.getD] using this
end
end Go.Proofs.YtmphklmhhcmbnaaDoorW.Ax
