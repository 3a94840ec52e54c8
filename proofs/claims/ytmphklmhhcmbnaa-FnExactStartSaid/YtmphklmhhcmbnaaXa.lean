/- An abstract store for walks: values, blocks by number, and what it means that a world is described by such a store. No program in sight. -/
import Derived.Still
import Derived.Tactics
import Derived.WalkKit
import Derived.Below
import Derived.KernelRfl
namespace Go.Proofs.YtmphklmhhcmbnaaW.Ax
open Go Go.RowKit
set_option linter.unusedVariables false

inductive AV where
  | junk
  | und
  | int (k : IntKind) (n : Int)
  | bool (b : Bool)
  | str (s : ByteArray)
  | sl (r : Option Nat) (o n : Nat)
  | ptr (r : Option Nat) (o : Nat)
  | map (r : Nat)
  | fn (f : Nat) (cap : List AV)
  | agg (cs : List AV)
  | tup (vs : List AV)

structure Loc where
  b : Nat
  s : Nat
  z : Nat

mutual
def VR (n : Nat) (μ : Nat → Loc) : AV → Value → Prop
  | .junk, _ => True
  | .und, v => v = undef
  | .int k x, v => v = .int k x
  | .bool x, v => v = .bool x
  | .str x, v => v = .string x
  | .sl none o m, v => o = 0 ∧ m = 0 ∧ v = .slice none 0 0
  | .sl (some r) o m, v => r < n ∧ ∃ A c, v = .slice (some A) m c ∧ m ≤ c ∧ (c = 0 ∨ (A = ⟨(μ r).b, (μ r).s + o, none⟩ ∧ (μ r).s + o + c ≤ (μ r).z))
  | .ptr none _, _ => False
  | .ptr (some r) o, v => r < n ∧ v = .pointer (some ⟨(μ r).b, (μ r).s + o, none⟩)
  | .map r, v => r < n ∧ v = .map (some (μ r).b)
  | .fn f cap, v => ∃ l : List Value, v = .func (.func f) #[] l.toArray ∧ VRL n μ cap l
  | .agg cs, v => ∃ l : List Value, v = .agg l.toArray ∧ VRL n μ cs l
  | .tup vs, v => ∃ l : List Value, v = .tuple l.toArray ∧ VRL n μ vs l
def VRL (n : Nat) (μ : Nat → Loc) : List AV → List Value → Prop
  | [], l => l = []
  | c :: cs, l => ∃ v l', l = v :: l' ∧ VR n μ c v ∧ VRL n μ cs l'
end

mutual
theorem VR.mono {n n' : Nat} {μ μ' : Nat → Loc} (hn : n ≤ n') (hμ : ∀ i, i < n → μ' i = μ i) : ∀ (a : AV) (v : Value), VR n μ a v → VR n' μ' a v
  | .junk, _, _ => by simp [VR]
  | .und, _, h => by simpa [VR] using h
  | .int _ _, _, h => by simpa [VR] using h
  | .bool _, _, h => by simpa [VR] using h
  | .str _, _, h => by simpa [VR] using h
  | .sl none _ _, _, h => by simpa [VR] using h
  | .sl (some r) _ _, _, h => by
    simp only [VR] at h ⊢
    obtain ⟨h1, h2⟩ := h
    rw [hμ r h1]
    exact ⟨by omega, h2⟩
  | .ptr none _, _, h => by simp [VR] at h
  | .ptr (some r) _, _, h => by
    simp only [VR] at h ⊢
    obtain ⟨h1, h2⟩ := h
    rw [hμ r h1]
    exact ⟨by omega, h2⟩
  | .map r, _, h => by
    simp only [VR] at h ⊢
    obtain ⟨h1, h2⟩ := h
    rw [hμ r h1]
    exact ⟨by omega, h2⟩
  | .fn _ cap, _, h => by
    simp only [VR] at h ⊢
    obtain ⟨l, h1, h2⟩ := h
    exact ⟨l, h1, VRL.mono hn hμ cap l h2⟩
  | .agg cs, _, h => by
    simp only [VR] at h ⊢
    obtain ⟨l, h1, h2⟩ := h
    exact ⟨l, h1, VRL.mono hn hμ cs l h2⟩
  | .tup vs, _, h => by
    simp only [VR] at h ⊢
    obtain ⟨l, h1, h2⟩ := h
    exact ⟨l, h1, VRL.mono hn hμ vs l h2⟩
theorem VRL.mono {n n' : Nat} {μ μ' : Nat → Loc} (hn : n ≤ n') (hμ : ∀ i, i < n → μ' i = μ i) : ∀ (a : List AV) (l : List Value), VRL n μ a l → VRL n' μ' a l
  | [], _, h => by simpa [VRL] using h
  | c :: cs, _, h => by
    simp only [VRL] at h ⊢
    obtain ⟨v, l', h1, h2, h3⟩ := h
    exact ⟨v, l', h1, VR.mono hn hμ c v h2, VRL.mono hn hμ cs l' h3⟩
end

theorem VRL.length {n : Nat} {μ : Nat → Loc} : ∀ {a : List AV} {l : List Value}, VRL n μ a l → l.length = a.length
  | [], _, h => by simp only [VRL] at h; simp [h]
  | c :: cs, _, h => by
    simp only [VRL] at h
    obtain ⟨v, l', rfl, _, h3⟩ := h
    simp [VRL.length h3]
theorem VRL.get {n : Nat} {μ : Nat → Loc} : ∀ {a : List AV} {l : List Value}, VRL n μ a l → ∀ i, VR n μ (a.getD i .junk) (l.getD i undef)
  | [], _, _, i => by simp [VR]
  | c :: cs, _, h, i => by
    simp only [VRL] at h
    obtain ⟨v, l', rfl, h2, h3⟩ := h
    cases i with
    | zero => simpa using h2
    | succ i => simpa using VRL.get h3 i
theorem VRL.of_get {n : Nat} {μ : Nat → Loc} : ∀ {a : List AV} {l : List Value}, l.length = a.length → (∀ i, i < a.length → VR n μ (a.getD i .junk) (l.getD i undef)) → VRL n μ a l
  | [], l, hl, _ => by simp only [VRL]; exact List.eq_nil_of_length_eq_zero (by simpa using hl)
  | c :: cs, [], hl, _ => by simp at hl
  | c :: cs, v :: l, hl, h => by
    simp only [VRL]
    exact ⟨v, l, rfl, by simpa using h 0 (by simp), VRL.of_get (by simpa using hl) fun i hi => by simpa using h (i + 1) (by simpa using hi)⟩
theorem VRL.set {n : Nat} {μ : Nat → Loc} {a : List AV} {l : List Value} (h : VRL n μ a l) (i : Nat) {x : AV} {v : Value} (hv : VR n μ x v) : VRL n μ (a.set i x) (l.set i v) := by
  refine VRL.of_get (by simp [h.length]) fun j hj => ?_
  have hj' : j < a.length := by simpa using hj
  have hl : j < l.length := by rw [h.length]; exact hj'
  by_cases e : i = j
  · subst e; simpa [List.getD, List.getElem?_set, hj', hl] using hv
  · simpa [List.getD, List.getElem?_set, e] using h.get j
theorem VRL.append {n : Nat} {μ : Nat → Loc} : ∀ {a b : List AV} {l m : List Value}, VRL n μ a l → VRL n μ b m → VRL n μ (a ++ b) (l ++ m)
  | [], _, _, _, h, h' => by simp only [VRL] at h; subst h; simpa using h'
  | c :: cs, _, _, _, h, h' => by
    simp only [VRL] at h
    obtain ⟨v, l', rfl, h2, h3⟩ := h
    simp only [List.cons_append, VRL]
    exact ⟨v, _, rfl, h2, VRL.append h3 h'⟩

inductive Ob where
  | dead
  | row (own : Bool) (l : List AV)
  | map (es : List (Int × AV))
def Ob.own : Ob → Bool
  | .row o _ => o
  | .map _ => true
  | .dead => false
def Ob.live : Ob → Bool
  | .dead => false
  | _ => true
theorem Ob.live_of_own {o : Ob} (h : o.own = true) : o.live = true := by cases o <;> simp_all [Ob.own, Ob.live]

structure St where
  n : Nat
  ob : Nat → Ob

def ERL (n : Nat) (μ : Nat → Loc) : List (Int × AV) → List MapEntry → Prop
  | [], l => l = []
  | (k, x) :: es, l => ∃ (m : MapEntry) (l' : List MapEntry), l = m :: l' ∧ m.key = .int .i64 k ∧ VR n μ x m.val ∧ ERL n μ es l'
theorem ERL.mono {n n' : Nat} {μ μ' : Nat → Loc} (hn : n ≤ n') (hμ : ∀ i, i < n → μ' i = μ i) : ∀ (es : List (Int × AV)) (l : List MapEntry), ERL n μ es l → ERL n' μ' es l
  | [], _, h => h
  | (k, x) :: es, l, h => by
    simp only [ERL] at h ⊢
    obtain ⟨m, l', h1, h2, h3, h4⟩ := h
    exact ⟨m, l', h1, h2, VR.mono hn hμ _ _ h3, ERL.mono hn hμ es l' h4⟩

def ObR (n : Nat) (μ : Nat → Loc) (w : World) (L : Loc) : Ob → Prop
  | .dead => True
  | .row own l => ∃ cs T fz, w.heap[L.b]? = some (.cells cs T fz) ∧ (own = true → fz = (0, 0)) ∧ L.s + l.length ≤ L.z ∧ L.z ≤ cs.size ∧ ∀ j, j < l.length → VR n μ (l.getD j .junk) (cs.getD (L.s + j) undef)
  | .map es => ∃ (l : List MapEntry) (clock : Nat), w.heap[L.b]? = some (.map l.toArray clock) ∧ ERL n μ es l

theorem ObR.mono {n n' : Nat} {μ μ' : Nat → Loc} (hn : n ≤ n') (hμ : ∀ i, i < n → μ' i = μ i) {w w' : World} {L : Loc} {o : Ob} (hw : w'.heap[L.b]? = w.heap[L.b]?) (h : ObR n μ w L o) : ObR n' μ' w' L o := by
  cases o with
  | dead => trivial
  | row own l =>
    obtain ⟨cs, T, fz, h1, h2, h3, h4, h5⟩ := h
    exact ⟨cs, T, fz, hw.trans h1, h2, h3, h4, fun j hj => VR.mono hn hμ _ _ (h5 j hj)⟩
  | map es =>
    obtain ⟨l, clock, h1, h2⟩ := h
    exact ⟨l, clock, hw.trans h1, ERL.mono hn hμ _ _ h2⟩

theorem ObR.lt {n : Nat} {μ : Nat → Loc} {w : World} {L : Loc} {o : Ob} (h : ObR n μ w L o) (hl : o.live = true) : L.b < w.heap.size := by
  cases o with
  | dead => simp [Ob.live] at hl
  | row own l =>
    obtain ⟨cs, T, fz, h1, _⟩ := h
    exact (Array.getElem?_eq_some_iff.1 h1).1
  | map es =>
    obtain ⟨l, clock, h1, _⟩ := h
    exact (Array.getElem?_eq_some_iff.1 h1).1

structure Rel (μ : Nat → Loc) (st : St) (w : World) : Prop where
  obj : ∀ i, i < st.n → ObR st.n μ w (μ i) (st.ob i)
  sep : ∀ i j, i < st.n → j < st.n → i ≠ j → (st.ob i).own = true → (st.ob j).live = true → (μ i).b ≠ (μ j).b

/-- From one world to a later one: what was there stays, but for the own blocks of 'T'. -/
structure Stp (T : Nat → Prop) (μ : Nat → Loc) (st : St) (w : World) (μ' : Nat → Loc) (st' : St) (w' : World) : Prop where
  n : st.n ≤ st'.n
  mu : ∀ i, i < st.n → μ' i = μ i
  ob : ∀ i, i < st.n → ¬ T i → st'.ob i = st.ob i
  own : ∀ i, i < st.n → (st'.ob i).own = true → (st.ob i).own = true
  live : ∀ i, i < st.n → (st'.ob i).live = true → (st.ob i).live = true
  size : w.heap.size ≤ w'.heap.size
  blk : ∀ b, b < w.heap.size → (∀ i, i < st.n → T i → (st.ob i).own = true → (μ i).b ≠ b) → w'.heap[b]? = w.heap[b]?
  new : ∀ i, st.n ≤ i → i < st'.n → (st'.ob i).live = true → w.heap.size ≤ (μ' i).b ∨ ∃ j, j < st.n ∧ T j ∧ (st.ob j).own = true ∧ (μ j).b = (μ' i).b
  os : w'.os = w.os
  tape : w'.tape = w.tape
  output : w'.output = w.output

theorem Stp.refl (T : Nat → Prop) (μ : Nat → Loc) (st : St) (w : World) : Stp T μ st w μ st w :=
  ⟨Nat.le_refl _, fun _ _ => rfl, fun _ _ _ => rfl, fun _ _ h => h, fun _ _ h => h, Nat.le_refl _, fun _ _ _ => rfl, fun i h1 h2 => by omega, rfl, rfl, rfl⟩

theorem Stp.trans {T T' : Nat → Prop} {μ st w μ₁ st₁ w₁ μ₂ st₂ w₂} (h : Stp T μ st w μ₁ st₁ w₁) (k : Stp T' μ₁ st₁ w₁ μ₂ st₂ w₂) (hT : ∀ i, i < st.n → T' i → T i) : Stp T μ st w μ₂ st₂ w₂ where
  n := Nat.le_trans h.n k.n
  mu := fun i hi => (k.mu i (Nat.lt_of_lt_of_le hi h.n)).trans (h.mu i hi)
  ob := fun i hi hn => (k.ob i (Nat.lt_of_lt_of_le hi h.n) (fun ht => hn (hT i hi ht))).trans (h.ob i hi hn)
  own := fun i hi ho => h.own i hi (k.own i (Nat.lt_of_lt_of_le hi h.n) ho)
  live := fun i hi ho => h.live i hi (k.live i (Nat.lt_of_lt_of_le hi h.n) ho)
  size := Nat.le_trans h.size k.size
  blk := fun b hb hd => by
    refine (k.blk b (Nat.lt_of_lt_of_le hb h.size) fun i hi ht ho => ?_).trans (h.blk b hb hd)
    rcases Nat.lt_or_ge i st.n with hlt | hge
    · rw [h.mu i hlt]
      exact hd i hlt (hT i hlt ht) (h.own i hlt ho)
    · rcases h.new i hge hi (Ob.live_of_own ho) with hh | ⟨j, hj, htj, hoj, hbj⟩
      · omega
      · rw [← hbj]; exact hd j hj htj hoj
  new := fun i h1 h2 ho => by
    rcases Nat.lt_or_ge i st₁.n with hlt | hge
    · rw [k.mu i hlt]
      exact h.new i h1 hlt (k.live i hlt ho)
    · rcases k.new i hge h2 ho with hh | ⟨j, hj, htj, hoj, hbj⟩
      · exact .inl (Nat.le_trans h.size hh)
      · rcases Nat.lt_or_ge j st.n with hlt | hge'
        · exact .inr ⟨j, hlt, hT j hlt htj, h.own j hlt hoj, by rw [← h.mu j hlt]; exact hbj⟩
        · rcases h.new j hge' hj (Ob.live_of_own hoj) with hh | ⟨j0, q1, q2, q3, q4⟩
          · exact .inl (by rw [← hbj]; exact hh)
          · exact .inr ⟨j0, q1, q2, q3, q4.trans hbj⟩
  os := k.os.trans h.os
  tape := k.tape.trans h.tape
  output := k.output.trans h.output

/-- Of what was there nothing has turned. -/
structure Pre (w w' : World) : Prop where
  size : w.heap.size ≤ w'.heap.size
  blk : ∀ b, b < w.heap.size → w'.heap[b]? = w.heap[b]?
  os : w'.os = w.os
  tape : w'.tape = w.tape
  output : w'.output = w.output
theorem Pre.refl (w : World) : Pre w w := ⟨Nat.le_refl _, fun _ _ => rfl, rfl, rfl, rfl⟩
theorem Pre.trans {a b c : World} (h : Pre a b) (k : Pre b c) : Pre a c :=
  ⟨Nat.le_trans h.size k.size, fun x hx => (k.blk x (Nat.lt_of_lt_of_le hx h.size)).trans (h.blk x hx), k.os.trans h.os, k.tape.trans h.tape, k.output.trans h.output⟩
theorem Pre.drew (w : World) : Pre w { w with drawn := w.drawn + 1 } := ⟨Nat.le_refl _, fun _ _ => rfl, rfl, rfl, rfl⟩

theorem Rel.pre {μ : Nat → Loc} {st : St} {w w' : World} (h : Rel μ st w) (hp : Pre w w') : Rel μ st w' := by
  refine ⟨fun i hi => ?_, h.sep⟩
  cases hl : (st.ob i).live with
  | true => exact (h.obj i hi).mono (Nat.le_refl _) (fun _ _ => rfl) (hp.blk _ ((h.obj i hi).lt hl))
  | false =>
    have : st.ob i = .dead := by cases ho : st.ob i <;> simp_all [Ob.live]
    rw [this]; trivial
theorem Stp.pre {T : Nat → Prop} {μ st w μ' st' w' w''} (h : Stp T μ st w μ' st' w') (hp : Pre w' w'') : Stp T μ st w μ' st' w'' :=
  ⟨h.n, h.mu, h.ob, h.own, h.live, Nat.le_trans h.size hp.size, fun b hb hd => (hp.blk b (Nat.lt_of_lt_of_le hb h.size)).trans (h.blk b hb hd), h.new, hp.os.trans h.os, hp.tape.trans h.tape, hp.output.trans h.output⟩

/-! ### A frame -/
def upd {α : Type} (f : Nat → α) (d : Nat) (v : α) : Nat → α := fun i => cond (Nat.beq i d) v (f i)
theorem upd_same {α : Type} (f : Nat → α) (d : Nat) (v : α) : upd f d v d = v := by simp [upd]
theorem upd_ne {α : Type} (f : Nat → α) {d i : Nat} (v : α) (h : i ≠ d) : upd f d v i = f i := by
  unfold upd
  have : Nat.beq i d = false := by
    cases hb : Nat.beq i d with
    | false => rfl
    | true => exact absurd (Nat.eq_of_beq_eq_true hb) h
  rw [this]; rfl

/-- The slots; those that hold the place of a variable of the frame's own (box, offset); these variables' cells. -/
structure Aa where
  s : Nat → AV
  p : Nat → Option (Nat × Nat)
  x : Nat → Option (List AV)

inductive RV where
  | v (a : AV)
  | lp (k o : Nat)

def Aa.put (a : Aa) (d : Option Nat) (r : RV) : Aa :=
  match d with
  | none => a
  | some d =>
    match r with
    | .v x => ⟨upd a.s d x, upd a.p d none, a.x⟩
    | .lp k o => ⟨upd a.s d .junk, upd a.p d (some (k, o)), a.x⟩

def RR (n : Nat) (μ : Nat → Loc) (β : Nat → Nat) : RV → Value → Prop
  | .v a, v => VR n μ a v
  | .lp k o, v => v = .pointer (some ⟨β k, o, none⟩)

structure Inv (T : Nat → Prop) (μ0 : Nat → Loc) (st0 : St) (w0 : World) (N : Nat) (β : Nat → Nat) (a : Aa) (μ : Nat → Loc) (st : St) (w : World) (ca : Act) : Prop where
  rel : Rel μ st w
  stp : Stp T μ0 st0 w0 μ st w
  size : ca.tmps.size = N
  defers : ca.defers = []
  slot : ∀ i, VR st.n μ (a.s i) (ca.tmps.getD i undef)
  lp : ∀ i k o, a.p i = some (k, o) → ca.tmps.getD i undef = .pointer (some ⟨β k, o, none⟩)
  box : ∀ k l, a.x k = some l → ∃ cs E, w.heap[β k]? = some (.cells cs E (0, 0)) ∧ VRL st.n μ l cs.toList
  bsep : ∀ k k', a.x k ≠ none → a.x k' ≠ none → k ≠ k' → β k ≠ β k'
  bst : ∀ k i, a.x k ≠ none → i < st.n → (st.ob i).live = true → (μ i).b ≠ β k
  bnew : ∀ k, a.x k ≠ none → w0.heap.size ≤ β k

section
variable {T : Nat → Prop} {μ0 : Nat → Loc} {st0 : St} {w0 : World} {N : Nat} {β : Nat → Nat} {a : Aa} {μ : Nat → Loc} {st : St} {w : World} {ca : Act}

theorem Inv.blt (h : Inv T μ0 st0 w0 N β a μ st w ca) {k : Nat} (hk : a.x k ≠ none) : β k < w.heap.size := by
  cases hx : a.x k with
  | none => exact absurd hx hk
  | some l =>
    obtain ⟨cs, E, h1, _⟩ := h.box k l hx
    exact (Array.getElem?_eq_some_iff.1 h1).1

theorem Inv.pre (h : Inv T μ0 st0 w0 N β a μ st w ca) {w' : World} (hp : Pre w w') : Inv T μ0 st0 w0 N β a μ st w' ca := by
  refine ⟨h.rel.pre hp, h.stp.pre hp, h.size, h.defers, h.slot, h.lp, fun k l hk => ?_, h.bsep, h.bst, h.bnew⟩
  obtain ⟨cs, E, h1, h2⟩ := h.box k l hk
  exact ⟨cs, E, (hp.blk _ (h.blt (by simp [hk]))).trans h1, h2⟩

theorem getD_set (t : Array Value) (d : Nat) (v : Value) (i : Nat) : (t.setIfInBounds d v).getD i undef = if i = d ∧ d < t.size then v else t.getD i undef := by
  rw [Array.getD_eq_getD_getElem?, Array.getD_eq_getD_getElem?, Array.getElem?_setIfInBounds]
  by_cases h : d = i
  · subst h
    by_cases h2 : d < t.size <;> simp [h2]
  · have h' : ¬ i = d := fun e => h e.symm
    simp [h, h']

/-- A value laid into a slot. -/
theorem Inv.put (h : Inv T μ0 st0 w0 N β a μ st w ca) {d : Option Nat} (hd : ∀ x, d = some x → x < N) {r : RV} {v : Value} (hr : RR st.n μ β r v) :
    Inv T μ0 st0 w0 N β (a.put d r) μ st w (ca.put d v) := by
  cases d with
  | none => exact h
  | some d =>
    have hdN : d < ca.tmps.size := by rw [h.size]; exact hd d rfl
    cases r with
    | v x =>
      refine ⟨h.rel, h.stp, by simp [Act.put, h.size], h.defers, fun i => ?_, fun i k o hi => ?_, h.box, h.bsep, h.bst, h.bnew⟩
      · show VR st.n μ (upd a.s d x i) ((ca.tmps.setIfInBounds d v).getD i undef)
        rw [getD_set]
        by_cases e : i = d
        · subst e; rw [upd_same, if_pos ⟨rfl, hdN⟩]; exact hr
        · rw [upd_ne _ _ e, if_neg (fun hh => e hh.1)]; exact h.slot i
      · have hi' : upd a.p d none i = some (k, o) := hi
        show (ca.tmps.setIfInBounds d v).getD i undef = _
        rw [getD_set]
        by_cases e : i = d
        · subst e; rw [upd_same] at hi'; cases hi'
        · rw [upd_ne _ _ e] at hi'; rw [if_neg (fun hh => e hh.1)]; exact h.lp i k o hi'
    | lp k0 o0 =>
      have hr' : v = .pointer (some ⟨β k0, o0, none⟩) := hr
      refine ⟨h.rel, h.stp, by simp [Act.put, h.size], h.defers, fun i => ?_, fun i k o hi => ?_, h.box, h.bsep, h.bst, h.bnew⟩
      · show VR st.n μ (upd a.s d .junk i) ((ca.tmps.setIfInBounds d v).getD i undef)
        rw [getD_set]
        by_cases e : i = d
        · subst e; rw [upd_same]; simp [VR]
        · rw [upd_ne _ _ e, if_neg (fun hh => e hh.1)]; exact h.slot i
      · have hi' : upd a.p d (some (k0, o0)) i = some (k, o) := hi
        show (ca.tmps.setIfInBounds d v).getD i undef = _
        rw [getD_set]
        by_cases e : i = d
        · subst e
          rw [upd_same] at hi'
          rw [if_pos ⟨rfl, hdN⟩, hr']
          injection hi' with e1
          injection e1 with e2 e3
          subst e2; subst e3; rfl
        · rw [upd_ne _ _ e] at hi'; rw [if_neg (fun hh => e hh.1)]; exact h.lp i k o hi'

/-- Fewer slots are told of. -/
theorem Inv.weak (h : Inv T μ0 st0 w0 N β a μ st w ca) {a' : Aa} (hs : ∀ i, a'.s i = a.s i ∨ a'.s i = .junk) (hp : ∀ i, a'.p i = a.p i ∨ a'.p i = none) (hx : ∀ k, a'.x k = a.x k ∨ a'.x k = none) :
    Inv T μ0 st0 w0 N β a' μ st w ca := by
  have hx' : ∀ k, a'.x k ≠ none → a.x k ≠ none := fun k hk => by
    rcases hx k with e | e
    · rw [← e]; exact hk
    · exact absurd e hk
  refine ⟨h.rel, h.stp, h.size, h.defers, fun i => ?_, fun i k o hi => ?_, fun k l hk => ?_, fun k k' h1 h2 h3 => h.bsep k k' (hx' k h1) (hx' k' h2) h3, fun k i h1 h2 h3 => h.bst k i (hx' k h1) h2 h3, fun k hk => h.bnew k (hx' k hk)⟩
  · rcases hs i with e | e
    · rw [e]; exact h.slot i
    · rw [e]; simp [VR]
  · rcases hp i with e | e
    · rw [e] at hi; exact h.lp i k o hi
    · rw [e] at hi; cases hi
  · rcases hx k with e | e
    · rw [e] at hk; exact h.box k l hk
    · rw [e] at hk; cases hk
end
end Go.Proofs.YtmphklmhhcmbnaaW.Ax
