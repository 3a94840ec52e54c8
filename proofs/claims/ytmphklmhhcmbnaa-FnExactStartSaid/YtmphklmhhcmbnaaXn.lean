/- The rules as the walks use them. -/
import Derived.Test.YtmphklmhhcmbnaaXm
namespace Go.Proofs.YtmphklmhhcmbnaaW.Ax
open Go Go.RowKit
set_option linter.unusedVariables false

section
variable {P : Program} {tb : Tb} [TbOk P tb] {T : Nat → Prop} {st0 : St} {N : Nat} {Q : AX → Aa → St → Prop} {a a' : Aa} {st : St} {id : Nat} {l : List Oper} {y : Code}

def gOk (ops : Array Oper) (o : Oper) (a : Aa) : Bool :=
  match o.guard with
  | none => true
  | some (j, want) =>
    match (ops[j]?).bind (·.dst) with
    | some t => (match a.s t, want with | .bool true, true => true | .bool false, false => true | _, _ => false)
    | none => false
omit [TbOk P tb] in
theorem s_op {ops : Array Oper} {K : Aa → St → Prop} {ms : List Md} {o : Oper} (hg : gOk ops o a = true) (h : ALeaf P T st0 N o (ms.headD .n) (AOps P T st0 N ops K ms.tail l) a st) : AOps P T st0 N ops K ms (o :: l) a st := by
  unfold gOk at hg
  split at hg
  · rename_i hn; exact s_cons hn h
  · rename_i j want hn
    split at hg
    · rename_i t ht
      split at hg
      · rename_i hs; exact s_guard hn ht hs h
      · rename_i hs; exact s_guard hn ht hs h
      · cases hg
    · cases hg
omit [TbOk P tb] in
/-- A bool in a slot, decided. -/
theorem s_bool {ops : Array Oper} {K : Aa → St → Prop} {ms : List Md} (t : Nat) {b : Bool} (hs : a.s t = .bool b) (hp : a.p t = none) (h1 : b = true → AOps P T st0 N ops K ms l (a.put (some t) (.v (.bool true))) st) (h2 : b = false → AOps P T st0 N ops K ms l (a.put (some t) (.v (.bool false))) st) :
    AOps P T st0 N ops K ms l a st := by
  have key : ∀ c, b = c → a.put (some t) (.v (.bool c)) = a := fun c e => by
    subst e
    have e1 : upd a.s t (.bool b) = a.s := by
      funext i
      by_cases h : i = t
      · subst h; rw [upd_same, hs]
      · rw [upd_ne _ _ h]
    have e2 : upd a.p t none = a.p := by
      funext i
      by_cases h : i = t
      · subst h; rw [upd_same, hp]
      · rw [upd_ne _ _ h]
    show (⟨upd a.s t (.bool b), upd a.p t none, a.x⟩ : Aa) = a
    rw [e1, e2]
  cases b with
  | true => have := h1 rfl; rw [key true rfl] at this; exact this
  | false => have := h2 rfl; rw [key false rfl] at this; exact this

/-- A region whose operations all run. -/
theorem c_rr (hd : dstsOk N l = true) {ms : List Md} (h : runN tb l.toArray l.length [] l a = some (ms, [], a')) (hq : ACode P T st0 N y Q a' st) : ACode P T st0 N (.seq (.region id l.toArray false) y) Q a st :=
  c_seq (c_region hd (s_run _ h hq))
theorem c_r1 (hd : dstsOk N l = true) {ms : List Md} (h : runN tb l.toArray l.length [] l a = some (ms, [], a')) (hq : Q .normal a' st) : ACode P T st0 N (.region id l.toArray false) Q a st :=
  c_region hd (s_run _ h hq)
omit [TbOk P tb] in
theorem c_rs (hd : dstsOk N l = true) (h : AOps P T st0 N l.toArray (ACode P T st0 N y Q) [] l a st) : ACode P T st0 N (.seq (.region id l.toArray false) y) Q a st :=
  c_seq (c_region hd h)
theorem c_ds {tb' : Tb} [TbOk P tb'] (sch : List Nat) (ms : List Md) (hd : dstsOk N l = true) (hB : drawOk l.toArray sch ms = true) (h : AOps P T st0 N l.toArray (ACode P T st0 N y Q) ms (sch.filterMap (l.toArray[·]?)) a st) : ACode P T st0 N (.seq (.region id l.toArray true) y) Q a st :=
  c_seq (c_draw (TbOk.mixed (tb := tb')) sch ms hd hB h)
omit [TbOk P tb] in
theorem s_end {ops : Array Oper} {ms : List Md} {K : Aa → St → Prop} (h : K a st) : AOps P T st0 N ops K ms [] a st := h
theorem fin {rs : List ResultVar} {Post : AV → St → Prop} {v : AV} (hv : resA tb rs a = some v) (hp : Post v st) : RetQ tb rs Post .ret a st := ⟨v, hv, hp⟩
theorem fin_n {rs : List ResultVar} {Post : AV → St → Prop} {v : AV} (hv : resA tb rs a = some v) (hp : Post v st) : RetQ tb rs Post .normal a st := ⟨v, hv, hp⟩

/-- A frame of which so much is told. -/
def mk (s : List (Nat × AV)) (x : List (Nat × Nat × List AV)) : Aa :=
  ⟨fun i => match s.find? (fun p => Nat.beq p.1 i) with | some p => p.2 | none => .junk,
   fun i => match x.find? (fun p => Nat.beq p.1 i) with | some p => some (p.2.1, 0) | none => none,
   fun k => match x.find? (fun p => Nat.beq p.2.1 k) with | some p => some p.2.2 | none => none⟩
def leS (a : Aa) : List (Nat × AV) → Prop
  | [] => True
  | (i, v) :: r => a.s i = v ∧ leS a r
def leX (a : Aa) : List (Nat × Nat × List AV) → Prop
  | [] => True
  | (i, k, l) :: r => a.p i = some (k, 0) ∧ a.x k = some l ∧ leX a r
omit [TbOk P tb] in
theorem c_mk {c : Code} (s : List (Nat × AV)) (x : List (Nat × Nat × List AV)) (hs : leS a s) (hx : leX a x) (h : ACode P T st0 N c Q (mk s x) st) : ACode P T st0 N c Q a st := by
  refine c_weak (fun i => ?_) (fun i => ?_) (fun k => ?_) h
  · show (match s.find? (fun p => Nat.beq p.1 i) with | some p => p.2 | none => .junk) = a.s i ∨ (match s.find? (fun p => Nat.beq p.1 i) with | some p => p.2 | none => AV.junk) = .junk
    clear h
    induction s with
    | nil => exact .inr rfl
    | cons q s ih =>
      obtain ⟨j, v⟩ := q
      simp only [List.find?_cons]
      cases hb : Nat.beq j i with
      | true => have e := Nat.eq_of_beq_eq_true hb; subst e; exact .inl hs.1.symm
      | false => exact ih hs.2
  · show (match x.find? (fun p => Nat.beq p.1 i) with | some p => some (p.2.1, 0) | none => none) = a.p i ∨ (match x.find? (fun p => Nat.beq p.1 i) with | some p => some (p.2.1, 0) | none => none) = none
    clear h
    induction x with
    | nil => exact .inr rfl
    | cons q x ih =>
      obtain ⟨j, k, l⟩ := q
      simp only [List.find?_cons]
      cases hb : Nat.beq j i with
      | true => have e := Nat.eq_of_beq_eq_true hb; subst e; exact .inl hx.1.symm
      | false => exact ih hx.2.2
  · show (match x.find? (fun p => Nat.beq p.2.1 k) with | some p => some p.2.2 | none => none) = a.x k ∨ (match x.find? (fun p => Nat.beq p.2.1 k) with | some p => some p.2.2 | none => none) = none
    clear h
    induction x with
    | nil => exact .inr rfl
    | cons q x ih =>
      obtain ⟨j, k', l⟩ := q
      simp only [List.find?_cons]
      cases hb : Nat.beq k' k with
      | true => have e := Nat.eq_of_beq_eq_true hb; subst e; exact .inl hx.2.1.symm
      | false => exact ih hx.2.2
/-- A loop, from a frame of which so much is told. -/
theorem c_lp {c : Code} {α : Type} (s : α → List (Nat × AV)) (x : α → List (Nat × Nat × List AV)) (I : α → St → Prop) (m : α → Nat) (i : α) (hs : leS a (s i)) (hx : leX a (x i)) (hI : I i st)
    (round : ∀ i st, I i st → ACode P T st0 N c (thenQ (fun a' st' => ∃ j, leS a' (s j) ∧ leX a' (x j) ∧ I j st' ∧ m j < m i) Q) (mk (s i) (x i)) st) : ACode P T st0 N (.loop c) Q a st := by
  refine c_loop (fun n a st => ∃ i, m i = n ∧ leS a (s i) ∧ leX a (x i) ∧ I i st) (m i) ⟨i, rfl, hs, hx, hI⟩ fun n a st h => ?_
  obtain ⟨i, rfl, hs, hx, hI⟩ := h
  refine c_mk (s i) (x i) hs hx (c_mono (fun e a' st' hq => ?_) (round i st hI))
  cases e with
  | normal => obtain ⟨j, h1, h2, h3, h4⟩ := hq; exact ⟨m j, h4, j, rfl, h1, h2, h3⟩
  | exit id => exact hq
  | ret => exact hq

/-- A row of whole numbers, as it is read. -/
def At (st : St) (r : Option Nat) (o : Nat) (xs : List Int) : Prop := ∀ j, j < xs.length → cell st r (o + j) = some (I (xs.getD j 0))
def rd (xs : List Int) (i : Int) : Int := xs.getD i.toNat 0
omit [TbOk P tb] in
theorem At.rd {r : Option Nat} {o : Nat} {xs : List Int} (h : At st r o xs) {i : Int} (h0 : 0 ≤ i) (h1 : i < xs.length) : cell st r (o + i.toNat) = some (I (Ax.rd xs i)) := h i.toNat (by omega)
omit [TbOk P tb] in
theorem At.ext {T' : Nat → Prop} {st' : St} {r : Option Nat} {o : Nat} {xs : List Int} (h : At st r o xs) (he : Ext T' st st') (hn : ∀ i, r = some i → ¬ T' i) : At st' r o xs := fun j hj => cell_ext he (h j hj) hn
omit [TbOk P tb] in
/-- A call of a function that only reckons. -/
theorem o_pure {dst : Option Nat} {x : Operand} {args : Array Operand} {types : Array Nat} {ty : Nat} {pos : String} {aft : Array Edge} {gd : Option (Nat × Bool)} {m : Md} {R : Aa → St → Prop} {f : Nat} {v : AV} (hm : m.loud) (hx : av a x = .fn f [])
    (h : ACalls P f (avs a args.toList) st No (fun v' st' => v' = v ∧ st = st')) (hR : R (a.put dst (.v v)) st) : ALeaf P T st0 N ⟨dst, .call ⟨.value x, args, types⟩, ty, pos, aft, gd⟩ m R a st :=
  o_call hx (by rw [List.append_nil]; exact h) no_T (loud_no hm st) (by rintro v' st' ⟨rfl, rfl⟩ _; exact hR)
omit [TbOk P tb] in
/-- A call of a function that makes memory and turns none. -/
theorem o_ex {dst : Option Nat} {x : Operand} {args : Array Operand} {types : Array Nat} {ty : Nat} {pos : String} {aft : Array Edge} {gd : Option (Nat × Bool)} {m : Md} {R : Aa → St → Prop} {f : Nat} {Post : AV → St → Prop} (hm : m.loud) (hx : av a x = .fn f [])
    (h : ACalls P f (avs a args.toList) st No Post) (hR : ∀ v st', Post v st' → Ex st st' → R (a.put dst (.v v)) st') : ALeaf P T st0 N ⟨dst, .call ⟨.value x, args, types⟩, ty, pos, aft, gd⟩ m R a st :=
  o_call hx (by rw [List.append_nil]; exact h) no_T (loud_no hm st) hR
/-- A row of whole numbers that is the call's own: made since the store had so many blocks; or nil. -/
def Fr (n0 : Nat) (st : St) (r : Option Nat) (l : List Int) : Prop := (r = none ∧ l = []) ∨ ∃ i, r = some i ∧ n0 ≤ i ∧ i < st.n ∧ st.ob i = .row true (l.map I)
omit [TbOk P tb] in
theorem Fr.at_ {n0 : Nat} {r : Option Nat} {l : List Int} (h : Fr n0 st r l) : At st r 0 l := by
  rcases h with ⟨rfl, rfl⟩ | ⟨i, rfl, _, hi, ho⟩
  · intro j hj; simp at hj
  · intro j hj
    rw [cell_row hi ho, Nat.zero_add, List.getElem?_map, List.getElem?_eq_getElem hj]
    simp [List.getD, hj]
omit [TbOk P tb] in
theorem Fr.ext {n0 : Nat} {T' : Nat → Prop} {st' : St} {r : Option Nat} {l : List Int} (h : Fr n0 st r l) (he : Ext T' st st') (hn : ∀ i, r = some i → ¬ T' i) : Fr n0 st' r l := by
  rcases h with h | ⟨i, rfl, h1, hi, ho⟩
  · exact .inl h
  · exact .inr ⟨i, rfl, h1, Nat.lt_of_lt_of_le hi he.n, by rw [he.ob i hi (hn i rfl)]; exact ho⟩
omit [TbOk P tb] in
theorem Fr.ex {n0 : Nat} {st' : St} {r : Option Nat} {l : List Int} (h : Fr n0 st r l) (he : Ex st st') : Fr n0 st' r l := h.ext he fun _ _ h => h
omit [TbOk P tb] in
theorem Fr.le {n0 n1 : Nat} {r : Option Nat} {l : List Int} (h : Fr n0 st r l) (hn : n1 ≤ n0) : Fr n1 st r l := by
  rcases h with h | ⟨i, h1, h2, h3⟩
  · exact .inl h
  · exact .inr ⟨i, h1, Nat.le_trans hn h2, h3⟩
omit [TbOk P tb] in
theorem At.ex {st' : St} {r : Option Nat} {o : Nat} {xs : List Int} (h : At st r o xs) (he : Ex st st') : At st' r o xs := h.ext he fun _ _ h => h
end
end Go.Proofs.YtmphklmhhcmbnaaW.Ax
