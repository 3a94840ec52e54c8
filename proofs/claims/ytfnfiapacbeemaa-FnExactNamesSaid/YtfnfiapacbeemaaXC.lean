/- One frame in the place of another in the midst of a region. -/
import Derived.Test.YtfnfiapacbeemaaXB
namespace Go.Proofs.YtfnfiapacbeemaaW.Ax
open Go Go.RowKit
set_option linter.unusedVariables false
section
variable {P : Program} {T : Nat → Prop} {st0 : St} {N : Nat} {a : Aa} {st : St}
theorem mk_le (s : List (Nat × AV)) (x : List (Nat × Nat × List AV)) (hs : leS a s) (hx : leX a x) : (∀ i, (mk s x).s i = a.s i ∨ (mk s x).s i = .junk) ∧ (∀ i, (mk s x).p i = a.p i ∨ (mk s x).p i = none) ∧ ∀ k, (mk s x).x k = a.x k ∨ (mk s x).x k = none := by
  refine ⟨fun i => ?_, fun i => ?_, fun k => ?_⟩
  · show (match s.find? (fun p => Nat.beq p.1 i) with | some p => p.2 | none => .junk) = a.s i ∨ (match s.find? (fun p => Nat.beq p.1 i) with | some p => p.2 | none => AV.junk) = .junk
    induction s with
    | nil => exact .inr rfl
    | cons q s ih =>
      obtain ⟨j, v⟩ := q
      simp only [List.find?_cons]
      cases hb : Nat.beq j i with
      | true => have e := Nat.eq_of_beq_eq_true hb; subst e; exact .inl hs.1.symm
      | false => exact ih hs.2
  · show (match x.find? (fun p => Nat.beq p.1 i) with | some p => some (p.2.1, 0) | none => none) = a.p i ∨ (match x.find? (fun p => Nat.beq p.1 i) with | some p => some (p.2.1, 0) | none => none) = none
    induction x with
    | nil => exact .inr rfl
    | cons q x ih =>
      obtain ⟨j, k, l⟩ := q
      simp only [List.find?_cons]
      cases hb : Nat.beq j i with
      | true => have e := Nat.eq_of_beq_eq_true hb; subst e; exact .inl hx.1.symm
      | false => exact ih hx.2.2
  · show (match x.find? (fun p => Nat.beq p.2.1 k) with | some p => some p.2.2 | none => none) = a.x k ∨ (match x.find? (fun p => Nat.beq p.2.1 k) with | some p => some p.2.2 | none => none) = none
    induction x with
    | nil => exact .inr rfl
    | cons q x ih =>
      obtain ⟨j, k', l⟩ := q
      simp only [List.find?_cons]
      cases hb : Nat.beq k' k with
      | true => have e := Nat.eq_of_beq_eq_true hb; subst e; exact .inl hx.2.1.symm
      | false => exact ih hx.2.2
theorem s_mk {ops : Array Oper} {K : Aa → St → Prop} {ms : List Md} {o : Oper} {l : List Oper} (s : List (Nat × AV)) (x : List (Nat × Nat × List AV)) (hg : o.guard = none) (hm : ms.headD .n ≠ .q) (hs : leS a s) (hx : leX a x) (h : AOps P T st0 N ops K ms (o :: l) (mk s x) st) : AOps P T st0 N ops K ms (o :: l) a st := by
  obtain ⟨h1, h2, h3⟩ := mk_le s x hs hx
  simp only [AOps, hg] at h ⊢
  revert h
  cases hh : ms.headD .n with
  | q => exact absurd hh hm
  | f => exact fun h hd μ0 w0 β μ w ca hi Q' => h hd μ0 w0 β μ w ca (hi.weak h1 h2 h3) Q'
  | n => exact fun h hd μ0 w0 β μ w ca hi Q' => h hd μ0 w0 β μ w ca (hi.weak h1 h2 h3) Q'
end

/-! ### A region that draws its order: all orders, as a tree -/
inductive Tr where
  | leaf
  | node (l : List (Nat × Tr))
def trOk (ops : Array Oper) : Nat → Tr → Array Bool → Bool
  | _, .leaf, listed => (Region.ready .any ops listed).isEmpty
  | 0, .node _, _ => false
  | f + 1, .node l, listed => !(Region.ready .any ops listed).isEmpty && (Region.ready .any ops listed == l.map (·.1) && l.all fun p => trOk ops f p.2 (listed.setIfInBounds p.1 true))
def ATr (P : Program) (T : Nat → Prop) (st0 : St) (N : Nat) (ops : Array Oper) (F : List Nat) (Q : Aa → St → Prop) : Nat → Tr → Aa → St → Prop
  | _, .leaf, a, st => Q a st
  | 0, .node _, _, _ => False
  | f + 1, .node l, a, st => l.foldr (fun p acc => (∃ o, ops[p.1]? = some o ∧ o.guard = none ∧ ALeaf P T st0 N o (cond (F.contains p.1) .f .n) (ATr P T st0 N ops F Q f p.2) a st) ∧ acc) True
theorem foldr_and {α : Type} (p : α → Prop) : ∀ (l : List α), l.foldr (fun x acc => p x ∧ acc) True → ∀ x ∈ l, p x
  | y :: l, h, x, hx => (List.mem_cons.1 hx).elim (fun e => e ▸ h.1) (foldr_and p l h.2 x)
def drawOkT (ops : Array Oper) (qs F : List Nat) (f : Nat) (t : Tr) : Bool :=
  Region.noSelect ops && (qs.length + f == ops.size && schedQ ops (fun j => F.contains j) (fun li => trOk ops f t li) qs (Array.replicate ops.size false))
section
variable {P : Program} {T : Nat → Prop} {st0 : St} {N : Nat} {ops : Array Oper} {Q : Aa → St → Prop} {μ0 : Nat → Loc} {w0 : World} {Q' : Exit → Act → World → Prop} {F : List Nat}
theorem wpX_of_tr (hQ : ∀ ca w, Good T μ0 st0 w0 N Q ca w → Q' .normal ca w) (hd : ∀ (i : Nat) o, ops[i]? = some o → ∀ x, o.dst = some x → x < N) :
    ∀ (f : Nat) (t : Tr) (listed : Array Bool), trOk ops f t listed = true → ∀ ca w, Good T μ0 st0 w0 N (ATr P T st0 N ops F Q f t) ca w → wpX P ops Q' (PwS (fun j => F.contains j) none (fun _ => False)) f listed ca w
  | f, .leaf, listed, hB, ca, w, h => by
    have hr : Region.ready .any ops listed = [] := by cases f <;> simpa [trOk] using hB
    have h' : Good T μ0 st0 w0 N Q ca w := h.mono fun a st h => by cases f <;> exact h
    cases f with
    | zero => exact ⟨hr, hQ ca w h'⟩
    | succ f => exact ⟨fun _ => hQ ca w h', fun i hi => by rw [hr] at hi; cases hi⟩
  | 0, .node l, listed, hB, ca, w, h => by cases hB
  | f + 1, .node l, listed, hB, ca, w, h => by
    simp only [trOk, Bool.and_eq_true, Bool.not_eq_true', List.isEmpty_eq_false_iff, beq_iff_eq, List.all_eq_true] at hB
    obtain ⟨hne, hl, hall⟩ := hB
    refine ⟨fun e => absurd e hne, fun i hi => ?_⟩
    rw [hl, List.mem_map] at hi
    obtain ⟨p, hp, rfl⟩ := hi
    obtain ⟨β, a, μ, st, hinv, hr⟩ := h
    obtain ⟨o, ho, hg, hlf⟩ := foldr_and _ l hr p hp
    unfold wpOp
    simp only [ho]
    rw [if_pos (by simp [Region.wanted, hg])]
    cases hF : F.contains p.1 with
    | true =>
      rw [hF] at hlf
      refine .inl (Oper.wp_mono (fun ca' w' hk => ?_) (hlf (hd _ o ho) μ0 w0 β μ w ca hinv Q'))
      exact ⟨⟨fun _ => hk.1 rfl, fun e => by cases e⟩, wpX_of_tr hQ hd f p.2 _ (hall p hp) ca' w' hk.2⟩
    | false =>
      rw [hF] at hlf
      refine .inl (Oper.wp_mono (fun ca' w' hk => ?_) (hlf (hd _ o ho) μ0 w0 β μ w ca hinv Q'))
      exact ⟨⟨fun hf => (by have hf : F.contains p.1 = true := hf; rw [hF] at hf; cases hf), fun e => (by cases e)⟩, wpX_of_tr hQ hd f p.2 _ (hall p hp) ca' w' hk.2⟩
end
section
variable {P : Program} {T : Nat → Prop} {st0 : St} {N : Nat} {a : Aa} {st : St} {Q : AX → Aa → St → Prop} {id : Nat} {l : List Oper} {y : Code}
/-- Reads first ('qs'), then all orders of the rest ('F': what leaves all as it was). -/
theorem c_tr1 {tb : Tb} [TbOk P tb] (qs F : List Nat) (f : Nat) (t : Tr) (hd : dstsOk N l = true) (hB : drawOkT l.toArray qs F f t = true)
    (h : AOps P T st0 N l.toArray (ATr P T st0 N l.toArray F (Q .normal) f t) (allQ qs.length) (qs.filterMap (l.toArray[·]?)) a st) : ACode P T st0 N (.region id l.toArray true) Q a st := by
  intro μ0 w0 β μ w ca hi
  simp only [drawOkT, Bool.and_eq_true, beq_iff_eq] at hB
  obtain ⟨hs, hlen, hB⟩ := hB
  have hdd : ∀ (i : Nat) o, l.toArray[i]? = some o → ∀ x, o.dst = some x → x < N := fun i o ho x hx => dstsOk_spec hd o (by simpa using List.mem_of_getElem? (by simpa using ho)) x hx
  refine wp_mono (wp_region_any (Q := fun e ca w => e = .normal ∧ Good T μ0 st0 w0 N (Q .normal) ca w) (TbOk.mixed (tb := tb)) (wpAny_of_wpX (Pw := PwS (fun j => F.contains j) none (fun _ => False)) _ _ _ _ ?_)) fun e ca' w' hq => by obtain ⟨rfl, hq⟩ := hq; exact hq
  rw [← hlen] at hB ⊢
  exact wpX_of_Q (Q' := fun e ca w => e = .normal ∧ Good T μ0 st0 w0 N (Q .normal) ca w) (fun e ca w hne hq => hne hq.1) hs hdd (fun li => trOk l.toArray f t li) _ f (fun listed hk ca w hg => wpX_of_tr (fun ca w h => ⟨rfl, h⟩) hdd f t listed hk ca w hg) qs _ hB ca _ ⟨β, a, μ, st, hi.pre (Pre.drew w), h⟩
end
end Go.Proofs.YtfnfiapacbeemaaW.Ax
