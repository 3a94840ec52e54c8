/- The abstract store's walk: what an operation, a region, a piece of code, a call does, told of abstract frames and stores. -/
import Derived.Test.YtmphklmhhcmbnaaXa
import Derived.Deep.LoopGhost
import Derived.Deep.Quiet
namespace Go.Proofs.YtmphklmhhcmbnaaW.Ax
open Go Go.RowKit
set_option linter.unusedVariables false

def Good (T : Nat → Prop) (μ0 : Nat → Loc) (st0 : St) (w0 : World) (N : Nat) (R : Aa → St → Prop) (ca : Act) (w : World) : Prop :=
  ∃ β a μ st, Inv T μ0 st0 w0 N β a μ st w ca ∧ R a st

theorem Good.mono {T : Nat → Prop} {μ0 : Nat → Loc} {st0 : St} {w0 : World} {N : Nat} {R R' : Aa → St → Prop} {ca : Act} {w : World} (h : ∀ a st, R a st → R' a st) (hg : Good T μ0 st0 w0 N R ca w) : Good T μ0 st0 w0 N R' ca w :=
  let ⟨β, a, μ, st, hi, hr⟩ := hg
  ⟨β, a, μ, st, hi, h a st hr⟩

/-- One operation: 'f': nothing of what was there may turn. -/
def AOp (P : Program) (T : Nat → Prop) (st0 : St) (N : Nat) (o : Oper) (f : Bool) (R : Aa → St → Prop) (a : Aa) (st : St) : Prop :=
  (∀ x, o.dst = some x → x < N) → ∀ μ0 w0 β μ w ca, Inv T μ0 st0 w0 N β a μ st w ca → ∀ Q' : Exit → Act → World → Prop,
    o.wp P ca w (fun ca' w' => (f = true → Pre w w') ∧ Good T μ0 st0 w0 N R ca' w') Q'

/-- An operation that only reads: one value, in every world in which what was there still is. -/
def AQ (P : Program) (T : Nat → Prop) (st0 : St) (N : Nat) (o : Oper) (r : RV) (a : Aa) (st : St) : Prop :=
  ∀ μ0 w0 β μ w ca, Inv T μ0 st0 w0 N β a μ st w ca → ∃ cv, RR st.n μ β r cv ∧ ∀ w', Pre w w' → (execOp ca.eval o).run P w' = .ok (.value cv) w'

/-- How an operation of a region is met: 'q': it only reads · 'f': nothing of what was there may turn · 'n': freely. -/
inductive Md where
  | q | f | n
  deriving DecidableEq

def ALeaf (P : Program) (T : Nat → Prop) (st0 : St) (N : Nat) (o : Oper) (m : Md) (R : Aa → St → Prop) (a : Aa) (st : St) : Prop :=
  match m with
  | .q => ∃ r, AQ P T st0 N o r a st ∧ R (a.put o.dst r) st
  | .f => AOp P T st0 N o true R a st
  | .n => AOp P T st0 N o false R a st

def AOps (P : Program) (T : Nat → Prop) (st0 : St) (N : Nat) (ops : Array Oper) (Q : Aa → St → Prop) : List Md → List Oper → Aa → St → Prop
  | _, [], a, st => Q a st
  | ms, o :: rest, a, st =>
    match o.guard with
    | none => ALeaf P T st0 N o (ms.headD .n) (AOps P T st0 N ops Q ms.tail rest) a st
    | some (j, want) => ∃ t, (ops[j]?).bind (·.dst) = some t ∧
        ((a.s t = .bool want ∧ ALeaf P T st0 N o (ms.headD .n) (AOps P T st0 N ops Q ms.tail rest) a st) ∨ ((a.s t = .bool (!want) ∨ a.s t = .und) ∧ AOps P T st0 N ops Q ms.tail rest (a.put o.dst (.v .und)) st))

theorem AOp_of_AQ {P : Program} {T : Nat → Prop} {st0 : St} {N : Nat} {o : Oper} {f : Bool} {R : Aa → St → Prop} {a : Aa} {st : St} {r : RV} (h : AQ P T st0 N o r a st) (hr : R (a.put o.dst r) st) : AOp P T st0 N o f R a st := by
  intro hd μ0 w0 β μ w ca hi Q'
  obtain ⟨cv, h1, h2⟩ := h μ0 w0 β μ w ca hi
  unfold Oper.wp
  rw [h2 w (Pre.refl w)]
  exact ⟨fun _ => Pre.refl w, β, _, μ, st, hi.put hd h1, hr⟩
theorem AOp_of_leaf {P : Program} {T : Nat → Prop} {st0 : St} {N : Nat} {o : Oper} {m : Md} {R : Aa → St → Prop} {a : Aa} {st : St} (h : ALeaf P T st0 N o m R a st) : AOp P T st0 N o (m == .f) R a st := by
  cases m with
  | q => obtain ⟨r, h1, h2⟩ := h; exact AOp_of_AQ h1 h2
  | f => exact h
  | n => exact h

def dstsOk (N : Nat) (l : List Oper) : Bool := l.all fun o => match o.dst with | some d => Nat.blt d N | none => true
theorem dstsOk_spec {N : Nat} {l : List Oper} (h : dstsOk N l = true) : ∀ o ∈ l, ∀ x, o.dst = some x → x < N := by
  intro o ho x hx
  have h1 := List.all_eq_true.1 h o ho
  rw [hx] at h1
  exact Nat.le_of_ble_eq_true h1

theorem yielded_of {T : Nat → Prop} {μ0 : Nat → Loc} {st0 : St} {w0 : World} {N : Nat} {β : Nat → Nat} {a : Aa} {μ : Nat → Loc} {st : St} {w : World} {ca : Act} (h : Inv T μ0 st0 w0 N β a μ st w ca)
    {ops : Array Oper} {j t : Nat} {b : Bool} (ht : (ops[j]?).bind (·.dst) = some t) (hs : a.s t = .bool b) : yielded ops ca.tmps j = some b := by
  have hv := h.slot t
  rw [hs] at hv
  simp only [VR] at hv
  have : ca.tmps[t]? = some (.bool b) := by
    rw [Array.getD_eq_getD_getElem?] at hv
    cases hx : ca.tmps[t]? with
    | none => rw [hx] at hv; simp [undef] at hv
    | some v => rw [hx] at hv; simpa using hv
  simp [yielded, ht, this]

theorem yielded_not {T : Nat → Prop} {μ0 : Nat → Loc} {st0 : St} {w0 : World} {N : Nat} {β : Nat → Nat} {a : Aa} {μ : Nat → Loc} {st : St} {w : World} {ca : Act} (h : Inv T μ0 st0 w0 N β a μ st w ca)
    {ops : Array Oper} {j t : Nat} {b : Bool} (ht : (ops[j]?).bind (·.dst) = some t) (hs : a.s t = .bool (!b) ∨ a.s t = .und) : yielded ops ca.tmps j ≠ some b := by
  rcases hs with hs | hs
  · rw [yielded_of h ht hs]; cases b <;> simp
  · have hv := h.slot t
    rw [hs] at hv
    simp only [VR] at hv
    rw [Array.getD_eq_getD_getElem?] at hv
    unfold yielded
    rw [ht]
    cases hx : ca.tmps[t]? with
    | none => simp [hx]
    | some v => rw [hx] at hv; simp only [Option.getD_some] at hv; subst hv; simp [hx, undef]

theorem wp_mono2 {P : Program} {o : Oper} {a : Act} {w : World} {K K' : Act → World → Prop} {Q Q' : Exit → Act → World → Prop} (h : ∀ a w, K a w → K' a w) (hq : ∀ e a w, Q e a w → Q' e a w) (hh : o.wp P a w K Q) : o.wp P a w K' Q' := by
  unfold Oper.wp at *
  generalize (execOp a.eval o).run P w = r at *
  cases r with
  | ok n w' =>
    cases n <;> simp only [Oper.upon] at hh ⊢ <;>
      first
        | exact h _ _ hh
        | exact Calls.mono hh (fun e w'' he => by cases e <;> first | exact h _ _ he | exact hq _ _ _ he | exact he.imp fun _ he => he.imp fun _ he => hq _ _ _ he)
        | exact Rows.mono hh (fun _ _ he => h _ _ he)
  | halt x w' => cases x <;> simp only [Oper.upon] at hh ⊢ <;> first | exact hq _ _ _ hh | exact hh

theorem wpList_of_AOps {P : Program} {T : Nat → Prop} {st0 : St} {N : Nat} {ops : Array Oper} {Q : Aa → St → Prop} {μ0 : Nat → Loc} {w0 : World} {Q' : Exit → Act → World → Prop}
    (hQ : ∀ ca w, Good T μ0 st0 w0 N Q ca w → Q' .normal ca w) : ∀ (l : List Oper) (ms : List Md), (∀ o ∈ l, ∀ x, o.dst = some x → x < N) →
    ∀ ca w, Good T μ0 st0 w0 N (AOps P T st0 N ops Q ms l) ca w → wpList P ops Q' l ca w
  | [], _, _, ca, w, h => hQ ca w (h.mono fun _ _ h => h)
  | o :: rest, ms, hd, ca, w, h => by
    obtain ⟨β, a, μ, st, hi, hr⟩ := h
    have ih := wpList_of_AOps (Q := Q) (P := P) (T := T) (st0 := st0) (N := N) (ops := ops) hQ rest ms.tail (fun o ho => hd o (List.mem_cons_of_mem _ ho))
    have hd0 := hd o (List.mem_cons_self ..)
    unfold wpList
    simp only [AOps] at hr
    cases hg : o.guard with
    | none =>
      rw [hg] at hr
      rw [if_pos (by simp [Region.wanted, hg])]
      exact .inl (Oper.wp_mono (fun ca' w' hk => ih ca' w' hk.2) (AOp_of_leaf hr hd0 _ _ _ _ _ _ hi Q'))
    | some jw =>
      obtain ⟨j, want⟩ := jw
      rw [hg] at hr
      obtain ⟨t, ht, ⟨hs, hr⟩ | ⟨hs, hr⟩⟩ := hr
      · have hy := yielded_of hi ht hs
        rw [if_pos (by simp [Region.wanted, hg, hy])]
        exact .inl (Oper.wp_mono (fun ca' w' hk => ih ca' w' hk.2) (AOp_of_leaf hr hd0 _ _ _ _ _ _ hi Q'))
      · have hy := yielded_not hi ht hs
        rw [if_neg (by simp [Region.wanted, hg, hy])]
        exact ih _ _ ⟨β, _, μ, st, hi.put hd0 (by simp [RR, VR]), hr⟩

/-! ### Code -/
inductive AX where
  | normal
  | exit (id : Nat)
  | ret

def CQ (T : Nat → Prop) (μ0 : Nat → Loc) (st0 : St) (w0 : World) (N : Nat) (Q : AX → Aa → St → Prop) : Exit → Act → World → Prop
  | .normal, ca, w => Good T μ0 st0 w0 N (Q .normal) ca w
  | .exit i, ca, w => Good T μ0 st0 w0 N (Q (.exit i)) ca w
  | .ret, ca, w => Good T μ0 st0 w0 N (Q .ret) ca w
  | _, _, _ => False

def ACode (P : Program) (T : Nat → Prop) (st0 : St) (N : Nat) (c : Code) (Q : AX → Aa → St → Prop) (a : Aa) (st : St) : Prop :=
  ∀ μ0 w0 β μ w ca, Inv T μ0 st0 w0 N β a μ st w ca → c.wp P (CQ T μ0 st0 w0 N Q) ca w

def thenQ (K : Aa → St → Prop) (Q : AX → Aa → St → Prop) : AX → Aa → St → Prop
  | .normal => K
  | e => Q e
def blockQ (id : Nat) (Q : AX → Aa → St → Prop) : AX → Aa → St → Prop
  | .exit i => cond (Nat.beq i id) (Q .normal) (Q (.exit i))
  | e => Q e

section
variable {P : Program} {T : Nat → Prop} {st0 : St} {N : Nat} {Q : AX → Aa → St → Prop} {a : Aa} {st : St}

theorem c_mono {c : Code} {Q' : AX → Aa → St → Prop} (hq : ∀ e a st, Q e a st → Q' e a st) (h : ACode P T st0 N c Q a st) : ACode P T st0 N c Q' a st :=
  fun μ0 w0 β μ w ca hi => wp_mono (h μ0 w0 β μ w ca hi) fun e ca w q => by
    cases e <;> simp only [CQ] at q ⊢ <;> exact q.mono fun a st q => hq _ _ _ q

theorem c_seq {x y : Code} (h : ACode P T st0 N x (thenQ (ACode P T st0 N y Q) Q) a st) : ACode P T st0 N (.seq x y) Q a st := by
  intro μ0 w0 β μ w ca hi
  refine wp_seq (wp_mono (h μ0 w0 β μ w ca hi) fun e ca' w' q => ?_)
  cases e with
  | normal =>
    obtain ⟨β', a', μ', st', hi', hr⟩ := q
    exact hr μ0 w0 β' μ' w' ca' hi'
  | exit id => exact q
  | ret => exact q
  | goto l => exact q
  | panic ch => exact q
  | outgrown => exact q

theorem c_skip (h : Q .normal a st) : ACode P T st0 N .skip Q a st := fun _ _ β μ w ca hi => wp_skip ⟨β, a, μ, st, hi, h⟩
theorem c_exit {id : Nat} (h : Q (.exit id) a st) : ACode P T st0 N (.exit id) Q a st := fun _ _ β μ w ca hi => wp_exit ⟨β, a, μ, st, hi, h⟩
theorem c_ret (h : Q .ret a st) : ACode P T st0 N .ret Q a st := fun _ _ β μ w ca hi => wp_ret ⟨β, a, μ, st, hi, h⟩
theorem c_label {l : Nat} (h : Q .normal a st) : ACode P T st0 N (.label l) Q a st := fun _ _ β μ w ca hi => wp_label ⟨β, a, μ, st, hi, h⟩

theorem c_block {id : Nat} {c : Code} (h : ACode P T st0 N c (blockQ id Q) a st) : ACode P T st0 N (.block id c) Q a st := by
  intro μ0 w0 β μ w ca hi
  refine wp_block (wp_mono (h μ0 w0 β μ w ca hi) fun e ca' w' q => ?_)
  cases e with
  | exit i =>
    simp only [CQ, blockQ, Exit.inBlock] at q ⊢
    by_cases hc : i = id
    · subst hc
      rw [if_pos rfl]
      simpa using q
    · rw [if_neg hc]
      have hb : Nat.beq i id = false := by
        cases hb : Nat.beq i id with
        | false => rfl
        | true => exact absurd (Nat.eq_of_beq_eq_true hb) hc
      rw [hb] at q
      exact q
  | normal => exact q
  | ret => exact q
  | goto l => exact q
  | panic ch => exact q
  | outgrown => exact q

theorem eval_tmp {μ0 : Nat → Loc} {w0 : World} {β : Nat → Nat} {μ : Nat → Loc} {w : World} {ca : Act} (hi : Inv T μ0 st0 w0 N β a μ st w ca) {t : Nat} {b : Bool} (h : a.s t = .bool b) : ca.eval (.tmp t) = .bool b := by
  have := hi.slot t
  rw [h] at this
  simp only [VR] at this
  exact this

theorem c_if {t : Nat} {b : Bool} {x y : Code} (ht : a.s t = .bool b) (h1 : b = true → ACode P T st0 N x Q a st) (h2 : b = false → ACode P T st0 N y Q a st) : ACode P T st0 N (.cond (.tmp t) x y) Q a st := by
  intro μ0 w0 β μ w ca hi
  refine wp_cond_split (t := b) (eval_tmp hi ht) (fun hb => h1 hb _ _ _ _ _ _ hi) (fun hb => h2 hb _ _ _ _ _ _ hi)
theorem c_if_t {t : Nat} {x y : Code} (ht : a.s t = .bool true) (h : ACode P T st0 N x Q a st) : ACode P T st0 N (.cond (.tmp t) x y) Q a st := c_if ht (fun _ => h) (fun h => by cases h)
theorem c_if_f {t : Nat} {x y : Code} (ht : a.s t = .bool false) (h : ACode P T st0 N y Q a st) : ACode P T st0 N (.cond (.tmp t) x y) Q a st := c_if ht (fun h => by cases h) (fun _ => h)

theorem c_weak {c : Code} {a' : Aa} (hs : ∀ i, a'.s i = a.s i ∨ a'.s i = .junk) (hp : ∀ i, a'.p i = a.p i ∨ a'.p i = none) (hx : ∀ k, a'.x k = a.x k ∨ a'.x k = none) (h : ACode P T st0 N c Q a' st) : ACode P T st0 N c Q a st :=
  fun μ0 w0 β μ w ca hi => h μ0 w0 β μ w ca (hi.weak hs hp hx)

/-- A loop: the relation bears a number, which every round lowers. -/
theorem c_loop {c : Code} (I : Nat → Aa → St → Prop) (n : Nat) (h0 : I n a st) (round : ∀ n a st, I n a st → ACode P T st0 N c (thenQ (fun a' st' => ∃ n', n' < n ∧ I n' a' st') Q) a st) :
    ACode P T st0 N (.loop c) Q a st := by
  intro μ0 w0 β μ w ca hi
  refine wp_loop_ghost (fun n ca w => Good T μ0 st0 w0 N (I n) ca w) n ⟨β, a, μ, st, hi, h0⟩ fun n ca w hg => ?_
  obtain ⟨β, a, μ, st, hi, hr⟩ := hg
  refine wp_mono (round n a st hr μ0 w0 β μ w ca hi) fun e ca' w' q => ?_
  cases e with
  | normal =>
    obtain ⟨β', a', μ', st', hi', n', hn, hr'⟩ := q
    exact ⟨n', hn, β', a', μ', st', hi', hr'⟩
  | exit id => exact q
  | ret => exact q
  | goto l => exact q
  | panic ch => exact q
  | outgrown => exact q

theorem c_region {id : Nat} {l : List Oper} (hd : dstsOk N l = true) (h : AOps P T st0 N l.toArray (Q .normal) [] l a st) : ACode P T st0 N (.region id l.toArray false) Q a st := by
  intro μ0 w0 β μ w ca hi
  exact wp_region_lit (wpList_of_AOps (fun _ _ h => h) l [] (dstsOk_spec hd) ca w ⟨β, a, μ, st, hi, h⟩)
end

/-! ### Calls -/
def goes (P : Program) (f : Nat) : Bool :=
  match P.funcs[f]? with
  | some fn => fn.body.isSome && !(fn.name == "runtime.NumGoroutine")
  | none => false

def ACalls (P : Program) (f : Nat) (args : List AV) (st : St) (T : Nat → Prop) (Post : AV → St → Prop) : Prop :=
  goes P f = true ∧ ∀ μ w (cargs : List Value), Rel μ st w → VRL st.n μ args cargs →
    Calls P f cargs.toArray w fun e w' => ∃ v cv μ' st', e = .returned cv ∧ VR st'.n μ' v cv ∧ Rel μ' st' w' ∧ Stp T μ st w μ' st' w' ∧ Post v st'

theorem ACalls.mono {P : Program} {f : Nat} {args : List AV} {st : St} {T : Nat → Prop} {Post Post' : AV → St → Prop} (h : ACalls P f args st T Post) (hp : ∀ v st', Post v st' → Post' v st') : ACalls P f args st T Post' :=
  ⟨h.1, fun μ w cargs hr hv => (h.2 μ w cargs hr hv).mono fun _ _ ⟨v, cv, μ', st', h1, h2, h3, h4, h5⟩ => ⟨v, cv, μ', st', h1, h2, h3, h4, hp v st' h5⟩⟩

def start (args : List AV) : Aa := ⟨fun i => args.getD i .junk, fun _ => none, fun _ => none⟩

end Go.Proofs.YtmphklmhhcmbnaaW.Ax
