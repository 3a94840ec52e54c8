/- Regions that draw their order: plain moves that nothing binds come first. A tail of a row of one's own. -/
import Derived.Test.YtmphklmhhcmbnaaXmq
namespace Go.Proofs.YtmphklmhhcmbnaaW.Ax
open Go Go.RowKit
set_option linter.unusedVariables false

def isMove (o : Oper) : Bool := (match o.op with | .move _ => true | .assign _ => true | _ => false) && o.guard.isNone
def schedV (ops : Array Oper) (k : Array Bool → Bool) : List Nat → Array Bool → Bool
  | [], listed => k listed
  | i :: is, listed => (match ops[i]? with | some o => isMove o | none => false) && (qOk ops (fun _ => true) listed i && schedV ops k is (listed.setIfInBounds i true))
def drawOkV (ops : Array Oper) (pre sch : List Nat) (ms : List Md) : Bool :=
  Region.noSelect ops && (pre.length + sch.length == ops.size && schedV ops (schedB ops (flagOf sch ms) none sch ms) pre (Array.replicate ops.size false))

section
variable {P : Program} {T : Nat → Prop} {st0 : St} {N : Nat} {ops : Array Oper} {Q : Aa → St → Prop} {μ0 : Nat → Loc} {w0 : World} {Q' : Exit → Act → World → Prop} {fl : Nat → Bool}
theorem wpX_of_V (hQ : ∀ ca w, Good T μ0 st0 w0 N Q ca w → Q' .normal ca w) (hQn : ∀ e ca w, e ≠ .normal → ¬ Q' e ca w) (hs : Region.noSelect ops = true) (hd : ∀ (i : Nat) o, ops[i]? = some o → ∀ x, o.dst = some x → x < N) (sch : List Nat) (ms : List Md) :
    ∀ (pre : List Nat) (listed : Array Bool), schedV ops (schedB ops fl none sch ms) pre listed = true → ∀ ca w, Good T μ0 st0 w0 N (AOps P T st0 N ops Q (allQ pre.length ++ ms) ((pre ++ sch).filterMap (ops[·]?))) ca w →
      wpX P ops Q' (PwS fl none (fun _ => False)) (pre.length + sch.length) listed ca w
  | [], listed, hB, ca, w, h => by
    rw [List.length_nil, Nat.zero_add]
    exact wpX_of_AOps hQ hQn hs hd sch ms listed hB ca w h
  | i :: pre, listed, hB, ca, w, h => by
    simp only [schedV, Bool.and_eq_true] at hB
    obtain ⟨hmv, hq, hB⟩ := hB
    obtain ⟨β, a, μ, st, hi, hr⟩ := h
    have hin : i ∈ Region.ready .any ops listed := by
      have h' := hq
      simp only [qOk, Bool.and_eq_true] at h'
      simpa using h'.1.1
    obtain ⟨hjun, oi, hoi, hall⟩ := mem_ready.1 hin
    rw [hoi] at hmv
    simp only [isMove, Bool.and_eq_true, Option.isNone_iff_eq_none] at hmv
    obtain ⟨hmv, hg⟩ := hmv
    simp only [List.cons_append, List.filterMap_cons, hoi, AOps, allQ, List.length_cons, List.replicate_succ, List.cons_append, List.headD_cons, List.tail_cons, hg] at hr
    obtain ⟨r, haq, hr⟩ := hr
    obtain ⟨cv, h1, h2⟩ := haq μ0 w0 β μ w ca hi
    have hall : ∀ w', (execOp ca.eval oi).run P w' = .ok (.value cv) w' := fun w' => by
      have h3 := h2 w (Pre.refl w)
      obtain ⟨dst, op, ty, pos, aft, gd⟩ := oi
      cases op <;> try (cases hmv)
      all_goals
        simp [execOp] at h3 ⊢
        exact h3
    have hy : YX P ops (fun _ _ => True) oi cv ca w := .inl ⟨by simp [Region.wanted, hg], fun w' _ => hall w'⟩
    have ih := wpX_of_V hQ hQn hs hd sch ms pre _ hB (ca.put oi.dst cv) w ⟨β, _, μ, st, hi.put (hd i oi hoi) h1, hr⟩
    rw [List.length_cons, show pre.length + 1 + sch.length = (pre.length + sch.length) + 1 by omega]
    exact first_of (R := fun _ _ => True) (fun _ => trivial) (fun _ _ _ _ _ => trivial) hQn hs hq hoi (fun w => PwS.refl ..) (fun j hj w w' hp => trivial) hy ih
end
section
variable {P : Program} {T : Nat → Prop} {st0 : St} {N : Nat} {a : Aa} {st : St} {Q : AX → Aa → St → Prop} {id : Nat} {l : List Oper} {y : Code}
theorem c_draw3 (hm : P.follows .mixedOrders = true) (pre sch : List Nat) (ms : List Md) (hd : dstsOk N l = true) (hB : drawOkV l.toArray pre sch ms = true)
    (h : AOps P T st0 N l.toArray (Q .normal) (allQ pre.length ++ ms) ((pre ++ sch).filterMap (l.toArray[·]?)) a st) : ACode P T st0 N (.region id l.toArray true) Q a st := by
  intro μ0 w0 β μ w ca hi
  simp only [drawOkV, Bool.and_eq_true, beq_iff_eq] at hB
  obtain ⟨hs, hlen, hB⟩ := hB
  refine wp_mono (wp_region_any (Q := fun e ca w => e = .normal ∧ Good T μ0 st0 w0 N (Q .normal) ca w) hm (wpAny_of_wpX (Pw := PwS (flagOf sch ms) none (fun _ => False)) _ _ _ _ ?_)) fun e ca' w' hq => by obtain ⟨rfl, hq⟩ := hq; exact hq
  rw [← hlen] at hB ⊢
  exact wpX_of_V (fun ca w h => ⟨rfl, h⟩) (fun e ca w hne hq => hne hq.1) hs (fun i o ho x hx => dstsOk_spec hd o (by simpa using List.mem_of_getElem? (by simpa using ho)) x hx) sch ms pre _ hB ca _ ⟨β, a, μ, st, hi.pre (Pre.drew w), h⟩
/-- A drawn region; the moves 'pre' first. -/
theorem c_dv {tb' : Tb} [TbOk P tb'] (pre sch : List Nat) (ms : List Md) (hd : dstsOk N l = true) (hB : drawOkV l.toArray pre sch ms = true) (h : AOps P T st0 N l.toArray (ACode P T st0 N y Q) (allQ pre.length ++ ms) ((pre ++ sch).filterMap (l.toArray[·]?)) a st) : ACode P T st0 N (.seq (.region id l.toArray true) y) Q a st :=
  c_seq (c_draw3 (TbOk.mixed (tb := tb')) pre sch ms hd hB h)
theorem c_dv1 {tb' : Tb} [TbOk P tb'] (pre sch : List Nat) (ms : List Md) (hd : dstsOk N l = true) (hB : drawOkV l.toArray pre sch ms = true) (h : AOps P T st0 N l.toArray (Q .normal) (allQ pre.length ++ ms) ((pre ++ sch).filterMap (l.toArray[·]?)) a st) : ACode P T st0 N (.region id l.toArray true) Q a st :=
  c_draw3 (TbOk.mixed (tb := tb')) pre sch ms hd hB h
end
section
variable {P : Program} {tb : Tb} [TbOk P tb] {T : Nat → Prop} {st0 : St} {N : Nat} {a : Aa} {st : St} {R : Aa → St → Prop} {m : Md}
variable {dst : Option Nat} {ty : Nat} {pos : String} {aft : Array Edge} {gd : Option (Nat × Bool)}
/-- A variable whose place is handed on: a block of the store. -/
theorem o_allocP {t : Nat} {i : TyI} (hm : m.loud) (ht : look tb t = some i) (hR : ∀ q st', q = st.n → st'.n = st.n + 1 → st'.ob q = .row true (i.zero.map Z.av) → Ex st st' → R (a.put dst (.v (.ptr (some q) 0))) st') : ALeaf P T st0 N ⟨dst, .alloc t, ty, pos, aft, gd⟩ m R a st :=
  o_allocS hm ht (hR st.n _ rfl rfl (push_ob _ _) (ex_push _ _))
theorem o_boxP {t : Nat} {x : Operand} {l : List AV} (hm : m.loud) (hl : cellsB (av a x) = some l) (hR : ∀ q st', q = st.n → st'.n = st.n + 1 → st'.ob q = .row true l → Ex st st' → R (a.put dst (.v (.ptr (some q) 0))) st') : ALeaf P T st0 N ⟨dst, .box t x, ty, pos, aft, gd⟩ m R a st :=
  o_boxS hm hl (hR st.n _ rfl rfl (push_ob _ _) (ex_push _ _))
/-- A store into a block of the store: what is known of it then. -/
theorem o_stP {t : Nat} {x v : Operand} {r j : Nat} {l vs : List AV} {i : TyI} (ht : look tb t = some i) (hx : av a x = .ptr (some r) j) (hr : r < st.n) (hmay : May T st0 r) (ho : st.ob r = .row true l) (hv : cellsB (av a v) = some vs) (hone : vs.all oneA = true) (hlen : vs.length = i.zero.length) (hj : j + vs.length ≤ l.length)
    (hR : ∀ st', st'.n = st.n → st'.ob r = .row true (l.take j ++ vs ++ l.drop (j + vs.length)) → Ext (· = r) st st' → R (a.put dst (.v .junk)) st') : ALeaf P T st0 N ⟨dst, .store t x v, ty, pos, aft, gd⟩ .n R a st :=
  o_st ht hx hr hmay ho hv hone hlen hj (hR _ rfl (set_ob _ _ _) (ext_set _ _ _))
end
end Go.Proofs.YtmphklmhhcmbnaaW.Ax
