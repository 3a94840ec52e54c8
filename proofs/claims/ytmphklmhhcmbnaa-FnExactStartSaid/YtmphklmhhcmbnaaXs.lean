/- A region that draws its order, in which a store into a row may come ahead of reads of the frame's own boxes. -/
import Derived.Test.YtmphklmhhcmbnaaXr
namespace Go.Proofs.YtmphklmhhcmbnaaW.Ax
open Go Go.RowKit
set_option linter.unusedVariables false

/-- It yields the same in every world in which these boxes of the frame still are. -/
def AQX (P : Program) (T : Nat → Prop) (st0 : St) (N : Nat) (K : List Nat) (o : Oper) (r : RV) (a : Aa) (st : St) : Prop :=
  ∀ μ0 w0 β μ w ca, Inv T μ0 st0 w0 N β a μ st w ca → ∃ cv, RR st.n μ β r cv ∧ ∀ w', (∀ k ∈ K, a.x k ≠ none → w'.heap[β k]? = w.heap[β k]?) → (execOp ca.eval o).run P w' = .ok (.value cv) w'
/-- A list of operations that only read boxes. -/
def APre (P : Program) (T : Nat → Prop) (st0 : St) (N : Nat) (K : List Nat) (Q : Aa → St → Prop) : List Oper → Aa → St → Prop
  | [], a, st => Q a st
  | o :: rest, a, st => o.guard = none ∧ ∃ r, AQX P T st0 N K o r a st ∧ APre P T st0 N K Q rest (a.put o.dst r) st
/-- A store into a row of one's own, told so far that its effect is known. -/
def StoC (tb : Tb) (o : Oper) (a : Aa) (st : St) : Prop := ∃ dst t x v ty pos aft r j l vs i, o = ⟨dst, .store t x v, ty, pos, aft, none⟩ ∧ look tb t = some i ∧ av a x = .ptr (some r) j ∧ r < st.n ∧ st.ob r = .row true l ∧ cellsB (av a v) = some vs ∧ vs.all oneA = true ∧ vs.length = i.zero.length ∧ j + vs.length ≤ l.length

section
variable {P : Program} {tb : Tb} [TbOk P tb] {T : Nat → Prop} {st0 : St} {N : Nat} {a : Aa} {st : St} {K : List Nat}
variable {dst : Option Nat} {ty : Nat} {pos : String} {aft : Array Edge} {gd : Option (Nat × Bool)}
omit [TbOk P tb] in
theorem x_move {x : Operand} {r : RV} (h : mvA a x = some r) : AQX P T st0 N K ⟨dst, .move x, ty, pos, aft, gd⟩ r a st := by
  intro μ0 w0 β μ w ca hi
  rw [mvA_eq h]
  exact ⟨ca.eval x, rv_rr hi x, fun w' _ => by simp [execOp]⟩
theorem x_load {t : Nat} {x : Operand} {r : RV} (h : run1 tb a (.load t x) = some r) (hk : (match rv a x with | .lp k _ => K.contains k | _ => false) = true) : AQX P T st0 N K ⟨dst, .load t x, ty, pos, aft, gd⟩ r a st := by
  intro μ0 w0 β μ w ca hi
  have hx := rv_rr hi x
  simp only [run1] at h
  split at h
  · rename_i k o hkk
    rw [hkk] at hx hk
    simp only [RR] at hx
    have hk : k ∈ K := by simpa using hk
    split at h
    · rename_i l hl
      split at h
      · rename_i i ht
        obtain ⟨cs, E, hg, hv⟩ := hi.box k l hl
        have hvd := hv.drop o
        have key : ∀ cv, (if i.agg = true then i.zero.length ≤ (cs.toList.drop o).length ∧ cv = .agg ((cs.toList.drop o).take i.zero.length).toArray else (cs.toList.drop o).head? = some cv) → RR st.n μ β r cv →
            ∃ cv, RR st.n μ β r cv ∧ ∀ w', (∀ k ∈ K, a.x k ≠ none → w'.heap[β k]? = w.heap[β k]?) → (execOp ca.eval ⟨dst, .load t x, ty, pos, aft, gd⟩).run P w' = .ok (.value cv) w' := fun cv h1 h2 => by
          refine ⟨cv, h2, fun w' hp => ?_⟩
          have hg' : w'.heap[β k]? = some (.cells cs E (0, 0)) := (hp k hk (by simp [hl])).trans hg
          have := run_loadAt (P := P) ht w' (β k) o cs E (0, 0) hg' cv h1
          simp [execOp, hx, this]
        cases ha : i.agg with
        | true =>
          rw [ha] at h
          simp only [cond_true] at h
          split at h
          · rename_i s hs
            obtain ⟨h1, h2⟩ := takeA_eq _ _ _ hs
            injection h with h
            subst h
            refine key _ (by rw [ha, if_pos rfl]; exact ⟨by rw [hvd.length]; exact h2, rfl⟩) ?_
            simp only [RR, VR]
            exact ⟨_, rfl, by rw [h1]; exact hvd.take _⟩
          · cases h
        | false =>
          rw [ha] at h
          simp only [cond_false] at h
          obtain ⟨cv, cs', e1, v, e2, e3⟩ := headA_ok h hvd
          subst e2
          exact key cv (by rw [ha]; simp [e1]) e3
      · cases h
    · cases h
  · rename_i hne
    split at hk
    · rename_i k o hkk
      exact absurd hkk (hne k o)
    · cases hk
theorem x_field {t : Nat} {x : Operand} {f : Nat} {k o n : Nat} (hx : rv a x = .lp k o) (hn : structN tb t = some n) (hf : Nat.blt f n = true) : AQX P T st0 N K ⟨dst, .fieldAddr t x f, ty, pos, aft, gd⟩ (.lp k (o + f)) a st := by
  intro μ0 w0 β μ w ca hi
  have h := rv_rr hi x
  rw [hx] at h
  simp only [RR] at h
  exact ⟨_, rfl, fun w' _ => by simp [execOp, h, run_fieldAt (P := P) hn (Nat.le_of_ble_eq_true hf)]⟩
theorem x_add {t yt : Nat} {x y : Operand} {m' n' : Int} (hx : av a x = .int .i64 m') (hy : av a y = .int .i64 n') (h0 : -9223372036854775808 ≤ m' + n') (h1 : m' + n' ≤ 9223372036854775807) : AQX P T st0 N K ⟨dst, .binOp .add t x y yt, ty, pos, aft, gd⟩ (.v (.int .i64 (m' + n'))) a st := by
  intro μ0 w0 β μ w ca hi
  have hw : IntKind.i64.wrap (m' + n') = m' + n' := by rw [IntKind.wrap_i64]; omega
  have hxv := av_vr hi x
  have hyv := av_vr hi y
  rw [hx] at hxv
  rw [hy] at hyv
  simp only [VR] at hxv hyv
  obtain ⟨c, h1, h2⟩ := binA_ok (n := st.n) (μ := μ) (op := .add) (x := .int .i64 m') (y := .int .i64 n') (r := .int .i64 (m' + n')) (by simp [binA, kidx, hw]) (cx := .int .i64 m') (cy := .int .i64 n') rfl rfl
  refine ⟨c, h1, fun w' _ => ?_⟩
  have hg : (eqGuard .add t x y (.int .i64 m') (.int .i64 n')).run P w' = .ok () w' := eqGuard_int _ t x y _ _ _ w'
  simp only [execOp, hxv, hyv, Sem.run_bind, hg, Result.andThen_ok, h2, Sem.run_pure]
theorem x_idx {t : Nat} {x ix : Operand} {r : Option Nat} {o n : Nat} {k : IntKind} {q : Int} {e : Nat × Z × Nat} (ht : elem1 tb t = some e) (hx : av a x = .sl r o n) (hi : av a ix = .int k q) (h0 : 0 ≤ q) (h1 : q < n) : AQX P T st0 N K ⟨dst, .indexAddr t x ix, ty, pos, aft, gd⟩ (.v (.ptr r (o + q.toNat))) a st := by
  intro μ0 w0 β μ w ca hinv
  obtain ⟨e, z, b⟩ := e
  obtain ⟨hu, h1'⟩ := elem1_ok (P := P) ht
  obtain ⟨inf, v, e1, e2, _⟩ := one1_info (P := P) h1'
  have hxv := av_vr hinv x
  have hiv := av_vr hinv ix
  rw [hx] at hxv
  rw [hi] at hiv
  simp only [VR] at hiv
  cases r with
  | none =>
    simp only [VR] at hxv
    omega
  | some r =>
    simp only [VR] at hxv
    obtain ⟨hr, A, c, hxe, hc, hA⟩ := hxv
    rcases hA with hA | ⟨hA, _⟩
    · omega
    · refine ⟨.pointer (some ⟨(μ r).b, (μ r).s + (o + q.toNat), none⟩), ⟨hr, rfl⟩, fun w' _ => ?_⟩
      have hlt : q < (n : Int) := h1
      simp [execOp, hxe, hiv, Instr.indexAt, asIntOf, underlying, hu, h0, hlt, sizeOf, typeInfo, e1, e2, hA, Addr.add_lit, Nat.add_assoc]
/-- What a store does to the world. -/
theorem sto_run {μ0 : Nat → Loc} {w0 : World} {β : Nat → Nat} {μ : Nat → Loc} {w : World} {ca : Act} (hinv : Inv T μ0 st0 w0 N β a μ st w ca) {t : Nat} {x v : Operand} {r j : Nat} {l vs : List AV} {i : TyI} (ht : look tb t = some i) (hx : av a x = .ptr (some r) j) (hr : r < st.n) (ho : st.ob r = .row true l) (hv : cellsB (av a v) = some vs) (hone : vs.all oneA = true) (hlen : vs.length = i.zero.length) (hj : j + vs.length ≤ l.length) :
    ∃ cells, (execOp ca.eval ⟨dst, .store t x v, ty, pos, aft, gd⟩).run P w = .ok .skip (w.setRow (μ r).b cells) := by
  have h := hinv.rel.obj r hr
  rw [ho] at h
  obtain ⟨cs, E, fz, h1, h2, h3, h4, h5⟩ := h
  have hfz := h2 rfl
  subst hfz
  have hxv := av_vr hinv x
  rw [hx] at hxv
  simp only [VR] at hxv
  have hvv := (av_vr hinv v).cellsB hv
  have hvl := hvv.length
  have hones := VRL.ones hvv hone
  have hsz : (sizeOf t).run P w = .ok i.zero.length w := (tyR (P := P) ht).size w
  have hst := run_storeCells_at P (μ r).b ((μ r).s + j) E (ca.eval v).cells.toList 0 cs w h1 (by rw [hvl]; omega) hones
  have hne : (ca.eval v).cells.size = i.zero.length := by have := hvl; simp at this; omega
  refine ⟨(cs.toList.take ((μ r).s + j + 0) ++ (ca.eval v).cells.toList ++ cs.toList.drop ((μ r).s + j + 0 + (ca.eval v).cells.toList.length)).toArray, ?_⟩
  simp only [execOp, Instr.storeAt, hxv.2, Instr.sureAddr, pure_bind, storeVar, Sem.run_bind, hsz, Result.andThen_ok, hne, ne_eq, not_true_eq_false, if_false, hst, Sem.run_pure]
end

/-- What is asked: reads of boxes ahead ('pre'), a store ('s'), what is left ('post'). -/
def schedA (ops : Array Oper) (fl : Nat → Bool) (s : Nat) (post : List Nat) (ms : List Md) : List Nat → Array Bool → Bool
  | [], listed => !fl s && Region.ready .any ops listed == [s] && schedB ops fl (some s) post ms (listed.setIfInBounds s true)
  | i :: pre, listed => qOk ops (fun j => fl j || j == s) listed i && schedA ops fl s post ms pre (listed.setIfInBounds i true)
def flag3 (pre post : List Nat) (ms : List Md) (j : Nat) : Bool := pre.contains j || flagOf post ms j
def drawOk3 (ops : Array Oper) (pre : List Nat) (s : Nat) (post : List Nat) (ms : List Md) : Bool :=
  Region.noSelect ops && (pre.length + (1 + post.length) == ops.size && schedA ops (flag3 pre post ms) s post ms pre (Array.replicate ops.size false))

section
variable {P : Program} {tb : Tb} [TbOk P tb] {T : Nat → Prop} {st0 : St} {N : Nat} {ops : Array Oper} {Q : Aa → St → Prop} {μ0 : Nat → Loc} {w0 : World} {Q' : Exit → Act → World → Prop} {fl : Nat → Bool} {s : Nat} {K : List Nat}
theorem put_x (a : Aa) (d : Option Nat) (r : RV) : (a.put d r).x = a.x := by
  cases d with
  | none => rfl
  | some d => cases r <;> rfl
theorem wpX_of_APre (hQ : ∀ ca w, Good T μ0 st0 w0 N Q ca w → Q' .normal ca w) (hQn : ∀ e ca w, e ≠ .normal → ¬ Q' e ca w) (hs : Region.noSelect ops = true) (hd : ∀ (i : Nat) o, ops[i]? = some o → ∀ x, o.dst = some x → x < N) (post : List Nat) (ms : List Md) (β : Nat → Nat) (xs : Nat → Option (List AV)) :
    ∀ (pre : List Nat) (listed : Array Bool), schedA ops fl s post ms pre listed = true → ∀ (a : Aa) μ (st : St) ca w, a.x = xs → Inv T μ0 st0 w0 N β a μ st w ca →
      APre P T st0 N K (fun a' st' => (∃ os, ops[s]? = some os ∧ StoC tb os a' st') ∧ AOps P T st0 N ops Q (.n :: ms) ((s :: post).filterMap (ops[·]?)) a' st') (pre.filterMap (ops[·]?)) a st →
      wpX P ops Q' (PwS fl (some s) (fun b => ∃ k ∈ K, xs k ≠ none ∧ b = β k)) (pre.length + (1 + post.length)) listed ca w
  | [], listed, hB, a, μ, st, ca, w, hax, hi, h => by
    simp only [schedA, Bool.and_eq_true, beq_iff_eq, Bool.not_eq_true'] at hB
    obtain ⟨⟨hfl, hsole⟩, hB⟩ := hB
    simp only [List.filterMap_nil, APre] at h
    obtain ⟨⟨os, hos, hsto⟩, hops⟩ := h
    obtain ⟨dst, t, x, v, ty, pos, aft, r, j, l, vs, i, rfl, ht, hx, hr, ho, hv, hone, hlen, hj⟩ := hsto
    simp only [List.filterMap_cons, hos, AOps, List.headD_cons, List.tail_cons] at hops
    obtain ⟨cells, hrun⟩ := sto_run (P := P) (dst := dst) (ty := ty) (pos := pos) (aft := aft) (gd := none) hi ht hx hr ho hv hone hlen hj
    have hwp := hops (hd s _ hos) μ0 w0 β μ w ca hi Q'
    unfold Oper.wp at hwp
    rw [hrun] at hwp
    rw [List.length_nil, Nat.zero_add, Nat.add_comm]
    refine wpX_sole hsole ?_
    unfold wpOp
    simp only [hos]
    rw [if_pos (by simp [Region.wanted])]
    refine .inl ?_
    unfold Oper.wp
    rw [hrun]
    refine ⟨⟨fun e => ?_, fun _ => ⟨?_, fun b hb hlt => ?_⟩⟩, wpX_of_AOps hQ hQn hs hd post ms _ hB _ _ hwp.2⟩
    · rw [hfl] at e; cases e
    · simp [World.setRow]
    · obtain ⟨k, hk, hxk, rfl⟩ := hb
      have hne := hi.bst k r (by rw [hax]; exact hxk) hr (by rw [ho]; rfl)
      exact setRow_other w _ _ _ (Ne.symm hne)
  | i :: pre, listed, hB, a, μ, st, ca, w, hax, hi, h => by
    simp only [schedA, Bool.and_eq_true] at hB
    obtain ⟨hq, hB⟩ := hB
    have hin : i ∈ Region.ready .any ops listed := by
      have h' := hq
      simp only [qOk, Bool.and_eq_true] at h'
      simpa using h'.1.1
    obtain ⟨hjun, oi, hoi, hall⟩ := mem_ready.1 hin
    simp only [List.filterMap_cons, hoi, APre] at h
    obtain ⟨hg, rr, hax', hrest⟩ := h
    obtain ⟨cv, h1, h2⟩ := hax' μ0 w0 β μ w ca hi
    have hy : YX P ops (PreB fun b => ∃ k ∈ K, xs k ≠ none ∧ b = β k) oi cv ca w := .inl ⟨by simp [Region.wanted, hg], fun w' hp => h2 w' fun k hk hxk => hp.2 _ ⟨k, hk, by rw [← hax]; exact hxk, rfl⟩ (hi.blt hxk)⟩
    have ih := wpX_of_APre hQ hQn hs hd post ms β xs pre _ hB (a.put oi.dst rr) μ st (ca.put oi.dst cv) w ((put_x ..).trans hax) (hi.put (hd i oi hoi) h1) hrest
    rw [List.length_cons, show pre.length + 1 + (1 + post.length) = (pre.length + (1 + post.length)) + 1 by omega]
    refine first_of (PreB.refl _) PreB.trans hQn hs hq hoi (fun w => PwS.refl ..) (fun j hj w w' hp => ?_) hy ih
    simp only [Bool.or_eq_true, beq_iff_eq] at hj
    rcases hj with hj | rfl
    · exact PreB.of (hp.1 hj)
    · exact hp.2 rfl
end
section
variable {P : Program} {T : Nat → Prop} {st0 : St} {N : Nat} {a : Aa} {st : St} {Q : AX → Aa → St → Prop} {id : Nat} {l : List Oper} {y : Code}
/-- Two stores in one assignment: what is read of the frame's boxes for the second one may be read behind the first one. -/
theorem c_d3 {tb : Tb} [TbOk P tb] (K pre : List Nat) (s : Nat) (post : List Nat) (ms : List Md) (hd : dstsOk N l = true) (hB : drawOk3 l.toArray pre s post ms = true)
    (h : APre P T st0 N K (fun a' st' => (∃ os, l.toArray[s]? = some os ∧ StoC tb os a' st') ∧ AOps P T st0 N l.toArray (ACode P T st0 N y Q) (.n :: ms) ((s :: post).filterMap (l.toArray[·]?)) a' st') (pre.filterMap (l.toArray[·]?)) a st) : ACode P T st0 N (.seq (.region id l.toArray true) y) Q a st := by
  refine c_seq ?_
  intro μ0 w0 β μ w ca hi
  simp only [drawOk3, Bool.and_eq_true, beq_iff_eq] at hB
  obtain ⟨hs, hlen, hB⟩ := hB
  refine wp_mono (wp_region_any (Q := fun e ca w => e = .normal ∧ Good T μ0 st0 w0 N (ACode P T st0 N y Q) ca w) (TbOk.mixed (tb := tb)) (wpAny_of_wpX (Pw := PwS (flag3 pre post ms) (some s) (fun b => ∃ k ∈ K, a.x k ≠ none ∧ b = β k)) _ _ _ _ ?_)) fun e ca' w' hq => by obtain ⟨rfl, hq⟩ := hq; exact hq
  rw [← hlen] at hB ⊢
  exact wpX_of_APre (fun ca w h => ⟨rfl, h⟩) (fun e ca w hne hq => hne hq.1) hs (fun i o ho x hx => dstsOk_spec hd o (by simpa using List.mem_of_getElem? (by simpa using ho)) x hx) post ms β a.x pre _ hB a μ st ca _ rfl (hi.pre (Pre.drew w)) h
end
section
variable {P : Program} {tb : Tb} [TbOk P tb] {T : Nat → Prop} {st0 : St} {N : Nat} {K : List Nat} {Q : Aa → St → Prop}
/-- Moves, fields and loads of boxes, so many of them. -/
def runX (tb : Tb) (K : List Nat) : Nat → List Oper → Aa → Option (List Oper × Aa)
  | 0, l, a => some (l, a)
  | n + 1, l, a => match l with
    | [] => none
    | o :: l =>
      match o.guard with
      | some _ => none
      | none =>
        match o.op with
        | .move x => (match mvA a x with | some r => runX tb K n l (a.put o.dst r) | none => none)
        | .load t x => (match rv a x with
          | .lp k _ => cond (K.contains k) (match run1 tb a (.load t x) with | some r => runX tb K n l (a.put o.dst r) | none => none) none
          | _ => none)
        | .fieldAddr t x f => (match rv a x with
          | .lp k of => (match structN tb t with | some m => cond (Nat.blt f m) (runX tb K n l (a.put o.dst (.lp k (of + f)))) none | none => none)
          | _ => none)
        | _ => none
theorem p_run : ∀ (n : Nat) {l l' : List Oper} {a a' : Aa} {st : St}, runX tb K n l a = some (l', a') → APre P T st0 N K Q l' a' st → APre P T st0 N K Q l a st
  | 0, l, l', a, a', st, h, hq => by
    simp only [runX, Option.some.injEq, Prod.mk.injEq] at h
    obtain ⟨rfl, rfl⟩ := h
    exact hq
  | n + 1, [], l', a, a', st, h, hq => by simp [runX] at h
  | n + 1, ⟨dst, op, ty, pos, aft, gd⟩ :: l, l', a, a', st, h, hq => by
    simp only [runX] at h
    cases gd with
    | some g => cases h
    | none =>
      refine ⟨rfl, ?_⟩
      cases op
      case move x =>
        simp only at h
        split at h
        · rename_i r hr
          exact ⟨r, x_move hr, p_run n h hq⟩
        · cases h
      case load t x =>
        simp only at h
        split at h
        · rename_i k o hk
          cases hc : K.contains k with
          | false => rw [hc] at h; cases h
          | true =>
            rw [hc] at h
            simp only [cond_true] at h
            split at h
            · rename_i r hr
              exact ⟨r, x_load hr (by rw [hk]; exact hc), p_run n h hq⟩
            · cases h
        · cases h
      case fieldAddr t x f =>
        simp only at h
        split at h
        · rename_i k o hk
          split at h
          · rename_i m hm
            cases hc : Nat.blt f m with
            | false => rw [hc] at h; cases h
            | true =>
              rw [hc] at h
              exact ⟨_, x_field hk hm hc, p_run n h hq⟩
          · cases h
        · cases h
      all_goals (simp only at h; cases h)
theorem p_op {o : Oper} {l : List Oper} {a : Aa} {st : St} {r : RV} (hg : o.guard = none) (h : AQX P T st0 N K o r a st) (hq : APre P T st0 N K Q l (a.put o.dst r) st) : APre P T st0 N K Q (o :: l) a st := ⟨hg, r, h, hq⟩
theorem p_end {a : Aa} {st : St} (h : Q a st) : APre P T st0 N K Q [] a st := h
end
end Go.Proofs.YtmphklmhhcmbnaaW.Ax
