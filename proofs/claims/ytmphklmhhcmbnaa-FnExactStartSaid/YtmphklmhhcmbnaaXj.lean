/- Operations on the store's blocks. -/
import Derived.Test.YtmphklmhhcmbnaaXi
namespace Go.Proofs.YtmphklmhhcmbnaaW.Ax
open Go Go.RowKit
set_option linter.unusedVariables false
set_option linter.unusedSimpArgs false

/-- What an operation may touch: what the call began with, as far as it is let, and all that was made since. -/
def May (T : Nat → Prop) (st0 : St) (r : Nat) : Prop := r < st0.n → T r

section
variable {P : Program} {tb : Tb} [TbOk P tb] {T : Nat → Prop} {st0 : St} {N : Nat} {a : Aa} {st : St} {R : Aa → St → Prop} {m : Md}

omit [TbOk P tb] in
theorem leaf_val {o : Oper} {T' : Nat → Prop} (v : AV) (st' : St) (hT : ∀ i, i < st0.n → T' i → T i) (hm : m = .n ∨ m = .f ∧ ∀ i, i < st.n → ¬ T' i)
    (h : ∀ μ0 w0 β μ w ca, Inv T μ0 st0 w0 N β a μ st w ca → ∃ cv μ' w', (execOp ca.eval o).run P w = .ok (.value cv) w' ∧ VR st'.n μ' v cv ∧ Rel μ' st' w' ∧ Stp T' μ st w μ' st' w')
    (hR : R (a.put o.dst (.v v)) st') : ALeaf P T st0 N o m R a st := by
  have main : ∀ fl : Bool, (fl = true → ∀ i, i < st.n → ¬ T' i) → AOp P T st0 N o fl R a st := by
    intro fl hfl hd μ0 w0 β μ w ca hi Q'
    obtain ⟨cv, μ', w', hrun, hv, hr, hs⟩ := h μ0 w0 β μ w ca hi
    unfold Oper.wp
    rw [hrun]
    exact ⟨fun hh => hs.pre_of (hfl hh), β, _, μ', st', (hi.step hr hs hT).put (r := .v v) hd hv, hR⟩
  rcases hm with rfl | ⟨rfl, hm⟩
  · exact main false (fun e => by cases e)
  · exact main true (fun _ => hm)
omit [TbOk P tb] in
theorem leaf_skip {o : Oper} {T' : Nat → Prop} (st' : St) (hT : ∀ i, i < st0.n → T' i → T i) (hm : m = .n ∨ m = .f ∧ ∀ i, i < st.n → ¬ T' i)
    (h : ∀ μ0 w0 β μ w ca, Inv T μ0 st0 w0 N β a μ st w ca → ∃ w', (execOp ca.eval o).run P w = .ok .skip w' ∧ Rel μ st' w' ∧ Stp T' μ st w μ st' w')
    (hR : R (a.put o.dst (.v .junk)) st') : ALeaf P T st0 N o m R a st := by
  have main : ∀ fl : Bool, (fl = true → ∀ i, i < st.n → ¬ T' i) → AOp P T st0 N o fl R a st := by
    intro fl hfl hd μ0 w0 β μ w ca hi Q'
    obtain ⟨w', hrun, hr, hs⟩ := h μ0 w0 β μ w ca hi
    unfold Oper.wp
    rw [hrun]
    exact ⟨fun hh => hs.pre_of (hfl hh), β, _, μ, st', (hi.step hr hs hT).put (r := .v .junk) hd (by simp [RR, VR]), hR⟩
  rcases hm with rfl | ⟨rfl, hm⟩
  · exact main false (fun e => by cases e)
  · exact main true (fun _ => hm)
omit [TbOk P tb] in
theorem leaf_q {o : Oper} (r : RV) (h : AQ P T st0 N o r a st) (hR : R (a.put o.dst r) st) : ALeaf P T st0 N o m R a st := by
  cases m with
  | q => exact ⟨r, h, hR⟩
  | f => exact AOp_of_AQ h hR
  | n => exact AOp_of_AQ h hR

def Md.loud (m : Md) : Prop := m = .n ∨ m = .f
theorem loud_n : Md.loud .n := .inl rfl
theorem loud_f : Md.loud .f := .inr rfl
omit [TbOk P tb] in
theorem loud_no (h : m.loud) (st : St) : m = .n ∨ m = .f ∧ ∀ i, i < st.n → ¬ No i := h.imp id fun h => ⟨h, fun _ _ h => h⟩
omit [TbOk P tb] in
theorem no_T : ∀ i, i < st0.n → No i → T i := fun _ _ h => h.elim

/-- A type of one cell. -/
def one1 (tb : Tb) (t : Nat) : Option (Z × Nat) := match look tb t with | some i => (match i.zero with | [z] => cond i.agg none (some (z, i.bytes)) | _ => none) | none => none
def elem1 (tb : Tb) (t : Nat) : Option (Nat × Z × Nat) := match look tb t with | some i => (match i.k with | .slice e => (match one1 tb e with | some (z, b) => some (e, z, b) | none => none) | _ => none) | none => none
omit [TbOk P tb] in
theorem one1_ok {t : Nat} {z : Z} {b : Nat} (h : one1 tb t = some (z, b)) : ∃ i, look tb t = some i ∧ i.zero = [z] ∧ i.bytes = b ∧ i.agg = false := by
  unfold one1 at h
  split at h
  · rename_i i hi
    split at h
    · rename_i z' hz
      cases ha : i.agg with
      | true => rw [ha] at h; cases h
      | false =>
        rw [ha] at h
        simp only [cond_false] at h
        injection h with h
        injection h with h1 h2
        subst h1
        exact ⟨i, hi, hz, h2, ha⟩
    · cases h
  · cases h
theorem elem1_ok {t e : Nat} {z : Z} {b : Nat} (h : elem1 tb t = some (e, z, b)) : P.underlying t = some (.slice e) ∧ one1 tb e = some (z, b) := by
  unfold elem1 at h
  split at h
  · rename_i i hi
    split at h
    · rename_i e' hk
      split at h
      · rename_i z' b' h1
        injection h with h
        injection h with h2 h3
        injection h3 with h3 h4
        subst h2; subst h3; subst h4
        exact ⟨(tyR (P := P) hi).und_of.2.2.2.1 _ hk, h1⟩
      · cases h
    · cases h
  · cases h
theorem one1_info {t : Nat} {z : Z} {b : Nat} (h : one1 tb t = some (z, b)) : ∃ (inf : TypeInfo) (v : Value), P.info? t = some inf ∧ inf.size = 1 ∧ inf.bytes = b ∧ inf.zero = some v ∧ v.cells.size = 1 ∧ ∀ n μ, VR n μ z.av (v.cells.getD 0 undef) := by
  obtain ⟨i, hi, hz, hb, ha⟩ := one1_ok h
  obtain ⟨inf, v, h1, h2, h3, h4, h5, h6⟩ := (tyR (P := P) hi).info
  rw [hz] at h2 h5
  refine ⟨inf, v, h1, h2, by rw [h3, hb], h4, by rw [h6, h2]; rfl, fun n μ => ?_⟩
  have hsz : v.cells.size = 1 := by rw [h6, h2]; rfl
  have h7 : v.cells.toList = [v.cells.getD 0 undef] := by
    match hv : v.cells, hsz with
    | ⟨[x]⟩, _ => simp
  rw [h7] at h5
  simp only [List.map_cons, List.map_nil, List.cons.injEq, and_true] at h5
  rw [← h5]
  exact Z.of_vr n μ _

variable {dst : Option Nat} {ty : Nat} {pos : String} {aft : Array Edge} {gd : Option (Nat × Bool)}

omit [TbOk P tb] in
/-- A variable whose place is handed on. -/
theorem o_boxS {t : Nat} {x : Operand} {l : List AV} (hm : m.loud) (hl : cellsB (av a x) = some l) (hR : R (a.put dst (.v (.ptr (some st.n) 0))) (st.push (.row true l))) : ALeaf P T st0 N ⟨dst, .box t x, ty, pos, aft, gd⟩ m R a st := by
  refine leaf_val _ _ no_T (loud_no hm st) (fun μ0 w0 β μ w ca hi => ?_) hR
  have hv := (av_vr hi x).cellsB hl
  have hlen := hv.length
  obtain ⟨h1, h2⟩ := push_row hi.rel (Pre.refl w) rfl (l := l) (cs := (ca.eval x).cells) (E := t) (by simp at hlen; omega) (fun j hj => by simpa using hv.get j)
  refine ⟨.pointer (some ⟨w.heap.size, 0, none⟩), _, _, ?_, ?_, h1, h2⟩
  · simp [execOp, Instr.box, newVar, newRow]
  · simp only [VR]
    exact ⟨Nat.lt_succ_self _, by rw [upd_same]⟩
theorem o_allocS {t : Nat} {i : TyI} (hm : m.loud) (ht : look tb t = some i) (hR : R (a.put dst (.v (.ptr (some st.n) 0))) (st.push (.row true (i.zero.map Z.av)))) : ALeaf P T st0 N ⟨dst, .alloc t, ty, pos, aft, gd⟩ m R a st := by
  refine leaf_val _ _ no_T (loud_no hm st) (fun μ0 w0 β μ w ca hi => ?_) hR
  obtain ⟨z, hz, hzv, hzs⟩ := (tyR (P := P) ht).zeroV st.n μ
  have hlen := hzv.length
  obtain ⟨h1, h2⟩ := push_row hi.rel (Pre.refl w) rfl (l := i.zero.map Z.av) (cs := z.cells) (E := t) (by simp at hlen; simp; omega) (fun j hj => by simpa using hzv.get j)
  refine ⟨.pointer (some ⟨w.heap.size, 0, none⟩), _, _, ?_, ?_, h1, h2⟩
  · simp [execOp, Instr.alloc, hz, newVar, newRow]
  · simp only [VR]
    exact ⟨Nat.lt_succ_self _, by rw [upd_same]⟩

theorem o_idx {t : Nat} {x ix : Operand} {r : Option Nat} {o n : Nat} {k : IntKind} {q : Int} {e : Nat × Z × Nat} (ht : elem1 tb t = some e) (hx : av a x = .sl r o n) (hi : av a ix = .int k q) (h0 : 0 ≤ q) (h1 : q < n)
    (hR : R (a.put dst (.v (.ptr r (o + q.toNat)))) st) : ALeaf P T st0 N ⟨dst, .indexAddr t x ix, ty, pos, aft, gd⟩ m R a st := by
  obtain ⟨e, z, b⟩ := e
  refine leaf_q (.v (.ptr r (o + q.toNat))) (fun μ0 w0 β μ w ca hinv => ?_) hR
  obtain ⟨hu, h1'⟩ := elem1_ok (P := P) ht
  obtain ⟨inf, v, e1, e2, _⟩ := one1_info (P := P) h1'
  have hxv := av_vr hinv x
  have hiv := av_vr hinv ix
  rw [hx] at hxv
  rw [hi] at hiv
  simp only [VR] at hiv
  cases r with
  | none =>
    simp only [VR] at hxv
    omega
  | some r =>
    simp only [VR] at hxv
    obtain ⟨hr, A, c, hxe, hc, hA⟩ := hxv
    rcases hA with hA | ⟨hA, _⟩
    · omega
    · refine ⟨.pointer (some ⟨(μ r).b, (μ r).s + (o + q.toNat), none⟩), ⟨hr, rfl⟩, fun w' _ => ?_⟩
      have hlt : q < (n : Int) := h1
      simp [execOp, hxe, hiv, Instr.indexAt, asIntOf, underlying, hu, h0, hlt, sizeOf, typeInfo, e1, e2, hA, Addr.add_lit, Nat.add_assoc]

omit [TbOk P tb] in
/-- What a cell of the store holds, in the world. -/
theorem cell_w {μ0 : Nat → Loc} {w0 : World} {β : Nat → Nat} {μ : Nat → Loc} {w : World} {ca : Act} (hi : Inv T μ0 st0 w0 N β a μ st w ca) {r : Option Nat} {j : Nat} {v : AV} (hc : cell st r j = some v) :
    ∃ i, r = some i ∧ i < st.n ∧ ∃ (cs : Array Value) (E : Nat) (fz : Nat × Nat) (cv : Value), w.heap[(μ i).b]? = some (.cells cs E fz) ∧ cs[(μ i).s + j]? = some cv ∧ VR st.n μ v cv ∧ (μ i).s + j < cs.size := by
  cases r with
  | none => cases hc
  | some i =>
    unfold cell at hc
    simp only at hc
    split at hc
    · rename_i hlt
      split at hc
      · rename_i own l ho
        have h := hi.rel.obj i hlt
        rw [ho] at h
        obtain ⟨cs, E, fz, h1, h2, h3, h4, h5⟩ := h
        have hj : j < l.length := (List.getElem?_eq_some_iff.1 hc).1
        have h6 := h5 j hj
        have hb : (μ i).s + j < cs.size := by omega
        have e1 : l.getD j .junk = v := by rw [List.getD, hc]; rfl
        have e2 : cs.getD ((μ i).s + j) undef = cs[(μ i).s + j] := by simp [hb]
        rw [e1, e2] at h6
        exact ⟨i, rfl, hlt, cs, E, fz, _, h1, by simp [hb], h6, hb⟩
      · cases hc
    · cases hc

theorem o_ld {t : Nat} {x : Operand} {r : Option Nat} {j : Nat} {v : AV} {zb : Z × Nat} (ht : one1 tb t = some zb) (hx : av a x = .ptr r j) (hc : cell st r j = some v) (hR : R (a.put dst (.v v)) st) : ALeaf P T st0 N ⟨dst, .load t x, ty, pos, aft, gd⟩ m R a st := by
  obtain ⟨z, b⟩ := zb
  refine leaf_q (.v v) (fun μ0 w0 β μ w ca hinv => ?_) hR
  obtain ⟨i, hi, hz, _, hag⟩ := one1_ok ht
  obtain ⟨q, rfl, hq, cs, E, fz, cv, h1, h2, h3, h4⟩ := cell_w hinv hc
  have hxv := av_vr hinv x
  rw [hx] at hxv
  simp only [VR] at hxv
  refine ⟨cv, h3, fun w' hp => ?_⟩
  have hlt : (μ q).b < w.heap.size := (Array.getElem?_eq_some_iff.1 h1).1
  have := run_loadAt (P := P) hi w' (μ q).b ((μ q).s + j) cs E fz ((hp.blk _ hlt).trans h1) cv (by rw [hag]; simp [List.head?_drop, h2])
  simp [execOp, hxv.2, this]
/-- A struct behind a place. -/
theorem o_ldS {t : Nat} {x : Operand} {r : Nat} {j : Nat} {i : TyI} {own : Bool} {l s : List AV} (ht : look tb t = some i) (hag : i.agg = true) (hx : av a x = .ptr (some r) j) (hr : r < st.n) (ho : st.ob r = .row own l) (hs : takeA i.zero.length (l.drop j) = some s)
    (hR : R (a.put dst (.v (.agg s))) st) : ALeaf P T st0 N ⟨dst, .load t x, ty, pos, aft, gd⟩ m R a st := by
  refine leaf_q (.v (.agg s)) (fun μ0 w0 β μ w ca hinv => ?_) hR
  have h := hinv.rel.obj r hr
  rw [ho] at h
  obtain ⟨cs, E, fz, h1, h2, h3, h4, h5⟩ := h
  have hxv := av_vr hinv x
  rw [hx] at hxv
  simp only [VR] at hxv
  obtain ⟨e1, e2⟩ := takeA_eq _ _ _ hs
  have hdl : j + i.zero.length ≤ l.length ∨ i.zero.length = 0 := by
    rw [List.length_drop] at e2
    omega
  have hlen : i.zero.length ≤ (cs.toList.drop ((μ r).s + j)).length := by
    rw [List.length_drop, Array.length_toList]
    omega
  have hvs : VRL st.n μ s ((cs.toList.drop ((μ r).s + j)).take i.zero.length) := by
    refine VRL.of_get (by rw [e1, List.length_take, List.length_take]; omega) fun k hk => ?_
    have hk' : k < i.zero.length := by rw [e1, List.length_take] at hk; omega
    have h6 := h5 (j + k) (by omega)
    have e3 : s.getD k .junk = l.getD (j + k) .junk := by
      rw [e1]
      simp only [List.getD, List.getElem?_take, List.getElem?_drop, hk', if_true]
    have e4 : ((cs.toList.drop ((μ r).s + j)).take i.zero.length).getD k undef = cs.getD ((μ r).s + (j + k)) undef := by
      have hb : (μ r).s + (j + k) < cs.size := by omega
      simp [List.getD, List.getElem?_take, List.getElem?_drop, hk', Nat.add_assoc, hb]
    rw [e3, e4]
    exact h6
  refine ⟨_, by simp only [RR, VR]; exact ⟨_, rfl, hvs⟩, fun w' hp => ?_⟩
  have hlt : (μ r).b < w.heap.size := (Array.getElem?_eq_some_iff.1 h1).1
  have := run_loadAt (P := P) ht w' (μ r).b ((μ r).s + j) cs E fz ((hp.blk _ hlt).trans h1) _ (by rw [hag, if_pos rfl]; exact ⟨hlen, rfl⟩)
  simp [execOp, hxv.2, this]

omit [TbOk P tb] in
theorem splice_get {α : Type} (l vs : List α) (j k : Nat) (d : α) (hj : j + vs.length ≤ l.length) : (l.take j ++ vs ++ l.drop (j + vs.length)).getD k d = if j ≤ k ∧ k < j + vs.length then vs.getD (k - j) d else l.getD k d := by
  simp only [List.getD]
  rcases Nat.lt_or_ge k j with c1 | c1
  · rw [if_neg (by omega), List.append_assoc, List.getElem?_append_left (by rw [List.length_take]; omega), List.getElem?_take, if_pos c1]
  · rcases Nat.lt_or_ge k (j + vs.length) with c2 | c2
    · rw [if_pos ⟨c1, c2⟩, List.append_assoc, List.getElem?_append_right (by rw [List.length_take]; omega), List.length_take, Nat.min_eq_left (by omega), List.getElem?_append_left (by omega)]
    · rw [if_neg (by omega), List.getElem?_append_right (by rw [List.length_append, List.length_take]; omega), List.length_append, List.length_take, Nat.min_eq_left (by omega), List.getElem?_drop, show j + vs.length + (k - (j + vs.length)) = k by omega]
/-- A store into a row (or a variable) of the call's own. -/
theorem o_st {t : Nat} {x v : Operand} {r j : Nat} {l vs : List AV} {i : TyI} (ht : look tb t = some i) (hx : av a x = .ptr (some r) j) (hr : r < st.n) (hmay : May T st0 r) (ho : st.ob r = .row true l) (hv : cellsB (av a v) = some vs) (hone : vs.all oneA = true) (hlen : vs.length = i.zero.length) (hj : j + vs.length ≤ l.length)
    (hR : R (a.put dst (.v .junk)) (st.set r (.row true (l.take j ++ vs ++ l.drop (j + vs.length))))) : ALeaf P T st0 N ⟨dst, .store t x v, ty, pos, aft, gd⟩ .n R a st := by
  refine leaf_skip (T' := (· = r)) _ (fun k hk e => by subst e; exact hmay hk) (.inl rfl) (fun μ0 w0 β μ w ca hinv => ?_) hR
  have h := hinv.rel.obj r hr
  rw [ho] at h
  obtain ⟨cs, E, fz, h1, h2, h3, h4, h5⟩ := h
  have hfz := h2 rfl
  subst hfz
  have hxv := av_vr hinv x
  rw [hx] at hxv
  simp only [VR] at hxv
  have hvv := (av_vr hinv v).cellsB hv
  have hvl := hvv.length
  have hones := VRL.ones hvv hone
  have hsz : (sizeOf t).run P w = .ok i.zero.length w := (tyR (P := P) ht).size w
  have hst := run_storeCells_at P (μ r).b ((μ r).s + j) E (ca.eval v).cells.toList 0 cs w h1 (by rw [hvl]; omega) hones
  have hne : (ca.eval v).cells.size = i.zero.length := by have := hvl; simp at this; omega
  have hrun : (execOp ca.eval ⟨dst, .store t x v, ty, pos, aft, gd⟩).run P w = .ok .skip (w.setRow (μ r).b (cs.toList.take ((μ r).s + j + 0) ++ (ca.eval v).cells.toList ++ cs.toList.drop ((μ r).s + j + 0 + (ca.eval v).cells.toList.length)).toArray) := by
    simp only [execOp, Instr.storeAt, hxv.2, Instr.sureAddr, pure_bind, storeVar, Sem.run_bind, hsz, Result.andThen_ok, hne, ne_eq, not_true_eq_false, if_false, hst, Sem.run_pure]
  refine ⟨_, hrun, ?_⟩
  have hown : (st.ob r).own = true := by rw [ho]; rfl
  refine set_ok hinv.rel hr hown (by simp [World.setRow]) (fun b hb => setRow_other w _ b _ hb) rfl rfl rfl ?_
  refine ⟨_, E, (0, 0), setRow_heap w _ cs _ E (0, 0) h1, fun _ => rfl, ?_, ?_, fun k hk => ?_⟩
  · simp only [List.length_append, List.length_take, List.length_drop]; omega
  · simp only [List.size_toArray, List.length_append, List.length_take, List.length_drop, Array.length_toList, hvl]; omega
  · have hk' : k < l.length := by simp only [List.length_append, List.length_take, List.length_drop] at hk; omega
    have hcs : (μ r).s + k < cs.size := by omega
    have hvl2 : (ca.eval v).cells.toList.length = vs.length := hvl
    generalize (ca.eval v).cells.toList = cvs at *
    simp only [Nat.add_zero]
    have e2 : (cs.toList.take ((μ r).s + j) ++ cvs ++ cs.toList.drop ((μ r).s + j + cvs.length)).toArray.getD ((μ r).s + k) undef = (cs.toList.take ((μ r).s + j) ++ cvs ++ cs.toList.drop ((μ r).s + j + cvs.length)).getD ((μ r).s + k) undef := by
      simp [List.getD]
    rw [e2, splice_get l vs j k .junk hj, splice_get cs.toList cvs ((μ r).s + j) ((μ r).s + k) undef (by have := Array.length_toList (xs := cs); omega)]
    by_cases c : j ≤ k ∧ k < j + vs.length
    · rw [if_pos c, if_pos (by omega), show (μ r).s + k - ((μ r).s + j) = k - j by omega]
      exact hvv.get _
    · rw [if_neg c, if_neg (by omega)]
      have := h5 k hk'
      simpa [List.getD] using this
end
end Go.Proofs.YtmphklmhhcmbnaaW.Ax
