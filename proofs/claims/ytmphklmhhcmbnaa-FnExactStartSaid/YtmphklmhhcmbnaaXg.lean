/- Many operations of a frame at once. -/
import Derived.Test.YtmphklmhhcmbnaaXf
import Derived.Laws.CopyRow
namespace Go.Proofs.YtmphklmhhcmbnaaW.Ax
open Go Go.RowKit
set_option linter.unusedVariables false
set_option linter.unusedSimpArgs false

section
variable {P : Program} {tb : Tb} [TbOk P tb] {T : Nat → Prop} {st0 : St} {N : Nat}

theorem run1_ok {a : Aa} {st : St} {o : Oper} {r : RV} (h : run1 tb a o.op = some r) : AQ P T st0 N o r a st := by
  obtain ⟨dst, op, ty, pos, aft, gd⟩ := o
  simp only at h
  cases op
  case move x => exact q_move h
  case assign x => exact q_assign h
  case pick c x y => exact q_pick h
  case unOp u t x => exact q_unOp h
  case binOp op t x y yt => exact q_binOp h
  case load t x => exact q_load h
  case fieldAddr t x f => exact q_fieldAddr h
  case field t x f => exact q_field h
  case nilCheck x => exact q_nilCheck h
  case extract x i => exact q_extract h
  case convert s d x => exact q_convert h
  case makeFunc f first cap => exact q_makeFunc h
  case build t parts => exact q_build h
  case call c => exact q_len h
  all_goals (simp only [run1] at h; cases h)

/-! ### Variables of the frame's own -/
def clr (p : Nat → Option (Nat × Nat)) (d : Nat) : Nat → Option (Nat × Nat) := fun i => match p i with | some (k, o) => cond (Nat.beq k d) none (some (k, o)) | none => none
def Aa.box (a : Aa) (d : Nat) (l : List AV) : Aa := ⟨upd a.s d .junk, upd (clr a.p d) d (some (d, 0)), upd a.x d (some l)⟩
def Aa.sto (a : Aa) (k : Nat) (l : List AV) : Aa := ⟨a.s, a.p, upd a.x k (some l)⟩
def cellsOf (v : AV) : List AV := match v with | .agg l => l | v => [v]
def forceL : List AV → Option (List AV)
  | [] => some []
  | v :: l => match forceL l with | some s => (match seen v with | some (.v u) => some (u :: s) | _ => none) | none => none
def cellsB (v : AV) : Option (List AV) :=
  match v with
  | .agg l => forceL l
  | .int k n => some [.int k n]
  | .bool b => some [.bool b]
  | .str s => some [.str s]
  | .sl r o n => some [.sl r o n]
  | .ptr r o => some [.ptr r o]
  | .map r => some [.map r]
  | .fn f c => some [.fn f c]
  | _ => none
def stoA : List AV → Nat → List AV → Option (List AV)
  | l, 0, [] => some l
  | x :: l, 0, v :: vs => match stoA l 0 vs with | some s => some (v :: s) | none => none
  | x :: l, o + 1, vs => match stoA l o vs with | some s => some (x :: s) | none => none
  | [], _, _ => none
theorem stoA_eq : ∀ (l : List AV) (o : Nat) (vs l' : List AV), stoA l o vs = some l' → l' = l.take o ++ vs ++ l.drop (o + vs.length) ∧ o + vs.length ≤ l.length
  | [], 0, [], l', h => by simp [stoA] at h; simp [← h]
  | [], 0, v :: vs, l', h => by simp [stoA] at h
  | [], o + 1, vs, l', h => by simp [stoA] at h
  | x :: l, 0, [], l', h => by simp [stoA] at h; simp [← h]
  | x :: l, 0, v :: vs, l', h => by
    simp only [stoA] at h
    cases hh : stoA l 0 vs with
    | none => rw [hh] at h; cases h
    | some s =>
      rw [hh] at h
      injection h with h
      obtain ⟨h1, h2⟩ := stoA_eq l 0 vs s hh
      subst h
      simp only [List.take_zero, List.nil_append, Nat.zero_add] at h1 h2 ⊢
      refine ⟨?_, by simp; omega⟩
      rw [h1]; simp
  | x :: l, o + 1, vs, l', h => by
    simp only [stoA] at h
    cases hh : stoA l o vs with
    | none => rw [hh] at h; cases h
    | some s =>
      rw [hh] at h
      injection h with h
      obtain ⟨h1, h2⟩ := stoA_eq l o vs s hh
      subst h
      refine ⟨?_, by simp; omega⟩
      rw [h1, show o + 1 + vs.length = (o + vs.length) + 1 by omega]; simp
theorem forceL_eq : ∀ (l s : List AV), forceL l = some s → s = l
  | [], s, h => by simp [forceL] at h; exact h
  | v :: l, s, h => by
    simp only [forceL] at h
    cases hh : forceL l with
    | none => rw [hh] at h; cases h
    | some s' =>
      rw [hh] at h
      simp only at h
      split at h
      · rename_i u hu
        have := seen_eq hu
        injection this with this
        injection h with h
        rw [← h, this, forceL_eq l s' hh]
      · cases h

section
variable {a : Aa} {st : St} {β : Nat → Nat} {μ0 : Nat → Loc} {w0 : World} {μ : Nat → Loc} {w : World} {ca : Act}
omit [TbOk P tb] in
theorem VRL.ones {n : Nat} {μ : Nat → Loc} : ∀ {l : List AV} {cs : List Value}, VRL n μ l cs → l.all oneA = true → ∀ x ∈ cs, x.oneCell' = true
  | [], _, hv, _, x, hx => by simp only [VRL] at hv; subst hv; cases hx
  | y :: l, _, hv, ho, x, hx => by
    simp only [VRL] at hv
    obtain ⟨v, l', rfl, h1, h2⟩ := hv
    simp only [List.all_cons, Bool.and_eq_true] at ho
    cases hx with
    | head => exact (h1.one ho.1).1
    | tail _ hx => exact VRL.ones h2 ho.2 x hx
omit [TbOk P tb] in
theorem VR.cellsB {n : Nat} {μ : Nat → Loc} {v : AV} {cv : Value} {l : List AV} (h : VR n μ v cv) (hl : Ax.cellsB v = some l) : VRL n μ l cv.cells.toList := by
  cases v <;> simp only [Ax.cellsB] at hl <;> try (cases hl; done)
  case agg cs =>
    have := forceL_eq _ _ hl
    subst this
    simp only [VR] at h
    obtain ⟨l', rfl, h⟩ := h
    simpa [Value.cells] using h
  all_goals
    injection hl with hl
    subst hl
    rw [(h.one rfl).2]
    simp only [VRL]
    exact ⟨_, [], rfl, h, rfl⟩

omit [TbOk P tb] in
/-- A new variable of the frame's own. -/
theorem Inv.box_new (h : Inv T μ0 st0 w0 N β a μ st w ca) {d : Nat} (hd : d < N) {l : List AV} {cs : Array Value} {E : Nat} (hv : VRL st.n μ l cs.toList) :
    Inv T μ0 st0 w0 N (upd β d w.heap.size) (a.box d l) μ st (w.alloc (.cells cs E)) (ca.put (some d) (.pointer (some ⟨w.heap.size, 0, none⟩))) := by
  have hp : Pre w (w.alloc (.cells cs E)) := ⟨by simp, fun b hb => heap_alloc_old w _ hb, rfl, rfl, rfl⟩
  have h1 := h.pre hp
  have hx : ∀ k, k ≠ d → (a.box d l).x k = a.x k := fun k hk => upd_ne _ _ hk
  have hxd : (a.box d l).x d = some l := upd_same _ _ _
  have hb : ∀ k, k ≠ d → upd β d w.heap.size k = β k := fun k hk => upd_ne _ _ hk
  have hbd : upd β d w.heap.size d = w.heap.size := upd_same _ _ _
  have hdN : d < ca.tmps.size := by rw [h.size]; exact hd
  refine ⟨h1.rel, h1.stp, by simp [Act.put, h.size], h.defers, fun i => ?_, fun i k o hi => ?_, fun k l' hk => ?_, fun k k' h2 h3 h4 => ?_, fun k i h2 h3 h4 => ?_, fun k h2 => ?_⟩
  · show VR st.n μ (upd a.s d .junk i) ((ca.tmps.setIfInBounds d _).getD i undef)
    rw [getD_set]
    by_cases e : i = d
    · subst e; rw [upd_same]; simp [VR]
    · rw [upd_ne _ _ e, if_neg (fun hh => e hh.1)]; exact h.slot i
  · have hi' : upd (clr a.p d) d (some (d, 0)) i = some (k, o) := hi
    show (ca.tmps.setIfInBounds d _).getD i undef = _
    rw [getD_set]
    by_cases e : i = d
    · subst e
      rw [upd_same] at hi'
      injection hi' with e1
      injection e1 with e2 e3
      subst e2; subst e3
      rw [if_pos ⟨rfl, hdN⟩, hbd]
    · rw [upd_ne _ _ e] at hi'
      rw [if_neg (fun hh => e hh.1)]
      unfold clr at hi'
      split at hi'
      · rename_i k' o' hk'
        cases hbq : Nat.beq k' d with
        | true => rw [hbq] at hi'; simp at hi'
        | false =>
          rw [hbq] at hi'
          simp only [cond_false] at hi'
          injection hi' with e1
          injection e1 with e2 e3
          subst e2; subst e3
          have hne : k' ≠ d := fun e => by subst e; simp at hbq
          rw [hb k' hne]
          exact h.lp i k' o' hk'
      · cases hi'
  · by_cases e : k = d
    · subst e
      rw [hxd] at hk
      injection hk with hk
      subst hk
      rw [hbd]
      exact ⟨cs, E, heap_alloc_new w _, hv⟩
    · rw [hx k e] at hk
      rw [hb k e]
      exact h1.box k l' hk
  · by_cases e : k = d
    · subst e
      have e' : k' ≠ k := Ne.symm h4
      rw [hbd, hb k' e']
      have := h.blt (k := k') (by rw [← hx k' e']; exact h3)
      omega
    · by_cases e' : k' = d
      · subst e'
        rw [hbd, hb k e]
        have := h.blt (k := k) (by rw [← hx k e]; exact h2)
        omega
      · rw [hb k e, hb k' e']
        exact h.bsep k k' (by rw [← hx k e]; exact h2) (by rw [← hx k' e']; exact h3) h4
  · by_cases e : k = d
    · subst e
      rw [hbd]
      have := (h.rel.obj i h3).lt h4
      omega
    · rw [hb k e]
      exact h.bst k i (by rw [← hx k e]; exact h2) h3 h4
  · by_cases e : k = d
    · subst e; rw [hbd]; exact h.stp.size
    · rw [hb k e]; exact h.bnew k (by rw [← hx k e]; exact h2)

omit [TbOk P tb] in
/-- A variable of the frame's own is written. -/
theorem Inv.box_set (h : Inv T μ0 st0 w0 N β a μ st w ca) {k : Nat} {l l' : List AV} {cs cs' : Array Value} {E : Nat} (hx : a.x k = some l) (hg : w.heap[β k]? = some (.cells cs E (0, 0))) (hv : VRL st.n μ l' cs'.toList) :
    Inv T μ0 st0 w0 N β (a.sto k l') μ st (w.setRow (β k) cs') ca := by
  have hk0 : a.x k ≠ none := by simp [hx]
  have hlt := h.blt hk0
  have hoth : ∀ b, b ≠ β k → (w.setRow (β k) cs').heap[b]? = w.heap[b]? := fun b hb => setRow_other w (β k) b cs' hb
  have hself : (w.setRow (β k) cs').heap[β k]? = some (.cells cs' E (0, 0)) := setRow_heap w (β k) cs cs' E (0, 0) hg
  have hsz : (w.setRow (β k) cs').heap.size = w.heap.size := by simp [World.setRow]
  have hxk : ∀ j, (a.sto k l').x j ≠ none → a.x j ≠ none := fun j hj => by
    by_cases e : j = k
    · subst e; exact hk0
    · have : (a.sto k l').x j = a.x j := upd_ne _ _ e
      rw [← this]; exact hj
  refine ⟨⟨fun i hi => ?_, h.rel.sep⟩, ⟨h.stp.n, h.stp.mu, h.stp.ob, h.stp.own, h.stp.live, by rw [hsz]; exact h.stp.size, fun b hb hd => ?_, h.stp.new, h.stp.os, h.stp.tape, h.stp.output⟩, h.size, h.defers, h.slot, h.lp, fun j l2 hj => ?_, fun j j' h1 h2 h3 => h.bsep j j' (hxk j h1) (hxk j' h2) h3, fun j i h1 h2 h3 => h.bst j i (hxk j h1) h2 h3, fun j hj => h.bnew j (hxk j hj)⟩
  · cases hl : (st.ob i).live with
    | true => exact (h.rel.obj i hi).mono (Nat.le_refl _) (fun _ _ => rfl) (hoth _ (h.bst k i hk0 hi hl))
    | false =>
      have : st.ob i = .dead := by cases ho : st.ob i <;> simp_all [Ob.live]
      rw [this]; trivial
  · have := h.bnew k hk0
    rw [hoth b (by omega)]
    exact h.stp.blk b hb hd
  · by_cases e : j = k
    · subst e
      have : (a.sto j l').x j = some l' := upd_same _ _ _
      rw [this] at hj
      injection hj with hj
      subst hj
      exact ⟨cs', E, hself, hv⟩
    · have : (a.sto k l').x j = a.x j := upd_ne _ _ e
      rw [this] at hj
      obtain ⟨cs2, E2, h1, h2⟩ := h.box j l2 hj
      exact ⟨cs2, E2, by rw [hoth _ (h.bsep j k (by simp [hj]) hk0 e)]; exact h1, h2⟩
end

/-- One operation of a frame: what it makes of the frame. -/
def run2 (tb : Tb) (m : Md) (a : Aa) (o : Oper) : Option Aa :=
  match o.op with
  | .box t x =>
    match o.dst, m with
    | _, .q => none
    | some d, _ => (match cellsB (av a x) with | some l => some (a.box d l) | none => none)
    | none, _ => none
  | .alloc t =>
    match o.dst, m with
    | _, .q => none
    | some d, _ => (match look tb t with | some i => (match forceL (i.zero.map Z.av) with | some l => some (a.box d l) | none => none) | none => none)
    | none, _ => none
  | .store t x v =>
    match m, o.dst with
    | .n, none =>
      match rv a x with
      | .lp k o =>
        match a.x k with
        | some l =>
          match look tb t with
          | some i =>
            match cellsB (av a v) with
            | some vs => cond (vs.all oneA && Nat.beq vs.length i.zero.length) (match stoA l o vs with | some l' => some (a.sto k l') | none => none) none
            | none => none
          | none => none
        | none => none
      | _ => none
    | _, _ => none
  | op =>
    match run1 tb a op with
    | some (.v x) => (match o.dst with | some d => some (a.put (some d) (.v x)) | none => some a)
    | some (.lp k q) => (match o.dst with | some d => some (a.put (some d) (.lp k q)) | none => some a)
    | none => none

theorem run2_ok {m : Md} {a a' : Aa} {st : St} {o : Oper} {R : Aa → St → Prop} (h : run2 tb m a o = some a') (hR : R a' st) : ALeaf P T st0 N o m R a st := by
  have fin : (∀ f : Bool, (m = .n → f = false) → AOp P T st0 N o f R a st) → m ≠ .q → ALeaf P T st0 N o m R a st := fun hh hm => by
    cases m with
    | q => exact absurd rfl hm
    | f => exact hh true (fun e => by cases e)
    | n => exact hh false (fun _ => rfl)
  have pure1 : (match run1 tb a o.op with
    | some (.v x) => (match o.dst with | some d => some (a.put (some d) (.v x)) | none => some a)
    | some (.lp k q) => (match o.dst with | some d => some (a.put (some d) (.lp k q)) | none => some a)
    | none => none) = some a' → ALeaf P T st0 N o m R a st := fun h => by
    have h' : ∃ r, run1 tb a o.op = some r ∧ a' = a.put o.dst r := by
      cases hr : run1 tb a o.op with
      | none => rw [hr] at h; cases h
      | some r =>
        refine ⟨r, rfl, ?_⟩
        rw [hr] at h
        cases r <;> cases hd : o.dst <;> rw [hd] at h <;> simp only at h <;> injection h with h <;> rw [← h] <;> rfl
    obtain ⟨r, hr, rfl⟩ := h'
    · have hq := run1_ok (P := P) (T := T) (st0 := st0) (N := N) (st := st) hr
      cases m with
      | q => exact ⟨r, hq, hR⟩
      | f => exact AOp_of_AQ hq hR
      | n => exact AOp_of_AQ hq hR
  obtain ⟨dst, op, ty, pos, aft, gd⟩ := o
  simp only [run2] at h
  split at h
  · rename_i t x
    split at h
    · cases h
    · rename_i d hm
      split at h
      · rename_i l hl
        injection h with h
        subst h
        refine fin (fun f _ hd μ0 w0 β μ w ca hi Q' => ?_) (fun e => by subst e; simp at hm)
        have hv := (av_vr hi x).cellsB hl
        have hr : (execOp ca.eval ⟨some d, .box t x, ty, pos, aft, gd⟩).run P w = .ok (.value (.pointer (some ⟨w.heap.size, 0, none⟩))) (w.alloc (.cells (ca.eval x).cells t)) := by
          simp [execOp, Instr.box, newVar, newRow]
        unfold Oper.wp
        rw [hr]
        exact ⟨fun _ => ⟨by simp, fun b hb => heap_alloc_old w _ hb, rfl, rfl, rfl⟩, _, _, μ, st, hi.box_new (hd d rfl) hv, hR⟩
      · cases h
    · cases h
  · rename_i t
    split at h
    · cases h
    · rename_i d hm
      split at h
      · rename_i i ht
        split at h
        · rename_i l hl
          injection h with h
          subst h
          have hl := forceL_eq _ _ hl
          subst hl
          refine fin (fun f _ hd μ0 w0 β μ w ca hi Q' => ?_) (fun e => by subst e; simp at hm)
          obtain ⟨z, hz, hzv, _⟩ := (tyR (P := P) ht).zeroV st.n μ
          have hr : (execOp ca.eval ⟨some d, .alloc t, ty, pos, aft, gd⟩).run P w = .ok (.value (.pointer (some ⟨w.heap.size, 0, none⟩))) (w.alloc (.cells z.cells t)) := by
            simp [execOp, Instr.alloc, hz, newVar, newRow]
          unfold Oper.wp
          rw [hr]
          exact ⟨fun _ => ⟨by simp, fun b hb => heap_alloc_old w _ hb, rfl, rfl, rfl⟩, _, _, μ, st, hi.box_new (hd d rfl) hzv, hR⟩
        · cases h
      · cases h
    · cases h
  · rename_i t x v
    split at h
    · rename_i hm
      split at h
      · rename_i k o hk
        split at h
        · rename_i l hx
          split at h
          · rename_i i ht
            split at h
            · rename_i vs hvs
              cases hc : (vs.all oneA && Nat.beq vs.length i.zero.length) with
              | false => rw [hc] at h; simp at h
              | true =>
                rw [hc] at h
                simp only [cond_true] at h
                simp only [Bool.and_eq_true] at hc
                obtain ⟨hone, hlen⟩ := hc
                have hlen := Nat.eq_of_beq_eq_true hlen
                split at h
                · rename_i l' hl'
                  injection h with h
                  subst h
                  obtain ⟨e1, e2⟩ := stoA_eq _ _ _ _ hl'
                  refine fin (fun f hf hd μ0 w0 β μ w ca hi Q' => ?_) (by simp)
                  have hf := hf rfl
                  subst hf
                  have hp := rv_rr hi x
                  rw [hk] at hp
                  simp only [RR] at hp
                  have hv := (av_vr hi v).cellsB hvs
                  obtain ⟨cs, E, hg, hcs⟩ := hi.box k l hx
                  have hvl := hv.length
                  have hcl := hcs.length
                  have hsz : (sizeOf t).run P w = .ok i.zero.length w := (tyR (P := P) ht).size w
                  have hone' := VRL.ones hv hone
                  have hst := run_storeCells_at P (β k) o E (ca.eval v).cells.toList 0 cs w hg (by rw [hvl]; simp at hcl; omega) hone'
                  have hr : (execOp ca.eval ⟨none, .store t x v, ty, pos, aft, gd⟩).run P w = .ok .skip (w.setRow (β k) (cs.toList.take (o + 0) ++ (ca.eval v).cells.toList ++ cs.toList.drop (o + 0 + (ca.eval v).cells.toList.length)).toArray) := by
                    have hne : (ca.eval v).cells.size = i.zero.length := by have := hvl; simp at this; omega
                    simp only [execOp, Instr.storeAt, hp, Instr.sureAddr, pure_bind, storeVar, Sem.run_bind, hsz, Result.andThen_ok, hne, ne_eq, not_true_eq_false, if_false, hst, Sem.run_pure]
                  unfold Oper.wp
                  rw [hr]
                  refine ⟨(fun hh => by cases hh), β, _, μ, st, hi.box_set hx hg ?_, hR⟩
                  rw [e1]
                  simp only [Nat.add_zero]
                  have hl2 : (ca.eval v).cells.toList.length = vs.length := hvl
                  rw [hl2]
                  exact ((hcs.take o).append hv).append (hcs.drop _)
                · cases h
            · cases h
          · cases h
        · cases h
      · cases h
    · cases h
  · exact pure1 h

/-- Many operations. -/
def runN (tb : Tb) (ops : Array Oper) : Nat → List Md → List Oper → Aa → Option (List Md × List Oper × Aa)
  | 0, ms, l, a => some (ms, l, a)
  | n + 1, ms, l, a =>
    match l with
    | [] => none
    | o :: l =>
      match o.guard with
      | none => (match run2 tb (ms.headD .n) a o with | some a' => runN tb ops n ms.tail l a' | none => none)
      | some (j, want) =>
        match (ops[j]?).bind (·.dst) with
        | some t =>
          match a.s t, want with
          | .bool true, true => (match run2 tb (ms.headD .n) a o with | some a' => runN tb ops n ms.tail l a' | none => none)
          | .bool false, false => (match run2 tb (ms.headD .n) a o with | some a' => runN tb ops n ms.tail l a' | none => none)
          | .bool true, false => (match o.dst with | some d => runN tb ops n ms.tail l (a.put (some d) (.v .und)) | none => runN tb ops n ms.tail l a)
          | .bool false, true => (match o.dst with | some d => runN tb ops n ms.tail l (a.put (some d) (.v .und)) | none => runN tb ops n ms.tail l a)
          | .und, _ => (match o.dst with | some d => runN tb ops n ms.tail l (a.put (some d) (.v .und)) | none => runN tb ops n ms.tail l a)
          | _, _ => none
        | none => none

theorem s_run {ops : Array Oper} {Q : Aa → St → Prop} {st : St} : ∀ (n : Nat) {ms ms' : List Md} {l l' : List Oper} {a a' : Aa}, runN tb ops n ms l a = some (ms', l', a') → AOps P T st0 N ops Q ms' l' a' st → AOps P T st0 N ops Q ms l a st
  | 0, ms, ms', l, l', a, a', h, hq => by
    simp only [runN] at h
    injection h with h
    injection h with h1 h
    injection h with h2 h3
    subst h1; subst h2; subst h3
    exact hq
  | n + 1, ms, ms', [], l', a, a', h, hq => by simp [runN] at h
  | n + 1, ms, ms', o :: l, l', a, a', h, hq => by
    simp only [runN] at h
    simp only [AOps]
    split at h
    · rename_i hg
      rw [hg]
      split at h
      · rename_i a1 h1
        exact run2_ok h1 (s_run n h hq)
      · cases h
    · rename_i j want hg
      rw [hg]
      split at h
      · rename_i t ht
        split at h
        · rename_i hs
          split at h
          · rename_i a1 h1
            exact ⟨t, ht, .inl ⟨hs, run2_ok h1 (s_run n h hq)⟩⟩
          · cases h
        · rename_i hs
          split at h
          · rename_i a1 h1
            exact ⟨t, ht, .inl ⟨hs, run2_ok h1 (s_run n h hq)⟩⟩
          · cases h
        · rename_i hs
          refine ⟨t, ht, .inr ⟨.inl hs, ?_⟩⟩
          cases hd : o.dst <;> rw [hd] at h <;> exact s_run n h hq
        · rename_i hs
          refine ⟨t, ht, .inr ⟨.inl hs, ?_⟩⟩
          cases hd : o.dst <;> rw [hd] at h <;> exact s_run n h hq
        · rename_i hs
          refine ⟨t, ht, .inr ⟨.inr hs, ?_⟩⟩
          cases hd : o.dst <;> rw [hd] at h <;> exact s_run n h hq
        · cases h
      · cases h

theorem s_nil {ops : Array Oper} {Q : Aa → St → Prop} {st : St} {ms : List Md} {a : Aa} (h : Q a st) : AOps P T st0 N ops Q ms [] a st := h
theorem s_cons {ops : Array Oper} {Q : Aa → St → Prop} {st : St} {ms : List Md} {a : Aa} {o : Oper} {l : List Oper} (hg : o.guard = none) (h : ALeaf P T st0 N o (ms.headD .n) (AOps P T st0 N ops Q ms.tail l) a st) : AOps P T st0 N ops Q ms (o :: l) a st := by
  simp only [AOps, hg]
  exact h
theorem s_guard {ops : Array Oper} {Q : Aa → St → Prop} {st : St} {ms : List Md} {a : Aa} {o : Oper} {l : List Oper} {j t : Nat} {b : Bool} (hg : o.guard = some (j, b)) (ht : (ops[j]?).bind (·.dst) = some t) (hs : a.s t = .bool b)
    (h : ALeaf P T st0 N o (ms.headD .n) (AOps P T st0 N ops Q ms.tail l) a st) : AOps P T st0 N ops Q ms (o :: l) a st := by
  simp only [AOps, hg]
  exact ⟨t, ht, .inl ⟨hs, h⟩⟩
end
end Go.Proofs.YtmphklmhhcmbnaaW.Ax
