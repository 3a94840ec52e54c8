/- Entering a function, calling one, and what a store may become. -/
import Derived.Test.YtmphklmhhcmbnaaXg
namespace Go.Proofs.YtmphklmhhcmbnaaW.Ax
open Go Go.RowKit
set_option linter.unusedVariables false
set_option linter.unusedSimpArgs false

/-- What is told of the store behind a call: nothing of what was there has turned, but for 'T'. -/
structure Ext (T : Nat → Prop) (st st' : St) : Prop where
  n : st.n ≤ st'.n
  ob : ∀ i, i < st.n → ¬ T i → st'.ob i = st.ob i
def No : Nat → Prop := fun _ => False
abbrev Ex := Ext No
theorem Ext.refl (T : Nat → Prop) (st : St) : Ext T st st := ⟨Nat.le_refl _, fun _ _ _ => rfl⟩
theorem Ext.trans {T T' : Nat → Prop} {a b c : St} (h : Ext T a b) (k : Ext T' b c) (hT : ∀ i, i < a.n → T' i → T i) : Ext T a c :=
  ⟨Nat.le_trans h.n k.n, fun i hi hn => (k.ob i (Nat.lt_of_lt_of_le hi h.n) (fun ht => hn (hT i hi ht))).trans (h.ob i hi hn)⟩
theorem Ext.tr {a b c : St} (h : Ex a b) (k : Ex b c) : Ex a c := h.trans k fun _ _ h => h
theorem Stp.ext {T : Nat → Prop} {μ st w μ' st' w'} (h : Stp T μ st w μ' st' w') : Ext T st st' := ⟨h.n, h.ob⟩
theorem Stp.pre_of {T : Nat → Prop} {μ st w μ' st' w'} (h : Stp T μ st w μ' st' w') (hT : ∀ i, i < st.n → ¬ T i) : Pre w w' :=
  ⟨h.size, fun b hb => h.blk b hb fun i hi ht _ => absurd ht (hT i hi), h.os, h.tape, h.output⟩

section
variable {P : Program} {T : Nat → Prop} {μ0 : Nat → Loc} {st0 : St} {w0 : World} {N : Nat} {β : Nat → Nat} {a : Aa} {μ : Nat → Loc} {st : St} {w : World} {ca : Act}

/-- The store goes on, the frame's own variables stay. -/
theorem Inv.step (h : Inv T μ0 st0 w0 N β a μ st w ca) {T' : Nat → Prop} {μ' : Nat → Loc} {st' : St} {w' : World} (hr : Rel μ' st' w') (hs : Stp T' μ st w μ' st' w') (hT : ∀ i, i < st0.n → T' i → T i) : Inv T μ0 st0 w0 N β a μ' st' w' ca := by
  have hbox : ∀ k, a.x k ≠ none → w'.heap[β k]? = w.heap[β k]? := fun k hk => hs.blk _ (h.blt hk) fun i hi _ ho => h.bst k i hk hi (Ob.live_of_own ho)
  refine ⟨hr, h.stp.trans hs hT, h.size, h.defers, fun i => VR.mono hs.n hs.mu _ _ (h.slot i), h.lp, fun k l hk => ?_, h.bsep, fun k i hk hi hl => ?_, h.bnew⟩
  · obtain ⟨cs, E, h1, h2⟩ := h.box k l hk
    exact ⟨cs, E, (hbox k (by simp [hk])).trans h1, VRL.mono hs.n hs.mu _ _ h2⟩
  · rcases Nat.lt_or_ge i st.n with hlt | hge
    · rw [hs.mu i hlt]
      exact h.bst k i hk hlt (hs.live i hlt hl)
    · have := h.blt hk
      rcases hs.new i hge hi hl with hh | ⟨j, hj, _, hoj, hbj⟩
      · omega
      · rw [← hbj]; exact h.bst k j hk hj (Ob.live_of_own hoj)
end

section
variable {P : Program} {tb : Tb} [TbOk P tb] {T : Nat → Prop} {st0 : St} {N : Nat}

/-- A call under a contract. -/
theorem o_call {dst : Option Nat} {x : Operand} {args : Array Operand} {types : Array Nat} {ty : Nat} {pos : String} {aft : Array Edge} {gd : Option (Nat × Bool)} {m : Md} {R : Aa → St → Prop} {a : Aa} {st : St}
    {f : Nat} {cap : List AV} {T' : Nat → Prop} {Post : AV → St → Prop} (hx : av a x = .fn f cap) (h : ACalls P f (avs a args.toList ++ cap) st T' Post) (hT : ∀ i, i < st0.n → T' i → T i) (hm : m = .n ∨ m = .f ∧ ∀ i, i < st.n → ¬ T' i)
    (hR : ∀ v st', Post v st' → Ext T' st st' → R (a.put dst (.v v)) st') : ALeaf P T st0 N ⟨dst, .call ⟨.value x, args, types⟩, ty, pos, aft, gd⟩ m R a st := by
  have main : ∀ fl : Bool, (fl = true → ∀ i, i < st.n → ¬ T' i) → AOp P T st0 N ⟨dst, .call ⟨.value x, args, types⟩, ty, pos, aft, gd⟩ fl R a st := by
    intro fl hfl hd μ0 w0 β μ w ca hi Q'
    obtain ⟨hgo, hc⟩ := h
    have hxv := av_vr hi x
    rw [hx] at hxv
    simp only [VR] at hxv
    obtain ⟨lc, hxe, hlc⟩ := hxv
    have hargs : VRL st.n μ (avs a args.toList ++ cap) (args.toList.map ca.eval ++ lc) := (avs_vr hi args.toList).append hlc
    have hrun : (execOp ca.eval ⟨dst, .call ⟨.value x, args, types⟩, ty, pos, aft, gd⟩).run P w = .ok (.enter f (args.toList.map ca.eval ++ lc).toArray) w := by
      unfold goes at hgo
      cases hf : P.funcs[f]? with
      | none => rw [hf] at hgo; cases hgo
      | some fn =>
        rw [hf] at hgo
        simp only [Bool.and_eq_true, Bool.not_eq_true'] at hgo
        obtain ⟨hb, hn⟩ := hgo
        have hb' : fn.body.isNone = false := by cases hbb : fn.body <;> simp_all
        have he : (args.map ca.eval ++ lc.toArray) = (args.toList.map ca.eval ++ lc).toArray := by
          cases args; simp
        have hn2 : ¬ fn.name = "runtime.NumGoroutine" := by simpa using hn
        have hb2 : ¬ fn.body = none := by intro hh; rw [hh] at hb; cases hb
        simp [execOp, resolve, hxe, Deferred.ofValue, invoke, callFunc, hf, hn2, hb2, he]
    unfold Oper.wp
    rw [hrun]
    refine (hc μ w _ hi.rel hargs).mono fun e w' hp => ?_
    obtain ⟨v, cv, μ', st', rfl, hv, hr, hs, hpost⟩ := hp
    have hi' := hi.step hr hs hT
    exact ⟨fun hh => hs.pre_of (hfl hh), β, _, μ', st', hi'.put (r := .v v) hd hv, hR v st' hpost hs.ext⟩
  rcases hm with rfl | ⟨rfl, hm⟩
  · exact main false (fun e => by cases e)
  · exact main true (fun _ => hm)

/-! ### Entering -/
def res1 (tb : Tb) (a : Aa) : ResultVar → Option AV
  | .tmp t => match seen (a.s t) with | some (.v v) => some v | _ => none
  | .cell t ty => match run1 tb a (.load ty (.tmp t)) with | some (.v v) => some v | _ => none
def resL (tb : Tb) (a : Aa) : List ResultVar → Option (List AV)
  | [] => some []
  | r :: rs => match res1 tb a r with | some v => (match resL tb a rs with | some vs => some (v :: vs) | none => none) | none => none
def resA (tb : Tb) (rs : List ResultVar) (a : Aa) : Option AV :=
  match resL tb a rs with
  | some l => match l with
    | [v] => some v
    | l => some (.tup l)
  | none => none
def RetQ (tb : Tb) (rs : List ResultVar) (Post : AV → St → Prop) : AX → Aa → St → Prop
  | .exit _, _, _ => False
  | .normal, a, st => ∃ v, resA tb rs a = some v ∧ Post v st
  | .ret, a, st => ∃ v, resA tb rs a = some v ∧ Post v st

theorem mapM_some {α β : Type} (f : α → Sem β) (w : World) : ∀ (l : List α) (r : List β), l.length = r.length → (∀ (j : Nat) x y, l[j]? = some x → r[j]? = some y → (f x).run P w = .ok y w) → (l.mapM f).run P w = .ok r w
  | [], [], _, _ => by simp
  | [], y :: r, h, _ => by simp at h
  | x :: l, [], h, _ => by simp at h
  | x :: l, y :: r, h, hh => by
    have h0 := hh 0 x y rfl rfl
    have ih := mapM_some f w l r (by simpa using h) (fun j a b ha hb => hh (j + 1) a b (by simpa using ha) (by simpa using hb))
    simp [List.mapM_cons, h0, ih]

def rdRes (ca : Act) : ResultVar → Sem Value
  | .tmp t => pure (ca.tmps.getD t undef)
  | .cell b t => do loadVar t (← asAddr (ca.tmps.getD b undef))

theorem resL_ok {μ0 : Nat → Loc} {w0 : World} {β : Nat → Nat} {a : Aa} {μ : Nat → Loc} {st : St} {w : World} {ca : Act} (h : Inv T μ0 st0 w0 N β a μ st w ca) :
    ∀ (rs : List ResultVar) (l : List AV), resL tb a rs = some l → ∃ cs : List Value, VRL st.n μ l cs ∧ rs.length = cs.length ∧
      ∀ (j : Nat) x y, rs[j]? = some x → cs[j]? = some y → (rdRes ca x).run P w = .ok y w
  | [], l, hl => by
    simp only [resL] at hl
    injection hl with hl
    subst hl
    exact ⟨[], rfl, rfl, fun j x y hx => by simp at hx⟩
  | r :: rs, l, hl => by
    simp only [resL] at hl
    split at hl
    · rename_i v hv
      split at hl
      · rename_i vs hvs
        injection hl with hl
        subst hl
        obtain ⟨cs, h1, h2, h3⟩ := resL_ok h rs vs hvs
        have key : ∃ cv, VR st.n μ v cv ∧ (rdRes ca r).run P w = .ok cv w := by
          cases r with
          | tmp t =>
            simp only [res1] at hv
            split at hv
            · rename_i u hu
              have := seen_eq hu
              injection this with this
              injection hv with hv
              subst hv
              exact ⟨_, by rw [this]; exact h.slot t, rfl⟩
            · cases hv
          | cell t ty =>
            simp only [res1] at hv
            split at hv
            · rename_i u hu
              injection hv with hv
              subst hv
              obtain ⟨cv, h4, h5⟩ := run1_ok (P := P) (T := T) (st0 := st0) (N := N) (st := st) (o := ⟨none, .load ty (.tmp t), 0, "", #[], none⟩) hu μ0 w0 β μ w ca h
              refine ⟨cv, h4, ?_⟩
              have h6 := h5 w (Pre.refl w)
              -- the slot holds a place
              have hp : ∃ k o, a.p t = some (k, o) := by
                simp only [run1, rv] at hu
                split at hu
                · rename_i k o hk
                  cases hp : a.p t with
                  | none => rw [hp] at hk; cases hk
                  | some ko => exact ⟨ko.1, ko.2, rfl⟩
                · cases hu
              obtain ⟨k, o, hp⟩ := hp
              have h7 := h.lp t k o hp
              simp only [rdRes, h7, asAddr, pure_bind]
              simp only [execOp, Act.eval, h7, Instr.loadAt, Instr.sureAddr, pure_bind, Sem.run_bind] at h6
              cases hl : (loadVar ty ⟨β k, o, none⟩).run P w with
              | halt x w' => rw [hl] at h6; simp at h6
              | ok x w' => rw [hl] at h6; simp at h6; rw [h6.1, h6.2]
            · cases hv
        obtain ⟨cv, h4, h5⟩ := key
        refine ⟨cv :: cs, by simp only [VRL]; exact ⟨_, _, rfl, h4, h1⟩, by simp [h2], fun j x y hx hy => ?_⟩
        cases j with
        | zero =>
          simp at hx hy
          subst hx; subst hy
          exact h5
        | succ j => exact h3 j x y (by simpa using hx) (by simpa using hy)
      · cases hl
    · cases hl

theorem enter {f : Nat} {fn : Func} {c : Code} {rs : List ResultVar} (hf : P.funcs[f]? = some fn) (hb : fn.body = some c) (hgo : (!(fn.name == "runtime.NumGoroutine")) = true) {args : List AV} {st : St} {T : Nat → Prop} {Post : AV → St → Prop}
    (hN : Nat.ble args.length N = true) (hN' : fn.ntmps = N) (hrs : fn.results.toList = rs) (h : ACode P T st N c (RetQ tb rs Post) (start args) st) : ACalls P f args st T Post := by
  refine ⟨by simp [goes, hf, hb]; simpa using hgo, fun μ w cargs hr hv => ?_⟩
  have hlen := hv.length
  have hN := Nat.le_of_ble_eq_true hN
  refine calls_of_wp hf hb ?_
  have hi : Inv T μ st w N (fun _ => 0) (start args) μ st w { tmps := cargs.toArray ++ Array.replicate (fn.ntmps - cargs.toArray.size) undef, defers := [] } := by
    refine ⟨hr, Stp.refl _ _ _ _, by simp only [Array.size_append, Array.size_replicate, List.size_toArray]; omega, rfl, fun i => ?_, fun i k o hk => by simp [start] at hk, fun k l hk => by simp [start] at hk, fun k k' hk => by simp [start] at hk, fun k i hk => by simp [start] at hk, fun k hk => by simp [start] at hk⟩
    show VR st.n μ (args.getD i .junk) _
    rcases Nat.lt_or_ge i cargs.length with hlt | hge
    · have := hv.get i
      have e : (cargs.toArray ++ Array.replicate (fn.ntmps - cargs.toArray.size) undef).getD i undef = cargs.getD i undef := by
        simp [Array.getElem?_append, hlt]
      rw [e]; exact this
    · rw [show args.getD i .junk = .junk by simp; rw [List.getElem?_eq_none (by omega)]; rfl]
      simp [VR]
  refine wp_mono (h μ w _ μ w _ hi) fun e ca' w' hq => ?_
  have fin : Good T μ st w N (fun a st' => ∃ v, resA tb rs a = some v ∧ Post v st') ca' w' → ca'.defers = [] ∧ ∃ v, (results fn ca'.tmps).run P w' = .ok v w' ∧ ∃ v' cv μ' st', Ending.returned v = .returned cv ∧ VR st'.n μ' v' cv ∧ Rel μ' st' w' ∧ Stp T μ st w μ' st' w' ∧ Post v' st' := by
    rintro ⟨β, a, μ', st', hi', v, hv', hp⟩
    refine ⟨hi'.defers, ?_⟩
    unfold resA at hv'
    split at hv'
    · rename_i l hl
      obtain ⟨cs, h1, h2, h3⟩ := resL_ok (P := P) hi' rs l hl
      have hm := mapM_some (P := P) _ w' rs cs h2 h3
      have hres : (results fn ca'.tmps).run P w' = .ok (if h : cs.toArray.size = 1 then cs.toArray[0] else .tuple cs.toArray) w' := by
        unfold results
        rw [Sem.run_bind, Array.mapM_eq_mapM_toList, Sem.run_map, hrs]
        have hm' : ∀ g : ResultVar → Sem Value, (∀ x, g x = rdRes ca' x) → (rs.mapM g).run P w' = .ok cs w' := fun g hg => by rw [funext hg]; exact hm
        rw [hm' _ (fun x => by cases x <;> rfl)]
        simp
      split at hv'
      · rename_i u
        injection hv' with hv'
        subst hv'
        simp only [VRL] at h1
        obtain ⟨cv, l', rfl, h4, rfl⟩ := h1
        exact ⟨cv, by simpa using hres, u, cv, μ', st', rfl, h4, hi'.rel, hi'.stp, hp⟩
      · rename_i hne
        injection hv' with hv'
        subst hv'
        have hl1 : ¬ cs.toArray.size = 1 := by
          have := h1.length
          intro hh
          match l, this with
          | [x], _ => exact hne x rfl
          | [], this => simp at hh; simp at this; rw [this] at hh; simp at hh
          | _ :: _ :: _, this => simp at hh this; omega
        rw [dif_neg hl1] at hres
        exact ⟨_, hres, _, .tuple cs.toArray, μ', st', rfl, by simp only [VR]; exact ⟨cs, rfl, h1⟩, hi'.rel, hi'.stp, hp⟩
    · cases hv'
  cases e with
  | normal => exact fin hq
  | ret => exact fin hq
  | exit id => obtain ⟨_, _, _, _, _, hq⟩ := hq; exact hq.elim
  | goto l => exact hq.elim
  | panic ch => exact hq.elim
  | outgrown => exact hq.elim
end
end Go.Proofs.YtmphklmhhcmbnaaW.Ax
