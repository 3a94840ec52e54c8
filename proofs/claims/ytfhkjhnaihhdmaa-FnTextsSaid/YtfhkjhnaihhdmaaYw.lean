/- ObjNew, ScopeNew: walked. -/
import Derived.Test.YtfhkjhnaihhdmaaYv
namespace Go.Proofs.YtfhkjhnaihhdmaaW.Ax
open Go Go.RowKit Go.Proofs Go.Proofs.Ytfhkjhnaihhdmaa.Pure
set_option linter.unusedVariables false
set_option maxRecDepth 100000

noncomputable def gL (P : Prop) (L l : List Int) : List Int := cond (bd P) L (zl l)
noncomputable def gV (P : Prop) (x : Int) : Int := cond (bd P) x 0
noncomputable def gO (P : Prop) (b : Bool) : Bool := cond (bd P) b false
theorem gL_t {P : Prop} {L l : List Int} (h : P) : gL P L l = L := by unfold gL; rw [bdt.2 h]; rfl
theorem gL_f {P : Prop} {L l : List Int} (h : ¬ P) : gL P L l = zl l := by unfold gL; rw [bdf.2 h]; rfl
theorem gV_t {P : Prop} {x : Int} (h : P) : gV P x = x := by unfold gV; rw [bdt.2 h]; rfl
theorem gV_f {P : Prop} {x : Int} (h : ¬ P) : gV P x = 0 := by unfold gV; rw [bdf.2 h]; rfl
theorem gO_t {P : Prop} {x : Bool} (h : P) : gO P x = x := by unfold gO; rw [bdt.2 h]; rfl
theorem gO_f {P : Prop} {x : Bool} (h : ¬ P) : gO P x = false := by unfold gO; rw [bdf.2 h]; rfl
theorem gL_len {P : Prop} {L l : List Int} (h : L.length ≤ l.length) : (gL P L l).length ≤ l.length := by
  by_cases hp : P
  · rw [gL_t hp]; exact h
  · rw [gL_f hp]; exact zl_len l

def OnOk (l : List Int) (v : Int) : Prop := Pok v ∧ Rts l [v]
noncomputable def onL (l : List Int) (v : Int) : List Int := gL (OnOk l v) (nwL l 2 3 v) l
noncomputable def onV (l : List Int) (v : Int) : Int := gV (OnOk l v) (nwV l 3 5)
noncomputable def onO (l : List Int) (v : Int) : Bool := gO (OnOk l v) (tkO l 3)
theorem onL_len (l : List Int) (v : Int) : (onL l v).length ≤ l.length := gL_len (by rw [nwL_len]; exact Nat.le_refl _)
theorem ObjNew_c (r : Option Nat) (o : Nat) (l : List Int) (v : Int) (st : St) (hx : At st r o l) (hl : l.length ≤ 1048576) : ACalls Try.prog 148 [.agg [.sl r o l.length], I v] st No (Nw st (onL l v) (onV l v) (onO l v)) := by
  refine ent (N := 33) Try.func148 rfl (by decide) rfl rfl rfl ?_
  refine crr (by kernel_rfl) rfl ?_   -- region 0
  refine c_seq ?_
  refine c_sj (α := Bool) (fun b => [(1, I v), (19, .bool b)]) (fun _ => [(2, 2, [.sl r o l.length]), (4, 4, [.sl none 0 0])]) (fun b st' => Ex st st' ∧ (b = true ↔ ¬ OnOk l v)) ?_ ?_
  · -- region 1
    refine c_region (by kernel_rfl) ?_
    refine sr 1 rfl ?_
    refine s_op rfl (o_pure loud_n rfl (l5ProtoOk_c ..) ?_)
    refine sr 2 rfl ?_
    refine s_bool 13 rfl rfl (fun h13 => ?_) (fun h13 => ?_)
    · have h13 := nbt h13
      refine sra rfl ⟨true, ⟨rfl, rfl, trivial⟩, ⟨rfl, rfl, rfl, rfl, trivial⟩, Ext.refl _ _, ⟨fun _ h => h13 h.1, fun _ => rfl⟩⟩
    · have h13 := nbf h13
      refine sr 2 rfl ?_
      refine s_op rfl (oints [v] loud_n rfl (by decide) rfl rfl rfl fun q st1 hq e1 => ?_)
      refine s_op rfl (o_ex loud_n rfl (RootsOk_c _ _ _ _ _ _ _ (hx.ex e1) hq.at_ hl (by simp)) ?_)
      rintro v2 st2 rfl e2
      refine sra rfl ⟨_, ⟨rfl, rfl, trivial⟩, ⟨rfl, rfl, rfl, rfl, trivial⟩, e1.tr e2, ?_⟩
      exact ⟨fun h k => nbt h k.2, fun h => (by rw [bdf.2 fun k => h ⟨h13, k⟩]; rfl)⟩
  rintro b st1 ⟨e1, hb⟩
  refine c_if rfl (fun h19 => ?_) (fun h19 => ?_)
  · have h19 := hb.1 h19
    refine c_rs (by kernel_rfl) ?_   -- region 2
    refine sr 1 rfl ?_
    refine s_op rfl (o_ex loud_n rfl (l5Zero_c _ _ _ _ (hx.ex e1) hl) ?_)
    rintro v2 st2 ⟨q, rfl, hf⟩ e2
    refine sra rfl ?_
    refine c_ret (fr rfl ⟨q, ?_, ?_⟩)
    · rw [onL, onV, onO, gL_f h19, gV_f h19, gO_f h19]
    · rw [onL, gL_f h19]; exact hf.le e1.n
  · have h19 : OnOk l v := Classical.byContradiction fun h => by rw [hb.2 h] at h19; cases h19
    refine c_skip ?_
    refine c_rs (by kernel_rfl) ?_   -- region 3
    refine sr 1 rfl ?_
    refine s_op rfl (o_ex loud_n rfl (l2Copy_c _ _ _ _ (hx.ex e1) hl) ?_)
    rintro v2 st2 ⟨q, rfl, hf⟩ e2
    have hf := hf.le e1.n
    refine sr 1 rfl ?_
    refine s_op rfl (o_call rfl (l5New_c _ _ _ v _ hf h19.2.1.1) (fun i hi h => absurd hi (by have := hf.bd i h; omega)) (.inl rfl) ?_)
    rintro v3 st3 ⟨rfl, hf3, _⟩ e3
    refine sra rfl ?_
    refine crr (by kernel_rfl) rfl ?_   -- region 4
    refine c_ret (fr rfl ⟨q, ?_, ?_⟩)
    · rw [onL, onV, onO, gL_t h19, gV_t h19, gO_t h19]
    · rw [onL, gL_t h19]; exact hf3
def SnOk (l : List Int) (u n : Int) : Prop := (u = 0 ∨ u % 8 = 7) ∧ Rts l [u] ∧ (0 ≤ n ∧ n ≤ 12)
noncomputable def snL (l : List Int) (u n : Int) : List Int := gL (SnOk l u n) (nwL l 5 (n.toNat + 2) u) l
noncomputable def snV (l : List Int) (u n : Int) : Int := gV (SnOk l u n) (nwV l (n.toNat + 2) 7)
noncomputable def snO (l : List Int) (u n : Int) : Bool := gO (SnOk l u n) (tkO l (n.toNat + 2))
theorem snL_len (l : List Int) (u n : Int) : (snL l u n).length ≤ l.length := gL_len (by rw [nwL_len]; exact Nat.le_refl _)
theorem ScopeNew_c (r : Option Nat) (o : Nat) (l : List Int) (u n : Int) (st : St) (hx : At st r o l) (hl : l.length ≤ 1048576) : ACalls Try.prog 149 [.agg [.sl r o l.length], I u, I n] st No (Nw st (snL l u n) (snV l u n) (snO l u n)) := by
  refine ent (N := 45) Try.func149 rfl (by decide) rfl rfl rfl ?_
  refine crr (by kernel_rfl) rfl ?_   -- region 0
  refine c_seq ?_
  refine c_sj (α := Bool) (fun b => [(1, I u), (2, I n), (30, .bool b)]) (fun _ => [(3, 3, [.sl r o l.length]), (6, 6, [.sl none 0 0])]) (fun b st' => Ex st st' ∧ (b = true ↔ ¬ SnOk l u n)) ?_ ?_
  · -- region 1
    refine c_region (by kernel_rfl) ?_
    have tail : ∀ (h19 : u = 0 ∨ u % 8 = 7) (a : Aa) (h1 : a.s 19 = .bool false) (h2 : a.p 19 = none), True := fun _ _ _ _ => trivial
    refine sr 3 rfl ?_
    refine s_bool 14 rfl rfl (fun h14 => ?_) (fun h14 => ?_)
    · have h14 := ndt h14
      refine sr 1 rfl ?_
      refine s_op rfl (o_pure loud_n rfl (Kind_c ..) ?_)
      refine sr 3 rfl ?_
      refine s_bool 19 rfl rfl (fun h19 => ?_) (fun h19 => ?_)
      · have h19 := ndt h19
        refine sr 7 rfl ?_
        refine sra rfl ⟨true, ⟨rfl, rfl, rfl, trivial⟩, ⟨rfl, rfl, rfl, rfl, trivial⟩, Ext.refl _ _, ⟨fun _ h => h.1.elim h14 h19, fun _ => rfl⟩⟩
      · have h19 : u = 0 ∨ u % 8 = 7 := .inr (ndf h19)
        refine sr 2 rfl ?_
        refine s_op rfl (oints [u] loud_n rfl (by decide) rfl rfl rfl fun q st1 hq e1 => ?_)
        refine s_op rfl (o_ex loud_n rfl (RootsOk_c _ _ _ _ _ _ _ (hx.ex e1) hq.at_ hl (by simp)) ?_)
        rintro v2 st2 rfl e2
        refine sr 3 rfl ?_
        refine s_bool 26 rfl rfl (fun h26 => ?_) (fun h26 => ?_)
        · have h26 := nbt h26
          refine sra rfl ⟨true, ⟨rfl, rfl, rfl, trivial⟩, ⟨rfl, rfl, rfl, rfl, trivial⟩, e1.tr e2, ⟨fun _ h => h26 h.2.1, fun _ => rfl⟩⟩
        · have h26 := nbf h26
          refine sr 1 rfl ?_
          refine s_op rfl (o_pure loud_n rfl (l1In_c ..) ?_)
          refine sra rfl ⟨_, ⟨rfl, rfl, rfl, trivial⟩, ⟨rfl, rfl, rfl, rfl, trivial⟩, e1.tr e2, ?_⟩
          exact ⟨fun h k => ndt h k.2.2, fun h => (by rw [decide_eq_false fun k => h ⟨h19, h26, k⟩]; rfl)⟩
    · have h19 : u = 0 ∨ u % 8 = 7 := .inl (ndf h14)
      refine sr 5 rfl ?_
      refine sr 2 rfl ?_
      refine s_op rfl (oints [u] loud_n rfl (by decide) rfl rfl rfl fun q st1 hq e1 => ?_)
      refine s_op rfl (o_ex loud_n rfl (RootsOk_c _ _ _ _ _ _ _ (hx.ex e1) hq.at_ hl (by simp)) ?_)
      rintro v2 st2 rfl e2
      refine sr 3 rfl ?_
      refine s_bool 26 rfl rfl (fun h26 => ?_) (fun h26 => ?_)
      · have h26 := nbt h26
        refine sra rfl ⟨true, ⟨rfl, rfl, rfl, trivial⟩, ⟨rfl, rfl, rfl, rfl, trivial⟩, e1.tr e2, ⟨fun _ h => h26 h.2.1, fun _ => rfl⟩⟩
      · have h26 := nbf h26
        refine sr 1 rfl ?_
        refine s_op rfl (o_pure loud_n rfl (l1In_c ..) ?_)
        refine sra rfl ⟨_, ⟨rfl, rfl, rfl, trivial⟩, ⟨rfl, rfl, rfl, rfl, trivial⟩, e1.tr e2, ?_⟩
        exact ⟨fun h k => ndt h k.2.2, fun h => (by rw [decide_eq_false fun k => h ⟨h19, h26, k⟩]; rfl)⟩
  rintro b st1 ⟨e1, hb⟩
  refine c_if rfl (fun h30 => ?_) (fun h30 => ?_)
  · have h30 := hb.1 h30
    refine c_rs (by kernel_rfl) ?_   -- region 2
    refine sr 1 rfl ?_
    refine s_op rfl (o_ex loud_n rfl (l5Zero_c _ _ _ _ (hx.ex e1) hl) ?_)
    rintro v2 st2 ⟨q, rfl, hf⟩ e2
    refine sra rfl ?_
    refine c_ret (fr rfl ⟨q, ?_, ?_⟩)
    · rw [snL, snV, snO, gL_f h30, gV_f h30, gO_f h30]
    · rw [snL, gL_f h30]; exact hf.le e1.n
  · have h30 : SnOk l u n := Classical.byContradiction fun h => by rw [hb.2 h] at h30; cases h30
    obtain ⟨m, hm⟩ : ∃ m : Nat, n = m := ⟨n.toNat, by have := h30.2.2; omega⟩
    have hmt : n.toNat = m := by omega
    have hm12 : m ≤ 12 := by have := h30.2.2; omega
    refine c_skip ?_
    refine c_rs (by kernel_rfl) ?_   -- region 3
    refine sr 1 rfl ?_
    refine s_op rfl (o_ex loud_n rfl (l2Copy_c _ _ _ _ (hx.ex e1) hl) ?_)
    rintro v2 st2 ⟨q, rfl, hf⟩ e2
    have hf := hf.le e1.n
    refine sr 2 rfl ?_
    rw [hm]
    refine s_op rfl (o_call rfl (l6New_c _ _ _ u m _ hf h30.2.1.1.1 hm12) (fun i hi h => absurd hi (by have := hf.bd i h; omega)) (.inl rfl) ?_)
    rintro v3 st3 ⟨rfl, hf3, _⟩ e3
    refine sra rfl ?_
    refine crr (by kernel_rfl) rfl ?_   -- region 4
    rw [← hm]
    refine c_ret (fr rfl ⟨q, ?_, ?_⟩)
    · rw [snL, snV, snO, gL_t h30, gV_t h30, gO_t h30, hmt]
    · rw [snL, gL_t h30, hmt]; exact hf3
end Go.Proofs.YtfhkjhnaihhdmaaW.Ax
