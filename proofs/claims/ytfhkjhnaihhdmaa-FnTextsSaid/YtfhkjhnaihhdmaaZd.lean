/- FunNew: walked. -/
import Derived.Test.YtfhkjhnaihhdmaaZc
namespace Go.Proofs.YtfhkjhnaihhdmaaW.Ax
open Go Go.RowKit Go.Proofs Go.Proofs.Ytfhkjhnaihhdmaa.Pure
set_option linter.unusedVariables false
set_option maxRecDepth 100000

def FnOk (l : List Int) (c s : Int) : Prop := (0 ≤ c ∧ c ≤ 99) ∧ Isk l [s] 7
noncomputable def fwL (l : List Int) (c s : Int) : List Int := gL (FnOk l c s) (fnL l c s) l
noncomputable def fwV (l : List Int) (c s : Int) : Int := gV (FnOk l c s) (nwV l 3 6)
noncomputable def fwO (l : List Int) (c s : Int) : Bool := gO (FnOk l c s) (tkO l 3)
theorem fwL_len (l : List Int) (c s : Int) : (fwL l c s).length ≤ l.length := gL_len (by rw [fnL_len]; exact Nat.le_refl _)
theorem FunNew_c (r : Option Nat) (o : Nat) (l : List Int) (c s : Int) (st : St) (hx : At st r o l) (hl : l.length ≤ 1048576) : ACalls Try.prog 150 [.agg [.sl r o l.length], I c, I s] st No (Nw st (fwL l c s) (fwV l c s) (fwO l c s)) := by
  refine ent (N := 36) Try.func150 rfl (by decide) rfl rfl rfl ?_
  refine crr (by kernel_rfl) rfl ?_   -- region 0
  refine c_seq ?_
  refine c_sj (α := Bool) (fun b => [(1, I c), (2, I s), (21, .bool b)]) (fun _ => [(3, 3, [.sl r o l.length]), (6, 6, [.sl none 0 0])]) (fun b st' => Ex st st' ∧ (b = true ↔ ¬ FnOk l c s)) ?_ ?_
  · -- region 1
    refine c_region (by kernel_rfl) ?_
    refine sr 1 rfl ?_
    refine s_op rfl (o_pure loud_n rfl (l1In_c ..) ?_)
    refine sr 2 rfl ?_
    refine s_bool 15 rfl rfl (fun h15 => ?_) (fun h15 => ?_)
    · have h15 := ndt h15
      refine sra rfl ⟨true, ⟨rfl, rfl, rfl, trivial⟩, ⟨rfl, rfl, rfl, rfl, trivial⟩, Ext.refl _ _, ⟨fun _ h => h15 h.1, fun _ => rfl⟩⟩
    · have h15 := ndf h15
      refine sr 2 rfl ?_
      refine s_op rfl (oints [s] loud_n rfl (by decide) rfl rfl rfl fun q st1 hq e1 => ?_)
      refine s_op rfl (o_ex loud_n rfl (l5Is_c _ _ _ _ _ _ _ _ (hx.ex e1) hq.at_ hl (by simp) (by simp)) ?_)
      rintro v2 st2 rfl e2
      refine sra rfl ⟨_, ⟨rfl, rfl, rfl, trivial⟩, ⟨rfl, rfl, rfl, rfl, trivial⟩, e1.tr e2, ?_⟩
      exact ⟨fun h k => nbt h k.2, fun h => (by rw [bdf.2 fun k => h ⟨h15, k⟩]; rfl)⟩
  rintro b st1 ⟨e1, hb⟩
  refine c_if rfl (fun h19 => ?_) (fun h19 => ?_)
  · have h19 := hb.1 h19
    refine c_rs (by kernel_rfl) ?_   -- region 2
    refine sr 1 rfl ?_
    refine s_op rfl (o_ex loud_n rfl (l5Zero_c _ _ _ _ (hx.ex e1) hl) ?_)
    rintro v2 st2 ⟨q, rfl, hf⟩ e2
    refine sra rfl ?_
    refine c_ret (fr rfl ⟨q, ?_, ?_⟩)
    · rw [fwL, fwV, fwO, gL_f h19, gV_f h19, gO_f h19]
    · rw [fwL, gL_f h19]; exact hf.le e1.n
  · have h19 : FnOk l c s := Classical.byContradiction fun h => by rw [hb.2 h] at h19; cases h19
    refine c_skip ?_
    refine c_rs (by kernel_rfl) ?_   -- region 3
    refine sr 1 rfl ?_
    refine s_op rfl (o_ex loud_n rfl (l2Copy_c _ _ _ _ (hx.ex e1) hl) ?_)
    rintro v2 st2 ⟨q, rfl, hf⟩ e2
    have hf := hf.le e1.n
    refine sr 2 rfl ?_
    refine s_op rfl (o_call rfl (l6Fun_c _ _ _ c s _ hf h19.2.2.1.1) (fun i hi h => absurd hi (by have := hf.bd i h; omega)) (.inl rfl) ?_)
    rintro v3 st3 ⟨rfl, hf3, _⟩ e3
    refine sra rfl ?_
    refine crr (by kernel_rfl) rfl ?_   -- region 4
    refine c_ret (fr rfl ⟨q, ?_, ?_⟩)
    · rw [fwL, fwV, fwO, gL_t h19, gV_t h19, gO_t h19]
    · rw [fwL, gL_t h19]; exact hf3
end Go.Proofs.YtfhkjhnaihhdmaaW.Ax
