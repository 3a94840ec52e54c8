/- Own: walked. -/
import Derived.Test.YtfhkjhnaihhdmaaGreatQ4
namespace Go.Proofs.YtfhkjhnaihhdmaaGreatW.Ax
open Go Go.RowKit Go.Proofs Go.Proofs.YtfhkjhnaihhdmaaGreat.Pure
set_option linter.unusedVariables false
set_option maxRecDepth 100000

noncomputable def OwG (l : List Int) (obj name : Int) : AV := .tup [I (gV (OwOk l obj name) (ownV l obj name)), .bool (gO (OwOk l obj name) (ownC l obj name).isSome)]
theorem iOwn_c (r : Option Nat) (o : Nat) (l : List Int) (obj name : Int) (st : St) (hx : At st r o l) (hl : l.length ≤ 1048576) : ACalls Tryz.prog 51 [.agg [.sl r o l.length], I obj, I name] st No (Pv (OwG l obj name)) := by
  have hR := ow_iff l obj name
  refine ent (N := 23) Tryz.func51 rfl (by decide) rfl rfl rfl ?_
  refine crr (by kernel_rfl) rfl ?_   -- region 0
  refine c_seq ?_
  refine c_rs (by kernel_rfl) ?_   -- region 1
  refine sr 3 rfl ?_
  refine s_op rfl (oints [obj, name] loud_n rfl (by decide) rfl rfl rfl fun q st1 hq e1 => ?_)
  refine s_op rfl (oints [5] loud_n rfl (by decide) rfl rfl rfl fun q1 st2 hq1 e2 => ?_)
  refine s_op rfl (oints [4] loud_n rfl (by decide) rfl rfl rfl fun q2 st3 hq2 e3 => ?_)
  refine s_op rfl (oblk [.sl (some q1) 0 1, .sl (some q2) 0 1] loud_n rfl (by decide) rfl rfl fun q3 st4 hq3 e4 => ?_)
  have e24 := (e2.tr e3).tr e4
  refine s_op rfl (o_ex loud_n rfl (ready2_c _ _ _ _ _ _ l [5] [4] obj name _ (hx.ex (e1.tr e24)) (hq.at_.ex e24) hl (hq3 0) (hq1.at_.ex (e3.tr e4)) (by decide) (hq3 1) (hq2.at_.ex e4) (by decide)) ?_)
  rintro v5 st5 rfl e5
  have e15 := (e1.tr e24).tr e5
  refine sra rfl ?_
  refine c_if rfl (fun h16 => ?_) (fun h16 => ?_)
  · have h16 : ¬ OwOk l obj name := fun h => nbt h16 (hR.2 h)
    refine crr (by kernel_rfl) rfl ?_   -- region 2
    refine c_ret (fr rfl ?_)
    show _ = OwG l obj name
    rw [OwG, gV_f h16, gO_f h16]
  · have h16 : OwOk l obj name := hR.1 (nbf h16)
    refine c_skip ?_
    refine c_rs (by kernel_rfl) ?_   -- region 3
    refine sr 3 rfl ?_
    refine s_op rfl (o_ex loud_n rfl (own_c _ _ _ obj name _ (hx.ex e15) (ow_in h16)) ?_)
    rintro v3 st3 rfl e3
    refine sra rfl ?_
    refine c_ret (fr rfl ?_)
    show _ = OwG l obj name
    rw [OwG, gV_t h16, gO_t h16]
end Go.Proofs.YtfhkjhnaihhdmaaGreatW.Ax
