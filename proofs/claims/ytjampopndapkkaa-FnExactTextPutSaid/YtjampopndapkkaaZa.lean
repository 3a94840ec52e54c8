/- Look: walked. -/
import Derived.Test.YtjampopndapkkaaYy
namespace Go.Proofs.YtjampopndapkkaaW.Ax
open Go Go.RowKit Go.Proofs Go.Proofs.Ytjampopndapkkaa.Pure
set_option linter.unusedVariables false
set_option maxRecDepth 100000

noncomputable def LookG (l : List Int) (obj name : Int) : AV := .tup [I (gV (OwOk l obj name) (lookV l obj name)), .bool (gO (OwOk l obj name) (lookC l obj name).isSome)]
theorem Look_c (r : Option Nat) (o : Nat) (l : List Int) (obj name : Int) (st : St) (hx : At st r o l) (hl : l.length ≤ 1048576) : ACalls Try.prog 28 [.agg [.sl r o l.length], I obj, I name] st No (Pv (LookG l obj name)) := by
  refine ent (N := 30) Try.func28 rfl (by decide) rfl rfl rfl ?_
  refine crr (by kernel_rfl) rfl ?_   -- region 0
  refine c_seq ?_
  refine c_sj (α := Bool) (fun b => [(1, I obj), (2, I name), (20, .bool b)]) (fun _ => [(3, 3, [.sl r o l.length])]) (fun b st' => Ex st st' ∧ (b = true ↔ ¬ OwOk l obj name)) ?_ ?_
  · -- region 1
    refine c_region (by kernel_rfl) ?_
    refine sr 1 rfl ?_
    refine s_op rfl (o_pure loud_n rfl (Kind_c ..) ?_)
    refine sr 2 rfl ?_
    refine s_bool 13 rfl rfl (fun h13 => ?_) (fun h13 => ?_)
    · have h13 := ndt h13
      refine sra rfl ⟨true, ⟨rfl, rfl, rfl, trivial⟩, ⟨rfl, rfl, trivial⟩, Ext.refl _ _, ⟨fun _ h => h13 h.1, fun _ => rfl⟩⟩
    · have h13 := ndf h13
      refine sr 3 rfl ?_
      refine s_op rfl (oints [obj, name] loud_n rfl (by decide) rfl rfl rfl fun q st1 hq e1 => ?_)
      refine s_op rfl (o_ex loud_n rfl (l5Is_c _ _ _ _ _ _ _ _ (hx.ex e1) hq.at_ hl (by simp) (by simp)) ?_)
      rintro v2 st2 rfl e2
      refine sra rfl ⟨_, ⟨rfl, rfl, rfl, trivial⟩, ⟨rfl, rfl, trivial⟩, e1.tr e2, ?_⟩
      exact ⟨fun h k => nbt h k.2, fun h => (by rw [bdf.2 fun k => h ⟨h13, k⟩]; rfl)⟩
  rintro b st1 ⟨e1, hb⟩
  refine c_if rfl (fun h20 => ?_) (fun h20 => ?_)
  · have h20 := hb.1 h20
    refine crr (by kernel_rfl) rfl ?_   -- region 2
    refine c_ret (fr rfl ?_)
    show _ = LookG l obj name
    rw [LookG, gV_f h20, gO_f h20]
  · have h20 : OwOk l obj name := Classical.byContradiction fun h => by rw [hb.2 h] at h20; cases h20
    refine c_skip ?_
    refine c_rs (by kernel_rfl) ?_   -- region 3
    refine sr 3 rfl ?_
    refine s_op rfl (o_ex loud_n rfl (l5Look_c _ _ _ obj name _ (hx.ex e1) (ow_in h20)) ?_)
    rintro v3 st3 rfl e3
    refine sra rfl ?_
    refine crr (by kernel_rfl) rfl ?_   -- region 4
    refine c_ret (fr rfl ?_)
    show _ = LookG l obj name
    rw [LookG, gV_t h20, gO_t h20]
theorem iLook_c (r : Option Nat) (o : Nat) (l : List Int) (obj name : Int) (st : St) (hx : At st r o l) (hl : l.length ≤ 1048576) : ACalls Try.prog 29 [.agg [.sl r o l.length], I obj, I name] st No (Pv (LookG l obj name)) := by
  have hR := ow_iff l obj name
  refine ent (N := 23) Try.func29 rfl (by decide) rfl rfl rfl ?_
  refine crr (by kernel_rfl) rfl ?_   -- region 0
  refine c_seq ?_
  refine c_rs (by kernel_rfl) ?_   -- region 1
  refine sr 3 rfl ?_
  refine s_op rfl (oints [obj, name] loud_n rfl (by decide) rfl rfl rfl fun q st1 hq e1 => ?_)
  refine s_op rfl (oints [5] loud_n rfl (by decide) rfl rfl rfl fun q1 st2 hq1 e2 => ?_)
  refine s_op rfl (oints [4] loud_n rfl (by decide) rfl rfl rfl fun q2 st3 hq2 e3 => ?_)
  refine s_op rfl (oblk [.sl (some q1) 0 1, .sl (some q2) 0 1] loud_n rfl (by decide) rfl rfl fun q3 st4 hq3 e4 => ?_)
  have e24 := (e2.tr e3).tr e4
  refine s_op rfl (o_ex loud_n rfl (ready2_c _ _ _ _ _ _ l [5] [4] obj name _ (hx.ex (e1.tr e24)) (hq.at_.ex e24) hl (hq3 0) (hq1.at_.ex (e3.tr e4)) (by decide) (hq3 1) (hq2.at_.ex e4) (by decide)) ?_)
  rintro v5 st5 rfl e5
  have e15 := (e1.tr e24).tr e5
  refine sra rfl ?_
  refine c_if rfl (fun h16 => ?_) (fun h16 => ?_)
  · have h16 : ¬ OwOk l obj name := fun h => nbt h16 (hR.2 h)
    refine crr (by kernel_rfl) rfl ?_   -- region 2
    refine c_ret (fr rfl ?_)
    show _ = LookG l obj name
    rw [LookG, gV_f h16, gO_f h16]
  · have h16 : OwOk l obj name := hR.1 (nbf h16)
    refine c_skip ?_
    refine c_rs (by kernel_rfl) ?_   -- region 3
    refine sr 3 rfl ?_
    refine s_op rfl (o_ex loud_n rfl (look_c _ _ _ obj name _ (hx.ex e15) (ow_in h16)) ?_)
    rintro v3 st3 rfl e3
    refine sra rfl ?_
    refine c_ret (fr rfl ?_)
    show _ = LookG l obj name
    rw [LookG, gV_t h16, gO_t h16]
end Go.Proofs.YtjampopndapkkaaW.Ax
