/- Merged: Za Zb Zc Zd Ze Zf. -/
import Derived.Test.YtfnfiapacbeemaaQ4
import Derived.Test.YtfnfiapacbeemaaQ3
import Derived.Test.YtfnfiapacbeemaaXU
/- Look: walked. -/
namespace Go.Proofs.YtfnfiapacbeemaaW.Ax
open Go Go.RowKit Go.Proofs Go.Proofs.Ytfnfiapacbeemaa.Pure
set_option linter.unusedVariables false
set_option maxRecDepth 100000

end Go.Proofs.YtfnfiapacbeemaaW.Ax

/- TextPut: walked. -/
namespace Go.Proofs.YtfnfiapacbeemaaW.Ax
open Go Go.RowKit Go.Proofs Go.Proofs.Ytfnfiapacbeemaa.Pure
set_option linter.unusedVariables false
set_option maxRecDepth 100000

end Go.Proofs.YtfnfiapacbeemaaW.Ax

/- FunNew: walked. -/
namespace Go.Proofs.YtfnfiapacbeemaaW.Ax
open Go Go.RowKit Go.Proofs Go.Proofs.Ytfnfiapacbeemaa.Pure
set_option linter.unusedVariables false
set_option maxRecDepth 100000

end Go.Proofs.YtfnfiapacbeemaaW.Ax

/- FunNew: walked. -/
namespace Go.Proofs.YtfnfiapacbeemaaW.Ax
open Go Go.RowKit Go.Proofs Go.Proofs.Ytfnfiapacbeemaa.Pure
set_option linter.unusedVariables false
set_option maxRecDepth 100000

end Go.Proofs.YtfnfiapacbeemaaW.Ax

/- PropSet: walked. -/
namespace Go.Proofs.YtfnfiapacbeemaaW.Ax
open Go Go.RowKit Go.Proofs Go.Proofs.Ytfnfiapacbeemaa.Pure
set_option linter.unusedVariables false
set_option maxRecDepth 100000

end Go.Proofs.YtfnfiapacbeemaaW.Ax

/- PropSet: walked. -/
namespace Go.Proofs.YtfnfiapacbeemaaW.Ax
open Go Go.RowKit Go.Proofs Go.Proofs.Ytfnfiapacbeemaa.Pure
set_option linter.unusedVariables false
set_option maxRecDepth 100000

theorem l5Round_c (r : Option Nat) (o : Nat) (l : List Int) (obj : Int) (st : St) (hx : At st r o l) (h : ObjIn l obj) : ACalls Try.prog 15 [.agg [.sl r o l.length], I obj] st No (Pure1 (.bool (cellsR l obj).2) st) := by
  obtain ⟨hp, ho⟩ := h
  have hb := obj_at hp ho
  have hcr := cells_rf hp ho
  refine ent (N := 34) Try.func15 rfl (by decide) rfl rfl rfl ?_
  refine crr (by kernel_rfl) rfl ?_   -- region 0
  refine cds [0, 1, 2, 3, 4, 5, 6, 7] [.q, .q, .q, .f, .q, .q, .q, .q] (by kernel_rfl) (by kernel_rfl) ?_   -- region 1
  refine sr 3 rfl ?_
  refine s_op rfl (o_pure loud_f rfl (Num_c ..) ?_)
  refine s_op rfl (o_ar rfl rfl rfl (by omega) (by omega) ?_)
  refine s_op rfl (oidx rfl rfl rfl (by omega) (by omega) ?_)
  refine s_op rfl (old rfl rfl (hx.rd (by omega) (by omega)) ?_)
  refine sra rfl ?_
  refine crr (by kernel_rfl) rfl ?_   -- region 2
  refine c_seq ?_
  refine c_block ?_
  refine c_lp (α := Nat × Int) (fun i => [(5, I i.2), (6, I i.1)]) (fun _ => [(2, 2, [.sl r o l.length])])
    (fun i st' => st = st' ∧ i.1 ≤ l.length ∧ ((∃ d out, Way l (cellsR l obj) d i.2 out ∧ out.length = i.1) ∨
      ((cellsR l obj).2 = true ∧ i.2 ∈ (cellsR l obj).1 ∧ ∀ x ∈ (cellsR l obj).1, nxC l x ∈ (cellsR l obj).1))) (fun i => l.length - i.1) (0, rd l (obj / 8 + 2)) ⟨rfl, rfl, trivial⟩ ⟨rfl, rfl, trivial⟩
    ⟨rfl, by omega, .inl ⟨_, [], way_start hp ho, rfl⟩⟩ ?_
  rintro ⟨n, v⟩ st' ⟨rfl, hn, hI⟩
  dsimp only at *
  have hnx : Nxt l v 3 := by
    rcases hI with ⟨d, out, hw, _⟩ | ⟨_, hm, _⟩
    · exact hw.nx
    · exact .inr (hcr v hm)
  refine c_seq ?_
  refine c_rj [(5, I v), (6, I n), (22, .bool (decide (v ≠ 0 ∧ n < l.length)))] [(2, 2, [.sl r o l.length])] (by kernel_rfl) ?_ ?_
  · -- region 3
    refine sr 3 rfl ?_
    refine s_bool 16 rfl rfl (fun h16 => ?_) (fun h16 => ?_)
    · have h16 := ndt h16
      refine sra rfl ⟨⟨rfl, rfl, ?_, trivial⟩, ⟨rfl, rfl, trivial⟩, rfl⟩
      show AV.bool (decide _) = AV.bool (decide _)
      congr 1
      exact decide_eq_decide.2 ⟨fun h => ⟨h16, by omega⟩, fun h => by omega⟩
    · have h16 := ndf h16
      refine sra rfl ⟨⟨rfl, rfl, ?_, trivial⟩, ⟨rfl, rfl, trivial⟩, rfl⟩
      show AV.bool false = AV.bool (decide _)
      rw [decide_eq_false fun h => h.1 h16]
  refine c_if rfl (fun h22 => ?_) (fun h22 => ?_)
  · -- then
    obtain ⟨hv, hnl⟩ := of_decide_eq_true h22
    have hrf := hnx.resolve_left hv
    have hc := cell_at hp hrf
    refine c_skip ?_
    refine c_block ?_
    refine cds [0, 1, 2, 3, 4, 5, 6, 7] [.q, .q, .q, .f, .q, .q, .q, .q] (by kernel_rfl) (by kernel_rfl) ?_   -- region 4
    refine sr 3 rfl ?_
    refine s_op rfl (o_pure loud_f rfl (Num_c ..) ?_)
    refine s_op rfl (o_ar rfl rfl rfl (by omega) (by omega) ?_)
    refine s_op rfl (oidx rfl rfl rfl (by omega) (by omega) ?_)
    refine s_op rfl (old rfl rfl (hx.rd (by omega) (by omega)) ?_)
    refine sra rfl ?_
    refine c_region (by kernel_rfl) ?_   -- region 5
    refine sr 1 rfl ?_
    refine s_op rfl (o_ar rfl rfl rfl (by omega) (by omega) ?_)
    refine sra rfl ⟨(n + 1, nxC l v), ⟨rfl, rfl, trivial⟩, ⟨rfl, rfl, trivial⟩, ⟨rfl, by dsimp only; omega, ?_⟩, by dsimp only; omega⟩
    dsimp only
    rcases hI with ⟨d, out, hw, hlo⟩ | ⟨h1, hm, hcl⟩
    · obtain ⟨_, d, rfl⟩ := hw.len hb.2.1
      by_cases hvo : v ∈ out
      · obtain ⟨hC, hcl⟩ := hw.on.circle (decide_eq_false hv) hvo
        refine .inr ?_
        rw [hC]
        exact ⟨rfl, hcl v hvo, hcl⟩
      · exact .inl ⟨d, out ++ [v], hw.step hp hv hvo, by simp [hlo]⟩
    · exact .inr ⟨h1, hcl v hm, hcl⟩
  · -- else
    have h22 := of_decide_eq_false h22
    refine c_exit ?_
    refine crr (by kernel_rfl) rfl ?_   -- region 6
    refine c_ret (fr rfl ⟨?_, rfl⟩)
    show AV.bool (!decide (v = 0)) = _
    rcases hI with ⟨d, out, hw, hlo⟩ | ⟨h1, hm, hcl⟩
    · obtain ⟨hol, d, rfl⟩ := hw.len hb.2.1
      have hv : v = 0 := Classical.byContradiction fun h => h22 ⟨h, by omega⟩
      rw [hw.on.stop_ (decide_eq_true hv), decide_eq_true hv]; rfl
    · have hv : v ≠ 0 := by have := (hcr v hm).1; omega
      rw [h1, decide_eq_false hv]; rfl
end Go.Proofs.YtfnfiapacbeemaaW.Ax
