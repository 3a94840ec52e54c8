/- PropSet: walked. -/
import Derived.Test.YtfhkjhnaihhdmaaZe
import Derived.Test.YtfhkjhnaihhdmaaXU
namespace Go.Proofs.YtfhkjhnaihhdmaaW.Ax
open Go Go.RowKit Go.Proofs Go.Proofs.Ytfhkjhnaihhdmaa.Pure
set_option linter.unusedVariables false
set_option maxRecDepth 100000

theorem l5Round_c (r : Option Nat) (o : Nat) (l : List Int) (obj : Int) (st : St) (hx : At st r o l) (h : ObjIn l obj) : ACalls Try.prog 159 [.agg [.sl r o l.length], I obj] st No (Pure1 (.bool (cellsR l obj).2) st) := by
  obtain ⟨hp, ho⟩ := h
  have hb := obj_at hp ho
  have hcr := cells_rf hp ho
  refine ent (N := 34) Try.func159 rfl (by decide) rfl rfl rfl ?_
  refine crr (by kernel_rfl) rfl ?_   -- region 0
  refine cds [0, 1, 2, 3, 4, 5, 6, 7] [.q, .q, .q, .f, .q, .q, .q, .q] (by kernel_rfl) (by kernel_rfl) ?_   -- region 1
  refine sr 3 rfl ?_
  refine s_op rfl (o_pure loud_f rfl (Num_c ..) ?_)
  refine s_op rfl (o_ar rfl rfl rfl (by omega) (by omega) ?_)
  refine s_op rfl (oidx rfl rfl rfl (by omega) (by omega) ?_)
  refine s_op rfl (old rfl rfl (hx.rd (by omega) (by omega)) ?_)
  refine sra rfl ?_
  refine crr (by kernel_rfl) rfl ?_   -- region 2
  refine c_seq ?_
  refine c_block ?_
  refine c_lp (α := Nat × Int) (fun i => [(5, I i.2), (6, I i.1)]) (fun _ => [(2, 2, [.sl r o l.length])])
    (fun i st' => st = st' ∧ i.1 ≤ l.length ∧ ((∃ d out, Way l (cellsR l obj) d i.2 out ∧ out.length = i.1) ∨
      ((cellsR l obj).2 = true ∧ i.2 ∈ (cellsR l obj).1 ∧ ∀ x ∈ (cellsR l obj).1, nxC l x ∈ (cellsR l obj).1))) (fun i => l.length - i.1) (0, rd l (obj / 8 + 2)) ⟨rfl, rfl, trivial⟩ ⟨rfl, rfl, trivial⟩
    ⟨rfl, by omega, .inl ⟨_, [], way_start hp ho, rfl⟩⟩ ?_
  rintro ⟨n, v⟩ st' ⟨rfl, hn, hI⟩
  dsimp only at *
  have hnx : Nxt l v 3 := by
    rcases hI with ⟨d, out, hw, _⟩ | ⟨_, hm, _⟩
    · exact hw.nx
    · exact .inr (hcr v hm)
  refine c_seq ?_
  refine c_rj [(5, I v), (6, I n), (22, .bool (decide (v ≠ 0 ∧ n < l.length)))] [(2, 2, [.sl r o l.length])] (by kernel_rfl) ?_ ?_
  · -- region 3
    refine sr 3 rfl ?_
    refine s_bool 16 rfl rfl (fun h16 => ?_) (fun h16 => ?_)
    · have h16 := ndt h16
      refine sra rfl ⟨⟨rfl, rfl, ?_, trivial⟩, ⟨rfl, rfl, trivial⟩, rfl⟩
      show AV.bool (decide _) = AV.bool (decide _)
      congr 1
      exact decide_eq_decide.2 ⟨fun h => ⟨h16, by omega⟩, fun h => by omega⟩
    · have h16 := ndf h16
      refine sra rfl ⟨⟨rfl, rfl, ?_, trivial⟩, ⟨rfl, rfl, trivial⟩, rfl⟩
      show AV.bool false = AV.bool (decide _)
      rw [decide_eq_false fun h => h.1 h16]
  refine c_if rfl (fun h22 => ?_) (fun h22 => ?_)
  · -- then
    obtain ⟨hv, hnl⟩ := of_decide_eq_true h22
    have hrf := hnx.resolve_left hv
    have hc := cell_at hp hrf
    refine c_skip ?_
    refine c_block ?_
    refine cds [0, 1, 2, 3, 4, 5, 6, 7] [.q, .q, .q, .f, .q, .q, .q, .q] (by kernel_rfl) (by kernel_rfl) ?_   -- region 4
    refine sr 3 rfl ?_
    refine s_op rfl (o_pure loud_f rfl (Num_c ..) ?_)
    refine s_op rfl (o_ar rfl rfl rfl (by omega) (by omega) ?_)
    refine s_op rfl (oidx rfl rfl rfl (by omega) (by omega) ?_)
    refine s_op rfl (old rfl rfl (hx.rd (by omega) (by omega)) ?_)
    refine sra rfl ?_
    refine c_region (by kernel_rfl) ?_   -- region 5
    refine sr 1 rfl ?_
    refine s_op rfl (o_ar rfl rfl rfl (by omega) (by omega) ?_)
    refine sra rfl ⟨(n + 1, nxC l v), ⟨rfl, rfl, trivial⟩, ⟨rfl, rfl, trivial⟩, ⟨rfl, by dsimp only; omega, ?_⟩, by dsimp only; omega⟩
    dsimp only
    rcases hI with ⟨d, out, hw, hlo⟩ | ⟨h1, hm, hcl⟩
    · obtain ⟨_, d, rfl⟩ := hw.len hb.2.1
      by_cases hvo : v ∈ out
      · obtain ⟨hC, hcl⟩ := hw.on.circle (decide_eq_false hv) hvo
        refine .inr ?_
        rw [hC]
        exact ⟨rfl, hcl v hvo, hcl⟩
      · exact .inl ⟨d, out ++ [v], hw.step hp hv hvo, by simp [hlo]⟩
    · exact .inr ⟨h1, hcl v hm, hcl⟩
  · -- else
    have h22 := of_decide_eq_false h22
    refine c_exit ?_
    refine crr (by kernel_rfl) rfl ?_   -- region 6
    refine c_ret (fr rfl ⟨?_, rfl⟩)
    show AV.bool (!decide (v = 0)) = _
    rcases hI with ⟨d, out, hw, hlo⟩ | ⟨h1, hm, hcl⟩
    · obtain ⟨hol, d, rfl⟩ := hw.len hb.2.1
      have hv : v = 0 := Classical.byContradiction fun h => h22 ⟨h, by omega⟩
      rw [hw.on.stop_ (decide_eq_true hv), decide_eq_true hv]; rfl
    · have hv : v ≠ 0 := by have := (hcr v hm).1; omega
      rw [h1, decide_eq_false hv]; rfl
def PtOk (l : List Int) (obj name v : Int) : Prop := name % 8 = 4 ∧ v % 8 ≠ 7 ∧ Isk l [obj, name, v] 5
theorem pt_in {l : List Int} {obj name v : Int} (h : PtOk l obj name v) : ObjIn l obj := by
  have h1 : obj % 8 = 5 := by simpa [rd] using h.2.2.1
  exact ⟨h.2.2.2.1, (leads_rf (h.2.2.2.2 obj (by simp))).2.1 h1⟩
noncomputable def pqL (l : List Int) (obj name v : Int) : List Int := gL (PtOk l obj name v) (psetL l obj name v) l
noncomputable def pqO (l : List Int) (obj name v : Int) : Bool := gO (PtOk l obj name v) (psetO l obj name)
theorem pqL_len (l : List Int) (obj name v : Int) : (pqL l obj name v).length ≤ l.length := gL_len (by rw [psetL_len]; exact Nat.le_refl _)
theorem PropSet_c (r : Option Nat) (o : Nat) (l : List Int) (obj name v : Int) (st : St) (hx : At st r o l) (hl : l.length ≤ 1048576) : ACalls Try.prog 151 [.agg [.sl r o l.length], I obj, I name, I v] st No (Ns st (pqL l obj name v) (pqO l obj name v)) := by
  refine ent (N := 49) Try.func151 rfl (by decide) rfl rfl rfl ?_
  refine crr (by kernel_rfl) rfl ?_   -- region 0
  refine c_seq ?_
  refine c_sj (α := Bool) (fun b => [(1, I obj), (2, I name), (3, I v), (34, .bool b)]) (fun _ => [(4, 4, [.sl r o l.length]), (8, 8, [.sl none 0 0])]) (fun b st' => Ex st st' ∧ (b = true ↔ ¬ (PtOk l obj name v ∧ (cellsR l obj).2 = false))) ?_ ?_
  · -- region 1
    refine c_region (by kernel_rfl) ?_
    refine sr 1 rfl ?_
    refine s_op rfl (o_pure loud_n rfl (Kind_c ..) ?_)
    refine sr 2 rfl ?_
    refine s_bool 16 rfl rfl (fun h16 => ?_) (fun h16 => ?_)
    · have h16 := ndt h16
      refine sra rfl ⟨true, ⟨rfl, rfl, rfl, rfl, trivial⟩, ⟨rfl, rfl, rfl, rfl, trivial⟩, Ext.refl _ _, ⟨fun _ h => h16 h.1.1, fun _ => rfl⟩⟩
    · have h16 := ndf h16
      refine sr 1 rfl ?_
      refine s_op rfl (o_pure loud_n rfl (Kind_c ..) ?_)
      refine sr 3 rfl ?_
      refine s_bool 21 rfl rfl (fun h21 => ?_) (fun h21 => ?_)
      · have h21 := of_decide_eq_true h21
        refine sra rfl ⟨true, ⟨rfl, rfl, rfl, rfl, trivial⟩, ⟨rfl, rfl, rfl, rfl, trivial⟩, Ext.refl _ _, ⟨fun _ h => h.1.2.1 h21, fun _ => rfl⟩⟩
      · have h21 := of_decide_eq_false h21
        refine sr 4 rfl ?_
        refine s_op rfl (oints [obj, name, v] loud_n rfl (by decide) rfl rfl rfl fun q st1 hq e1 => ?_)
        refine s_op rfl (o_ex loud_n rfl (l5Is_c _ _ _ _ _ _ _ _ (hx.ex e1) hq.at_ hl (by simp) (by simp)) ?_)
        rintro v2 st2 rfl e2
        refine sr 3 rfl ?_
        refine s_bool 30 rfl rfl (fun h30 => ?_) (fun h30 => ?_)
        · have h30 := nbt h30
          refine sra rfl ⟨true, ⟨rfl, rfl, rfl, rfl, trivial⟩, ⟨rfl, rfl, rfl, rfl, trivial⟩, e1.tr e2, ⟨fun _ h => h30 h.1.2.2, fun _ => rfl⟩⟩
        · have h30 := nbf h30
          have hok : PtOk l obj name v := ⟨h16, h21, h30⟩
          refine sr 2 rfl ?_
          refine s_op rfl (o_pure loud_n rfl (l5Round_c _ _ _ obj _ (hx.ex (e1.tr e2)) (pt_in hok)) ?_)
          refine sra rfl ⟨_, ⟨rfl, rfl, rfl, rfl, trivial⟩, ⟨rfl, rfl, rfl, rfl, trivial⟩, e1.tr e2, ?_⟩
          show (cellsR l obj).2 = true ↔ _
          refine ⟨fun h k => (by rw [k.2] at h; cases h), fun h => ?_⟩
          cases hc : (cellsR l obj).2 with
          | true => rfl
          | false => exact absurd ⟨hok, hc⟩ h
  rintro b st1 ⟨e1, hb⟩
  refine c_if rfl (fun h34 => ?_) (fun h34 => ?_)
  · have h34 := hb.1 h34
    have hz : pqL l obj name v = zl l ∧ pqO l obj name v = false := by
      by_cases hok : PtOk l obj name v
      · have hc : (cellsR l obj).2 = true := by
          cases hc : (cellsR l obj).2 with
          | true => rfl
          | false => exact absurd ⟨hok, hc⟩ h34
        obtain ⟨t1, _, t3⟩ := pset_t (name := name) (v := v) hc
        unfold pqL pqO
        rw [gL_t hok, gO_t hok, t1, t3, zl_t (pt_in hok).1]
        exact ⟨rfl, rfl⟩
      · unfold pqL pqO
        rw [gL_f hok, gO_f hok]
        exact ⟨rfl, rfl⟩
    refine c_rs (by kernel_rfl) ?_   -- region 2
    refine sr 1 rfl ?_
    refine s_op rfl (o_ex loud_n rfl (l5Zero_c _ _ _ _ (hx.ex e1) hl) ?_)
    rintro v2 st2 ⟨q, rfl, hf⟩ e2
    refine sra rfl ?_
    refine c_ret (fr rfl ⟨q, ?_, ?_⟩)
    · rw [hz.1, hz.2]
    · rw [hz.1]; exact hf.le e1.n
  · have h34 : PtOk l obj name v ∧ (cellsR l obj).2 = false := Classical.byContradiction fun h => by rw [hb.2 h] at h34; cases h34
    obtain ⟨t1, _, t3⟩ := pset_f (name := name) (v := v) h34.2
    refine c_skip ?_
    refine c_rs (by kernel_rfl) ?_   -- region 3
    refine sr 1 rfl ?_
    refine s_op rfl (o_ex loud_n rfl (l2Copy_c _ _ _ _ (hx.ex e1) hl) ?_)
    rintro v2 st2 ⟨q, rfl, hf⟩ e2
    have hf := hf.le e1.n
    refine sr 3 rfl ?_
    refine s_op rfl (o_call rfl (l5Set_c _ _ _ obj name v _ hf (pt_in h34.1) h34.2) (fun i hi h => absurd hi (by have := hf.bd i h; omega)) (.inl rfl) ?_)
    rintro v3 st3 ⟨rfl, hf3, _⟩ e3
    refine sra rfl ?_
    refine crr (by kernel_rfl) rfl ?_   -- region 4
    refine c_ret (fr rfl ⟨q, ?_, ?_⟩)
    · rw [pqL, pqO, gL_t h34.1, gO_t h34.1, t1, t3]
    · rw [pqL, gL_t h34.1, t1]; exact hf3
/-- What the slices hold that are asked about, in whatever order they are made. -/
def PhiP (obj name v : Int) : Nat → AV → St → Prop
  | 4, x, st => ∃ q, x = .sl (some q) 0 3 ∧ At st (some q) 0 [obj, name, v]
  | 5, x, st => ∃ q, x = .sl (some q) 0 1 ∧ At st (some q) 0 [5]
  | 6, x, st => ∃ q, x = .sl (some q) 0 1 ∧ At st (some q) 0 [4]
  | 7, x, st => ∃ q, x = .sl (some q) 0 7 ∧ At st (some q) 0 [0, 1, 2, 3, 4, 5, 6]
  | 8, x, st => ∃ q q1 q2 q3, x = .sl (some q) 0 3 ∧ (cell st (some q) 0 = some (.sl (some q1) 0 1) ∧ At st (some q1) 0 [5]) ∧ (cell st (some q) 1 = some (.sl (some q2) 0 1) ∧ At st (some q2) 0 [4]) ∧ (cell st (some q) 2 = some (.sl (some q3) 0 7) ∧ At st (some q3) 0 [0, 1, 2, 3, 4, 5, 6])
  | _, _, _ => True
theorem phiP_ex (obj name v : Int) : ∀ i x st st', PhiP obj name v i x st → Ex st st' → PhiP obj name v i x st'
  | 4, x, st, st', ⟨q, h1, h2⟩, he => ⟨q, h1, h2.ex he⟩
  | 5, x, st, st', ⟨q, h1, h2⟩, he => ⟨q, h1, h2.ex he⟩
  | 6, x, st, st', ⟨q, h1, h2⟩, he => ⟨q, h1, h2.ex he⟩
  | 7, x, st, st', ⟨q, h1, h2⟩, he => ⟨q, h1, h2.ex he⟩
  | 8, x, st, st', ⟨q, q1, q2, q3, h0, ⟨h1, h2⟩, ⟨h3, h4⟩, h5, h6⟩, he => ⟨q, q1, q2, q3, h0, ⟨cell_ext he h1 (fun _ _ h => h), h2.ex he⟩, ⟨cell_ext he h3 (fun _ _ h => h), h4.ex he⟩, cell_ext he h5 (fun _ _ h => h), h6.ex he⟩
  | 0, _, _, _, _, _ => trivial
  | 1, _, _, _, _, _ => trivial
  | 2, _, _, _, _, _ => trivial
  | 3, _, _, _, _, _ => trivial
  | _ + 9, _, _, _, _, _ => trivial
end Go.Proofs.YtfhkjhnaihhdmaaW.Ax
