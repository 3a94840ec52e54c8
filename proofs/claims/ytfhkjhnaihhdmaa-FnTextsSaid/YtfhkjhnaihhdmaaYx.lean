/- The cells of an object: walked. -/
import Derived.Test.YtfhkjhnaihhdmaaYu
namespace Go.Proofs.YtfhkjhnaihhdmaaW.Ax
open Go Go.RowKit Go.Proofs Go.Proofs.Ytfhkjhnaihhdmaa.Pure
set_option linter.unusedVariables false
set_option maxRecDepth 100000

theorem find_at {p : Int → Bool} : ∀ {l : List Int} {i : Nat}, i < l.length → (∀ j : Nat, j < i → p (l.getD j 0) = false) → p (l.getD i 0) = true → l.find? p = some (l.getD i 0)
  | [], i, h, _, _ => by simp at h
  | a :: l, 0, _, _, hi => by
    have hi : p a = true := by simpa using hi
    simp [List.find?, hi]
  | a :: l, i + 1, h, hn, hi => by
    have h0 : p a = false := by simpa using hn 0 (by omega)
    have := find_at (p := p) (l := l) (i := i) (by simpa using h) (fun j hj => by simpa using hn (j + 1) (by omega)) (by simpa using hi)
    simp [List.find?, h0, this]
theorem find_no {p : Int → Bool} : ∀ {l : List Int}, (∀ j : Nat, j < l.length → p (l.getD j 0) = false) → l.find? p = none
  | [], _ => rfl
  | a :: l, hn => by
    have h0 : p a = false := by simpa using hn 0 (by simp)
    have := find_no (p := p) (l := l) (fun j hj => by simpa using hn (j + 1) (by simpa using hj))
    simp [List.find?, h0, this]
theorem find_mem {p : Int → Bool} {l : List Int} (h : ∀ x ∈ l, p x = false) : l.find? p = none := find_no fun j hj => h _ (by simp [List.getD, hj])
theorem find_app {p : Int → Bool} {l m : List Int} {v : Int} (h : ∀ x ∈ l, p x = false) (hv : p v = true) : (l ++ v :: m).find? p = some v := by
  rw [List.find?_append, find_mem h]
  simp [List.find?, hv]
theorem rd_map8 (l : List Int) (j : Nat) : rd (l.map (· / 8)) j = rd l j / 8 := by
  by_cases h : j < l.length
  · simp [rd, List.getD, h]
  · simp [rd, List.getD, h]
/-- An object's value whose prototype and cells are looked at. -/
def ObjIn (l : List Int) (obj : Int) : Prop := Heap l ∧ Rf l obj 5 2
def lastD (out : List Int) : Int := match out.getLast? with | some v => v / 8 | none => -1
theorem lastD_app (out : List Int) (v : Int) : lastD (out ++ [v]) = v / 8 := by simp [lastD]
def cA (x : Option Int) : Int := match x with | some v => v / 8 | none => -1
def Cl (st : St) (l : List Int) (obj : Int) : AV → St → Prop := fun v st' => ∃ q, v = .tup [.sl q 0 (places l obj).length, .bool (cellsR l obj).2] ∧ Fr st.n st' q (places l obj)
theorem places_len {l : List Int} {obj : Int} (h : ObjIn l obj) : (places l obj).length < l.length := by
  have hb := obj_at h.1 h.2
  have key : ∀ (d : Nat) (v : Int) (out : List Int), Way l (cellsR l obj) d v out → (cellsR l obj).1.length < l.length := by
    intro d
    induction d with
    | zero => intro v out hw; obtain ⟨_, e, he⟩ := hw.len hb.2.1; cases he
    | succ d ih =>
      intro v out hw
      have hl := (hw.len hb.2.1).1
      by_cases hv : v = 0
      · rw [hw.on.stop_ (decide_eq_true hv)]; exact hl
      · by_cases hm : v ∈ out
        · rw [(hw.on.circle (decide_eq_false hv) hm).1]; exact hl
        · exact ih _ _ (hw.step h.1 hv hm)
  unfold places
  rw [List.length_map]
  exact key _ _ _ (way_start h.1 h.2)

/-- The place of the first cell of a name, and the last one that was looked at. -/
def C5 (st : St) (l : List Int) (obj name : Int) : AV → St → Prop := fun v st' => ∃ b, v = .tup [I (cA (ownC l obj name)), I b] ∧ (ownC l obj name = none → (cellsR l obj).2 = false → b = lastD (cellsR l obj).1) ∧ st = st'
theorem l5Cell_c (r : Option Nat) (o : Nat) (l : List Int) (obj name : Int) (st : St) (hx : At st r o l) (h : ObjIn l obj) : ACalls Try.prog 161 [.agg [.sl r o l.length], I obj, I name] st No (C5 st l obj name) := by
  obtain ⟨hp, ho⟩ := h
  have hb := obj_at hp ho
  have hcr := cells_rf hp ho
  refine ent (N := 50) Try.func161 rfl (by decide) rfl rfl rfl ?_
  refine crr (by kernel_rfl) rfl ?_   -- region 0
  refine crr (by kernel_rfl) rfl ?_   -- region 1
  refine cds [0, 1, 2, 3, 4, 5, 6, 7] [.q, .q, .q, .f, .q, .q, .q, .q] (by kernel_rfl) (by kernel_rfl) ?_   -- region 2
  refine sr 3 rfl ?_
  refine s_op rfl (o_pure loud_f rfl (Num_c ..) ?_)
  refine s_op rfl (o_ar rfl rfl rfl (by omega) (by omega) ?_)
  refine s_op rfl (oidx rfl rfl rfl (by omega) (by omega) ?_)
  refine s_op rfl (old rfl rfl (hx.rd (by omega) (by omega)) ?_)
  refine sra rfl ?_
  refine c_seq ?_
  refine crr (by kernel_rfl) rfl ?_   -- region 3
  refine c_block ?_
  refine c_lp (α := Nat × Int × Int) (fun i => [(2, I name), (8, I i.2.2), (9, I i.2.1), (10, I i.1)]) (fun _ => [(3, 3, [.sl r o l.length])])
    (fun i st' => st = st' ∧ i.1 ≤ l.length ∧ ((∃ d out, Way l (cellsR l obj) d i.2.1 out ∧ out.length = i.1 ∧ (∀ x ∈ out, ¬ rd l (x / 8 + 1) = name) ∧ i.2.2 = lastD out) ∨
      ((cellsR l obj).2 = true ∧ (∀ x ∈ (cellsR l obj).1, ¬ rd l (x / 8 + 1) = name) ∧ i.2.1 ∈ (cellsR l obj).1 ∧ ∀ x ∈ (cellsR l obj).1, nxC l x ∈ (cellsR l obj).1))) (fun i => l.length - i.1) (0, rd l (obj / 8 + 2), -1) ⟨rfl, rfl, rfl, rfl, trivial⟩ ⟨rfl, rfl, trivial⟩
    ⟨rfl, by omega, .inl ⟨_, [], way_start hp ho, rfl, fun x hx => by simp at hx, rfl⟩⟩ ?_
  rintro ⟨n, v, last⟩ st' ⟨rfl, hn, hI⟩
  dsimp only at *
  have hnx : Nxt l v 3 := by
    rcases hI with ⟨d, out, hw, _⟩ | ⟨_, _, hm, _⟩
    · exact hw.nx
    · exact .inr (hcr v hm)
  refine c_seq ?_
  refine c_rj [(2, I name), (8, I last), (9, I v), (10, I n), (27, .bool (decide (v ≠ 0 ∧ n < l.length)))] [(3, 3, [.sl r o l.length])] (by kernel_rfl) ?_ ?_
  · -- region 4
    refine sr 3 rfl ?_
    refine s_bool 21 rfl rfl (fun h21 => ?_) (fun h21 => ?_)
    · have h21 := ndt h21
      refine sra rfl ⟨⟨rfl, rfl, rfl, rfl, ?_, trivial⟩, ⟨rfl, rfl, trivial⟩, rfl⟩
      show AV.bool (decide _) = AV.bool (decide _)
      congr 1
      exact decide_eq_decide.2 ⟨fun h => ⟨h21, by omega⟩, fun h => by omega⟩
    · have h21 := ndf h21
      refine sra rfl ⟨⟨rfl, rfl, rfl, rfl, ?_, trivial⟩, ⟨rfl, rfl, trivial⟩, rfl⟩
      show AV.bool false = AV.bool (decide _)
      rw [decide_eq_false fun h => h.1 h21]
  refine c_if rfl (fun h27 => ?_) (fun h27 => ?_)
  · -- then
    obtain ⟨hv, hnl⟩ := of_decide_eq_true h27
    have hrf := hnx.resolve_left hv
    have hc := cell_at hp hrf
    refine c_skip ?_
    refine c_seq ?_
    refine c_block ?_
    refine c_rs (by kernel_rfl) ?_   -- region 6
    refine sr 1 rfl ?_
    refine s_op rfl (o_pure loud_n rfl (Num_c ..) ?_)
    refine sra rfl ?_
    refine c_seq ?_
    refine c_rs (by kernel_rfl) ?_   -- region 7
    refine sr 3 rfl ?_
    refine s_op rfl (o_ar rfl rfl rfl (by omega) (by omega) ?_)
    refine s_op rfl (oidx rfl rfl rfl (by omega) (by omega) ?_)
    refine s_op rfl (old rfl rfl (hx.rd (by omega) (by omega)) ?_)
    refine sra rfl ?_
    refine c_if rfl (fun h39 => ?_) (fun h39 => ?_)
    · -- then
      have h39 := of_decide_eq_true h39
      have e : ownC l obj name = some v := by
        rcases hI with ⟨d, out, hw, _, hno, _⟩ | ⟨_, hno, hm, _⟩
        · obtain ⟨_, d, rfl⟩ := hw.len hb.2.1
          have hvo : v ∉ out := fun h => hno v h h39
          obtain ⟨r', hr'⟩ := hw.on.pre1 (decide_eq_false hv) hvo
          unfold ownC
          rw [hr']
          exact find_app (fun x hx => decide_eq_false (hno x hx)) (decide_eq_true h39)
        · exact absurd h39 (hno v hm)
      refine crr (by kernel_rfl) rfl ?_   -- region 8
      refine c_ret (fr rfl ⟨last, ?_, ?_, rfl⟩)
      · rw [e]; rfl
      · intro h; rw [e] at h; cases h
    · -- else
      have h39 := of_decide_eq_false h39
      refine c_skip ?_
      refine crr (by kernel_rfl) rfl ?_   -- region 9
      refine c_region (by kernel_rfl) ?_   -- region 10
      refine sr 3 rfl ?_
      refine s_op rfl (o_ar rfl rfl rfl (by omega) (by omega) ?_)
      refine s_op rfl (oidx rfl rfl rfl (by omega) (by omega) ?_)
      refine s_op rfl (old rfl rfl (hx.rd (by omega) (by omega)) ?_)
      refine sra rfl ?_
      refine c_region (by kernel_rfl) ?_   -- region 5
      refine sr 1 rfl ?_
      refine s_op rfl (o_ar rfl rfl rfl (by omega) (by omega) ?_)
      refine sra rfl ⟨(n + 1, nxC l v, v / 8), ⟨rfl, rfl, rfl, rfl, trivial⟩, ⟨rfl, rfl, trivial⟩, ⟨rfl, by dsimp only; omega, ?_⟩, by dsimp only; omega⟩
      dsimp only
      rcases hI with ⟨d, out, hw, hlo, hno, _⟩ | ⟨h1, hno, hm, hcl⟩
      · obtain ⟨_, d, rfl⟩ := hw.len hb.2.1
        by_cases hvo : v ∈ out
        · obtain ⟨hC, hcl⟩ := hw.on.circle (decide_eq_false hv) hvo
          refine .inr ?_
          rw [hC]
          exact ⟨rfl, hno, hcl v hvo, hcl⟩
        · refine .inl ⟨d, out ++ [v], hw.step hp hv hvo, by simp [hlo], fun x hx => ?_, (lastD_app _ _).symm⟩
          rcases List.mem_append.1 hx with hx | hx
          · exact hno x hx
          · rw [List.mem_singleton.1 hx]; exact h39
      · exact .inr ⟨h1, hno, hcl v hm, hcl⟩
  · -- else
    have h27 := of_decide_eq_false h27
    refine c_exit ?_
    refine crr (by kernel_rfl) rfl ?_   -- region 11
    refine c_ret (fr rfl ?_)
    rcases hI with ⟨d, out, hw, hlo, hno, hla⟩ | ⟨h1, hno, hm, hcl⟩
    · obtain ⟨hol, d, rfl⟩ := hw.len hb.2.1
      have hv : v = 0 := Classical.byContradiction fun h => h27 ⟨h, by omega⟩
      have hC := hw.on.stop_ (decide_eq_true hv)
      have e : ownC l obj name = none := by unfold ownC; rw [hC]; exact find_mem fun x hx => decide_eq_false (hno x hx)
      refine ⟨last, ?_, fun _ _ => ?_, rfl⟩
      · rw [e]; rfl
      · rw [hC]; exact hla
    · have e : ownC l obj name = none := find_mem fun x hx => decide_eq_false (hno x hx)
      refine ⟨last, ?_, fun _ h => ?_, rfl⟩
      · rw [e]; rfl
      · rw [h1] at h; cases h
end Go.Proofs.YtfhkjhnaihhdmaaW.Ax
