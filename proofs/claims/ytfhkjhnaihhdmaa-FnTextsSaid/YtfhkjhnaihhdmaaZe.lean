/- PropSet: walked. -/
import Derived.Test.YtfhkjhnaihhdmaaZd
import Derived.Test.YtfhkjhnaihhdmaaYy
namespace Go.Proofs.YtfhkjhnaihhdmaaW.Ax
open Go Go.RowKit Go.Proofs Go.Proofs.Ytfhkjhnaihhdmaa.Pure
set_option linter.unusedVariables false
set_option maxRecDepth 100000

/-- Where a new cell is linked: behind the last cell, or in the object. -/
def lkP (l : List Int) (obj : Int) : Int := match (cellsR l obj).1.getLast? with | some x => x / 8 + 3 | none => obj / 8 + 2
/-- A cell that is new. -/
def ncL (l : List Int) (obj name v : Int) : List Int := (((tkL l 3 4).set (tkA l 4 + 1).toNat name).set (tkA l 4 + 2).toNat v).set (lkP l obj).toNat (8 * tkA l 4 + 7)
theorem ncL_len (l : List Int) (obj name v : Int) : (ncL l obj name v).length = l.length := by
  unfold ncL
  rw [List.length_set, List.length_set, List.length_set, tkL_len]
def ptL (l : List Int) (obj name v : Int) : List Int := match ownC l obj name with | some c => l.set (c / 8 + 2).toNat v | none => cond (tkO l 4) (ncL l obj name v) l
def ptA (l : List Int) (obj name : Int) : Int := match ownC l obj name with | some _ => -1 | none => cond (tkO l 4) (tkA l 4) (-1)
def ptO (l : List Int) (obj name : Int) : Bool := match ownC l obj name with | some _ => true | none => tkO l 4
theorem pt_own {l : List Int} {obj name v c : Int} (h : ownC l obj name = some c) : ptL l obj name v = l.set (c / 8 + 2).toNat v ∧ ptA l obj name = -1 ∧ ptO l obj name = true := by
  unfold ptL ptA ptO; rw [h]; exact ⟨rfl, rfl, rfl⟩
theorem pt_full {l : List Int} {obj name v : Int} (h : ownC l obj name = none) (hc : tkO l 4 = false) : ptL l obj name v = l ∧ ptA l obj name = -1 ∧ ptO l obj name = false := by
  unfold ptL ptA ptO; rw [h, hc]; exact ⟨rfl, rfl, rfl⟩
theorem pt_new {l : List Int} {obj name v : Int} (h : ownC l obj name = none) (hc : tkO l 4 = true) : ptL l obj name v = ncL l obj name v ∧ ptA l obj name = tkA l 4 ∧ ptO l obj name = true := by
  unfold ptL ptA ptO; rw [h, hc]; exact ⟨rfl, rfl, rfl⟩
theorem ptL_len (l : List Int) (obj name v : Int) : (ptL l obj name v).length = l.length := by
  unfold ptL
  split
  · simp
  · cases tkO l 4
    · rfl
    · exact ncL_len l obj name v
theorem lk_at {l : List Int} {obj : Int} (h : ObjIn l obj) : 0 ≤ lkP l obj ∧ lkP l obj < l.length ∧ l.length ≤ 2000 := by
  have hb := obj_at h.1 h.2
  unfold lkP
  split
  · rename_i x hx
    have hc := cell_at h.1 (cells_rf h.1 h.2 x (List.mem_of_getLast? hx))
    omega
  · omega
theorem lk_last {l : List Int} {obj : Int} (h : ObjIn l obj) : (lastD (cellsR l obj).1 < 0 ∧ lkP l obj = obj / 8 + 2) ∨ (¬ lastD (cellsR l obj).1 < 0 ∧ lkP l obj = lastD (cellsR l obj).1 + 3 ∧ 0 ≤ lastD (cellsR l obj).1) := by
  unfold lkP lastD
  cases hx : (cellsR l obj).1.getLast? with
  | none => left; exact ⟨by decide, rfl⟩
  | some x =>
    have hc := cell_at h.1 (cells_rf h.1 h.2 x (List.mem_of_getLast? hx))
    right
    exact ⟨by show ¬ x / 8 < 0; omega, rfl, hc.2.2.1⟩
theorem l5Set_c (n0 : Nat) (r : Option Nat) (l : List Int) (obj name v : Int) (st : St) (hf : Fr n0 st r l) (h : ObjIn l obj) (hnc : (cellsR l obj).2 = false) : ACalls Try.prog 160 [.agg [.sl r 0 l.length], I obj, I name, I v] st (fun i => r = some i) (Tv n0 st r (ptL l obj name v) (ptA l obj name) (ptO l obj name)) := by
  have hlen := okB_len h.1.1
  have hb := obj_at h.1 h.2
  have hl0 : l ≠ [] := fun e => by rw [e] at hb; simp at hb; omega
  obtain ⟨q, rfl⟩ := hf.some_of hl0
  refine ent (N := 72) Try.func160 rfl (by decide) rfl rfl rfl ?_
  refine crr (by kernel_rfl) rfl ?_   -- region 0
  refine c_rs (by kernel_rfl) ?_   -- region 1
  refine sr 3 rfl ?_
  refine s_op rfl (o_ex loud_n rfl (l5Cell_c _ _ _ obj name _ hf.at_ h) ?_)
  rintro v3 st3 ⟨last, rfl, hla, rfl⟩ e3
  refine sra rfl ?_
  refine c_seq ?_
  refine crr (by kernel_rfl) rfl ?_   -- region 2
  refine c_if rfl (fun h24 => ?_) (fun h24 => ?_)
  · -- then
    have h24 := of_decide_eq_true h24
    obtain ⟨c, e⟩ : ∃ c, ownC l obj name = some c := by
      cases e : ownC l obj name with
      | none => rw [e] at h24; exact absurd h24 (by decide)
      | some c => exact ⟨c, rfl⟩
    have hc := cA_some h e
    have hcA : cA (ownC l obj name) = c / 8 := by rw [e]; rfl
    obtain ⟨t1, t2, t3⟩ := pt_own (v := v) e
    rw [hcA]
    refine c_rs (by kernel_rfl) ?_   -- region 3
    refine sr 3 rfl ?_
    refine s_op rfl (o_ar rfl rfl rfl (by omega) (by omega) ?_)
    refine sr 1 rfl ?_
    refine s_op rfl (oidx rfl rfl rfl (by omega) (by omega) ?_)
    refine s_op rfl (ostI rfl rfl hf.ob.2 (fun _ => rfl) rfl rfl (by omega) ?_)
    refine s_end ?_
    refine crr (by kernel_rfl) rfl ?_   -- region 4
    refine c_ret (fr rfl ⟨?_, ?_, ?_⟩)
    · rw [t1, t2, t3, List.length_set]
    · rw [t1, Nat.zero_add]; exact hf.set
    · exact (Ext.refl (fun i => some q = some i) st).trans (T' := (· = q)) (ext_set ..) (fun _ _ h => by rw [h])
  · -- else
    have h24 := of_decide_eq_false h24
    have e : ownC l obj name = none := by
      cases e : ownC l obj name with
      | none => rfl
      | some c => rw [e] at h24; have := (cA_some h e).2.1; exact absurd (show (0 : Int) ≤ c / 8 from this) h24
    have hla := hla e hnc
    refine c_skip ?_
    refine c_rs (by kernel_rfl) ?_   -- region 5
    refine sr 1 rfl ?_
    refine s_op rfl (o_call rfl (l2Take_c n0 (some q) l 3 4 _ hf h.1.1 (by omega) (by omega) (by omega)) (fun _ _ h => h) (.inl rfl) ?_)
    rintro v1 st1 ⟨rfl, hf1, he1⟩ _
    refine sra rfl ?_
    refine c_seq ?_
    refine crr (by kernel_rfl) rfl ?_   -- region 6
    refine c_if rfl (fun hc => ?_) (fun hc => ?_)
    · have hc : tkO l 4 = false := by simpa using hc
      have ht := tk_no 3 hc
      obtain ⟨t1, t2, t3⟩ := pt_full (v := v) e hc
      refine crr (by kernel_rfl) rfl ?_   -- region 7
      rw [ht.2] at hf1
      refine c_ret (fr rfl ⟨?_, ?_, he1⟩)
      · rw [t1, t2, t3]
      · rw [t1]; exact hf1
    · have hc : tkO l 4 = true := by simpa using hc
      have ht := tk_at hc
      have hl := tkL_len l 3 4
      obtain ⟨t1, t2, t3⟩ := pt_new (v := v) e hc
      have hlk := lk_at h
      refine c_skip ?_
      refine c_rs (by kernel_rfl) ?_   -- region 8
      refine sr 3 rfl ?_
      refine s_op rfl (o_ar rfl rfl rfl (by omega) (by omega) ?_)
      refine sr 1 rfl ?_
      refine s_op rfl (oidx rfl rfl rfl (by omega) (by omega) ?_)
      refine s_op rfl (ostI rfl rfl hf1.ob.2 (fun _ => rfl) rfl rfl (by omega) ?_)
      refine s_end ?_
      have hf2 := hf1.set (l' := (tkL l 3 4).set (0 + (tkA l 4 + 1).toNat) name)
      have he2 : Ext (fun i => some q = some i) st (st1.set q (.row true (((tkL l 3 4).set (0 + (tkA l 4 + 1).toNat) name).map I))) := he1.trans (T' := (· = q)) (ext_set ..) (fun _ _ h => by rw [h])
      generalize st1.set q (.row true (((tkL l 3 4).set (0 + (tkA l 4 + 1).toNat) name).map I)) = st2 at hf2 he2 ⊢
      rw [Nat.zero_add] at hf2
      have hl2 : ((tkL l 3 4).set (tkA l 4 + 1).toNat name).length = l.length := by rw [List.length_set, hl]
      refine c_rs (by kernel_rfl) ?_   -- region 9
      refine sr 3 rfl ?_
      refine s_op rfl (o_ar rfl rfl rfl (by omega) (by omega) ?_)
      refine sr 1 rfl ?_
      refine s_op rfl (oidx rfl rfl rfl (by omega) (by omega) ?_)
      refine s_op rfl (ostI rfl rfl hf2.ob.2 (fun _ => rfl) rfl rfl (by omega) ?_)
      refine s_end ?_
      have hf3 := hf2.set (l' := ((tkL l 3 4).set (tkA l 4 + 1).toNat name).set (0 + (tkA l 4 + 2).toNat) v)
      have he3 : Ext (fun i => some q = some i) st (st2.set q (.row true ((((tkL l 3 4).set (tkA l 4 + 1).toNat name).set (0 + (tkA l 4 + 2).toNat) v).map I))) := he2.trans (T' := (· = q)) (ext_set ..) (fun _ _ h => by rw [h])
      generalize st2.set q (.row true ((((tkL l 3 4).set (tkA l 4 + 1).toNat name).set (0 + (tkA l 4 + 2).toNat) v).map I)) = st4 at hf3 he3 ⊢
      rw [Nat.zero_add] at hf3
      have hl3 : (((tkL l 3 4).set (tkA l 4 + 1).toNat name).set (tkA l 4 + 2).toNat v).length = l.length := by rw [List.length_set, hl2]
      refine c_sj (fun _ : Unit => [(14, I (tkA l 4))]) (fun _ => [(8, 8, [.sl none 0 0]), (13, 13, [.sl (some q) 0 (tkL l 3 4).length])]) (fun _ st' => Fr n0 st' (some q) (ncL l obj name v) ∧ Ext (fun i => some q = some i) st st') ?_ ?_
      · -- ways that meet
        refine crr (by kernel_rfl) rfl ?_   -- region 10
        refine c_if rfl (fun h54 => ?_) (fun h54 => ?_)
        · have h54 := of_decide_eq_true h54
          have hlk2 : lkP l obj = obj / 8 + 2 := by rcases lk_last h with h1 | h1 <;> omega
          refine cd1 [0, 1, 2, 5, 3, 4, 6, 7, 8] [.q, .q, .q, .q, .f, .q, .f, .q, .n] (by kernel_rfl) (by kernel_rfl) ?_
          refine sr 4 rfl ?_
          refine s_op rfl (o_pure loud_f rfl (Num_c ..) ?_)
          refine s_op rfl (o_ar rfl rfl rfl (by omega) (by omega) ?_)
          refine s_op rfl (o_pure loud_f rfl (RefOf_c 7 (tkA l 4) _ (by omega) (by omega)) ?_)
          refine s_op rfl (oidx rfl rfl rfl (by omega) (by omega) ?_)
          refine s_op rfl (ostI rfl rfl hf3.ob.2 (fun _ => rfl) rfl rfl (by omega) ?_)
          refine s_end ⟨(), ⟨rfl, trivial⟩, ⟨rfl, rfl, rfl, rfl, trivial⟩, ?_, ?_⟩
          · unfold ncL; rw [hlk2, Nat.zero_add]; exact hf3.set
          · exact he3.trans (T' := (· = q)) (ext_set ..) (fun _ _ h => by rw [h])
        · have h54 := of_decide_eq_false h54
          have hlk2 : lkP l obj = last + 3 ∧ 0 ≤ last := by rcases lk_last h with h1 | h1 <;> omega
          refine cd1 [0, 1, 2, 3, 4, 5, 6, 7] [.q, .q, .q, .q, .q, .f, .q, .n] (by kernel_rfl) (by kernel_rfl) ?_
          refine sr 3 rfl ?_
          refine s_op rfl (o_ar rfl rfl rfl (by omega) (by omega) ?_)
          refine sr 1 rfl ?_
          refine s_op rfl (o_pure loud_f rfl (RefOf_c 7 (tkA l 4) _ (by omega) (by omega)) ?_)
          refine s_op rfl (oidx rfl rfl rfl (by omega) (by omega) ?_)
          refine s_op rfl (ostI rfl rfl hf3.ob.2 (fun _ => rfl) rfl rfl (by omega) ?_)
          refine s_end ⟨(), ⟨rfl, trivial⟩, ⟨rfl, rfl, rfl, rfl, trivial⟩, ?_, ?_⟩
          · unfold ncL; rw [hlk2.1, Nat.zero_add]; exact hf3.set
          · exact he3.trans (T' := (· = q)) (ext_set ..) (fun _ _ h => by rw [h])
      rintro _ st5 ⟨hf5, he5⟩
      refine crr (by kernel_rfl) rfl ?_   -- region 13
      refine c_ret (fr rfl ⟨?_, ?_, he5⟩)
      · rw [t1, t2, t3, ncL_len, hl]
      · rw [t1]; exact hf5
/-- What comes of a name that is set of an object. -/
noncomputable def psetL (l : List Int) (obj name v : Int) : List Int := cond (cellsR l obj).2 l (ptL l obj name v)
def psetA (l : List Int) (obj name : Int) : Int := cond (cellsR l obj).2 (-1) (ptA l obj name)
def psetO (l : List Int) (obj name : Int) : Bool := cond (cellsR l obj).2 false (ptO l obj name)
theorem pset_t {l : List Int} {obj name v : Int} (h : (cellsR l obj).2 = true) : psetL l obj name v = l ∧ psetA l obj name = -1 ∧ psetO l obj name = false := by
  unfold psetL psetA psetO; rw [h]; exact ⟨rfl, rfl, rfl⟩
theorem pset_f {l : List Int} {obj name v : Int} (h : (cellsR l obj).2 = false) : psetL l obj name v = ptL l obj name v ∧ psetA l obj name = ptA l obj name ∧ psetO l obj name = ptO l obj name := by
  unfold psetL psetA psetO; rw [h]; exact ⟨rfl, rfl, rfl⟩
theorem psetL_len (l : List Int) (obj name v : Int) : (psetL l obj name v).length = l.length := by
  unfold psetL
  cases (cellsR l obj).2
  · exact ptL_len l obj name v
  · rfl
/-- Where a cell would be linked, some cells on. -/
def lkI (l : List Int) (obj : Int) (i : Nat) : Int := match i with | 0 => obj / 8 + 2 | i + 1 => rd (cellsR l obj).1 i / 8 + 3
theorem lkI_all (l : List Int) (obj : Int) : lkI l obj (cellsR l obj).1.length = lkP l obj := by
  unfold lkP lkI
  generalize (cellsR l obj) = C
  have key : ∀ m : List Int, (match m.length with | 0 => obj / 8 + 2 | i + 1 => rd m i / 8 + 3) = match m.getLast? with | some x => x / 8 + 3 | none => obj / 8 + 2 := by
    intro m
    cases hm : m.length with
    | zero => rw [List.eq_nil_of_length_eq_zero hm]; rfl
    | succ i =>
      have hne : m ≠ [] := fun e => by rw [e] at hm; cases hm
      rw [List.getLast?_eq_some_getLast hne]
      show rd m i / 8 + 3 = m.getLast hne / 8 + 3
      rw [List.getLast_eq_getElem]
      simp [rd, List.getD, hm]
  exact key C.1
end Go.Proofs.YtfhkjhnaihhdmaaW.Ax
