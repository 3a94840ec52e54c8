/- slices.Contains; what is asked of arguments; FunOf: walked. -/
import Derived.Test.YtfhkjhnaihhdmaaYj
namespace Go.Proofs.YtfhkjhnaihhdmaaW.Ax
open Go Go.RowKit Go.Proofs Go.Proofs.Ytfhkjhnaihhdmaa.Pure
set_option linter.unusedVariables false
set_option maxRecDepth 100000

def Id1 (st : St) (l : List Int) (x : Int) : AV → St → Prop := fun v st' => ∃ k : Int, v = I k ∧ (0 ≤ k ↔ x ∈ l) ∧ st = st'
theorem Index_c (r : Option Nat) (o : Nat) (l : List Int) (x : Int) (st : St) (hx : At st r o l) (hl : l.length ≤ 1099511627776) : ACalls Try.prog 153 [.sl r o l.length, I x] st No (Id1 st l x) := by
  refine ent (N := 19) Try.func153 rfl (by decide) rfl rfl rfl ?_
  refine crr (by kernel_rfl) rfl ?_   -- region 0
  refine c_seq ?_
  refine crr (by kernel_rfl) rfl ?_   -- region 1
  refine c_block ?_
  refine c_lp (α := Nat) (fun i => [(0, .sl r o l.length), (1, I x), (7, I l.length), (8, I i)]) (fun _ => []) (fun i st' => st = st' ∧ i ≤ l.length ∧ ∀ j : Nat, j < i → rd l j ≠ x) (fun i => l.length - i) 0 ⟨rfl, rfl, rfl, rfl, trivial⟩ trivial ⟨rfl, by omega, fun j hj => by omega⟩ ?_
  rintro i st' ⟨rfl, hi, hn⟩
  refine crr (by kernel_rfl) rfl ?_   -- region 2
  refine c_seq ?_
  refine c_if rfl (fun h9 => ?_) (fun h9 => ?_)
  · have h9 := of_decide_eq_true h9
    refine c_skip ?_
    refine c_seq ?_
    refine c_block ?_
    refine crr (by kernel_rfl) rfl ?_   -- region 3
    refine c_rs (by kernel_rfl) ?_   -- region 4
    refine sr 3 rfl ?_
    refine s_op rfl (oidx rfl rfl rfl (by omega) (by omega) ?_)
    refine s_op rfl (old rfl rfl (hx.rd (by omega) (by omega)) ?_)
    refine sra rfl ?_
    refine c_if rfl (fun h16 => ?_) (fun h16 => ?_)
    · have h16 := of_decide_eq_true h16
      refine crr (by kernel_rfl) rfl ?_   -- region 5
      exact c_ret (fr rfl ⟨i, rfl, ⟨fun _ => by rw [h16]; exact mem_rd (by omega), fun _ => by omega⟩, rfl⟩)
    · have h16 := of_decide_eq_false h16
      refine c_skip ?_
      refine c_region (by kernel_rfl) ?_   -- region 6
      refine s_op rfl (o_ar rfl rfl rfl (by omega) (by omega) ?_)
      refine sra rfl ⟨i + 1, ⟨rfl, rfl, rfl, rfl, trivial⟩, trivial, ⟨rfl, by omega, fun j hj => ?_⟩, by omega⟩
      by_cases e : j = i
      · rw [e]; exact fun h => h16 h.symm
      · exact hn j (by omega)
  · have h9 := of_decide_eq_false h9
    refine c_exit ?_
    refine crr (by kernel_rfl) rfl ?_   -- region 7
    refine c_ret (fr rfl ⟨-1, rfl, ⟨fun h => by omega, fun h => ?_⟩, rfl⟩)
    obtain ⟨j, hj, e⟩ := rd_mem h
    exact absurd e (hn j (by omega))
theorem Contains_c (r : Option Nat) (o : Nat) (l : List Int) (x : Int) (st : St) (hx : At st r o l) (hl : l.length ≤ 1099511627776) : ACalls Try.prog 145 [.sl r o l.length, I x] st No (Pure1 (.bool (bd (x ∈ l))) st) := by
  refine ent (N := 9) Try.func145 rfl (by decide) rfl rfl rfl ?_
  refine crr (by kernel_rfl) rfl ?_   -- region 0
  refine c_rs (by kernel_rfl) ?_   -- region 1
  refine sr 2 rfl ?_
  refine s_op rfl (o_ex loud_n rfl (Index_c _ _ _ _ _ hx hl) ?_)
  rintro v1 st1 ⟨k, rfl, hk, rfl⟩ _
  refine sra rfl ?_
  refine c_ret (fr rfl ⟨abd ?_, rfl⟩)
  rw [decide_eq_true_eq]; exact hk

/-- What is asked of arguments: each is right, and of one of its kinds. -/
def Rdy (l rs : List Int) (ks : Nat → List Int) : Prop := Rts l rs ∧ ∀ i : Nat, i < rs.length → rd rs i % 8 ∈ ks i
theorem ready_c (r rr ro : Option Nat) (o or oo m : Nat) (l rs : List Int) (q : Nat → Option Nat) (ks : Nat → List Int) (st : St) (hx : At st r o l) (hy : At st rr or rs) (hl : l.length ≤ 1048576) (hlr : rs.length ≤ 1048576) (hm : rs.length ≤ m)
    (ho : ∀ i, i < rs.length → cell st ro (oo + i) = some (.sl (q i) 0 (ks i).length) ∧ At st (q i) 0 (ks i) ∧ (ks i).length ≤ 1000) : ACalls Try.prog 112 [.agg [.sl r o l.length], .sl rr or rs.length, .sl ro oo m] st No (Pv (.bool (bd (Rdy l rs ks)))) := by
  refine ent (N := 29) Try.func112 rfl (by decide) rfl rfl rfl ?_
  refine crr (by kernel_rfl) rfl ?_   -- region 0
  refine c_seq ?_
  refine c_rs (by kernel_rfl) ?_   -- region 1
  refine sr 2 rfl ?_
  refine s_op rfl (o_ex loud_n rfl (iRootsOk_c _ _ _ _ _ _ _ hx hy hl hlr) ?_)
  rintro v1 st1 rfl e1
  refine sra rfl ?_
  refine c_if rfl (fun h12 => ?_) (fun h12 => ?_)
  · have h12 := nbt h12
    refine crr (by kernel_rfl) rfl ?_   -- region 2
    exact c_ret (fr rfl (abd ⟨fun h => (by cases h), fun h => absurd h.1 h12⟩))
  · have h12 := nbf h12
    have hy1 := hy.ex e1
    refine c_skip ?_
    refine c_seq ?_
    refine crr (by kernel_rfl) rfl ?_   -- region 3
    refine c_block ?_
    refine c_lp (α := Nat) (fun i => [(2, .sl ro oo m), (13, .sl rr or rs.length), (14, I rs.length), (15, I i)]) (fun _ => []) (fun i st' => st1 = st' ∧ i ≤ rs.length ∧ ∀ j : Nat, j < i → rd rs j % 8 ∈ ks j) (fun i => rs.length - i) 0 ⟨rfl, rfl, rfl, rfl, trivial⟩ trivial ⟨rfl, by omega, fun j hj => by omega⟩ ?_
    rintro i st' ⟨rfl, hi, hn⟩
    refine crr (by kernel_rfl) rfl ?_   -- region 4
    refine c_seq ?_
    refine c_if rfl (fun h16 => ?_) (fun h16 => ?_)
    · have h16 := of_decide_eq_true h16
      obtain ⟨ho1, ho2, ho3⟩ := ho i (by omega)
      have ho1 := cell_ext e1 ho1 (fun _ _ h => h)
      refine c_skip ?_
      refine c_seq ?_
      refine c_block ?_
      refine c_rs (by kernel_rfl) ?_   -- region 5
      refine sr 1 rfl ?_
      refine s_op rfl (oidx rfl rfl rfl (by omega) (by omega) ?_)
      refine s_op rfl (old rfl rfl (hy1.rd (by omega) (by omega)) ?_)
      refine sra rfl ?_
      refine cds [0, 1, 2, 3, 4, 5, 6, 7] [.q, .q, .q, .q, .q, .f, .f, .q] (by kernel_rfl) (by kernel_rfl) ?_   -- region 6
      refine sr 2 rfl ?_
      refine s_op rfl (oidx rfl rfl rfl (by omega) (by omega) ?_)
      refine s_op rfl (old rfl rfl ho1 ?_)
      refine sr 1 rfl ?_
      refine s_op rfl (o_pure loud_f rfl (iKind_c ..) ?_)
      refine s_op rfl (o_pure loud_f rfl (Contains_c _ _ _ _ _ (ho2.ex e1) (by omega)) ?_)
      refine sra rfl ?_
      refine c_if rfl (fun h27 => ?_) (fun h27 => ?_)
      · have h27 := nbt h27
        refine crr (by kernel_rfl) rfl ?_   -- region 7
        exact c_ret (fr rfl (abd ⟨fun h => (by cases h), fun h => absurd (h.2 i (by omega)) h27⟩))
      · have h27 := nbf h27
        refine c_skip ?_
        refine c_region (by kernel_rfl) ?_   -- region 8
        refine s_op rfl (o_ar rfl rfl rfl (by omega) (by omega) ?_)
        refine sra rfl ⟨i + 1, ⟨rfl, rfl, rfl, rfl, trivial⟩, trivial, ⟨rfl, by omega, fun j hj => ?_⟩, by omega⟩
        by_cases e : j = i
        · rw [e]; exact h27
        · exact hn j (by omega)
    · have h16 := of_decide_eq_false h16
      refine c_exit ?_
      refine crr (by kernel_rfl) rfl ?_   -- region 9
      exact c_ret (fr rfl (abd ⟨fun _ => ⟨h12, fun j hj => hn j (by omega)⟩, fun _ => rfl⟩))
/-- One value, right and of a kind. -/
def Isk (l rs : List Int) (k : Int) : Prop := rd rs 0 % 8 = k ∧ Rts l rs
theorem l5Is_c (r rr : Option Nat) (o or : Nat) (l rs : List Int) (k : Int) (st : St) (hx : At st r o l) (hy : At st rr or rs) (hl : l.length ≤ 1048576) (hlr : rs.length ≤ 1048576) (h0 : 0 < rs.length) : ACalls Try.prog 114 [.agg [.sl r o l.length], .sl rr or rs.length, I k] st No (Pv (.bool (bd (Isk l rs k)))) := by
  refine ent (N := 18) Try.func114 rfl (by decide) rfl rfl rfl ?_
  refine crr (by kernel_rfl) rfl ?_   -- region 0
  refine c_rs (by kernel_rfl) ?_   -- region 1
  refine sr 1 rfl ?_
  refine s_op rfl (oidx rfl rfl rfl (by omega) (by omega) ?_)
  refine s_op rfl (old rfl rfl (hy.rd (by omega) (by omega)) ?_)
  refine s_op rfl (o_pure loud_n rfl (Kind_c ..) ?_)
  refine sr 3 rfl ?_
  refine s_bool 13 rfl rfl (fun h13 => ?_) (fun h13 => ?_)
  · have h13 := of_decide_eq_true h13
    refine sr 2 rfl ?_
    refine s_op rfl (o_ex loud_n rfl (RootsOk_c _ _ _ _ _ _ _ hx hy hl hlr) ?_)
    rintro v1 st1 rfl e1
    refine sra rfl ?_
    exact c_ret (fr rfl (abd (show bd _ = true ↔ _ from bdt.trans ⟨fun h => ⟨h13, h⟩, fun h => h.2⟩)))
  · have h13 := of_decide_eq_false h13
    refine sra rfl ?_
    exact c_ret (fr rfl (abd ⟨fun h => (by cases h), fun h => absurd h.1 h13⟩))
/-- A function's value. -/
def Fn1 (l : List Int) (v : Int) : Prop := v % 8 = 6 ∧ Rts l [v]
theorem fn_at {l : List Int} {v : Int} (h : Fn1 l v) : v / 8 ∈ blocks l ∧ 0 ≤ v / 8 ∧ v / 8 + 2 < l.length ∧ l.length ≤ 2000 := by
  have h1 := h.2.2 v (by simp)
  have h2 := h1.2.2.2.1 h.1
  have h3 := kat_in (by omega) h2
  have h4 := ((kat_of (by omega)).1 h2).2
  have h5 := h.2.1.2 _ h3.1
  have h6 := (block_at h3.1).2.2.1
  have h7 := size_pos h6
  have h8 := (h5.2.2.2.1 h4).1.1
  unfold Spl at h8
  exact ⟨h3.1, by omega, by omega, by omega⟩
noncomputable def FnR (l : List Int) (v : Int) : AV := .tup [I (cond (bd (Fn1 l v)) (rd l (v / 8 + 1)) (-1)), I (cond (bd (Fn1 l v)) (rd l (v / 8 + 2)) 0), .bool (bd (Fn1 l v))]
theorem fnR_t {l : List Int} {v : Int} (h : Fn1 l v) : FnR l v = .tup [I (rd l (v / 8 + 1)), I (rd l (v / 8 + 2)), .bool true] := by
  unfold FnR; rw [bdt.2 h]; rfl
theorem fnR_f {l : List Int} {v : Int} (h : ¬ Fn1 l v) : FnR l v = .tup [I (-1), I 0, .bool false] := by
  unfold FnR; rw [bdf.2 h]; rfl
theorem FunOf_c (r : Option Nat) (o : Nat) (l : List Int) (v : Int) (st : St) (hx : At st r o l) (hl : l.length ≤ 1048576) : ACalls Try.prog 68 [.agg [.sl r o l.length], I v] st No (Pv (FnR l v)) := by
  refine ent (N := 26) Try.func68 rfl (by decide) rfl rfl rfl ?_
  refine crr (by kernel_rfl) rfl ?_   -- region 0
  refine c_seq ?_
  refine c_rs (by kernel_rfl) ?_   -- region 1
  refine sr 2 rfl ?_
  refine s_op rfl (oone loud_n rfl rfl ?_)
  refine s_op rfl (o_ex loud_n rfl (l5Is_c _ _ _ _ _ _ _ _ (hx.ex (ex_push _ _)) (at_row (Nat.lt_succ_self _) (push_ob _ _)) hl (by simp) (by simp)) ?_)
  rintro v1 st1 rfl e1
  have hx1 := (hx.ex (ex_push _ _)).ex e1
  refine sra rfl ?_
  refine c_if rfl (fun h11 => ?_) (fun h11 => ?_)
  · have h11 : ¬ Fn1 l v := nbt h11
    refine crr (by kernel_rfl) rfl ?_   -- region 2
    refine c_ret (fr rfl ?_)
    rw [fnR_f h11]; rfl
  · have h11 : Fn1 l v := nbf h11
    have hb := fn_at h11
    refine c_skip ?_
    refine cds [0, 1, 2, 7, 8, 9, 3, 4, 5, 6, 10, 11, 12, 13, 14, 15, 16] [.q, .q, .q, .q, .q, .q, .f, .q, .q, .q, .f, .q, .q, .q, .q, .q, .q] (by kernel_rfl) (by kernel_rfl) ?_   -- region 3
    refine sr 6 rfl ?_
    refine s_op rfl (o_pure loud_f rfl (Num_c ..) ?_)
    refine s_op rfl (o_ar rfl rfl rfl (by omega) (by omega) ?_)
    refine s_op rfl (oidx rfl rfl rfl (by omega) (by omega) ?_)
    refine s_op rfl (old rfl rfl (hx1.rd (by omega) (by omega)) ?_)
    refine s_op rfl (o_pure loud_f rfl (Num_c ..) ?_)
    refine s_op rfl (o_ar rfl rfl rfl (by omega) (by omega) ?_)
    refine s_op rfl (oidx rfl rfl rfl (by omega) (by omega) ?_)
    refine s_op rfl (old rfl rfl (hx1.rd (by omega) (by omega)) ?_)
    refine sra rfl ?_
    refine c_ret (fr rfl ?_)
    rw [fnR_t h11]; rfl
theorem iFunOf_c (r : Option Nat) (o : Nat) (l : List Int) (v : Int) (st : St) (hx : At st r o l) (hl : l.length ≤ 1048576) : ACalls Try.prog 67 [.agg [.sl r o l.length], I v] st No (Pv (FnR l v)) := by
  refine ent (N := 28) Try.func67 rfl (by decide) rfl rfl rfl ?_
  refine crr (by kernel_rfl) rfl ?_   -- region 0
  refine c_seq ?_
  refine c_rs (by kernel_rfl) ?_   -- region 1
  refine sr 2 rfl ?_
  refine s_op rfl (oone loud_n rfl rfl ?_)
  refine s_op rfl (oone loud_n rfl rfl ?_)
  refine s_op rfl (obslice loud_n rfl (by decide) rfl rfl ?_)
  have e0 : Ex st (st.push (.row true ([v].map I))) := ex_push _ _
  have e00 : Ex (st.push (.row true ([v].map I))) ((st.push (.row true ([v].map I))).push (.row true ([(6 : Int)].map I))) := ex_push _ _
  have hy0 : At ((st.push (.row true ([v].map I))).push (.row true ([(6 : Int)].map I))) (some st.n) 0 [v] := (at_row (Nat.lt_succ_self _) (push_ob _ _) : At (st.push (.row true ([v].map I))) (some st.n) 0 [v]).ex e00
  have hk0 : At ((st.push (.row true ([v].map I))).push (.row true ([(6 : Int)].map I))) (some (st.n + 1)) 0 [6] := at_row (Nat.lt_succ_self _) (push_ob _ _)
  refine s_op rfl (o_ex loud_n rfl (ready_c _ _ _ _ _ _ _ l [v] (fun _ => some (st.n + 1)) (fun _ => [6]) _ ((hx.ex (e0.tr e00)).ex (ex_push _ _)) (hy0.ex (ex_push _ _)) hl (by simp) (by simp) (fun i hi => ?_)) ?_)
  · have hi0 : i = 0 := by simp at hi; exact hi
    subst hi0
    exact ⟨cell_push1 _ _, hk0.ex (ex_push _ _), by simp⟩
  rintro v1 st1 rfl e1
  have hx1 := ((hx.ex (e0.tr e00)).ex (ex_push _ _)).ex e1
  have hR : Rdy l [v] (fun _ => [6]) ↔ Fn1 l v := ⟨fun h => ⟨by have := h.2 0 (by simp); simpa [rd] using this, h.1⟩, fun h => ⟨h.2, fun i hi => by
    have hi0 : i = 0 := by simp at hi; exact hi
    subst hi0
    simpa [rd] using h.1⟩⟩
  refine sra rfl ?_
  refine c_if rfl (fun h13 => ?_) (fun h13 => ?_)
  · have h13 : ¬ Fn1 l v := fun h => nbt h13 (hR.2 h)
    refine crr (by kernel_rfl) rfl ?_   -- region 2
    refine c_ret (fr rfl ?_)
    rw [fnR_f h13]; rfl
  · have h13 : Fn1 l v := hR.1 (nbf h13)
    have hb := fn_at h13
    refine c_skip ?_
    refine cds [0, 1, 2, 7, 8, 9, 3, 4, 5, 6, 10, 11, 12, 13, 14, 15, 16] [.q, .q, .q, .q, .q, .q, .f, .q, .q, .q, .f, .q, .q, .q, .q, .q, .q] (by kernel_rfl) (by kernel_rfl) ?_   -- region 3
    refine sr 6 rfl ?_
    refine s_op rfl (o_pure loud_f rfl (iNum_c ..) ?_)
    refine s_op rfl (o_ar rfl rfl rfl (by omega) (by omega) ?_)
    refine s_op rfl (oidx rfl rfl rfl (by omega) (by omega) ?_)
    refine s_op rfl (old rfl rfl (hx1.rd (by omega) (by omega)) ?_)
    refine s_op rfl (o_pure loud_f rfl (iNum_c ..) ?_)
    refine s_op rfl (o_ar rfl rfl rfl (by omega) (by omega) ?_)
    refine s_op rfl (oidx rfl rfl rfl (by omega) (by omega) ?_)
    refine s_op rfl (old rfl rfl (hx1.rd (by omega) (by omega)) ?_)
    refine sra rfl ?_
    refine c_ret (fr rfl ?_)
    rw [fnR_t h13]; rfl
end Go.Proofs.YtfhkjhnaihhdmaaW.Ax
