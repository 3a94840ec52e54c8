/- Merged: Ye Yf Yg Yh. -/
import Derived.Test.YtmphklmhhcmbnaaDoorYc
/- Chapter 1's values, and what a value leads to: walked. -/
namespace Go.Proofs.YtmphklmhhcmbnaaDoorW.Ax
open Go Go.RowKit Go.Proofs Go.Proofs.YtmphklmhhcmbnaaDoor.Pure
set_option linter.unusedVariables false
set_option maxRecDepth 100000

noncomputable def bd (P : Prop) : Bool := @decide P (Classical.propDecidable P)
theorem bdt {P : Prop} : bd P = true ↔ P := by unfold bd; simp
theorem bdf {P : Prop} : bd P = false ↔ ¬ P := by unfold bd; simp
theorem abd {X : Bool} {P : Prop} (h : X = true ↔ P) : AV.bool X = AV.bool (bd P) := by
  congr 1
  cases hb : bd P with
  | true => exact h.2 (bdt.1 hb)
  | false =>
    cases hx : X with
    | false => rfl
    | true => exact absurd (h.1 hx) (bdf.1 hb)
theorem bd_eq {P Q : Prop} (h : P ↔ Q) : bd P = bd Q := by rw [propext h]
theorem bd_dec (P : Prop) [Decidable P] : decide P = bd P := by
  by_cases h : P
  · rw [decide_eq_true h, bdt.2 h]
  · rw [decide_eq_false h, bdf.2 h]

theorem ndt {P : Prop} [Decidable P] (h : (!decide P) = true) : ¬ P := by simpa using h
theorem ndf {P : Prop} [Decidable P] (h : (!decide P) = false) : P := by simpa using h
theorem nbt {P : Prop} (h : (!bd P) = true) : ¬ P := bdf.1 (by simpa using h)
theorem nbf {P : Prop} (h : (!bd P) = false) : P := bdt.1 (by simpa using h)
/-- A value that is right. -/
def Vok (v : Int) : Prop := (v % 8 = 0 → v / 8 = 0) ∧ (v % 8 = 1 → v / 8 = 0) ∧ (v % 8 = 2 → 0 ≤ v / 8 ∧ v / 8 ≤ 1) ∧ (v % 8 = 3 → -2147483648 ≤ v / 8 ∧ v / 8 ≤ 2147483647) ∧ (4 ≤ v % 8 → 0 ≤ v / 8 ∧ v / 8 ≤ 1999)
theorem kat_of {l : List Int} {a b : Int} (hb : 0 ≤ b) : kat l a = b ↔ a ∈ blocks l ∧ kindOf l a.toNat = b := by
  unfold kat
  by_cases h : a ∈ blocks l
  · rw [if_pos h]; exact ⟨fun e => ⟨h, e⟩, fun e => e.2⟩
  · rw [if_neg h]; exact ⟨fun e => by omega, fun e => absurd e.1 h⟩
theorem kat_in {l : List Int} {a b : Int} (hb : 0 ≤ b) (h : kat l a = b) : a ∈ blocks l ∧ 0 ≤ a ∧ a < l.length ∧ l.length ≤ 2000 := by
  have h1 := ((kat_of hb).1 h).1
  have h2 := block_at h1
  exact ⟨h1, h2.1, h2.2.1, h2.2.2.2⟩
/-- A value of a kind, that leads to a block of a kind. -/
def Rf (l : List Int) (v k b : Int) : Prop := v % 8 = k ∧ kat l (v / 8) = b
/-- A value that is right, and leads to a block of a kind, if it leads anywhere. -/
def Leads (l : List Int) (v inner : Int) : Prop := Vok v ∧ (v % 8 = 4 → kat l (v / 8) = 1) ∧ (v % 8 = 5 → kat l (v / 8) = 2) ∧ (v % 8 = 6 → kat l (v / 8) = 4) ∧ (v % 8 = 7 → kat l (v / 8) = inner)
/-- A value that is right, and nothing inner. -/
def Plain (l : List Int) (v : Int) : Prop := v % 8 ≠ 7 ∧ Leads l v 0
/-- None, or inner and leading to a block of a kind. -/
def Nxt (l : List Int) (v b : Int) : Prop := v = 0 ∨ Rf l v 7 b
theorem Rf.leads {l : List Int} {v k b : Int} (h : Rf l v k b) (hk : (k = 4 ∧ b = 1) ∨ (k = 5 ∧ b = 2) ∨ (k = 6 ∧ b = 4) ∨ (k = 7 ∧ 0 ≤ b)) : Leads l v b := by
  obtain ⟨h1, h2⟩ := h
  have := kat_in (by omega) h2
  unfold Leads Vok
  omega

theorem Kind_c (v : Int) (st : St) : ACalls Tryd.prog 28 [I v] st No (Pure1 (I (v % 8)) st) := by
  refine ent (N := 5) Tryd.func28 rfl (by decide) rfl rfl rfl ?_
  refine crr (by kernel_rfl) rfl ?_
  refine crr (by kernel_rfl) rfl ?_
  exact c_ret (fr rfl ⟨rfl, rfl⟩)
theorem Num_c (v : Int) (st : St) : ACalls Tryd.prog 29 [I v] st No (Pure1 (I (v / 8)) st) := by
  refine ent (N := 5) Tryd.func29 rfl (by decide) rfl rfl rfl ?_
  refine crr (by kernel_rfl) rfl ?_
  refine crr (by kernel_rfl) rfl ?_
  exact c_ret (fr rfl ⟨rfl, rfl⟩)
theorem ValueOk_c (v : Int) (st : St) : ACalls Tryd.prog 46 [I v] st No (Pure1 (.bool (bd (Vok v))) st) := by
  refine ent (N := 23) Tryd.func46 rfl (by decide) rfl rfl rfl ?_
  refine crr (by kernel_rfl) rfl ?_   -- region 0
  refine c_rs (by kernel_rfl) ?_   -- region 1
  refine sr 1 rfl ?_
  refine s_op rfl (o_pure loud_n rfl (Num_c ..) ?_)
  refine sra rfl ?_
  refine c_seq ?_
  refine c_rs (by kernel_rfl) ?_   -- region 2
  refine sr 1 rfl ?_
  refine s_op rfl (o_pure loud_n rfl (Kind_c ..) ?_)
  refine s_end ?_
  refine c_block ?_
  refine c_sj (fun _ : Unit => [(3, I (v / 8)), (7, I (v % 8)), (8, .bool (decide (v % 8 = 0 ∨ v % 8 = 1)))]) (fun _ => []) (fun _ st' => st = st') ?_ ?_
  · refine crr (by kernel_rfl) rfl ?_   -- region 3
    refine c_if rfl (fun h8 => ?_) (fun h8 => ?_)
    · have h8 := of_decide_eq_true h8
      refine c_skip ⟨(), ⟨rfl, rfl, ?_, trivial⟩, trivial, rfl⟩
      show AV.bool (decide _) = AV.bool (decide _)
      congr 1
      exact decide_eq_decide.2 ⟨fun h => .inl h, fun _ => h8⟩
    · have h8 := of_decide_eq_false h8
      refine c_region (by kernel_rfl) ?_   -- region 4
      refine sra rfl ⟨(), ⟨rfl, rfl, ?_, trivial⟩, trivial, rfl⟩
      show AV.bool (decide _) = AV.bool (decide _)
      congr 1
      exact decide_eq_decide.2 ⟨fun h => .inr h, fun h => h.resolve_left h8⟩
  rintro _ st' rfl
  refine c_if rfl (fun h8 => ?_) (fun h8 => ?_)
  · -- then
    have h8 := of_decide_eq_true h8
    refine crr (by kernel_rfl) rfl ?_   -- region 5
    refine c_ret (fr rfl ⟨abd ?_, rfl⟩)
    rw [decide_eq_true_eq]; unfold Vok; omega
  · -- else
    have h8 := of_decide_eq_false h8
    refine crr (by kernel_rfl) rfl ?_   -- region 6
    refine c_if rfl (fun h13 => ?_) (fun h13 => ?_)
    · -- then
      have h13 := of_decide_eq_true h13
      refine c_rs (by kernel_rfl) ?_   -- region 7
      refine sr 1 rfl ?_
      refine s_op rfl (o_pure loud_n rfl (l1In_c ..) ?_)
      refine sra rfl ?_
      refine c_ret (fr rfl ⟨abd ?_, rfl⟩)
      rw [decide_eq_true_eq]; unfold Vok; omega
    · -- else
      have h13 := of_decide_eq_false h13
      refine crr (by kernel_rfl) rfl ?_   -- region 8
      refine c_if rfl (fun h17 => ?_) (fun h17 => ?_)
      · -- then
        have h17 := of_decide_eq_true h17
        refine c_rs (by kernel_rfl) ?_   -- region 9
        refine sr 1 rfl ?_
        refine s_op rfl (o_pure loud_n rfl (l1In_c ..) ?_)
        refine sra rfl ?_
        refine c_ret (fr rfl ⟨abd ?_, rfl⟩)
        rw [decide_eq_true_eq]; unfold Vok; omega
      · -- else
        have h17 := of_decide_eq_false h17
        refine c_skip ?_
        refine c_rs (by kernel_rfl) ?_   -- region 10
        refine sr 1 rfl ?_
        refine s_op rfl (o_pure loud_n rfl (l1In_c ..) ?_)
        refine sra rfl ?_
        refine c_ret (fr rfl ⟨abd ?_, rfl⟩)
        rw [decide_eq_true_eq]; unfold Vok; omega

theorem iKind_c (v : Int) (st : St) : ACalls Tryd.prog 41 [I v] st No (Pure1 (I (v % 8)) st) := by
  refine ent (N := 5) Tryd.func41 rfl (by decide) rfl rfl rfl ?_
  refine crr (by kernel_rfl) rfl ?_
  refine crr (by kernel_rfl) rfl ?_
  exact c_ret (fr rfl ⟨rfl, rfl⟩)
theorem iNum_c (v : Int) (st : St) : ACalls Tryd.prog 39 [I v] st No (Pure1 (I (v / 8)) st) := by
  refine ent (N := 5) Tryd.func39 rfl (by decide) rfl rfl rfl ?_
  refine crr (by kernel_rfl) rfl ?_
  refine crr (by kernel_rfl) rfl ?_
  exact c_ret (fr rfl ⟨rfl, rfl⟩)
theorem iValueOk_c (v : Int) (st : St) : ACalls Tryd.prog 69 [I v] st No (Pure1 (.bool (bd (Vok v))) st) := by
  refine ent (N := 23) Tryd.func69 rfl (by decide) rfl rfl rfl ?_
  refine crr (by kernel_rfl) rfl ?_   -- region 0
  refine c_rs (by kernel_rfl) ?_   -- region 1
  refine sr 1 rfl ?_
  refine s_op rfl (o_pure loud_n rfl (iNum_c ..) ?_)
  refine sra rfl ?_
  refine c_seq ?_
  refine c_rs (by kernel_rfl) ?_   -- region 2
  refine sr 1 rfl ?_
  refine s_op rfl (o_pure loud_n rfl (iKind_c ..) ?_)
  refine s_end ?_
  refine c_block ?_
  refine c_sj (fun _ : Unit => [(3, I (v / 8)), (7, I (v % 8)), (8, .bool (decide (v % 8 = 0 ∨ v % 8 = 1)))]) (fun _ => []) (fun _ st' => st = st') ?_ ?_
  · refine crr (by kernel_rfl) rfl ?_   -- region 3
    refine c_if rfl (fun h8 => ?_) (fun h8 => ?_)
    · have h8 := of_decide_eq_true h8
      refine c_skip ⟨(), ⟨rfl, rfl, ?_, trivial⟩, trivial, rfl⟩
      show AV.bool (decide _) = AV.bool (decide _)
      congr 1
      exact decide_eq_decide.2 ⟨fun h => .inl h, fun _ => h8⟩
    · have h8 := of_decide_eq_false h8
      refine c_region (by kernel_rfl) ?_   -- region 4
      refine sra rfl ⟨(), ⟨rfl, rfl, ?_, trivial⟩, trivial, rfl⟩
      show AV.bool (decide _) = AV.bool (decide _)
      congr 1
      exact decide_eq_decide.2 ⟨fun h => .inr h, fun h => h.resolve_left h8⟩
  rintro _ st' rfl
  refine c_if rfl (fun h8 => ?_) (fun h8 => ?_)
  · -- then
    have h8 := of_decide_eq_true h8
    refine crr (by kernel_rfl) rfl ?_   -- region 5
    refine c_ret (fr rfl ⟨abd ?_, rfl⟩)
    rw [decide_eq_true_eq]; unfold Vok; omega
  · -- else
    have h8 := of_decide_eq_false h8
    refine crr (by kernel_rfl) rfl ?_   -- region 6
    refine c_if rfl (fun h13 => ?_) (fun h13 => ?_)
    · -- then
      have h13 := of_decide_eq_true h13
      refine c_rs (by kernel_rfl) ?_   -- region 7
      refine sr 1 rfl ?_
      refine s_op rfl (o_pure loud_n rfl (within_c ..) ?_)
      refine sra rfl ?_
      refine c_ret (fr rfl ⟨abd ?_, rfl⟩)
      rw [decide_eq_true_eq]; unfold Vok; omega
    · -- else
      have h13 := of_decide_eq_false h13
      refine crr (by kernel_rfl) rfl ?_   -- region 8
      refine c_if rfl (fun h17 => ?_) (fun h17 => ?_)
      · -- then
        have h17 := of_decide_eq_true h17
        refine c_rs (by kernel_rfl) ?_   -- region 9
        refine sr 1 rfl ?_
        refine s_op rfl (o_pure loud_n rfl (within_c ..) ?_)
        refine sra rfl ?_
        refine c_ret (fr rfl ⟨abd ?_, rfl⟩)
        rw [decide_eq_true_eq]; unfold Vok; omega
      · -- else
        have h17 := of_decide_eq_false h17
        refine c_skip ?_
        refine c_rs (by kernel_rfl) ?_   -- region 10
        refine sr 1 rfl ?_
        refine s_op rfl (o_pure loud_n rfl (within_c ..) ?_)
        refine sra rfl ?_
        refine c_ret (fr rfl ⟨abd ?_, rfl⟩)
        rw [decide_eq_true_eq]; unfold Vok; omega

theorem l3Leads_c (r : Option Nat) (o : Nat) (l : List Int) (v inner : Int) (st : St) (hx : At st r o l) (hok : okB l = true) (hi : 0 ≤ inner) : ACalls Tryd.prog 24 [.agg [.sl r o l.length], I v, I inner] st No (Pure1 (.bool (bd (Leads l v inner))) st) := by
  have hlen := okB_len hok
  refine ent (N := 72) Tryd.func24 rfl (by decide) rfl rfl rfl ?_
  refine crr (by kernel_rfl) rfl ?_   -- region 0
  refine c_seq ?_
  refine c_rs (by kernel_rfl) ?_   -- region 1
  refine sr 1 rfl ?_
  refine s_op rfl (o_pure loud_n rfl (ValueOk_c ..) ?_)
  refine sra rfl ?_
  refine c_if rfl (fun h10 => ?_) (fun h10 => ?_)
  · -- then
    have h10 : ¬ Vok v := bdf.1 (by simpa using h10)
    refine crr (by kernel_rfl) rfl ?_   -- region 2
    refine c_ret (fr rfl ⟨abd ?_, rfl⟩)
    exact ⟨fun h => (by cases h), fun h => absurd h.1 h10⟩
  · -- else
    have h10 : Vok v := bdt.1 (by simpa using h10)
    refine c_skip ?_
    refine c_rs (by kernel_rfl) ?_   -- region 3
    refine sr 1 rfl ?_
    refine s_op rfl (o_pure loud_n rfl (Num_c ..) ?_)
    refine sra rfl ?_
    refine c_seq ?_
    refine c_rs (by kernel_rfl) ?_   -- region 4
    refine sr 1 rfl ?_
    refine s_op rfl (o_pure loud_n rfl (Kind_c ..) ?_)
    refine s_end ?_
    refine c_block ?_
    refine crr (by kernel_rfl) rfl ?_   -- region 5
    refine c_if rfl (fun h15 => ?_) (fun h15 => ?_)
    · -- then
      have h15 := of_decide_eq_true h15
      have hL : Leads l v inner ↔ kat l (v / 8) = 1 := by unfold Leads; constructor <;> intro h <;> first | exact h.2.1 h15 | exact ⟨h10, by omega, by omega, by omega, by omega⟩
      refine c_rs (by kernel_rfl) ?_
      refine sr 2 rfl ?_
      refine s_op rfl (o_pure loud_n rfl (l2Is_c _ _ _ _ _ hx hok) ?_)
      refine sr 1 rfl ?_
      refine s_bool 20 rfl rfl (fun h => ?_) (fun h => ?_)
      · have h := of_decide_eq_true h
        have hb := block_at h
        refine sr 3 rfl ?_
        refine s_op rfl (oidx rfl rfl rfl (by omega) (by omega) ?_)
        refine s_op rfl (old rfl rfl (hx.rd (by omega) (by omega)) ?_)
        refine s_op rfl (o_pure loud_n rfl (l2Kind_c ..) ?_)
        refine sra rfl ?_
        refine c_ret (fr rfl ⟨abd ?_, rfl⟩)
        rw [hL, kat_of (by omega)]
        show decide (rd l (v / 8) % 8 = _) = true ↔ _
        rw [decide_eq_true_eq, kind_rd]
        exact ⟨fun e => ⟨h, e⟩, fun e => e.2⟩
      · have h := of_decide_eq_false h
        refine sra rfl ?_
        refine c_ret (fr rfl ⟨abd ?_, rfl⟩)
        rw [hL, kat_of (by omega)]
        exact ⟨fun e => (by cases e), fun e => absurd e.1 h⟩
    · -- else
      have h15 := of_decide_eq_false h15
      refine crr (by kernel_rfl) rfl ?_
      refine c_if rfl (fun h29 => ?_) (fun h29 => ?_)
      · -- then
        have h29 := of_decide_eq_true h29
        have hL : Leads l v inner ↔ kat l (v / 8) = 2 := by unfold Leads; constructor <;> intro h <;> first | exact h.2.2.1 h29 | exact ⟨h10, by omega, by omega, by omega, by omega⟩
        refine c_rs (by kernel_rfl) ?_
        refine sr 2 rfl ?_
        refine s_op rfl (o_pure loud_n rfl (l2Is_c _ _ _ _ _ hx hok) ?_)
        refine sr 1 rfl ?_
        refine s_bool 34 rfl rfl (fun h => ?_) (fun h => ?_)
        · have h := of_decide_eq_true h
          have hb := block_at h
          refine sr 3 rfl ?_
          refine s_op rfl (oidx rfl rfl rfl (by omega) (by omega) ?_)
          refine s_op rfl (old rfl rfl (hx.rd (by omega) (by omega)) ?_)
          refine s_op rfl (o_pure loud_n rfl (l2Kind_c ..) ?_)
          refine sra rfl ?_
          refine c_ret (fr rfl ⟨abd ?_, rfl⟩)
          rw [hL, kat_of (by omega)]
          show decide (rd l (v / 8) % 8 = _) = true ↔ _
          rw [decide_eq_true_eq, kind_rd]
          exact ⟨fun e => ⟨h, e⟩, fun e => e.2⟩
        · have h := of_decide_eq_false h
          refine sra rfl ?_
          refine c_ret (fr rfl ⟨abd ?_, rfl⟩)
          rw [hL, kat_of (by omega)]
          exact ⟨fun e => (by cases e), fun e => absurd e.1 h⟩
      · -- else
        have h29 := of_decide_eq_false h29
        refine crr (by kernel_rfl) rfl ?_
        refine c_if rfl (fun h43 => ?_) (fun h43 => ?_)
        · -- then
          have h43 := of_decide_eq_true h43
          have hL : Leads l v inner ↔ kat l (v / 8) = 4 := by unfold Leads; constructor <;> intro h <;> first | exact h.2.2.2.1 h43 | exact ⟨h10, by omega, by omega, by omega, by omega⟩
          refine c_rs (by kernel_rfl) ?_
          refine sr 2 rfl ?_
          refine s_op rfl (o_pure loud_n rfl (l2Is_c _ _ _ _ _ hx hok) ?_)
          refine sr 1 rfl ?_
          refine s_bool 48 rfl rfl (fun h => ?_) (fun h => ?_)
          · have h := of_decide_eq_true h
            have hb := block_at h
            refine sr 3 rfl ?_
            refine s_op rfl (oidx rfl rfl rfl (by omega) (by omega) ?_)
            refine s_op rfl (old rfl rfl (hx.rd (by omega) (by omega)) ?_)
            refine s_op rfl (o_pure loud_n rfl (l2Kind_c ..) ?_)
            refine sra rfl ?_
            refine c_ret (fr rfl ⟨abd ?_, rfl⟩)
            rw [hL, kat_of (by omega)]
            show decide (rd l (v / 8) % 8 = _) = true ↔ _
            rw [decide_eq_true_eq, kind_rd]
            exact ⟨fun e => ⟨h, e⟩, fun e => e.2⟩
          · have h := of_decide_eq_false h
            refine sra rfl ?_
            refine c_ret (fr rfl ⟨abd ?_, rfl⟩)
            rw [hL, kat_of (by omega)]
            exact ⟨fun e => (by cases e), fun e => absurd e.1 h⟩
        · -- else
          have h43 := of_decide_eq_false h43
          refine crr (by kernel_rfl) rfl ?_
          refine c_if rfl (fun h57 => ?_) (fun h57 => ?_)
          · -- then
            have h57 := of_decide_eq_true h57
            have hL : Leads l v inner ↔ kat l (v / 8) = inner := by unfold Leads; constructor <;> intro h <;> first | exact h.2.2.2.2 h57 | exact ⟨h10, by omega, by omega, by omega, by omega⟩
            refine c_rs (by kernel_rfl) ?_
            refine sr 2 rfl ?_
            refine s_op rfl (o_pure loud_n rfl (l2Is_c _ _ _ _ _ hx hok) ?_)
            refine sr 1 rfl ?_
            refine s_bool 62 rfl rfl (fun h => ?_) (fun h => ?_)
            · have h := of_decide_eq_true h
              have hb := block_at h
              refine sr 3 rfl ?_
              refine s_op rfl (oidx rfl rfl rfl (by omega) (by omega) ?_)
              refine s_op rfl (old rfl rfl (hx.rd (by omega) (by omega)) ?_)
              refine s_op rfl (o_pure loud_n rfl (l2Kind_c ..) ?_)
              refine sra rfl ?_
              refine c_ret (fr rfl ⟨abd ?_, rfl⟩)
              rw [hL, kat_of (by omega)]
              show decide (rd l (v / 8) % 8 = _) = true ↔ _
              rw [decide_eq_true_eq, kind_rd]
              exact ⟨fun e => ⟨h, e⟩, fun e => e.2⟩
            · have h := of_decide_eq_false h
              refine sra rfl ?_
              refine c_ret (fr rfl ⟨abd ?_, rfl⟩)
              rw [hL, kat_of (by omega)]
              exact ⟨fun e => (by cases e), fun e => absurd e.1 h⟩
          · -- else
            have h57 := of_decide_eq_false h57
            refine c_skip ?_
            refine crr (by kernel_rfl) rfl ?_
            refine c_ret (fr rfl ⟨abd ?_, rfl⟩)
            refine ⟨fun _ => ⟨h10, by omega, by omega, by omega, by omega⟩, fun _ => rfl⟩

theorem l3Plain_c (r : Option Nat) (o : Nat) (l : List Int) (v : Int) (st : St) (hx : At st r o l) (hok : okB l = true) : ACalls Tryd.prog 63 [.agg [.sl r o l.length], I v] st No (Pure1 (.bool (bd (Plain l v))) st) := by
  refine ent (N := 13) Tryd.func63 rfl (by decide) rfl rfl rfl ?_
  refine crr (by kernel_rfl) rfl ?_   -- region 0
  refine c_rs (by kernel_rfl) ?_   -- region 1
  refine sr 1 rfl ?_
  refine s_op rfl (o_pure loud_n rfl (Kind_c ..) ?_)
  refine sr 2 rfl ?_
  refine s_bool 8 rfl rfl (fun h8 => ?_) (fun h8 => ?_)
  · -- slot 8 true
    have h8 : v % 8 ≠ 7 := by simpa using h8
    refine sr 2 rfl ?_
    refine s_op rfl (o_pure loud_n rfl (l3Leads_c _ _ _ _ _ _ hx hok (by omega)) ?_)
    refine sra rfl ?_
    refine c_ret (fr rfl ⟨abd ?_, rfl⟩)
    show bd _ = true ↔ _
    rw [bdt]; exact ⟨fun h => ⟨h8, h⟩, fun h => h.2⟩
  · -- slot 8 false
    have h8 : v % 8 = 7 := by simpa using h8
    refine sra rfl ?_
    refine c_ret (fr rfl ⟨abd ?_, rfl⟩)
    exact ⟨fun h => (by cases h), fun h => absurd h8 h.1⟩
theorem l3Next_c (r : Option Nat) (o : Nat) (l : List Int) (v b : Int) (st : St) (hx : At st r o l) (hok : okB l = true) (hb : 0 ≤ b) : ACalls Tryd.prog 61 [.agg [.sl r o l.length], I v, I b] st No (Pure1 (.bool (bd (Nxt l v b))) st) := by
  refine ent (N := 20) Tryd.func61 rfl (by decide) rfl rfl rfl ?_
  refine crr (by kernel_rfl) rfl ?_   -- region 0
  refine c_rs (by kernel_rfl) ?_   -- region 1
  refine sr 3 rfl ?_
  refine s_bool 9 rfl rfl (fun h9 => ?_) (fun h9 => ?_)
  · -- slot 9 true
    have h9 := of_decide_eq_true h9
    refine sra rfl ?_
    refine c_ret (fr rfl ⟨abd ?_, rfl⟩)
    exact ⟨fun _ => .inl h9, fun _ => rfl⟩
  · -- slot 9 false
    have h9 := of_decide_eq_false h9
    refine sr 1 rfl ?_
    refine s_op rfl (o_pure loud_n rfl (Kind_c ..) ?_)
    refine sr 2 rfl ?_
    refine s_bool 13 rfl rfl (fun h13 => ?_) (fun h13 => ?_)
    · -- slot 13 true
      have h13 := of_decide_eq_true h13
      refine sr 3 rfl ?_
      refine s_op rfl (o_pure loud_n rfl (l3Leads_c _ _ _ _ _ _ hx hok hb) ?_)
      refine sra rfl ?_
      refine c_ret (fr rfl ⟨abd ?_, rfl⟩)
      show bd _ = true ↔ _
      rw [bdt]
      refine ⟨fun h => .inr ⟨h13, h.2.2.2.2 h13⟩, fun h => ?_⟩
      rcases h with h | h
      · exact absurd h h9
      · exact h.leads (by omega)
    · -- slot 13 false
      have h13 := of_decide_eq_false h13
      refine sra rfl ?_
      refine c_ret (fr rfl ⟨abd ?_, rfl⟩)
      exact ⟨fun h => (by cases h), fun h => by rcases h with h | h; exact absurd h h9; exact absurd h.1 h13⟩
/-- Words that are 0, from a place to another. -/
def Zer (l : List Int) (a b : Int) : Prop := ∀ i : Int, a ≤ i → i < b → rd l i = 0
theorem l3Zero_c (r : Option Nat) (o : Nat) (l : List Int) (a b : Int) (st : St) (hx : At st r o l) (ha : 0 ≤ a) (hb : b ≤ l.length) (hl : l.length ≤ 2000) (hab : a ≤ 4000000) : ACalls Tryd.prog 62 [.agg [.sl r o l.length], I a, I b] st No (Pure1 (.bool (bd (Zer l a b))) st) := by
  refine ent (N := 20) Tryd.func62 rfl (by decide) rfl rfl rfl ?_
  refine crr (by kernel_rfl) rfl ?_   -- region 0
  refine c_seq ?_
  refine crr (by kernel_rfl) rfl ?_   -- region 1
  refine c_block ?_
  refine c_lp (α := Int) (fun i => [(2, I b), (7, I i)]) (fun _ => [(3, 3, [.sl r o l.length])]) (fun i st' => st = st' ∧ a ≤ i ∧ ∀ j : Int, a ≤ j → j < i → rd l j = 0) (fun i => (b - i).toNat) a ⟨rfl, rfl, trivial⟩ ⟨rfl, rfl, trivial⟩ ⟨rfl, Int.le_refl _, fun j h1 h2 => by omega⟩ ?_
  rintro i st' ⟨rfl, hi, hz⟩
  refine c_seq ?_
  refine crr (by kernel_rfl) rfl ?_   -- region 2
  refine c_if rfl (fun h11 => ?_) (fun h11 => ?_)
  · -- then
    have h11 := of_decide_eq_true h11
    refine c_skip ?_
    refine c_seq ?_
    refine c_block ?_
    refine c_rs (by kernel_rfl) ?_   -- region 4
    refine sr 3 rfl ?_
    refine s_op rfl (oidx rfl rfl rfl (by omega) (by omega) ?_)   -- 17 := indexAddr 22 (tmp 15) (tmp 16)
    refine s_op rfl (old rfl rfl (hx.rd (by omega) (by omega)) ?_)   -- 18 := load 3 (tmp 17)
    refine sra rfl ?_
    refine c_if rfl (fun h19 => ?_) (fun h19 => ?_)
    · -- then
      have h19 : rd l i ≠ 0 := by simpa using h19
      refine crr (by kernel_rfl) rfl ?_   -- region 5
      refine c_ret (fr rfl ⟨abd ?_, rfl⟩)
      exact ⟨fun h => (by cases h), fun h => absurd (h i hi h11) h19⟩
    · -- else
      have h19 : rd l i = 0 := by simpa using h19
      refine c_skip ?_
      refine c_region (by kernel_rfl) ?_   -- region 3
      refine sr 1 rfl ?_
      refine s_op rfl (o_ar rfl rfl rfl (by omega) (by omega) ?_)   -- 13 := binOp BinOp.add 3 (tmp 12) (const (Value.int IntKind.i64 1)) 3
      refine sra rfl ⟨i + 1, ⟨rfl, rfl, trivial⟩, ⟨rfl, rfl, trivial⟩, ⟨rfl, by omega, fun j h1 h2 => ?_⟩, by omega⟩
      by_cases e : j = i
      · rw [e]; exact h19
      · exact hz j h1 (by omega)
  · -- else
    have h11 := of_decide_eq_false h11
    refine c_exit ?_
    refine crr (by kernel_rfl) rfl ?_   -- region 6
    refine c_ret (fr rfl ⟨abd ?_, rfl⟩)
    exact ⟨fun _ j h1 h2 => hz j h1 (by omega), fun _ => rfl⟩
/-- A text that is right: at place a, of n words. -/
def Txt (l : List Int) (a n : Int) : Prop := (0 ≤ rd l (a + 1) ∧ rd l (a + 1) ≤ n - 2) ∧ Zer l (a + 2 + rd l (a + 1)) (a + n) ∧ ∀ i : Int, 0 ≤ i → i < rd l (a + 1) → 0 ≤ rd l (a + 2 + i) ∧ rd l (a + 2 + i) ≤ 255
theorem l3Text_c (r : Option Nat) (o : Nat) (l : List Int) (a n : Int) (st : St) (hx : At st r o l) (ha : 0 ≤ a) (hn : 2 ≤ n) (han : a + n ≤ l.length) (hl : l.length ≤ 2000) : ACalls Tryd.prog 59 [.agg [.sl r o l.length], I a, I n] st No (Pure1 (.bool (bd (Txt l a n))) st) := by
  refine ent (N := 47) Tryd.func59 rfl (by decide) rfl rfl rfl ?_
  refine crr (by kernel_rfl) rfl ?_   -- region 0
  refine c_rs (by kernel_rfl) ?_   -- region 1
  refine sr 3 rfl ?_
  refine s_op rfl (o_ar rfl rfl rfl (by omega) (by omega) ?_)   -- 12 := binOp BinOp.add 3 (tmp 11) (const (Value.int IntKind.i64 1)) 3
  refine s_op rfl (oidx rfl rfl rfl (by omega) (by omega) ?_)   -- 13 := indexAddr 22 (tmp 10) (tmp 12)
  refine s_op rfl (old rfl rfl (hx.rd (by omega) (by omega)) ?_)   -- 14 := load 3 (tmp 13)
  refine sra rfl ?_
  refine c_seq ?_
  refine c_rs (by kernel_rfl) ?_   -- region 2
  refine sr 2 rfl ?_
  refine s_op rfl (o_ar rfl rfl rfl (by omega) (by omega) ?_)   -- 17 := binOp BinOp.sub 3 (tmp 16) (const (Value.int IntKind.i64 2)) 3
  refine s_op rfl (o_pure loud_n rfl (l1In_c ..) ?_)
  refine sr 2 rfl ?_
  refine s_bool 20 rfl rfl (fun h20 => ?_) (fun h20 => ?_)
  · -- slot 20 true
    have h20 : ¬ (0 ≤ rd l (a + 1) ∧ rd l (a + 1) ≤ n - 2) := ndt h20
    refine sra rfl ?_
    refine c_if_t rfl ?_
    refine crr (by kernel_rfl) rfl ?_   -- region 3
    refine c_ret (fr rfl ⟨abd ?_, rfl⟩)
    exact ⟨fun h => (by cases h), fun h => absurd h.1 h20⟩
  · -- slot 20 false
    have h20 : 0 ≤ rd l (a + 1) ∧ rd l (a + 1) ≤ n - 2 := by simpa using h20
    refine sr 2 rfl ?_
    refine s_op rfl (o_ar rfl rfl rfl (by omega) (by omega) ?_)   -- 23 := binOp BinOp.add 3 (tmp 22) (const (Value.int IntKind.i64 2)) 3
    refine sr 1 rfl ?_
    refine s_op rfl (o_ar rfl rfl rfl (by omega) (by omega) ?_)   -- 25 := binOp BinOp.add 3 (tmp 23) (tmp 24) 3
    refine sr 2 rfl ?_
    refine s_op rfl (o_ar rfl rfl rfl (by omega) (by omega) ?_)   -- 28 := binOp BinOp.add 3 (tmp 26) (tmp 27) 3
    refine s_op rfl (o_pure loud_n rfl (l3Zero_c _ _ _ _ _ _ hx (by omega) (by omega) hl (by omega)) ?_)
    refine sra rfl ?_
    refine c_if rfl (fun h31 => ?_) (fun h31 => ?_)
    · -- then
      have h31 := bdf.1 (show bd (Zer l (a + 2 + rd l (a + 1)) (a + n)) = false by simpa using h31)
      refine crr (by kernel_rfl) rfl ?_   -- region 3
      refine c_ret (fr rfl ⟨abd ?_, rfl⟩)
      exact ⟨fun h => (by cases h), fun h => absurd h.2.1 h31⟩
    · -- else
      have h31 := bdt.1 (show bd (Zer l (a + 2 + rd l (a + 1)) (a + n)) = true by simpa using h31)
      refine c_skip ?_
      refine c_seq ?_
      refine crr (by kernel_rfl) rfl ?_   -- region 4
      refine c_block ?_
      refine c_lp (α := Int) (fun i => [(1, I a), (7, I (rd l (a + 1))), (8, I i)]) (fun _ => [(3, 3, [.sl r o l.length])]) (fun i st' => st = st' ∧ 0 ≤ i ∧ ∀ j : Int, 0 ≤ j → j < i → 0 ≤ rd l (a + 2 + j) ∧ rd l (a + 2 + j) ≤ 255) (fun i => (rd l (a + 1) - i).toNat) 0 ⟨rfl, rfl, rfl, trivial⟩ ⟨rfl, rfl, trivial⟩ ⟨rfl, Int.le_refl _, fun j h1 h2 => by omega⟩ ?_
      rintro i st' ⟨rfl, hi, hz⟩
      refine c_seq ?_
      refine crr (by kernel_rfl) rfl ?_   -- region 5
      refine c_if rfl (fun h34 => ?_) (fun h34 => ?_)
      · -- then
        have h34 := of_decide_eq_true h34
        refine c_skip ?_
        refine c_seq ?_
        refine c_block ?_
        refine c_rs (by kernel_rfl) ?_   -- region 7
        refine sr 3 rfl ?_
        refine s_op rfl (o_ar rfl rfl rfl (by omega) (by omega) ?_)   -- 40 := binOp BinOp.add 3 (tmp 39) (const (Value.int IntKind.i64 2)) 3
        refine sr 1 rfl ?_
        refine s_op rfl (o_ar rfl rfl rfl (by omega) (by omega) ?_)   -- 42 := binOp BinOp.add 3 (tmp 40) (tmp 41) 3
        refine s_op rfl (oidx rfl rfl rfl (by omega) (by omega) ?_)   -- 43 := indexAddr 22 (tmp 38) (tmp 42)
        refine s_op rfl (old rfl rfl (hx.rd (by omega) (by omega)) ?_)   -- 44 := load 3 (tmp 43)
        refine s_op rfl (o_pure loud_n rfl (l1In_c ..) ?_)
        refine sra rfl ?_
        refine c_if rfl (fun h46 => ?_) (fun h46 => ?_)
        · -- then
          have h46 : ¬ (0 ≤ rd l (a + 2 + i) ∧ rd l (a + 2 + i) ≤ 255) := ndt h46
          refine crr (by kernel_rfl) rfl ?_   -- region 8
          refine c_ret (fr rfl ⟨abd ?_, rfl⟩)
          exact ⟨fun h => (by cases h), fun h => absurd (h.2.2 i hi h34) h46⟩
        · -- else
          have h46 : 0 ≤ rd l (a + 2 + i) ∧ rd l (a + 2 + i) ≤ 255 := by simpa using h46
          refine c_skip ?_
          refine c_region (by kernel_rfl) ?_   -- region 6
          refine sr 1 rfl ?_
          refine s_op rfl (o_ar rfl rfl rfl (by omega) (by omega) ?_)   -- 36 := binOp BinOp.add 3 (tmp 35) (const (Value.int IntKind.i64 1)) 3
          refine sra rfl ⟨i + 1, ⟨rfl, rfl, rfl, trivial⟩, ⟨rfl, rfl, trivial⟩, ⟨rfl, by omega, fun j h1 h2 => ?_⟩, by omega⟩
          by_cases e : j = i
          · rw [e]; exact h46
          · exact hz j h1 (by omega)
      · -- else
        have h34 := of_decide_eq_false h34
        refine c_exit ?_
        refine crr (by kernel_rfl) rfl ?_   -- region 9
        refine c_ret (fr rfl ⟨abd ?_, rfl⟩)
        exact ⟨fun _ => ⟨h20, h31, fun j h1 h2 => hz j h1 (by omega)⟩, fun _ => rfl⟩
end Go.Proofs.YtmphklmhhcmbnaaDoorW.Ax

/- What a value leads to, and texts, in the program: walked. -/
namespace Go.Proofs.YtmphklmhhcmbnaaDoorW.Ax
open Go Go.RowKit Go.Proofs Go.Proofs.YtmphklmhhcmbnaaDoor.Pure
set_option linter.unusedVariables false
set_option maxRecDepth 100000

/-- The kinds of all places, as far as the first blocks tell. -/
def kl (l : List Int) (j : Nat) : List Int := (List.range l.length).map fun i : Nat => if (i : Int) ∈ (blocks l).take j then kindOf l i else -1
def kindsL (l : List Int) : List Int := (List.range l.length).map fun i : Nat => kat l i
theorem kl_len (l : List Int) (j : Nat) : (kl l j).length = l.length := by simp [kl]
theorem kindsL_len (l : List Int) : (kindsL l).length = l.length := by simp [kindsL]
theorem kl_all (l : List Int) (j : Nat) (h : (blocks l).length ≤ j) : kl l j = kindsL l := by
  unfold kl kindsL
  rw [List.take_of_length_le h]
  rfl
theorem kl_zero (l : List Int) : kl l 0 = List.replicate l.length (-1) := by
  apply List.ext_getElem
  · simp [kl]
  · intro i h1 h2; simp [kl]
theorem kl_set (l : List Int) (j b : Nat) (hj : j < (blocks l).length) (hb : rd (blocks l) j = b) : (kl l j).set b (kindOf l b) = kl l (j + 1) := by
  have hg : (blocks l)[j] = (b : Int) := by rw [← hb, rd_nat]; simp [List.getD, hj]
  apply List.ext_getElem
  · simp [kl]
  · intro i h1 h2
    have hi : i < l.length := by simpa [kl] using h2
    have ht : (blocks l).take (j + 1) = (blocks l).take j ++ [(b : Int)] := by rw [← hg]; simp
    rw [List.getElem_set]
    simp only [kl, List.getElem_map, List.getElem_range, ht, List.mem_append, List.mem_singleton]
    by_cases e : b = i
    · subst e; simp
    · have e' : ¬ ((i : Int) = b) := by omega
      simp [e, e']
theorem kindsL_rd (l : List Int) (i : Int) (h0 : 0 ≤ i) (h1 : i < l.length) : rd (kindsL l) i = kat l i := by
  obtain ⟨n, rfl⟩ : ∃ n : Nat, i = n := ⟨i.toNat, by omega⟩
  rw [rd_nat]
  have : n < l.length := by omega
  simp [kindsL, List.getD, this]
theorem ones_set (n i : Nat) (h : i < n) : (List.replicate i (-1 : Int) ++ List.replicate (n - i) 0).set i (-1) = List.replicate (i + 1) (-1) ++ List.replicate (n - (i + 1)) 0 := by
  rw [List.set_append, if_neg (by simp), show n - i = (n - (i + 1)) + 1 by omega, List.replicate_succ, List.replicate_succ']
  simp

theorem kinds_c (r : Option Nat) (o : Nat) (l : List Int) (st : St) (hx : At st r o l) (hl : l.length ≤ 2000) : ACalls Tryd.prog 33 [.agg [.sl r o l.length]] st No (Ro st (kindsL l)) := by
  refine ent (N := 38) Tryd.func33 rfl (by decide) rfl rfl rfl ?_
  refine crr (by kernel_rfl) rfl ?_   -- region 0
  refine c_rs (by kernel_rfl) ?_   -- region 1
  refine sr 3 rfl ?_
  refine s_op rfl (omkI loud_n rfl rfl rfl (by omega) (by omega) ?_)   -- 10 := makeSlice 22 (tmp 9) (tmp 9)
  refine sra rfl ?_
  refine c_seq ?_
  refine crr (by kernel_rfl) rfl ?_   -- region 2
  refine c_block ?_
  refine c_lp (α := Nat) (fun i => [(3, .sl (some st.n) 0 l.length), (12, I l.length), (13, I i)]) (fun _ => [(1, 1, [.sl r o l.length])]) (fun i st' => i ≤ l.length ∧ Ex st st' ∧ Fr st.n st' (some st.n) (List.replicate i (-1) ++ List.replicate (l.length - i) 0)) (fun i => l.length - i) 0 ⟨rfl, rfl, rfl, trivial⟩ ⟨rfl, rfl, trivial⟩
    ⟨by omega, ex_push _ _, by simpa using fr_push st (List.replicate l.length 0)⟩ ?_
  rintro i st1 ⟨hi, he, hf⟩
  refine crr (by kernel_rfl) rfl ?_   -- region 3
  refine c_seq ?_
  refine c_if rfl (fun h14 => ?_) (fun h14 => ?_)
  · -- then
    have h14 := of_decide_eq_true h14
    refine c_skip ?_
    refine c_seq ?_
    refine c_block ?_
    refine crr (by kernel_rfl) rfl ?_   -- region 4
    refine c_region (by kernel_rfl) ?_   -- region 5
    refine sr 2 rfl ?_
    refine s_op rfl (oidx rfl rfl rfl (by omega) (by omega) ?_)   -- 18 := indexAddr 22 (tmp 16) (tmp 17)
    refine s_op rfl (ostF rfl rfl hf rfl rfl (by simp; omega) fun st2 hf2 he2 => ?_)
    refine s_end ?_
    refine c_region (by kernel_rfl) ?_   -- region 6
    refine s_op rfl (o_ar rfl rfl rfl (by omega) (by omega) ?_)   -- 19 := binOp BinOp.add 3 (tmp 13) (const (Value.int IntKind.i64 1)) 3
    refine sra rfl ?_
    refine ⟨i + 1, ⟨rfl, rfl, rfl, trivial⟩, ⟨rfl, rfl, trivial⟩, ⟨by omega, he.own hf he2, ?_⟩, by omega⟩
    rw [← ones_set l.length i (by omega)]
    simpa using hf2
  · -- else
    have h14 := of_decide_eq_false h14
    have hi' : i = l.length := by omega
    subst hi'
    rw [Nat.sub_self, List.replicate_zero, List.append_nil, ← kl_zero] at hf
    refine c_exit ?_
    refine c_seq ?_
    refine c_rs (by kernel_rfl) ?_   -- region 7
    refine sr 1 rfl ?_
    refine s_op rfl (o_ex loud_n rfl (iBlocks_c _ _ _ _ (hx.ex he)) ?_)
    rintro v2 st2 ⟨p, rfl, hp⟩ e2
    refine sra rfl ?_
    refine c_block ?_
    have hbl := blocks_lel l
    refine c_lp (α := Nat) (fun i => [(3, .sl (some st.n) 0 l.length), (21, .sl p 0 (blocks l).length), (22, I (blocks l).length), (23, I i)]) (fun _ => [(1, 1, [.sl r o l.length])]) (fun j st' => j ≤ (blocks l).length ∧ Ex st st' ∧ At st' p 0 (blocks l) ∧ (∀ i, p = some i → st1.n ≤ i) ∧ Fr st.n st' (some st.n) (kl l j)) (fun j => (blocks l).length - j) 0 ⟨rfl, rfl, rfl, rfl, trivial⟩ ⟨rfl, rfl, trivial⟩
      ⟨by omega, he.tr e2, hp.at_, fun i hi => (hp.bd i hi).1, hf.ex e2⟩ ?_
    rintro j st3 ⟨hj, he3, hpa, hpb, hf3⟩
    refine crr (by kernel_rfl) rfl ?_   -- region 8
    refine c_seq ?_
    refine c_if rfl (fun h24 => ?_) (fun h24 => ?_)
    · -- then
      have h24 := of_decide_eq_true h24
      have hjl : j < (blocks l).length := by omega
      have hmem : rd (blocks l) j ∈ blocks l := by
        rw [rd_nat]; simp only [List.getD, List.getElem?_eq_getElem hjl, Option.getD_some]; exact List.getElem_mem hjl
      obtain ⟨b, hb1, hb2, hb3⟩ := blocks_mem hmem
      refine c_skip ?_
      refine c_seq ?_
      refine c_block ?_
      refine c_rs (by kernel_rfl) ?_   -- region 9
      refine s_op rfl (oidx rfl rfl rfl (by omega) (by omega) ?_)   -- 25 := indexAddr 22 (tmp 21) (tmp 23)
      refine s_op rfl (old rfl rfl (hpa.rd (by omega) (by omega)) ?_)   -- 26 := load 3 (tmp 25)
      rw [hb1]
      refine sra rfl ?_
      refine c_region (by kernel_rfl) ?_   -- region 10
      refine sr 5 rfl ?_
      refine s_op rfl (oidx rfl rfl rfl (by omega) (by omega) ?_)   -- 32 := indexAddr 22 (tmp 30) (tmp 31)
      refine s_op rfl (old rfl rfl ((hx.ex he3).rd (by omega) (by omega)) ?_)   -- 33 := load 3 (tmp 32)
      refine sr 1 rfl ?_
      refine s_op rfl (oidx rfl rfl rfl (by omega) (by omega) ?_)   -- 35 := indexAddr 22 (tmp 27) (tmp 28)
      refine s_op rfl (ostF rfl rfl hf3 rfl rfl (by rw [kl_len]; omega) fun st4 hf4 he4 => ?_)
      refine s_end ?_
      refine c_region (by kernel_rfl) ?_   -- region 11
      refine s_op rfl (o_ar rfl rfl rfl (by omega) (by omega) ?_)   -- 36 := binOp BinOp.add 3 (tmp 23) (const (Value.int IntKind.i64 1)) 3
      refine sra rfl ?_
      have hlt : st.n < st1.n := hf.ob.2.1
      refine ⟨j + 1, ⟨rfl, rfl, rfl, rfl, trivial⟩, ⟨rfl, rfl, trivial⟩, ⟨by omega, he3.own hf3 he4, hpa.ext he4 (fun i hi e => by have := hpb i hi; injection e with e; omega), hpb, ?_⟩, by omega⟩
      rw [← kl_set l j b hjl hb1]
      have e : rd l (b : Int) % 8 = kindOf l b := rd_kind l b
      rw [← e]
      simpa using hf4
    · -- else
      have h24 := of_decide_eq_false h24
      refine c_exit ?_
      refine crr (by kernel_rfl) rfl ?_   -- region 12
      rw [kl_all l j (by omega)] at hf3
      refine c_ret (fr rfl ⟨st.n, ?_, hf3⟩)
      rw [kindsL_len]
theorem leadsTo_c (r : Option Nat) (o n : Nat) (l : List Int) (v k b : Int) (st : St) (hx : At st r o (kindsL l)) (hl : l.length ≤ 2000) (hb : 0 ≤ b) (hn : n = l.length) : ACalls Tryd.prog 56 [.sl r o n, I v, I k, I b] st No (Pure1 (.bool (bd (Rf l v k b))) st) := by
  subst hn
  have hkl := kindsL_len l
  refine ent (N := 30) Tryd.func56 rfl (by decide) rfl rfl rfl ?_
  refine crr (by kernel_rfl) rfl ?_   -- region 0
  refine c_rs (by kernel_rfl) ?_   -- region 1
  refine sr 1 rfl ?_
  refine s_op rfl (o_pure loud_n rfl (iKind_c ..) ?_)
  refine sr 3 rfl ?_
  refine s_bool 13 rfl rfl (fun h13 => ?_) (fun h13 => ?_)
  · -- slot 13 true
    have h13 := of_decide_eq_true h13
    refine sr 1 rfl ?_
    refine s_op rfl (o_pure loud_n rfl (iNum_c ..) ?_)
    refine sr 2 rfl ?_
    refine s_op rfl (o_ar rfl rfl rfl (by omega) (by omega) ?_)   -- 18 := binOp BinOp.sub 3 (tmp 17) (const (Value.int IntKind.i64 1)) 3
    refine s_op rfl (o_pure loud_n rfl (within_c ..) ?_)
    refine sr 2 rfl ?_
    refine s_bool 21 rfl rfl (fun h21 => ?_) (fun h21 => ?_)
    · -- slot 21 true
      have h21 : 0 ≤ v / 8 ∧ v / 8 ≤ (l.length : Int) - 1 := of_decide_eq_true h21
      refine sr 2 rfl ?_
      refine s_op rfl (o_pure loud_n rfl (iNum_c ..) ?_)
      refine s_op rfl (oidx rfl rfl rfl (by omega) (by omega) ?_)   -- 25 := indexAddr 22 (tmp 22) (tmp 24)
      refine s_op rfl (old rfl rfl (hx.rd (by omega) (by omega)) ?_)   -- 26 := load 3 (tmp 25)
      rw [kindsL_rd l _ (by omega) (by omega)]
      refine sra rfl ?_
      refine c_ret (fr rfl ⟨abd ?_, rfl⟩)
      show decide _ = true ↔ _
      rw [decide_eq_true_eq]
      exact ⟨fun h => ⟨h13, h⟩, fun h => h.2⟩
    · -- slot 21 false
      have h21 : ¬ (0 ≤ v / 8 ∧ v / 8 ≤ (l.length : Int) - 1) := of_decide_eq_false h21
      refine sra rfl ?_
      refine c_ret (fr rfl ⟨abd ?_, rfl⟩)
      exact ⟨fun h => (by cases h), fun h => by have := kat_in hb h.2; omega⟩
  · -- slot 13 false
    have h13 := of_decide_eq_false h13
    refine sra rfl ?_
    refine c_ret (fr rfl ⟨abd ?_, rfl⟩)
    exact ⟨fun h => (by cases h), fun h => absurd h.1 h13⟩
theorem plainOk_c (r : Option Nat) (o n : Nat) (l : List Int) (v : Int) (st : St) (hx : At st r o (kindsL l)) (hl : l.length ≤ 2000) (hn : n = l.length) : ACalls Tryd.prog 55 [.sl r o n, I v] st No (Pure1 (.bool (bd (Plain l v))) st) := by
  refine ent (N := 29) Tryd.func55 rfl (by decide) rfl rfl rfl ?_
  refine crr (by kernel_rfl) rfl ?_   -- region 0
  refine c_seq ?_
  refine c_rs (by kernel_rfl) ?_   -- region 1
  refine sr 1 rfl ?_
  refine s_op rfl (o_pure loud_n rfl (iKind_c ..) ?_)
  refine s_end ?_
  refine c_block ?_
  have arm : ∀ k b : Int, (k = 4 ∧ b = 1) ∨ (k = 5 ∧ b = 2) ∨ (k = 6 ∧ b = 4) → v % 8 = k → (bd (Rf l v k b) = true ↔ Plain l v) := fun k b hkb hk => by
    rw [bdt]
    refine ⟨fun h => ⟨by omega, ?_⟩, fun h => ⟨hk, ?_⟩⟩
    · obtain ⟨a1, a2, a3, a4, a5⟩ := h.leads (by omega)
      exact ⟨a1, a2, a3, a4, fun h => by omega⟩
    · obtain ⟨a1, a2, a3, a4, a5⟩ := h.2
      rcases hkb with ⟨rfl, rfl⟩ | ⟨rfl, rfl⟩ | ⟨rfl, rfl⟩
      · exact a2 hk
      · exact a3 hk
      · exact a4 hk
  refine crr (by kernel_rfl) rfl ?_   -- region 2
  refine c_if rfl (fun h7 => ?_) (fun h7 => ?_)
  · -- then
    have h7 := of_decide_eq_true h7
    refine c_rs (by kernel_rfl) ?_   -- region 3
    refine sr 2 rfl ?_
    refine s_op rfl (o_pure loud_n rfl (leadsTo_c _ _ _ _ _ _ _ _ hx hl (by omega) hn) ?_)
    refine sra rfl ?_
    exact c_ret (fr rfl ⟨abd (arm _ _ (by omega) h7), rfl⟩)
  · -- else
    have h7 := of_decide_eq_false h7
    refine crr (by kernel_rfl) rfl ?_   -- region 4
    refine c_if rfl (fun h12 => ?_) (fun h12 => ?_)
    · -- then
      have h12 := of_decide_eq_true h12
      refine c_rs (by kernel_rfl) ?_   -- region 5
      refine sr 2 rfl ?_
      refine s_op rfl (o_pure loud_n rfl (leadsTo_c _ _ _ _ _ _ _ _ hx hl (by omega) hn) ?_)
      refine sra rfl ?_
      exact c_ret (fr rfl ⟨abd (arm _ _ (by omega) h12), rfl⟩)
    · -- else
      have h12 := of_decide_eq_false h12
      refine crr (by kernel_rfl) rfl ?_   -- region 6
      refine c_if rfl (fun h17 => ?_) (fun h17 => ?_)
      · -- then
        have h17 := of_decide_eq_true h17
        refine c_rs (by kernel_rfl) ?_   -- region 7
        refine sr 2 rfl ?_
        refine s_op rfl (o_pure loud_n rfl (leadsTo_c _ _ _ _ _ _ _ _ hx hl (by omega) hn) ?_)
        refine sra rfl ?_
        exact c_ret (fr rfl ⟨abd (arm _ _ (by omega) h17), rfl⟩)
      · -- else
        have h17 := of_decide_eq_false h17
        refine c_skip ?_
        refine c_rs (by kernel_rfl) ?_   -- region 8
        refine sr 1 rfl ?_
        refine s_op rfl (o_pure loud_n rfl (iKind_c ..) ?_)
        refine sr 2 rfl ?_
        refine s_bool 25 rfl rfl (fun h25 => ?_) (fun h25 => ?_)
        · -- slot 25 true
          have h25 := ndt h25
          refine sr 1 rfl ?_
          refine s_op rfl (o_pure loud_n rfl (iValueOk_c ..) ?_)
          refine sra rfl ?_
          refine c_ret (fr rfl ⟨abd ?_, rfl⟩)
          show bd (Vok v) = true ↔ _
          rw [bdt]
          exact ⟨fun h => ⟨h25, h, by omega, by omega, by omega, by omega⟩, fun h => h.2.1⟩
        · -- slot 25 false
          have h25 := ndf h25
          refine sra rfl ?_
          refine c_ret (fr rfl ⟨abd ?_, rfl⟩)
          exact ⟨fun h => (by cases h), fun h => absurd h25 h.1⟩
theorem textOk_c (r : Option Nat) (o : Nat) (w : List Int) (st : St) (hx : At st r o w) (h2 : 2 ≤ w.length) (hl : w.length ≤ 2000) : ACalls Tryd.prog 67 [.sl r o w.length] st No (Pure1 (.bool (bd (Txt w 0 w.length))) st) := by
  refine ent (N := 36) Tryd.func67 rfl (by decide) rfl rfl rfl ?_
  refine crr (by kernel_rfl) rfl ?_   -- region 0
  refine c_rs (by kernel_rfl) ?_   -- region 1
  refine sr 1 rfl ?_
  refine s_op rfl (oidx rfl rfl rfl (by omega) (by omega) ?_)   -- 7 := indexAddr 22 (tmp 6) (const (Value.int IntKind.i64 1))
  refine s_op rfl (old rfl rfl (hx.rd (by omega) (by omega)) ?_)   -- 8 := load 3 (tmp 7)
  refine sra rfl ?_
  refine c_seq ?_
  refine c_rs (by kernel_rfl) ?_   -- region 2
  refine sr 3 rfl ?_
  refine s_op rfl (o_ar rfl rfl rfl (by omega) (by omega) ?_)   -- 12 := binOp BinOp.sub 3 (tmp 11) (const (Value.int IntKind.i64 2)) 3
  refine s_op rfl (o_pure loud_n rfl (within_c ..) ?_)
  refine sra rfl ?_
  refine c_if rfl (fun h14 => ?_) (fun h14 => ?_)
  · -- then
    have h14 := ndt h14
    refine crr (by kernel_rfl) rfl ?_   -- region 3
    refine c_ret (fr rfl ⟨abd ?_, rfl⟩)
    exact ⟨fun h => (by cases h), fun h => absurd h.1 h14⟩
  · -- else
    have h14 := ndf h14
    refine c_skip ?_
    refine c_seq ?_
    refine c_rs (by kernel_rfl) ?_   -- region 4
    refine sr 1 rfl ?_
    have hr : ∃ q, r = some q := by
      cases r with
      | none => have := hx 0 (by omega); cases this
      | some q => exact ⟨q, rfl⟩
    obtain ⟨q, rfl⟩ := hr
    refine s_op rfl (oslice rfl rfl rfl rfl (by omega) (by omega) (by omega) ?_)   -- 16 := slice 22 (tmp 15) (some (const (Value.int IntKind.i64 2))) none none
    refine sra rfl ?_
    refine c_block ?_
    refine c_lp (α := Nat) (fun i => [(3, I (rd w 1)), (16, .sl (some q) (o + 2) (w.length - 2)), (17, I (w.length - 2 : Nat)), (18, I i)]) (fun _ => [])
      (fun i st' => st = st' ∧ i ≤ w.length - 2 ∧ ∀ j : Int, 0 ≤ j → j < i → 0 ≤ rd w (2 + j) ∧ rd w (2 + j) ≤ 255 ∧ (rd w 1 ≤ j → rd w (2 + j) = 0)) (fun i => w.length - i) 0 ⟨rfl, rfl, rfl, rfl, trivial⟩ trivial ⟨rfl, by omega, fun j h1 h2 => by omega⟩ ?_
    rintro i st' ⟨rfl, hi, hz⟩
    refine crr (by kernel_rfl) rfl ?_   -- region 5
    refine c_seq ?_
    refine c_if rfl (fun h19 => ?_) (fun h19 => ?_)
    · -- then
      have h19 := of_decide_eq_true h19
      refine c_skip ?_
      refine c_seq ?_
      refine c_block ?_
      refine c_rs (by kernel_rfl) ?_   -- region 6
      refine sr 1 rfl ?_
      refine s_op rfl (oidx rfl rfl rfl (by omega) (by omega) ?_)   -- 21 := indexAddr 22 (tmp 16) (tmp 18)
      have hc := hx.rd (i := 2 + (i : Int)) (by omega) (by omega)
      rw [show o + (2 + (i : Int)).toNat = o + 2 + (i : Int).toNat by omega] at hc
      refine s_op rfl (old rfl rfl hc ?_)   -- 22 := load 3 (tmp 21)
      refine sra rfl ?_
      refine c_rj [(3, I (rd w 1)), (16, .sl (some q) (o + 2) (w.length - 2)), (17, I (w.length - 2 : Nat)), (18, I i), (34, .bool (bd (¬ (0 ≤ rd w (2 + i) ∧ rd w (2 + i) ≤ 255 ∧ (rd w 1 ≤ i → rd w (2 + i) = 0)))))] [] (by kernel_rfl) ?_ ?_   -- region 7
      · refine sr 1 rfl ?_
        refine s_op rfl (o_pure loud_n rfl (within_c ..) ?_)
        refine sr 2 rfl ?_
        refine s_bool 26 rfl rfl (fun h26 => ?_) (fun h26 => ?_)
        · have h26 := ndt h26
          refine sra rfl ⟨⟨rfl, rfl, rfl, rfl, ?_, trivial⟩, trivial, rfl⟩
          exact abd ⟨fun _ h => h26 ⟨h.1, h.2.1⟩, fun _ => rfl⟩
        · have h26 := ndf h26
          refine sr 4 rfl ?_
          refine s_bool 30 rfl rfl (fun h30 => ?_) (fun h30 => ?_)
          · have h30 := of_decide_eq_true h30
            refine sra rfl ⟨⟨rfl, rfl, rfl, rfl, ?_, trivial⟩, trivial, rfl⟩
            refine abd ?_
            show (!decide _) = true ↔ _
            refine ⟨fun h hc => ndt h (hc.2.2 h30), fun h => ?_⟩
            simp only [Bool.not_eq_true', decide_eq_false_iff_not]
            exact fun e => h ⟨h26.1, h26.2, fun _ => e⟩
          · have h30 := of_decide_eq_false h30
            refine sra rfl ⟨⟨rfl, rfl, rfl, rfl, ?_, trivial⟩, trivial, rfl⟩
            refine abd ⟨fun h => (by cases h), fun h => absurd ⟨h26.1, h26.2, fun h => absurd h h30⟩ h⟩
      refine c_if rfl (fun h34 => ?_) (fun h34 => ?_)
      · -- then
        have h34 := bdt.1 h34
        refine crr (by kernel_rfl) rfl ?_   -- region 8
        refine c_ret (fr rfl ⟨abd ?_, rfl⟩)
        refine ⟨fun h => (by cases h), fun h => absurd ?_ h34⟩
        obtain ⟨h1, h2, h3⟩ := h
        rw [show (0 : Int) + 1 = 1 by rfl] at h1 h2 h3
        by_cases hc : rd w 1 ≤ (i : Int)
        · have := h2 (2 + i) (by omega) (by omega)
          rw [this]; exact ⟨by omega, by omega, fun _ => rfl⟩
        · have := h3 i (by omega) (by omega)
          rw [show (0 : Int) + 2 + i = 2 + i by omega] at this
          exact ⟨this.1, this.2, fun h => absurd h hc⟩
      · -- else
        have h34 := Classical.byContradiction fun h => bdf.1 h34 h
        refine c_skip ?_
        refine c_region (by kernel_rfl) ?_   -- region 9
        refine s_op rfl (o_ar rfl rfl rfl (by omega) (by omega) ?_)   -- 35 := binOp BinOp.add 3 (tmp 18) (const (Value.int IntKind.i64 1)) 3
        refine sra rfl ⟨i + 1, ⟨rfl, rfl, rfl, rfl, trivial⟩, trivial, ⟨rfl, by omega, fun j h1 h2 => ?_⟩, by omega⟩
        by_cases e : j = i
        · rw [e]; exact h34
        · exact hz j h1 (by omega)
    · -- else
      have h19 := of_decide_eq_false h19
      refine c_exit ?_
      refine crr (by kernel_rfl) rfl ?_   -- region 10
      refine c_ret (fr rfl ⟨abd ?_, rfl⟩)
      refine ⟨fun _ => ⟨h14, fun j h1 h2 => ?_, fun j h1 h2 => ?_⟩, fun _ => rfl⟩
      · have := hz (j - 2) (by simp at h1 h14; omega) (by omega)
        rw [show 2 + (j - 2) = j by omega] at this
        exact this.2.2 (by simp at h1; omega)
      · have := hz j h1 (by simp at h2 h14; omega)
        rw [show (0 : Int) + 2 + j = 2 + j by omega]
        exact ⟨this.1, this.2.1⟩
end Go.Proofs.YtmphklmhhcmbnaaDoorW.Ax

/- Shapes of blocks in the program, walked: closures, and the searches that call them. -/
namespace Go.Proofs.YtmphklmhhcmbnaaDoorW.Ax
open Go Go.RowKit Go.Proofs Go.Proofs.YtmphklmhhcmbnaaDoor.Pure
set_option linter.unusedVariables false
set_option maxRecDepth 100000

/-- Where the first is of which p holds; -1 where there is none. -/
def Ix (l : List Int) (p : Int → Prop) : AV → St → Prop := fun v _ => ∃ k : Int, v = I k ∧ ((k = -1 ∧ ∀ i : Nat, i < l.length → ¬ p (rd l i)) ∨ (0 ≤ k ∧ k < l.length ∧ p (rd l k) ∧ ∀ i : Nat, i < k → ¬ p (rd l i)))
theorem IndexFunc_c (r : Option Nat) (o : Nat) (l : List Int) (f : Nat) (cap : List AV) (p : Int → Prop) (st : St) (hx : At st r o l) (hl : l.length ≤ 1099511627776) (hf : ∀ st' (i : Nat), Ex st st' → i < l.length → ACalls Tryd.prog f ([I (rd l i)] ++ cap) st' No (Pv (.bool (bd (p (rd l i)))))) :
    ACalls Tryd.prog 54 [.sl r o l.length, .fn f cap] st No (Ix l p) := by
  refine ent (N := 19) Tryd.func54 rfl (by decide) rfl rfl rfl ?_
  refine crr (by kernel_rfl) rfl ?_   -- region 0
  refine c_seq ?_
  refine crr (by kernel_rfl) rfl ?_   -- region 1
  refine c_block ?_
  refine c_lp (α := Nat) (fun i => [(0, .sl r o l.length), (1, .fn f cap), (7, I l.length), (8, I i)]) (fun _ => []) (fun i st' => i ≤ l.length ∧ Ex st st' ∧ ∀ j : Nat, j < i → ¬ p (rd l j)) (fun i => l.length - i) 0 ⟨rfl, rfl, rfl, rfl, trivial⟩ trivial ⟨by omega, Ext.refl _ _, fun j hj => by omega⟩ ?_
  rintro i st1 ⟨hi, he, hn⟩
  refine crr (by kernel_rfl) rfl ?_   -- region 2
  refine c_seq ?_
  refine c_if rfl (fun h9 => ?_) (fun h9 => ?_)
  · -- then
    have h9 := of_decide_eq_true h9
    refine c_skip ?_
    refine c_seq ?_
    refine c_block ?_
    refine crr (by kernel_rfl) rfl ?_   -- region 3
    refine c_rs (by kernel_rfl) ?_   -- region 4
    refine sr 3 rfl ?_
    refine s_op rfl (oidx rfl rfl rfl (by omega) (by omega) ?_)   -- 14 := indexAddr 22 (tmp 12) (tmp 13)
    refine s_op rfl (old rfl rfl ((hx.ex he).rd (by omega) (by omega)) ?_)   -- 15 := load 3 (tmp 14)
    refine s_op rfl (o_call rfl (hf st1 i he (by omega)) no_T (.inl rfl) ?_)
    rintro v st2 rfl e2
    refine s_end ?_
    refine c_if rfl (fun h16 => ?_) (fun h16 => ?_)
    · -- then
      have h16 := bdt.1 h16
      refine crr (by kernel_rfl) rfl ?_   -- region 5
      exact c_ret (fr rfl ⟨i, rfl, .inr ⟨by omega, by omega, h16, fun j hj => hn j (by omega)⟩⟩)
    · -- else
      have h16 := bdf.1 h16
      refine c_skip ?_
      refine c_region (by kernel_rfl) ?_   -- region 6
      refine s_op rfl (o_ar rfl rfl rfl (by omega) (by omega) ?_)   -- 18 := binOp BinOp.add 3 (tmp 8) (const (Value.int IntKind.i64 1)) 3
      refine sra rfl ⟨i + 1, ⟨rfl, rfl, rfl, rfl, trivial⟩, trivial, ⟨by omega, he.tr e2, fun j hj => ?_⟩, by omega⟩
      by_cases e : j = i
      · rw [e]; exact h16
      · exact hn j (by omega)
  · -- else
    have h9 := of_decide_eq_false h9
    refine c_exit ?_
    refine crr (by kernel_rfl) rfl ?_   -- region 7
    exact c_ret (fr rfl ⟨-1, rfl, .inl ⟨rfl, fun j hj => hn j (by omega)⟩⟩)
/-- There is one of which p holds. -/
def Any (l : List Int) (p : Int → Prop) : Prop := ∃ i : Nat, i < l.length ∧ p (rd l i)
theorem ContainsFunc_c (r : Option Nat) (o : Nat) (l : List Int) (f : Nat) (cap : List AV) (p : Int → Prop) (st : St) (hx : At st r o l) (hl : l.length ≤ 1099511627776) (hf : ∀ st' (i : Nat), Ex st st' → i < l.length → ACalls Tryd.prog f ([I (rd l i)] ++ cap) st' No (Pv (.bool (bd (p (rd l i)))))) :
    ACalls Tryd.prog 34 [.sl r o l.length, .fn f cap] st No (Pv (.bool (bd (Any l p)))) := by
  refine ent (N := 9) Tryd.func34 rfl (by decide) rfl rfl rfl ?_
  refine crr (by kernel_rfl) rfl ?_   -- region 0
  refine c_rs (by kernel_rfl) ?_   -- region 1
  refine sr 2 rfl ?_
  refine s_op rfl (o_ex loud_n rfl (IndexFunc_c _ _ _ _ _ _ _ hx hl hf) ?_)
  rintro v st1 ⟨k, rfl, hk⟩ e1
  refine sra rfl ?_
  refine c_ret (fr rfl (abd ?_))
  rw [decide_eq_true_eq]
  rcases hk with ⟨rfl, h⟩ | ⟨h1, h2, h3, _⟩
  · exact ⟨fun h => by omega, fun ⟨i, hi, hp⟩ => absurd hp (h i hi)⟩
  · exact ⟨fun _ => ⟨k.toNat, by omega, by rw [show ((k.toNat : Nat) : Int) = k by omega]; exact h3⟩, fun _ => h1⟩

/-- So many words, or one more that is 0. -/
def Sp (w : List Int) (m : Int) : Prop := (w.length : Int) = m ∨ ((w.length : Int) = m + 1 ∧ rd w m = 0)
theorem spare_c (b : Nat) (r : Option Nat) (o : Nat) (w : List Int) (m : Int) (st : St) (hc : cell st (some b) 0 = some (.sl r o w.length)) (hx : At st r o w) (h0 : 0 ≤ m) (h1 : m ≤ 1000000) : ACalls Tryd.prog 65 [I m, .ptr (some b) 0] st No (Pure1 (.bool (bd (Sp w m))) st) := by
  refine ent (N := 22) Tryd.func65 rfl (by decide) rfl rfl rfl ?_
  refine crr (by kernel_rfl) rfl ?_   -- region 0
  refine c_rs (by kernel_rfl) ?_   -- region 1
  refine s_op rfl (old rfl rfl hc ?_)
  refine sr 4 rfl ?_
  refine s_bool 8 rfl rfl (fun h8 => ?_) (fun h8 => ?_)
  · have h8 := of_decide_eq_true h8
    refine sra rfl ?_
    exact c_ret (fr rfl ⟨abd ⟨fun _ => .inl h8, fun _ => rfl⟩, rfl⟩)
  · have h8 := of_decide_eq_false h8
    refine s_op rfl (old rfl rfl hc ?_)
    refine sr 2 rfl ?_
    refine s_op rfl (o_ar rfl rfl rfl (by omega) (by omega) ?_)
    refine sr 2 rfl ?_
    refine s_bool 14 rfl rfl (fun h14 => ?_) (fun h14 => ?_)
    · have h14 := of_decide_eq_true h14
      refine s_op rfl (old rfl rfl hc ?_)
      refine sr 1 rfl ?_
      refine s_op rfl (oidx rfl rfl rfl (by omega) (by omega) ?_)
      refine s_op rfl (old rfl rfl (hx.rd (by omega) (by omega)) ?_)
      refine sra rfl ?_
      refine c_ret (fr rfl ⟨abd ?_, rfl⟩)
      show decide _ = true ↔ _
      rw [decide_eq_true_eq]
      exact ⟨fun h => .inr ⟨h14, h⟩, fun h => (h.resolve_left h8).2⟩
    · have h14 := of_decide_eq_false h14
      refine sra rfl ?_
      refine c_ret (fr rfl ⟨abd ?_, rfl⟩)
      exact ⟨fun h => (by cases h), fun h => absurd (h.resolve_left h8).1 h14⟩
theorem inner_c (b : Nat) (r : Option Nat) (o : Nat) (l : List Int) (v k : Int) (st : St) (hc : cell st (some b) 0 = some (.sl r o l.length)) (hx : At st r o (kindsL l)) (hl : l.length ≤ 2000) (hk : 0 ≤ k) : ACalls Tryd.prog 66 [I v, I k, .ptr (some b) 0] st No (Pure1 (.bool (bd (Nxt l v k))) st) := by
  refine ent (N := 14) Tryd.func66 rfl (by decide) rfl rfl rfl ?_
  refine crr (by kernel_rfl) rfl ?_   -- region 0
  refine c_rs (by kernel_rfl) ?_   -- region 1
  refine sr 3 rfl ?_
  refine s_bool 8 rfl rfl (fun h8 => ?_) (fun h8 => ?_)
  · have h8 := of_decide_eq_true h8
    refine sra rfl ?_
    exact c_ret (fr rfl ⟨abd ⟨fun _ => .inl h8, fun _ => rfl⟩, rfl⟩)
  · have h8 := of_decide_eq_false h8
    refine s_op rfl (old rfl rfl hc ?_)
    refine sr 2 rfl ?_
    refine s_op rfl (o_pure loud_n rfl (leadsTo_c _ _ _ _ _ _ _ _ hx hl hk rfl) ?_)
    refine sra rfl ?_
    refine c_ret (fr rfl ⟨abd ?_, rfl⟩)
    show bd _ = true ↔ _
    rw [bdt]
    exact ⟨fun h => .inr h, fun h => h.resolve_left h8⟩
theorem notPlain_c (b : Nat) (r : Option Nat) (o : Nat) (l : List Int) (v : Int) (st : St) (hc : cell st (some b) 0 = some (.sl r o l.length)) (hx : At st r o (kindsL l)) (hl : l.length ≤ 2000) : ACalls Tryd.prog 68 [I v, .ptr (some b) 0] st No (Pv (.bool (bd (¬ Plain l v)))) := by
  refine ent (N := 8) Tryd.func68 rfl (by decide) rfl rfl rfl ?_
  refine crr (by kernel_rfl) rfl ?_   -- region 0
  refine c_rs (by kernel_rfl) ?_   -- region 1
  refine s_op rfl (old rfl rfl hc ?_)
  refine sr 1 rfl ?_
  refine s_op rfl (o_pure loud_n rfl (plainOk_c _ _ _ _ _ _ hx hl rfl) ?_)
  refine sra rfl ?_
  refine c_ret (fr rfl (abd ?_))
  show (!bd _) = true ↔ _
  exact ⟨nbt, fun h => by simpa using bdf.2 h⟩

theorem rd_cut (l : List Int) (p m : Nat) (i : Int) (h0 : 0 ≤ i) (h1 : i < m) (h2 : p + m ≤ l.length) : rd ((l.drop p).take m) i = rd l (p + i) := by
  obtain ⟨k, rfl⟩ : ∃ k : Nat, i = k := ⟨i.toNat, by omega⟩
  have e : ((p : Int) + k).toNat = p + k := by omega
  have hk : k < m := by omega
  simp [rd, e, List.getD, hk]
theorem txt_cut {l : List Int} {p m : Nat} (h2 : p + m ≤ l.length) (hm : 2 ≤ m) : Txt ((l.drop p).take m) 0 m ↔ Txt l p m := by
  have e1 : rd ((l.drop p).take m) (0 + 1) = rd l (p + 1) := rd_cut l p m 1 (by omega) (by omega) h2
  unfold Txt
  rw [e1]
  refine ⟨fun ⟨a1, a2, a3⟩ => ⟨a1, fun i h3 h4 => ?_, fun i h3 h4 => ?_⟩, fun ⟨a1, a2, a3⟩ => ⟨a1, fun i h3 h4 => ?_, fun i h3 h4 => ?_⟩⟩
  · have := a2 (i - p) (by omega) (by omega)
    rw [rd_cut l p m (i - p) (by omega) (by omega) h2, show (p : Int) + (i - p) = i by omega] at this
    exact this
  · have := a3 i h3 h4
    rw [rd_cut l p m (0 + 2 + i) (by omega) (by omega) h2, show (p : Int) + (0 + 2 + i) = p + 2 + i by omega] at this
    exact this
  · have := a2 (p + i) (by omega) (by omega)
    rw [rd_cut l p m i (by omega) (by omega) h2]; exact this
  · have := a3 i h3 h4
    rw [rd_cut l p m (0 + 2 + i) (by omega) (by omega) h2, show (p : Int) + (0 + 2 + i) = p + 2 + i by omega]
    exact this
/-- So many words, or one more that is 0: of a block. -/
def Spl (l : List Int) (a n m : Int) : Prop := n = m ∨ (n = m + 1 ∧ rd l (a + m) = 0)
/-- A block that is right: at a place, of n words and a kind. -/
def ShpK (l : List Int) (a n k : Int) : Prop :=
  (k = 1 → Txt l a n) ∧
  (k = 2 → (Spl l a n 3 ∧ (rd l (a + 1) = 1 ∨ Rf l (rd l (a + 1)) 5 2)) ∧ Nxt l (rd l (a + 2)) 3) ∧
  (k = 3 → ((Spl l a n 4 ∧ Rf l (rd l (a + 1)) 4 1) ∧ Plain l (rd l (a + 2))) ∧ Nxt l (rd l (a + 3)) 3) ∧
  (k = 4 → (Spl l a n 3 ∧ (0 ≤ rd l (a + 1) ∧ rd l (a + 1) ≤ 99)) ∧ Rf l (rd l (a + 2)) 7 5) ∧
  (k = 5 → Nxt l (rd l (a + 1)) 5 ∧ ∀ i : Int, 2 ≤ i → i < n → Plain l (rd l (a + i)))
def Shp (l : List Int) (a : Int) : Prop := ShpK l a (size l a.toNat) (kindOf l a.toNat)
theorem sp_cut {l : List Int} {p m : Nat} (h2 : p + m ≤ l.length) (hm : 2 ≤ m) (c : Int) (hc : 0 ≤ c) (w : List Int) (hw : w = (l.drop p).take m) : Sp w c ↔ Spl l p m c := by
  have hl : w.length = m := by rw [hw]; simp; omega
  unfold Sp Spl
  rw [hl]
  refine or_congr Iff.rfl (and_congr_right fun h => ?_)
  rw [hw, rd_cut l p m c hc (by omega) h2]

theorem shapeOk_c (r ra : Option Nat) (o oa : Nat) (l : List Int) (a : Int) (st : St) (hx : At st r o l) (hk : At st ra oa (kindsL l)) (hok : okB l = true) (ha : a ∈ blocks l) :
    ACalls Tryd.prog 52 [.agg [.sl r o l.length], .sl ra oa l.length, I a] st No (Pv (.bool (bd (Shp l a)))) := by
  have hlen := okB_len hok
  have hkl := kindsL_len l
  obtain ⟨p, rfl, hp, hh⟩ := blocks_mem ha
  have hs := size_pos hh
  have hse := size_eq hh
  have hkat : kat l p = kindOf l p := by rw [kat, if_pos ha, Int.toNat_natCast]
  have hkk : 0 ≤ kindOf l p ∧ kindOf l p ≤ 5 := by have := hh.2.2; unfold kindOf; omega
  have hShp : Shp l p = ShpK l p (size l p) (kindOf l p) := by unfold Shp; rw [Int.toNat_natCast]
  rw [hShp]
  generalize hn : size l p = n at *
  generalize hkd : kindOf l p = kd at *
  refine ent (N := 112) Tryd.func52 rfl (by decide) rfl rfl rfl ?_
  refine c_rs (by kernel_rfl) ?_   -- region 0
  refine sr 1 rfl ?_
  refine s_op rfl (o_boxS loud_n rfl ?_)
  refine sra rfl ?_
  have hrs : ∃ q, r = some q := by
    cases r with
    | none => have := hx p hp; cases this
    | some q => exact ⟨q, rfl⟩
  obtain ⟨q, rfl⟩ := hrs
  have hx1 : At (st.push (.row true [.sl ra oa l.length])) (some q) o l := hx.ex (ex_push _ _)
  obtain ⟨w, hw⟩ : ∃ w, w = (l.drop p).take n := ⟨_, rfl⟩
  have hwl : w.length = n := by rw [hw]; simp; omega
  have hrw : ∀ i : Int, 0 ≤ i → i < n → rd w i = rd l (p + i) := fun i h0 h1 => by rw [hw]; exact rd_cut l p n i h0 h1 (by omega)
  have e0 : (cond (some q).isNone 0 (o + (p : Int).toNat)) = o + p := by show o + (p : Int).toNat = _; omega
  have e1 : ((p : Int) + (n : Int)).toNat - (p : Int).toNat = w.length := by omega
  have hvv : AV.sl (some q) (cond (some q).isNone 0 (o + (p : Int).toNat)) (((p : Int) + (n : Int)).toNat - (p : Int).toNat) = .sl (some q) (o + p) w.length := by rw [e0, e1]
  refine cds [0, 1, 2, 3, 4, 5, 6, 7, 8, 9, 10, 11, 12, 13] [.q, .q, .q, .q, .q, .q, .q, .q, .q, .q, .q, .q, .f, .n] (by kernel_rfl) (by kernel_rfl) ?_   -- region 1
  refine sr 7 rfl ?_
  refine s_op rfl (oidx rfl rfl rfl (by omega) (by omega) ?_)
  refine s_op rfl (old rfl rfl (hx1.rd (by omega) (by omega)) ?_)
  refine sr 1 rfl ?_
  rw [← hse]
  refine s_op rfl (o_ar rfl rfl rfl (by omega) (by omega) ?_)
  refine s_op rfl (oslice rfl rfl rfl rfl (by omega) (by omega) (by omega) ?_)
  refine s_op rfl (oalloc1 loud_f rfl ?_)
  refine s_op rfl (ost1 rfl rfl (Nat.lt_succ_self _) (fun h => absurd h (by show ¬ (st.n + 1 < st.n); omega)) (push_ob _ _) (u := .sl (some q) (o + p) w.length) hvv rfl rfl ?_)
  refine s_end ?_
  have hb : (st.push (.row true [.sl ra oa l.length])).n = st.n + 1 := rfl
  have hE : Ex st (((st.push (.row true [.sl ra oa l.length])).push (.row true [Z.nil.av])).set (st.push (.row true [.sl ra oa l.length])).n (.row true [.sl (some q) (o + p) w.length])) :=
    ((ex_push _ _).tr (ex_push _ _)).trans (T' := (· = st.n + 1)) (ext_set _ _ _) (fun i hi e => by omega)
  have hc7 : cell (((st.push (.row true [.sl ra oa l.length])).push (.row true [Z.nil.av])).set (st.push (.row true [.sl ra oa l.length])).n (.row true [.sl (some q) (o + p) w.length])) (some (st.n + 1)) 0 = some (.sl (some q) (o + p) w.length) := cell_set1 (Nat.lt_succ_self _)
  have hc4 : cell (((st.push (.row true [.sl ra oa l.length])).push (.row true [Z.nil.av])).set (st.push (.row true [.sl ra oa l.length])).n (.row true [.sl (some q) (o + p) w.length])) (some st.n) 0 = some (.sl ra oa l.length) :=
    cell_ext (T := (· = st.n + 1)) (ext_set _ _ _) (cell_ext (ex_push _ _) (cell_push1 _ _) (fun _ _ h => h)) (fun i hi e => by injection hi with hi; omega)
  generalize (((st.push (.row true [.sl ra oa l.length])).push (.row true [Z.nil.av])).set (st.push (.row true [.sl ra oa l.length])).n (.row true [.sl (some q) (o + p) w.length])) = S at hE hc7 hc4 ⊢
  have hxS : At S (some q) o l := hx.ex hE
  have hkS : At S ra oa (kindsL l) := hk.ex hE
  have hwS : At S (some q) (o + p) w := by
    have := hxS.cut p (p + n) (by omega) (by omega)
    rw [show p + n - p = n by omega, ← hw] at this
    exact this
  refine crr (by kernel_rfl) rfl ?_   -- region 2
  refine crr (by kernel_rfl) rfl ?_   -- region 3
  refine c_seq ?_
  refine c_rs (by kernel_rfl) ?_   -- region 4
  refine s_op rfl (old rfl rfl hc4 ?_)
  refine sr 1 rfl ?_
  refine s_op rfl (oidx rfl rfl rfl (by omega) (by omega) ?_)
  refine s_op rfl (old rfl rfl (hkS.rd (by omega) (by omega)) ?_)
  rw [kindsL_rd l p (by omega) (by omega), hkat]
  refine s_end ?_
  refine c_block ?_
  refine crr (by kernel_rfl) rfl ?_   -- region 5
  refine c_if rfl (fun h28 => ?_) (fun h28 => ?_)
  · have h28 := of_decide_eq_true h28
    refine crr (by kernel_rfl) rfl ?_   -- region 6
    refine c_ret (fr rfl (abd ⟨fun _ => ?_, fun _ => rfl⟩))
    exact ⟨fun h => by omega, fun h => by omega, fun h => by omega, fun h => by omega, fun h => by omega⟩
  have h28 := of_decide_eq_false h28
  refine crr (by kernel_rfl) rfl ?_   -- region 7
  refine c_if rfl (fun h30 => ?_) (fun h30 => ?_)
  · have h30 := of_decide_eq_true h30
    refine c_rs (by kernel_rfl) ?_   -- region 8
    refine s_op rfl (old rfl rfl hc7 ?_)
    refine s_op rfl (o_pure loud_n rfl (textOk_c _ _ _ _ hwS (by omega) (by omega)) ?_)
    refine sra rfl ?_
    refine c_ret (fr rfl (abd ?_))
    rw [bdt, hwl, hw, txt_cut (by omega) (by omega)]
    exact ⟨fun h => ⟨fun _ => h, fun h => by omega, fun h => by omega, fun h => by omega, fun h => by omega⟩, fun h => h.1 h30⟩
  have h30 := of_decide_eq_false h30
  refine crr (by kernel_rfl) rfl ?_   -- region 9
  refine c_if rfl (fun h34 => ?_) (fun h34 => ?_)
  · have h34 := of_decide_eq_true h34
    have hG : ShpK l p n kd ↔ (Spl l p n 3 ∧ (rd l (p + 1) = 1 ∨ Rf l (rd l (p + 1)) 5 2)) ∧ Nxt l (rd l (p + 2)) 3 :=
      ⟨fun h => h.2.1 h34, fun h => ⟨fun e => by omega, fun _ => h, fun e => by omega, fun e => by omega, fun e => by omega⟩⟩
    have hsp := sp_cut (l := l) (p := p) (m := n) (by omega) (by omega) 3 (by omega) w hw
    refine cds [0, 1, 2, 3, 4, 5, 6, 7, 8, 9, 10, 11, 12, 13, 14, 15, 16, 17, 18, 19, 20, 21, 22] [.q, .f, .q, .q, .q, .q, .q, .q, .q, .q, .q, .q, .f, .q, .q, .q, .q, .q, .q, .q, .f, .q, .q] (by kernel_rfl) (by kernel_rfl) ?_   -- region 10
    refine sr 1 rfl ?_
    refine s_op rfl (o_call rfl (spare_c _ _ _ w 3 _ hc7 hwS (by omega) (by omega)) no_T (loud_no loud_f _) ?_)
    rintro v1 st1 ⟨rfl, rfl⟩ _
    refine sr 1 rfl ?_
    refine s_bool 38 rfl rfl (fun h38 => ?_) (fun h38 => ?_)
    · have h38 := hsp.1 (bdt.1 h38)
      have h3 : 3 ≤ n := by unfold Spl at h38; omega
      refine s_op rfl (old rfl rfl hc7 ?_)
      refine s_op rfl (oidx rfl rfl rfl (by omega) (by omega) ?_)
      refine s_op rfl (old rfl rfl (hwS.rd (by omega) (by omega)) ?_)
      rw [hrw 1 (by omega) (by omega)]
      refine sr 2 rfl ?_
      refine s_bool 43 rfl rfl (fun h43 => ?_) (fun h43 => ?_)
      · have h43 := of_decide_eq_true h43
        refine sr 9 rfl ?_
        refine s_op rfl (old rfl rfl hc7 ?_)
        refine s_op rfl (oidx rfl rfl rfl (by omega) (by omega) ?_)
        refine s_op rfl (old rfl rfl (hwS.rd (by omega) (by omega)) ?_)
        rw [hrw 2 (by omega) (by omega)]
        refine s_op rfl (o_call rfl (inner_c _ _ _ l _ 3 _ hc4 hkS hlen (by omega)) no_T (loud_no loud_f _) ?_)
        rintro v2 st2 ⟨rfl, rfl⟩ _
        refine sra rfl ?_
        refine c_ret (fr rfl (abd ?_))
        show bd _ = true ↔ _
        rw [bdt, hG]
        exact ⟨fun h => ⟨⟨h38, .inl h43⟩, h⟩, fun h => h.2⟩
      · have h43 := of_decide_eq_false h43
        refine s_op rfl (old rfl rfl hc4 ?_)
        refine s_op rfl (old rfl rfl hc7 ?_)
        refine s_op rfl (oidx rfl rfl rfl (by omega) (by omega) ?_)
        refine s_op rfl (old rfl rfl (hwS.rd (by omega) (by omega)) ?_)
        rw [hrw 1 (by omega) (by omega)]
        refine s_op rfl (o_pure loud_f rfl (leadsTo_c _ _ _ _ _ _ _ _ hkS hlen (by omega) rfl) ?_)
        refine sr 3 rfl ?_
        refine s_bool 51 rfl rfl (fun h51 => ?_) (fun h51 => ?_)
        · have h51 : Rf l (rd l (p + 1)) 5 2 := bdt.1 h51
          refine sr 1 rfl ?_
          refine s_op rfl (old rfl rfl hc7 ?_)
          refine s_op rfl (oidx rfl rfl rfl (by omega) (by omega) ?_)
          refine s_op rfl (old rfl rfl (hwS.rd (by omega) (by omega)) ?_)
          rw [hrw 2 (by omega) (by omega)]
          refine s_op rfl (o_call rfl (inner_c _ _ _ l _ 3 _ hc4 hkS hlen (by omega)) no_T (loud_no loud_f _) ?_)
          rintro v2 st2 ⟨rfl, rfl⟩ _
          refine sra rfl ?_
          refine c_ret (fr rfl (abd ?_))
          show bd _ = true ↔ _
          rw [bdt, hG]
          exact ⟨fun h => ⟨⟨h38, .inr h51⟩, h⟩, fun h => h.2⟩
        · have h51 : ¬ Rf l (rd l (p + 1)) 5 2 := bdf.1 h51
          refine sra rfl ?_
          refine c_ret (fr rfl (abd ?_))
          rw [hG]
          exact ⟨fun h => (by cases h), fun h => absurd (h.1.2.resolve_left h43) h51⟩
    · have h38 := fun h => bdf.1 h38 (hsp.2 h)
      refine sra rfl ?_
      refine c_ret (fr rfl (abd ?_))
      rw [hG]
      exact ⟨fun h => (by cases h), fun h => absurd h.1.1 h38⟩
  have h34 := of_decide_eq_false h34
  refine crr (by kernel_rfl) rfl ?_   -- region 11
  refine c_if rfl (fun h58 => ?_) (fun h58 => ?_)
  · have h58 := of_decide_eq_true h58
    have hG : ShpK l p n kd ↔ ((Spl l p n 4 ∧ Rf l (rd l (p + 1)) 4 1) ∧ Plain l (rd l (p + 2))) ∧ Nxt l (rd l (p + 3)) 3 :=
      ⟨fun h => h.2.2.1 h58, fun h => ⟨fun e => by omega, fun e => by omega, fun _ => h, fun e => by omega, fun e => by omega⟩⟩
    have hsp := sp_cut (l := l) (p := p) (m := n) (by omega) (by omega) 4 (by omega) w hw
    refine cds [0, 1, 2, 3, 4, 5, 6, 7, 8, 9, 10, 11, 12, 13, 14, 15, 16, 17, 18, 19, 20, 21, 22, 23] [.q, .f, .q, .q, .q, .q, .q, .f, .q, .q, .q, .q, .q, .q, .f, .q, .q, .q, .q, .q, .q, .f, .q, .q] (by kernel_rfl) (by kernel_rfl) ?_   -- region 12
    refine sr 1 rfl ?_
    refine s_op rfl (o_call rfl (spare_c _ _ _ w 4 _ hc7 hwS (by omega) (by omega)) no_T (loud_no loud_f _) ?_)
    rintro v1 st1 ⟨rfl, rfl⟩ _
    refine sr 1 rfl ?_
    refine s_bool 62 rfl rfl (fun h62 => ?_) (fun h62 => ?_)
    · have h62 := hsp.1 (bdt.1 h62)
      have h3 : 4 ≤ n := by unfold Spl at h62; omega
      refine s_op rfl (old rfl rfl hc4 ?_)
      refine s_op rfl (old rfl rfl hc7 ?_)
      refine s_op rfl (oidx rfl rfl rfl (by omega) (by omega) ?_)
      refine s_op rfl (old rfl rfl (hwS.rd (by omega) (by omega)) ?_)
      rw [hrw 1 (by omega) (by omega)]
      refine s_op rfl (o_pure loud_f rfl (leadsTo_c _ _ _ _ _ _ _ _ hkS hlen (by omega) rfl) ?_)
      refine sr 2 rfl ?_
      refine s_bool 69 rfl rfl (fun h69 => ?_) (fun h69 => ?_)
      · have h69 : Rf l (rd l (p + 1)) 4 1 := bdt.1 h69
        refine s_op rfl (old rfl rfl hc4 ?_)
        refine s_op rfl (old rfl rfl hc7 ?_)
        refine s_op rfl (oidx rfl rfl rfl (by omega) (by omega) ?_)
        refine s_op rfl (old rfl rfl (hwS.rd (by omega) (by omega)) ?_)
        rw [hrw 2 (by omega) (by omega)]
        refine s_op rfl (o_pure loud_f rfl (plainOk_c _ _ _ _ _ _ hkS hlen rfl) ?_)
        refine sr 2 rfl ?_
        refine s_bool 76 rfl rfl (fun h76 => ?_) (fun h76 => ?_)
        · have h76 : Plain l (rd l (p + 2)) := bdt.1 h76
          refine sr 1 rfl ?_
          refine s_op rfl (old rfl rfl hc7 ?_)
          refine s_op rfl (oidx rfl rfl rfl (by omega) (by omega) ?_)
          refine s_op rfl (old rfl rfl (hwS.rd (by omega) (by omega)) ?_)
          rw [hrw 3 (by omega) (by omega)]
          refine s_op rfl (o_call rfl (inner_c _ _ _ l _ 3 _ hc4 hkS hlen (by omega)) no_T (loud_no loud_f _) ?_)
          rintro v2 st2 ⟨rfl, rfl⟩ _
          refine sra rfl ?_
          refine c_ret (fr rfl (abd ?_))
          show bd _ = true ↔ _
          rw [bdt, hG]
          exact ⟨fun h => ⟨⟨⟨h62, h69⟩, h76⟩, h⟩, fun h => h.2⟩
        · have h76 : ¬ Plain l (rd l (p + 2)) := bdf.1 h76
          refine sra rfl ?_
          refine c_ret (fr rfl (abd ?_))
          rw [hG]
          exact ⟨fun h => (by cases h), fun h => absurd h.1.2 h76⟩
      · have h69 : ¬ Rf l (rd l (p + 1)) 4 1 := bdf.1 h69
        refine sra rfl ?_
        refine c_ret (fr rfl (abd ?_))
        rw [hG]
        exact ⟨fun h => (by cases h), fun h => absurd h.1.1.2 h69⟩
    · have h62 := fun h => bdf.1 h62 (hsp.2 h)
      refine sra rfl ?_
      refine c_ret (fr rfl (abd ?_))
      rw [hG]
      exact ⟨fun h => (by cases h), fun h => absurd h.1.1.1 h62⟩
  have h58 := of_decide_eq_false h58
  refine crr (by kernel_rfl) rfl ?_   -- region 13
  refine c_if rfl (fun h83 => ?_) (fun h83 => ?_)
  · have h83 := of_decide_eq_true h83
    have hG : ShpK l p n kd ↔ (Spl l p n 3 ∧ (0 ≤ rd l (p + 1) ∧ rd l (p + 1) ≤ 99)) ∧ Rf l (rd l (p + 2)) 7 5 :=
      ⟨fun h => h.2.2.2.1 h83, fun h => ⟨fun e => by omega, fun e => by omega, fun e => by omega, fun _ => h, fun e => by omega⟩⟩
    have hsp := sp_cut (l := l) (p := p) (m := n) (by omega) (by omega) 3 (by omega) w hw
    refine cds [0, 1, 2, 3, 4, 5, 6, 7, 8, 9, 10, 11, 12, 13, 14, 15] [.q, .f, .q, .q, .q, .q, .f, .q, .q, .q, .q, .q, .q, .f, .q, .q] (by kernel_rfl) (by kernel_rfl) ?_   -- region 14
    refine sr 1 rfl ?_
    refine s_op rfl (o_call rfl (spare_c _ _ _ w 3 _ hc7 hwS (by omega) (by omega)) no_T (loud_no loud_f _) ?_)
    rintro v1 st1 ⟨rfl, rfl⟩ _
    refine sr 1 rfl ?_
    refine s_bool 87 rfl rfl (fun h87 => ?_) (fun h87 => ?_)
    · have h87 := hsp.1 (bdt.1 h87)
      have h3 : 3 ≤ n := by unfold Spl at h87; omega
      refine s_op rfl (old rfl rfl hc7 ?_)
      refine s_op rfl (oidx rfl rfl rfl (by omega) (by omega) ?_)
      refine s_op rfl (old rfl rfl (hwS.rd (by omega) (by omega)) ?_)
      rw [hrw 1 (by omega) (by omega)]
      refine s_op rfl (o_pure loud_f rfl (within_c ..) ?_)
      refine sr 2 rfl ?_
      refine s_bool 93 rfl rfl (fun h93 => ?_) (fun h93 => ?_)
      · have h93 : 0 ≤ rd l (p + 1) ∧ rd l (p + 1) ≤ 99 := of_decide_eq_true h93
        refine s_op rfl (old rfl rfl hc4 ?_)
        refine s_op rfl (old rfl rfl hc7 ?_)
        refine s_op rfl (oidx rfl rfl rfl (by omega) (by omega) ?_)
        refine s_op rfl (old rfl rfl (hwS.rd (by omega) (by omega)) ?_)
        rw [hrw 2 (by omega) (by omega)]
        refine s_op rfl (o_pure loud_f rfl (leadsTo_c _ _ _ _ _ _ _ _ hkS hlen (by omega) rfl) ?_)
        refine sra rfl ?_
        refine c_ret (fr rfl (abd ?_))
        show bd _ = true ↔ _
        rw [bdt, hG]
        exact ⟨fun h => ⟨⟨h87, h93⟩, h⟩, fun h => h.2⟩
      · have h93 : ¬ (0 ≤ rd l (p + 1) ∧ rd l (p + 1) ≤ 99) := of_decide_eq_false h93
        refine sra rfl ?_
        refine c_ret (fr rfl (abd ?_))
        rw [hG]
        exact ⟨fun h => (by cases h), fun h => absurd h.1.2 h93⟩
    · have h87 := fun h => bdf.1 h87 (hsp.2 h)
      refine sra rfl ?_
      refine c_ret (fr rfl (abd ?_))
      rw [hG]
      exact ⟨fun h => (by cases h), fun h => absurd h.1.1 h87⟩
  have h83 := of_decide_eq_false h83
  have hk5 : kd = 5 := by omega
  have hG : ShpK l p n kd ↔ Nxt l (rd l (p + 1)) 5 ∧ ∀ i : Int, 2 ≤ i → i < n → Plain l (rd l (p + i)) :=
    ⟨fun h => h.2.2.2.2 hk5, fun h => ⟨fun e => by omega, fun e => by omega, fun e => by omega, fun e => by omega, fun _ => h⟩⟩
  refine c_skip ?_
  refine c_rs (by kernel_rfl) ?_   -- region 15
  refine sr 1 rfl ?_
  refine s_op rfl (old rfl rfl hc7 ?_)
  refine s_op rfl (oidx rfl rfl rfl (by omega) (by omega) ?_)
  refine s_op rfl (old rfl rfl (hwS.rd (by omega) (by omega)) ?_)
  rw [hrw 1 (by omega) (by omega)]
  refine s_op rfl (o_call rfl (inner_c _ _ _ l _ 5 _ hc4 hkS hlen (by omega)) no_T (.inl rfl) ?_)
  rintro v1 st1 ⟨rfl, rfl⟩ _
  refine sr 1 rfl ?_
  refine s_bool 105 rfl rfl (fun h105 => ?_) (fun h105 => ?_)
  · have h105 := bdt.1 h105
    refine s_op rfl (old rfl rfl hc7 ?_)
    refine s_op rfl (oslice rfl rfl rfl rfl (by omega) (by omega) (by omega) ?_)
    refine sr 1 rfl ?_
    have hw2 := hwS.cut 2 w.length (by omega) (by omega)
    obtain ⟨u, hu⟩ : ∃ u, u = (w.drop 2).take (w.length - 2) := ⟨_, rfl⟩
    rw [← hu] at hw2
    have hul : u.length = w.length - 2 := by rw [hu]; simp
    have hru : ∀ i : Nat, i < u.length → rd u i = rd l (p + (2 + i)) := fun i hi => by
      rw [hu, rd_cut w 2 (w.length - 2) i (by omega) (by omega) (by omega), show ((2 : Nat) : Int) + i = 2 + i by omega, hrw _ (by omega) (by omega)]
    have e2 : (cond (some q).isNone 0 (o + p + (2 : Int).toNat)) = o + p + 2 := rfl
    have e3 : ((w.length : Int)).toNat - (2 : Int).toNat = u.length := by rw [hul]; omega
    rw [e2, e3]
    refine s_op rfl (o_ex loud_n rfl (ContainsFunc_c _ _ u _ _ (fun x => ¬ Plain l x) _ hw2 (by omega) (fun st' i he hi => notPlain_c _ _ _ l _ _ (cell_ext he hc4 (fun _ _ h => h)) (hkS.ex he) hlen)) ?_)
    rintro v2 st2 rfl e4
    refine sra rfl ?_
    refine c_ret (fr rfl (abd ?_))
    show (!bd _) = true ↔ _
    rw [hG]
    refine ⟨fun h => ⟨h105, fun i h1 h2 => ?_⟩, fun h => ?_⟩
    · have h := nbt h
      refine Classical.byContradiction fun hc => h ⟨(i - 2).toNat, by omega, ?_⟩
      rw [hru _ (by omega), show (p : Int) + (2 + ((i - 2).toNat : Int)) = p + i by omega]
      exact hc
    · have : ¬ Any u fun x => ¬ Plain l x := fun ⟨i, hi, hc⟩ => by
        rw [hru i hi] at hc
        exact hc (h.2 (2 + i) (by omega) (by omega))
      rw [bdf.2 this]; rfl
  · have h105 := bdf.1 h105
    refine sra rfl ?_
    refine c_ret (fr rfl (abd ?_))
    rw [hG]
    exact ⟨fun h => (by cases h), fun h => absurd h.1 h105⟩
end Go.Proofs.YtmphklmhhcmbnaaDoorW.Ax

/- Shapes of blocks in the reference, walked. -/
namespace Go.Proofs.YtmphklmhhcmbnaaDoorW.Ax
open Go Go.RowKit Go.Proofs Go.Proofs.YtmphklmhhcmbnaaDoor.Pure
set_option linter.unusedVariables false
set_option maxRecDepth 100000

theorem rf_leads {l : List Int} {v k i b : Int} (hk : (k = 4 ∧ b = 1) ∨ (k = 5 ∧ b = 2) ∨ (k = 6 ∧ b = 4) ∨ (k = 7 ∧ b = i ∧ 0 ≤ i)) : Rf l v k b ↔ v % 8 = k ∧ Leads l v i := by
  constructor
  · intro h
    refine ⟨h.1, ?_⟩
    obtain ⟨a1, a2, a3, a4, a5⟩ := h.leads (by omega)
    refine ⟨a1, a2, a3, a4, fun h7 => ?_⟩
    have := a5 h7
    have := h.1
    omega
  · rintro ⟨h, a1, a2, a3, a4, a5⟩
    refine ⟨h, ?_⟩
    rcases hk with ⟨rfl, rfl⟩ | ⟨rfl, rfl⟩ | ⟨rfl, rfl⟩ | ⟨rfl, rfl, _⟩
    · exact a2 h
    · exact a3 h
    · exact a4 h
    · exact a5 h
theorem spl_zer {l : List Int} {a n m : Int} : Spl l a n m ↔ (m ≤ n ∧ n ≤ m + 1) ∧ Zer l (a + m) (a + n) := by
  constructor
  · rintro (h | ⟨h, h2⟩)
    · exact ⟨by omega, fun i h1 h2 => by omega⟩
    · exact ⟨by omega, fun i h3 h4 => by rw [show i = a + m by omega]; exact h2⟩
  · rintro ⟨h, h2⟩
    by_cases e : n = m
    · exact .inl e
    · exact .inr ⟨by omega, h2 _ (by omega) (by omega)⟩
theorem l3Shape_c (r : Option Nat) (o : Nat) (l : List Int) (a : Int) (st : St) (hx : At st r o l) (hok : okB l = true) (ha : a ∈ blocks l) : ACalls Tryd.prog 44 [.agg [.sl r o l.length], I a] st No (Pure1 (.bool (bd (Shp l a))) st) := by
  have hlen := okB_len hok
  obtain ⟨p, rfl, hp, hh⟩ := blocks_mem ha
  have hs := size_pos hh
  have hse := size_eq hh
  have hkd0 : rd l p % 8 = kindOf l p := rd_kind l p
  have hkk : 0 ≤ kindOf l p ∧ kindOf l p ≤ 5 := by have := hh.2.2; unfold kindOf; omega
  have hShp : Shp l p = ShpK l p (size l p) (kindOf l p) := by unfold Shp; rw [Int.toNat_natCast]
  rw [hShp]
  generalize hn : size l p = n at *
  generalize hkd : kindOf l p = kd at *
  refine ent (N := 190) Tryd.func44 rfl (by decide) rfl rfl rfl ?_
  refine crr (by kernel_rfl) rfl ?_   -- region 0
  refine c_rs (by kernel_rfl) ?_   -- region 1
  refine sr 3 rfl ?_
  refine s_op rfl (oidx rfl rfl rfl (by omega) (by omega) ?_)
  refine s_op rfl (old rfl rfl (hx.rd (by omega) (by omega)) ?_)
  refine s_op rfl (o_pure loud_n rfl (l2Size_c ..) ?_)
  rw [← hse]
  refine sra rfl ?_
  refine crr (by kernel_rfl) rfl ?_   -- region 2
  refine c_seq ?_
  refine c_rs (by kernel_rfl) ?_   -- region 3
  refine sr 2 rfl ?_
  refine s_op rfl (oidx rfl rfl rfl (by omega) (by omega) ?_)
  refine s_op rfl (old rfl rfl (hx.rd (by omega) (by omega)) ?_)
  refine s_op rfl (o_pure loud_n rfl (l2Kind_c ..) ?_)
  rw [hkd0]
  refine s_end ?_
  refine c_block ?_
  refine crr (by kernel_rfl) rfl ?_   -- region 4
  refine c_if rfl (fun h22 => ?_) (fun h22 => ?_)
  · have h22 := of_decide_eq_true h22
    refine c_rs (by kernel_rfl) ?_   -- region 5
    refine sr 3 rfl ?_
    refine s_op rfl (o_pure loud_n rfl (l3Text_c _ _ _ _ _ _ hx (by omega) (by omega) (by omega) hlen) ?_)
    refine sra rfl ?_
    refine c_ret (fr rfl ⟨abd ?_, rfl⟩)
    rw [bdt]
    exact ⟨fun h => ⟨fun _ => h, fun h => by omega, fun h => by omega, fun h => by omega, fun h => by omega⟩, fun h => h.1 h22⟩
  have h22 := of_decide_eq_false h22
  refine crr (by kernel_rfl) rfl ?_   -- region 6
  refine c_if rfl (fun h28 => ?_) (fun h28 => ?_)
  · have h28 := of_decide_eq_true h28
    have hG : ShpK l p n kd ↔ (Spl l p n 3 ∧ (rd l (p + 1) = 1 ∨ Rf l (rd l (p + 1)) 5 2)) ∧ Nxt l (rd l (p + 2)) 3 :=
      ⟨fun h => h.2.1 h28, fun h => ⟨fun e => by omega, fun _ => h, fun e => by omega, fun e => by omega, fun e => by omega⟩⟩
    rw [spl_zer, rf_leads (i := 0) (by omega)] at hG
    refine cds [0, 1, 2, 3, 4, 5, 6, 7, 8, 9, 10, 11, 12, 13, 14, 15, 16, 17, 18, 19, 20, 21, 22, 23, 24, 25, 26, 27, 28, 29, 30, 31, 32, 33, 34, 35, 36, 37, 38, 39, 40, 41, 42, 43, 44, 45, 46] [.q, .f, .q, .q, .q, .q, .q, .q, .q, .q, .q, .q, .q, .q, .q, .f, .q, .q, .q, .q, .q, .q, .q, .q, .f, .q, .q, .q, .q, .q, .q, .q, .q, .q, .q, .f, .q, .q, .q, .q, .q, .q, .q, .q, .f, .q, .q] (by kernel_rfl) (by kernel_rfl) ?_   -- region 7
    refine sr 1 rfl ?_
    refine s_op rfl (o_pure loud_f rfl (l1In_c ..) ?_)
    refine sr 1 rfl ?_
    refine s_bool 32 rfl rfl (fun h32 => ?_) (fun h32 => ?_)
    · have h32 := (of_decide_eq_true h32 : (3 : Int) ≤ n ∧ (n : Int) ≤ 4)
      refine sr 2 rfl ?_
      refine s_op rfl (o_ar rfl rfl rfl (by omega) (by omega) ?_)
      refine s_op rfl (oidx rfl rfl rfl (by omega) (by omega) ?_)
      refine s_op rfl (old rfl rfl (hx.rd (by omega) (by omega)) ?_)
      refine sr 2 rfl ?_
      refine s_bool 39 rfl rfl (fun h39 => ?_) (fun h39 => ?_)
      · have h39 := of_decide_eq_true h39
        refine sr 19 rfl ?_
        refine sr 3 rfl ?_
        refine s_op rfl (o_ar rfl rfl rfl (by omega) (by omega) ?_)
        refine s_op rfl (oidx rfl rfl rfl (by omega) (by omega) ?_)
        refine s_op rfl (old rfl rfl (hx.rd (by omega) (by omega)) ?_)
        refine s_op rfl (o_pure loud_f rfl (l3Next_c _ _ _ _ _ _ hx hok (by omega)) ?_)
        refine sr 2 rfl ?_
        refine s_bool 67 rfl rfl (fun h67 => ?_) (fun h67 => ?_)
        · have h67 := bdt.1 h67
          refine sr 2 rfl ?_
          refine s_op rfl (o_ar rfl rfl rfl (by omega) (by omega) ?_)
          refine sr 2 rfl ?_
          refine s_op rfl (o_ar rfl rfl rfl (by omega) (by omega) ?_)
          refine s_op rfl (o_pure loud_f rfl (l3Zero_c _ _ _ _ _ _ hx (by omega) (by omega) hlen (by omega)) ?_)
          refine sra rfl ?_
          refine c_ret (fr rfl ⟨abd ?_, rfl⟩)
          show bd _ = true ↔ _
          rw [bdt, hG]
          exact ⟨fun h => ⟨⟨⟨h32, h⟩, .inl h39⟩, h67⟩, fun h => h.1.1.2⟩
        · have h67 := bdf.1 h67
          refine sra rfl ?_
          refine c_ret (fr rfl ⟨abd ?_, rfl⟩)
          rw [hG]
          exact ⟨fun h => (by cases h), fun h => absurd (h.2) h67⟩
      · have h39 := of_decide_eq_false h39
        refine sr 2 rfl ?_
        refine s_op rfl (o_ar rfl rfl rfl (by omega) (by omega) ?_)
        refine s_op rfl (oidx rfl rfl rfl (by omega) (by omega) ?_)
        refine s_op rfl (old rfl rfl (hx.rd (by omega) (by omega)) ?_)
        refine s_op rfl (o_pure loud_f rfl (Kind_c ..) ?_)
        refine sr 2 rfl ?_
        refine s_bool 47 rfl rfl (fun h47 => ?_) (fun h47 => ?_)
        · have h47 := of_decide_eq_true h47
          refine sr 3 rfl ?_
          refine s_op rfl (o_ar rfl rfl rfl (by omega) (by omega) ?_)
          refine s_op rfl (oidx rfl rfl rfl (by omega) (by omega) ?_)
          refine s_op rfl (old rfl rfl (hx.rd (by omega) (by omega)) ?_)
          refine s_op rfl (o_pure loud_f rfl (l3Leads_c _ _ _ _ _ _ hx hok (by omega)) ?_)
          refine sr 4 rfl ?_
          refine s_bool 58 rfl rfl (fun h58 => ?_) (fun h58 => ?_)
          · have h58 : Leads l (rd l (p + 1)) 0 := bdt.1 h58
            refine sr 3 rfl ?_
            refine s_op rfl (o_ar rfl rfl rfl (by omega) (by omega) ?_)
            refine s_op rfl (oidx rfl rfl rfl (by omega) (by omega) ?_)
            refine s_op rfl (old rfl rfl (hx.rd (by omega) (by omega)) ?_)
            refine s_op rfl (o_pure loud_f rfl (l3Next_c _ _ _ _ _ _ hx hok (by omega)) ?_)
            refine sr 2 rfl ?_
            refine s_bool 67 rfl rfl (fun h67 => ?_) (fun h67 => ?_)
            · have h67 := bdt.1 h67
              refine sr 2 rfl ?_
              refine s_op rfl (o_ar rfl rfl rfl (by omega) (by omega) ?_)
              refine sr 2 rfl ?_
              refine s_op rfl (o_ar rfl rfl rfl (by omega) (by omega) ?_)
              refine s_op rfl (o_pure loud_f rfl (l3Zero_c _ _ _ _ _ _ hx (by omega) (by omega) hlen (by omega)) ?_)
              refine sra rfl ?_
              refine c_ret (fr rfl ⟨abd ?_, rfl⟩)
              show bd _ = true ↔ _
              rw [bdt, hG]
              exact ⟨fun h => ⟨⟨⟨h32, h⟩, .inr ⟨h47, h58⟩⟩, h67⟩, fun h => h.1.1.2⟩
            · have h67 := bdf.1 h67
              refine sra rfl ?_
              refine c_ret (fr rfl ⟨abd ?_, rfl⟩)
              rw [hG]
              exact ⟨fun h => (by cases h), fun h => absurd (h.2) h67⟩
          · have h58 : ¬ Leads l (rd l (p + 1)) 0 := bdf.1 h58
            refine sra rfl ?_
            refine c_ret (fr rfl ⟨abd ?_, rfl⟩)
            rw [hG]
            exact ⟨fun h => (by cases h), fun h => absurd ((h.1.2.resolve_left h39).2) h58⟩
        · have h47 := of_decide_eq_false h47
          refine sra rfl ?_
          refine c_ret (fr rfl ⟨abd ?_, rfl⟩)
          rw [hG]
          exact ⟨fun h => (by cases h), fun h => absurd ((h.1.2.resolve_left h39).1) h47⟩
    · have h32 := (of_decide_eq_false h32 : ¬ ((3 : Int) ≤ n ∧ (n : Int) ≤ 4))
      refine sra rfl ?_
      refine c_ret (fr rfl ⟨abd ?_, rfl⟩)
      rw [hG]
      exact ⟨fun h => (by cases h), fun h => absurd (h.1.1.1) h32⟩
  have h28 := of_decide_eq_false h28
  refine crr (by kernel_rfl) rfl ?_   -- region 8
  refine c_if rfl (fun h76 => ?_) (fun h76 => ?_)
  · have h76 := of_decide_eq_true h76
    have hG : ShpK l p n kd ↔ ((Spl l p n 4 ∧ Rf l (rd l (p + 1)) 4 1) ∧ Plain l (rd l (p + 2))) ∧ Nxt l (rd l (p + 3)) 3 :=
      ⟨fun h => h.2.2.1 h76, fun h => ⟨fun e => by omega, fun e => by omega, fun _ => h, fun e => by omega, fun e => by omega⟩⟩
    rw [spl_zer, rf_leads (i := 0) (by omega)] at hG
    refine cds [0, 1, 2, 3, 4, 5, 6, 7, 8, 9, 10, 11, 12, 13, 14, 15, 16, 17, 18, 19, 20, 21, 22, 23, 24, 25, 26, 27, 28, 29, 30, 31, 32, 33, 34, 35, 36, 37, 38, 39, 40, 41, 42, 43, 44, 45, 46, 47] [.q, .f, .q, .q, .q, .q, .q, .q, .f, .q, .q, .q, .q, .q, .q, .q, .q, .q, .f, .q, .q, .q, .q, .q, .q, .q, .q, .f, .q, .q, .q, .q, .q, .q, .q, .q, .f, .q, .q, .q, .q, .q, .q, .q, .q, .f, .q, .q] (by kernel_rfl) (by kernel_rfl) ?_   -- region 9
    refine sr 1 rfl ?_
    refine s_op rfl (o_pure loud_f rfl (l1In_c ..) ?_)
    refine sr 1 rfl ?_
    refine s_bool 80 rfl rfl (fun h80 => ?_) (fun h80 => ?_)
    · have h80 := (of_decide_eq_true h80 : (4 : Int) ≤ n ∧ (n : Int) ≤ 5)
      refine sr 2 rfl ?_
      refine s_op rfl (o_ar rfl rfl rfl (by omega) (by omega) ?_)
      refine s_op rfl (oidx rfl rfl rfl (by omega) (by omega) ?_)
      refine s_op rfl (old rfl rfl (hx.rd (by omega) (by omega)) ?_)
      refine s_op rfl (o_pure loud_f rfl (Kind_c ..) ?_)
      refine sr 3 rfl ?_
      refine s_bool 89 rfl rfl (fun h89 => ?_) (fun h89 => ?_)
      · have h89 := of_decide_eq_true h89
        refine sr 3 rfl ?_
        refine s_op rfl (o_ar rfl rfl rfl (by omega) (by omega) ?_)
        refine s_op rfl (oidx rfl rfl rfl (by omega) (by omega) ?_)
        refine s_op rfl (old rfl rfl (hx.rd (by omega) (by omega)) ?_)
        refine s_op rfl (o_pure loud_f rfl (l3Leads_c _ _ _ _ _ _ hx hok (by omega)) ?_)
        refine sr 2 rfl ?_
        refine s_bool 98 rfl rfl (fun h98 => ?_) (fun h98 => ?_)
        · have h98 := bdt.1 h98
          refine sr 3 rfl ?_
          refine s_op rfl (o_ar rfl rfl rfl (by omega) (by omega) ?_)
          refine s_op rfl (oidx rfl rfl rfl (by omega) (by omega) ?_)
          refine s_op rfl (old rfl rfl (hx.rd (by omega) (by omega)) ?_)
          refine s_op rfl (o_pure loud_f rfl (l3Plain_c _ _ _ _ _ hx hok) ?_)
          refine sr 2 rfl ?_
          refine s_bool 107 rfl rfl (fun h107 => ?_) (fun h107 => ?_)
          · have h107 := bdt.1 h107
            refine sr 3 rfl ?_
            refine s_op rfl (o_ar rfl rfl rfl (by omega) (by omega) ?_)
            refine s_op rfl (oidx rfl rfl rfl (by omega) (by omega) ?_)
            refine s_op rfl (old rfl rfl (hx.rd (by omega) (by omega)) ?_)
            refine s_op rfl (o_pure loud_f rfl (l3Next_c _ _ _ _ _ _ hx hok (by omega)) ?_)
            refine sr 2 rfl ?_
            refine s_bool 116 rfl rfl (fun h116 => ?_) (fun h116 => ?_)
            · have h116 := bdt.1 h116
              refine sr 2 rfl ?_
              refine s_op rfl (o_ar rfl rfl rfl (by omega) (by omega) ?_)
              refine sr 2 rfl ?_
              refine s_op rfl (o_ar rfl rfl rfl (by omega) (by omega) ?_)
              refine s_op rfl (o_pure loud_f rfl (l3Zero_c _ _ _ _ _ _ hx (by omega) (by omega) hlen (by omega)) ?_)
              refine sra rfl ?_
              refine c_ret (fr rfl ⟨abd ?_, rfl⟩)
              show bd _ = true ↔ _
              rw [bdt, hG]
              exact ⟨fun h => ⟨⟨⟨⟨h80, h⟩, h89, h98⟩, h107⟩, h116⟩, fun h => h.1.1.1.2⟩
            · have h116 := bdf.1 h116
              refine sra rfl ?_
              refine c_ret (fr rfl ⟨abd ?_, rfl⟩)
              rw [hG]
              exact ⟨fun h => (by cases h), fun h => absurd (h.2) h116⟩
          · have h107 := bdf.1 h107
            refine sra rfl ?_
            refine c_ret (fr rfl ⟨abd ?_, rfl⟩)
            rw [hG]
            exact ⟨fun h => (by cases h), fun h => absurd (h.1.2) h107⟩
        · have h98 := bdf.1 h98
          refine sra rfl ?_
          refine c_ret (fr rfl ⟨abd ?_, rfl⟩)
          rw [hG]
          exact ⟨fun h => (by cases h), fun h => absurd (h.1.1.2.2) h98⟩
      · have h89 := of_decide_eq_false h89
        refine sra rfl ?_
        refine c_ret (fr rfl ⟨abd ?_, rfl⟩)
        rw [hG]
        exact ⟨fun h => (by cases h), fun h => absurd (h.1.1.2.1) h89⟩
    · have h80 := (of_decide_eq_false h80 : ¬ ((4 : Int) ≤ n ∧ (n : Int) ≤ 5))
      refine sra rfl ?_
      refine c_ret (fr rfl ⟨abd ?_, rfl⟩)
      rw [hG]
      exact ⟨fun h => (by cases h), fun h => absurd (h.1.1.1.1) h80⟩
  have h76 := of_decide_eq_false h76
  refine crr (by kernel_rfl) rfl ?_   -- region 10
  refine c_if rfl (fun h125 => ?_) (fun h125 => ?_)
  · have h125 := of_decide_eq_true h125
    have hG : ShpK l p n kd ↔ (Spl l p n 3 ∧ (0 ≤ rd l (p + 1) ∧ rd l (p + 1) ≤ 99)) ∧ Rf l (rd l (p + 2)) 7 5 :=
      ⟨fun h => h.2.2.2.1 h125, fun h => ⟨fun e => by omega, fun e => by omega, fun e => by omega, fun _ => h, fun e => by omega⟩⟩
    rw [spl_zer, rf_leads (i := 5) (by omega)] at hG
    refine cds [0, 1, 2, 3, 4, 5, 6, 7, 8, 9, 10, 11, 12, 13, 14, 15, 16, 17, 18, 19, 20, 21, 22, 23, 24, 25, 26, 27, 28, 29, 30, 31, 32, 33, 34, 35, 36, 37] [.q, .f, .q, .q, .q, .q, .q, .q, .f, .q, .q, .q, .q, .q, .q, .q, .f, .q, .q, .q, .q, .q, .q, .q, .q, .q, .f, .q, .q, .q, .q, .q, .q, .q, .q, .f, .q, .q] (by kernel_rfl) (by kernel_rfl) ?_   -- region 11
    refine sr 1 rfl ?_
    refine s_op rfl (o_pure loud_f rfl (l1In_c ..) ?_)
    refine sr 1 rfl ?_
    refine s_bool 129 rfl rfl (fun h129 => ?_) (fun h129 => ?_)
    · have h129 := (of_decide_eq_true h129 : (3 : Int) ≤ n ∧ (n : Int) ≤ 4)
      refine sr 2 rfl ?_
      refine s_op rfl (o_ar rfl rfl rfl (by omega) (by omega) ?_)
      refine s_op rfl (oidx rfl rfl rfl (by omega) (by omega) ?_)
      refine s_op rfl (old rfl rfl (hx.rd (by omega) (by omega)) ?_)
      refine s_op rfl (o_pure loud_f rfl (l1In_c ..) ?_)
      refine sr 2 rfl ?_
      refine s_bool 137 rfl rfl (fun h137 => ?_) (fun h137 => ?_)
      · have h137 := of_decide_eq_true h137
        refine sr 2 rfl ?_
        refine s_op rfl (o_ar rfl rfl rfl (by omega) (by omega) ?_)
        refine s_op rfl (oidx rfl rfl rfl (by omega) (by omega) ?_)
        refine s_op rfl (old rfl rfl (hx.rd (by omega) (by omega)) ?_)
        refine s_op rfl (o_pure loud_f rfl (Kind_c ..) ?_)
        refine sr 3 rfl ?_
        refine s_bool 146 rfl rfl (fun h146 => ?_) (fun h146 => ?_)
        · have h146 := of_decide_eq_true h146
          refine sr 3 rfl ?_
          refine s_op rfl (o_ar rfl rfl rfl (by omega) (by omega) ?_)
          refine s_op rfl (oidx rfl rfl rfl (by omega) (by omega) ?_)
          refine s_op rfl (old rfl rfl (hx.rd (by omega) (by omega)) ?_)
          refine s_op rfl (o_pure loud_f rfl (l3Leads_c _ _ _ _ _ _ hx hok (by omega)) ?_)
          refine sr 2 rfl ?_
          refine s_bool 155 rfl rfl (fun h155 => ?_) (fun h155 => ?_)
          · have h155 := bdt.1 h155
            refine sr 2 rfl ?_
            refine s_op rfl (o_ar rfl rfl rfl (by omega) (by omega) ?_)
            refine sr 2 rfl ?_
            refine s_op rfl (o_ar rfl rfl rfl (by omega) (by omega) ?_)
            refine s_op rfl (o_pure loud_f rfl (l3Zero_c _ _ _ _ _ _ hx (by omega) (by omega) hlen (by omega)) ?_)
            refine sra rfl ?_
            refine c_ret (fr rfl ⟨abd ?_, rfl⟩)
            show bd _ = true ↔ _
            rw [bdt, hG]
            exact ⟨fun h => ⟨⟨⟨h129, h⟩, h137⟩, h146, h155⟩, fun h => h.1.1.2⟩
          · have h155 := bdf.1 h155
            refine sra rfl ?_
            refine c_ret (fr rfl ⟨abd ?_, rfl⟩)
            rw [hG]
            exact ⟨fun h => (by cases h), fun h => absurd (h.2.2) h155⟩
        · have h146 := of_decide_eq_false h146
          refine sra rfl ?_
          refine c_ret (fr rfl ⟨abd ?_, rfl⟩)
          rw [hG]
          exact ⟨fun h => (by cases h), fun h => absurd (h.2.1) h146⟩
      · have h137 := of_decide_eq_false h137
        refine sra rfl ?_
        refine c_ret (fr rfl ⟨abd ?_, rfl⟩)
        rw [hG]
        exact ⟨fun h => (by cases h), fun h => absurd (h.1.2) h137⟩
    · have h129 := (of_decide_eq_false h129 : ¬ ((3 : Int) ≤ n ∧ (n : Int) ≤ 4))
      refine sra rfl ?_
      refine c_ret (fr rfl ⟨abd ?_, rfl⟩)
      rw [hG]
      exact ⟨fun h => (by cases h), fun h => absurd (h.1.1.1) h129⟩
  have h125 := of_decide_eq_false h125
  refine crr (by kernel_rfl) rfl ?_   -- region 12
  refine c_if rfl (fun h164 => ?_) (fun h164 => ?_)
  · have h164 := of_decide_eq_true h164
    have hG : ShpK l p n kd ↔ Nxt l (rd l (p + 1)) 5 ∧ ∀ i : Int, 2 ≤ i → i < n → Plain l (rd l (p + i)) :=
      ⟨fun h => h.2.2.2.2 h164, fun h => ⟨fun e => by omega, fun e => by omega, fun e => by omega, fun e => by omega, fun _ => h⟩⟩
    refine cds [0, 1, 2, 3, 4, 5, 6, 7] [.q, .q, .q, .q, .q, .q, .f, .q] (by kernel_rfl) (by kernel_rfl) ?_   -- region 13
    refine sr 3 rfl ?_
    refine s_op rfl (o_ar rfl rfl rfl (by omega) (by omega) ?_)
    refine s_op rfl (oidx rfl rfl rfl (by omega) (by omega) ?_)
    refine s_op rfl (old rfl rfl (hx.rd (by omega) (by omega)) ?_)
    refine s_op rfl (o_pure loud_f rfl (l3Next_c _ _ _ _ _ _ hx hok (by omega)) ?_)
    refine sra rfl ?_
    refine c_seq ?_
    refine crr (by kernel_rfl) rfl ?_   -- region 14
    refine c_block ?_
    refine c_lp (α := Int) (fun i => [(1, I p), (5, I n), (6, .sl r o l.length), (7, .bool (bd (Nxt l (rd l (p + 1)) 5 ∧ ∀ j : Int, 2 ≤ j → j < i → Plain l (rd l (p + j))))), (8, I i)]) (fun _ => [(2, 2, [.sl r o l.length])]) (fun i st' => st = st' ∧ 2 ≤ i ∧ i ≤ n) (fun i => (n - i).toNat) 2 ⟨rfl, rfl, rfl, ?_, rfl, trivial⟩ ⟨rfl, rfl, trivial⟩ ⟨rfl, by omega, by omega⟩ ?_
    · exact abd (bdt.trans ⟨fun h => ⟨h, fun j h1 h2 => by omega⟩, fun h => h.1⟩)
    rintro i st' ⟨rfl, hi, hin⟩
    obtain ⟨Q, hQ⟩ : ∃ Q : Prop, Q = (Nxt l (rd l (p + 1)) 5 ∧ ∀ j : Int, 2 ≤ j → j < i → Plain l (rd l (p + j))) := ⟨_, rfl⟩
    rw [← hQ]
    refine c_seq ?_
    refine c_rj [(1, I p), (5, I n), (6, .sl r o l.length), (7, .bool (bd Q)), (8, I i), (178, .bool (bd (i < n ∧ Q)))] [(2, 2, [.sl r o l.length])] (by kernel_rfl) ?_ ?_   -- region 15
    · refine sr 4 rfl ?_
      refine s_bool 176 rfl rfl (fun h176 => ?_) (fun h176 => ?_)
      · have h176 := of_decide_eq_true h176
        refine sra rfl ⟨⟨rfl, rfl, rfl, rfl, rfl, ?_, trivial⟩, ⟨rfl, rfl, trivial⟩, rfl⟩
        exact abd (show bd Q = true ↔ _ from bdt.trans ⟨fun h => ⟨h176, h⟩, fun h => h.2⟩)
      · have h176 := of_decide_eq_false h176
        refine sra rfl ⟨⟨rfl, rfl, rfl, rfl, rfl, ?_, trivial⟩, ⟨rfl, rfl, trivial⟩, rfl⟩
        exact abd ⟨fun h => (by cases h), fun h => absurd h.1 h176⟩
    refine c_if rfl (fun h178 => ?_) (fun h178 => ?_)
    · have h178 := bdt.1 h178
      refine c_skip ?_
      refine c_seq ?_
      refine c_block ?_
      refine cd1 [0, 1, 2, 3, 4, 5, 6, 7, 8] [.q, .q, .q, .q, .q, .q, .q, .f, .q] (by kernel_rfl) (by kernel_rfl) ?_   -- region 17
      refine sr 4 rfl ?_
      refine s_op rfl (o_ar rfl rfl rfl (by omega) (by omega) ?_)
      refine s_op rfl (oidx rfl rfl rfl (by omega) (by omega) ?_)
      refine s_op rfl (old rfl rfl (hx.rd (by omega) (by omega)) ?_)
      refine s_op rfl (o_pure loud_f rfl (l3Plain_c _ _ _ _ _ hx hok) ?_)
      refine sra rfl ?_
      refine c_region (by kernel_rfl) ?_   -- region 16
      refine sr 1 rfl ?_
      refine s_op rfl (o_ar rfl rfl rfl (by omega) (by omega) ?_)
      refine sra rfl ⟨i + 1, ⟨rfl, rfl, rfl, ?_, rfl, trivial⟩, ⟨rfl, rfl, trivial⟩, ⟨rfl, by omega, by omega⟩, by omega⟩
      have h2 := h178.2
      rw [hQ] at h2
      refine abd (show bd _ = true ↔ _ from bdt.trans ⟨fun h => ⟨h2.1, fun j h3 h4 => ?_⟩, fun h => h.2 i hi (by omega)⟩)
      by_cases e : j = i
      · rw [e]; exact h
      · exact h2.2 j h3 (by omega)
    · have h178 := bdf.1 h178
      refine c_exit ?_
      refine crr (by kernel_rfl) rfl ?_   -- region 18
      refine c_ret (fr rfl ⟨?_, rfl⟩)
      refine abd (bdt.trans ?_)
      rw [hG]
      refine ⟨fun h => ?_, fun h => by rw [hQ]; exact ⟨h.1, fun j h3 h4 => h.2 j h3 (by omega)⟩⟩
      have : ¬ i < n := fun hc => h178 ⟨hc, h⟩
      rw [hQ] at h
      exact ⟨h.1, fun j h3 h4 => h.2 j h3 (by omega)⟩
  · have h164 := of_decide_eq_false h164
    refine c_skip ?_
    refine crr (by kernel_rfl) rfl ?_   -- region 19
    refine c_ret (fr rfl ⟨abd ⟨fun _ => ?_, fun _ => rfl⟩, rfl⟩)
    exact ⟨fun h => by omega, fun h => by omega, fun h => by omega, fun h => by omega, fun h => by omega⟩
end Go.Proofs.YtmphklmhhcmbnaaDoorW.Ax
