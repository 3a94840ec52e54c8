/- Chapter 1's values, and what a value leads to: walked. -/
import Derived.Test.YtfhkjhnaihhdmaaYc
namespace Go.Proofs.YtfhkjhnaihhdmaaW.Ax
open Go Go.RowKit Go.Proofs Go.Proofs.Ytfhkjhnaihhdmaa.Pure
set_option linter.unusedVariables false
set_option maxRecDepth 100000

noncomputable def bd (P : Prop) : Bool := @decide P (Classical.propDecidable P)
theorem bdt {P : Prop} : bd P = true ↔ P := by unfold bd; simp
theorem bdf {P : Prop} : bd P = false ↔ ¬ P := by unfold bd; simp
theorem abd {X : Bool} {P : Prop} (h : X = true ↔ P) : AV.bool X = AV.bool (bd P) := by
  congr 1
  cases hb : bd P with
  | true => exact h.2 (bdt.1 hb)
  | false =>
    cases hx : X with
    | false => rfl
    | true => exact absurd (h.1 hx) (bdf.1 hb)
theorem bd_eq {P Q : Prop} (h : P ↔ Q) : bd P = bd Q := by rw [propext h]
theorem bd_dec (P : Prop) [Decidable P] : decide P = bd P := by
  by_cases h : P
  · rw [decide_eq_true h, bdt.2 h]
  · rw [decide_eq_false h, bdf.2 h]

theorem ndt {P : Prop} [Decidable P] (h : (!decide P) = true) : ¬ P := by simpa using h
theorem ndf {P : Prop} [Decidable P] (h : (!decide P) = false) : P := by simpa using h
theorem nbt {P : Prop} (h : (!bd P) = true) : ¬ P := bdf.1 (by simpa using h)
theorem nbf {P : Prop} (h : (!bd P) = false) : P := bdt.1 (by simpa using h)
/-- A value that is right. -/
def Vok (v : Int) : Prop := (v % 8 = 0 → v / 8 = 0) ∧ (v % 8 = 1 → v / 8 = 0) ∧ (v % 8 = 2 → 0 ≤ v / 8 ∧ v / 8 ≤ 1) ∧ (v % 8 = 3 → -2147483648 ≤ v / 8 ∧ v / 8 ≤ 2147483647) ∧ (4 ≤ v % 8 → 0 ≤ v / 8 ∧ v / 8 ≤ 1999)
theorem kat_of {l : List Int} {a b : Int} (hb : 0 ≤ b) : kat l a = b ↔ a ∈ blocks l ∧ kindOf l a.toNat = b := by
  unfold kat
  by_cases h : a ∈ blocks l
  · rw [if_pos h]; exact ⟨fun e => ⟨h, e⟩, fun e => e.2⟩
  · rw [if_neg h]; exact ⟨fun e => by omega, fun e => absurd e.1 h⟩
theorem kat_in {l : List Int} {a b : Int} (hb : 0 ≤ b) (h : kat l a = b) : a ∈ blocks l ∧ 0 ≤ a ∧ a < l.length ∧ l.length ≤ 2000 := by
  have h1 := ((kat_of hb).1 h).1
  have h2 := block_at h1
  exact ⟨h1, h2.1, h2.2.1, h2.2.2.2⟩
/-- A value of a kind, that leads to a block of a kind. -/
def Rf (l : List Int) (v k b : Int) : Prop := v % 8 = k ∧ kat l (v / 8) = b
/-- A value that is right, and leads to a block of a kind, if it leads anywhere. -/
def Leads (l : List Int) (v inner : Int) : Prop := Vok v ∧ (v % 8 = 4 → kat l (v / 8) = 1) ∧ (v % 8 = 5 → kat l (v / 8) = 2) ∧ (v % 8 = 6 → kat l (v / 8) = 4) ∧ (v % 8 = 7 → kat l (v / 8) = inner)
/-- A value that is right, and nothing inner. -/
def Plain (l : List Int) (v : Int) : Prop := v % 8 ≠ 7 ∧ Leads l v 0
/-- None, or inner and leading to a block of a kind. -/
def Nxt (l : List Int) (v b : Int) : Prop := v = 0 ∨ Rf l v 7 b
theorem Rf.leads {l : List Int} {v k b : Int} (h : Rf l v k b) (hk : (k = 4 ∧ b = 1) ∨ (k = 5 ∧ b = 2) ∨ (k = 6 ∧ b = 4) ∨ (k = 7 ∧ 0 ≤ b)) : Leads l v b := by
  obtain ⟨h1, h2⟩ := h
  have := kat_in (by omega) h2
  unfold Leads Vok
  omega

theorem Kind_c (v : Int) (st : St) : ACalls Try.prog 26 [I v] st No (Pure1 (I (v % 8)) st) := by
  refine ent (N := 5) Try.func26 rfl (by decide) rfl rfl rfl ?_
  refine crr (by kernel_rfl) rfl ?_
  refine crr (by kernel_rfl) rfl ?_
  exact c_ret (fr rfl ⟨rfl, rfl⟩)
theorem Num_c (v : Int) (st : St) : ACalls Try.prog 28 [I v] st No (Pure1 (I (v / 8)) st) := by
  refine ent (N := 5) Try.func28 rfl (by decide) rfl rfl rfl ?_
  refine crr (by kernel_rfl) rfl ?_
  refine crr (by kernel_rfl) rfl ?_
  exact c_ret (fr rfl ⟨rfl, rfl⟩)
theorem ValueOk_c (v : Int) (st : St) : ACalls Try.prog 19 [I v] st No (Pure1 (.bool (bd (Vok v))) st) := by
  refine ent (N := 23) Try.func19 rfl (by decide) rfl rfl rfl ?_
  refine crr (by kernel_rfl) rfl ?_   -- region 0
  refine c_rs (by kernel_rfl) ?_   -- region 1
  refine sr 1 rfl ?_
  refine s_op rfl (o_pure loud_n rfl (Num_c ..) ?_)
  refine sra rfl ?_
  refine c_seq ?_
  refine c_rs (by kernel_rfl) ?_   -- region 2
  refine sr 1 rfl ?_
  refine s_op rfl (o_pure loud_n rfl (Kind_c ..) ?_)
  refine s_end ?_
  refine c_block ?_
  refine c_sj (fun _ : Unit => [(3, I (v / 8)), (7, I (v % 8)), (8, .bool (decide (v % 8 = 0 ∨ v % 8 = 1)))]) (fun _ => []) (fun _ st' => st = st') ?_ ?_
  · refine crr (by kernel_rfl) rfl ?_   -- region 3
    refine c_if rfl (fun h8 => ?_) (fun h8 => ?_)
    · have h8 := of_decide_eq_true h8
      refine c_skip ⟨(), ⟨rfl, rfl, ?_, trivial⟩, trivial, rfl⟩
      show AV.bool (decide _) = AV.bool (decide _)
      congr 1
      exact decide_eq_decide.2 ⟨fun h => .inl h, fun _ => h8⟩
    · have h8 := of_decide_eq_false h8
      refine c_region (by kernel_rfl) ?_   -- region 4
      refine sra rfl ⟨(), ⟨rfl, rfl, ?_, trivial⟩, trivial, rfl⟩
      show AV.bool (decide _) = AV.bool (decide _)
      congr 1
      exact decide_eq_decide.2 ⟨fun h => .inr h, fun h => h.resolve_left h8⟩
  rintro _ st' rfl
  refine c_if rfl (fun h8 => ?_) (fun h8 => ?_)
  · -- then
    have h8 := of_decide_eq_true h8
    refine crr (by kernel_rfl) rfl ?_   -- region 5
    refine c_ret (fr rfl ⟨abd ?_, rfl⟩)
    rw [decide_eq_true_eq]; unfold Vok; omega
  · -- else
    have h8 := of_decide_eq_false h8
    refine crr (by kernel_rfl) rfl ?_   -- region 6
    refine c_if rfl (fun h13 => ?_) (fun h13 => ?_)
    · -- then
      have h13 := of_decide_eq_true h13
      refine c_rs (by kernel_rfl) ?_   -- region 7
      refine sr 1 rfl ?_
      refine s_op rfl (o_pure loud_n rfl (l1In_c ..) ?_)
      refine sra rfl ?_
      refine c_ret (fr rfl ⟨abd ?_, rfl⟩)
      rw [decide_eq_true_eq]; unfold Vok; omega
    · -- else
      have h13 := of_decide_eq_false h13
      refine crr (by kernel_rfl) rfl ?_   -- region 8
      refine c_if rfl (fun h17 => ?_) (fun h17 => ?_)
      · -- then
        have h17 := of_decide_eq_true h17
        refine c_rs (by kernel_rfl) ?_   -- region 9
        refine sr 1 rfl ?_
        refine s_op rfl (o_pure loud_n rfl (l1In_c ..) ?_)
        refine sra rfl ?_
        refine c_ret (fr rfl ⟨abd ?_, rfl⟩)
        rw [decide_eq_true_eq]; unfold Vok; omega
      · -- else
        have h17 := of_decide_eq_false h17
        refine c_skip ?_
        refine c_rs (by kernel_rfl) ?_   -- region 10
        refine sr 1 rfl ?_
        refine s_op rfl (o_pure loud_n rfl (l1In_c ..) ?_)
        refine sra rfl ?_
        refine c_ret (fr rfl ⟨abd ?_, rfl⟩)
        rw [decide_eq_true_eq]; unfold Vok; omega

theorem iKind_c (v : Int) (st : St) : ACalls Try.prog 25 [I v] st No (Pure1 (I (v % 8)) st) := by
  refine ent (N := 5) Try.func25 rfl (by decide) rfl rfl rfl ?_
  refine crr (by kernel_rfl) rfl ?_
  refine crr (by kernel_rfl) rfl ?_
  exact c_ret (fr rfl ⟨rfl, rfl⟩)
theorem iNum_c (v : Int) (st : St) : ACalls Try.prog 27 [I v] st No (Pure1 (I (v / 8)) st) := by
  refine ent (N := 5) Try.func27 rfl (by decide) rfl rfl rfl ?_
  refine crr (by kernel_rfl) rfl ?_
  refine crr (by kernel_rfl) rfl ?_
  exact c_ret (fr rfl ⟨rfl, rfl⟩)
theorem iValueOk_c (v : Int) (st : St) : ACalls Try.prog 18 [I v] st No (Pure1 (.bool (bd (Vok v))) st) := by
  refine ent (N := 23) Try.func18 rfl (by decide) rfl rfl rfl ?_
  refine crr (by kernel_rfl) rfl ?_   -- region 0
  refine c_rs (by kernel_rfl) ?_   -- region 1
  refine sr 1 rfl ?_
  refine s_op rfl (o_pure loud_n rfl (iNum_c ..) ?_)
  refine sra rfl ?_
  refine c_seq ?_
  refine c_rs (by kernel_rfl) ?_   -- region 2
  refine sr 1 rfl ?_
  refine s_op rfl (o_pure loud_n rfl (iKind_c ..) ?_)
  refine s_end ?_
  refine c_block ?_
  refine c_sj (fun _ : Unit => [(3, I (v / 8)), (7, I (v % 8)), (8, .bool (decide (v % 8 = 0 ∨ v % 8 = 1)))]) (fun _ => []) (fun _ st' => st = st') ?_ ?_
  · refine crr (by kernel_rfl) rfl ?_   -- region 3
    refine c_if rfl (fun h8 => ?_) (fun h8 => ?_)
    · have h8 := of_decide_eq_true h8
      refine c_skip ⟨(), ⟨rfl, rfl, ?_, trivial⟩, trivial, rfl⟩
      show AV.bool (decide _) = AV.bool (decide _)
      congr 1
      exact decide_eq_decide.2 ⟨fun h => .inl h, fun _ => h8⟩
    · have h8 := of_decide_eq_false h8
      refine c_region (by kernel_rfl) ?_   -- region 4
      refine sra rfl ⟨(), ⟨rfl, rfl, ?_, trivial⟩, trivial, rfl⟩
      show AV.bool (decide _) = AV.bool (decide _)
      congr 1
      exact decide_eq_decide.2 ⟨fun h => .inr h, fun h => h.resolve_left h8⟩
  rintro _ st' rfl
  refine c_if rfl (fun h8 => ?_) (fun h8 => ?_)
  · -- then
    have h8 := of_decide_eq_true h8
    refine crr (by kernel_rfl) rfl ?_   -- region 5
    refine c_ret (fr rfl ⟨abd ?_, rfl⟩)
    rw [decide_eq_true_eq]; unfold Vok; omega
  · -- else
    have h8 := of_decide_eq_false h8
    refine crr (by kernel_rfl) rfl ?_   -- region 6
    refine c_if rfl (fun h13 => ?_) (fun h13 => ?_)
    · -- then
      have h13 := of_decide_eq_true h13
      refine c_rs (by kernel_rfl) ?_   -- region 7
      refine sr 1 rfl ?_
      refine s_op rfl (o_pure loud_n rfl (within_c ..) ?_)
      refine sra rfl ?_
      refine c_ret (fr rfl ⟨abd ?_, rfl⟩)
      rw [decide_eq_true_eq]; unfold Vok; omega
    · -- else
      have h13 := of_decide_eq_false h13
      refine crr (by kernel_rfl) rfl ?_   -- region 8
      refine c_if rfl (fun h17 => ?_) (fun h17 => ?_)
      · -- then
        have h17 := of_decide_eq_true h17
        refine c_rs (by kernel_rfl) ?_   -- region 9
        refine sr 1 rfl ?_
        refine s_op rfl (o_pure loud_n rfl (within_c ..) ?_)
        refine sra rfl ?_
        refine c_ret (fr rfl ⟨abd ?_, rfl⟩)
        rw [decide_eq_true_eq]; unfold Vok; omega
      · -- else
        have h17 := of_decide_eq_false h17
        refine c_skip ?_
        refine c_rs (by kernel_rfl) ?_   -- region 10
        refine sr 1 rfl ?_
        refine s_op rfl (o_pure loud_n rfl (within_c ..) ?_)
        refine sra rfl ?_
        refine c_ret (fr rfl ⟨abd ?_, rfl⟩)
        rw [decide_eq_true_eq]; unfold Vok; omega

theorem l3Leads_c (r : Option Nat) (o : Nat) (l : List Int) (v inner : Int) (st : St) (hx : At st r o l) (hok : okB l = true) (hi : 0 ≤ inner) : ACalls Try.prog 110 [.agg [.sl r o l.length], I v, I inner] st No (Pure1 (.bool (bd (Leads l v inner))) st) := by
  have hlen := okB_len hok
  refine ent (N := 72) Try.func110 rfl (by decide) rfl rfl rfl ?_
  refine crr (by kernel_rfl) rfl ?_   -- region 0
  refine c_seq ?_
  refine c_rs (by kernel_rfl) ?_   -- region 1
  refine sr 1 rfl ?_
  refine s_op rfl (o_pure loud_n rfl (ValueOk_c ..) ?_)
  refine sra rfl ?_
  refine c_if rfl (fun h10 => ?_) (fun h10 => ?_)
  · -- then
    have h10 : ¬ Vok v := bdf.1 (by simpa using h10)
    refine crr (by kernel_rfl) rfl ?_   -- region 2
    refine c_ret (fr rfl ⟨abd ?_, rfl⟩)
    exact ⟨fun h => (by cases h), fun h => absurd h.1 h10⟩
  · -- else
    have h10 : Vok v := bdt.1 (by simpa using h10)
    refine c_skip ?_
    refine c_rs (by kernel_rfl) ?_   -- region 3
    refine sr 1 rfl ?_
    refine s_op rfl (o_pure loud_n rfl (Num_c ..) ?_)
    refine sra rfl ?_
    refine c_seq ?_
    refine c_rs (by kernel_rfl) ?_   -- region 4
    refine sr 1 rfl ?_
    refine s_op rfl (o_pure loud_n rfl (Kind_c ..) ?_)
    refine s_end ?_
    refine c_block ?_
    refine crr (by kernel_rfl) rfl ?_   -- region 5
    refine c_if rfl (fun h15 => ?_) (fun h15 => ?_)
    · -- then
      have h15 := of_decide_eq_true h15
      have hL : Leads l v inner ↔ kat l (v / 8) = 1 := by unfold Leads; constructor <;> intro h <;> first | exact h.2.1 h15 | exact ⟨h10, by omega, by omega, by omega, by omega⟩
      refine c_rs (by kernel_rfl) ?_
      refine sr 2 rfl ?_
      refine s_op rfl (o_pure loud_n rfl (l2Is_c _ _ _ _ _ hx hok) ?_)
      refine sr 1 rfl ?_
      refine s_bool 20 rfl rfl (fun h => ?_) (fun h => ?_)
      · have h := of_decide_eq_true h
        have hb := block_at h
        refine sr 3 rfl ?_
        refine s_op rfl (oidx rfl rfl rfl (by omega) (by omega) ?_)
        refine s_op rfl (old rfl rfl (hx.rd (by omega) (by omega)) ?_)
        refine s_op rfl (o_pure loud_n rfl (l2Kind_c ..) ?_)
        refine sra rfl ?_
        refine c_ret (fr rfl ⟨abd ?_, rfl⟩)
        rw [hL, kat_of (by omega)]
        show decide (rd l (v / 8) % 8 = _) = true ↔ _
        rw [decide_eq_true_eq, kind_rd]
        exact ⟨fun e => ⟨h, e⟩, fun e => e.2⟩
      · have h := of_decide_eq_false h
        refine sra rfl ?_
        refine c_ret (fr rfl ⟨abd ?_, rfl⟩)
        rw [hL, kat_of (by omega)]
        exact ⟨fun e => (by cases e), fun e => absurd e.1 h⟩
    · -- else
      have h15 := of_decide_eq_false h15
      refine crr (by kernel_rfl) rfl ?_
      refine c_if rfl (fun h29 => ?_) (fun h29 => ?_)
      · -- then
        have h29 := of_decide_eq_true h29
        have hL : Leads l v inner ↔ kat l (v / 8) = 2 := by unfold Leads; constructor <;> intro h <;> first | exact h.2.2.1 h29 | exact ⟨h10, by omega, by omega, by omega, by omega⟩
        refine c_rs (by kernel_rfl) ?_
        refine sr 2 rfl ?_
        refine s_op rfl (o_pure loud_n rfl (l2Is_c _ _ _ _ _ hx hok) ?_)
        refine sr 1 rfl ?_
        refine s_bool 34 rfl rfl (fun h => ?_) (fun h => ?_)
        · have h := of_decide_eq_true h
          have hb := block_at h
          refine sr 3 rfl ?_
          refine s_op rfl (oidx rfl rfl rfl (by omega) (by omega) ?_)
          refine s_op rfl (old rfl rfl (hx.rd (by omega) (by omega)) ?_)
          refine s_op rfl (o_pure loud_n rfl (l2Kind_c ..) ?_)
          refine sra rfl ?_
          refine c_ret (fr rfl ⟨abd ?_, rfl⟩)
          rw [hL, kat_of (by omega)]
          show decide (rd l (v / 8) % 8 = _) = true ↔ _
          rw [decide_eq_true_eq, kind_rd]
          exact ⟨fun e => ⟨h, e⟩, fun e => e.2⟩
        · have h := of_decide_eq_false h
          refine sra rfl ?_
          refine c_ret (fr rfl ⟨abd ?_, rfl⟩)
          rw [hL, kat_of (by omega)]
          exact ⟨fun e => (by cases e), fun e => absurd e.1 h⟩
      · -- else
        have h29 := of_decide_eq_false h29
        refine crr (by kernel_rfl) rfl ?_
        refine c_if rfl (fun h43 => ?_) (fun h43 => ?_)
        · -- then
          have h43 := of_decide_eq_true h43
          have hL : Leads l v inner ↔ kat l (v / 8) = 4 := by unfold Leads; constructor <;> intro h <;> first | exact h.2.2.2.1 h43 | exact ⟨h10, by omega, by omega, by omega, by omega⟩
          refine c_rs (by kernel_rfl) ?_
          refine sr 2 rfl ?_
          refine s_op rfl (o_pure loud_n rfl (l2Is_c _ _ _ _ _ hx hok) ?_)
          refine sr 1 rfl ?_
          refine s_bool 48 rfl rfl (fun h => ?_) (fun h => ?_)
          · have h := of_decide_eq_true h
            have hb := block_at h
            refine sr 3 rfl ?_
            refine s_op rfl (oidx rfl rfl rfl (by omega) (by omega) ?_)
            refine s_op rfl (old rfl rfl (hx.rd (by omega) (by omega)) ?_)
            refine s_op rfl (o_pure loud_n rfl (l2Kind_c ..) ?_)
            refine sra rfl ?_
            refine c_ret (fr rfl ⟨abd ?_, rfl⟩)
            rw [hL, kat_of (by omega)]
            show decide (rd l (v / 8) % 8 = _) = true ↔ _
            rw [decide_eq_true_eq, kind_rd]
            exact ⟨fun e => ⟨h, e⟩, fun e => e.2⟩
          · have h := of_decide_eq_false h
            refine sra rfl ?_
            refine c_ret (fr rfl ⟨abd ?_, rfl⟩)
            rw [hL, kat_of (by omega)]
            exact ⟨fun e => (by cases e), fun e => absurd e.1 h⟩
        · -- else
          have h43 := of_decide_eq_false h43
          refine crr (by kernel_rfl) rfl ?_
          refine c_if rfl (fun h57 => ?_) (fun h57 => ?_)
          · -- then
            have h57 := of_decide_eq_true h57
            have hL : Leads l v inner ↔ kat l (v / 8) = inner := by unfold Leads; constructor <;> intro h <;> first | exact h.2.2.2.2 h57 | exact ⟨h10, by omega, by omega, by omega, by omega⟩
            refine c_rs (by kernel_rfl) ?_
            refine sr 2 rfl ?_
            refine s_op rfl (o_pure loud_n rfl (l2Is_c _ _ _ _ _ hx hok) ?_)
            refine sr 1 rfl ?_
            refine s_bool 62 rfl rfl (fun h => ?_) (fun h => ?_)
            · have h := of_decide_eq_true h
              have hb := block_at h
              refine sr 3 rfl ?_
              refine s_op rfl (oidx rfl rfl rfl (by omega) (by omega) ?_)
              refine s_op rfl (old rfl rfl (hx.rd (by omega) (by omega)) ?_)
              refine s_op rfl (o_pure loud_n rfl (l2Kind_c ..) ?_)
              refine sra rfl ?_
              refine c_ret (fr rfl ⟨abd ?_, rfl⟩)
              rw [hL, kat_of (by omega)]
              show decide (rd l (v / 8) % 8 = _) = true ↔ _
              rw [decide_eq_true_eq, kind_rd]
              exact ⟨fun e => ⟨h, e⟩, fun e => e.2⟩
            · have h := of_decide_eq_false h
              refine sra rfl ?_
              refine c_ret (fr rfl ⟨abd ?_, rfl⟩)
              rw [hL, kat_of (by omega)]
              exact ⟨fun e => (by cases e), fun e => absurd e.1 h⟩
          · -- else
            have h57 := of_decide_eq_false h57
            refine c_skip ?_
            refine crr (by kernel_rfl) rfl ?_
            refine c_ret (fr rfl ⟨abd ?_, rfl⟩)
            refine ⟨fun _ => ⟨h10, by omega, by omega, by omega, by omega⟩, fun _ => rfl⟩

theorem l3Plain_c (r : Option Nat) (o : Nat) (l : List Int) (v : Int) (st : St) (hx : At st r o l) (hok : okB l = true) : ACalls Try.prog 142 [.agg [.sl r o l.length], I v] st No (Pure1 (.bool (bd (Plain l v))) st) := by
  refine ent (N := 13) Try.func142 rfl (by decide) rfl rfl rfl ?_
  refine crr (by kernel_rfl) rfl ?_   -- region 0
  refine c_rs (by kernel_rfl) ?_   -- region 1
  refine sr 1 rfl ?_
  refine s_op rfl (o_pure loud_n rfl (Kind_c ..) ?_)
  refine sr 2 rfl ?_
  refine s_bool 8 rfl rfl (fun h8 => ?_) (fun h8 => ?_)
  · -- slot 8 true
    have h8 : v % 8 ≠ 7 := by simpa using h8
    refine sr 2 rfl ?_
    refine s_op rfl (o_pure loud_n rfl (l3Leads_c _ _ _ _ _ _ hx hok (by omega)) ?_)
    refine sra rfl ?_
    refine c_ret (fr rfl ⟨abd ?_, rfl⟩)
    show bd _ = true ↔ _
    rw [bdt]; exact ⟨fun h => ⟨h8, h⟩, fun h => h.2⟩
  · -- slot 8 false
    have h8 : v % 8 = 7 := by simpa using h8
    refine sra rfl ?_
    refine c_ret (fr rfl ⟨abd ?_, rfl⟩)
    exact ⟨fun h => (by cases h), fun h => absurd h8 h.1⟩
theorem l3Next_c (r : Option Nat) (o : Nat) (l : List Int) (v b : Int) (st : St) (hx : At st r o l) (hok : okB l = true) (hb : 0 ≤ b) : ACalls Try.prog 140 [.agg [.sl r o l.length], I v, I b] st No (Pure1 (.bool (bd (Nxt l v b))) st) := by
  refine ent (N := 20) Try.func140 rfl (by decide) rfl rfl rfl ?_
  refine crr (by kernel_rfl) rfl ?_   -- region 0
  refine c_rs (by kernel_rfl) ?_   -- region 1
  refine sr 3 rfl ?_
  refine s_bool 9 rfl rfl (fun h9 => ?_) (fun h9 => ?_)
  · -- slot 9 true
    have h9 := of_decide_eq_true h9
    refine sra rfl ?_
    refine c_ret (fr rfl ⟨abd ?_, rfl⟩)
    exact ⟨fun _ => .inl h9, fun _ => rfl⟩
  · -- slot 9 false
    have h9 := of_decide_eq_false h9
    refine sr 1 rfl ?_
    refine s_op rfl (o_pure loud_n rfl (Kind_c ..) ?_)
    refine sr 2 rfl ?_
    refine s_bool 13 rfl rfl (fun h13 => ?_) (fun h13 => ?_)
    · -- slot 13 true
      have h13 := of_decide_eq_true h13
      refine sr 3 rfl ?_
      refine s_op rfl (o_pure loud_n rfl (l3Leads_c _ _ _ _ _ _ hx hok hb) ?_)
      refine sra rfl ?_
      refine c_ret (fr rfl ⟨abd ?_, rfl⟩)
      show bd _ = true ↔ _
      rw [bdt]
      refine ⟨fun h => .inr ⟨h13, h.2.2.2.2 h13⟩, fun h => ?_⟩
      rcases h with h | h
      · exact absurd h h9
      · exact h.leads (by omega)
    · -- slot 13 false
      have h13 := of_decide_eq_false h13
      refine sra rfl ?_
      refine c_ret (fr rfl ⟨abd ?_, rfl⟩)
      exact ⟨fun h => (by cases h), fun h => by rcases h with h | h; exact absurd h h9; exact absurd h.1 h13⟩
/-- Words that are 0, from a place to another. -/
def Zer (l : List Int) (a b : Int) : Prop := ∀ i : Int, a ≤ i → i < b → rd l i = 0
theorem l3Zero_c (r : Option Nat) (o : Nat) (l : List Int) (a b : Int) (st : St) (hx : At st r o l) (ha : 0 ≤ a) (hb : b ≤ l.length) (hl : l.length ≤ 2000) (hab : a ≤ 4000000) : ACalls Try.prog 141 [.agg [.sl r o l.length], I a, I b] st No (Pure1 (.bool (bd (Zer l a b))) st) := by
  refine ent (N := 20) Try.func141 rfl (by decide) rfl rfl rfl ?_
  refine crr (by kernel_rfl) rfl ?_   -- region 0
  refine c_seq ?_
  refine crr (by kernel_rfl) rfl ?_   -- region 1
  refine c_block ?_
  refine c_lp (α := Int) (fun i => [(2, I b), (7, I i)]) (fun _ => [(3, 3, [.sl r o l.length])]) (fun i st' => st = st' ∧ a ≤ i ∧ ∀ j : Int, a ≤ j → j < i → rd l j = 0) (fun i => (b - i).toNat) a ⟨rfl, rfl, trivial⟩ ⟨rfl, rfl, trivial⟩ ⟨rfl, Int.le_refl _, fun j h1 h2 => by omega⟩ ?_
  rintro i st' ⟨rfl, hi, hz⟩
  refine c_seq ?_
  refine crr (by kernel_rfl) rfl ?_   -- region 2
  refine c_if rfl (fun h11 => ?_) (fun h11 => ?_)
  · -- then
    have h11 := of_decide_eq_true h11
    refine c_skip ?_
    refine c_seq ?_
    refine c_block ?_
    refine c_rs (by kernel_rfl) ?_   -- region 4
    refine sr 3 rfl ?_
    refine s_op rfl (oidx rfl rfl rfl (by omega) (by omega) ?_)   -- 17 := indexAddr 22 (tmp 15) (tmp 16)
    refine s_op rfl (old rfl rfl (hx.rd (by omega) (by omega)) ?_)   -- 18 := load 3 (tmp 17)
    refine sra rfl ?_
    refine c_if rfl (fun h19 => ?_) (fun h19 => ?_)
    · -- then
      have h19 : rd l i ≠ 0 := by simpa using h19
      refine crr (by kernel_rfl) rfl ?_   -- region 5
      refine c_ret (fr rfl ⟨abd ?_, rfl⟩)
      exact ⟨fun h => (by cases h), fun h => absurd (h i hi h11) h19⟩
    · -- else
      have h19 : rd l i = 0 := by simpa using h19
      refine c_skip ?_
      refine c_region (by kernel_rfl) ?_   -- region 3
      refine sr 1 rfl ?_
      refine s_op rfl (o_ar rfl rfl rfl (by omega) (by omega) ?_)   -- 13 := binOp BinOp.add 3 (tmp 12) (const (Value.int IntKind.i64 1)) 3
      refine sra rfl ⟨i + 1, ⟨rfl, rfl, trivial⟩, ⟨rfl, rfl, trivial⟩, ⟨rfl, by omega, fun j h1 h2 => ?_⟩, by omega⟩
      by_cases e : j = i
      · rw [e]; exact h19
      · exact hz j h1 (by omega)
  · -- else
    have h11 := of_decide_eq_false h11
    refine c_exit ?_
    refine crr (by kernel_rfl) rfl ?_   -- region 6
    refine c_ret (fr rfl ⟨abd ?_, rfl⟩)
    exact ⟨fun _ j h1 h2 => hz j h1 (by omega), fun _ => rfl⟩
/-- A text that is right: at place a, of n words. -/
def Txt (l : List Int) (a n : Int) : Prop := (0 ≤ rd l (a + 1) ∧ rd l (a + 1) ≤ n - 2) ∧ Zer l (a + 2 + rd l (a + 1)) (a + n) ∧ ∀ i : Int, 0 ≤ i → i < rd l (a + 1) → 0 ≤ rd l (a + 2 + i) ∧ rd l (a + 2 + i) ≤ 255
theorem l3Text_c (r : Option Nat) (o : Nat) (l : List Int) (a n : Int) (st : St) (hx : At st r o l) (ha : 0 ≤ a) (hn : 2 ≤ n) (han : a + n ≤ l.length) (hl : l.length ≤ 2000) : ACalls Try.prog 139 [.agg [.sl r o l.length], I a, I n] st No (Pure1 (.bool (bd (Txt l a n))) st) := by
  refine ent (N := 47) Try.func139 rfl (by decide) rfl rfl rfl ?_
  refine crr (by kernel_rfl) rfl ?_   -- region 0
  refine c_rs (by kernel_rfl) ?_   -- region 1
  refine sr 3 rfl ?_
  refine s_op rfl (o_ar rfl rfl rfl (by omega) (by omega) ?_)   -- 12 := binOp BinOp.add 3 (tmp 11) (const (Value.int IntKind.i64 1)) 3
  refine s_op rfl (oidx rfl rfl rfl (by omega) (by omega) ?_)   -- 13 := indexAddr 22 (tmp 10) (tmp 12)
  refine s_op rfl (old rfl rfl (hx.rd (by omega) (by omega)) ?_)   -- 14 := load 3 (tmp 13)
  refine sra rfl ?_
  refine c_seq ?_
  refine c_rs (by kernel_rfl) ?_   -- region 2
  refine sr 2 rfl ?_
  refine s_op rfl (o_ar rfl rfl rfl (by omega) (by omega) ?_)   -- 17 := binOp BinOp.sub 3 (tmp 16) (const (Value.int IntKind.i64 2)) 3
  refine s_op rfl (o_pure loud_n rfl (l1In_c ..) ?_)
  refine sr 2 rfl ?_
  refine s_bool 20 rfl rfl (fun h20 => ?_) (fun h20 => ?_)
  · -- slot 20 true
    have h20 : ¬ (0 ≤ rd l (a + 1) ∧ rd l (a + 1) ≤ n - 2) := ndt h20
    refine sra rfl ?_
    refine c_if_t rfl ?_
    refine crr (by kernel_rfl) rfl ?_   -- region 3
    refine c_ret (fr rfl ⟨abd ?_, rfl⟩)
    exact ⟨fun h => (by cases h), fun h => absurd h.1 h20⟩
  · -- slot 20 false
    have h20 : 0 ≤ rd l (a + 1) ∧ rd l (a + 1) ≤ n - 2 := by simpa using h20
    refine sr 2 rfl ?_
    refine s_op rfl (o_ar rfl rfl rfl (by omega) (by omega) ?_)   -- 23 := binOp BinOp.add 3 (tmp 22) (const (Value.int IntKind.i64 2)) 3
    refine sr 1 rfl ?_
    refine s_op rfl (o_ar rfl rfl rfl (by omega) (by omega) ?_)   -- 25 := binOp BinOp.add 3 (tmp 23) (tmp 24) 3
    refine sr 2 rfl ?_
    refine s_op rfl (o_ar rfl rfl rfl (by omega) (by omega) ?_)   -- 28 := binOp BinOp.add 3 (tmp 26) (tmp 27) 3
    refine s_op rfl (o_pure loud_n rfl (l3Zero_c _ _ _ _ _ _ hx (by omega) (by omega) hl (by omega)) ?_)
    refine sra rfl ?_
    refine c_if rfl (fun h31 => ?_) (fun h31 => ?_)
    · -- then
      have h31 := bdf.1 (show bd (Zer l (a + 2 + rd l (a + 1)) (a + n)) = false by simpa using h31)
      refine crr (by kernel_rfl) rfl ?_   -- region 3
      refine c_ret (fr rfl ⟨abd ?_, rfl⟩)
      exact ⟨fun h => (by cases h), fun h => absurd h.2.1 h31⟩
    · -- else
      have h31 := bdt.1 (show bd (Zer l (a + 2 + rd l (a + 1)) (a + n)) = true by simpa using h31)
      refine c_skip ?_
      refine c_seq ?_
      refine crr (by kernel_rfl) rfl ?_   -- region 4
      refine c_block ?_
      refine c_lp (α := Int) (fun i => [(1, I a), (7, I (rd l (a + 1))), (8, I i)]) (fun _ => [(3, 3, [.sl r o l.length])]) (fun i st' => st = st' ∧ 0 ≤ i ∧ ∀ j : Int, 0 ≤ j → j < i → 0 ≤ rd l (a + 2 + j) ∧ rd l (a + 2 + j) ≤ 255) (fun i => (rd l (a + 1) - i).toNat) 0 ⟨rfl, rfl, rfl, trivial⟩ ⟨rfl, rfl, trivial⟩ ⟨rfl, Int.le_refl _, fun j h1 h2 => by omega⟩ ?_
      rintro i st' ⟨rfl, hi, hz⟩
      refine c_seq ?_
      refine crr (by kernel_rfl) rfl ?_   -- region 5
      refine c_if rfl (fun h34 => ?_) (fun h34 => ?_)
      · -- then
        have h34 := of_decide_eq_true h34
        refine c_skip ?_
        refine c_seq ?_
        refine c_block ?_
        refine c_rs (by kernel_rfl) ?_   -- region 7
        refine sr 3 rfl ?_
        refine s_op rfl (o_ar rfl rfl rfl (by omega) (by omega) ?_)   -- 40 := binOp BinOp.add 3 (tmp 39) (const (Value.int IntKind.i64 2)) 3
        refine sr 1 rfl ?_
        refine s_op rfl (o_ar rfl rfl rfl (by omega) (by omega) ?_)   -- 42 := binOp BinOp.add 3 (tmp 40) (tmp 41) 3
        refine s_op rfl (oidx rfl rfl rfl (by omega) (by omega) ?_)   -- 43 := indexAddr 22 (tmp 38) (tmp 42)
        refine s_op rfl (old rfl rfl (hx.rd (by omega) (by omega)) ?_)   -- 44 := load 3 (tmp 43)
        refine s_op rfl (o_pure loud_n rfl (l1In_c ..) ?_)
        refine sra rfl ?_
        refine c_if rfl (fun h46 => ?_) (fun h46 => ?_)
        · -- then
          have h46 : ¬ (0 ≤ rd l (a + 2 + i) ∧ rd l (a + 2 + i) ≤ 255) := ndt h46
          refine crr (by kernel_rfl) rfl ?_   -- region 8
          refine c_ret (fr rfl ⟨abd ?_, rfl⟩)
          exact ⟨fun h => (by cases h), fun h => absurd (h.2.2 i hi h34) h46⟩
        · -- else
          have h46 : 0 ≤ rd l (a + 2 + i) ∧ rd l (a + 2 + i) ≤ 255 := by simpa using h46
          refine c_skip ?_
          refine c_region (by kernel_rfl) ?_   -- region 6
          refine sr 1 rfl ?_
          refine s_op rfl (o_ar rfl rfl rfl (by omega) (by omega) ?_)   -- 36 := binOp BinOp.add 3 (tmp 35) (const (Value.int IntKind.i64 1)) 3
          refine sra rfl ⟨i + 1, ⟨rfl, rfl, rfl, trivial⟩, ⟨rfl, rfl, trivial⟩, ⟨rfl, by omega, fun j h1 h2 => ?_⟩, by omega⟩
          by_cases e : j = i
          · rw [e]; exact h46
          · exact hz j h1 (by omega)
      · -- else
        have h34 := of_decide_eq_false h34
        refine c_exit ?_
        refine crr (by kernel_rfl) rfl ?_   -- region 9
        refine c_ret (fr rfl ⟨abd ?_, rfl⟩)
        exact ⟨fun _ => ⟨h20, h31, fun j h1 h2 => hz j h1 (by omega)⟩, fun _ => rfl⟩
end Go.Proofs.YtfhkjhnaihhdmaaW.Ax
