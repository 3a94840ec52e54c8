/- Shapes of blocks in the reference, walked. -/
import Derived.Test.YtfhkjhnaihhdmaaYg
namespace Go.Proofs.YtfhkjhnaihhdmaaW.Ax
open Go Go.RowKit Go.Proofs Go.Proofs.Ytfhkjhnaihhdmaa.Pure
set_option linter.unusedVariables false
set_option maxRecDepth 100000

theorem rf_leads {l : List Int} {v k i b : Int} (hk : (k = 4 ∧ b = 1) ∨ (k = 5 ∧ b = 2) ∨ (k = 6 ∧ b = 4) ∨ (k = 7 ∧ b = i ∧ 0 ≤ i)) : Rf l v k b ↔ v % 8 = k ∧ Leads l v i := by
  constructor
  · intro h
    refine ⟨h.1, ?_⟩
    obtain ⟨a1, a2, a3, a4, a5⟩ := h.leads (by omega)
    refine ⟨a1, a2, a3, a4, fun h7 => ?_⟩
    have := a5 h7
    have := h.1
    omega
  · rintro ⟨h, a1, a2, a3, a4, a5⟩
    refine ⟨h, ?_⟩
    rcases hk with ⟨rfl, rfl⟩ | ⟨rfl, rfl⟩ | ⟨rfl, rfl⟩ | ⟨rfl, rfl, _⟩
    · exact a2 h
    · exact a3 h
    · exact a4 h
    · exact a5 h
theorem spl_zer {l : List Int} {a n m : Int} : Spl l a n m ↔ (m ≤ n ∧ n ≤ m + 1) ∧ Zer l (a + m) (a + n) := by
  constructor
  · rintro (h | ⟨h, h2⟩)
    · exact ⟨by omega, fun i h1 h2 => by omega⟩
    · exact ⟨by omega, fun i h3 h4 => by rw [show i = a + m by omega]; exact h2⟩
  · rintro ⟨h, h2⟩
    by_cases e : n = m
    · exact .inl e
    · exact .inr ⟨by omega, h2 _ (by omega) (by omega)⟩
theorem l3Shape_c (r : Option Nat) (o : Nat) (l : List Int) (a : Int) (st : St) (hx : At st r o l) (hok : okB l = true) (ha : a ∈ blocks l) : ACalls Try.prog 104 [.agg [.sl r o l.length], I a] st No (Pure1 (.bool (bd (Shp l a))) st) := by
  have hlen := okB_len hok
  obtain ⟨p, rfl, hp, hh⟩ := blocks_mem ha
  have hs := size_pos hh
  have hse := size_eq hh
  have hkd0 : rd l p % 8 = kindOf l p := rd_kind l p
  have hkk : 0 ≤ kindOf l p ∧ kindOf l p ≤ 5 := by have := hh.2.2; unfold kindOf; omega
  have hShp : Shp l p = ShpK l p (size l p) (kindOf l p) := by unfold Shp; rw [Int.toNat_natCast]
  rw [hShp]
  generalize hn : size l p = n at *
  generalize hkd : kindOf l p = kd at *
  refine ent (N := 190) Try.func104 rfl (by decide) rfl rfl rfl ?_
  refine crr (by kernel_rfl) rfl ?_   -- region 0
  refine c_rs (by kernel_rfl) ?_   -- region 1
  refine sr 3 rfl ?_
  refine s_op rfl (oidx rfl rfl rfl (by omega) (by omega) ?_)
  refine s_op rfl (old rfl rfl (hx.rd (by omega) (by omega)) ?_)
  refine s_op rfl (o_pure loud_n rfl (l2Size_c ..) ?_)
  rw [← hse]
  refine sra rfl ?_
  refine crr (by kernel_rfl) rfl ?_   -- region 2
  refine c_seq ?_
  refine c_rs (by kernel_rfl) ?_   -- region 3
  refine sr 2 rfl ?_
  refine s_op rfl (oidx rfl rfl rfl (by omega) (by omega) ?_)
  refine s_op rfl (old rfl rfl (hx.rd (by omega) (by omega)) ?_)
  refine s_op rfl (o_pure loud_n rfl (l2Kind_c ..) ?_)
  rw [hkd0]
  refine s_end ?_
  refine c_block ?_
  refine crr (by kernel_rfl) rfl ?_   -- region 4
  refine c_if rfl (fun h22 => ?_) (fun h22 => ?_)
  · have h22 := of_decide_eq_true h22
    refine c_rs (by kernel_rfl) ?_   -- region 5
    refine sr 3 rfl ?_
    refine s_op rfl (o_pure loud_n rfl (l3Text_c _ _ _ _ _ _ hx (by omega) (by omega) (by omega) hlen) ?_)
    refine sra rfl ?_
    refine c_ret (fr rfl ⟨abd ?_, rfl⟩)
    rw [bdt]
    exact ⟨fun h => ⟨fun _ => h, fun h => by omega, fun h => by omega, fun h => by omega, fun h => by omega⟩, fun h => h.1 h22⟩
  have h22 := of_decide_eq_false h22
  refine crr (by kernel_rfl) rfl ?_   -- region 6
  refine c_if rfl (fun h28 => ?_) (fun h28 => ?_)
  · have h28 := of_decide_eq_true h28
    have hG : ShpK l p n kd ↔ (Spl l p n 3 ∧ (rd l (p + 1) = 1 ∨ Rf l (rd l (p + 1)) 5 2)) ∧ Nxt l (rd l (p + 2)) 3 :=
      ⟨fun h => h.2.1 h28, fun h => ⟨fun e => by omega, fun _ => h, fun e => by omega, fun e => by omega, fun e => by omega⟩⟩
    rw [spl_zer, rf_leads (i := 0) (by omega)] at hG
    refine cds [0, 1, 2, 3, 4, 5, 6, 7, 8, 9, 10, 11, 12, 13, 14, 15, 16, 17, 18, 19, 20, 21, 22, 23, 24, 25, 26, 27, 28, 29, 30, 31, 32, 33, 34, 35, 36, 37, 38, 39, 40, 41, 42, 43, 44, 45, 46] [.q, .f, .q, .q, .q, .q, .q, .q, .q, .q, .q, .q, .q, .q, .q, .f, .q, .q, .q, .q, .q, .q, .q, .q, .f, .q, .q, .q, .q, .q, .q, .q, .q, .q, .q, .f, .q, .q, .q, .q, .q, .q, .q, .q, .f, .q, .q] (by kernel_rfl) (by kernel_rfl) ?_   -- region 7
    refine sr 1 rfl ?_
    refine s_op rfl (o_pure loud_f rfl (l1In_c ..) ?_)
    refine sr 1 rfl ?_
    refine s_bool 32 rfl rfl (fun h32 => ?_) (fun h32 => ?_)
    · have h32 := (of_decide_eq_true h32 : (3 : Int) ≤ n ∧ (n : Int) ≤ 4)
      refine sr 2 rfl ?_
      refine s_op rfl (o_ar rfl rfl rfl (by omega) (by omega) ?_)
      refine s_op rfl (oidx rfl rfl rfl (by omega) (by omega) ?_)
      refine s_op rfl (old rfl rfl (hx.rd (by omega) (by omega)) ?_)
      refine sr 2 rfl ?_
      refine s_bool 39 rfl rfl (fun h39 => ?_) (fun h39 => ?_)
      · have h39 := of_decide_eq_true h39
        refine sr 19 rfl ?_
        refine sr 3 rfl ?_
        refine s_op rfl (o_ar rfl rfl rfl (by omega) (by omega) ?_)
        refine s_op rfl (oidx rfl rfl rfl (by omega) (by omega) ?_)
        refine s_op rfl (old rfl rfl (hx.rd (by omega) (by omega)) ?_)
        refine s_op rfl (o_pure loud_f rfl (l3Next_c _ _ _ _ _ _ hx hok (by omega)) ?_)
        refine sr 2 rfl ?_
        refine s_bool 67 rfl rfl (fun h67 => ?_) (fun h67 => ?_)
        · have h67 := bdt.1 h67
          refine sr 2 rfl ?_
          refine s_op rfl (o_ar rfl rfl rfl (by omega) (by omega) ?_)
          refine sr 2 rfl ?_
          refine s_op rfl (o_ar rfl rfl rfl (by omega) (by omega) ?_)
          refine s_op rfl (o_pure loud_f rfl (l3Zero_c _ _ _ _ _ _ hx (by omega) (by omega) hlen (by omega)) ?_)
          refine sra rfl ?_
          refine c_ret (fr rfl ⟨abd ?_, rfl⟩)
          show bd _ = true ↔ _
          rw [bdt, hG]
          exact ⟨fun h => ⟨⟨⟨h32, h⟩, .inl h39⟩, h67⟩, fun h => h.1.1.2⟩
        · have h67 := bdf.1 h67
          refine sra rfl ?_
          refine c_ret (fr rfl ⟨abd ?_, rfl⟩)
          rw [hG]
          exact ⟨fun h => (by cases h), fun h => absurd (h.2) h67⟩
      · have h39 := of_decide_eq_false h39
        refine sr 2 rfl ?_
        refine s_op rfl (o_ar rfl rfl rfl (by omega) (by omega) ?_)
        refine s_op rfl (oidx rfl rfl rfl (by omega) (by omega) ?_)
        refine s_op rfl (old rfl rfl (hx.rd (by omega) (by omega)) ?_)
        refine s_op rfl (o_pure loud_f rfl (Kind_c ..) ?_)
        refine sr 2 rfl ?_
        refine s_bool 47 rfl rfl (fun h47 => ?_) (fun h47 => ?_)
        · have h47 := of_decide_eq_true h47
          refine sr 3 rfl ?_
          refine s_op rfl (o_ar rfl rfl rfl (by omega) (by omega) ?_)
          refine s_op rfl (oidx rfl rfl rfl (by omega) (by omega) ?_)
          refine s_op rfl (old rfl rfl (hx.rd (by omega) (by omega)) ?_)
          refine s_op rfl (o_pure loud_f rfl (l3Leads_c _ _ _ _ _ _ hx hok (by omega)) ?_)
          refine sr 4 rfl ?_
          refine s_bool 58 rfl rfl (fun h58 => ?_) (fun h58 => ?_)
          · have h58 : Leads l (rd l (p + 1)) 0 := bdt.1 h58
            refine sr 3 rfl ?_
            refine s_op rfl (o_ar rfl rfl rfl (by omega) (by omega) ?_)
            refine s_op rfl (oidx rfl rfl rfl (by omega) (by omega) ?_)
            refine s_op rfl (old rfl rfl (hx.rd (by omega) (by omega)) ?_)
            refine s_op rfl (o_pure loud_f rfl (l3Next_c _ _ _ _ _ _ hx hok (by omega)) ?_)
            refine sr 2 rfl ?_
            refine s_bool 67 rfl rfl (fun h67 => ?_) (fun h67 => ?_)
            · have h67 := bdt.1 h67
              refine sr 2 rfl ?_
              refine s_op rfl (o_ar rfl rfl rfl (by omega) (by omega) ?_)
              refine sr 2 rfl ?_
              refine s_op rfl (o_ar rfl rfl rfl (by omega) (by omega) ?_)
              refine s_op rfl (o_pure loud_f rfl (l3Zero_c _ _ _ _ _ _ hx (by omega) (by omega) hlen (by omega)) ?_)
              refine sra rfl ?_
              refine c_ret (fr rfl ⟨abd ?_, rfl⟩)
              show bd _ = true ↔ _
              rw [bdt, hG]
              exact ⟨fun h => ⟨⟨⟨h32, h⟩, .inr ⟨h47, h58⟩⟩, h67⟩, fun h => h.1.1.2⟩
            · have h67 := bdf.1 h67
              refine sra rfl ?_
              refine c_ret (fr rfl ⟨abd ?_, rfl⟩)
              rw [hG]
              exact ⟨fun h => (by cases h), fun h => absurd (h.2) h67⟩
          · have h58 : ¬ Leads l (rd l (p + 1)) 0 := bdf.1 h58
            refine sra rfl ?_
            refine c_ret (fr rfl ⟨abd ?_, rfl⟩)
            rw [hG]
            exact ⟨fun h => (by cases h), fun h => absurd ((h.1.2.resolve_left h39).2) h58⟩
        · have h47 := of_decide_eq_false h47
          refine sra rfl ?_
          refine c_ret (fr rfl ⟨abd ?_, rfl⟩)
          rw [hG]
          exact ⟨fun h => (by cases h), fun h => absurd ((h.1.2.resolve_left h39).1) h47⟩
    · have h32 := (of_decide_eq_false h32 : ¬ ((3 : Int) ≤ n ∧ (n : Int) ≤ 4))
      refine sra rfl ?_
      refine c_ret (fr rfl ⟨abd ?_, rfl⟩)
      rw [hG]
      exact ⟨fun h => (by cases h), fun h => absurd (h.1.1.1) h32⟩
  have h28 := of_decide_eq_false h28
  refine crr (by kernel_rfl) rfl ?_   -- region 8
  refine c_if rfl (fun h76 => ?_) (fun h76 => ?_)
  · have h76 := of_decide_eq_true h76
    have hG : ShpK l p n kd ↔ ((Spl l p n 4 ∧ Rf l (rd l (p + 1)) 4 1) ∧ Plain l (rd l (p + 2))) ∧ Nxt l (rd l (p + 3)) 3 :=
      ⟨fun h => h.2.2.1 h76, fun h => ⟨fun e => by omega, fun e => by omega, fun _ => h, fun e => by omega, fun e => by omega⟩⟩
    rw [spl_zer, rf_leads (i := 0) (by omega)] at hG
    refine cds [0, 1, 2, 3, 4, 5, 6, 7, 8, 9, 10, 11, 12, 13, 14, 15, 16, 17, 18, 19, 20, 21, 22, 23, 24, 25, 26, 27, 28, 29, 30, 31, 32, 33, 34, 35, 36, 37, 38, 39, 40, 41, 42, 43, 44, 45, 46, 47] [.q, .f, .q, .q, .q, .q, .q, .q, .f, .q, .q, .q, .q, .q, .q, .q, .q, .q, .f, .q, .q, .q, .q, .q, .q, .q, .q, .f, .q, .q, .q, .q, .q, .q, .q, .q, .f, .q, .q, .q, .q, .q, .q, .q, .q, .f, .q, .q] (by kernel_rfl) (by kernel_rfl) ?_   -- region 9
    refine sr 1 rfl ?_
    refine s_op rfl (o_pure loud_f rfl (l1In_c ..) ?_)
    refine sr 1 rfl ?_
    refine s_bool 80 rfl rfl (fun h80 => ?_) (fun h80 => ?_)
    · have h80 := (of_decide_eq_true h80 : (4 : Int) ≤ n ∧ (n : Int) ≤ 5)
      refine sr 2 rfl ?_
      refine s_op rfl (o_ar rfl rfl rfl (by omega) (by omega) ?_)
      refine s_op rfl (oidx rfl rfl rfl (by omega) (by omega) ?_)
      refine s_op rfl (old rfl rfl (hx.rd (by omega) (by omega)) ?_)
      refine s_op rfl (o_pure loud_f rfl (Kind_c ..) ?_)
      refine sr 3 rfl ?_
      refine s_bool 89 rfl rfl (fun h89 => ?_) (fun h89 => ?_)
      · have h89 := of_decide_eq_true h89
        refine sr 3 rfl ?_
        refine s_op rfl (o_ar rfl rfl rfl (by omega) (by omega) ?_)
        refine s_op rfl (oidx rfl rfl rfl (by omega) (by omega) ?_)
        refine s_op rfl (old rfl rfl (hx.rd (by omega) (by omega)) ?_)
        refine s_op rfl (o_pure loud_f rfl (l3Leads_c _ _ _ _ _ _ hx hok (by omega)) ?_)
        refine sr 2 rfl ?_
        refine s_bool 98 rfl rfl (fun h98 => ?_) (fun h98 => ?_)
        · have h98 := bdt.1 h98
          refine sr 3 rfl ?_
          refine s_op rfl (o_ar rfl rfl rfl (by omega) (by omega) ?_)
          refine s_op rfl (oidx rfl rfl rfl (by omega) (by omega) ?_)
          refine s_op rfl (old rfl rfl (hx.rd (by omega) (by omega)) ?_)
          refine s_op rfl (o_pure loud_f rfl (l3Plain_c _ _ _ _ _ hx hok) ?_)
          refine sr 2 rfl ?_
          refine s_bool 107 rfl rfl (fun h107 => ?_) (fun h107 => ?_)
          · have h107 := bdt.1 h107
            refine sr 3 rfl ?_
            refine s_op rfl (o_ar rfl rfl rfl (by omega) (by omega) ?_)
            refine s_op rfl (oidx rfl rfl rfl (by omega) (by omega) ?_)
            refine s_op rfl (old rfl rfl (hx.rd (by omega) (by omega)) ?_)
            refine s_op rfl (o_pure loud_f rfl (l3Next_c _ _ _ _ _ _ hx hok (by omega)) ?_)
            refine sr 2 rfl ?_
            refine s_bool 116 rfl rfl (fun h116 => ?_) (fun h116 => ?_)
            · have h116 := bdt.1 h116
              refine sr 2 rfl ?_
              refine s_op rfl (o_ar rfl rfl rfl (by omega) (by omega) ?_)
              refine sr 2 rfl ?_
              refine s_op rfl (o_ar rfl rfl rfl (by omega) (by omega) ?_)
              refine s_op rfl (o_pure loud_f rfl (l3Zero_c _ _ _ _ _ _ hx (by omega) (by omega) hlen (by omega)) ?_)
              refine sra rfl ?_
              refine c_ret (fr rfl ⟨abd ?_, rfl⟩)
              show bd _ = true ↔ _
              rw [bdt, hG]
              exact ⟨fun h => ⟨⟨⟨⟨h80, h⟩, h89, h98⟩, h107⟩, h116⟩, fun h => h.1.1.1.2⟩
            · have h116 := bdf.1 h116
              refine sra rfl ?_
              refine c_ret (fr rfl ⟨abd ?_, rfl⟩)
              rw [hG]
              exact ⟨fun h => (by cases h), fun h => absurd (h.2) h116⟩
          · have h107 := bdf.1 h107
            refine sra rfl ?_
            refine c_ret (fr rfl ⟨abd ?_, rfl⟩)
            rw [hG]
            exact ⟨fun h => (by cases h), fun h => absurd (h.1.2) h107⟩
        · have h98 := bdf.1 h98
          refine sra rfl ?_
          refine c_ret (fr rfl ⟨abd ?_, rfl⟩)
          rw [hG]
          exact ⟨fun h => (by cases h), fun h => absurd (h.1.1.2.2) h98⟩
      · have h89 := of_decide_eq_false h89
        refine sra rfl ?_
        refine c_ret (fr rfl ⟨abd ?_, rfl⟩)
        rw [hG]
        exact ⟨fun h => (by cases h), fun h => absurd (h.1.1.2.1) h89⟩
    · have h80 := (of_decide_eq_false h80 : ¬ ((4 : Int) ≤ n ∧ (n : Int) ≤ 5))
      refine sra rfl ?_
      refine c_ret (fr rfl ⟨abd ?_, rfl⟩)
      rw [hG]
      exact ⟨fun h => (by cases h), fun h => absurd (h.1.1.1.1) h80⟩
  have h76 := of_decide_eq_false h76
  refine crr (by kernel_rfl) rfl ?_   -- region 10
  refine c_if rfl (fun h125 => ?_) (fun h125 => ?_)
  · have h125 := of_decide_eq_true h125
    have hG : ShpK l p n kd ↔ (Spl l p n 3 ∧ (0 ≤ rd l (p + 1) ∧ rd l (p + 1) ≤ 99)) ∧ Rf l (rd l (p + 2)) 7 5 :=
      ⟨fun h => h.2.2.2.1 h125, fun h => ⟨fun e => by omega, fun e => by omega, fun e => by omega, fun _ => h, fun e => by omega⟩⟩
    rw [spl_zer, rf_leads (i := 5) (by omega)] at hG
    refine cds [0, 1, 2, 3, 4, 5, 6, 7, 8, 9, 10, 11, 12, 13, 14, 15, 16, 17, 18, 19, 20, 21, 22, 23, 24, 25, 26, 27, 28, 29, 30, 31, 32, 33, 34, 35, 36, 37] [.q, .f, .q, .q, .q, .q, .q, .q, .f, .q, .q, .q, .q, .q, .q, .q, .f, .q, .q, .q, .q, .q, .q, .q, .q, .q, .f, .q, .q, .q, .q, .q, .q, .q, .q, .f, .q, .q] (by kernel_rfl) (by kernel_rfl) ?_   -- region 11
    refine sr 1 rfl ?_
    refine s_op rfl (o_pure loud_f rfl (l1In_c ..) ?_)
    refine sr 1 rfl ?_
    refine s_bool 129 rfl rfl (fun h129 => ?_) (fun h129 => ?_)
    · have h129 := (of_decide_eq_true h129 : (3 : Int) ≤ n ∧ (n : Int) ≤ 4)
      refine sr 2 rfl ?_
      refine s_op rfl (o_ar rfl rfl rfl (by omega) (by omega) ?_)
      refine s_op rfl (oidx rfl rfl rfl (by omega) (by omega) ?_)
      refine s_op rfl (old rfl rfl (hx.rd (by omega) (by omega)) ?_)
      refine s_op rfl (o_pure loud_f rfl (l1In_c ..) ?_)
      refine sr 2 rfl ?_
      refine s_bool 137 rfl rfl (fun h137 => ?_) (fun h137 => ?_)
      · have h137 := of_decide_eq_true h137
        refine sr 2 rfl ?_
        refine s_op rfl (o_ar rfl rfl rfl (by omega) (by omega) ?_)
        refine s_op rfl (oidx rfl rfl rfl (by omega) (by omega) ?_)
        refine s_op rfl (old rfl rfl (hx.rd (by omega) (by omega)) ?_)
        refine s_op rfl (o_pure loud_f rfl (Kind_c ..) ?_)
        refine sr 3 rfl ?_
        refine s_bool 146 rfl rfl (fun h146 => ?_) (fun h146 => ?_)
        · have h146 := of_decide_eq_true h146
          refine sr 3 rfl ?_
          refine s_op rfl (o_ar rfl rfl rfl (by omega) (by omega) ?_)
          refine s_op rfl (oidx rfl rfl rfl (by omega) (by omega) ?_)
          refine s_op rfl (old rfl rfl (hx.rd (by omega) (by omega)) ?_)
          refine s_op rfl (o_pure loud_f rfl (l3Leads_c _ _ _ _ _ _ hx hok (by omega)) ?_)
          refine sr 2 rfl ?_
          refine s_bool 155 rfl rfl (fun h155 => ?_) (fun h155 => ?_)
          · have h155 := bdt.1 h155
            refine sr 2 rfl ?_
            refine s_op rfl (o_ar rfl rfl rfl (by omega) (by omega) ?_)
            refine sr 2 rfl ?_
            refine s_op rfl (o_ar rfl rfl rfl (by omega) (by omega) ?_)
            refine s_op rfl (o_pure loud_f rfl (l3Zero_c _ _ _ _ _ _ hx (by omega) (by omega) hlen (by omega)) ?_)
            refine sra rfl ?_
            refine c_ret (fr rfl ⟨abd ?_, rfl⟩)
            show bd _ = true ↔ _
            rw [bdt, hG]
            exact ⟨fun h => ⟨⟨⟨h129, h⟩, h137⟩, h146, h155⟩, fun h => h.1.1.2⟩
          · have h155 := bdf.1 h155
            refine sra rfl ?_
            refine c_ret (fr rfl ⟨abd ?_, rfl⟩)
            rw [hG]
            exact ⟨fun h => (by cases h), fun h => absurd (h.2.2) h155⟩
        · have h146 := of_decide_eq_false h146
          refine sra rfl ?_
          refine c_ret (fr rfl ⟨abd ?_, rfl⟩)
          rw [hG]
          exact ⟨fun h => (by cases h), fun h => absurd (h.2.1) h146⟩
      · have h137 := of_decide_eq_false h137
        refine sra rfl ?_
        refine c_ret (fr rfl ⟨abd ?_, rfl⟩)
        rw [hG]
        exact ⟨fun h => (by cases h), fun h => absurd (h.1.2) h137⟩
    · have h129 := (of_decide_eq_false h129 : ¬ ((3 : Int) ≤ n ∧ (n : Int) ≤ 4))
      refine sra rfl ?_
      refine c_ret (fr rfl ⟨abd ?_, rfl⟩)
      rw [hG]
      exact ⟨fun h => (by cases h), fun h => absurd (h.1.1.1) h129⟩
  have h125 := of_decide_eq_false h125
  refine crr (by kernel_rfl) rfl ?_   -- region 12
  refine c_if rfl (fun h164 => ?_) (fun h164 => ?_)
  · have h164 := of_decide_eq_true h164
    have hG : ShpK l p n kd ↔ Nxt l (rd l (p + 1)) 5 ∧ ∀ i : Int, 2 ≤ i → i < n → Plain l (rd l (p + i)) :=
      ⟨fun h => h.2.2.2.2 h164, fun h => ⟨fun e => by omega, fun e => by omega, fun e => by omega, fun e => by omega, fun _ => h⟩⟩
    refine cds [0, 1, 2, 3, 4, 5, 6, 7] [.q, .q, .q, .q, .q, .q, .f, .q] (by kernel_rfl) (by kernel_rfl) ?_   -- region 13
    refine sr 3 rfl ?_
    refine s_op rfl (o_ar rfl rfl rfl (by omega) (by omega) ?_)
    refine s_op rfl (oidx rfl rfl rfl (by omega) (by omega) ?_)
    refine s_op rfl (old rfl rfl (hx.rd (by omega) (by omega)) ?_)
    refine s_op rfl (o_pure loud_f rfl (l3Next_c _ _ _ _ _ _ hx hok (by omega)) ?_)
    refine sra rfl ?_
    refine c_seq ?_
    refine crr (by kernel_rfl) rfl ?_   -- region 14
    refine c_block ?_
    refine c_lp (α := Int) (fun i => [(1, I p), (5, I n), (6, .sl r o l.length), (7, .bool (bd (Nxt l (rd l (p + 1)) 5 ∧ ∀ j : Int, 2 ≤ j → j < i → Plain l (rd l (p + j))))), (8, I i)]) (fun _ => [(2, 2, [.sl r o l.length])]) (fun i st' => st = st' ∧ 2 ≤ i ∧ i ≤ n) (fun i => (n - i).toNat) 2 ⟨rfl, rfl, rfl, ?_, rfl, trivial⟩ ⟨rfl, rfl, trivial⟩ ⟨rfl, by omega, by omega⟩ ?_
    · exact abd (bdt.trans ⟨fun h => ⟨h, fun j h1 h2 => by omega⟩, fun h => h.1⟩)
    rintro i st' ⟨rfl, hi, hin⟩
    obtain ⟨Q, hQ⟩ : ∃ Q : Prop, Q = (Nxt l (rd l (p + 1)) 5 ∧ ∀ j : Int, 2 ≤ j → j < i → Plain l (rd l (p + j))) := ⟨_, rfl⟩
    rw [← hQ]
    refine c_seq ?_
    refine c_rj [(1, I p), (5, I n), (6, .sl r o l.length), (7, .bool (bd Q)), (8, I i), (178, .bool (bd (i < n ∧ Q)))] [(2, 2, [.sl r o l.length])] (by kernel_rfl) ?_ ?_   -- region 15
    · refine sr 4 rfl ?_
      refine s_bool 176 rfl rfl (fun h176 => ?_) (fun h176 => ?_)
      · have h176 := of_decide_eq_true h176
        refine sra rfl ⟨⟨rfl, rfl, rfl, rfl, rfl, ?_, trivial⟩, ⟨rfl, rfl, trivial⟩, rfl⟩
        exact abd (show bd Q = true ↔ _ from bdt.trans ⟨fun h => ⟨h176, h⟩, fun h => h.2⟩)
      · have h176 := of_decide_eq_false h176
        refine sra rfl ⟨⟨rfl, rfl, rfl, rfl, rfl, ?_, trivial⟩, ⟨rfl, rfl, trivial⟩, rfl⟩
        exact abd ⟨fun h => (by cases h), fun h => absurd h.1 h176⟩
    refine c_if rfl (fun h178 => ?_) (fun h178 => ?_)
    · have h178 := bdt.1 h178
      refine c_skip ?_
      refine c_seq ?_
      refine c_block ?_
      refine cd1 [0, 1, 2, 3, 4, 5, 6, 7, 8] [.q, .q, .q, .q, .q, .q, .q, .f, .q] (by kernel_rfl) (by kernel_rfl) ?_   -- region 17
      refine sr 4 rfl ?_
      refine s_op rfl (o_ar rfl rfl rfl (by omega) (by omega) ?_)
      refine s_op rfl (oidx rfl rfl rfl (by omega) (by omega) ?_)
      refine s_op rfl (old rfl rfl (hx.rd (by omega) (by omega)) ?_)
      refine s_op rfl (o_pure loud_f rfl (l3Plain_c _ _ _ _ _ hx hok) ?_)
      refine sra rfl ?_
      refine c_region (by kernel_rfl) ?_   -- region 16
      refine sr 1 rfl ?_
      refine s_op rfl (o_ar rfl rfl rfl (by omega) (by omega) ?_)
      refine sra rfl ⟨i + 1, ⟨rfl, rfl, rfl, ?_, rfl, trivial⟩, ⟨rfl, rfl, trivial⟩, ⟨rfl, by omega, by omega⟩, by omega⟩
      have h2 := h178.2
      rw [hQ] at h2
      refine abd (show bd _ = true ↔ _ from bdt.trans ⟨fun h => ⟨h2.1, fun j h3 h4 => ?_⟩, fun h => h.2 i hi (by omega)⟩)
      by_cases e : j = i
      · rw [e]; exact h
      · exact h2.2 j h3 (by omega)
    · have h178 := bdf.1 h178
      refine c_exit ?_
      refine crr (by kernel_rfl) rfl ?_   -- region 18
      refine c_ret (fr rfl ⟨?_, rfl⟩)
      refine abd (bdt.trans ?_)
      rw [hG]
      refine ⟨fun h => ?_, fun h => by rw [hQ]; exact ⟨h.1, fun j h3 h4 => h.2 j h3 (by omega)⟩⟩
      have : ¬ i < n := fun hc => h178 ⟨hc, h⟩
      rw [hQ] at h
      exact ⟨h.1, fun j h3 h4 => h.2 j h3 (by omega)⟩
  · have h164 := of_decide_eq_false h164
    refine c_skip ?_
    refine crr (by kernel_rfl) rfl ?_   -- region 19
    refine c_ret (fr rfl ⟨abd ⟨fun _ => ?_, fun _ => rfl⟩, rfl⟩)
    exact ⟨fun h => by omega, fun h => by omega, fun h => by omega, fun h => by omega, fun h => by omega⟩
end Go.Proofs.YtfhkjhnaihhdmaaW.Ax
