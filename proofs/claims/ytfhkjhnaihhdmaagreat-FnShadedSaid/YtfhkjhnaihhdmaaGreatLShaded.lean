/- Values that are shaded, blocks that are fresh (P8): the law, walked. -/
import Derived.Test.YtfhkjhnaihhdmaaGreatGm
import Derived.Test.YtfhkjhnaihhdmaaGreatZs
import Derived.Test.YtfhkjhnaihhdmaaGreatHa
namespace Go.Proofs.YtfhkjhnaihhdmaaGreatW.Ax
open Go Go.RowKit Go.Proofs Go.Proofs.YtfhkjhnaihhdmaaGreat.Pure
set_option linter.unusedVariables false
set_option maxRecDepth 100000

theorem sh_no {l : List Int} {p : Int} {g b : List Int} {q : Int} (v : Int) (h : ¬ (MkOk l p g b q ∧ p = 1)) : shG l p g b q v = g := by
  unfold shG
  cases hk : bd (MkOk l p g b q) with
  | false => rfl
  | true =>
    have hp : p ≠ 1 := fun e => h ⟨bdt.1 hk, e⟩
    cases bd (Ld l v) with
    | false => rfl
    | true => show shd p g b v = g; unfold shd; rw [if_neg (fun hh => hp hh.1)]
theorem sh_ge (l : List Int) (p : Int) (g b : List Int) (q v : Int) : g.length ≤ (shG l p g b q v).length := by
  unfold shG
  cases bd (MkOk l p g b q) with
  | false => exact Nat.le_refl _
  | true =>
    cases bd (Ld l v) with
    | false => exact Nat.le_refl _
    | true => show g.length ≤ (shd p g b v).length; unfold shd; split <;> simp
theorem sh_ok {l : List Int} {g b : List Int} {q : Int} (v : Int) (h : MkOk l 1 g b q) : MkOk l 1 (shG l 1 g b q v) b q := by
  have hp : Heap l ∧ q = 0 := by
    rcases h.2.2 with ⟨e, _⟩ | ⟨_, h1, h2⟩ | ⟨e, _⟩
    · cases e
    · exact ⟨h1, h2⟩
    · cases e
  refine ⟨h.1, ?_, .inr (.inl ⟨rfl, hp.1, hp.2⟩)⟩
  unfold shG
  rw [bdt.2 h, cond_true]
  cases hl : bd (Ld l v) with
  | false => exact h.2.1
  | true =>
    refine h.2.1.shd ?_
    rcases (ld_leads.1 (bdt.1 hl)).2.2 with h1 | h1
    · exact h1.vb (by omega)
    · exact h1.vb (by omega)
theorem fr_rest (g b : List Int) (a : Int) : frB 0 g b a = b := by unfold frB; rw [if_neg (fun h => h.1 rfl)]
theorem fr_in {p : Int} {g b : List Int} {a : Int} (hp : p ≠ 0) (h : a ∉ frB p g b a) : a ∈ g := by
  refine Classical.byContradiction fun hg => ?_
  by_cases hb : a ∈ b
  · unfold frB at h; rw [if_neg (fun hh => hh.2.2 hb)] at h; exact h hb
  · unfold frB at h; rw [if_pos ⟨hp, hg, hb⟩] at h; exact h ((insA_perm b a).mem_iff.1 List.mem_cons_self)
theorem bNt {p : Prop} [Decidable p] (h : ¬ p) : RV.v (.bool (!decide p)) = .v (.bool true) := by rw [decide_eq_false h]; rfl
theorem FnShaded_c (r : Option Nat) (code : List Int) (st : St) (hx : AtB st r 0 code) (h8 : U8 code) (hm : code.length ≤ 9223372036854775807) (hr : ∀ j, r = some j → j < st.n) : ACalls Tryz.prog 3 [.sl r 0 code.length] st No (Pv (.bool true)) := by
  refine ent (N := 114) Tryz.func3 rfl (by decide) rfl rfl rfl ?_
  refine crr (by kernel_rfl) rfl ?_   -- region 0
  refine c_seq ?_
  refine c_rs (by kernel_rfl) ?_   -- region 1
  refine sr 1 rfl ?_
  refine s_op rfl (o_pure loud_n rfl (big_c ..) ?_)
  refine s_end ?_
  refine c_if rfl (fun h14 => ?_) (fun h14 => ?_)
  · refine crr (by kernel_rfl) rfl ?_   -- region 2
    exact c_ret (fr rfl rfl)
  have h14 := of_decide_eq_false h14
  refine c_skip ?_
  have hl : code.length ≤ 1048576 := by omega
  refine c_rs (by kernel_rfl) ?_   -- region 3
  refine sr 1 rfl ?_
  refine s_op rfl (o_ex loud_n rfl (DrawShade_c r code _ hx h8 hl hr) ?_)
  rintro v1 st1 ⟨q, o, l, P, rg, G, rb, B, Q, x, rfl, M, _⟩ e1
  replace hx := hx.ex e1
  replace hr : ∀ j, r = some j → j < st1.n := fun j h => Nat.lt_of_lt_of_le (hr j h) e1.n
  have hll := M.len
  have hlG := M.lG
  have hlB := M.lB
  have hsl := shG_len l P G B Q x
  have hsg := sh_ge l P G B Q x
  refine sra rfl ?_
  refine c_rs (by kernel_rfl) ?_   -- region 4
  refine sr 3 rfl ?_
  refine s_op rfl (o_ex loud_n rfl (iShade_c P Q x q rg rb o l G B _ M.at_ (by omega) M.ag M.ab (by omega) (by omega) M.wQ) ?_)
  rintro v2 st2 ⟨g2, b2, rfl, hg2, hb2, _⟩ e2
  replace hx := hx.ex e2
  replace hr : ∀ j, r = some j → j < st2.n := fun j h => Nat.lt_of_lt_of_le (hr j h) e2.n
  have hag := hg2.at_
  have hab := hb2.at_
  clear hg2 hb2
  replace M := M.ex e2
  refine sra rfl ?_
  refine c_seq ?_
  refine cds [0, 1, 2, 3, 4, 5, 6] [.q, .q, .q, .q, .f, .f, .q] (by kernel_rfl) (by kernel_rfl) ?_   -- region 5
  refine sr 4 rfl ?_
  refine s_op rfl (o_ex loud_f rfl (Shade_c P Q x q rg rb o l G B _ M.at_ (by omega) M.ag M.ab (by omega) (by omega)) ?_)
  rintro v3 st3 ⟨g3, b3, rfl, hg3, hb3, _⟩ e3
  replace hx := hx.ex e3
  replace hr : ∀ j, r = some j → j < st3.n := fun j h => Nat.lt_of_lt_of_le (hr j h) e3.n
  replace hag := hag.ex e3
  replace hab := hab.ex e3
  replace M := M.ex e3
  refine s_op rfl (o_pure loud_f rfl (sameMarker_t _ _ _ _ _ _ _ _ _ _ _ _ _ hag hab hg3.at_ hb3.at_ (by omega) (by omega)) ?_)
  refine sra rfl ?_
  refine c_if_f rfl ?_
  refine c_skip ?_
  refine c_rs (by kernel_rfl) ?_   -- region 7
  refine sr 1 rfl ?_
  refine s_op rfl (o_ex loud_n rfl (DrawFresh_c r code _ hx h8 hl hr) ?_)
  rintro v4 st4 ⟨q4, o4, l4, P4, rg4, G4, rb4, B4, Q4, a4, rfl, K⟩ e4
  replace hag := hag.ex e4
  replace hab := hab.ex e4
  replace M := M.ex e4
  have hlG4 := K.lG
  have hlB4 := K.lB
  have hfl := frB_len P4 G4 B4 a4
  refine sra rfl ?_
  refine c_rs (by kernel_rfl) ?_   -- region 8
  refine sr 2 rfl ?_
  refine s_op rfl (o_ex loud_n rfl (iFresh_c P4 Q4 a4 rg4 rb4 G4 B4 _ K.ag K.ab (by omega) (by omega)) ?_)
  rintro v5 st5 ⟨g5, b5, rfl, hg5, hb5, _⟩ e5
  replace hag := hag.ex e5
  replace hab := hab.ex e5
  replace M := M.ex e5
  replace K := K.ex e5
  have hkg := hg5.at_
  have hkb := hb5.at_
  clear hg5 hb5
  refine sra rfl ?_
  refine c_seq ?_
  refine c_sj (α := Unit) (fun _ => [(72, .bool false)]) (fun _ => [(3, 3, [.sl q o l.length]), (4, 4, [I P, .sl rg 0 G.length, .sl rb 0 B.length, I Q]), (6, 6, [I P, .sl g2 0 (shG l P G B Q x).length, .sl b2 0 B.length, I Q])]) (fun _ st' => Ex st5 st') ?_ ?_
  · -- region 9
    refine cd1 [0, 1, 2, 3, 4, 5, 6, 7, 8, 9, 10, 11, 12, 13, 14, 15, 16, 17, 18, 19, 20, 21, 22, 23, 24, 25, 26, 27, 28, 29, 30, 31, 32, 33, 34, 35] [.q, .q, .q, .f, .f, .q, .q, .q, .q, .q, .q, .q, .q, .q, .f, .q, .q, .q, .q, .q, .q, .f, .q, .q, .q, .q, .q, .q, .q, .q, .q, .q, .f, .q, .q, .q] (by kernel_rfl) (by kernel_rfl) ?_
    refine sr 3 rfl ?_
    refine s_op rfl (o_ex loud_f rfl (Fresh_c P4 Q4 a4 rg4 rb4 G4 B4 _ K.ag K.ab (by omega) (by omega)) ?_)
    rintro v6 st6 ⟨g6, b6, rfl, hg6, hb6, _⟩ e6
    replace hkg := hkg.ex e6
    replace hkb := hkb.ex e6
    replace K := K.ex e6
    refine s_op rfl (o_pure loud_f rfl (sameMarker_t _ _ _ _ _ _ _ _ _ _ _ _ _ hkg hkb hg6.at_ hb6.at_ (by omega) (by omega)) ?_)
    refine sr 4 rfl ?_
    by_cases hP : P4 = 0
    · refine s_op rfl (oeq rfl (.v (.bool false)) (bN hP) ?_)
      refine sr 18 rfl ?_
      refine s_op rfl (oeq rfl (.v (.bool true)) (bT hP) ?_)
      refine sr 3 rfl ?_
      have ef : frB P4 G4 B4 a4 = B4 := by rw [hP]; exact fr_rest G4 B4 a4
      rw [ef] at hkb ⊢
      refine s_op rfl (o_pure loud_f rfl (sameMarker_t _ _ _ _ _ _ _ _ _ _ _ _ _ hkg hkb K.ag K.ab (by omega) (by omega)) ?_)
      exact sra rfl ⟨(), ⟨rfl, trivial⟩, ⟨rfl, rfl, rfl, rfl, rfl, rfl, trivial⟩, e6⟩
    · refine s_op rfl (oeq rfl (.v (.bool true)) (bNt hP) ?_)
      refine sr 4 rfl ?_
      refine s_op rfl (o_pure loud_f rfl (lwithin_c _ _ _ _ _ hkb (by omega)) ?_)
      by_cases ha : a4 ∈ frB P4 G4 B4 a4
      · rw [bdt.2 ha]
        refine sr 13 rfl ?_
        refine s_op rfl (oeq rfl (.v (.bool false)) (bF hP) ?_)
        exact sra rfl ⟨(), ⟨rfl, trivial⟩, ⟨rfl, rfl, rfl, rfl, rfl, rfl, trivial⟩, e6⟩
      · rw [bdf.2 ha]
        refine sr 6 rfl ?_
        refine s_op rfl (o_pure loud_f rfl (lwithin_c _ _ _ _ _ hkg (by omega)) ?_)
        rw [bdt.2 (fr_in hP ha)]
        refine sr 6 rfl ?_
        refine s_op rfl (oeq rfl (.v (.bool false)) (bF hP) ?_)
        exact sra rfl ⟨(), ⟨rfl, trivial⟩, ⟨rfl, rfl, rfl, rfl, rfl, rfl, trivial⟩, e6⟩
  rintro _ st6 e6
  replace hag := hag.ex e6
  replace hab := hab.ex e6
  replace M := M.ex e6
  clear K hkg hkb
  refine c_if_f rfl ?_
  refine c_skip ?_
  refine c_seq ?_
  refine c_sj (α := Bool) (fun b => [(81, .bool b)]) (fun _ => [(3, 3, [.sl q o l.length]), (4, 4, [I P, .sl rg 0 G.length, .sl rb 0 B.length, I Q]), (6, 6, [I P, .sl g2 0 (shG l P G B Q x).length, .sl b2 0 B.length, I Q])]) (fun b st' => Ex st6 st' ∧ (b = true ↔ ¬ (MkOk l P G B Q ∧ P = 1))) ?_ ?_
  · -- region 11
    refine c_region (by kernel_rfl) ?_
    refine sr 2 rfl ?_
    refine s_op rfl (o_ex loud_n rfl (MarkerOk_c P Q q rg rb o l G B _ M.at_ (by omega) M.ag M.ab (by omega) (by omega)) ?_)
    rintro v9 st9 rfl e9
    by_cases hk : MkOk l P G B Q
    · rw [bdt.2 hk]
      refine sra rfl ⟨_, ⟨rfl, trivial⟩, ⟨rfl, rfl, rfl, rfl, rfl, rfl, trivial⟩, e9, ?_⟩
      show (!decide (P = 1)) = true ↔ _
      by_cases hP : P = 1
      · simp [hP, hP ▸ hk]
      · simp [hP]
    · rw [bdf.2 hk]
      exact sra rfl ⟨true, ⟨rfl, trivial⟩, ⟨rfl, rfl, rfl, rfl, rfl, rfl, trivial⟩, e9, fun _ h => hk h.1, fun _ => rfl⟩
  rintro b st9 ⟨e9, hb9⟩
  replace hag := hag.ex e9
  replace hab := hab.ex e9
  replace M := M.ex e9
  refine c_if rfl (fun h81 => ?_) (fun h81 => ?_)
  · -- then
    have e0 := sh_no x (hb9.1 h81)
    rw [e0] at hag ⊢
    refine c_rs (by kernel_rfl) ?_   -- region 12
    refine sr 2 rfl ?_
    refine s_op rfl (o_pure loud_n rfl (sameMarker_t _ _ _ _ _ _ _ _ _ _ _ _ _ hag hab M.ag M.ab (by omega) (by omega)) ?_)
    refine sra rfl ?_
    exact c_ret (fr rfl rfl)
  · -- else
    have h81 : MkOk l P G B Q ∧ P = 1 := Classical.byContradiction fun h => by rw [hb9.2 h] at h81; cases h81
    obtain ⟨hk, rfl⟩ := h81
    have hok := sh_ok x hk
    refine c_skip ?_
    generalize shG l 1 G B Q x = S at *
    refine c_sj (α := Unit) (fun _ => [(2, .bool true)]) (fun _ => []) (fun _ st' => True) ?_ ?_
    · refine c_region (by kernel_rfl) ?_   -- region 13
      refine sr 6 rfl ?_
      refine s_op rfl (oeq rfl (.v (.bool true)) (bT (by omega)) ?_)
      refine sr 7 rfl ?_
      refine s_op rfl (o_ar rfl rfl rfl (by omega) (by omega) ?_)
      refine s_op rfl (oeq rfl (.v (.bool true)) (bT (by omega)) ?_)
      refine sr 6 rfl ?_
      refine s_op rfl (o_pure loud_n rfl (sameInts_t _ _ _ _ _ _ hab M.ab (by omega)) ?_)
      refine sr 4 rfl ?_
      refine s_op rfl (o_ex loud_n rfl (iMarkerOk_c 1 Q q g2 b2 o l S B _ M.at_ (by omega) hag hab (by omega) (by omega) M.wQ) ?_)
      rintro v10 st10 rfl e10
      rw [bdt.2 hok]
      exact sra rfl ⟨(), ⟨rfl, trivial⟩, trivial, trivial⟩
    rintro _ _ _
    exact c_ret (fr rfl rfl)
end Go.Proofs.YtfhkjhnaihhdmaaGreatW.Ax
