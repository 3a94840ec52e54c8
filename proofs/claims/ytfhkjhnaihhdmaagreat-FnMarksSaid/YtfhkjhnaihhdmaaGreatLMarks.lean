/- Markers that are drawn and go on (P8): the law, walked. -/
import Derived.Test.YtfhkjhnaihhdmaaGreatGm
import Derived.Test.YtfhkjhnaihhdmaaGreatZv
import Derived.Test.YtfhkjhnaihhdmaaGreatHa
namespace Go.Proofs.YtfhkjhnaihhdmaaGreatW.Ax
open Go Go.RowKit Go.Proofs Go.Proofs.YtfhkjhnaihhdmaaGreat.Pure
set_option linter.unusedVariables false
set_option maxRecDepth 100000

theorem ms_no {l : List Int} {p : Int} {g b : List Int} {q : Int} (n : Int) (h : ¬ (MkOk l p g b q ∧ p = 1)) : msQ l p g b q n = p ∧ msG l p g b q n = g ∧ msB l p g b q n = b := by
  unfold msQ msG msB; rw [bdf.2 h]; exact ⟨rfl, rfl, rfl⟩
theorem ms_go {l : List Int} {g b : List Int} {q : Int} (n : Int) (h : MkOk l 1 g b q) : msQ l 1 g b q n = phL (runM l n.toNat (g, b)).1 ∧ msG l 1 g b q n = (runM l n.toNat (g, b)).1 ∧ msB l 1 g b q n = (runM l n.toNat (g, b)).2 := by
  unfold msQ msG msB; rw [bdt.2 ⟨h, rfl⟩]; exact ⟨rfl, rfl, rfl⟩
theorem mk1 {l : List Int} {g b : List Int} {q : Int} (h : MkOk l 1 g b q) : Heap l ∧ Mem l g b ∧ q = 0 := by
  rcases h.2.2 with ⟨e, _⟩ | ⟨_, h1, h2⟩ | ⟨e, _⟩
  · cases e
  · exact ⟨h1, h.2.1, h2⟩
  · cases e
/-- What has gone on, and goes on to the end, comes to the end as at once. -/
theorem ms_on {l : List Int} {g b : List Int} (hp : Heap l) (hm : Mem l g b) (ht : ∀ c ∈ b, TriB l g b c) (n : Nat) :
    msQ l (phL (runM l n (g, b)).1) (runM l n (g, b)).1 (runM l n (g, b)).2 0 2000 = phL (runM l 2000 (g, b)).1 ∧ msG l (phL (runM l n (g, b)).1) (runM l n (g, b)).1 (runM l n (g, b)).2 0 2000 = (runM l 2000 (g, b)).1 ∧ msB l (phL (runM l n (g, b)).1) (runM l n (g, b)).1 (runM l n (g, b)).2 0 2000 = (runM l 2000 (g, b)).2 := by
  have hok := run_ok hp hm ht n
  have hs := runM_same hp hm n
  by_cases h1 : phL (runM l n (g, b)).1 = 1
  · rw [h1] at hok ⊢
    obtain ⟨a1, a2, a3⟩ := ms_go 2000 hok
    have e : runM l (2000 : Int).toNat ((runM l n (g, b)).1, (runM l n (g, b)).2) = runM l 2000 (g, b) := hs
    rw [a1, a2, a3, e]; exact ⟨rfl, rfl, rfl⟩
  · obtain ⟨a1, a2, a3⟩ := ms_no 2000 (fun h : MkOk l (phL (runM l n (g, b)).1) (runM l n (g, b)).1 (runM l n (g, b)).2 0 ∧ phL (runM l n (g, b)).1 = 1 => h1 h.2)
    have hg : (runM l n (g, b)).1 = [] := Classical.byContradiction fun h => h1 (by unfold phL; rw [if_neg h])
    rw [runM_fix hg] at hs
    rw [a1, a2, a3, hs]; exact ⟨rfl, rfl, rfl⟩
theorem FnMarks_c (r : Option Nat) (code : List Int) (st : St) (hx : AtB st r 0 code) (h8 : U8 code) (hm : code.length ≤ 9223372036854775807) (hr : ∀ j, r = some j → j < st.n) : ACalls Tryz.prog 4 [.sl r 0 code.length] st No (Pv (.bool true)) := by
  refine ent (N := 89) Tryz.func4 rfl (by decide) rfl rfl rfl ?_
  refine crr (by kernel_rfl) rfl ?_   -- region 0
  refine c_seq ?_
  refine c_rs (by kernel_rfl) ?_   -- region 1
  refine sr 1 rfl ?_
  refine s_op rfl (o_pure loud_n rfl (big_c ..) ?_)
  refine s_end ?_
  refine c_if rfl (fun h14 => ?_) (fun h14 => ?_)
  · refine crr (by kernel_rfl) rfl ?_   -- region 2
    exact c_ret (fr rfl rfl)
  have h14 := of_decide_eq_false h14
  refine c_skip ?_
  have hl : code.length ≤ 1048576 := by omega
  refine c_rs (by kernel_rfl) ?_   -- region 3
  refine sr 1 rfl ?_
  refine s_op rfl (o_ex loud_n rfl (DrawMarkStep_c r code _ hx h8 hl hr) ?_)
  rintro v1 st1 ⟨q, o, l, P, rg, G, rb, B, Q, n, rfl, M, hn⟩ e1
  replace hx := hx.ex e1
  replace hr : ∀ j, r = some j → j < st1.n := fun j h => Nat.lt_of_lt_of_le (hr j h) e1.n
  have hll := M.len
  have hlG := M.lG
  have hlB := M.lB
  have hml := ms_len l P G B Q n
  refine sra rfl ?_
  refine c_rs (by kernel_rfl) ?_   -- region 4
  refine sr 3 rfl ?_
  refine s_op rfl (o_ex loud_n rfl (iMarkStep_c P Q n q rg rb o l G B _ M.at_ (by omega) M.ag M.ab (by omega) (by omega) M.wQ hn) ?_)
  rintro v2 st2 ⟨g2, b2, rfl, hg2, hb2, _⟩ e2
  replace hx := hx.ex e2
  replace hr : ∀ j, r = some j → j < st2.n := fun j h => Nat.lt_of_lt_of_le (hr j h) e2.n
  have hag := hg2.at_
  have hab := hb2.at_
  clear hg2 hb2
  replace M := M.ex e2
  refine sra rfl ?_
  refine c_seq ?_
  refine cds [0, 1, 2, 3, 4, 5, 6, 7, 8, 9, 11, 12, 10, 13, 14, 15] [.q, .q, .q, .q, .f, .f, .q, .q, .q, .q, .q, .q, .f, .f, .q, .q] (by kernel_rfl) (by kernel_rfl) ?_   -- region 5
  refine sr 4 rfl ?_
  refine s_op rfl (o_ex loud_f rfl (MarkStep_c P Q n q rg rb o l G B _ M.at_ (by omega) M.ag M.ab (by omega) (by omega) hn) ?_)
  rintro v3 st3 ⟨g3, b3, rfl, hg3, hb3, _⟩ e3
  replace hx := hx.ex e3
  replace hr : ∀ j, r = some j → j < st3.n := fun j h => Nat.lt_of_lt_of_le (hr j h) e3.n
  replace hag := hag.ex e3
  replace hab := hab.ex e3
  replace M := M.ex e3
  refine s_op rfl (o_pure loud_f rfl (sameMarker_t _ _ _ _ _ _ _ _ _ _ _ _ _ hag hab hg3.at_ hb3.at_ (by omega) (by omega)) ?_)
  refine sr 6 rfl ?_
  refine s_op rfl (o_ex loud_f rfl (iMarkerOk_c P Q q rg rb o l G B _ M.at_ (by omega) M.ag M.ab (by omega) (by omega) M.wQ) ?_)
  rintro v4 st4 rfl e4
  replace hx := hx.ex e4
  replace hr : ∀ j, r = some j → j < st4.n := fun j h => Nat.lt_of_lt_of_le (hr j h) e4.n
  replace hag := hag.ex e4
  replace hab := hab.ex e4
  replace M := M.ex e4
  refine s_op rfl (o_ex loud_f rfl (MarkerOk_c P Q q rg rb o l G B _ M.at_ (by omega) M.ag M.ab (by omega) (by omega)) ?_)
  rintro v5 st5 rfl e5
  replace hx := hx.ex e5
  replace hr : ∀ j, r = some j → j < st5.n := fun j h => Nat.lt_of_lt_of_le (hr j h) e5.n
  replace hag := hag.ex e5
  replace hab := hab.ex e5
  replace M := M.ex e5
  refine s_op rfl (oneB rfl rfl rfl rfl ?_)
  refine sra rfl ?_
  refine c_if_f rfl ?_
  refine c_skip ?_
  refine c_rs (by kernel_rfl) ?_   -- region 7
  refine sr 1 rfl ?_
  refine s_op rfl (o_ex loud_n rfl (DrawTriOk_c r code _ hx h8 hl hr) ?_)
  rintro v6 st6 ⟨q6, o6, l6, P6, rg6, G6, rb6, B6, Q6, rfl, K⟩ e6
  replace hag := hag.ex e6
  replace hab := hab.ex e6
  replace M := M.ex e6
  have hl6 := K.len
  have hlG6 := K.lG
  have hlB6 := K.lB
  refine sra rfl ?_
  refine c_seq ?_
  refine cds [0, 1, 3, 4, 2, 5, 6] [.q, .q, .q, .q, .f, .f, .q] (by kernel_rfl) (by kernel_rfl) ?_   -- region 8
  refine sr 4 rfl ?_
  refine s_op rfl (o_ex loud_f rfl (iTriOk_c P6 Q6 q6 rg6 rb6 o6 l6 G6 B6 _ K.at_ (by omega) K.ag K.ab (by omega) (by omega) K.wQ) ?_)
  rintro v7 st7 rfl e7
  replace hag := hag.ex e7
  replace hab := hab.ex e7
  replace M := M.ex e7
  replace K := K.ex e7
  refine s_op rfl (o_ex loud_f rfl (TriOk_c P6 Q6 q6 rg6 rb6 o6 l6 G6 B6 _ K.at_ (by omega) K.ag K.ab (by omega) (by omega)) ?_)
  rintro v8 st8 rfl e8
  replace hag := hag.ex e8
  replace hab := hab.ex e8
  replace M := M.ex e8
  clear K
  refine s_op rfl (oneB rfl rfl rfl rfl ?_)
  refine sra rfl ?_
  refine c_if_f rfl ?_
  refine c_skip ?_
  refine c_seq ?_
  refine c_sj (α := Bool) (fun b => [(58, .bool b)]) (fun _ => [(3, 3, [.sl q o l.length]), (4, 4, [I P, .sl rg 0 G.length, .sl rb 0 B.length, I Q]), (6, 6, [I (msQ l P G B Q n), .sl g2 0 (msG l P G B Q n).length, .sl b2 0 (msB l P G B Q n).length, I Q])]) (fun b st' => Ex st8 st' ∧ (b = true ↔ ¬ (MkOk l P G B Q ∧ P = 1))) ?_ ?_
  · -- region 10
    refine c_region (by kernel_rfl) ?_
    refine sr 2 rfl ?_
    refine s_op rfl (o_ex loud_n rfl (MarkerOk_c P Q q rg rb o l G B _ M.at_ (by omega) M.ag M.ab (by omega) (by omega)) ?_)
    rintro v9 st9 rfl e9
    by_cases hk : MkOk l P G B Q
    · rw [bdt.2 hk]
      refine sra rfl ⟨_, ⟨rfl, trivial⟩, ⟨rfl, rfl, rfl, rfl, rfl, rfl, trivial⟩, e9, ?_⟩
      show (!decide (P = 1)) = true ↔ _
      by_cases hP : P = 1
      · simp [hP, hP ▸ hk]
      · simp [hP]
    · rw [bdf.2 hk]
      exact sra rfl ⟨true, ⟨rfl, trivial⟩, ⟨rfl, rfl, rfl, rfl, rfl, rfl, trivial⟩, e9, fun _ h => hk h.1, fun _ => rfl⟩
  rintro b st9 ⟨e9, hb9⟩
  replace hag := hag.ex e9
  replace hab := hab.ex e9
  replace M := M.ex e9
  refine c_if rfl (fun h58 => ?_) (fun h58 => ?_)
  · -- then
    obtain ⟨a1, a2, a3⟩ := ms_no n (hb9.1 h58)
    rw [a2] at hag
    rw [a3] at hab
    rw [a1, a2, a3]
    refine c_rs (by kernel_rfl) ?_   -- region 11
    refine sr 2 rfl ?_
    refine s_op rfl (o_pure loud_n rfl (sameMarker_t _ _ _ _ _ _ _ _ _ _ _ _ _ hag hab M.ag M.ab (by omega) (by omega)) ?_)
    refine sra rfl ?_
    exact c_ret (fr rfl rfl)
  · -- else
    have h58 : MkOk l P G B Q ∧ P = 1 := Classical.byContradiction fun h => by rw [hb9.2 h] at h58; cases h58
    obtain ⟨hk, rfl⟩ := h58
    obtain ⟨hp, hmem, rfl⟩ := mk1 hk
    refine c_skip ?_
    refine c_seq ?_
    refine c_rs (by kernel_rfl) ?_   -- region 12
    refine sr 2 rfl ?_
    refine s_op rfl (o_ex loud_n rfl (TriOk_c 1 0 q rg rb o l G B _ M.at_ (by omega) M.ag M.ab (by omega) (by omega)) ?_)
    rintro v10 st10 rfl e10
    replace hag := hag.ex e10
    replace hab := hab.ex e10
    replace M := M.ex e10
    refine sra rfl ?_
    refine c_if rfl (fun h65 => ?_) (fun h65 => ?_)
    · -- then
      refine crr (by kernel_rfl) rfl ?_   -- region 13
      exact c_ret (fr rfl rfl)
    · -- else
      have h65 := nbf h65
      have ht := h65.2 rfl
      obtain ⟨a1, a2, a3⟩ := ms_go n hk
      obtain ⟨c1, c2, c3⟩ := ms_go 2000 hk
      obtain ⟨d1, d2, d3⟩ := ms_on hp hmem ht n.toNat
      have hok := run_ok hp hmem ht n.toNat
      have hokA := run_ok hp hmem ht 2000
      have hend := runM_end hp 2000 G B hmem (by omega)
      have hrt := runM_tri n.toNat G B ht
      have hml2 := ms_len l 1 G B 0 2000
      have hmm := (runM_mem hp n.toNat G B hmem).len
      have hmmA := (runM_mem hp 2000 G B hmem).len
      rw [a2] at hag
      rw [a3] at hab
      rw [a1, a2, a3]
      refine c_skip ?_
      refine c_rs (by kernel_rfl) ?_   -- region 14
      refine sr 2 rfl ?_
      refine s_op rfl (o_ex loud_n rfl (iMarkStep_c 1 0 2000 q rg rb o l G B _ M.at_ (by omega) M.ag M.ab (by omega) (by omega) M.wQ (by unfold W1; omega)) ?_)
      rintro v11 st11 ⟨g11, b11, rfl, hg11, hb11, _⟩ e11
      rw [c2] at hg11
      rw [c3] at hb11
      rw [c1, c2, c3]
      have e2000 : (2000 : Int).toNat = 2000 := rfl
      rw [e2000] at hg11 hb11 ⊢
      replace hag := hag.ex e11
      replace hab := hab.ex e11
      replace M := M.ex e11
      have hcg := hg11.at_
      have hcb := hb11.at_
      clear hg11 hb11
      have hT : Tri l (phL (runM l n.toNat (G, B)).1) (runM l n.toNat (G, B)).1 (runM l n.toNat (G, B)).2 0 := ⟨hok, fun _ => hrt⟩
      have hph : phL (runM l 2000 (G, B)).1 = 2 := by unfold phL; rw [if_pos hend]
      refine sra rfl ?_
      refine c_sj (α := Unit) (fun _ => [(2, .bool true)]) (fun _ => []) (fun _ st' => True) ?_ ?_
      · -- region 15
        refine cd1 [0, 1, 2, 3, 4, 5, 7, 6, 8, 9, 10, 11, 12, 13, 14, 15, 16, 17, 18, 19, 20] [.q, .q, .f, .q, .q, .q, .q, .f, .f, .q, .q, .q, .q, .q, .q, .q, .q, .q, .f, .q, .q] (by kernel_rfl) (by kernel_rfl) ?_
        refine sr 2 rfl ?_
        refine s_op rfl (o_ex loud_f rfl (iTriOk_c _ 0 q g2 b2 o l _ _ _ M.at_ (by omega) hag hab (by omega) (by omega) M.wQ) ?_)
        rintro v12 st12 rfl e12
        rw [bdt.2 hT]
        replace hag := hag.ex e12
        replace hab := hab.ex e12
        replace hcg := hcg.ex e12
        replace hcb := hcb.ex e12
        replace M := M.ex e12
        refine sr 4 rfl ?_
        refine s_op rfl (o_ex loud_f rfl (iMarkStep_c _ 0 2000 q g2 b2 o l _ _ _ M.at_ (by omega) hag hab (by omega) (by omega) M.wQ (by unfold W1; omega)) ?_)
        rintro v13 st13 ⟨g13, b13, rfl, hg13, hb13, _⟩ e13
        rw [d2] at hg13
        rw [d3] at hb13
        rw [d1, d2, d3]
        replace hcg := hcg.ex e13
        replace hcb := hcb.ex e13
        replace M := M.ex e13
        refine s_op rfl (o_pure loud_f rfl (sameMarker_t _ _ _ _ _ _ _ _ _ _ _ _ _ hg13.at_ hb13.at_ hcg hcb (by omega) (by omega)) ?_)
        refine sr 4 rfl ?_
        refine s_op rfl (oeq rfl (.v (.bool true)) (bT hph) ?_)
        refine sr 4 rfl ?_
        refine s_op rfl (o_ex loud_f rfl (iMarkerOk_c _ 0 q g11 b11 o l _ _ _ M.at_ (by omega) hcg hcb (by omega) (by omega) M.wQ) ?_)
        rintro v14 st14 rfl e14
        rw [bdt.2 hokA]
        exact sra rfl ⟨(), ⟨rfl, trivial⟩, trivial, trivial⟩
      rintro _ _ _
      exact c_ret (fr rfl rfl)
end Go.Proofs.YtfhkjhnaihhdmaaGreatW.Ax
