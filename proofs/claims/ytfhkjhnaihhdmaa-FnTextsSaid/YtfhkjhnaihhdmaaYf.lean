/- What a value leads to, and texts, in the program: walked. -/
import Derived.Test.YtfhkjhnaihhdmaaYe
namespace Go.Proofs.YtfhkjhnaihhdmaaW.Ax
open Go Go.RowKit Go.Proofs Go.Proofs.Ytfhkjhnaihhdmaa.Pure
set_option linter.unusedVariables false
set_option maxRecDepth 100000

/-- The kinds of all places, as far as the first blocks tell. -/
def kl (l : List Int) (j : Nat) : List Int := (List.range l.length).map fun i : Nat => if (i : Int) ∈ (blocks l).take j then kindOf l i else -1
def kindsL (l : List Int) : List Int := (List.range l.length).map fun i : Nat => kat l i
theorem kl_len (l : List Int) (j : Nat) : (kl l j).length = l.length := by simp [kl]
theorem kindsL_len (l : List Int) : (kindsL l).length = l.length := by simp [kindsL]
theorem kl_all (l : List Int) (j : Nat) (h : (blocks l).length ≤ j) : kl l j = kindsL l := by
  unfold kl kindsL
  rw [List.take_of_length_le h]
  rfl
theorem kl_zero (l : List Int) : kl l 0 = List.replicate l.length (-1) := by
  apply List.ext_getElem
  · simp [kl]
  · intro i h1 h2; simp [kl]
theorem kl_set (l : List Int) (j b : Nat) (hj : j < (blocks l).length) (hb : rd (blocks l) j = b) : (kl l j).set b (kindOf l b) = kl l (j + 1) := by
  have hg : (blocks l)[j] = (b : Int) := by rw [← hb, rd_nat]; simp [List.getD, hj]
  apply List.ext_getElem
  · simp [kl]
  · intro i h1 h2
    have hi : i < l.length := by simpa [kl] using h2
    have ht : (blocks l).take (j + 1) = (blocks l).take j ++ [(b : Int)] := by rw [← hg]; simp
    rw [List.getElem_set]
    simp only [kl, List.getElem_map, List.getElem_range, ht, List.mem_append, List.mem_singleton]
    by_cases e : b = i
    · subst e; simp
    · have e' : ¬ ((i : Int) = b) := by omega
      simp [e, e']
theorem kindsL_rd (l : List Int) (i : Int) (h0 : 0 ≤ i) (h1 : i < l.length) : rd (kindsL l) i = kat l i := by
  obtain ⟨n, rfl⟩ : ∃ n : Nat, i = n := ⟨i.toNat, by omega⟩
  rw [rd_nat]
  have : n < l.length := by omega
  simp [kindsL, List.getD, this]
theorem ones_set (n i : Nat) (h : i < n) : (List.replicate i (-1 : Int) ++ List.replicate (n - i) 0).set i (-1) = List.replicate (i + 1) (-1) ++ List.replicate (n - (i + 1)) 0 := by
  rw [List.set_append, if_neg (by simp), show n - i = (n - (i + 1)) + 1 by omega, List.replicate_succ, List.replicate_succ']
  simp

theorem kinds_c (r : Option Nat) (o : Nat) (l : List Int) (st : St) (hx : At st r o l) (hl : l.length ≤ 2000) : ACalls Try.prog 100 [.agg [.sl r o l.length]] st No (Ro st (kindsL l)) := by
  refine ent (N := 38) Try.func100 rfl (by decide) rfl rfl rfl ?_
  refine crr (by kernel_rfl) rfl ?_   -- region 0
  refine c_rs (by kernel_rfl) ?_   -- region 1
  refine sr 3 rfl ?_
  refine s_op rfl (omkI loud_n rfl rfl rfl (by omega) (by omega) ?_)   -- 10 := makeSlice 22 (tmp 9) (tmp 9)
  refine sra rfl ?_
  refine c_seq ?_
  refine crr (by kernel_rfl) rfl ?_   -- region 2
  refine c_block ?_
  refine c_lp (α := Nat) (fun i => [(3, .sl (some st.n) 0 l.length), (12, I l.length), (13, I i)]) (fun _ => [(1, 1, [.sl r o l.length])]) (fun i st' => i ≤ l.length ∧ Ex st st' ∧ Fr st.n st' (some st.n) (List.replicate i (-1) ++ List.replicate (l.length - i) 0)) (fun i => l.length - i) 0 ⟨rfl, rfl, rfl, trivial⟩ ⟨rfl, rfl, trivial⟩
    ⟨by omega, ex_push _ _, by simpa using fr_push st (List.replicate l.length 0)⟩ ?_
  rintro i st1 ⟨hi, he, hf⟩
  refine crr (by kernel_rfl) rfl ?_   -- region 3
  refine c_seq ?_
  refine c_if rfl (fun h14 => ?_) (fun h14 => ?_)
  · -- then
    have h14 := of_decide_eq_true h14
    refine c_skip ?_
    refine c_seq ?_
    refine c_block ?_
    refine crr (by kernel_rfl) rfl ?_   -- region 4
    refine c_region (by kernel_rfl) ?_   -- region 5
    refine sr 2 rfl ?_
    refine s_op rfl (oidx rfl rfl rfl (by omega) (by omega) ?_)   -- 18 := indexAddr 22 (tmp 16) (tmp 17)
    refine s_op rfl (ostF rfl rfl hf rfl rfl (by simp; omega) fun st2 hf2 he2 => ?_)
    refine s_end ?_
    refine c_region (by kernel_rfl) ?_   -- region 6
    refine s_op rfl (o_ar rfl rfl rfl (by omega) (by omega) ?_)   -- 19 := binOp BinOp.add 3 (tmp 13) (const (Value.int IntKind.i64 1)) 3
    refine sra rfl ?_
    refine ⟨i + 1, ⟨rfl, rfl, rfl, trivial⟩, ⟨rfl, rfl, trivial⟩, ⟨by omega, he.own hf he2, ?_⟩, by omega⟩
    rw [← ones_set l.length i (by omega)]
    simpa using hf2
  · -- else
    have h14 := of_decide_eq_false h14
    have hi' : i = l.length := by omega
    subst hi'
    rw [Nat.sub_self, List.replicate_zero, List.append_nil, ← kl_zero] at hf
    refine c_exit ?_
    refine c_seq ?_
    refine c_rs (by kernel_rfl) ?_   -- region 7
    refine sr 1 rfl ?_
    refine s_op rfl (o_ex loud_n rfl (iBlocks_c _ _ _ _ (hx.ex he)) ?_)
    rintro v2 st2 ⟨p, rfl, hp⟩ e2
    refine sra rfl ?_
    refine c_block ?_
    have hbl := blocks_lel l
    refine c_lp (α := Nat) (fun i => [(3, .sl (some st.n) 0 l.length), (21, .sl p 0 (blocks l).length), (22, I (blocks l).length), (23, I i)]) (fun _ => [(1, 1, [.sl r o l.length])]) (fun j st' => j ≤ (blocks l).length ∧ Ex st st' ∧ At st' p 0 (blocks l) ∧ (∀ i, p = some i → st1.n ≤ i) ∧ Fr st.n st' (some st.n) (kl l j)) (fun j => (blocks l).length - j) 0 ⟨rfl, rfl, rfl, rfl, trivial⟩ ⟨rfl, rfl, trivial⟩
      ⟨by omega, he.tr e2, hp.at_, fun i hi => (hp.bd i hi).1, hf.ex e2⟩ ?_
    rintro j st3 ⟨hj, he3, hpa, hpb, hf3⟩
    refine crr (by kernel_rfl) rfl ?_   -- region 8
    refine c_seq ?_
    refine c_if rfl (fun h24 => ?_) (fun h24 => ?_)
    · -- then
      have h24 := of_decide_eq_true h24
      have hjl : j < (blocks l).length := by omega
      have hmem : rd (blocks l) j ∈ blocks l := by
        rw [rd_nat]; simp only [List.getD, List.getElem?_eq_getElem hjl, Option.getD_some]; exact List.getElem_mem hjl
      obtain ⟨b, hb1, hb2, hb3⟩ := blocks_mem hmem
      refine c_skip ?_
      refine c_seq ?_
      refine c_block ?_
      refine c_rs (by kernel_rfl) ?_   -- region 9
      refine s_op rfl (oidx rfl rfl rfl (by omega) (by omega) ?_)   -- 25 := indexAddr 22 (tmp 21) (tmp 23)
      refine s_op rfl (old rfl rfl (hpa.rd (by omega) (by omega)) ?_)   -- 26 := load 3 (tmp 25)
      rw [hb1]
      refine sra rfl ?_
      refine c_region (by kernel_rfl) ?_   -- region 10
      refine sr 5 rfl ?_
      refine s_op rfl (oidx rfl rfl rfl (by omega) (by omega) ?_)   -- 32 := indexAddr 22 (tmp 30) (tmp 31)
      refine s_op rfl (old rfl rfl ((hx.ex he3).rd (by omega) (by omega)) ?_)   -- 33 := load 3 (tmp 32)
      refine sr 1 rfl ?_
      refine s_op rfl (oidx rfl rfl rfl (by omega) (by omega) ?_)   -- 35 := indexAddr 22 (tmp 27) (tmp 28)
      refine s_op rfl (ostF rfl rfl hf3 rfl rfl (by rw [kl_len]; omega) fun st4 hf4 he4 => ?_)
      refine s_end ?_
      refine c_region (by kernel_rfl) ?_   -- region 11
      refine s_op rfl (o_ar rfl rfl rfl (by omega) (by omega) ?_)   -- 36 := binOp BinOp.add 3 (tmp 23) (const (Value.int IntKind.i64 1)) 3
      refine sra rfl ?_
      have hlt : st.n < st1.n := hf.ob.2.1
      refine ⟨j + 1, ⟨rfl, rfl, rfl, rfl, trivial⟩, ⟨rfl, rfl, trivial⟩, ⟨by omega, he3.own hf3 he4, hpa.ext he4 (fun i hi e => by have := hpb i hi; injection e with e; omega), hpb, ?_⟩, by omega⟩
      rw [← kl_set l j b hjl hb1]
      have e : rd l (b : Int) % 8 = kindOf l b := rd_kind l b
      rw [← e]
      simpa using hf4
    · -- else
      have h24 := of_decide_eq_false h24
      refine c_exit ?_
      refine crr (by kernel_rfl) rfl ?_   -- region 12
      rw [kl_all l j (by omega)] at hf3
      refine c_ret (fr rfl ⟨st.n, ?_, hf3⟩)
      rw [kindsL_len]
theorem leadsTo_c (r : Option Nat) (o n : Nat) (l : List Int) (v k b : Int) (st : St) (hx : At st r o (kindsL l)) (hl : l.length ≤ 2000) (hb : 0 ≤ b) (hn : n = l.length) : ACalls Try.prog 124 [.sl r o n, I v, I k, I b] st No (Pure1 (.bool (bd (Rf l v k b))) st) := by
  subst hn
  have hkl := kindsL_len l
  refine ent (N := 30) Try.func124 rfl (by decide) rfl rfl rfl ?_
  refine crr (by kernel_rfl) rfl ?_   -- region 0
  refine c_rs (by kernel_rfl) ?_   -- region 1
  refine sr 1 rfl ?_
  refine s_op rfl (o_pure loud_n rfl (iKind_c ..) ?_)
  refine sr 3 rfl ?_
  refine s_bool 13 rfl rfl (fun h13 => ?_) (fun h13 => ?_)
  · -- slot 13 true
    have h13 := of_decide_eq_true h13
    refine sr 1 rfl ?_
    refine s_op rfl (o_pure loud_n rfl (iNum_c ..) ?_)
    refine sr 2 rfl ?_
    refine s_op rfl (o_ar rfl rfl rfl (by omega) (by omega) ?_)   -- 18 := binOp BinOp.sub 3 (tmp 17) (const (Value.int IntKind.i64 1)) 3
    refine s_op rfl (o_pure loud_n rfl (within_c ..) ?_)
    refine sr 2 rfl ?_
    refine s_bool 21 rfl rfl (fun h21 => ?_) (fun h21 => ?_)
    · -- slot 21 true
      have h21 : 0 ≤ v / 8 ∧ v / 8 ≤ (l.length : Int) - 1 := of_decide_eq_true h21
      refine sr 2 rfl ?_
      refine s_op rfl (o_pure loud_n rfl (iNum_c ..) ?_)
      refine s_op rfl (oidx rfl rfl rfl (by omega) (by omega) ?_)   -- 25 := indexAddr 22 (tmp 22) (tmp 24)
      refine s_op rfl (old rfl rfl (hx.rd (by omega) (by omega)) ?_)   -- 26 := load 3 (tmp 25)
      rw [kindsL_rd l _ (by omega) (by omega)]
      refine sra rfl ?_
      refine c_ret (fr rfl ⟨abd ?_, rfl⟩)
      show decide _ = true ↔ _
      rw [decide_eq_true_eq]
      exact ⟨fun h => ⟨h13, h⟩, fun h => h.2⟩
    · -- slot 21 false
      have h21 : ¬ (0 ≤ v / 8 ∧ v / 8 ≤ (l.length : Int) - 1) := of_decide_eq_false h21
      refine sra rfl ?_
      refine c_ret (fr rfl ⟨abd ?_, rfl⟩)
      exact ⟨fun h => (by cases h), fun h => by have := kat_in hb h.2; omega⟩
  · -- slot 13 false
    have h13 := of_decide_eq_false h13
    refine sra rfl ?_
    refine c_ret (fr rfl ⟨abd ?_, rfl⟩)
    exact ⟨fun h => (by cases h), fun h => absurd h.1 h13⟩
theorem plainOk_c (r : Option Nat) (o n : Nat) (l : List Int) (v : Int) (st : St) (hx : At st r o (kindsL l)) (hl : l.length ≤ 2000) (hn : n = l.length) : ACalls Try.prog 137 [.sl r o n, I v] st No (Pure1 (.bool (bd (Plain l v))) st) := by
  refine ent (N := 29) Try.func137 rfl (by decide) rfl rfl rfl ?_
  refine crr (by kernel_rfl) rfl ?_   -- region 0
  refine c_seq ?_
  refine c_rs (by kernel_rfl) ?_   -- region 1
  refine sr 1 rfl ?_
  refine s_op rfl (o_pure loud_n rfl (iKind_c ..) ?_)
  refine s_end ?_
  refine c_block ?_
  have arm : ∀ k b : Int, (k = 4 ∧ b = 1) ∨ (k = 5 ∧ b = 2) ∨ (k = 6 ∧ b = 4) → v % 8 = k → (bd (Rf l v k b) = true ↔ Plain l v) := fun k b hkb hk => by
    rw [bdt]
    refine ⟨fun h => ⟨by omega, ?_⟩, fun h => ⟨hk, ?_⟩⟩
    · obtain ⟨a1, a2, a3, a4, a5⟩ := h.leads (by omega)
      exact ⟨a1, a2, a3, a4, fun h => by omega⟩
    · obtain ⟨a1, a2, a3, a4, a5⟩ := h.2
      rcases hkb with ⟨rfl, rfl⟩ | ⟨rfl, rfl⟩ | ⟨rfl, rfl⟩
      · exact a2 hk
      · exact a3 hk
      · exact a4 hk
  refine crr (by kernel_rfl) rfl ?_   -- region 2
  refine c_if rfl (fun h7 => ?_) (fun h7 => ?_)
  · -- then
    have h7 := of_decide_eq_true h7
    refine c_rs (by kernel_rfl) ?_   -- region 3
    refine sr 2 rfl ?_
    refine s_op rfl (o_pure loud_n rfl (leadsTo_c _ _ _ _ _ _ _ _ hx hl (by omega) hn) ?_)
    refine sra rfl ?_
    exact c_ret (fr rfl ⟨abd (arm _ _ (by omega) h7), rfl⟩)
  · -- else
    have h7 := of_decide_eq_false h7
    refine crr (by kernel_rfl) rfl ?_   -- region 4
    refine c_if rfl (fun h12 => ?_) (fun h12 => ?_)
    · -- then
      have h12 := of_decide_eq_true h12
      refine c_rs (by kernel_rfl) ?_   -- region 5
      refine sr 2 rfl ?_
      refine s_op rfl (o_pure loud_n rfl (leadsTo_c _ _ _ _ _ _ _ _ hx hl (by omega) hn) ?_)
      refine sra rfl ?_
      exact c_ret (fr rfl ⟨abd (arm _ _ (by omega) h12), rfl⟩)
    · -- else
      have h12 := of_decide_eq_false h12
      refine crr (by kernel_rfl) rfl ?_   -- region 6
      refine c_if rfl (fun h17 => ?_) (fun h17 => ?_)
      · -- then
        have h17 := of_decide_eq_true h17
        refine c_rs (by kernel_rfl) ?_   -- region 7
        refine sr 2 rfl ?_
        refine s_op rfl (o_pure loud_n rfl (leadsTo_c _ _ _ _ _ _ _ _ hx hl (by omega) hn) ?_)
        refine sra rfl ?_
        exact c_ret (fr rfl ⟨abd (arm _ _ (by omega) h17), rfl⟩)
      · -- else
        have h17 := of_decide_eq_false h17
        refine c_skip ?_
        refine c_rs (by kernel_rfl) ?_   -- region 8
        refine sr 1 rfl ?_
        refine s_op rfl (o_pure loud_n rfl (iKind_c ..) ?_)
        refine sr 2 rfl ?_
        refine s_bool 25 rfl rfl (fun h25 => ?_) (fun h25 => ?_)
        · -- slot 25 true
          have h25 := ndt h25
          refine sr 1 rfl ?_
          refine s_op rfl (o_pure loud_n rfl (iValueOk_c ..) ?_)
          refine sra rfl ?_
          refine c_ret (fr rfl ⟨abd ?_, rfl⟩)
          show bd (Vok v) = true ↔ _
          rw [bdt]
          exact ⟨fun h => ⟨h25, h, by omega, by omega, by omega, by omega⟩, fun h => h.2.1⟩
        · -- slot 25 false
          have h25 := ndf h25
          refine sra rfl ?_
          refine c_ret (fr rfl ⟨abd ?_, rfl⟩)
          exact ⟨fun h => (by cases h), fun h => absurd h25 h.1⟩
theorem textOk_c (r : Option Nat) (o : Nat) (w : List Int) (st : St) (hx : At st r o w) (h2 : 2 ≤ w.length) (hl : w.length ≤ 2000) : ACalls Try.prog 136 [.sl r o w.length] st No (Pure1 (.bool (bd (Txt w 0 w.length))) st) := by
  refine ent (N := 36) Try.func136 rfl (by decide) rfl rfl rfl ?_
  refine crr (by kernel_rfl) rfl ?_   -- region 0
  refine c_rs (by kernel_rfl) ?_   -- region 1
  refine sr 1 rfl ?_
  refine s_op rfl (oidx rfl rfl rfl (by omega) (by omega) ?_)   -- 7 := indexAddr 22 (tmp 6) (const (Value.int IntKind.i64 1))
  refine s_op rfl (old rfl rfl (hx.rd (by omega) (by omega)) ?_)   -- 8 := load 3 (tmp 7)
  refine sra rfl ?_
  refine c_seq ?_
  refine c_rs (by kernel_rfl) ?_   -- region 2
  refine sr 3 rfl ?_
  refine s_op rfl (o_ar rfl rfl rfl (by omega) (by omega) ?_)   -- 12 := binOp BinOp.sub 3 (tmp 11) (const (Value.int IntKind.i64 2)) 3
  refine s_op rfl (o_pure loud_n rfl (within_c ..) ?_)
  refine sra rfl ?_
  refine c_if rfl (fun h14 => ?_) (fun h14 => ?_)
  · -- then
    have h14 := ndt h14
    refine crr (by kernel_rfl) rfl ?_   -- region 3
    refine c_ret (fr rfl ⟨abd ?_, rfl⟩)
    exact ⟨fun h => (by cases h), fun h => absurd h.1 h14⟩
  · -- else
    have h14 := ndf h14
    refine c_skip ?_
    refine c_seq ?_
    refine c_rs (by kernel_rfl) ?_   -- region 4
    refine sr 1 rfl ?_
    have hr : ∃ q, r = some q := by
      cases r with
      | none => have := hx 0 (by omega); cases this
      | some q => exact ⟨q, rfl⟩
    obtain ⟨q, rfl⟩ := hr
    refine s_op rfl (oslice rfl rfl rfl rfl (by omega) (by omega) (by omega) ?_)   -- 16 := slice 22 (tmp 15) (some (const (Value.int IntKind.i64 2))) none none
    refine sra rfl ?_
    refine c_block ?_
    refine c_lp (α := Nat) (fun i => [(3, I (rd w 1)), (16, .sl (some q) (o + 2) (w.length - 2)), (17, I (w.length - 2 : Nat)), (18, I i)]) (fun _ => [])
      (fun i st' => st = st' ∧ i ≤ w.length - 2 ∧ ∀ j : Int, 0 ≤ j → j < i → 0 ≤ rd w (2 + j) ∧ rd w (2 + j) ≤ 255 ∧ (rd w 1 ≤ j → rd w (2 + j) = 0)) (fun i => w.length - i) 0 ⟨rfl, rfl, rfl, rfl, trivial⟩ trivial ⟨rfl, by omega, fun j h1 h2 => by omega⟩ ?_
    rintro i st' ⟨rfl, hi, hz⟩
    refine crr (by kernel_rfl) rfl ?_   -- region 5
    refine c_seq ?_
    refine c_if rfl (fun h19 => ?_) (fun h19 => ?_)
    · -- then
      have h19 := of_decide_eq_true h19
      refine c_skip ?_
      refine c_seq ?_
      refine c_block ?_
      refine c_rs (by kernel_rfl) ?_   -- region 6
      refine sr 1 rfl ?_
      refine s_op rfl (oidx rfl rfl rfl (by omega) (by omega) ?_)   -- 21 := indexAddr 22 (tmp 16) (tmp 18)
      have hc := hx.rd (i := 2 + (i : Int)) (by omega) (by omega)
      rw [show o + (2 + (i : Int)).toNat = o + 2 + (i : Int).toNat by omega] at hc
      refine s_op rfl (old rfl rfl hc ?_)   -- 22 := load 3 (tmp 21)
      refine sra rfl ?_
      refine c_rj [(3, I (rd w 1)), (16, .sl (some q) (o + 2) (w.length - 2)), (17, I (w.length - 2 : Nat)), (18, I i), (34, .bool (bd (¬ (0 ≤ rd w (2 + i) ∧ rd w (2 + i) ≤ 255 ∧ (rd w 1 ≤ i → rd w (2 + i) = 0)))))] [] (by kernel_rfl) ?_ ?_   -- region 7
      · refine sr 1 rfl ?_
        refine s_op rfl (o_pure loud_n rfl (within_c ..) ?_)
        refine sr 2 rfl ?_
        refine s_bool 26 rfl rfl (fun h26 => ?_) (fun h26 => ?_)
        · have h26 := ndt h26
          refine sra rfl ⟨⟨rfl, rfl, rfl, rfl, ?_, trivial⟩, trivial, rfl⟩
          exact abd ⟨fun _ h => h26 ⟨h.1, h.2.1⟩, fun _ => rfl⟩
        · have h26 := ndf h26
          refine sr 4 rfl ?_
          refine s_bool 30 rfl rfl (fun h30 => ?_) (fun h30 => ?_)
          · have h30 := of_decide_eq_true h30
            refine sra rfl ⟨⟨rfl, rfl, rfl, rfl, ?_, trivial⟩, trivial, rfl⟩
            refine abd ?_
            show (!decide _) = true ↔ _
            refine ⟨fun h hc => ndt h (hc.2.2 h30), fun h => ?_⟩
            simp only [Bool.not_eq_true', decide_eq_false_iff_not]
            exact fun e => h ⟨h26.1, h26.2, fun _ => e⟩
          · have h30 := of_decide_eq_false h30
            refine sra rfl ⟨⟨rfl, rfl, rfl, rfl, ?_, trivial⟩, trivial, rfl⟩
            refine abd ⟨fun h => (by cases h), fun h => absurd ⟨h26.1, h26.2, fun h => absurd h h30⟩ h⟩
      refine c_if rfl (fun h34 => ?_) (fun h34 => ?_)
      · -- then
        have h34 := bdt.1 h34
        refine crr (by kernel_rfl) rfl ?_   -- region 8
        refine c_ret (fr rfl ⟨abd ?_, rfl⟩)
        refine ⟨fun h => (by cases h), fun h => absurd ?_ h34⟩
        obtain ⟨h1, h2, h3⟩ := h
        rw [show (0 : Int) + 1 = 1 by rfl] at h1 h2 h3
        by_cases hc : rd w 1 ≤ (i : Int)
        · have := h2 (2 + i) (by omega) (by omega)
          rw [this]; exact ⟨by omega, by omega, fun _ => rfl⟩
        · have := h3 i (by omega) (by omega)
          rw [show (0 : Int) + 2 + i = 2 + i by omega] at this
          exact ⟨this.1, this.2, fun h => absurd h hc⟩
      · -- else
        have h34 := Classical.byContradiction fun h => bdf.1 h34 h
        refine c_skip ?_
        refine c_region (by kernel_rfl) ?_   -- region 9
        refine s_op rfl (o_ar rfl rfl rfl (by omega) (by omega) ?_)   -- 35 := binOp BinOp.add 3 (tmp 18) (const (Value.int IntKind.i64 1)) 3
        refine sra rfl ⟨i + 1, ⟨rfl, rfl, rfl, rfl, trivial⟩, trivial, ⟨rfl, by omega, fun j h1 h2 => ?_⟩, by omega⟩
        by_cases e : j = i
        · rw [e]; exact h34
        · exact hz j h1 (by omega)
    · -- else
      have h19 := of_decide_eq_false h19
      refine c_exit ?_
      refine crr (by kernel_rfl) rfl ?_   -- region 10
      refine c_ret (fr rfl ⟨abd ?_, rfl⟩)
      refine ⟨fun _ => ⟨h14, fun j h1 h2 => ?_, fun j h1 h2 => ?_⟩, fun _ => rfl⟩
      · have := hz (j - 2) (by simp at h1 h14; omega) (by omega)
        rw [show 2 + (j - 2) = j by omega] at this
        exact this.2.2 (by simp at h1; omega)
      · have := hz j h1 (by simp at h2 h14; omega)
        rw [show (0 : Int) + 2 + j = 2 + j by omega]
        exact ⟨this.1, this.2.1⟩
end Go.Proofs.YtfhkjhnaihhdmaaW.Ax
