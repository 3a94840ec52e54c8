/- Pieces of what markers ask for: Concat, IsSorted, kinds of any slab: walked. -/
import Derived.Test.YtmphklmhhcmbnaaZk
import Derived.Test.YtmphklmhhcmbnaaXU
namespace Go.Proofs.YtmphklmhhcmbnaaW.Ax
open Go Go.RowKit Go.Proofs Go.Proofs.Ytmphklmhhcmbnaa.Pure
set_option linter.unusedVariables false
set_option maxRecDepth 100000

theorem kindsB_c (r : Option Nat) (o : Nat) (l : List Int) (st : St) (hx : At st r o l) (hl : l.length ≤ 1048576) : ACalls Try.prog 45 [.agg [.sl r o l.length]] st No (Ro st (kindsL l)) := by
  refine ent (N := 38) Try.func45 rfl (by decide) rfl rfl rfl ?_
  refine crr (by kernel_rfl) rfl ?_   -- region 0
  refine c_rs (by kernel_rfl) ?_   -- region 1
  refine sr 3 rfl ?_
  refine s_op rfl (omkI loud_n rfl rfl rfl (by omega) (by omega) ?_)   -- 10 := makeSlice 22 (tmp 9) (tmp 9)
  refine sra rfl ?_
  refine c_seq ?_
  refine crr (by kernel_rfl) rfl ?_   -- region 2
  refine c_block ?_
  refine c_lp (α := Nat) (fun i => [(3, .sl (some st.n) 0 l.length), (12, I l.length), (13, I i)]) (fun _ => [(1, 1, [.sl r o l.length])]) (fun i st' => i ≤ l.length ∧ Ex st st' ∧ Fr st.n st' (some st.n) (List.replicate i (-1) ++ List.replicate (l.length - i) 0)) (fun i => l.length - i) 0 ⟨rfl, rfl, rfl, trivial⟩ ⟨rfl, rfl, trivial⟩
    ⟨by omega, ex_push _ _, by simpa using fr_push st (List.replicate l.length 0)⟩ ?_
  rintro i st1 ⟨hi, he, hf⟩
  refine crr (by kernel_rfl) rfl ?_   -- region 3
  refine c_seq ?_
  refine c_if rfl (fun h14 => ?_) (fun h14 => ?_)
  · -- then
    have h14 := of_decide_eq_true h14
    refine c_skip ?_
    refine c_seq ?_
    refine c_block ?_
    refine crr (by kernel_rfl) rfl ?_   -- region 4
    refine c_region (by kernel_rfl) ?_   -- region 5
    refine sr 2 rfl ?_
    refine s_op rfl (oidx rfl rfl rfl (by omega) (by omega) ?_)   -- 18 := indexAddr 22 (tmp 16) (tmp 17)
    refine s_op rfl (ostF rfl rfl hf rfl rfl (by simp; omega) fun st2 hf2 he2 => ?_)
    refine s_end ?_
    refine c_region (by kernel_rfl) ?_   -- region 6
    refine s_op rfl (o_ar rfl rfl rfl (by omega) (by omega) ?_)   -- 19 := binOp BinOp.add 3 (tmp 13) (const (Value.int IntKind.i64 1)) 3
    refine sra rfl ?_
    refine ⟨i + 1, ⟨rfl, rfl, rfl, trivial⟩, ⟨rfl, rfl, trivial⟩, ⟨by omega, he.own hf he2, ?_⟩, by omega⟩
    rw [← ones_set l.length i (by omega)]
    simpa using hf2
  · -- else
    have h14 := of_decide_eq_false h14
    have hi' : i = l.length := by omega
    subst hi'
    rw [Nat.sub_self, List.replicate_zero, List.append_nil, ← kl_zero] at hf
    refine c_exit ?_
    refine c_seq ?_
    refine c_rs (by kernel_rfl) ?_   -- region 7
    refine sr 1 rfl ?_
    refine s_op rfl (o_ex loud_n rfl (iBlocks_c _ _ _ _ (hx.ex he)) ?_)
    rintro v2 st2 ⟨p, rfl, hp⟩ e2
    refine sra rfl ?_
    refine c_block ?_
    have hbl := blocks_lel l
    refine c_lp (α := Nat) (fun i => [(3, .sl (some st.n) 0 l.length), (21, .sl p 0 (blocks l).length), (22, I (blocks l).length), (23, I i)]) (fun _ => [(1, 1, [.sl r o l.length])]) (fun j st' => j ≤ (blocks l).length ∧ Ex st st' ∧ At st' p 0 (blocks l) ∧ (∀ i, p = some i → st1.n ≤ i) ∧ Fr st.n st' (some st.n) (kl l j)) (fun j => (blocks l).length - j) 0 ⟨rfl, rfl, rfl, rfl, trivial⟩ ⟨rfl, rfl, trivial⟩
      ⟨by omega, he.tr e2, hp.at_, fun i hi => (hp.bd i hi).1, hf.ex e2⟩ ?_
    rintro j st3 ⟨hj, he3, hpa, hpb, hf3⟩
    refine crr (by kernel_rfl) rfl ?_   -- region 8
    refine c_seq ?_
    refine c_if rfl (fun h24 => ?_) (fun h24 => ?_)
    · -- then
      have h24 := of_decide_eq_true h24
      have hjl : j < (blocks l).length := by omega
      have hmem : rd (blocks l) j ∈ blocks l := by
        rw [rd_nat]; simp only [List.getD, List.getElem?_eq_getElem hjl, Option.getD_some]; exact List.getElem_mem hjl
      obtain ⟨b, hb1, hb2, hb3⟩ := blocks_mem hmem
      refine c_skip ?_
      refine c_seq ?_
      refine c_block ?_
      refine c_rs (by kernel_rfl) ?_   -- region 9
      refine s_op rfl (oidx rfl rfl rfl (by omega) (by omega) ?_)   -- 25 := indexAddr 22 (tmp 21) (tmp 23)
      refine s_op rfl (old rfl rfl (hpa.rd (by omega) (by omega)) ?_)   -- 26 := load 3 (tmp 25)
      rw [hb1]
      refine sra rfl ?_
      refine c_region (by kernel_rfl) ?_   -- region 10
      refine sr 5 rfl ?_
      refine s_op rfl (oidx rfl rfl rfl (by omega) (by omega) ?_)   -- 32 := indexAddr 22 (tmp 30) (tmp 31)
      refine s_op rfl (old rfl rfl ((hx.ex he3).rd (by omega) (by omega)) ?_)   -- 33 := load 3 (tmp 32)
      refine sr 1 rfl ?_
      refine s_op rfl (oidx rfl rfl rfl (by omega) (by omega) ?_)   -- 35 := indexAddr 22 (tmp 27) (tmp 28)
      refine s_op rfl (ostF rfl rfl hf3 rfl rfl (by rw [kl_len]; omega) fun st4 hf4 he4 => ?_)
      refine s_end ?_
      refine c_region (by kernel_rfl) ?_   -- region 11
      refine s_op rfl (o_ar rfl rfl rfl (by omega) (by omega) ?_)   -- 36 := binOp BinOp.add 3 (tmp 23) (const (Value.int IntKind.i64 1)) 3
      refine sra rfl ?_
      have hlt : st.n < st1.n := hf.ob.2.1
      refine ⟨j + 1, ⟨rfl, rfl, rfl, rfl, trivial⟩, ⟨rfl, rfl, trivial⟩, ⟨by omega, he3.own hf3 he4, hpa.ext he4 (fun i hi e => by have := hpb i hi; injection e with e; omega), hpb, ?_⟩, by omega⟩
      rw [← kl_set l j b hjl hb1]
      have e : rd l (b : Int) % 8 = kindOf l b := rd_kind l b
      rw [← e]
      simpa using hf4
    · -- else
      have h24 := of_decide_eq_false h24
      refine c_exit ?_
      refine crr (by kernel_rfl) rfl ?_   -- region 12
      rw [kl_all l j (by omega)] at hf3
      refine c_ret (fr rfl ⟨st.n, ?_, hf3⟩)
      rw [kindsL_len]
theorem jSlabOk_c (r : Option Nat) (o : Nat) (l : List Int) (st : St) (hx : At st r o l) : ACalls Try.prog 59 [.agg [.sl r o l.length]] st No (Pv (.bool (okB l))) := by
  refine ent (N := 11) Try.func59 rfl (by decide) rfl rfl rfl ?_
  refine crr (by kernel_rfl) rfl ?_   -- region 0
  refine c_rs (by kernel_rfl) ?_   -- region 1
  refine sr 1 rfl ?_
  refine s_op rfl (o_ex loud_n rfl (places_c _ _ _ _ hx) ?_)
  rintro v1 st1 ⟨q, rfl, hf⟩ e1
  refine sra rfl ?_
  refine crr (by kernel_rfl) rfl ?_   -- region 2
  exact c_ret (fr rfl rfl)
/-- An empty slice with room. -/
def Em (st : St) : AV → St → Prop := fun v st' => ∃ r, v = .sl r 0 0 ∧ Fr st.n st' r []
theorem Grow_c (n : Nat) (st : St) (hn : n ≤ 1073741824) : ACalls Try.prog 119 [.sl none 0 0, I n] st No (Em st) := by
  refine ent (N := 27) Try.func119 rfl (by decide) rfl rfl rfl ?_
  refine crr (by kernel_rfl) rfl ?_   -- region 0
  refine c_seq ?_
  refine crr (by kernel_rfl) rfl ?_   -- region 1
  refine c_if rfl (fun h6 => by have := of_decide_eq_true h6; omega) (fun h6 => ?_)
  refine c_skip ?_
  refine c_seq ?_
  refine c_rs (by kernel_rfl) ?_   -- region 3
  refine sr 2 rfl ?_
  refine s_op rfl (ocapN rfl rfl rfl ?_)
  refine sr 2 rfl ?_
  refine s_op rfl (o_ar rfl rfl rfl (by simp) (by simp) ?_)
  refine s_op rfl (o_ar rfl rfl rfl (by simp <;> omega) (by simp <;> omega) ?_)
  refine sra rfl ?_
  refine crr (by kernel_rfl) rfl ?_   -- region 4
  have e0 : (n : Int) - (0 - ((0 : Nat) : Int)) = n := by omega
  rw [e0]
  refine c_if rfl (fun h16 => ?_) (fun h16 => ?_)
  · have h16 := of_decide_eq_true h16
    refine c_region (by kernel_rfl) ?_   -- region 5
    refine sr 2 rfl ?_
    refine s_op rfl (ocapN rfl rfl rfl ?_)
    refine s_op rfl (oslice rfl rfl rfl rfl (by omega) (by omega) (by omega) ?_)
    refine sr 1 rfl ?_
    refine s_op rfl (oappZ loud_n rfl rfl rfl rfl rfl h16 (by omega) ?_)
    have hf := fr_push st (List.replicate (n : Int).toNat 0)
    have he := ex_push st (.row true ((List.replicate (n : Int).toNat 0).map I))
    generalize hst : st.push (.row true ((List.replicate (n : Int).toNat 0).map I)) = st1 at hf he ⊢
    have hn1 := he.n
    refine sr 2 rfl ?_
    refine s_op rfl (orecut rfl rfl rfl rfl (Int.le_refl _) (Int.le_refl _) (by omega) (by simp) hf hn1 (fun h => absurd h (by omega)) fun r2 st2 hf2 hr2 he2 => ?_)
    refine sra rfl ?_
    refine crr (by kernel_rfl) rfl ?_   -- region 6
    refine c_ret (fr rfl ⟨some r2, ?_, ?_⟩)
    · simp
    · simpa using hf2
  · refine c_skip ?_
    refine crr (by kernel_rfl) rfl ?_   -- region 6
    exact c_ret (fr rfl ⟨none, rfl, fr_nil _ _⟩)
/-- A row of rows. -/
def Rows (st : St) (b : Nat) (X : List (List Int)) : Prop := ∀ i : Nat, i < X.length → ∃ r, cell st (some b) i = some (.sl r 0 (X.getD i []).length) ∧ At st r 0 (X.getD i [])
theorem At.bd {st : St} {r : Option Nat} {o : Nat} {l : List Int} (h : At st r o l) (hl : l ≠ []) : ∀ i, r = some i → i < st.n := fun i hi => by
  have := h 0 (by cases l with | nil => exact absurd rfl hl | cons x l => simp)
  exact cell_lt this hi
theorem take_flat (X : List (List Int)) (i : Nat) (h : i < X.length) : (X.take (i + 1)).flatten = (X.take i).flatten ++ X.getD i [] := by
  have : X.take (i + 1) = X.take i ++ [X.getD i []] := by
    rw [List.take_add_one]; simp [h]
  rw [this]; simp
theorem take_flat_le (X : List (List Int)) (i : Nat) : (X.take i).flatten.length ≤ X.flatten.length := by
  have : X.flatten = (X.take i).flatten ++ (X.drop i).flatten := by rw [← List.flatten_append, List.take_append_drop]
  rw [this]; simp
theorem Concat_c (b : Nat) (X : List (List Int)) (st : St) (hX : Rows st b X) (hl : X.length ≤ 1000) (ht : X.flatten.length ≤ 1073741824) : ACalls Try.prog 92 [.sl (some b) 0 X.length] st No (Rn st X.flatten) := by
  refine ent (N := 36) Try.func92 rfl (by decide) rfl rfl rfl ?_
  refine crr (by kernel_rfl) rfl ?_   -- region 0
  refine crr (by kernel_rfl) rfl ?_   -- region 1
  refine c_seq ?_
  refine crr (by kernel_rfl) rfl ?_   -- region 2
  refine c_block ?_
  refine c_lp (α := Nat) (fun i => [(0, .sl (some b) 0 X.length), (3, I (X.take i).flatten.length), (9, .sl (some b) 0 X.length), (10, I X.length), (11, I i)]) (fun _ => []) (fun i st' => st = st' ∧ i ≤ X.length) (fun i => X.length - i) 0 ⟨rfl, rfl, rfl, rfl, rfl, trivial⟩ trivial ⟨rfl, Nat.zero_le _⟩ ?_
  rintro i st1 ⟨rfl, hi⟩
  have hfl := take_flat_le X i
  refine crr (by kernel_rfl) rfl ?_   -- region 3
  refine c_seq ?_
  refine c_if rfl (fun h12 => ?_) (fun h12 => ?_)
  · have h12 := of_decide_eq_true h12
    obtain ⟨ri, hc, hai⟩ := hX i (by omega)
    refine c_skip ?_
    refine c_seq ?_
    refine c_block ?_
    refine c_rs (by kernel_rfl) ?_   -- region 4
    refine s_op rfl (oidx rfl rfl rfl (by omega) (by omega) ?_)
    refine s_op rfl (old rfl rfl (by rw [Nat.zero_add]; exact hc) ?_)
    refine sra rfl ?_
    have hfl1 := take_flat_le X (i + 1)
    have htf := take_flat X i (by omega)
    rw [htf, List.length_append] at hfl1
    refine c_rs (by kernel_rfl) ?_   -- region 5
    refine sr 3 rfl ?_
    refine s_op rfl (o_ar rfl rfl rfl (by omega) (by omega) ?_)
    refine sra rfl ?_
    refine crr (by kernel_rfl) rfl ?_   -- region 6
    refine c_if rfl (fun h20 => by have := of_decide_eq_true h20; omega) (fun h20 => ?_)
    refine c_skip ?_
    refine c_region (by kernel_rfl) ?_   -- region 8
    refine s_op rfl (o_ar rfl rfl rfl (by omega) (by omega) ?_)
    refine sra rfl ?_
    refine ⟨i + 1, ⟨rfl, ?_, rfl, rfl, rfl, trivial⟩, trivial, ⟨rfl, by omega⟩, by omega⟩
    show AV.int .i64 _ = AV.int .i64 _
    rw [htf, List.length_append, Int.natCast_add]
  · have h12 := of_decide_eq_false h12
    have hie : X.take i = X := List.take_of_length_le (by omega)
    rw [hie]
    refine c_exit ?_
    refine c_rs (by kernel_rfl) ?_   -- region 9
    refine sr 1 rfl ?_
    refine s_op rfl (o_ex loud_n rfl (Grow_c _ _ ht) ?_)
    rintro v1 st1 ⟨r1, rfl, hf1⟩ e1
    refine sra rfl ?_
    refine c_seq ?_
    refine crr (by kernel_rfl) rfl ?_   -- region 10
    refine c_block ?_
    refine c_lp (α := Nat × Option Nat) (fun i => [(6, .sl i.2 0 (X.take i.1).flatten.length), (25, .sl (some b) 0 X.length), (26, I X.length), (27, I i.1)]) (fun _ => []) (fun i st' => i.1 ≤ X.length ∧ Ex st st' ∧ Fr st.n st' i.2 (X.take i.1).flatten) (fun i => X.length - i.1) (0, r1) ⟨rfl, rfl, rfl, rfl, trivial⟩ trivial ⟨Nat.zero_le _, e1, hf1⟩ ?_
    rintro ⟨j, q⟩ st2 ⟨hj, he, hf⟩
    dsimp only at *
    have hfl := take_flat_le X j
    refine crr (by kernel_rfl) rfl ?_   -- region 11
    refine c_seq ?_
    refine c_if rfl (fun h28 => ?_) (fun h28 => ?_)
    · have h28 := of_decide_eq_true h28
      obtain ⟨ri, hc, hai⟩ := hX j (by omega)
      have hfl1 := take_flat_le X (j + 1)
      have htf := take_flat X j (by omega)
      rw [htf, List.length_append] at hfl1
      refine c_skip ?_
      refine c_seq ?_
      refine c_block ?_
      refine c_rs (by kernel_rfl) ?_   -- region 12
      refine s_op rfl (oidx rfl rfl rfl (by omega) (by omega) ?_)
      refine s_op rfl (old rfl rfl (by rw [Nat.zero_add]; exact cell_ext he hc (fun _ _ h => h)) ?_)
      refine sra rfl ?_
      refine c_region (by kernel_rfl) ?_   -- region 13
      refine sr 2 rfl ?_
      refine s_op rfl (oappF rfl rfl rfl hf rfl (hai.ex he) (by omega) fun r2 st3 hf3 he3 => ?_)
      refine sra rfl ?_
      rw [← htf] at hf3 ⊢
      refine c_region (by kernel_rfl) ?_   -- region 14
      refine s_op rfl (o_ar rfl rfl rfl (by omega) (by omega) ?_)
      exact sra rfl ⟨(j + 1, r2), ⟨rfl, rfl, rfl, rfl, trivial⟩, trivial, ⟨by dsimp only; omega, he.own hf he3, hf3⟩, by dsimp only; omega⟩
    · have h28 := of_decide_eq_false h28
      have hie : X.take j = X := List.take_of_length_le (by omega)
      rw [hie] at hf ⊢
      refine c_exit ?_
      refine crr (by kernel_rfl) rfl ?_   -- region 15
      exact c_ret (fr rfl ⟨q, rfl, hf⟩)
/-- Ascending. -/
def Srt (l : List Int) : Prop := ∀ i : Nat, i + 1 < l.length → rd l i ≤ rd l ((i : Int) + 1)
theorem IsSorted_c (r : Option Nat) (o : Nat) (l : List Int) (st : St) (hx : At st r o l) (hl : l.length ≤ 1099511627776) : ACalls Try.prog 94 [.sl r o l.length] st No (Pure1 (.bool (bd (Srt l))) st) := by
  refine ent (N := 21) Try.func94 rfl (by decide) rfl rfl rfl ?_
  refine crr (by kernel_rfl) rfl ?_   -- region 0
  refine c_seq ?_
  refine c_rs (by kernel_rfl) ?_   -- region 1
  refine sr 2 rfl ?_
  refine s_op rfl (o_ar rfl rfl rfl (by omega) (by omega) ?_)
  refine sra rfl ?_
  refine c_block ?_
  refine c_lp (α := Int) (fun i => [(0, .sl r o l.length), (3, I i)]) (fun _ => []) (fun i st' => st = st' ∧ -1 ≤ i ∧ i ≤ (l.length : Int) - 1 ∧ ∀ j : Nat, i ≤ j → j + 1 < l.length → rd l j ≤ rd l ((j : Int) + 1)) (fun i => (i + 1).toNat) ((l.length : Int) - 1) ⟨rfl, rfl, trivial⟩ trivial ⟨rfl, by omega, by omega, fun j h1 h2 => by omega⟩ ?_
  rintro i st1 ⟨rfl, h0, h1, hs⟩
  refine c_seq ?_
  refine crr (by kernel_rfl) rfl ?_   -- region 2
  refine c_if rfl (fun h8 => ?_) (fun h8 => ?_)
  · have h8 := of_decide_eq_true h8
    refine c_skip ?_
    refine c_seq ?_
    refine c_block ?_
    refine cds [0, 1, 2, 3, 4, 5, 6, 7, 8, 9] [.q, .q, .q, .q, .q, .q, .q, .q, .q, .f] (by kernel_rfl) (by kernel_rfl) ?_   -- region 4
    refine sr 2 rfl ?_
    refine s_op rfl (oidx rfl rfl rfl (by omega) (by omega) ?_)
    refine s_op rfl (old rfl rfl (hx.rd (by omega) (by omega)) ?_)
    refine sr 2 rfl ?_
    refine s_op rfl (o_ar rfl rfl rfl (by omega) (by omega) ?_)
    refine s_op rfl (oidx rfl rfl rfl (by omega) (by omega) ?_)
    refine s_op rfl (old rfl rfl (hx.rd (by omega) (by omega)) ?_)
    refine s_op rfl (o_pure loud_f rfl (Less_c ..) ?_)
    refine s_end ?_
    refine c_if rfl (fun h20 => ?_) (fun h20 => ?_)
    · have h20 := of_decide_eq_true h20
      refine crr (by kernel_rfl) rfl ?_   -- region 5
      refine c_ret (fr rfl ⟨?_, rfl⟩)
      have : ¬ Srt l := fun h => by
        have := h (i - 1).toNat (by omega)
        rw [show (((i - 1).toNat : Nat) : Int) = i - 1 by omega, show i - 1 + 1 = i by omega] at this
        omega
      rw [bdf.2 this]
    · have h20 := of_decide_eq_false h20
      refine c_skip ?_
      refine c_region (by kernel_rfl) ?_   -- region 3
      refine sr 1 rfl ?_
      refine s_op rfl (o_ar rfl rfl rfl (by omega) (by omega) ?_)
      refine sra rfl ⟨i - 1, ⟨rfl, rfl, trivial⟩, trivial, ⟨rfl, by omega, by omega, fun j h2 h3 => ?_⟩, by omega⟩
      by_cases e : (j : Int) = i - 1
      · rw [e, show i - 1 + 1 = i by omega]; omega
      · exact hs j (by omega) h3
  · have h8 := of_decide_eq_false h8
    refine c_exit ?_
    refine crr (by kernel_rfl) rfl ?_   -- region 6
    refine c_ret (fr rfl ⟨?_, rfl⟩)
    have : Srt l := fun j hj => hs j (by omega) hj
    rw [bdt.2 this]
end Go.Proofs.YtmphklmhhcmbnaaW.Ax
