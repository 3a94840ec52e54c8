/- Fresh: walked. -/
import Derived.Test.YtfhkjhnaihhdmaaGreatZq
namespace Go.Proofs.YtfhkjhnaihhdmaaGreatW.Ax
open Go Go.RowKit Go.Proofs Go.Proofs.YtfhkjhnaihhdmaaGreat.Pure
set_option linter.unusedVariables false
set_option maxRecDepth 100000

/-- Black, with a fresh block. -/
def frB (p : Int) (g b : List Int) (a : Int) : List Int := if p ≠ 0 ∧ a ∉ g ∧ a ∉ b then insA b a else b
theorem frB_len (p : Int) (g b : List Int) (a : Int) : (frB p g b a).length ≤ b.length + 1 := by
  unfold frB
  split
  · rw [insA_len]; exact Nat.le_refl _
  · omega
theorem Fresh_c (p q a : Int) (rg rb : Option Nat) (g b : List Int) (st : St) (hg : At st rg 0 g) (hb : At st rb 0 b) (hlg : g.length ≤ 536870912) (hlb : b.length ≤ 536870912) :
    ACalls Tryz.prog 16 [.agg [I p, .sl rg 0 g.length, .sl rb 0 b.length, I q], I a] st No (Mr st p g (frB p g b a) q) := by
  refine ent (N := 30) Tryz.func16 rfl (by decide) rfl rfl rfl ?_
  refine crr (by kernel_rfl) rfl ?_   -- region 0
  refine c_rs (by kernel_rfl) ?_   -- region 1
  refine sr 1 rfl ?_
  refine s_op rfl (o_ex loud_n rfl (l8Copy_c p q rg rb g b _ hg hb (by omega) (by omega)) ?_)
  rintro v1 st1 ⟨q1, q2, rfl, hf1, hf2, hd⟩ e1
  refine sra rfl ?_
  have n1 := e1.n
  refine c_seq ?_
  refine c_sj (α := Bool) (fun t => [(1, I a), (22, .bool t)]) (fun _ => [(4, 4, [I 0, .sl none 0 0, .sl none 0 0, I 0]), (5, 5, [I p, .sl q1 0 g.length, .sl q2 0 b.length, I q])])
    (fun t st' => st1 = st' ∧ (t = true ↔ ¬ (p ≠ 0 ∧ a ∉ g ∧ a ∉ b))) ?_ ?_
  · -- region 2
    refine c_region (by kernel_rfl) ?_
    refine sr 4 rfl ?_
    refine s_bool 11 rfl rfl (fun h11 => ?_) (fun h11 => ?_)
    · -- slot 11 true
      have h11 := of_decide_eq_true h11
      refine sr 6 rfl ?_
      refine s_bool 17 rfl rfl (fun h17 => ?_) (fun h17 => by cases h17)
      exact sra rfl ⟨true, ⟨rfl, rfl, trivial⟩, ⟨rfl, rfl, rfl, rfl, trivial⟩, rfl, fun _ h => h.1 h11, fun _ => rfl⟩
    · -- slot 11 false
      have h11 := of_decide_eq_false h11
      refine sr 3 rfl ?_
      refine s_op rfl (o_pure loud_n rfl (l7In_c (hx := hg.ex e1) (hl := by omega) ..) ?_)
      refine sr 2 rfl ?_
      refine s_bool 17 rfl rfl (fun h17 => ?_) (fun h17 => ?_)
      · -- slot 17 true
        have h17 := bdt.1 h17
        exact sra rfl ⟨true, ⟨rfl, rfl, trivial⟩, ⟨rfl, rfl, rfl, rfl, trivial⟩, rfl, fun _ h => h.2.1 h17, fun _ => rfl⟩
      · -- slot 17 false
        have h17 := bdf.1 h17
        refine sr 3 rfl ?_
        refine s_op rfl (o_pure loud_n rfl (l7In_c (hx := hb.ex e1) (hl := by omega) ..) ?_)
        refine sra rfl ⟨_, ⟨rfl, rfl, trivial⟩, ⟨rfl, rfl, rfl, rfl, trivial⟩, rfl, ?_⟩
        show bd (a ∈ b) = true ↔ _
        rw [bdt]
        exact ⟨fun h hh => hh.2.2 h, fun h => Classical.byContradiction fun hc => h ⟨h11, h17, hc⟩⟩
  rintro t st2 ⟨rfl, ht⟩
  refine c_if rfl (fun h22 => ?_) (fun h22 => ?_)
  · -- then
    have h22 := ht.1 h22
    have es : frB p g b a = b := by unfold frB; rw [if_neg h22]
    rw [es]
    refine crr (by kernel_rfl) rfl ?_   -- region 3
    exact c_ret (fr rfl ⟨q1, q2, rfl, hf1, hf2, hd⟩)
  · -- else
    have h22 : p ≠ 0 ∧ a ∉ g ∧ a ∉ b := Classical.byContradiction fun hc => by have := ht.2 hc; rw [h22] at this; cases this
    have es : frB p g b a = insA b a := by unfold frB; rw [if_pos h22]
    rw [es]
    refine c_skip ?_
    refine c_rs (by kernel_rfl) ?_   -- region 4
    refine sr 3 rfl ?_
    refine s_op rfl (o_ex loud_n rfl (l8Insert_c _ b a _ hf2.at_ (by omega)) ?_)
    rintro v3 st3 ⟨q3, rfl, hf3⟩ e3
    refine sra rfl ?_
    refine crr (by kernel_rfl) rfl ?_   -- region 5
    refine c_ret (fr rfl ⟨q1, q3, rfl, hf1.ex e3, hf3.le n1, fun i h h' => ?_⟩)
    have := hf1.bd i h
    have := hf3.bd i h'
    omega
theorem above_c (x a : Int) (bp : Nat) (st : St) (hc : cell st (some bp) 0 = some (I a)) : ACalls Tryz.prog 77 [I x, .ptr (some bp) 0] st No (Pv (.bool (bd (a < x)))) := by
  refine ent (N := 7) Tryz.func77 rfl (by decide) rfl rfl rfl ?_
  refine crr (by kernel_rfl) rfl ?_   -- region 0
  refine c_rs (by kernel_rfl) ?_   -- region 1
  refine sr 1 rfl ?_
  refine s_op rfl (old rfl rfl hc ?_)
  refine sra rfl ?_
  refine c_ret (fr rfl ?_)
  show AV.bool (decide (x > a)) = _
  rw [← bd_dec]
theorem pos_of_ix {b : List Int} {a k : Int} (ha : a ∉ b) (h : (k = -1 ∧ ∀ i : Nat, i < b.length → ¬ a < rd b i) ∨ (0 ≤ k ∧ k < b.length ∧ a < rd b k ∧ ∀ i : Nat, i < k → ¬ a < rd b i)) : posL b a = if k < 0 then b.length else k.toNat := by
  have hne : ∀ j : Nat, j < b.length → b.getD j 0 ≠ a := fun j hj e => ha (by rw [← e, ← rd_nat]; exact mem_rd hj)
  rcases h with ⟨rfl, h⟩ | ⟨h0, h1, h2, h3⟩
  · rw [if_pos (by omega)]
    refine pos_eq b a b.length (Nat.le_refl _) (fun j hj => ?_) (fun h => absurd h (Nat.lt_irrefl _))
    have h4 := h j hj
    rw [rd_nat] at h4
    have := hne j hj
    omega
  · rw [if_neg (by omega)]
    obtain ⟨m, rfl⟩ : ∃ m : Nat, k = m := ⟨k.toNat, by omega⟩
    rw [rd_nat] at h2
    refine pos_eq b a _ (by omega) (fun j hj => ?_) (fun _ => by rw [show (m : Int).toNat = m by omega]; omega)
    have h4 := h3 j (by omega)
    rw [rd_nat] at h4
    have := hne j (by omega)
    omega
theorem iFresh_c (p q a : Int) (rg rb : Option Nat) (g b : List Int) (st : St) (hg : At st rg 0 g) (hb : At st rb 0 b) (hlg : g.length ≤ 536870912) (hlb : b.length ≤ 536870912) :
    ACalls Tryz.prog 15 [.agg [I p, .sl rg 0 g.length, .sl rb 0 b.length, I q], I a] st No (Mr st p g (frB p g b a) q) := by
  refine ent (N := 43) Tryz.func15 rfl (by decide) rfl rfl rfl ?_
  refine c_rs (by kernel_rfl) ?_   -- region 0
  refine sr 1 rfl ?_
  refine s_op rfl (oboxP (l := [I a]) loud_n rfl fun bp st0 hbp n0 ob0 e0 => ?_)
  refine sra rfl ?_
  have hc0 : cell st0 (some bp) 0 = some (I a) := by rw [cell_row (by omega) ob0]; rfl
  refine c_rs (by kernel_rfl) ?_   -- region 1
  refine sr 1 rfl ?_
  refine s_op rfl (o_ex loud_n rfl (copyMarker_c p q rg rb g b _ (hg.ex e0) (hb.ex e0) (by omega) (by omega)) ?_)
  rintro v1 st1 ⟨q1, q2, rfl, hf1, hf2, hd⟩ e1
  refine sra rfl ?_
  have n1 := e1.n
  have hc1 : cell st1 (some bp) 0 = some (I a) := cell_ext e1 hc0 (fun _ _ h => h)
  refine c_sj (α := Option Nat) (fun _ => []) (fun i => [(4, 4, [I 0, .sl none 0 0, .sl none 0 0, I 0]), (5, 5, [I p, .sl q1 0 g.length, .sl i 0 (frB p g b a).length, I q])])
    (fun i st' => Fr st.n st' q1 g ∧ Fr st.n st' i (frB p g b a) ∧ ∀ k, q1 = some k → i ≠ some k) ?_ ?_
  · -- ways that meet
    refine c_sj (α := Bool) (fun t => [(3, .ptr (some bp) 0), (25, .bool t)]) (fun _ => [(4, 4, [I 0, .sl none 0 0, .sl none 0 0, I 0]), (5, 5, [I p, .sl q1 0 g.length, .sl q2 0 b.length, I q])])
      (fun t st' => st1 = st' ∧ (t = true ↔ p ≠ 0 ∧ a ∉ g ∧ a ∉ b)) ?_ ?_
    · -- region 2
      refine c_region (by kernel_rfl) ?_
      refine sr 4 rfl ?_
      refine s_bool 12 rfl rfl (fun h12 => ?_) (fun h12 => ?_)
      · -- slot 12 true
        have h12 := ndt h12
        refine sr 2 rfl ?_
        refine s_op rfl (old rfl rfl hc1 ?_)
        refine s_op rfl (o_pure loud_n rfl (Contains_c (hx := (hg.ex e0).ex e1) (hl := by omega) ..) ?_)
        refine sr 3 rfl ?_
        refine s_bool 19 rfl rfl (fun h19 => ?_) (fun h19 => ?_)
        · -- slot 19 true
          have h19 := nbt h19
          refine sr 2 rfl ?_
          refine s_op rfl (old rfl rfl hc1 ?_)
          refine s_op rfl (o_pure loud_n rfl (Contains_c (hx := (hb.ex e0).ex e1) (hl := by omega) ..) ?_)
          refine sra rfl ⟨_, ⟨rfl, rfl, trivial⟩, ⟨rfl, rfl, rfl, rfl, trivial⟩, rfl, fun h => ⟨h12, h19, nbt h⟩, fun h => (by rw [bdf.2 h.2.2]; rfl)⟩
        · -- slot 19 false
          have h19 := nbf h19
          exact sra rfl ⟨false, ⟨rfl, rfl, trivial⟩, ⟨rfl, rfl, rfl, rfl, trivial⟩, rfl, fun h => (by cases h), fun h => absurd h19 h.2.1⟩
      · -- slot 12 false
        have h12 := ndf h12
        refine sr 7 rfl ?_
        refine s_bool 19 rfl rfl (fun h19 => by cases h19) (fun h19 => ?_)
        exact sra rfl ⟨false, ⟨rfl, rfl, trivial⟩, ⟨rfl, rfl, rfl, rfl, trivial⟩, rfl, fun h => (by cases h), fun h => absurd h12 h.1⟩
    rintro t st2 ⟨rfl, ht⟩
    refine c_if rfl (fun h25 => ?_) (fun h25 => ?_)
    · -- then
      have h25 := ht.1 h25
      have es : frB p g b a = insA b a := by unfold frB; rw [if_pos h25]
      rw [es]
      refine c_rs (by kernel_rfl) ?_   -- region 3
      refine sr 3 rfl ?_
      refine s_op rfl (o_ex loud_n rfl (IndexFunc_c _ _ b _ [.ptr (some bp) 0] (fun x => a < x) _ hf2.at_ (by omega) (fun st' i he hi => above_c _ a bp _ (cell_ext he hc1 (fun _ _ h => h)))) ?_)
      rintro v3 st3 ⟨k, rfl, hk⟩ e3
      refine sra rfl ?_
      have hp := pos_of_ix h25.2.2 hk
      have hpl := pos_le b a
      have n3 := e3.n
      refine c_sj (α := Unit) (fun _ => [(3, .ptr (some bp) 0), (6, I (posL b a))]) (fun _ => [(4, 4, [I 0, .sl none 0 0, .sl none 0 0, I 0]), (5, 5, [I p, .sl q1 0 g.length, .sl q2 0 b.length, I q])]) (fun _ st' => st3 = st') ?_ ?_
      · -- ways that meet
        refine crr (by kernel_rfl) rfl ?_   -- region 4
        refine c_if rfl (fun h31 => ?_) (fun h31 => ?_)
        · -- then
          have h31 := of_decide_eq_true h31
          rw [if_pos h31] at hp
          refine c_region (by kernel_rfl) ?_   -- region 5
          rw [hp]
          exact sra rfl ⟨(), ⟨rfl, rfl, trivial⟩, ⟨rfl, rfl, rfl, rfl, trivial⟩, rfl⟩
        · -- else
          have h31 := of_decide_eq_false h31
          rw [if_neg h31] at hp
          have ek : (posL b a : Int) = k := by rw [hp]; omega
          rw [ek]
          refine c_skip ?_
          exact ⟨(), ⟨rfl, rfl, trivial⟩, ⟨rfl, rfl, rfl, rfl, trivial⟩, rfl⟩
      rintro _ st4 rfl
      have hc3 : cell st3 (some bp) 0 = some (I a) := cell_ext e3 hc1 (fun _ _ h => h)
      refine c_region (by kernel_rfl) ?_   -- region 6
      refine sr 3 rfl ?_
      refine s_op rfl (old rfl rfl hc3 ?_)
      refine s_op rfl (oints [a] loud_n rfl (by decide) rfl rfl rfl fun qv st4 hqv e4 => ?_)
      have n4 := e4.n
      have hqb := hqv.bd qv rfl
      have hf2' := (hf2.ex e3).ex e4
      refine s_op rfl (o_call rfl (Insert_c st0.n st3.n q2 qv b (posL b a) a st4 (by omega) hf2' hpl hqv (fun e => by have := (hf2.ex e3).bd qv e; omega) (by omega)) (fun i hi ht => absurd hi (by have := hf2.bd i ht; omega)) (.inl rfl) ?_)
      rintro v5 st5 ⟨q5, rfl, hf5, hn5⟩ e5
      have hf1' : Fr st.n st5 q1 g := (((hf1.ex e3).ex e4).ext e5 (fun i hi hi' => hd i hi hi')).le (by omega)
      refine sra rfl ?_
      refine ⟨q5, trivial, ⟨rfl, rfl, rfl, rfl, trivial⟩, hf1', hf5.le (by omega), fun i hi hi' => ?_⟩
      have := hn5 i hi'
      have := hf1.bd i hi
      omega
    · -- else
      have h25 : ¬ (p ≠ 0 ∧ a ∉ g ∧ a ∉ b) := fun h => by have := ht.2 h; rw [h25] at this; cases this
      have es : frB p g b a = b := by unfold frB; rw [if_neg h25]
      rw [es]
      refine c_skip ?_
      exact ⟨q2, trivial, ⟨rfl, rfl, rfl, rfl, trivial⟩, hf1.le (by omega), hf2.le (by omega), hd⟩
  rintro i st2 ⟨h1, h2, h3⟩
  refine crr (by kernel_rfl) rfl ?_   -- region 7
  exact c_ret (fr rfl ⟨q1, i, rfl, h1, h2, h3⟩)
end Go.Proofs.YtfhkjhnaihhdmaaGreatW.Ax
