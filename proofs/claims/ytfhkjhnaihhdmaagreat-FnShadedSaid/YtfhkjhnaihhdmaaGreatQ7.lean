/- Merged: Zk Zl Zm Zn Zo Zp. -/
import Derived.Test.YtfhkjhnaihhdmaaGreatZj
import Derived.Test.YtfhkjhnaihhdmaaGreatYm
import Derived.Test.YtfhkjhnaihhdmaaGreatQ2
import Derived.Test.YtfhkjhnaihhdmaaGreatXU
import Derived.Test.YtfhkjhnaihhdmaaGreatXC
/- Shading, and how marking starts: walked. -/
namespace Go.Proofs.YtfhkjhnaihhdmaaGreatW.Ax
open Go Go.RowKit Go.Proofs Go.Proofs.YtfhkjhnaihhdmaaGreat.Pure
set_option linter.unusedVariables false
set_option maxRecDepth 100000

/-- A value is shaded. -/
def shd (p : Int) (g b : List Int) (v : Int) : List Int := if p = 1 ∧ 4 ≤ v % 8 ∧ v / 8 ∉ g ∧ v / 8 ∉ b then g ++ [v / 8] else g
theorem shd_len (p : Int) (g b : List Int) (v : Int) : (shd p g b v).length ≤ g.length + 1 := by
  unfold shd; split <;> simp
/-- A marker whose Grey has grown. -/
def ShP (n0 : Nat) (st : St) (p q : Int) (rg rb : Option Nat) (g b : List Int) : AV → St → Prop := fun v st' =>
  ∃ rg', v = .agg [I p, .sl rg' 0 g.length, .sl rb 0 b.length, I q] ∧ Fr n0 st' rg' g ∧ ∀ i, rg' = some i → rg = some i ∨ st.n ≤ i
theorem l8Shade_c (n0 : Nat) (p q v : Int) (rg rb : Option Nat) (g b : List Int) (st : St) (hn0 : n0 ≤ st.n) (hg : Fr n0 st rg g) (hb : At st rb 0 b) (hv : 4 ≤ v % 8 → 0 ≤ v / 8) (hlg : g.length ≤ 1073741824) (hlb : b.length ≤ 1073741824) :
    ACalls Tryz.prog 74 [.agg [I p, .sl rg 0 g.length, .sl rb 0 b.length, I q], I v] st (fun i => rg = some i) (ShP n0 st p q rg rb (shd p g b v) b) := by
  refine ent (N := 36) Tryz.func74 rfl (by decide) rfl rfl rfl ?_
  refine crr (by kernel_rfl) rfl ?_   -- region 0
  refine c_rs (by kernel_rfl) ?_   -- region 1
  refine sr 1 rfl ?_
  refine s_op rfl (o_pure loud_n rfl (l7Block_c ..) ?_)
  refine sra rfl ?_
  have hbk : 0 ≤ blk v ↔ 4 ≤ v % 8 := by unfold blk; split <;> omega
  have hbv : 4 ≤ v % 8 → blk v = v / 8 := fun h => by unfold blk; rw [if_neg (by omega)]
  refine c_sj (α := Option Nat) (fun i => []) (fun i => [(2, 2, [I p, .sl i 0 (shd p g b v).length, .sl rb 0 b.length, I q]), (4, 4, [I 0, .sl none 0 0, .sl none 0 0, I 0])])
    (fun i st' => Fr n0 st' i (shd p g b v) ∧ ∀ k, i = some k → rg = some k ∨ st.n ≤ k) ?_ ?_
  · -- ways that meet
    refine c_sj (α := Bool) (fun b => [(5, I (blk v)), (28, .bool b)]) (fun _ => [(2, 2, [I p, .sl rg 0 g.length, .sl rb 0 b.length, I q]), (4, 4, [I 0, .sl none 0 0, .sl none 0 0, I 0])])
      (fun x st' => st = st' ∧ (x = true ↔ p = 1 ∧ 4 ≤ v % 8 ∧ v / 8 ∉ g ∧ v / 8 ∉ b)) ?_ ?_
    · -- region 2
      refine c_region (by kernel_rfl) ?_
      refine sr 4 rfl ?_
      refine s_bool 11 rfl rfl (fun h11 => ?_) (fun h11 => ?_)
      · -- slot 11 true
        have h11 := of_decide_eq_true h11
        refine sr 4 rfl ?_
        refine s_bool 15 rfl rfl (fun h15 => ?_) (fun h15 => ?_)
        · -- slot 15 true
          have h15 := hbk.1 (of_decide_eq_true h15)
          have e5 := hbv h15
          refine sr 3 rfl ?_
          refine s_op rfl (o_pure loud_n rfl (l7In_c (hx := hg.at_) (hl := by omega) ..) ?_)
          refine sr 3 rfl ?_
          refine s_bool 22 rfl rfl (fun h22 => ?_) (fun h22 => ?_)
          · -- slot 22 true
            have h22 := nbt h22
            rw [e5] at h22 ⊢
            refine sr 3 rfl ?_
            refine s_op rfl (o_pure loud_n rfl (l7In_c (hx := hb) (hl := by omega) ..) ?_)
            refine sra rfl ⟨_, ⟨rfl, rfl, trivial⟩, ⟨rfl, rfl, rfl, rfl, trivial⟩, rfl, ?_⟩
            exact ⟨fun h => ⟨h11, h15, h22, nbt h⟩, fun h => (by rw [bdf.2 h.2.2.2]; rfl)⟩
          · -- slot 22 false
            have h22 := nbf h22
            rw [e5] at h22
            refine sra rfl ⟨_, ⟨rfl, rfl, trivial⟩, ⟨rfl, rfl, rfl, rfl, trivial⟩, rfl, fun h => (by cases h), fun h => absurd h22 h.2.2.1⟩
        · -- slot 15 false
          have h15 := of_decide_eq_false h15
          rw [hbk] at h15
          refine sr 7 rfl ?_
          refine s_bool 22 rfl rfl (fun h22 => by cases h22) (fun h22 => ?_)
          refine sra rfl ⟨_, ⟨rfl, rfl, trivial⟩, ⟨rfl, rfl, rfl, rfl, trivial⟩, rfl, fun h => (by cases h), fun h => absurd h.2.1 h15⟩
      · -- slot 11 false
        have h11 := of_decide_eq_false h11
        refine sr 4 rfl ?_
        refine s_bool 15 rfl rfl (fun h15 => by cases h15) (fun h15 => ?_)
        refine sr 7 rfl ?_
        refine s_bool 22 rfl rfl (fun h22 => by cases h22) (fun h22 => ?_)
        refine sra rfl ⟨_, ⟨rfl, rfl, trivial⟩, ⟨rfl, rfl, rfl, rfl, trivial⟩, rfl, fun h => (by cases h), fun h => absurd h.1 h11⟩
    rintro x st1 ⟨rfl, hx⟩
    refine c_if rfl (fun h28 => ?_) (fun h28 => ?_)
    · -- then
      have h28 := hx.1 h28
      have e5 := hbv h28.2.1
      have es : shd p g b v = g ++ [v / 8] := by rw [shd, if_pos h28]
      rw [es, e5]
      refine c_region (by kernel_rfl) ?_   -- region 3
      refine sr 3 rfl ?_
      refine s_op rfl (oone loud_n rfl rfl ?_)
      have hf := fr_push st [v / 8]
      have he := ex_push st (.row true ([v / 8].map I))
      have hn := he.n
      have hg' := hg.ex he
      generalize hst : st.push (.row true ([v / 8].map I)) = st2 at hf he hn hg' ⊢
      refine s_op rfl (oappT (fun i hi _ => hi) (by omega) rfl rfl rfl hg' rfl hf.at_ (by simp; omega) fun r2 st3 hr2 hn2 he2 => ?_)
      exact sra rfl ⟨r2, trivial, ⟨rfl, rfl, rfl, rfl, trivial⟩, hr2, fun k hk => .inr (by have := hn2 k hk; omega)⟩
    · -- else
      have h28 : ¬ _ := fun h => by have := hx.2 h; rw [h28] at this; cases this
      have es : shd p g b v = g := by rw [shd, if_neg h28]
      rw [es]
      refine c_skip ?_
      exact ⟨rg, trivial, ⟨rfl, rfl, rfl, rfl, trivial⟩, hg, fun k hk => .inl hk⟩
  rintro i st1 ⟨h1, h2⟩
  refine crr (by kernel_rfl) rfl ?_   -- region 4
  exact c_ret (fr rfl ⟨i, rfl, h1, h2⟩)
theorem shd_ad (g : List Int) (v : Int) : shd 1 g [] v = ad g v := by
  unfold shd ad
  by_cases h : 4 ≤ v % 8 ∧ v / 8 ∉ g
  · rw [if_pos ⟨rfl, h.1, h.2, by simp⟩, if_pos h]
  · rw [if_neg (fun hh => h ⟨hh.2.1, hh.2.2.1⟩), if_neg h]
/-- How marking starts. -/
noncomputable def stP (l rs : List Int) : Int := cond (bd (Rts l rs)) 1 0
noncomputable def stG (l rs : List Int) : List Int := cond (bd (Rts l rs)) (rs.foldl ad []) []
theorem stG_len (l rs : List Int) : (stG l rs).length ≤ 2000 := by
  unfold stG
  cases h : bd (Rts l rs) with
  | false => simp
  | true => exact ((ord_nil l).all (rts_vb (bdt.1 h))).len
theorem Leads.num {l : List Int} {v i : Int} (h : Leads l v i) : 4 ≤ v % 8 → 0 ≤ v / 8 := fun h4 => (h.1.2.2.2.2 h4).1
theorem Start_c (r rr : Option Nat) (o or : Nat) (l rs : List Int) (st : St) (hx : At st r o l) (hy : At st rr or rs) (hl : l.length ≤ 1048576) (hlr : rs.length ≤ 1048576) :
    ACalls Tryz.prog 29 [.agg [.sl r o l.length], .sl rr or rs.length] st No (Mr st (stP l rs) (stG l rs) [] 0) := by
  refine ent (N := 26) Tryz.func29 rfl (by decide) rfl rfl rfl ?_
  refine crr (by kernel_rfl) rfl ?_   -- region 0
  refine c_seq ?_
  refine c_rs (by kernel_rfl) ?_   -- region 1
  refine sr 2 rfl ?_
  refine s_op rfl (o_ex loud_n rfl (RootsOk_c _ _ _ _ _ _ _ hx hy hl hlr) ?_)
  rintro v1 st1 rfl e1
  refine sra rfl ?_
  have hx1 := hx.ex e1
  have hy1 := hy.ex e1
  refine c_if rfl (fun h10 => ?_) (fun h10 => ?_)
  · -- then
    have h10 := nbt h10
    have ep : stP l rs = 0 := by rw [stP, bdf.2 h10]; rfl
    have eg : stG l rs = [] := by rw [stG, bdf.2 h10]; rfl
    rw [ep, eg]
    refine crr (by kernel_rfl) rfl ?_   -- region 2
    exact c_ret (fr rfl ⟨none, none, rfl, fr_nil _ _, fr_nil _ _, fun i h => (by cases h)⟩)
  · -- else
    have h10 := nbf h10
    have ep : stP l rs = 1 := by rw [stP, bdt.2 h10]; rfl
    have eg : stG l rs = rs.foldl ad [] := by rw [stG, bdt.2 h10]; rfl
    rw [ep, eg]
    refine c_skip ?_
    refine crr (by kernel_rfl) rfl ?_   -- region 3
    refine c_seq ?_
    refine crr (by kernel_rfl) rfl ?_   -- region 4
    refine c_block ?_
    refine c_lp (α := Nat × Option Nat) (fun i => [(1, .sl rr or rs.length), (6, I i.1)]) (fun i => [(4, 4, [I 0, .sl none 0 0, .sl none 0 0, I 0]), (5, 5, [I 1, .sl i.2 0 ((rs.take i.1).foldl ad []).length, .sl none 0 0, I 0])])
      (fun i st' => i.1 ≤ rs.length ∧ Ex st st' ∧ Fr st.n st' i.2 ((rs.take i.1).foldl ad [])) (fun i => rs.length - i.1) (0, none) ⟨rfl, rfl, trivial⟩ ⟨rfl, rfl, rfl, rfl, trivial⟩ ⟨Nat.zero_le _, e1, fr_nil _ _⟩ ?_
    rintro ⟨i, q⟩ st2 ⟨hi, he, hf⟩
    dsimp only at *
    have hol : ((rs.take i).foldl ad []).length ≤ 2000 := ((ord_nil l).all fun v hv => rts_vb h10 v (List.mem_of_mem_take hv)).len
    have hn2 := he.n
    refine c_seq ?_
    refine crr (by kernel_rfl) rfl ?_   -- region 5
    refine c_if rfl (fun h16 => ?_) (fun h16 => ?_)
    · -- then
      have h16 := of_decide_eq_true h16
      have hrd : rd rs i ∈ rs := mem_rd (by omega)
      refine c_skip ?_
      refine c_seq ?_
      refine c_block ?_
      refine cdt1 [0, 1, 2, 3, 4, 5, 6] [.q, .q, .q, .q, .q, .n, .n] (by kernel_rfl) (by kernel_rfl) ?_   -- region 7
      refine sr 3 rfl ?_
      refine s_op rfl (oidx rfl rfl rfl (by omega) (by omega) ?_)   -- 22 := indexAddr 22 (tmp 20) (tmp 21)
      refine s_op rfl (old rfl rfl ((hy.ex he).rd (by omega) (by omega)) ?_)   -- 23 := load 3 (tmp 22)
      refine s_op rfl (o_call rfl (l8Shade_c st.n 1 0 (rd rs i) q none _ [] _ hn2 hf (At.nil _ _ _) ((h10.2 _ hrd).num) (by omega) (by simp)) (fun k hk ht => absurd hk (by have := hf.bd k ht; omega)) (.inl rfl) ?_)
      rintro v5 st5 ⟨q5, rfl, hf5, _⟩ e5
      have he5 := he.own hf e5
      rw [shd_ad, ← foldl_rd _ _ _ (by omega)] at hf5
      refine sra rfl ?_
      refine c_region (by kernel_rfl) ?_   -- region 6
      refine sr 1 rfl ?_
      refine s_op rfl (o_ar rfl rfl rfl (by omega) (by omega) ?_)   -- 18 := binOp BinOp.add 3 (tmp 17) (const (Value.int IntKind.i64 1)) 3
      refine sra rfl ?_
      refine ⟨(i + 1, q5), ⟨rfl, rfl, trivial⟩, ⟨rfl, rfl, rfl, ?_, trivial⟩, ⟨by dsimp only; omega, he5, hf5⟩, by dsimp only; omega⟩
      show some _ = some _
      rw [shd_ad, ← foldl_rd _ _ _ (by omega)]
      rfl
    · -- else
      have h16 := of_decide_eq_false h16
      have hie : rs.take i = rs := List.take_of_length_le (by omega)
      rw [hie] at hf ⊢
      refine c_exit ?_
      refine crr (by kernel_rfl) rfl ?_   -- region 8
      exact c_ret (fr rfl ⟨q, none, rfl, hf, fr_nil _ _, fun i _ h => (by cases h)⟩)
/-- A value leads to a block of its kind. -/
def Ld (l : List Int) (v : Int) : Prop := Rf l v 4 1 ∨ Rf l v 5 2 ∨ Rf l v 6 4 ∨ Rf l v 7 3 ∨ Rf l v 7 5
theorem leads_c (r : Option Nat) (o n : Nat) (l : List Int) (v : Int) (st : St) (hx : At st r o (kindsL l)) (hl : l.length ≤ 2000) (hn : n = l.length) : ACalls Tryz.prog 144 [.sl r o n, I v] st No (Pure1 (.bool (bd (Ld l v))) st) := by
  refine ent (N := 32) Tryz.func144 rfl (by decide) rfl rfl rfl ?_
  refine crr (by kernel_rfl) rfl ?_   -- region 0
  refine c_seq ?_
  refine c_rs (by kernel_rfl) ?_   -- region 1
  refine sr 1 rfl ?_
  refine s_op rfl (o_pure loud_n rfl (iKind_c ..) ?_)
  refine s_end ?_
  refine c_block ?_
  refine crr (by kernel_rfl) rfl ?_   -- region 2
  refine c_if rfl (fun h7 => ?_) (fun h7 => ?_)
  · -- then
    have h7 := of_decide_eq_true h7
    refine c_rs (by kernel_rfl) ?_   -- region 3
    refine sr 2 rfl ?_
    refine s_op rfl (o_pure loud_n rfl (leadsTo_c r o n l v 4 1 _ hx hl (by omega) hn) ?_)
    refine sra rfl ?_
    refine c_ret (fr rfl ⟨?_, rfl⟩)
    rw [bd_eq (P := Rf l v 4 1) (Q := Ld l v) ⟨fun h => .inl h, fun h => by
      rcases h with h | h | h | h | h
      · exact h
      all_goals (have := h.1; omega)⟩]
  · -- else
    have h7 := of_decide_eq_false h7
    refine crr (by kernel_rfl) rfl ?_   -- region 4
    refine c_if rfl (fun h12 => ?_) (fun h12 => ?_)
    · -- then
      have h12 := of_decide_eq_true h12
      refine c_rs (by kernel_rfl) ?_   -- region 5
      refine sr 2 rfl ?_
      refine s_op rfl (o_pure loud_n rfl (leadsTo_c r o n l v 5 2 _ hx hl (by omega) hn) ?_)
      refine sra rfl ?_
      refine c_ret (fr rfl ⟨?_, rfl⟩)
      rw [bd_eq (P := Rf l v 5 2) (Q := Ld l v) ⟨fun h => .inr (.inl h), fun h => by
        rcases h with h | h | h | h | h
        · have := h.1; omega
        · exact h
        all_goals (have := h.1; omega)⟩]
    · -- else
      have h12 := of_decide_eq_false h12
      refine crr (by kernel_rfl) rfl ?_   -- region 6
      refine c_if rfl (fun h17 => ?_) (fun h17 => ?_)
      · -- then
        have h17 := of_decide_eq_true h17
        refine c_rs (by kernel_rfl) ?_   -- region 7
        refine sr 2 rfl ?_
        refine s_op rfl (o_pure loud_n rfl (leadsTo_c r o n l v 6 4 _ hx hl (by omega) hn) ?_)
        refine sra rfl ?_
        refine c_ret (fr rfl ⟨?_, rfl⟩)
        rw [bd_eq (P := Rf l v 6 4) (Q := Ld l v) ⟨fun h => .inr (.inr (.inl h)), fun h => by
          rcases h with h | h | h | h | h
          · have := h.1; omega
          · have := h.1; omega
          · exact h
          all_goals (have := h.1; omega)⟩]
      · -- else
        have h17 := of_decide_eq_false h17
        refine crr (by kernel_rfl) rfl ?_   -- region 8
        refine c_if rfl (fun h22 => ?_) (fun h22 => ?_)
        · -- then
          have h22 := of_decide_eq_true h22
          refine c_sj (α := Bool) (fun b => [(4, .bool b)]) (fun _ => []) (fun b st' => st = st' ∧ (b = true ↔ Rf l v 7 3 ∨ Rf l v 7 5)) ?_ ?_
          · -- region 9
            refine c_region (by kernel_rfl) ?_
            refine sr 2 rfl ?_
            refine s_op rfl (o_pure loud_n rfl (leadsTo_c r o n l v 7 3 _ hx hl (by omega) hn) ?_)
            refine sr 1 rfl ?_
            refine s_bool 27 rfl rfl (fun h27 => ?_) (fun h27 => ?_)
            · -- slot 27 true
              have h27 := bdt.1 h27
              refine sra rfl ⟨_, ⟨rfl, trivial⟩, trivial, rfl, fun _ => .inl h27, fun _ => rfl⟩
            · -- slot 27 false
              have h27 := bdf.1 h27
              refine sr 2 rfl ?_
              refine s_op rfl (o_pure loud_n rfl (leadsTo_c r o n l v 7 5 _ hx hl (by omega) hn) ?_)
              refine sra rfl ⟨_, ⟨rfl, trivial⟩, trivial, rfl, fun h => .inr (bdt.1 h), fun h => bdt.2 (h.resolve_left h27)⟩
          rintro b st1 ⟨rfl, hb⟩
          refine c_ret (fr rfl ⟨?_, rfl⟩)
          refine abd (hb.trans ⟨fun h => .inr (.inr (.inr h)), fun h => ?_⟩)
          rcases h with h | h | h | h
          · have := h.1; omega
          · have := h.1; omega
          · have := h.1; omega
          · exact h
        · -- else
          have h22 := of_decide_eq_false h22
          refine c_skip ?_
          refine crr (by kernel_rfl) rfl ?_   -- region 10
          refine c_ret (fr rfl ⟨abd ⟨fun h => (by cases h), fun h => ?_⟩, rfl⟩)
          exfalso
          rcases h with h | h | h | h | h <;> (have := h.1; omega)
/-- A marker behind a place: a variable, and two rows. -/
structure MkS (n0 b : Nat) (p q : Int) (rg rb : Option Nat) (g bl : List Int) (st : St) : Prop where
  hb : n0 ≤ b ∧ b < st.n ∧ st.ob b = .row true [I p, .sl rg 0 g.length, .sl rb 0 bl.length, I q]
  hg : Fr n0 st rg g
  hbl : Fr n0 st rb bl
  d : ∀ i, rg = some i → rb ≠ some i
theorem MkS.ex {n0 b : Nat} {p q : Int} {rg rb : Option Nat} {g bl : List Int} {st st' : St} (h : MkS n0 b p q rg rb g bl st) (he : Ex st st') : MkS n0 b p q rg rb g bl st' := by
  obtain ⟨⟨a1, a2, a3⟩, hg, hbl, d⟩ := h
  have := he.n
  exact ⟨⟨a1, by omega, by rw [he.ob b a2 id]; exact a3⟩, hg.ex he, hbl.ex he, d⟩
theorem MkS.apart {n0 b : Nat} {p q : Int} {rg rb : Option Nat} {g bl : List Int} {st : St} (h : MkS n0 b p q rg rb g bl st) : (∀ i, rg = some i → i ≠ b) ∧ ∀ i, rb = some i → i ≠ b := by
  obtain ⟨⟨a1, a2, a3⟩, hg, hbl, d⟩ := h
  refine ⟨fun i hi e => ?_, fun i hi e => ?_⟩
  all_goals
    subst hi; subst e
  · have := hg.ob.2.2; rw [a3] at this
    injection this with _ this
    match g, this with
    | [], this => cases this
    | [_], this => cases this
    | x :: y :: g, this => injection this with _ this; injection this with this _; cases this
  · have := hbl.ob.2.2; rw [a3] at this
    injection this with _ this
    match bl, this with
    | [], this => cases this
    | [_], this => cases this
    | x :: y :: g, this => injection this with _ this; injection this with this _; cases this
/-- A value has been shaded there. -/
def MkP (n0 b : Nat) (p q : Int) (rg rb : Option Nat) (n : Nat) (g bl : List Int) : AV → St → Prop := fun v st' => v = .tup [] ∧ ∃ rg', MkS n0 b p q rg' rb g bl st' ∧ ∀ i, rg' = some i → rg = some i ∨ n ≤ i
theorem shade_c (n0 b : Nat) (p q v : Int) (r rg rb : Option Nat) (o n : Nat) (l g bl : List Int) (st : St) (hx : At st r o (kindsL l)) (hl : l.length ≤ 2000) (hn : n = l.length) (h : MkS n0 b p q rg rb g bl st) (hn0 : n0 ≤ st.n)
    (hlg : g.length ≤ 1073741824) (hlb : bl.length ≤ 1073741824) :
    ACalls Tryz.prog 70 [.sl r o n, .ptr (some b) 0, I v] st (fun i => i = b ∨ rg = some i) (MkP n0 b p q rg rb st.n (cond (bd (Ld l v)) (shd p g bl v) g) bl) := by
  obtain ⟨ap1, ap2⟩ := h.apart
  obtain ⟨⟨a1, a2, a3⟩, hg, hbl, d⟩ := h
  have c0 : cell st (some b) 0 = some (I p) := by rw [cell_row a2 a3]; rfl
  have c1 : cell st (some b) 1 = some (.sl rg 0 g.length) := by rw [cell_row a2 a3]; rfl
  have c2 : cell st (some b) 2 = some (.sl rb 0 bl.length) := by rw [cell_row a2 a3]; rfl
  have hld : Ld l v → 4 ≤ v % 8 := fun h => by rcases h with h | h | h | h | h <;> (have := h.1; omega)
  refine ent (N := 47) Tryz.func70 rfl (by decide) rfl rfl rfl ?_
  refine c_sj (α := Bool) (fun x => [(1, .ptr (some b) 0), (2, I v), (35, .bool x)]) (fun _ => []) (fun x st' => st = st' ∧ (x = true ↔ Ld l v ∧ p = 1 ∧ v / 8 ∉ g ∧ v / 8 ∉ bl)) ?_ ?_
  · -- region 0
    refine cd1 [0, 1, 2, 3, 4, 5, 6, 7, 8, 9, 10, 11, 12, 13, 14, 15, 16, 17, 18, 19, 20, 21, 22, 23, 24, 25, 26, 27, 28, 29] [.q, .q, .q, .q, .q, .q, .q, .q, .f, .q, .q, .q, .q, .q, .q, .q, .f, .f, .q, .q, .q, .q, .q, .q, .q, .q, .f, .f, .q, .q] (by kernel_rfl) (by kernel_rfl) ?_
    refine sr 3 rfl ?_
    refine s_op rfl (old rfl rfl c0 ?_)
    refine sr 2 rfl ?_
    refine s_bool 11 rfl rfl (fun h11 => ?_) (fun h11 => ?_)
    · -- slot 11 true
      have h11 := of_decide_eq_true h11
      refine sr 2 rfl ?_
      refine s_op rfl (o_pure loud_f rfl (leads_c r o n l v _ hx hl hn) ?_)
      refine sr 2 rfl ?_
      refine s_bool 16 rfl rfl (fun h16 => ?_) (fun h16 => ?_)
      · -- slot 16 true
        have h16 := bdt.1 h16
        refine sr 3 rfl ?_
        refine s_op rfl (old rfl rfl c1 ?_)
        refine sr 1 rfl ?_
        refine s_op rfl (o_pure loud_f rfl (iNum_c ..) ?_)
        refine s_op rfl (o_pure loud_f rfl (Contains_c (hx := hg.at_) (hl := by omega) ..) ?_)
        refine sr 3 rfl ?_
        refine s_bool 26 rfl rfl (fun h26 => ?_) (fun h26 => ?_)
        · -- slot 26 true
          have h26 := nbt h26
          refine sr 3 rfl ?_
          refine s_op rfl (old rfl rfl c2 ?_)
          refine sr 1 rfl ?_
          refine s_op rfl (o_pure loud_f rfl (iNum_c ..) ?_)
          refine s_op rfl (o_pure loud_f rfl (Contains_c (hx := hbl.at_) (hl := by omega) ..) ?_)
          refine sra rfl ⟨_, ⟨rfl, rfl, rfl, trivial⟩, trivial, rfl, ?_⟩
          exact ⟨fun h => ⟨h16, h11, h26, nbt h⟩, fun h => (by rw [bdf.2 h.2.2.2]; rfl)⟩
        · -- slot 26 false
          have h26 := nbf h26
          refine sra rfl ⟨_, ⟨rfl, rfl, rfl, trivial⟩, trivial, rfl, fun h => (by cases h), fun h => absurd h26 h.2.2.1⟩
      · -- slot 16 false
        have h16 := bdf.1 h16
        refine sr 10 rfl ?_
        refine s_bool 26 rfl rfl (fun h26 => by cases h26) (fun h26 => ?_)
        refine sra rfl ⟨_, ⟨rfl, rfl, rfl, trivial⟩, trivial, rfl, fun h => (by cases h), fun h => absurd h.1 h16⟩
    · -- slot 11 false
      have h11 := of_decide_eq_false h11
      refine sr 5 rfl ?_
      refine s_bool 16 rfl rfl (fun h16 => by cases h16) (fun h16 => ?_)
      refine sr 10 rfl ?_
      refine s_bool 26 rfl rfl (fun h26 => by cases h26) (fun h26 => ?_)
      refine sra rfl ⟨_, ⟨rfl, rfl, rfl, trivial⟩, trivial, rfl, fun h => (by cases h), fun h => absurd h.2.1 h11⟩
  rintro x st1 ⟨rfl, hx1⟩
  refine c_if rfl (fun h35 => ?_) (fun h35 => ?_)
  · -- then
    have h35 := hx1.1 h35
    have es : cond (bd (Ld l v)) (shd p g bl v) g = g ++ [v / 8] := by rw [bdt.2 h35.1]; show shd p g bl v = _; rw [shd, if_pos ⟨h35.2.1, hld h35.1, h35.2.2⟩]
    rw [es]
    refine cdv1 [0] [1, 2, 3, 4, 5, 6, 7, 8, 9, 10, 11] [.q, .q, .q, .q, .q, .f, .f, .n, .q, .q, .n] (by kernel_rfl) (by kernel_rfl) ?_   -- region 1
    refine sr 4 rfl ?_
    refine s_op rfl (old rfl rfl c1 ?_)
    refine sr 1 rfl ?_
    refine s_op rfl (o_pure loud_f rfl (iNum_c ..) ?_)
    refine s_op rfl (oints [v / 8] loud_f rfl (by decide) rfl rfl rfl fun pq st3 hp e3 => ?_)
    have hg3 := hg.ex e3
    have e3n := e3.n
    refine s_op rfl (oappT (fun i hi _ => .inr hi) (by omega) rfl rfl rfl hg3 rfl hp.at_ (by simp; omega) fun q2 st4 hq4 hn4 e4 => ?_)
    have e4n := e4.n
    have hb4 : st4.ob b = .row true [I p, .sl rg 0 g.length, .sl rb 0 bl.length, I q] := by rw [e4.ob b (by omega) (fun e => ap1 _ e rfl), e3.ob b a2 id]; exact a3
    have hbl4 : Fr n0 st4 rb bl := (hbl.ex e3).ext e4 (fun i hi hi' => d i hi' hi)
    refine sr 2 rfl ?_
    refine s_op rfl (ost rfl rfl (by omega) (fun _ => .inl rfl) hb4 rfl rfl rfl (by simp) ?_)
    refine s_end ?_
    refine frn rfl ⟨rfl, q2, ⟨⟨a1, by show b < st4.n; omega, set_ob _ _ _⟩, hq4.ext (ext_set st4 b _) (fun i hi e => by have := hn4 i hi; omega), hbl4.ext (ext_set st4 b _) (fun i hi e => ap2 i hi e), fun i hi hi' => ?_⟩, fun i hi => .inr (by have := hn4 i hi; omega)⟩
    have := hn4 i hi
    have := hbl.bd i hi'
    omega
  · -- else
    have h35 : ¬ _ := fun h => by have := hx1.2 h; rw [h35] at this; cases this
    have es : cond (bd (Ld l v)) (shd p g bl v) g = g := by
      cases hb : bd (Ld l v) with
      | false => rfl
      | true => show shd p g bl v = _; rw [shd, if_neg (fun h => h35 ⟨bdt.1 hb, h.1, h.2.2⟩)]
    rw [es]
    refine c_skip ?_
    exact frn rfl ⟨rfl, rg, ⟨⟨a1, a2, a3⟩, hg, hbl, d⟩, fun i hi => .inl hi⟩
theorem ld_vb {l : List Int} {v : Int} (h : Leads l v 5) (h4 : 4 ≤ v % 8) : Ld l v := by
  obtain ⟨hv, a4, a5, a6, a7⟩ := h
  rcases (show v % 8 = 4 ∨ v % 8 = 5 ∨ v % 8 = 6 ∨ v % 8 = 7 by omega) with e | e | e | e
  · exact .inl ⟨e, a4 e⟩
  · exact .inr (.inl ⟨e, a5 e⟩)
  · exact .inr (.inr (.inl ⟨e, a6 e⟩))
  · exact .inr (.inr (.inr (.inr ⟨e, a7 e⟩)))
theorem shd_ld {l : List Int} {p : Int} {g b : List Int} {v : Int} (h : 4 ≤ v % 8 → Ld l v) : cond (bd (Ld l v)) (shd p g b v) g = shd p g b v := by
  cases hb : bd (Ld l v) with
  | true => rfl
  | false =>
    show g = _
    rw [shd, if_neg (fun hh => (bdf.1 hb) (h hh.2.1))]
theorem iStart_c (r rr : Option Nat) (o or : Nat) (l rs : List Int) (st : St) (hx : At st r o l) (hy : At st rr or rs) (hl : l.length ≤ 1048576) (hlr : rs.length ≤ 1048576) :
    ACalls Tryz.prog 28 [.agg [.sl r o l.length], .sl rr or rs.length] st No (Mr st (stP l rs) (stG l rs) [] 0) := by
  refine ent (N := 28) Tryz.func28 rfl (by decide) rfl rfl rfl ?_
  refine crr (by kernel_rfl) rfl ?_   -- region 0
  refine c_seq ?_
  refine c_rs (by kernel_rfl) ?_   -- region 1
  refine sr 2 rfl ?_
  refine s_op rfl (o_ex loud_n rfl (iRootsOk_c _ _ _ _ _ _ _ hx hy hl hlr) ?_)
  rintro v1 st1 rfl e1
  refine sra rfl ?_
  have hx1 := hx.ex e1
  have n1 := e1.n
  refine c_if rfl (fun h12 => ?_) (fun h12 => ?_)
  · -- then
    have h12 := nbt h12
    have ep : stP l rs = 0 := by rw [stP, bdf.2 h12]; rfl
    have eg : stG l rs = [] := by rw [stG, bdf.2 h12]; rfl
    rw [ep, eg]
    refine crr (by kernel_rfl) rfl ?_   -- region 2
    exact c_ret (fr rfl ⟨none, none, rfl, fr_nil _ _, fr_nil _ _, fun i h => (by cases h)⟩)
  · -- else
    have h12 := nbf h12
    have ep : stP l rs = 1 := by rw [stP, bdt.2 h12]; rfl
    have eg : stG l rs = rs.foldl ad [] := by rw [stG, bdt.2 h12]; rfl
    have hlen := okB_len h12.1.1
    rw [ep, eg]
    refine c_skip ?_
    refine c_rs (by kernel_rfl) ?_   -- region 3
    refine sr 1 rfl ?_
    refine s_op rfl (oallocP loud_n rfl fun b st2 hbe n2 ob2 e2 => ?_)
    refine s_op rfl (ostP rfl rfl (by omega) (fun h => absurd h (by omega)) ob2 rfl rfl rfl (by decide) fun st3 n3 ob3 e3 => ?_)
    refine s_end ?_
    have he3 : Ext (fun i => st.n ≤ i) st st3 := (e1.tr e2).over.over e3 (fun i e => by omega)
    have hm3 : MkS st.n b 1 0 none none [] [] st3 := ⟨⟨by omega, by omega, ob3⟩, fr_nil _ _, fr_nil _ _, fun i h => (by cases h)⟩
    refine c_rs (by kernel_rfl) ?_   -- region 4
    refine sr 1 rfl ?_
    refine s_op rfl (o_ex loud_n rfl (kinds_c _ _ _ _ (hx.over he3) (by omega)) ?_)
    rintro v4 st4 ⟨kr, rfl, hk4⟩ e4
    refine sra rfl ?_
    have hkb := hk4.bd kr rfl
    refine c_seq ?_
    refine crr (by kernel_rfl) rfl ?_   -- region 5
    refine c_block ?_
    refine c_lp (α := Nat × Option Nat) (fun i => [(5, .ptr (some b) 0), (6, .sl (some kr) 0 (kindsL l).length), (17, .sl rr or rs.length), (18, I rs.length), (19, I i.1)]) (fun _ => [(4, 4, [I 0, .sl none 0 0, .sl none 0 0, I 0])])
      (fun i st' => i.1 ≤ rs.length ∧ Ext (fun i => st.n ≤ i) st st' ∧ st4.n ≤ st'.n ∧ MkS st.n b 1 0 i.2 none ((rs.take i.1).foldl ad []) [] st' ∧ Fr st3.n st' (some kr) (kindsL l) ∧ ∀ k, i.2 = some k → kr < k) (fun i => rs.length - i.1) (0, none) ⟨rfl, rfl, rfl, rfl, rfl, trivial⟩ ⟨rfl, rfl, trivial⟩
      ⟨Nat.zero_le _, he3.over e4 (fun i h => h.elim), Nat.le_refl _, hm3.ex e4, hk4, fun k h => (by cases h)⟩ ?_
    rintro ⟨i, q⟩ st5 ⟨hi, he, hn5, hm, hk, hq⟩
    dsimp only at *
    have hol : ((rs.take i).foldl ad []).length ≤ 2000 := ((ord_nil l).all fun v hv => rts_vb h12 v (List.mem_of_mem_take hv)).len
    refine crr (by kernel_rfl) rfl ?_   -- region 6
    refine c_seq ?_
    refine c_if rfl (fun h20 => ?_) (fun h20 => ?_)
    · -- then
      have h20 := of_decide_eq_true h20
      have hrd : rd rs i ∈ rs := mem_rd (by omega)
      refine c_skip ?_
      refine c_seq ?_
      refine c_block ?_
      refine c_rs (by kernel_rfl) ?_   -- region 7
      refine s_op rfl (oidx rfl rfl rfl (by omega) (by omega) ?_)   -- 21 := indexAddr 22 (tmp 17) (tmp 19)
      refine s_op rfl (old rfl rfl ((hy.over he).rd (by omega) (by omega)) ?_)   -- 22 := load 3 (tmp 21)
      refine sra rfl ?_
      refine c_region (by kernel_rfl) ?_   -- region 8
      refine sr 2 rfl ?_
      have T5 : ∀ j, (j = b ∨ q = some j) → st.n ≤ j := fun j hj => by
        rcases hj with rfl | hj
        · omega
        · exact (hm.hg.bd j hj).1
      refine s_op rfl (o_call rfl (shade_c st.n b 1 0 (rd rs i) _ q none 0 _ l _ [] _ hk.at_ (by omega) (kindsL_len l) hm he.n (by omega) (by simp)) (fun j hj ht => absurd hj (by have := T5 j ht; omega)) (.inl rfl) ?_)
      rintro v6 st6 ⟨rfl, q6, hm6, hq6⟩ e6
      have he6 := he.over e6 T5
      have hk6 : Fr st3.n st6 (some kr) (kindsL l) := hk.ext e6 (fun j hj ht => by
        injection hj with hj
        rcases ht with ht | ht
        · omega
        · have := hq j ht; omega)
      rw [shd_ld (fun h4 => ld_vb (h12.2 _ hrd) h4), shd_ad, ← foldl_rd _ _ _ (by omega)] at hm6
      have n6 := e6.n
      refine s_end ?_
      refine c_region (by kernel_rfl) ?_   -- region 9
      refine s_op rfl (o_ar rfl rfl rfl (by omega) (by omega) ?_)   -- 26 := binOp BinOp.add 3 (tmp 19) (const (Value.int IntKind.i64 1)) 3
      refine sra rfl ?_
      refine ⟨(i + 1, q6), ⟨rfl, rfl, rfl, rfl, rfl, trivial⟩, ⟨rfl, rfl, trivial⟩, ⟨by dsimp only; omega, he6, by omega, hm6, hk6, fun k hk' => ?_⟩, by dsimp only; omega⟩
      rcases hq6 k hk' with h | h
      · exact hq k h
      · omega
    · -- else
      have h20 := of_decide_eq_false h20
      have hie : rs.take i = rs := List.take_of_length_le (by omega)
      rw [hie] at hm
      obtain ⟨⟨a1, a2, a3⟩, hg, hbl, d⟩ := hm
      refine c_exit ?_
      refine c_rs (by kernel_rfl) ?_   -- region 10
      refine s_op rfl (oldS rfl rfl rfl a2 a3 rfl ?_)
      refine sra rfl ?_
      exact c_ret (fr rfl ⟨q, none, rfl, hg, fr_nil _ _, fun i _ h => (by cases h)⟩)
end Go.Proofs.YtfhkjhnaihhdmaaGreatW.Ax

/- Pieces of what markers ask for: Concat, IsSorted, kinds of any slab: walked. -/
namespace Go.Proofs.YtfhkjhnaihhdmaaGreatW.Ax
open Go Go.RowKit Go.Proofs Go.Proofs.YtfhkjhnaihhdmaaGreat.Pure
set_option linter.unusedVariables false
set_option maxRecDepth 100000

theorem kindsB_c (r : Option Nat) (o : Nat) (l : List Int) (st : St) (hx : At st r o l) (hl : l.length ≤ 1048576) : ACalls Tryz.prog 71 [.agg [.sl r o l.length]] st No (Ro st (kindsL l)) := by
  refine ent (N := 38) Tryz.func71 rfl (by decide) rfl rfl rfl ?_
  refine crr (by kernel_rfl) rfl ?_   -- region 0
  refine c_rs (by kernel_rfl) ?_   -- region 1
  refine sr 3 rfl ?_
  refine s_op rfl (omkI loud_n rfl rfl rfl (by omega) (by omega) ?_)   -- 10 := makeSlice 22 (tmp 9) (tmp 9)
  refine sra rfl ?_
  refine c_seq ?_
  refine crr (by kernel_rfl) rfl ?_   -- region 2
  refine c_block ?_
  refine c_lp (α := Nat) (fun i => [(3, .sl (some st.n) 0 l.length), (12, I l.length), (13, I i)]) (fun _ => [(1, 1, [.sl r o l.length])]) (fun i st' => i ≤ l.length ∧ Ex st st' ∧ Fr st.n st' (some st.n) (List.replicate i (-1) ++ List.replicate (l.length - i) 0)) (fun i => l.length - i) 0 ⟨rfl, rfl, rfl, trivial⟩ ⟨rfl, rfl, trivial⟩
    ⟨by omega, ex_push _ _, by simpa using fr_push st (List.replicate l.length 0)⟩ ?_
  rintro i st1 ⟨hi, he, hf⟩
  refine crr (by kernel_rfl) rfl ?_   -- region 3
  refine c_seq ?_
  refine c_if rfl (fun h14 => ?_) (fun h14 => ?_)
  · -- then
    have h14 := of_decide_eq_true h14
    refine c_skip ?_
    refine c_seq ?_
    refine c_block ?_
    refine crr (by kernel_rfl) rfl ?_   -- region 4
    refine c_region (by kernel_rfl) ?_   -- region 5
    refine sr 2 rfl ?_
    refine s_op rfl (oidx rfl rfl rfl (by omega) (by omega) ?_)   -- 18 := indexAddr 22 (tmp 16) (tmp 17)
    refine s_op rfl (ostF rfl rfl hf rfl rfl (by simp; omega) fun st2 hf2 he2 => ?_)
    refine s_end ?_
    refine c_region (by kernel_rfl) ?_   -- region 6
    refine s_op rfl (o_ar rfl rfl rfl (by omega) (by omega) ?_)   -- 19 := binOp BinOp.add 3 (tmp 13) (const (Value.int IntKind.i64 1)) 3
    refine sra rfl ?_
    refine ⟨i + 1, ⟨rfl, rfl, rfl, trivial⟩, ⟨rfl, rfl, trivial⟩, ⟨by omega, he.own hf he2, ?_⟩, by omega⟩
    rw [← ones_set l.length i (by omega)]
    simpa using hf2
  · -- else
    have h14 := of_decide_eq_false h14
    have hi' : i = l.length := by omega
    subst hi'
    rw [Nat.sub_self, List.replicate_zero, List.append_nil, ← kl_zero] at hf
    refine c_exit ?_
    refine c_seq ?_
    refine c_rs (by kernel_rfl) ?_   -- region 7
    refine sr 1 rfl ?_
    refine s_op rfl (o_ex loud_n rfl (iBlocks_c _ _ _ _ (hx.ex he)) ?_)
    rintro v2 st2 ⟨p, rfl, hp⟩ e2
    refine sra rfl ?_
    refine c_block ?_
    have hbl := blocks_lel l
    refine c_lp (α := Nat) (fun i => [(3, .sl (some st.n) 0 l.length), (21, .sl p 0 (blocks l).length), (22, I (blocks l).length), (23, I i)]) (fun _ => [(1, 1, [.sl r o l.length])]) (fun j st' => j ≤ (blocks l).length ∧ Ex st st' ∧ At st' p 0 (blocks l) ∧ (∀ i, p = some i → st1.n ≤ i) ∧ Fr st.n st' (some st.n) (kl l j)) (fun j => (blocks l).length - j) 0 ⟨rfl, rfl, rfl, rfl, trivial⟩ ⟨rfl, rfl, trivial⟩
      ⟨by omega, he.tr e2, hp.at_, fun i hi => (hp.bd i hi).1, hf.ex e2⟩ ?_
    rintro j st3 ⟨hj, he3, hpa, hpb, hf3⟩
    refine crr (by kernel_rfl) rfl ?_   -- region 8
    refine c_seq ?_
    refine c_if rfl (fun h24 => ?_) (fun h24 => ?_)
    · -- then
      have h24 := of_decide_eq_true h24
      have hjl : j < (blocks l).length := by omega
      have hmem : rd (blocks l) j ∈ blocks l := by
        rw [rd_nat]; simp only [List.getD, List.getElem?_eq_getElem hjl, Option.getD_some]; exact List.getElem_mem hjl
      obtain ⟨b, hb1, hb2, hb3⟩ := blocks_mem hmem
      refine c_skip ?_
      refine c_seq ?_
      refine c_block ?_
      refine c_rs (by kernel_rfl) ?_   -- region 9
      refine s_op rfl (oidx rfl rfl rfl (by omega) (by omega) ?_)   -- 25 := indexAddr 22 (tmp 21) (tmp 23)
      refine s_op rfl (old rfl rfl (hpa.rd (by omega) (by omega)) ?_)   -- 26 := load 3 (tmp 25)
      rw [hb1]
      refine sra rfl ?_
      refine c_region (by kernel_rfl) ?_   -- region 10
      refine sr 5 rfl ?_
      refine s_op rfl (oidx rfl rfl rfl (by omega) (by omega) ?_)   -- 32 := indexAddr 22 (tmp 30) (tmp 31)
      refine s_op rfl (old rfl rfl ((hx.ex he3).rd (by omega) (by omega)) ?_)   -- 33 := load 3 (tmp 32)
      refine sr 1 rfl ?_
      refine s_op rfl (oidx rfl rfl rfl (by omega) (by omega) ?_)   -- 35 := indexAddr 22 (tmp 27) (tmp 28)
      refine s_op rfl (ostF rfl rfl hf3 rfl rfl (by rw [kl_len]; omega) fun st4 hf4 he4 => ?_)
      refine s_end ?_
      refine c_region (by kernel_rfl) ?_   -- region 11
      refine s_op rfl (o_ar rfl rfl rfl (by omega) (by omega) ?_)   -- 36 := binOp BinOp.add 3 (tmp 23) (const (Value.int IntKind.i64 1)) 3
      refine sra rfl ?_
      have hlt : st.n < st1.n := hf.ob.2.1
      refine ⟨j + 1, ⟨rfl, rfl, rfl, rfl, trivial⟩, ⟨rfl, rfl, trivial⟩, ⟨by omega, he3.own hf3 he4, hpa.ext he4 (fun i hi e => by have := hpb i hi; injection e with e; omega), hpb, ?_⟩, by omega⟩
      rw [← kl_set l j b hjl hb1]
      have e : rd l (b : Int) % 8 = kindOf l b := rd_kind l b
      rw [← e]
      simpa using hf4
    · -- else
      have h24 := of_decide_eq_false h24
      refine c_exit ?_
      refine crr (by kernel_rfl) rfl ?_   -- region 12
      rw [kl_all l j (by omega)] at hf3
      refine c_ret (fr rfl ⟨st.n, ?_, hf3⟩)
      rw [kindsL_len]
theorem jSlabOk_c (r : Option Nat) (o : Nat) (l : List Int) (st : St) (hx : At st r o l) : ACalls Tryz.prog 86 [.agg [.sl r o l.length]] st No (Pv (.bool (okB l))) := by
  refine ent (N := 11) Tryz.func86 rfl (by decide) rfl rfl rfl ?_
  refine crr (by kernel_rfl) rfl ?_   -- region 0
  refine c_rs (by kernel_rfl) ?_   -- region 1
  refine sr 1 rfl ?_
  refine s_op rfl (o_ex loud_n rfl (places_c _ _ _ _ hx) ?_)
  rintro v1 st1 ⟨q, rfl, hf⟩ e1
  refine sra rfl ?_
  refine crr (by kernel_rfl) rfl ?_   -- region 2
  exact c_ret (fr rfl rfl)
/-- An empty slice with room. -/
def Em (st : St) : AV → St → Prop := fun v st' => ∃ r, v = .sl r 0 0 ∧ Fr st.n st' r []
theorem Grow_c (n : Nat) (st : St) (hn : n ≤ 1073741824) : ACalls Tryz.prog 185 [.sl none 0 0, I n] st No (Em st) := by
  refine ent (N := 27) Tryz.func185 rfl (by decide) rfl rfl rfl ?_
  refine crr (by kernel_rfl) rfl ?_   -- region 0
  refine c_seq ?_
  refine crr (by kernel_rfl) rfl ?_   -- region 1
  refine c_if rfl (fun h6 => by have := of_decide_eq_true h6; omega) (fun h6 => ?_)
  refine c_skip ?_
  refine c_seq ?_
  refine c_rs (by kernel_rfl) ?_   -- region 3
  refine sr 2 rfl ?_
  refine s_op rfl (ocapN rfl rfl rfl ?_)
  refine sr 2 rfl ?_
  refine s_op rfl (o_ar rfl rfl rfl (by simp) (by simp) ?_)
  refine s_op rfl (o_ar rfl rfl rfl (by simp <;> omega) (by simp <;> omega) ?_)
  refine sra rfl ?_
  refine crr (by kernel_rfl) rfl ?_   -- region 4
  have e0 : (n : Int) - (0 - ((0 : Nat) : Int)) = n := by omega
  rw [e0]
  refine c_if rfl (fun h16 => ?_) (fun h16 => ?_)
  · have h16 := of_decide_eq_true h16
    refine c_region (by kernel_rfl) ?_   -- region 5
    refine sr 2 rfl ?_
    refine s_op rfl (ocapN rfl rfl rfl ?_)
    refine s_op rfl (oslice rfl rfl rfl rfl (by omega) (by omega) (by omega) ?_)
    refine sr 1 rfl ?_
    refine s_op rfl (oappZ loud_n rfl rfl rfl rfl rfl h16 (by omega) ?_)
    have hf := fr_push st (List.replicate (n : Int).toNat 0)
    have he := ex_push st (.row true ((List.replicate (n : Int).toNat 0).map I))
    generalize hst : st.push (.row true ((List.replicate (n : Int).toNat 0).map I)) = st1 at hf he ⊢
    have hn1 := he.n
    refine sr 2 rfl ?_
    refine s_op rfl (orecut rfl rfl rfl rfl (Int.le_refl _) (Int.le_refl _) (by omega) (by simp) hf hn1 (fun h => absurd h (by omega)) fun r2 st2 hf2 hr2 he2 => ?_)
    refine sra rfl ?_
    refine crr (by kernel_rfl) rfl ?_   -- region 6
    refine c_ret (fr rfl ⟨some r2, ?_, ?_⟩)
    · simp
    · simpa using hf2
  · refine c_skip ?_
    refine crr (by kernel_rfl) rfl ?_   -- region 6
    exact c_ret (fr rfl ⟨none, rfl, fr_nil _ _⟩)
/-- A row of rows. -/
def Rows (st : St) (b : Nat) (X : List (List Int)) : Prop := ∀ i : Nat, i < X.length → ∃ r, cell st (some b) i = some (.sl r 0 (X.getD i []).length) ∧ At st r 0 (X.getD i [])
theorem At.bd {st : St} {r : Option Nat} {o : Nat} {l : List Int} (h : At st r o l) (hl : l ≠ []) : ∀ i, r = some i → i < st.n := fun i hi => by
  have := h 0 (by cases l with | nil => exact absurd rfl hl | cons x l => simp)
  exact cell_lt this hi
theorem take_flat (X : List (List Int)) (i : Nat) (h : i < X.length) : (X.take (i + 1)).flatten = (X.take i).flatten ++ X.getD i [] := by
  have : X.take (i + 1) = X.take i ++ [X.getD i []] := by
    rw [List.take_add_one]; simp [h]
  rw [this]; simp
theorem take_flat_le (X : List (List Int)) (i : Nat) : (X.take i).flatten.length ≤ X.flatten.length := by
  have : X.flatten = (X.take i).flatten ++ (X.drop i).flatten := by rw [← List.flatten_append, List.take_append_drop]
  rw [this]; simp
theorem Concat_c (b : Nat) (X : List (List Int)) (st : St) (hX : Rows st b X) (hl : X.length ≤ 1000) (ht : X.flatten.length ≤ 1073741824) : ACalls Tryz.prog 154 [.sl (some b) 0 X.length] st No (Rn st X.flatten) := by
  refine ent (N := 36) Tryz.func154 rfl (by decide) rfl rfl rfl ?_
  refine crr (by kernel_rfl) rfl ?_   -- region 0
  refine crr (by kernel_rfl) rfl ?_   -- region 1
  refine c_seq ?_
  refine crr (by kernel_rfl) rfl ?_   -- region 2
  refine c_block ?_
  refine c_lp (α := Nat) (fun i => [(0, .sl (some b) 0 X.length), (3, I (X.take i).flatten.length), (9, .sl (some b) 0 X.length), (10, I X.length), (11, I i)]) (fun _ => []) (fun i st' => st = st' ∧ i ≤ X.length) (fun i => X.length - i) 0 ⟨rfl, rfl, rfl, rfl, rfl, trivial⟩ trivial ⟨rfl, Nat.zero_le _⟩ ?_
  rintro i st1 ⟨rfl, hi⟩
  have hfl := take_flat_le X i
  refine crr (by kernel_rfl) rfl ?_   -- region 3
  refine c_seq ?_
  refine c_if rfl (fun h12 => ?_) (fun h12 => ?_)
  · have h12 := of_decide_eq_true h12
    obtain ⟨ri, hc, hai⟩ := hX i (by omega)
    refine c_skip ?_
    refine c_seq ?_
    refine c_block ?_
    refine c_rs (by kernel_rfl) ?_   -- region 4
    refine s_op rfl (oidx rfl rfl rfl (by omega) (by omega) ?_)
    refine s_op rfl (old rfl rfl (by rw [Nat.zero_add]; exact hc) ?_)
    refine sra rfl ?_
    have hfl1 := take_flat_le X (i + 1)
    have htf := take_flat X i (by omega)
    rw [htf, List.length_append] at hfl1
    refine c_rs (by kernel_rfl) ?_   -- region 5
    refine sr 3 rfl ?_
    refine s_op rfl (o_ar rfl rfl rfl (by omega) (by omega) ?_)
    refine sra rfl ?_
    refine crr (by kernel_rfl) rfl ?_   -- region 6
    refine c_if rfl (fun h20 => by have := of_decide_eq_true h20; omega) (fun h20 => ?_)
    refine c_skip ?_
    refine c_region (by kernel_rfl) ?_   -- region 8
    refine s_op rfl (o_ar rfl rfl rfl (by omega) (by omega) ?_)
    refine sra rfl ?_
    refine ⟨i + 1, ⟨rfl, ?_, rfl, rfl, rfl, trivial⟩, trivial, ⟨rfl, by omega⟩, by omega⟩
    show AV.int .i64 _ = AV.int .i64 _
    rw [htf, List.length_append, Int.natCast_add]
  · have h12 := of_decide_eq_false h12
    have hie : X.take i = X := List.take_of_length_le (by omega)
    rw [hie]
    refine c_exit ?_
    refine c_rs (by kernel_rfl) ?_   -- region 9
    refine sr 1 rfl ?_
    refine s_op rfl (o_ex loud_n rfl (Grow_c _ _ ht) ?_)
    rintro v1 st1 ⟨r1, rfl, hf1⟩ e1
    refine sra rfl ?_
    refine c_seq ?_
    refine crr (by kernel_rfl) rfl ?_   -- region 10
    refine c_block ?_
    refine c_lp (α := Nat × Option Nat) (fun i => [(6, .sl i.2 0 (X.take i.1).flatten.length), (25, .sl (some b) 0 X.length), (26, I X.length), (27, I i.1)]) (fun _ => []) (fun i st' => i.1 ≤ X.length ∧ Ex st st' ∧ Fr st.n st' i.2 (X.take i.1).flatten) (fun i => X.length - i.1) (0, r1) ⟨rfl, rfl, rfl, rfl, trivial⟩ trivial ⟨Nat.zero_le _, e1, hf1⟩ ?_
    rintro ⟨j, q⟩ st2 ⟨hj, he, hf⟩
    dsimp only at *
    have hfl := take_flat_le X j
    refine crr (by kernel_rfl) rfl ?_   -- region 11
    refine c_seq ?_
    refine c_if rfl (fun h28 => ?_) (fun h28 => ?_)
    · have h28 := of_decide_eq_true h28
      obtain ⟨ri, hc, hai⟩ := hX j (by omega)
      have hfl1 := take_flat_le X (j + 1)
      have htf := take_flat X j (by omega)
      rw [htf, List.length_append] at hfl1
      refine c_skip ?_
      refine c_seq ?_
      refine c_block ?_
      refine c_rs (by kernel_rfl) ?_   -- region 12
      refine s_op rfl (oidx rfl rfl rfl (by omega) (by omega) ?_)
      refine s_op rfl (old rfl rfl (by rw [Nat.zero_add]; exact cell_ext he hc (fun _ _ h => h)) ?_)
      refine sra rfl ?_
      refine c_region (by kernel_rfl) ?_   -- region 13
      refine sr 2 rfl ?_
      refine s_op rfl (oappF rfl rfl rfl hf rfl (hai.ex he) (by omega) fun r2 st3 hf3 he3 => ?_)
      refine sra rfl ?_
      rw [← htf] at hf3 ⊢
      refine c_region (by kernel_rfl) ?_   -- region 14
      refine s_op rfl (o_ar rfl rfl rfl (by omega) (by omega) ?_)
      exact sra rfl ⟨(j + 1, r2), ⟨rfl, rfl, rfl, rfl, trivial⟩, trivial, ⟨by dsimp only; omega, he.own hf he3, hf3⟩, by dsimp only; omega⟩
    · have h28 := of_decide_eq_false h28
      have hie : X.take j = X := List.take_of_length_le (by omega)
      rw [hie] at hf ⊢
      refine c_exit ?_
      refine crr (by kernel_rfl) rfl ?_   -- region 15
      exact c_ret (fr rfl ⟨q, rfl, hf⟩)
/-- Ascending. -/
def Srt (l : List Int) : Prop := ∀ i : Nat, i + 1 < l.length → rd l i ≤ rd l ((i : Int) + 1)
theorem IsSorted_c (r : Option Nat) (o : Nat) (l : List Int) (st : St) (hx : At st r o l) (hl : l.length ≤ 1099511627776) : ACalls Tryz.prog 155 [.sl r o l.length] st No (Pure1 (.bool (bd (Srt l))) st) := by
  refine ent (N := 21) Tryz.func155 rfl (by decide) rfl rfl rfl ?_
  refine crr (by kernel_rfl) rfl ?_   -- region 0
  refine c_seq ?_
  refine c_rs (by kernel_rfl) ?_   -- region 1
  refine sr 2 rfl ?_
  refine s_op rfl (o_ar rfl rfl rfl (by omega) (by omega) ?_)
  refine sra rfl ?_
  refine c_block ?_
  refine c_lp (α := Int) (fun i => [(0, .sl r o l.length), (3, I i)]) (fun _ => []) (fun i st' => st = st' ∧ -1 ≤ i ∧ i ≤ (l.length : Int) - 1 ∧ ∀ j : Nat, i ≤ j → j + 1 < l.length → rd l j ≤ rd l ((j : Int) + 1)) (fun i => (i + 1).toNat) ((l.length : Int) - 1) ⟨rfl, rfl, trivial⟩ trivial ⟨rfl, by omega, by omega, fun j h1 h2 => by omega⟩ ?_
  rintro i st1 ⟨rfl, h0, h1, hs⟩
  refine c_seq ?_
  refine crr (by kernel_rfl) rfl ?_   -- region 2
  refine c_if rfl (fun h8 => ?_) (fun h8 => ?_)
  · have h8 := of_decide_eq_true h8
    refine c_skip ?_
    refine c_seq ?_
    refine c_block ?_
    refine cds [0, 1, 2, 3, 4, 5, 6, 7, 8, 9] [.q, .q, .q, .q, .q, .q, .q, .q, .q, .f] (by kernel_rfl) (by kernel_rfl) ?_   -- region 4
    refine sr 2 rfl ?_
    refine s_op rfl (oidx rfl rfl rfl (by omega) (by omega) ?_)
    refine s_op rfl (old rfl rfl (hx.rd (by omega) (by omega)) ?_)
    refine sr 2 rfl ?_
    refine s_op rfl (o_ar rfl rfl rfl (by omega) (by omega) ?_)
    refine s_op rfl (oidx rfl rfl rfl (by omega) (by omega) ?_)
    refine s_op rfl (old rfl rfl (hx.rd (by omega) (by omega)) ?_)
    refine s_op rfl (o_pure loud_f rfl (Less_c ..) ?_)
    refine s_end ?_
    refine c_if rfl (fun h20 => ?_) (fun h20 => ?_)
    · have h20 := of_decide_eq_true h20
      refine crr (by kernel_rfl) rfl ?_   -- region 5
      refine c_ret (fr rfl ⟨?_, rfl⟩)
      have : ¬ Srt l := fun h => by
        have := h (i - 1).toNat (by omega)
        rw [show (((i - 1).toNat : Nat) : Int) = i - 1 by omega, show i - 1 + 1 = i by omega] at this
        omega
      rw [bdf.2 this]
    · have h20 := of_decide_eq_false h20
      refine c_skip ?_
      refine c_region (by kernel_rfl) ?_   -- region 3
      refine sr 1 rfl ?_
      refine s_op rfl (o_ar rfl rfl rfl (by omega) (by omega) ?_)
      refine sra rfl ⟨i - 1, ⟨rfl, rfl, trivial⟩, trivial, ⟨rfl, by omega, by omega, fun j h2 h3 => ?_⟩, by omega⟩
      by_cases e : (j : Int) = i - 1
      · rw [e, show i - 1 + 1 = i by omega]; omega
      · exact hs j (by omega) h3
  · have h8 := of_decide_eq_false h8
    refine c_exit ?_
    refine crr (by kernel_rfl) rfl ?_   -- region 6
    refine c_ret (fr rfl ⟨?_, rfl⟩)
    have : Srt l := fun j hj => hs j (by omega) hj
    rw [bdt.2 this]
end Go.Proofs.YtfhkjhnaihhdmaaGreatW.Ax

/- Whether a marker is right, by the program: walked. -/
namespace Go.Proofs.YtfhkjhnaihhdmaaGreatW.Ax
open Go Go.RowKit Go.Proofs Go.Proofs.YtfhkjhnaihhdmaaGreat.Pure
set_option linter.unusedVariables false
set_option maxRecDepth 100000

theorem kindOf_nn (l : List Int) (n : Nat) : 0 ≤ kindOf l n := by unfold kindOf; omega
theorem kat_pos {l : List Int} {a : Int} : 0 < kat l a ↔ a ∈ blocks l ∧ kindOf l a.toNat ≠ 0 := by
  unfold kat
  have := kindOf_nn l a.toNat
  split
  · rename_i h
    exact ⟨fun h' => ⟨h, by omega⟩, fun h' => by omega⟩
  · rename_i h
    exact ⟨fun h' => by omega, fun h' => absurd h'.1 h⟩
theorem kat_nn {l : List Int} {a : Int} : 0 ≤ kat l a ↔ a ∈ blocks l := by
  unfold kat
  have := kindOf_nn l a.toNat
  split
  · rename_i h; exact ⟨fun _ => h, fun _ => by omega⟩
  · rename_i h; exact ⟨fun h' => by omega, fun h' => absurd h' h⟩
theorem srt_lt {b : List Int} (hs : Srt b) (hn : b.Nodup) : b.Pairwise (· < ·) := by
  have key : ∀ j i : Nat, i < j → j < b.length → b.getD i 0 ≤ b.getD j 0 := by
    intro j
    induction j with
    | zero => intro i h; omega
    | succ j ih =>
      intro i hi hj
      have h1 := hs j hj
      rw [rd_nat, show (j : Int) + 1 = ((j + 1 : Nat) : Int) by omega, rd_nat] at h1
      by_cases e : i = j
      · subst e; exact h1
      · exact Int.le_trans (ih i (by omega) (by omega)) h1
  refine List.pairwise_iff_getElem.2 fun i j hi hj hij => ?_
  have h1 := key j i hij hj
  simp only [List.getD, List.getElem?_eq_getElem hi, List.getElem?_eq_getElem hj, Option.getD_some] at h1
  have h2 : b[i] ≠ b[j] := List.pairwise_iff_getElem.1 hn i j hi hj hij
  omega
theorem isBlack_c (p q x : Int) (rg rb : Option Nat) (og ng : Nat) (b : List Int) (st : St) (hb : At st rb 0 b) (hs : b.Pairwise (· < ·)) (hl : b.length ≤ 1099511627776) :
    ACalls Tryz.prog 93 [.agg [I p, .sl rg og ng, .sl rb 0 b.length, I q], I x] st No (Pure1 (.bool (bd (x ∈ b))) st) := by
  refine ent (N := 15) Tryz.func93 rfl (by decide) rfl rfl rfl ?_
  refine crr (by kernel_rfl) rfl ?_   -- region 0
  refine c_rs (by kernel_rfl) ?_   -- region 1
  refine sr 3 rfl ?_
  refine s_op rfl (o_ex loud_n rfl (BinarySearch_c _ _ _ _ _ hb hs hl) ?_)
  rintro v3 st3 ⟨k, rfl, _, rfl⟩ e3
  refine sra rfl ?_
  refine crr (by kernel_rfl) rfl ?_   -- region 2
  refine c_ret (fr rfl ⟨?_, rfl⟩)
  rw [← bd_dec]
/-- Places of blocks that are not free, none twice; Black ascends. -/
def Mem (l g b : List Int) : Prop := Ord l (g ++ b) ∧ Srt b
theorem mem_take {l : List Int} {i : Nat} {x : Int} : x ∈ l.take i ↔ ∃ j : Nat, j < i ∧ j < l.length ∧ rd l j = x := by
  constructor
  · intro h
    obtain ⟨j, hj, e⟩ := List.getElem_of_mem h
    rw [List.length_take] at hj
    refine ⟨j, by omega, by omega, ?_⟩
    rw [rd_nat, ← e]
    simp [List.getD, show j < l.length by omega]
  · rintro ⟨j, h1, h2, rfl⟩
    rw [rd_nat]
    have : (l.take i)[j]? = some (l.getD j 0) := by rw [List.getElem?_take, if_pos h1]; simp [List.getD, h2]
    exact List.mem_of_getElem? this
theorem ord_step {l xs : List Int} {i : Nat} (hi : i < xs.length) (h : Ord l (xs.take i)) (h1 : rd xs i ∈ blocks l ∧ kindOf l (rd xs i).toNat ≠ 0) (h2 : rd xs i ∉ xs.take i) : Ord l (xs.take (i + 1)) := by
  have e : xs.take (i + 1) = xs.take i ++ [rd xs i] := by
    rw [List.take_add_one, rd_nat]; simp [hi, List.getD]
  rw [e]
  refine ⟨List.nodup_append.2 ⟨h.1, by simp, fun a ha b hb e => ?_⟩, fun a ha => ?_⟩
  · rw [List.mem_singleton] at hb; subst hb; subst e; exact h2 ha
  · rcases List.mem_append.1 ha with ha | ha
    · exact h.2 a ha
    · rw [List.mem_singleton] at ha; subst ha; exact h1
theorem ord_not {l xs : List Int} {i : Nat} (hi : i < xs.length) (h : Ord l xs) : (rd xs i ∈ blocks l ∧ kindOf l (rd xs i).toNat ≠ 0) ∧ rd xs i ∉ xs.take i := by
  refine ⟨h.2 _ (mem_rd hi), fun hm => ?_⟩
  obtain ⟨j, h1, h2, e⟩ := mem_take.1 hm
  rw [rd_nat, rd_nat] at e
  simp only [List.getD, List.getElem?_eq_getElem hi, List.getElem?_eq_getElem h2, Option.getD_some] at e
  exact List.pairwise_iff_getElem.1 h.1 j i h2 hi h1 e
theorem membersOk_c (p q : Int) (r rg rb : Option Nat) (o n : Nat) (l g b : List Int) (st : St) (hx : At st r o (kindsL l)) (hn : n = l.length) (hl : l.length ≤ 2000) (hg : At st rg 0 g) (hb : At st rb 0 b) (hlg : g.length ≤ 1073741824) (hlb : b.length ≤ 1073741824) (hgb : (g ++ b).length ≤ 1073741824) :
    ACalls Tryz.prog 87 [.sl r o n, .agg [I p, .sl rg 0 g.length, .sl rb 0 b.length, I q]] st No (Pv (.bool (bd (Mem l g b)))) := by
  refine ent (N := 44) Tryz.func87 rfl (by decide) rfl rfl rfl ?_
  refine crr (by kernel_rfl) rfl ?_   -- region 0
  refine c_rs (by kernel_rfl) ?_   -- region 1
  refine s_op rfl (o_makeMap loud_n ?_)
  have e1 := ex_push st (.map [])
  have ob1 := push_ob st (.map [])
  have n1 : (st.push (.map [])).n = st.n + 1 := rfl
  generalize st.push (.map []) = st1 at e1 ob1 n1 ⊢
  refine sra rfl ?_
  refine c_seq ?_
  refine c_rs (by kernel_rfl) ?_   -- region 2
  refine sr 4 rfl ?_
  refine s_op rfl (oblk [.sl rg 0 g.length, .sl rb 0 b.length] loud_n rfl (by decide) rfl rfl fun qb st2 hc2 e2 => ?_)
  have hX : Rows st2 qb [g, b] := fun i hi => by
    match i, hi with
    | 0, _ => exact ⟨rg, hc2 0, (hg.ex e1).ex e2⟩
    | 1, _ => exact ⟨rb, hc2 1, (hb.ex e1).ex e2⟩
  refine s_op rfl (o_ex loud_n rfl (Concat_c qb [g, b] st2 hX (by simp) (by simpa using hgb)) ?_)
  have eX : [g, b].flatten = g ++ b := by simp
  rw [eX]
  rintro v3 st3 ⟨rx, rfl, hf⟩ e3
  refine sra rfl ?_
  have e123 := (e1.tr e2).tr e3
  have n3 := e123.n
  have ob3 : st3.ob st.n = .map [] := by
    have := e2.n
    rw [e3.ob st.n (by omega) id, e2.ob st.n (by omega) id]; exact ob1
  have hrx : ∀ i, rx = some i → i ≠ st.n := fun i hi e => by
    have := hf.bd i hi
    have := e2.n
    omega
  have hlt3 : st.n < st3.n := by have := e2.n; have := e3.n; omega
  generalize hxs : g ++ b = xs at hf hgb ⊢
  have hxs' : (xs.take 0) = [] := rfl
  refine c_block ?_
  refine c_lp (α := Nat) (fun i => [(0, .sl r o n), (5, .map st.n), (14, .sl rx 0 xs.length), (15, I xs.length), (16, I i)]) (fun _ => [(3, 3, [I p, .sl rg 0 g.length, .sl rb 0 b.length, I q])])
    (fun i st' => i ≤ xs.length ∧ Ext (fun i => st.n ≤ i) st st' ∧ Fr st2.n st' rx xs ∧ (st.n < st'.n ∧ ∃ es, st'.ob st.n = .map es ∧ ∀ j, (mget es j).getD (.bool false) = .bool (decide (j ∈ xs.take i))) ∧ Ord l (xs.take i)) (fun i => xs.length - i) 0
    ⟨rfl, rfl, rfl, rfl, rfl, trivial⟩ ⟨rfl, rfl, trivial⟩ ⟨Nat.zero_le _, e123.over, hf, ⟨hlt3, [], ob3, fun j => rfl⟩, ord_nil l⟩ ?_
  rintro i st4 ⟨hi, he, hf4, ⟨hlt, es, hm, hget⟩, hord⟩
  refine crr (by kernel_rfl) rfl ?_   -- region 3
  refine c_seq ?_
  refine c_if rfl (fun h17 => ?_) (fun h17 => ?_)
  · -- then
    have h17 := of_decide_eq_true h17
    refine c_skip ?_
    refine c_seq ?_
    refine c_block ?_
    refine c_rs (by kernel_rfl) ?_   -- region 4
    refine s_op rfl (oidx rfl rfl rfl (by omega) (by omega) ?_)
    refine s_op rfl (old rfl rfl (hf4.at_.rd (by omega) (by omega)) ?_)
    refine sra rfl ?_
    generalize hxe : rd xs (i : Int) = x
    refine c_seq ?_
    refine c_sj (α := Bool) (fun t => [(0, .sl r o n), (5, .map st.n), (7, I x), (14, .sl rx 0 xs.length), (15, I xs.length), (16, I i), (37, .bool t)]) (fun _ => [(3, 3, [I p, .sl rg 0 g.length, .sl rb 0 b.length, I q])])
      (fun t st' => st4 = st' ∧ (t = true ↔ ¬ ((x ∈ blocks l ∧ kindOf l x.toNat ≠ 0) ∧ x ∉ xs.take i))) ?_ ?_
    · -- region 5
      refine c_region (by kernel_rfl) ?_
      refine sr 3 rfl ?_
      refine s_op rfl (o_ar rfl rfl rfl (by omega) (by omega) ?_)
      refine s_op rfl (o_pure loud_n rfl (within_c ..) ?_)
      refine sr 2 rfl ?_
      refine s_bool 26 rfl rfl (fun h26 => ?_) (fun h26 => ?_)
      · -- slot 26 true
        have h26 := ndt h26
        refine sr 7 rfl ?_
        refine s_bool 33 rfl rfl (fun h33 => ?_) (fun h33 => by cases h33)
        refine sra rfl ⟨true, ⟨rfl, rfl, rfl, rfl, rfl, rfl, rfl, trivial⟩, ⟨rfl, rfl, trivial⟩, rfl, fun _ h => ?_, fun _ => rfl⟩
        obtain ⟨m, hm1, hm2, _⟩ := blocks_mem h.1.1
        exact h26 ⟨by omega, by omega⟩
      · -- slot 26 false
        have h26 := ndf h26
        refine sr 2 rfl ?_
        refine s_op rfl (oidx rfl rfl rfl (by omega) (by omega) ?_)
        refine s_op rfl (old rfl rfl ((hx.over he).rd (by omega) (by rw [kindsL_len]; omega)) ?_)
        rw [kindsL_rd _ _ (by omega) (by omega)]
        refine sr 3 rfl ?_
        refine s_bool 33 rfl rfl (fun h33 => ?_) (fun h33 => ?_)
        · -- slot 33 true
          have h33 := of_decide_eq_true h33
          refine sra rfl ⟨true, ⟨rfl, rfl, rfl, rfl, rfl, rfl, rfl, trivial⟩, ⟨rfl, rfl, trivial⟩, rfl, fun _ h => ?_, fun _ => rfl⟩
          have := kat_pos.2 h.1
          omega
        · -- slot 33 false
          have h33 := of_decide_eq_false h33
          have hk := kat_pos.1 (show 0 < kat l x by omega)
          refine sr 2 rfl ?_
          refine s_op rfl (omget (.bool false) (.bool false) rfl rfl rfl rfl (by kernel_rfl) (fun _ _ => rfl) rfl rfl hlt hm _ (hget _) ?_)
          refine sra rfl ⟨_, ⟨rfl, rfl, rfl, rfl, rfl, rfl, rfl, trivial⟩, ⟨rfl, rfl, trivial⟩, rfl, ?_⟩
          show decide (x ∈ xs.take i) = true ↔ _
          rw [decide_eq_true_eq]
          exact ⟨fun h hh => hh.2 h, fun h => Classical.byContradiction fun hc => h ⟨hk, hc⟩⟩
    rintro t st5 ⟨rfl, ht⟩
    refine c_if rfl (fun h37 => ?_) (fun h37 => ?_)
    · -- then
      have h37 := ht.1 h37
      refine crr (by kernel_rfl) rfl ?_   -- region 6
      refine c_ret (fr rfl ?_)
      have : ¬ Mem l g b := fun h => by
        have h := h.1
        rw [hxs] at h
        have := ord_not (show i < xs.length by omega) h
        rw [hxe] at this
        exact h37 this
      rw [bdf.2 this]
      rfl
    · -- else
      have h37 : (x ∈ blocks l ∧ kindOf l x.toNat ≠ 0) ∧ x ∉ xs.take i := Classical.byContradiction fun hc => by have := ht.2 hc; rw [h37] at this; cases this
      refine c_skip ?_
      refine c_region (by kernel_rfl) ?_   -- region 7
      refine sr 2 rfl ?_
      refine s_op rfl (omput (v := .bool true) rfl rfl rfl rfl rfl rfl hlt (fun h => absurd h (by omega)) hm rfl ?_)
      have e5 := ext_set st4 st.n (.map (mput es x (.bool true)))
      have m5 : (st4.set st.n (.map (mput es x (.bool true)))).ob st.n = .map (mput es x (.bool true)) := set_ob _ _ _
      have n5 : (st4.set st.n (.map (mput es x (.bool true)))).n = st4.n := rfl
      generalize st4.set st.n (.map (mput es x (.bool true))) = st5 at e5 m5 n5 ⊢
      refine s_end ?_
      refine c_region (by kernel_rfl) ?_   -- region 8
      refine s_op rfl (o_ar rfl rfl rfl (by omega) (by omega) ?_)
      have eT : xs.take (i + 1) = xs.take i ++ [x] := by
        rw [List.take_add_one, ← hxe, rd_nat]; simp [show i < xs.length by omega, List.getD]
      refine sra rfl ⟨i + 1, ⟨rfl, rfl, rfl, rfl, rfl, trivial⟩, ⟨rfl, rfl, trivial⟩, ⟨by omega, he.over e5 (fun k hk => by omega), hf4.ext e5 (fun k hk e => hrx k hk e), ⟨by omega, _, m5, fun j => ?_⟩, ord_step (by omega) hord (by rw [hxe]; exact h37.1) (by rw [hxe]; exact h37.2)⟩, by omega⟩
      rw [mget_put, eT]
      by_cases hj : j = x
      · rw [if_pos hj, decide_eq_true (by rw [hj]; simp)]; rfl
      · rw [if_neg hj, hget j]
        congr 1
        exact decide_eq_decide.2 ⟨fun h => by simp [h], fun h => by
          rcases List.mem_append.1 h with h | h
          · exact h
          · exact absurd (List.mem_singleton.1 h) hj⟩
  · -- else
    have h17 := of_decide_eq_false h17
    have hie : xs.take i = xs := List.take_of_length_le (by omega)
    rw [hie, ← hxs] at hord
    refine c_exit ?_
    refine c_rs (by kernel_rfl) ?_   -- region 9
    refine sr 2 rfl ?_
    refine s_op rfl (o_pure loud_n rfl (IsSorted_c (hx := hb.over he) (hl := by omega) ..) ?_)
    refine sra rfl ?_
    refine c_ret (fr rfl ?_)
    show AV.bool (bd _) = AV.bool (bd _)
    rw [bd_eq (P := Srt b) (Q := Mem l g b) ⟨fun h => ⟨hord, h⟩, fun h => h.2⟩]
/-- Whether a marker that sweeps is right. -/
def Swp (l g b : List Int) (q : Int) : Prop := g = [] ∧ (q = l.length ∨ q ∈ blocks l) ∧ (∀ a ∈ blocks l, a < q → kindOf l a.toNat ≠ 0 → a ∈ b) ∧ ∀ a ∈ b, Shp l a ∧ ∀ x ∈ slotsL l a, 4 ≤ rd l x % 8 → rd l x / 8 ∈ b
theorem sweepOk_c (p q : Int) (r rg rb : Option Nat) (ra : Nat) (o : Nat) (l g b : List Int) (st : St) (hx : At st r o l) (hk : At st (some ra) 0 (kindsL l)) (hok : okB l = true) (hb : At st rb 0 b) (hm : Mem l g b) (hlg : g.length ≤ 1073741824) (hlb : b.length ≤ 1073741824) (hq : W1 q) :
    ACalls Tryz.prog 88 [.agg [.sl r o l.length], .sl (some ra) 0 l.length, .agg [I p, .sl rg 0 g.length, .sl rb 0 b.length, I q]] st No (Pv (.bool (bd (Swp l g b q)))) := by
  have hlen := okB_len hok
  have hkl := kindsL_len l
  have hbn : b.Nodup := (List.nodup_append.1 hm.1.1).2.1
  have hbs := srt_lt hm.2 hbn
  have hbb : ∀ a ∈ b, a ∈ blocks l := fun a ha => (hm.1.2 a (List.mem_append_right _ ha)).1
  have hgl : g = [] ↔ ¬ (0 : Int) < g.length := by
    constructor
    · rintro rfl; simp
    · intro h; exact List.eq_nil_of_length_eq_zero (by omega)
  refine ent (N := 99) Tryz.func88 rfl (by decide) rfl rfl rfl ?_
  refine crr (by kernel_rfl) rfl ?_   -- region 0
  refine c_seq ?_
  refine c_sj (α := Bool) (fun t => [(1, .sl (some ra) 0 l.length), (43, .bool t)]) (fun _ => [(3, 3, [.sl r o l.length]), (5, 5, [I p, .sl rg 0 g.length, .sl rb 0 b.length, I q])])
    (fun t st' => st = st' ∧ (t = true ↔ ¬ (g = [] ∧ (q = l.length ∨ q ∈ blocks l)))) ?_ ?_
  · -- region 1
    refine c_region (by kernel_rfl) ?_
    refine sr 5 rfl ?_
    refine s_bool 18 rfl rfl (fun h18 => ?_) (fun h18 => ?_)
    · -- slot 18 true
      have h18 := of_decide_eq_true h18
      exact sra rfl ⟨true, ⟨rfl, rfl, trivial⟩, ⟨rfl, rfl, rfl, rfl, trivial⟩, rfl, fun _ h => hgl.1 h.1 h18, fun _ => rfl⟩
    · -- slot 18 false
      have h18 := hgl.2 (of_decide_eq_false h18)
      refine sr 7 rfl ?_
      refine s_bool 25 rfl rfl (fun h25 => ?_) (fun h25 => ?_)
      · -- slot 25 true
        have h25 := ndt h25
        refine sr 5 rfl ?_
        refine s_op rfl (o_ar rfl rfl rfl (by omega) (by omega) ?_)
        refine s_op rfl (o_pure loud_n rfl (within_c ..) ?_)
        refine sr 2 rfl ?_
        refine s_bool 34 rfl rfl (fun h34 => ?_) (fun h34 => ?_)
        · -- slot 34 true
          have h34 := ndt h34
          refine sra rfl ⟨true, ⟨rfl, rfl, trivial⟩, ⟨rfl, rfl, rfl, rfl, trivial⟩, rfl, fun _ h => ?_, fun _ => rfl⟩
          rcases h.2 with h | h
          · exact h25 h
          · obtain ⟨m, hm1, hm2, _⟩ := blocks_mem h
            exact h34 ⟨by omega, by omega⟩
        · -- slot 34 false
          have h34 := ndf h34
          refine sr 3 rfl ?_
          refine s_op rfl (oidx rfl rfl rfl (by omega) (by omega) ?_)
          refine s_op rfl (old rfl rfl (hk.rd (by omega) (by rw [hkl]; omega)) ?_)
          rw [kindsL_rd _ _ (by omega) (by omega)]
          refine sra rfl ⟨_, ⟨rfl, rfl, trivial⟩, ⟨rfl, rfl, rfl, rfl, trivial⟩, rfl, ?_⟩
          show decide (kat l q < 0) = true ↔ _
          rw [decide_eq_true_eq]
          exact ⟨fun h hh => hh.2.elim h25 fun hb' => by have := kat_nn.2 hb'; omega, fun h => Classical.byContradiction fun hc => h ⟨h18, .inr (kat_nn.1 (by omega))⟩⟩
      · -- slot 25 false
        have h25 := ndf h25
        exact sra rfl ⟨false, ⟨rfl, rfl, trivial⟩, ⟨rfl, rfl, rfl, rfl, trivial⟩, rfl, fun h => (by cases h), fun h => absurd ⟨h18, .inl h25⟩ h⟩
  rintro t st1 ⟨rfl, ht⟩
  refine c_if rfl (fun h43 => ?_) (fun h43 => ?_)
  · -- then
    have h43 := ht.1 h43
    refine crr (by kernel_rfl) rfl ?_   -- region 2
    refine c_ret (fr rfl ?_)
    rw [bdf.2 (fun h : Swp l g b q => h43 ⟨h.1, h.2.1⟩)]
    rfl
  · -- else
    have h43 : g = [] ∧ (q = l.length ∨ q ∈ blocks l) := Classical.byContradiction fun hc => by have := ht.2 hc; rw [h43] at this; cases this
    have hq0 : 0 ≤ q ∧ q ≤ l.length := by
      rcases h43.2 with h | h
      · omega
      · obtain ⟨m, hm1, hm2, _⟩ := blocks_mem h; omega
    obtain ⟨qn, rfl⟩ : ∃ qn : Nat, q = qn := ⟨q.toNat, by omega⟩
    refine c_skip ?_
    refine c_seq ?_
    refine c_rs (by kernel_rfl) ?_   -- region 3
    refine sr 3 rfl ?_
    refine s_op rfl (oslice rfl rfl rfl rfl (Int.le_refl _) (by omega) (by omega) ?_)
    refine sra rfl ?_
    refine c_block ?_
    have hkat : At st (some ra) 0 ((kindsL l).take qn) := by
      have := hk.cut 0 qn (by omega) (by omega)
      simpa using this
    have hkl2 : ((kindsL l).take qn).length = qn := by simp; omega
    refine c_lp (α := Nat) (fun i => [(1, .sl (some ra) 0 l.length), (47, .sl (some ra) 0 qn), (48, I qn), (49, I i)]) (fun _ => [(3, 3, [.sl r o l.length]), (5, 5, [I p, .sl rg 0 g.length, .sl rb 0 b.length, I qn])])
      (fun i st' => st = st' ∧ i ≤ qn ∧ ∀ j : Nat, j < i → 0 < kat l j → (j : Int) ∈ b) (fun i => qn - i) 0 ⟨rfl, rfl, rfl, rfl, trivial⟩ ⟨rfl, rfl, rfl, rfl, trivial⟩ ⟨rfl, Nat.zero_le _, fun j h => by omega⟩ ?_
    rintro i st1 ⟨rfl, hi, hall⟩
    refine crr (by kernel_rfl) rfl ?_   -- region 4
    refine c_seq ?_
    refine c_if rfl (fun h50 => ?_) (fun h50 => ?_)
    · -- then
      have h50 := of_decide_eq_true h50
      refine c_skip ?_
      refine c_seq ?_
      refine c_block ?_
      refine c_rs (by kernel_rfl) ?_   -- region 5
      refine sr 1 rfl ?_
      refine s_op rfl (oidx rfl rfl rfl (by omega) (by omega) ?_)
      refine s_op rfl (old rfl rfl (hk.rd (by omega) (by omega)) ?_)
      rw [kindsL_rd _ _ (by omega) (by omega)]
      refine sra rfl ?_
      refine c_sj (α := Bool) (fun t => [(1, .sl (some ra) 0 l.length), (47, .sl (some ra) 0 qn), (48, I qn), (49, I i), (61, .bool t)]) (fun _ => [(3, 3, [.sl r o l.length]), (5, 5, [I p, .sl rg 0 g.length, .sl rb 0 b.length, I qn])])
        (fun t st' => st = st' ∧ (t = true ↔ 0 < kat l i ∧ (i : Int) ∉ b)) ?_ ?_
      · -- region 6
        refine c_region (by kernel_rfl) ?_
        refine sr 3 rfl ?_
        refine s_bool 56 rfl rfl (fun h56 => ?_) (fun h56 => ?_)
        · -- slot 56 true
          have h56 := of_decide_eq_true h56
          refine sr 2 rfl ?_
          refine s_op rfl (o_pure loud_n rfl (isBlack_c (hb := hb) (hs := hbs) (hl := by omega) ..) ?_)
          refine sra rfl ⟨_, ⟨rfl, rfl, rfl, rfl, rfl, trivial⟩, ⟨rfl, rfl, rfl, rfl, trivial⟩, rfl, fun h => ⟨h56, nbt h⟩, fun h => (by rw [bdf.2 h.2]; rfl)⟩
        · -- slot 56 false
          have h56 := of_decide_eq_false h56
          refine sra rfl ⟨false, ⟨rfl, rfl, rfl, rfl, rfl, trivial⟩, ⟨rfl, rfl, rfl, rfl, trivial⟩, rfl, fun h => (by cases h), fun h => absurd h.1 h56⟩
      rintro t st1 ⟨rfl, ht⟩
      refine c_if rfl (fun h61 => ?_) (fun h61 => ?_)
      · -- then
        have h61 := ht.1 h61
        refine crr (by kernel_rfl) rfl ?_   -- region 7
        refine c_ret (fr rfl ?_)
        rw [bdf.2 (fun h : Swp l g b qn => h61.2 (h.2.2.1 i (kat_pos.1 h61.1).1 (by omega) (kat_pos.1 h61.1).2))]
        rfl
      · -- else
        have h61 : 0 < kat l i → (i : Int) ∈ b := fun h => Classical.byContradiction fun hc => by have := ht.2 ⟨h, hc⟩; rw [h61] at this; cases this
        refine c_skip ?_
        refine c_region (by kernel_rfl) ?_   -- region 8
        refine s_op rfl (o_ar rfl rfl rfl (by omega) (by omega) ?_)
        refine sra rfl ⟨i + 1, ⟨rfl, rfl, rfl, rfl, trivial⟩, ⟨rfl, rfl, rfl, rfl, trivial⟩, ⟨rfl, by omega, fun j hj h => ?_⟩, by omega⟩
        by_cases e : j = i
        · subst e; exact h61 h
        · exact hall j (by omega) h
    · -- else
      have h50 := of_decide_eq_false h50
      have hsw : ∀ a ∈ blocks l, a < (qn : Int) → kindOf l a.toNat ≠ 0 → a ∈ b := fun a ha h1 h2 => by
        obtain ⟨m, rfl, hm2, _⟩ := blocks_mem ha
        exact hall m (by omega) (kat_pos.2 ⟨ha, h2⟩)
      refine c_exit ?_
      refine c_seq ?_
      refine crr (by kernel_rfl) rfl ?_   -- region 9
      refine c_block ?_
      refine c_lp (α := Nat) (fun j => [(1, .sl (some ra) 0 l.length), (64, .sl rb 0 b.length), (65, I b.length), (66, I j)]) (fun _ => [(3, 3, [.sl r o l.length]), (5, 5, [I p, .sl rg 0 g.length, .sl rb 0 b.length, I qn])])
        (fun j st' => Ex st st' ∧ j ≤ b.length ∧ ∀ a ∈ b.take j, Shp l a ∧ ∀ x ∈ slotsL l a, 4 ≤ rd l x % 8 → rd l x / 8 ∈ b) (fun j => b.length - j) 0 ⟨rfl, rfl, rfl, rfl, trivial⟩ ⟨rfl, rfl, rfl, rfl, trivial⟩ ⟨Ext.refl _ _, Nat.zero_le _, fun a h => by simp at h⟩ ?_
      rintro j st1 ⟨he, hj, hallb⟩
      refine crr (by kernel_rfl) rfl ?_   -- region 10
      refine c_seq ?_
      refine c_if rfl (fun h67 => ?_) (fun h67 => ?_)
      · -- then
        have h67 := of_decide_eq_true h67
        have hbm : rd b j ∈ b := mem_rd (by omega)
        refine c_skip ?_
        refine c_seq ?_
        refine c_block ?_
        refine c_rs (by kernel_rfl) ?_   -- region 11
        refine s_op rfl (oidx rfl rfl rfl (by omega) (by omega) ?_)
        refine s_op rfl (old rfl rfl ((hb.ex he).rd (by omega) (by omega)) ?_)
        refine sra rfl ?_
        generalize hae : rd b (j : Int) = a at hbm
        refine c_seq ?_
        refine c_rs (by kernel_rfl) ?_   -- region 12
        refine sr 3 rfl ?_
        refine s_op rfl (o_ex loud_n rfl (shapeOk_c _ _ _ _ _ _ _ (hx.ex he) (hk.ex he) hok (hbb a hbm)) ?_)
        rintro v3 st3 rfl e3
        refine sra rfl ?_
        have he3 := he.tr e3
        refine c_if rfl (fun h74 => ?_) (fun h74 => ?_)
        · -- then
          have h74 := nbt h74
          refine crr (by kernel_rfl) rfl ?_   -- region 13
          refine c_ret (fr rfl ?_)
          rw [bdf.2 (fun h : Swp l g b qn => h74 (h.2.2.2 a hbm).1)]
          rfl
        · -- else
          have h74 := nbf h74
          refine c_skip ?_
          refine c_rs (by kernel_rfl) ?_   -- region 14
          refine sr 2 rfl ?_
          refine s_op rfl (o_ex loud_n rfl (slots_c _ _ _ _ _ (hx.ex he3) (hbb a hbm)) ?_)
          rintro v4 st4 ⟨rs, rfl, hs4⟩ e4
          refine sra rfl ?_
          have he4 := he3.tr e4
          refine c_block ?_
          refine c_lp (α := Nat) (fun i => [(1, .sl (some ra) 0 l.length), (64, .sl rb 0 b.length), (65, I b.length), (66, I j), (77, .sl rs 0 (slotsL l a).length), (78, I (slotsL l a).length), (79, I i)]) (fun _ => [(3, 3, [.sl r o l.length]), (5, 5, [I p, .sl rg 0 g.length, .sl rb 0 b.length, I qn])])
            (fun i st' => st4 = st' ∧ i ≤ (slotsL l a).length ∧ ∀ x ∈ (slotsL l a).take i, 4 ≤ rd l x % 8 → rd l x / 8 ∈ b) (fun i => (slotsL l a).length - i) 0 ⟨rfl, rfl, rfl, rfl, rfl, rfl, rfl, trivial⟩ ⟨rfl, rfl, rfl, rfl, trivial⟩ ⟨rfl, Nat.zero_le _, fun x h => by simp at h⟩ ?_
          rintro i st5 ⟨rfl, hi, halls⟩
          have hsl := slots_len (hbb a hbm)
          refine crr (by kernel_rfl) rfl ?_   -- region 15
          refine c_seq ?_
          refine c_if rfl (fun h80 => ?_) (fun h80 => ?_)
          · -- then
            have h80 := of_decide_eq_true h80
            have hsm : rd (slotsL l a) i ∈ slotsL l a := mem_rd (by omega)
            have hsin := slots_in (hbb a hbm) hsm
            obtain ⟨an, han, _, _⟩ := blocks_mem (hbb a hbm)
            refine c_skip ?_
            refine c_seq ?_
            refine c_block ?_
            refine c_rs (by kernel_rfl) ?_   -- region 16
            refine s_op rfl (oidx rfl rfl rfl (by omega) (by omega) ?_)
            refine s_op rfl (old rfl rfl (hs4.at_.rd (by omega) (by omega)) ?_)
            refine sra rfl ?_
            generalize hxe : rd (slotsL l a) (i : Int) = x at hsm hsin
            refine c_rs (by kernel_rfl) ?_   -- region 17
            refine sr 3 rfl ?_
            refine s_op rfl (oidx rfl rfl rfl (by omega) (by omega) ?_)
            refine s_op rfl (old rfl rfl ((hx.ex he4).rd (by omega) (by omega)) ?_)
            refine sra rfl ?_
            generalize hve : rd l x = v
            refine c_sj (α := Bool) (fun t => [(1, .sl (some ra) 0 l.length), (64, .sl rb 0 b.length), (65, I b.length), (66, I j), (77, .sl rs 0 (slotsL l a).length), (78, I (slotsL l a).length), (79, I i), (96, .bool t)]) (fun _ => [(3, 3, [.sl r o l.length]), (5, 5, [I p, .sl rg 0 g.length, .sl rb 0 b.length, I qn])])
              (fun t st' => st4 = st' ∧ (t = true ↔ 4 ≤ v % 8 ∧ v / 8 ∉ b)) ?_ ?_
            · -- region 18
              refine cd1 [0, 1, 2, 3, 4, 5, 6, 7, 8] [.q, .f, .q, .q, .q, .f, .f, .q, .q] (by kernel_rfl) (by kernel_rfl) ?_
              refine sr 1 rfl ?_
              refine s_op rfl (o_pure loud_f rfl (hasPlace_c ..) ?_)
              refine sr 1 rfl ?_
              refine s_bool 90 rfl rfl (fun h90 => ?_) (fun h90 => ?_)
              · -- slot 90 true
                have h90 := of_decide_eq_true h90
                refine sr 2 rfl ?_
                refine s_op rfl (o_pure loud_f rfl (iNum_c ..) ?_)
                refine s_op rfl (o_pure loud_f rfl (isBlack_c (hb := hb.ex he4) (hs := hbs) (hl := by omega) ..) ?_)
                refine sra rfl ⟨_, ⟨rfl, rfl, rfl, rfl, rfl, rfl, rfl, rfl, trivial⟩, ⟨rfl, rfl, rfl, rfl, trivial⟩, rfl, fun h => ⟨h90, nbt h⟩, fun h => (by rw [bdf.2 h.2]; rfl)⟩
              · -- slot 90 false
                have h90 := of_decide_eq_false h90
                refine sra rfl ⟨false, ⟨rfl, rfl, rfl, rfl, rfl, rfl, rfl, rfl, trivial⟩, ⟨rfl, rfl, rfl, rfl, trivial⟩, rfl, fun h => (by cases h), fun h => absurd h.1 h90⟩
            rintro t st5 ⟨rfl, ht⟩
            refine c_if rfl (fun h96 => ?_) (fun h96 => ?_)
            · -- then
              have h96 := ht.1 h96
              refine crr (by kernel_rfl) rfl ?_   -- region 19
              refine c_ret (fr rfl ?_)
              rw [bdf.2 (fun h : Swp l g b qn => by
                have := (h.2.2.2 a hbm).2 x hsm
                rw [hve] at this
                exact h96.2 (this h96.1))]
              rfl
            · -- else
              have h96 : 4 ≤ v % 8 → v / 8 ∈ b := fun h => Classical.byContradiction fun hc => by have := ht.2 ⟨h, hc⟩; rw [h96] at this; cases this
              refine c_skip ?_
              refine c_region (by kernel_rfl) ?_   -- region 20
              refine s_op rfl (o_ar rfl rfl rfl (by omega) (by omega) ?_)
              refine sra rfl ⟨i + 1, ⟨rfl, rfl, rfl, rfl, rfl, rfl, rfl, trivial⟩, ⟨rfl, rfl, rfl, rfl, trivial⟩, ⟨rfl, by omega, fun y hy hy4 => ?_⟩, by omega⟩
              obtain ⟨k, hk1, hk2, rfl⟩ := mem_take.1 hy
              by_cases e : k = i
              · subst e; rw [hxe, hve] at hy4 ⊢; exact h96 hy4
              · exact halls _ (mem_take.2 ⟨k, by omega, hk2, rfl⟩) hy4
          · -- else
            have h80 := of_decide_eq_false h80
            have hie : (slotsL l a).take i = slotsL l a := List.take_of_length_le (by omega)
            rw [hie] at halls
            refine c_exit ?_
            refine c_region (by kernel_rfl) ?_   -- region 21
            refine s_op rfl (o_ar rfl rfl rfl (by omega) (by omega) ?_)
            refine sra rfl ⟨j + 1, ⟨rfl, rfl, rfl, rfl, trivial⟩, ⟨rfl, rfl, rfl, rfl, trivial⟩, ⟨he4, by omega, fun a' ha' => ?_⟩, by omega⟩
            obtain ⟨k, hk1, hk2, rfl⟩ := mem_take.1 ha'
            by_cases e : k = j
            · subst e; rw [hae]; exact ⟨h74, halls⟩
            · exact hallb _ (mem_take.2 ⟨k, by omega, hk2, rfl⟩)
      · -- else
        have h67 := of_decide_eq_false h67
        have hie : b.take j = b := List.take_of_length_le (by omega)
        rw [hie] at hallb
        refine c_exit ?_
        refine crr (by kernel_rfl) rfl ?_   -- region 22
        refine c_ret (fr rfl ?_)
        rw [bdt.2 (show Swp l g b qn from ⟨h43.1, h43.2, hsw, hallb⟩)]
        rfl
/-- Whether a marker is right. -/
def MkOk (l : List Int) (p : Int) (g b : List Int) (q : Int) : Prop := okB l = true ∧ Mem l g b ∧ ((p = 0 ∧ Heap l ∧ q = 0 ∧ g = [] ∧ b = []) ∨ (p = 1 ∧ Heap l ∧ q = 0) ∨ (p = 2 ∧ Swp l g b q))
theorem len0 {b : List Int} : b = [] ↔ ((b.length : Nat) : Int) = 0 := by
  constructor
  · rintro rfl; simp
  · intro h; exact List.eq_nil_of_length_eq_zero (by omega)
theorem iMarkerOk_c (p q : Int) (r rg rb : Option Nat) (o : Nat) (l g b : List Int) (st : St) (hx : At st r o l) (hl : l.length ≤ 1048576) (hg : At st rg 0 g) (hb : At st rb 0 b) (hlg : g.length ≤ 536870912) (hlb : b.length ≤ 536870912) (hq : W1 q) :
    ACalls Tryz.prog 20 [.agg [.sl r o l.length], .agg [I p, .sl rg 0 g.length, .sl rb 0 b.length, I q]] st No (Pv (.bool (bd (MkOk l p g b q)))) := by
  refine ent (N := 55) Tryz.func20 rfl (by decide) rfl rfl rfl ?_
  refine crr (by kernel_rfl) rfl ?_   -- region 0
  refine c_rs (by kernel_rfl) ?_   -- region 1
  refine sr 1 rfl ?_
  refine s_op rfl (o_ex loud_n rfl (kindsB_c _ _ _ _ hx hl) ?_)
  rintro v1 st1 ⟨ra, rfl, hk⟩ e1
  refine sra rfl ?_
  have hkl := kindsL_len l
  refine c_seq ?_
  refine c_sj (α := Bool) (fun t => [(5, .sl (some ra) 0 (kindsL l).length), (16, .bool t)]) (fun _ => [(2, 2, [.sl r o l.length]), (3, 3, [I p, .sl rg 0 g.length, .sl rb 0 b.length, I q])])
    (fun t st' => Ex st1 st' ∧ (t = true ↔ ¬ (okB l = true ∧ Mem l g b))) ?_ ?_
  · -- region 2
    refine c_region (by kernel_rfl) ?_
    refine sr 1 rfl ?_
    refine s_op rfl (o_ex loud_n rfl (jSlabOk_c _ _ _ _ (hx.ex e1)) ?_)
    rintro v2 st2 rfl e2
    refine sr 2 rfl ?_
    refine s_bool 11 rfl rfl (fun h11 => ?_) (fun h11 => ?_)
    · -- slot 11 true
      have h11 : ¬ okB l = true := by simpa using h11
      exact sra rfl ⟨true, ⟨rfl, rfl, trivial⟩, ⟨rfl, rfl, rfl, rfl, trivial⟩, e2, fun _ h => h11 h.1, fun _ => rfl⟩
    · -- slot 11 false
      have h11 : okB l = true := by simpa using h11
      have hlen := okB_len h11
      refine sr 2 rfl ?_
      refine s_op rfl (o_ex loud_n rfl (membersOk_c p q _ rg rb _ _ l g b _ (hk.at_.ex e2) hkl hlen ((hg.ex e1).ex e2) ((hb.ex e1).ex e2) (by omega) (by omega) (by rw [List.length_append]; omega)) ?_)
      rintro v3 st3 rfl e3
      refine sra rfl ⟨_, ⟨rfl, rfl, trivial⟩, ⟨rfl, rfl, rfl, rfl, trivial⟩, e2.tr e3, ?_⟩
      show (!bd (Mem l g b)) = true ↔ _
      exact ⟨fun h hh => nbt h hh.2, fun h => (by rw [bdf.2 (fun hm => h ⟨h11, hm⟩)]; rfl)⟩
  rintro t st2 ⟨e2, ht⟩
  have e12 := e1.tr e2
  refine c_if rfl (fun h16 => ?_) (fun h16 => ?_)
  · -- then
    have h16 := ht.1 h16
    refine crr (by kernel_rfl) rfl ?_   -- region 3
    refine c_ret (fr rfl ?_)
    rw [bdf.2 (fun h : MkOk l p g b q => h16 ⟨h.1, h.2.1⟩)]
    rfl
  · -- else
    obtain ⟨hok, hm⟩ : okB l = true ∧ Mem l g b := Classical.byContradiction fun hc => by have := ht.2 hc; rw [h16] at this; cases this
    refine c_skip ?_
    refine c_seq ?_
    refine crr (by kernel_rfl) rfl ?_   -- region 4
    refine c_block ?_
    refine crr (by kernel_rfl) rfl ?_   -- region 5
    refine c_if rfl (fun h19 => ?_) (fun h19 => ?_)
    · -- then
      have h19 := of_decide_eq_true h19
      refine c_sj (α := Bool) (fun t => [(4, .bool t)]) (fun _ => []) (fun t _ => (t = true ↔ MkOk l p g b q)) ?_ ?_
      · -- region 6
        refine c_region (by kernel_rfl) ?_
        refine sr 1 rfl ?_
        refine s_op rfl (o_ex loud_n rfl (iHeapOk_c _ _ _ _ (hx.ex e12)) ?_)
        rintro v3 st3 rfl e3
        refine sr 1 rfl ?_
        refine s_bool 23 rfl rfl (fun h23 => ?_) (fun h23 => ?_)
        · -- slot 23 true
          have h23 := bdt.1 h23
          refine sr 5 rfl ?_
          refine s_bool 28 rfl rfl (fun h28 => ?_) (fun h28 => ?_)
          · -- slot 28 true
            have h28 := of_decide_eq_true h28
            refine sr 6 rfl ?_
            refine s_bool 34 rfl rfl (fun h34 => ?_) (fun h34 => ?_)
            · -- slot 34 true
              have h34 := of_decide_eq_true h34
              refine sra rfl ⟨_, ⟨rfl, trivial⟩, trivial, ?_⟩
              show decide (((b.length : Nat) : Int) = 0) = true ↔ _
              rw [decide_eq_true_eq, ← len0]
              exact ⟨fun h => ⟨hok, hm, .inl ⟨h19, h23, h28, len0.2 h34, h⟩⟩, fun h => by
                rcases h.2.2 with h | h | h
                · exact h.2.2.2.2
                · have := h.1; omega
                · have := h.1; omega⟩
            · -- slot 34 false
              have h34 := of_decide_eq_false h34
              refine sra rfl ⟨false, ⟨rfl, trivial⟩, trivial, fun h => (by cases h), fun h => ?_⟩
              exfalso
              rcases h.2.2 with h | h | h
              · exact h34 (len0.1 h.2.2.2.1)
              · have := h.1; omega
              · have := h.1; omega
          · -- slot 28 false
            have h28 := of_decide_eq_false h28
            refine sr 6 rfl ?_
            refine s_bool 34 rfl rfl (fun h34 => by cases h34) (fun h34 => ?_)
            refine sra rfl ⟨false, ⟨rfl, trivial⟩, trivial, fun h => (by cases h), fun h => ?_⟩
            exfalso
            rcases h.2.2 with h | h | h
            · exact h28 h.2.2.1
            · have := h.1; omega
            · have := h.1; omega
        · -- slot 23 false
          have h23 := bdf.1 h23
          refine sr 5 rfl ?_
          refine s_bool 28 rfl rfl (fun h28 => by cases h28) (fun h28 => ?_)
          refine sr 6 rfl ?_
          refine s_bool 34 rfl rfl (fun h34 => by cases h34) (fun h34 => ?_)
          refine sra rfl ⟨false, ⟨rfl, trivial⟩, trivial, fun h => (by cases h), fun h => ?_⟩
          exfalso
          rcases h.2.2 with h | h | h
          · exact h23 h.2.1
          · have := h.1; omega
          · have := h.1; omega
      rintro t st3 ht
      exact c_ret (fr rfl (abd ht))
    · -- else
      have h19 := of_decide_eq_false h19
      refine crr (by kernel_rfl) rfl ?_   -- region 7
      refine c_if rfl (fun h40 => ?_) (fun h40 => ?_)
      · -- then
        have h40 := of_decide_eq_true h40
        refine c_sj (α := Bool) (fun t => [(4, .bool t)]) (fun _ => []) (fun t _ => (t = true ↔ MkOk l p g b q)) ?_ ?_
        · -- region 8
          refine c_region (by kernel_rfl) ?_
          refine sr 1 rfl ?_
          refine s_op rfl (o_ex loud_n rfl (iHeapOk_c _ _ _ _ (hx.ex e12)) ?_)
          rintro v3 st3 rfl e3
          refine sr 1 rfl ?_
          refine s_bool 44 rfl rfl (fun h44 => ?_) (fun h44 => ?_)
          · -- slot 44 true
            have h44 := bdt.1 h44
            refine sra rfl ⟨_, ⟨rfl, trivial⟩, trivial, ?_⟩
            show decide (q = 0) = true ↔ _
            rw [decide_eq_true_eq]
            exact ⟨fun h => ⟨hok, hm, .inr (.inl ⟨h40, h44, h⟩)⟩, fun h => by
              rcases h.2.2 with h | h | h
              · exact h.2.2.1
              · exact h.2.2
              · have := h.1; omega⟩
          · -- slot 44 false
            have h44 := bdf.1 h44
            refine sra rfl ⟨false, ⟨rfl, trivial⟩, trivial, fun h => (by cases h), fun h => ?_⟩
            exfalso
            rcases h.2.2 with h | h | h
            · exact h19 h.1
            · exact h44 h.2.1
            · have := h.1; omega
        rintro t st3 ht
        exact c_ret (fr rfl (abd ht))
      · -- else
        have h40 := of_decide_eq_false h40
        refine crr (by kernel_rfl) rfl ?_   -- region 9
        refine c_if rfl (fun h49 => ?_) (fun h49 => ?_)
        · -- then
          have h49 := of_decide_eq_true h49
          rw [hkl]
          refine c_rs (by kernel_rfl) ?_   -- region 10
          refine sr 3 rfl ?_
          refine s_op rfl (o_ex loud_n rfl (sweepOk_c p q r rg rb ra o l g b _ (hx.ex e12) (hk.at_.ex e2) hok (hb.ex e12) hm (by omega) (by omega) hq) ?_)
          rintro v3 st3 rfl e3
          refine sra rfl ?_
          refine c_ret (fr rfl ?_)
          show AV.bool (bd _) = AV.bool (bd _)
          rw [bd_eq (P := Swp l g b q) (Q := MkOk l p g b q) ⟨fun h => ⟨hok, hm, .inr (.inr ⟨h49, h⟩)⟩, fun h => by
            rcases h.2.2 with h | h | h
            · exact absurd h.1 h19
            · exact absurd h.1 h40
            · exact h.2⟩]
        · -- else
          have h49 := of_decide_eq_false h49
          refine c_skip ?_
          refine crr (by kernel_rfl) rfl ?_   -- region 11
          refine c_ret (fr rfl ?_)
          rw [bdf.2 (fun h : MkOk l p g b q => by
            rcases h.2.2 with h | h | h
            · exact h19 h.1
            · exact h40 h.1
            · exact h49 h.1)]
          rfl
end Go.Proofs.YtfhkjhnaihhdmaaGreatW.Ax

/- Whether a marker is right, by the reference: walked. -/
namespace Go.Proofs.YtfhkjhnaihhdmaaGreatW.Ax
open Go Go.RowKit Go.Proofs Go.Proofs.YtfhkjhnaihhdmaaGreat.Pure
set_option linter.unusedVariables false
set_option maxRecDepth 100000

theorem l8Places_c (r rr : Option Nat) (o : Nat) (l xs : List Int) (st : St) (hx : At st r o l) (hok : okB l = true) (hy : At st rr 0 xs) (hl : xs.length ≤ 1073741824) : ACalls Tryz.prog 83 [.agg [.sl r o l.length], .sl rr 0 xs.length] st No (Pure1 (.bool (bd (Ord l xs))) st) := by
  have hlen := okB_len hok
  refine ent (N := 41) Tryz.func83 rfl (by decide) rfl rfl rfl ?_
  refine crr (by kernel_rfl) rfl ?_   -- region 0
  refine c_seq ?_
  refine crr (by kernel_rfl) rfl ?_   -- region 1
  refine c_block ?_
  refine c_lp (α := Nat) (fun i => [(1, .sl rr 0 xs.length), (5, I i)]) (fun _ => [(2, 2, [.sl r o l.length])]) (fun i st' => st = st' ∧ i ≤ xs.length ∧ Ord l (xs.take i)) (fun i => xs.length - i) 0 ⟨rfl, rfl, trivial⟩ ⟨rfl, rfl, trivial⟩ ⟨rfl, Nat.zero_le _, ord_nil l⟩ ?_
  rintro i st1 ⟨rfl, hi, hord⟩
  refine c_seq ?_
  refine crr (by kernel_rfl) rfl ?_   -- region 2
  refine c_if rfl (fun h9 => ?_) (fun h9 => ?_)
  · -- then
    have h9 := of_decide_eq_true h9
    refine c_skip ?_
    refine c_seq ?_
    refine c_block ?_
    have hxe : rd xs (i : Int) = rd xs i := rfl
    refine c_sj (α := Bool) (fun t => [(1, .sl rr 0 xs.length), (5, I i), (40, .bool t)]) (fun _ => [(2, 2, [.sl r o l.length])])
      (fun t st' => st = st' ∧ (t = true ↔ ¬ ((rd xs i ∈ blocks l ∧ kindOf l (rd xs i).toNat ≠ 0) ∧ rd xs i ∉ xs.take i))) ?_ ?_
    · -- region 4
      refine cd1 [0, 1, 2, 3, 4, 5, 6, 7, 8, 9, 10, 11, 12, 13, 14, 15, 16, 17, 18, 19, 20, 21, 22, 23, 24, 25, 26, 27, 28] [.q, .q, .q, .q, .q, .f, .q, .q, .q, .q, .q, .q, .q, .q, .q, .q, .f, .q, .q, .q, .q, .q, .q, .q, .q, .q, .q, .f, .q] (by kernel_rfl) (by kernel_rfl) ?_
      have ht3 : (xs.take i).length = i := by simp; omega
      have rest : ∀ (b : Bool), True := fun _ => trivial
      refine sr 3 rfl ?_
      refine s_op rfl (oidx rfl rfl rfl (by omega) (by omega) ?_)
      refine s_op rfl (old rfl rfl (hy.rd (by omega) (by omega)) ?_)
      refine s_op rfl (o_pure loud_f rfl (l2Is_c _ _ _ _ _ hx hok) ?_)
      refine sr 2 rfl ?_
      refine s_bool 19 rfl rfl (fun h19 => ?_) (fun h19 => ?_)
      · -- slot 19 true
        have h19 := ndt h19
        refine sr 12 rfl ?_
        refine s_bool 31 rfl rfl (fun h31 => ?_) (fun h31 => by cases h31)
        exact sra rfl ⟨true, ⟨rfl, rfl, rfl, trivial⟩, ⟨rfl, rfl, trivial⟩, rfl, fun _ h => h19 h.1.1, fun _ => rfl⟩
      · -- slot 19 false
        have h19 := ndf h19
        obtain ⟨m, hm1, hm2, _⟩ := blocks_mem h19
        refine sr 4 rfl ?_
        refine s_op rfl (oidx rfl rfl rfl (by omega) (by omega) ?_)
        refine s_op rfl (old rfl rfl (hy.rd (by omega) (by omega)) ?_)
        refine s_op rfl (oidx rfl rfl rfl (by omega) (by omega) ?_)
        refine s_op rfl (old rfl rfl (hx.rd (by omega) (by omega)) ?_)
        refine s_op rfl (o_pure loud_f rfl (l2Kind_c ..) ?_)
        refine sr 3 rfl ?_
        refine s_bool 31 rfl rfl (fun h31 => ?_) (fun h31 => ?_)
        · -- slot 31 true
          have h31 := of_decide_eq_true h31
          exact sra rfl ⟨true, ⟨rfl, rfl, rfl, trivial⟩, ⟨rfl, rfl, trivial⟩, rfl, fun _ h => h.1.2 h31, fun _ => rfl⟩
        · -- slot 31 false
          have h31 := of_decide_eq_false h31
          refine sr 2 rfl ?_
          refine s_op rfl (oslE (o' := 0) (n' := (xs.take i).length) rfl rfl rfl rfl (Int.le_refl _) (by omega) (by omega) (by cases rr <;> rfl) (by omega) ?_)
          refine sr 2 rfl ?_
          refine s_op rfl (oidx rfl rfl rfl (by omega) (by omega) ?_)
          refine s_op rfl (old rfl rfl (hy.rd (by omega) (by omega)) ?_)
          have hcut : At st rr 0 (xs.take i) := by have := hy.cut 0 i (by omega) (by omega); simpa using this
          refine s_op rfl (o_pure loud_f rfl (l7In_c (hx := hcut) (hl := by omega) ..) ?_)
          refine sra rfl ⟨_, ⟨rfl, rfl, rfl, trivial⟩, ⟨rfl, rfl, trivial⟩, rfl, ?_⟩
          show bd (rd xs i ∈ xs.take i) = true ↔ _
          rw [bdt]
          exact ⟨fun h hh => hh.2 h, fun h => Classical.byContradiction fun hc => h ⟨⟨h19, h31⟩, hc⟩⟩
    rintro t st1 ⟨rfl, ht⟩
    refine c_if rfl (fun h40 => ?_) (fun h40 => ?_)
    · -- then
      have h40 := ht.1 h40
      refine crr (by kernel_rfl) rfl ?_   -- region 5
      refine c_ret (fr rfl ⟨?_, rfl⟩)
      rw [bdf.2 (fun h : Ord l xs => h40 (ord_not (by omega) h))]
    · -- else
      have h40 : (rd xs i ∈ blocks l ∧ kindOf l (rd xs i).toNat ≠ 0) ∧ rd xs i ∉ xs.take i := Classical.byContradiction fun hc => by have := ht.2 hc; rw [h40] at this; cases this
      refine c_skip ?_
      refine c_region (by kernel_rfl) ?_   -- region 3
      refine sr 1 rfl ?_
      refine s_op rfl (o_ar rfl rfl rfl (by omega) (by omega) ?_)
      exact sra rfl ⟨i + 1, ⟨rfl, rfl, trivial⟩, ⟨rfl, rfl, trivial⟩, ⟨rfl, by omega, ord_step (by omega) hord h40.1 h40.2⟩, by omega⟩
  · -- else
    have h9 := of_decide_eq_false h9
    have hie : xs.take i = xs := List.take_of_length_le (by omega)
    rw [hie] at hord
    refine c_exit ?_
    refine crr (by kernel_rfl) rfl ?_   -- region 6
    refine c_ret (fr rfl ⟨?_, rfl⟩)
    rw [bdt.2 hord]
theorem blk_vb {l : List Int} {v : Int} (h : Vb l v) : 0 ≤ blk v ↔ 4 ≤ v % 8 := by
  unfold blk
  constructor
  · intro h'; split at h' <;> omega
  · intro h4
    rw [if_neg (by omega)]
    obtain ⟨m, hm, _⟩ := blocks_mem (h h4).1
    omega
theorem blk_pl {v : Int} (h : 4 ≤ v % 8) : blk v = v / 8 := by unfold blk; rw [if_neg (by omega)]
theorem l8Swept_c (p q : Int) (r rg rb : Option Nat) (o : Nat) (l g b : List Int) (st : St) (hx : At st r o l) (hok : okB l = true) (hb : At st rb 0 b) (hbb : ∀ a ∈ b, a ∈ blocks l) (hlg : g.length ≤ 1073741824) (hlb : b.length ≤ 1073741824) :
    ACalls Tryz.prog 85 [.agg [.sl r o l.length], .agg [I p, .sl rg 0 g.length, .sl rb 0 b.length, I q]] st No (Pv (.bool (bd (Swp l g b q)))) := by
  have hlen := okB_len hok
  have hw0 := (blocks_of hok).2
  have hgl : g = [] ↔ ¬ (0 : Int) < g.length := by
    constructor
    · rintro rfl; simp
    · intro h; exact List.eq_nil_of_length_eq_zero (by omega)
  refine ent (N := 101) Tryz.func85 rfl (by decide) rfl rfl rfl ?_
  refine crr (by kernel_rfl) rfl ?_   -- region 0
  refine c_seq ?_
  refine c_sj (α := Bool) (fun t => [(28, .bool t)]) (fun _ => [(2, 2, [.sl r o l.length]), (3, 3, [I p, .sl rg 0 g.length, .sl rb 0 b.length, I q])])
    (fun t st' => st = st' ∧ (t = true ↔ ¬ (g = [] ∧ (q = l.length ∨ q ∈ blocks l)))) ?_ ?_
  · -- region 1
    refine c_region (by kernel_rfl) ?_
    refine sr 5 rfl ?_
    refine s_bool 14 rfl rfl (fun h14 => ?_) (fun h14 => ?_)
    · -- slot 14 true
      have h14 := of_decide_eq_true h14
      exact sra rfl ⟨true, ⟨rfl, trivial⟩, ⟨rfl, rfl, rfl, rfl, trivial⟩, rfl, fun _ h => hgl.1 h.1 h14, fun _ => rfl⟩
    · -- slot 14 false
      have h14 := hgl.2 (of_decide_eq_false h14)
      refine sr 7 rfl ?_
      refine s_bool 21 rfl rfl (fun h21 => ?_) (fun h21 => ?_)
      · -- slot 21 true
        have h21 := ndt h21
        refine sr 3 rfl ?_
        refine s_op rfl (o_pure loud_n rfl (l2Is_c _ _ _ _ _ hx hok) ?_)
        refine sra rfl ⟨_, ⟨rfl, trivial⟩, ⟨rfl, rfl, rfl, rfl, trivial⟩, rfl, ?_⟩
        show (!decide (q ∈ blocks l)) = true ↔ _
        exact ⟨fun h hh => hh.2.elim h21 (ndt h), fun h => (by rw [decide_eq_false (fun hc => h ⟨h14, .inr hc⟩)]; rfl)⟩
      · -- slot 21 false
        have h21 := ndf h21
        exact sra rfl ⟨false, ⟨rfl, trivial⟩, ⟨rfl, rfl, rfl, rfl, trivial⟩, rfl, fun h => (by cases h), fun h => absurd ⟨h14, .inl h21⟩ h⟩
  rintro t st1 ⟨rfl, ht⟩
  refine c_if rfl (fun h28 => ?_) (fun h28 => ?_)
  · -- then
    have h28 := ht.1 h28
    refine crr (by kernel_rfl) rfl ?_   -- region 2
    refine c_ret (fr rfl ?_)
    rw [bdf.2 (fun h : Swp l g b q => h28 ⟨h.1, h.2.1⟩)]
    rfl
  · -- else
    have h43 : g = [] ∧ (q = l.length ∨ q ∈ blocks l) := Classical.byContradiction fun hc => by have := ht.2 hc; rw [h28] at this; cases this
    have hq0 : 0 ≤ q ∧ q ≤ l.length := by
      rcases h43.2 with h | h
      · omega
      · obtain ⟨m, hm1, hm2, _⟩ := blocks_mem h; omega
    refine c_skip ?_
    refine c_seq ?_
    refine crr (by kernel_rfl) rfl ?_   -- region 3
    refine c_block ?_
    refine c_lp (α := Nat × List Int) (fun i => [(5, I i.1)]) (fun _ => [(2, 2, [.sl r o l.length]), (3, 3, [I p, .sl rg 0 g.length, .sl rb 0 b.length, I q])])
      (fun i st' => st = st' ∧ i.1 ≤ l.length ∧ walk l i.1 = some i.2 ∧ (∀ x ∈ i.2, x ∈ blocks l) ∧ ∀ a ∈ blocks l, a ∈ i.2 ∨ (kindOf l a.toNat ≠ 0 → a ∈ b)) (fun i => l.length - i.1) (0, blocks l) ⟨rfl, trivial⟩ ⟨rfl, rfl, rfl, rfl, trivial⟩ ⟨rfl, Nat.zero_le _, hw0, fun x h => h, fun a h => .inl h⟩ ?_
    rintro ⟨k, rest⟩ st1 ⟨rfl, hk, hw, hsub, hall⟩
    dsimp only at *
    refine c_seq ?_
    refine crr (by kernel_rfl) rfl ?_   -- region 4
    refine c_if rfl (fun h32 => ?_) (fun h32 => ?_)
    · -- then
      have h32 := of_decide_eq_true h32
      obtain ⟨hh, r', rfl, hw'⟩ := walk_cons hw (by omega)
      have hs := size_pos hh
      have hse := size_eq hh
      refine c_skip ?_
      refine c_seq ?_
      refine c_block ?_
      refine c_sj (α := Bool) (fun t => [(5, I k), (54, .bool t)]) (fun _ => [(2, 2, [.sl r o l.length]), (3, 3, [I p, .sl rg 0 g.length, .sl rb 0 b.length, I q])])
        (fun t st' => st = st' ∧ (t = true ↔ kindOf l k ≠ 0 ∧ (k : Int) ∉ b)) ?_ ?_
      · -- region 6
        refine c_region (by kernel_rfl) ?_
        refine sr 3 rfl ?_
        refine s_op rfl (oidx rfl rfl rfl (by omega) (by omega) ?_)
        refine s_op rfl (old rfl rfl (hx.rd (by omega) (by omega)) ?_)
        refine s_op rfl (o_pure loud_n rfl (l2Kind_c ..) ?_)
        rw [rd_kind]
        refine sr 2 rfl ?_
        refine s_bool 48 rfl rfl (fun h48 => ?_) (fun h48 => ?_)
        · -- slot 48 true
          have h48 := ndt h48
          refine sr 3 rfl ?_
          refine s_op rfl (o_pure loud_n rfl (l7In_c (hx := hb) (hl := by omega) ..) ?_)
          refine sra rfl ⟨_, ⟨rfl, rfl, trivial⟩, ⟨rfl, rfl, rfl, rfl, trivial⟩, rfl, fun h => ⟨h48, nbt h⟩, fun h => (by rw [bdf.2 h.2]; rfl)⟩
        · -- slot 48 false
          have h48 := ndf h48
          exact sra rfl ⟨false, ⟨rfl, rfl, trivial⟩, ⟨rfl, rfl, rfl, rfl, trivial⟩, rfl, fun h => (by cases h), fun h => absurd h48 h.1⟩
      rintro t st1 ⟨rfl, ht⟩
      refine c_if rfl (fun h54 => ?_) (fun h54 => ?_)
      · -- then
        have h54 := ht.1 h54
        refine crr (by kernel_rfl) rfl ?_   -- region 7
        refine c_ret (fr rfl ?_)
        rw [bdf.2 (fun h : Swp l g b q => h54.2 (h.2.2.1 k (hsub k (List.mem_cons_self ..)) h32 (by simpa using h54.1)))]
        rfl
      · -- else
        have h54 : kindOf l k ≠ 0 → (k : Int) ∈ b := fun h => Classical.byContradiction fun hc => by have := ht.2 ⟨h, hc⟩; rw [h54] at this; cases this
        refine c_skip ?_
        refine c_region (by kernel_rfl) ?_   -- region 5
        refine sr 4 rfl ?_
        refine s_op rfl (oidx rfl rfl rfl (by omega) (by omega) ?_)
        refine s_op rfl (old rfl rfl (hx.rd (by omega) (by omega)) ?_)
        refine s_op rfl (o_pure loud_n rfl (l2Size_c ..) ?_)
        refine s_op rfl (o_ar rfl rfl rfl (by omega) (by omega) ?_)
        refine sra rfl ⟨(k + size l k, r'), ⟨?_, trivial⟩, ⟨rfl, rfl, rfl, rfl, trivial⟩, ⟨rfl, by dsimp only; omega, hw', fun x h => hsub x (List.mem_cons_of_mem _ h), fun a ha => ?_⟩, by dsimp only; omega⟩
        · show AV.int .i64 _ = AV.int .i64 _
          congr 1; omega
        · rcases hall a ha with h | h
          · rcases List.mem_cons.1 h with h | h
            · subst h; exact .inr (by simpa using h54)
            · exact .inl h
          · exact .inr h
    · -- else
      have h32 := of_decide_eq_false h32
      have hsw : ∀ a ∈ blocks l, a < q → kindOf l a.toNat ≠ 0 → a ∈ b := fun a ha h1 h2 => by
        rcases hall a ha with h | h
        · obtain ⟨m, hm1, hm2, _⟩ := bl_mem l _ k rest hw a h
          omega
        · exact h h2
      refine c_exit ?_
      refine c_seq ?_
      refine crr (by kernel_rfl) rfl ?_   -- region 8
      refine c_block ?_
      refine c_lp (α := Nat) (fun j => [(6, I j)]) (fun _ => [(2, 2, [.sl r o l.length]), (3, 3, [I p, .sl rg 0 g.length, .sl rb 0 b.length, I q])])
        (fun j st' => Ex st st' ∧ j ≤ b.length ∧ ∀ a ∈ b.take j, Shp l a ∧ ∀ x ∈ slotsL l a, 4 ≤ rd l x % 8 → rd l x / 8 ∈ b) (fun j => b.length - j) 0 ⟨rfl, trivial⟩ ⟨rfl, rfl, rfl, rfl, trivial⟩ ⟨Ext.refl _ _, Nat.zero_le _, fun a h => by simp at h⟩ ?_
      rintro j st1 ⟨he, hj, hallb⟩
      refine c_seq ?_
      refine crr (by kernel_rfl) rfl ?_   -- region 9
      refine c_if rfl (fun h59 => ?_) (fun h59 => ?_)
      · -- then
        have h59 := of_decide_eq_true h59
        have hbm : rd b j ∈ b := mem_rd (by omega)
        refine c_skip ?_
        refine c_seq ?_
        refine c_block ?_
        refine c_seq ?_
        refine cds [0, 1, 2, 3, 4, 5, 6, 7] [.q, .q, .q, .q, .q, .q, .f, .q] (by kernel_rfl) (by kernel_rfl) ?_   -- region 11
        refine sr 4 rfl ?_
        refine s_op rfl (oidx rfl rfl rfl (by omega) (by omega) ?_)
        refine s_op rfl (old rfl rfl ((hb.ex he).rd (by omega) (by omega)) ?_)
        generalize hae : rd b (j : Int) = a at hbm
        refine s_op rfl (o_pure loud_f rfl (l3Shape_c _ _ _ _ _ (hx.ex he) hok (hbb a hbm)) ?_)
        refine sra rfl ?_
        refine c_if rfl (fun h69 => ?_) (fun h69 => ?_)
        · -- then
          have h69 := nbt h69
          refine crr (by kernel_rfl) rfl ?_   -- region 12
          refine c_ret (fr rfl ?_)
          rw [bdf.2 (fun h : Swp l g b q => h69 (h.2.2.2 a hbm).1)]
          rfl
        · -- else
          have h69 := nbf h69
          refine c_skip ?_
          refine cds [0, 1, 2, 3, 4, 5, 6, 7] [.q, .q, .q, .q, .q, .q, .f, .q] (by kernel_rfl) (by kernel_rfl) ?_   -- region 13
          refine sr 4 rfl ?_
          refine s_op rfl (oidx rfl rfl rfl (by omega) (by omega) ?_)
          refine s_op rfl (old rfl rfl ((hb.ex he).rd (by omega) (by omega)) ?_)
          rw [hae]
          refine s_op rfl (o_ex loud_f rfl (l3Slots_c _ _ _ _ _ (hx.ex he) (hbb a hbm)) ?_)
          rintro v4 st4 ⟨rs, rfl, hs4⟩ e4
          refine sra rfl ?_
          have he4 := he.tr e4
          refine crr (by kernel_rfl) rfl ?_   -- region 14
          refine c_block ?_
          refine c_lp (α := Nat) (fun i => [(6, I j), (7, .sl (some rs) 0 (slotsL l a).length), (8, I i)]) (fun _ => [(2, 2, [.sl r o l.length]), (3, 3, [I p, .sl rg 0 g.length, .sl rb 0 b.length, I q])])
            (fun i st' => st4 = st' ∧ i ≤ (slotsL l a).length ∧ ∀ x ∈ (slotsL l a).take i, 4 ≤ rd l x % 8 → rd l x / 8 ∈ b) (fun i => (slotsL l a).length - i) 0 ⟨rfl, rfl, rfl, trivial⟩ ⟨rfl, rfl, rfl, rfl, trivial⟩ ⟨rfl, Nat.zero_le _, fun x h => by simp at h⟩ ?_
          rintro i st5 ⟨rfl, hi, halls⟩
          have hsl := slots_len (hbb a hbm)
          refine c_seq ?_
          refine crr (by kernel_rfl) rfl ?_   -- region 15
          refine c_if rfl (fun h80 => ?_) (fun h80 => ?_)
          · -- then
            have h80 := of_decide_eq_true h80
            have hsm : rd (slotsL l a) i ∈ slotsL l a := mem_rd (by omega)
            have hsin := slots_in (hbb a hbm) hsm
            obtain ⟨an, han, _, _⟩ := blocks_mem (hbb a hbm)
            refine c_skip ?_
            refine c_seq ?_
            refine c_block ?_
            refine cds [0, 1, 2, 3, 4, 5, 6, 7, 8, 9] [.q, .q, .q, .q, .q, .q, .q, .q, .f, .q] (by kernel_rfl) (by kernel_rfl) ?_   -- region 17
            refine sr 4 rfl ?_
            refine s_op rfl (oidx rfl rfl rfl (by omega) (by omega) ?_)
            refine s_op rfl (old rfl rfl (hs4.at_.rd (by omega) (by omega)) ?_)
            generalize hxe : rd (slotsL l a) (i : Int) = x at hsm hsin
            refine s_op rfl (oidx rfl rfl rfl (by omega) (by omega) ?_)
            refine s_op rfl (old rfl rfl ((hx.ex he4).rd (by omega) (by omega)) ?_)
            have hvb := slot_vb h69 (hbb a hbm) hsm
            generalize hve : rd l x = v at hvb
            refine s_op rfl (o_pure loud_f rfl (l7Block_c ..) ?_)
            refine sra rfl ?_
            have hbv := blk_vb hvb
            refine c_sj (α := Bool) (fun t => [(6, I j), (7, .sl (some rs) 0 (slotsL l a).length), (8, I i), (100, .bool t)]) (fun _ => [(2, 2, [.sl r o l.length]), (3, 3, [I p, .sl rg 0 g.length, .sl rb 0 b.length, I q])])
              (fun t st' => st4 = st' ∧ (t = true ↔ 4 ≤ v % 8 ∧ v / 8 ∉ b)) ?_ ?_
            · -- region 18
              refine c_region (by kernel_rfl) ?_
              refine sr 3 rfl ?_
              refine s_bool 94 rfl rfl (fun h94 => ?_) (fun h94 => ?_)
              · -- slot 94 true
                have h94 := hbv.1 (of_decide_eq_true h94)
                have e5 := blk_pl h94
                refine sr 3 rfl ?_
                rw [e5]
                refine s_op rfl (o_pure loud_n rfl (l7In_c (hx := hb.ex he4) (hl := by omega) ..) ?_)
                refine sra rfl ⟨_, ⟨rfl, rfl, rfl, rfl, trivial⟩, ⟨rfl, rfl, rfl, rfl, trivial⟩, rfl, fun h => ⟨h94, nbt h⟩, fun h => (by rw [bdf.2 h.2]; rfl)⟩
              · -- slot 94 false
                have h94 := of_decide_eq_false h94
                rw [hbv] at h94
                exact sra rfl ⟨false, ⟨rfl, rfl, rfl, rfl, trivial⟩, ⟨rfl, rfl, rfl, rfl, trivial⟩, rfl, fun h => (by cases h), fun h => absurd h.1 h94⟩
            rintro t st5 ⟨rfl, ht⟩
            refine c_if rfl (fun h100 => ?_) (fun h100 => ?_)
            · -- then
              have h100 := ht.1 h100
              refine crr (by kernel_rfl) rfl ?_   -- region 19
              refine c_ret (fr rfl ?_)
              rw [bdf.2 (fun h : Swp l g b q => by
                have := (h.2.2.2 a hbm).2 x hsm
                rw [hve] at this
                exact h100.2 (this h100.1))]
              rfl
            · -- else
              have h100 : 4 ≤ v % 8 → v / 8 ∈ b := fun h => Classical.byContradiction fun hc => by have := ht.2 ⟨h, hc⟩; rw [h100] at this; cases this
              refine c_skip ?_
              refine c_region (by kernel_rfl) ?_   -- region 16
              refine sr 1 rfl ?_
              refine s_op rfl (o_ar rfl rfl rfl (by omega) (by omega) ?_)
              refine sra rfl ⟨i + 1, ⟨rfl, rfl, rfl, trivial⟩, ⟨rfl, rfl, rfl, rfl, trivial⟩, ⟨rfl, by omega, fun y hy hy4 => ?_⟩, by omega⟩
              obtain ⟨k', hk1, hk2, rfl⟩ := mem_take.1 hy
              by_cases e : k' = i
              · subst e; rw [hxe, hve] at hy4 ⊢; exact h100 hy4
              · exact halls _ (mem_take.2 ⟨k', by omega, hk2, rfl⟩) hy4
          · -- else
            have h80 := of_decide_eq_false h80
            have hie : (slotsL l a).take i = slotsL l a := List.take_of_length_le (by omega)
            rw [hie] at halls
            refine c_exit ?_
            refine c_region (by kernel_rfl) ?_   -- region 10
            refine sr 1 rfl ?_
            refine s_op rfl (o_ar rfl rfl rfl (by omega) (by omega) ?_)
            refine sra rfl ⟨j + 1, ⟨rfl, trivial⟩, ⟨rfl, rfl, rfl, rfl, trivial⟩, ⟨he4, by omega, fun a' ha' => ?_⟩, by omega⟩
            obtain ⟨k', hk1, hk2, rfl⟩ := mem_take.1 ha'
            by_cases e : k' = j
            · subst e; rw [hae]; exact ⟨h69, halls⟩
            · exact hallb _ (mem_take.2 ⟨k', by omega, hk2, rfl⟩)
      · -- else
        have h59 := of_decide_eq_false h59
        have hie : b.take j = b := List.take_of_length_le (by omega)
        rw [hie] at hallb
        refine c_exit ?_
        refine crr (by kernel_rfl) rfl ?_   -- region 20
        refine c_ret (fr rfl ?_)
        rw [bdt.2 (show Swp l g b q from ⟨h43.1, h43.2, hsw, hallb⟩)]
        rfl
theorem mem_iff {l g b : List Int} : Mem l g b ↔ Ord l g ∧ Ord l b ∧ ∀ i : Nat, i < b.length → rd b i ∉ g ∧ (0 < i → rd b ((i : Int) - 1) ≤ rd b i) := by
  constructor
  · rintro ⟨h1, h2⟩
    have hn := List.nodup_append.1 h1.1
    refine ⟨⟨hn.1, fun a ha => h1.2 a (List.mem_append_left _ ha)⟩, ⟨hn.2.1, fun a ha => h1.2 a (List.mem_append_right _ ha)⟩, fun i hi => ⟨fun hm => hn.2.2 _ hm _ (mem_rd hi) rfl, fun h0 => ?_⟩⟩
    have := h2 (i - 1) (by omega)
    rw [show (((i - 1 : Nat) : Int)) = (i : Int) - 1 by omega, show (i : Int) - 1 + 1 = i by omega] at this
    exact this
  · rintro ⟨h1, h2, h3⟩
    refine ⟨⟨List.nodup_append.2 ⟨h1.1, h2.1, fun a ha a' ha' e => ?_⟩, fun a ha => (List.mem_append.1 ha).elim (h1.2 a) (h2.2 a)⟩, fun i hi => ?_⟩
    · subst e
      obtain ⟨j, hj, rfl⟩ := rd_mem ha'
      exact (h3 j hj).1 ha
    · have := (h3 (i + 1) hi).2 (by omega)
      rw [show ((i + 1 : Nat) : Int) - 1 = i by omega] at this
      exact this
theorem MarkerOk_c (p q : Int) (r rg rb : Option Nat) (o : Nat) (l g b : List Int) (st : St) (hx : At st r o l) (hl : l.length ≤ 1048576) (hg : At st rg 0 g) (hb : At st rb 0 b) (hlg : g.length ≤ 536870912) (hlb : b.length ≤ 536870912) :
    ACalls Tryz.prog 18 [.agg [.sl r o l.length], .agg [I p, .sl rg 0 g.length, .sl rb 0 b.length, I q]] st No (Pv (.bool (bd (MkOk l p g b q)))) := by
  refine ent (N := 95) Tryz.func18 rfl (by decide) rfl rfl rfl ?_
  refine crr (by kernel_rfl) rfl ?_   -- region 0
  refine c_seq ?_
  refine c_sj (α := Bool) (fun t => [(28, .bool t)]) (fun _ => [(2, 2, [.sl r o l.length]), (3, 3, [I p, .sl rg 0 g.length, .sl rb 0 b.length, I q])])
    (fun t st' => st = st' ∧ (t = true ↔ ¬ (okB l = true ∧ (0 ≤ p ∧ p ≤ 2) ∧ Ord l g ∧ Ord l b))) ?_ ?_
  · -- region 1
    refine c_region (by kernel_rfl) ?_
    refine sr 1 rfl ?_
    refine s_op rfl (o_pure loud_n rfl (SlabOk_c _ _ _ _ hx hl) ?_)
    refine sr 2 rfl ?_
    refine s_bool 9 rfl rfl (fun h9 => ?_) (fun h9 => ?_)
    · -- slot 9 true
      have h9 : ¬ okB l = true := by simpa using h9
      refine sr 6 rfl ?_
      refine s_bool 15 rfl rfl (fun h15 => ?_) (fun h15 => by cases h15)
      refine sr 7 rfl ?_
      refine s_bool 22 rfl rfl (fun h22 => ?_) (fun h22 => by cases h22)
      exact sra rfl ⟨true, ⟨rfl, trivial⟩, ⟨rfl, rfl, rfl, rfl, trivial⟩, rfl, fun _ h => h9 h.1, fun _ => rfl⟩
    · -- slot 9 false
      have h9 : okB l = true := by simpa using h9
      refine sr 2 rfl ?_
      refine s_op rfl (o_pure loud_n rfl (l1In_c ..) ?_)
      refine sr 3 rfl ?_
      refine s_bool 15 rfl rfl (fun h15 => ?_) (fun h15 => ?_)
      · -- slot 15 true
        have h15 := ndt h15
        refine sr 7 rfl ?_
        refine s_bool 22 rfl rfl (fun h22 => ?_) (fun h22 => by cases h22)
        exact sra rfl ⟨true, ⟨rfl, trivial⟩, ⟨rfl, rfl, rfl, rfl, trivial⟩, rfl, fun _ h => h15 h.2.1, fun _ => rfl⟩
      · -- slot 15 false
        have h15 := ndf h15
        refine sr 3 rfl ?_
        refine s_op rfl (o_pure loud_n rfl (l8Places_c _ _ _ _ _ _ hx h9 hg (by omega)) ?_)
        refine sr 3 rfl ?_
        refine s_bool 22 rfl rfl (fun h22 => ?_) (fun h22 => ?_)
        · -- slot 22 true
          have h22 := nbt h22
          exact sra rfl ⟨true, ⟨rfl, trivial⟩, ⟨rfl, rfl, rfl, rfl, trivial⟩, rfl, fun _ h => h22 h.2.2.1, fun _ => rfl⟩
        · -- slot 22 false
          have h22 := nbf h22
          refine sr 3 rfl ?_
          refine s_op rfl (o_pure loud_n rfl (l8Places_c _ _ _ _ _ _ hx h9 hb (by omega)) ?_)
          refine sra rfl ⟨_, ⟨rfl, trivial⟩, ⟨rfl, rfl, rfl, rfl, trivial⟩, rfl, ?_⟩
          show (!bd (Ord l b)) = true ↔ _
          exact ⟨fun h hh => nbt h hh.2.2.2, fun h => (by rw [bdf.2 (fun hc => h ⟨h9, h15, h22, hc⟩)]; rfl)⟩
  rintro t st1 ⟨rfl, ht⟩
  refine c_if rfl (fun h28 => ?_) (fun h28 => ?_)
  · -- then
    have h28 := ht.1 h28
    refine crr (by kernel_rfl) rfl ?_   -- region 2
    refine c_ret (fr rfl ?_)
    rw [bdf.2 (fun h : MkOk l p g b q => h28 ⟨h.1, by rcases h.2.2 with h | h | h <;> (have := h.1; omega), (mem_iff.1 h.2.1).1, (mem_iff.1 h.2.1).2.1⟩)]
    rfl
  · -- else
    obtain ⟨hok, hp, hog, hob⟩ : okB l = true ∧ (0 ≤ p ∧ p ≤ 2) ∧ Ord l g ∧ Ord l b := Classical.byContradiction fun hc => by have := ht.2 hc; rw [h28] at this; cases this
    have hlen := okB_len hok
    refine c_skip ?_
    refine c_seq ?_
    refine crr (by kernel_rfl) rfl ?_   -- region 3
    refine c_block ?_
    refine c_lp (α := Nat) (fun i => [(5, I i)]) (fun _ => [(2, 2, [.sl r o l.length]), (3, 3, [I p, .sl rg 0 g.length, .sl rb 0 b.length, I q])])
      (fun i st' => st = st' ∧ i ≤ b.length ∧ ∀ j : Nat, j < i → rd b j ∉ g ∧ (0 < j → rd b ((j : Int) - 1) ≤ rd b j)) (fun i => b.length - i) 0 ⟨rfl, trivial⟩ ⟨rfl, rfl, rfl, rfl, trivial⟩ ⟨rfl, Nat.zero_le _, fun j h => by omega⟩ ?_
    rintro i st1 ⟨rfl, hi, hall⟩
    refine c_seq ?_
    refine crr (by kernel_rfl) rfl ?_   -- region 4
    refine c_if rfl (fun h33 => ?_) (fun h33 => ?_)
    · -- then
      have h33 := of_decide_eq_true h33
      refine c_skip ?_
      refine c_seq ?_
      refine c_block ?_
      refine c_sj (α := Bool) (fun t => [(5, I i), (61, .bool t)]) (fun _ => [(2, 2, [.sl r o l.length]), (3, 3, [I p, .sl rg 0 g.length, .sl rb 0 b.length, I q])])
        (fun t st' => st = st' ∧ (t = true ↔ ¬ (rd b i ∉ g ∧ (0 < i → rd b ((i : Int) - 1) ≤ rd b i)))) ?_ ?_
      · -- region 6
        refine cd1 [0, 1, 2, 3, 4, 5, 6, 7, 8, 9, 10, 11, 12, 13, 14, 15, 16, 17, 18, 19, 20, 21, 22, 23, 24, 25] [.q, .q, .q, .q, .q, .q, .q, .f, .q, .q, .q, .q, .q, .q, .q, .q, .q, .q, .q, .q, .q, .q, .q, .q, .q, .q] (by kernel_rfl) (by kernel_rfl) ?_
        refine sr 5 rfl ?_
        refine s_op rfl (oidx rfl rfl rfl (by omega) (by omega) ?_)
        refine s_op rfl (old rfl rfl (hb.rd (by omega) (by omega)) ?_)
        refine s_op rfl (o_pure loud_f rfl (l7In_c (hx := hg) (hl := by omega) ..) ?_)
        refine sr 1 rfl ?_
        refine s_bool 44 rfl rfl (fun h44 => ?_) (fun h44 => ?_)
        · -- slot 44 true
          have h44 := bdt.1 h44
          refine sr 3 rfl ?_
          refine sra rfl ⟨true, ⟨rfl, rfl, trivial⟩, ⟨rfl, rfl, rfl, rfl, trivial⟩, rfl, fun _ h => h.1 h44, fun _ => rfl⟩
        · -- slot 44 false
          have h44 := bdf.1 h44
          refine sr 3 rfl ?_
          refine s_bool 47 rfl rfl (fun h47 => ?_) (fun h47 => ?_)
          · -- slot 47 true
            have h47 := of_decide_eq_true h47
            refine sr 3 rfl ?_
            refine s_op rfl (o_ar rfl rfl rfl (by omega) (by omega) ?_)
            refine s_op rfl (oidx rfl rfl rfl (by omega) (by omega) ?_)
            refine s_op rfl (old rfl rfl (hb.rd (by omega) (by omega)) ?_)
            refine sr 3 rfl ?_
            refine s_op rfl (oidx rfl rfl rfl (by omega) (by omega) ?_)
            refine s_op rfl (old rfl rfl (hb.rd (by omega) (by omega)) ?_)
            refine sra rfl ⟨_, ⟨rfl, rfl, trivial⟩, ⟨rfl, rfl, rfl, rfl, trivial⟩, rfl, ?_⟩
            show decide (rd b ((i : Int) - 1) > rd b i) = true ↔ _
            rw [decide_eq_true_eq]
            exact ⟨fun h hh => by have := hh.2 (by omega); omega, fun h => Classical.byContradiction fun hc => h ⟨h44, fun _ => by omega⟩⟩
          · -- slot 47 false
            have h47 := of_decide_eq_false h47
            exact sra rfl ⟨false, ⟨rfl, rfl, trivial⟩, ⟨rfl, rfl, rfl, rfl, trivial⟩, rfl, fun h => (by cases h), fun h => absurd ⟨h44, fun h0 => absurd (by omega) h47⟩ h⟩
      rintro t st1 ⟨rfl, ht2⟩
      refine c_if rfl (fun h61 => ?_) (fun h61 => ?_)
      · -- then
        have h61 := ht2.1 h61
        refine crr (by kernel_rfl) rfl ?_   -- region 7
        refine c_ret (fr rfl ?_)
        rw [bdf.2 (fun h : MkOk l p g b q => h61 ((mem_iff.1 h.2.1).2.2 i (by omega)))]
        rfl
      · -- else
        have h61 : rd b i ∉ g ∧ (0 < i → rd b ((i : Int) - 1) ≤ rd b i) := Classical.byContradiction fun hc => by have := ht2.2 hc; rw [h61] at this; cases this
        refine c_skip ?_
        refine c_region (by kernel_rfl) ?_   -- region 5
        refine sr 1 rfl ?_
        refine s_op rfl (o_ar rfl rfl rfl (by omega) (by omega) ?_)
        refine sra rfl ⟨i + 1, ⟨rfl, trivial⟩, ⟨rfl, rfl, rfl, rfl, trivial⟩, ⟨rfl, by omega, fun j hj => ?_⟩, by omega⟩
        by_cases e : j = i
        · subst e; exact h61
        · exact hall j (by omega)
    · -- else
      have h33 := of_decide_eq_false h33
      have hm : Mem l g b := mem_iff.2 ⟨hog, hob, fun j hj => hall j (by omega)⟩
      refine c_exit ?_
      refine c_seq ?_
      refine crr (by kernel_rfl) rfl ?_   -- region 8
      refine c_block ?_
      refine crr (by kernel_rfl) rfl ?_   -- region 9
      refine c_if rfl (fun h64 => ?_) (fun h64 => ?_)
      · -- then
        have h64 := of_decide_eq_true h64
        refine c_sj (α := Bool) (fun t => [(4, .bool t)]) (fun _ => []) (fun t _ => (t = true ↔ MkOk l p g b q)) ?_ ?_
        · -- region 10
          refine c_region (by kernel_rfl) ?_
          refine sr 6 rfl ?_
          refine s_op rfl (o_ar rfl rfl rfl (by omega) (by omega) ?_)
          refine sr 2 rfl ?_
          refine s_bool 74 rfl rfl (fun h74 => ?_) (fun h74 => ?_)
          · -- slot 74 true
            have h74 := of_decide_eq_true h74
            refine sr 5 rfl ?_
            refine s_bool 79 rfl rfl (fun h79 => ?_) (fun h79 => ?_)
            · -- slot 79 true
              have h79 := of_decide_eq_true h79
              refine sr 1 rfl ?_
              refine s_op rfl (o_ex loud_n rfl (HeapOk_c _ _ _ _ hx hl) ?_)
              rintro v3 st3 rfl e3
              refine sra rfl ⟨_, ⟨rfl, trivial⟩, trivial, ?_⟩
              show bd (Heap l) = true ↔ _
              rw [bdt]
              exact ⟨fun h => ⟨hok, hm, .inl ⟨h64, h, h79, len0.2 (by omega), len0.2 (by omega)⟩⟩, fun h => by
                rcases h.2.2 with h | h | h
                · exact h.2.1
                · have := h.1; omega
                · have := h.1; omega⟩
            · -- slot 79 false
              have h79 := of_decide_eq_false h79
              refine sra rfl ⟨false, ⟨rfl, trivial⟩, trivial, fun h => (by cases h), fun h => ?_⟩
              exfalso
              rcases h.2.2 with h | h | h
              · exact h79 h.2.2.1
              · have := h.1; omega
              · have := h.1; omega
          · -- slot 74 false
            have h74 := of_decide_eq_false h74
            refine sr 5 rfl ?_
            refine s_bool 79 rfl rfl (fun h79 => by cases h79) (fun h79 => ?_)
            refine sra rfl ⟨false, ⟨rfl, trivial⟩, trivial, fun h => (by cases h), fun h => ?_⟩
            exfalso
            rcases h.2.2 with h | h | h
            · have h1 := len0.1 h.2.2.2.1
              have h2 := len0.1 h.2.2.2.2
              omega
            · have := h.1; omega
            · have := h.1; omega
        rintro t st3 ht
        exact c_ret (fr rfl (abd ht))
      · -- else
        have h64 := of_decide_eq_false h64
        refine crr (by kernel_rfl) rfl ?_   -- region 11
        refine c_if rfl (fun h83 => ?_) (fun h83 => ?_)
        · -- then
          have h83 := of_decide_eq_true h83
          refine c_sj (α := Bool) (fun t => [(4, .bool t)]) (fun _ => []) (fun t _ => (t = true ↔ MkOk l p g b q)) ?_ ?_
          · -- region 12
            refine c_region (by kernel_rfl) ?_
            refine sr 4 rfl ?_
            refine s_bool 88 rfl rfl (fun h88 => ?_) (fun h88 => ?_)
            · -- slot 88 true
              have h88 := of_decide_eq_true h88
              refine sr 1 rfl ?_
              refine s_op rfl (o_ex loud_n rfl (HeapOk_c _ _ _ _ hx hl) ?_)
              rintro v3 st3 rfl e3
              refine sra rfl ⟨_, ⟨rfl, trivial⟩, trivial, ?_⟩
              show bd (Heap l) = true ↔ _
              rw [bdt]
              exact ⟨fun h => ⟨hok, hm, .inr (.inl ⟨h83, h, h88⟩)⟩, fun h => by
                rcases h.2.2 with h | h | h
                · exact h.2.1
                · exact h.2.1
                · have := h.1; omega⟩
            · -- slot 88 false
              have h88 := of_decide_eq_false h88
              refine sra rfl ⟨false, ⟨rfl, trivial⟩, trivial, fun h => (by cases h), fun h => ?_⟩
              exfalso
              rcases h.2.2 with h | h | h
              · exact h64 h.1
              · exact h88 h.2.2
              · have := h.1; omega
          rintro t st3 ht
          exact c_ret (fr rfl (abd ht))
        · -- else
          have h83 := of_decide_eq_false h83
          refine c_skip ?_
          refine c_rs (by kernel_rfl) ?_   -- region 13
          refine sr 2 rfl ?_
          refine s_op rfl (o_ex loud_n rfl (l8Swept_c p q r rg rb o l g b _ hx hok hb (fun a ha => (hob.2 a ha).1) (by omega) (by omega)) ?_)
          rintro v3 st3 rfl e3
          refine sra rfl ?_
          refine c_ret (fr rfl ?_)
          show AV.bool (bd _) = AV.bool (bd _)
          rw [bd_eq (P := Swp l g b q) (Q := MkOk l p g b q) ⟨fun h => ⟨hok, hm, .inr (.inr ⟨by omega, h⟩)⟩, fun h => by
            rcases h.2.2 with h | h | h
            · exact absurd h.1 h64
            · exact absurd h.1 h83
            · exact h.2⟩]
end Go.Proofs.YtfhkjhnaihhdmaaGreatW.Ax

/- No black block leads to one that was not met: walked. -/
namespace Go.Proofs.YtfhkjhnaihhdmaaGreatW.Ax
open Go Go.RowKit Go.Proofs Go.Proofs.YtfhkjhnaihhdmaaGreat.Pure
set_option linter.unusedVariables false
set_option maxRecDepth 100000

def TriB (l g b : List Int) (a : Int) : Prop := ∀ x ∈ slotsL l a, 4 ≤ rd l x % 8 → rd l x / 8 ∈ g ∨ rd l x / 8 ∈ b
def Tri (l : List Int) (p : Int) (g b : List Int) (q : Int) : Prop := MkOk l p g b q ∧ (p = 1 → ∀ a ∈ b, TriB l g b a)
theorem MkOk.black {l : List Int} {p : Int} {g b : List Int} {q : Int} (h : MkOk l p g b q) : ∀ a ∈ b, a ∈ blocks l := fun a ha => (h.2.1.1.2 a (List.mem_append_right _ ha)).1
theorem MkOk.grey {l : List Int} {p : Int} {g b : List Int} {q : Int} (h : MkOk l p g b q) : ∀ a ∈ g, a ∈ blocks l := fun a ha => (h.2.1.1.2 a (List.mem_append_left _ ha)).1
theorem MkOk.asc {l : List Int} {p : Int} {g b : List Int} {q : Int} (h : MkOk l p g b q) : b.Pairwise (· < ·) := srt_lt h.2.1.2 (List.nodup_append.1 h.2.1.1.1).2.1
theorem MkOk.heap {l : List Int} {g b : List Int} {q : Int} (h : MkOk l 1 g b q) : Heap l := by
  rcases h.2.2 with h | h | h
  · exact h.2.1
  · exact h.2.1
  · have := h.1; omega
theorem iTriOk_c (p q : Int) (r rg rb : Option Nat) (o : Nat) (l g b : List Int) (st : St) (hx : At st r o l) (hl : l.length ≤ 1048576) (hg : At st rg 0 g) (hb : At st rb 0 b) (hlg : g.length ≤ 536870912) (hlb : b.length ≤ 536870912) (hq : W1 q) :
    ACalls Tryz.prog 25 [.agg [.sl r o l.length], .agg [I p, .sl rg 0 g.length, .sl rb 0 b.length, I q]] st No (Pv (.bool (bd (Tri l p g b q)))) := by
  refine ent (N := 56) Tryz.func25 rfl (by decide) rfl rfl rfl ?_
  refine crr (by kernel_rfl) rfl ?_   -- region 0
  refine c_seq ?_
  refine c_rs (by kernel_rfl) ?_   -- region 1
  refine sr 2 rfl ?_
  refine s_op rfl (o_ex loud_n rfl (iMarkerOk_c p q r rg rb o l g b _ hx hl hg hb hlg hlb hq) ?_)
  rintro v1 st1 rfl e1
  refine sra rfl ?_
  refine c_if rfl (fun h13 => ?_) (fun h13 => ?_)
  · -- then
    have h13 := nbt h13
    refine crr (by kernel_rfl) rfl ?_   -- region 2
    refine c_ret (fr rfl ?_)
    rw [bdf.2 (fun h : Tri l p g b q => h13 h.1)]
    rfl
  · -- else
    have h13 := nbf h13
    have hok := h13.1
    have hlen := okB_len hok
    have hbb := h13.black
    have hbs := h13.asc
    refine c_skip ?_
    refine c_seq ?_
    refine crr (by kernel_rfl) rfl ?_   -- region 3
    refine c_if rfl (fun h16 => ?_) (fun h16 => ?_)
    · -- then
      have h16 := ndt h16
      refine crr (by kernel_rfl) rfl ?_   -- region 4
      refine c_ret (fr rfl ?_)
      rw [bdt.2 (show Tri l p g b q from ⟨h13, fun h => absurd h h16⟩)]
      rfl
    · -- else
      have h16 := ndf h16
      refine c_skip ?_
      refine c_seq ?_
      refine crr (by kernel_rfl) rfl ?_   -- region 5
      refine c_block ?_
      refine c_lp (α := Nat) (fun j => [(18, .sl rb 0 b.length), (19, I b.length), (20, I j)]) (fun _ => [(2, 2, [.sl r o l.length]), (3, 3, [I p, .sl rg 0 g.length, .sl rb 0 b.length, I q])])
        (fun j st' => Ex st st' ∧ j ≤ b.length ∧ ∀ a ∈ b.take j, TriB l g b a) (fun j => b.length - j) 0 ⟨rfl, rfl, rfl, trivial⟩ ⟨rfl, rfl, rfl, rfl, trivial⟩ ⟨e1, Nat.zero_le _, fun a h => by simp at h⟩ ?_
      rintro j st2 ⟨he, hj, hallb⟩
      refine crr (by kernel_rfl) rfl ?_   -- region 6
      refine c_seq ?_
      refine c_if rfl (fun h21 => ?_) (fun h21 => ?_)
      · -- then
        have h21 := of_decide_eq_true h21
        have hbm : rd b j ∈ b := mem_rd (by omega)
        refine c_skip ?_
        refine c_seq ?_
        refine c_block ?_
        refine c_rs (by kernel_rfl) ?_   -- region 7
        refine s_op rfl (oidx rfl rfl rfl (by omega) (by omega) ?_)
        refine s_op rfl (old rfl rfl ((hb.ex he).rd (by omega) (by omega)) ?_)
        refine sra rfl ?_
        generalize hae : rd b (j : Int) = a at hbm
        refine c_rs (by kernel_rfl) ?_   -- region 8
        refine sr 2 rfl ?_
        refine s_op rfl (o_ex loud_n rfl (slots_c _ _ _ _ _ (hx.ex he) (hbb a hbm)) ?_)
        rintro v4 st4 ⟨rs, rfl, hs4⟩ e4
        refine sra rfl ?_
        have he4 := he.tr e4
        refine c_block ?_
        refine c_lp (α := Nat) (fun i => [(18, .sl rb 0 b.length), (19, I b.length), (20, I j), (26, .sl rs 0 (slotsL l a).length), (27, I (slotsL l a).length), (28, I i)]) (fun _ => [(2, 2, [.sl r o l.length]), (3, 3, [I p, .sl rg 0 g.length, .sl rb 0 b.length, I q])])
          (fun i st' => st4 = st' ∧ i ≤ (slotsL l a).length ∧ ∀ x ∈ (slotsL l a).take i, 4 ≤ rd l x % 8 → rd l x / 8 ∈ g ∨ rd l x / 8 ∈ b) (fun i => (slotsL l a).length - i) 0 ⟨rfl, rfl, rfl, rfl, rfl, rfl, trivial⟩ ⟨rfl, rfl, rfl, rfl, trivial⟩ ⟨rfl, Nat.zero_le _, fun x h => by simp at h⟩ ?_
        rintro i st5 ⟨rfl, hi, halls⟩
        have hsl := slots_len (hbb a hbm)
        refine crr (by kernel_rfl) rfl ?_   -- region 9
        refine c_seq ?_
        refine c_if rfl (fun h29 => ?_) (fun h29 => ?_)
        · -- then
          have h29 := of_decide_eq_true h29
          have hsm : rd (slotsL l a) i ∈ slotsL l a := mem_rd (by omega)
          have hsin := slots_in (hbb a hbm) hsm
          obtain ⟨an, han, _, _⟩ := blocks_mem (hbb a hbm)
          refine c_skip ?_
          refine c_seq ?_
          refine c_block ?_
          refine c_rs (by kernel_rfl) ?_   -- region 10
          refine s_op rfl (oidx rfl rfl rfl (by omega) (by omega) ?_)
          refine s_op rfl (old rfl rfl (hs4.at_.rd (by omega) (by omega)) ?_)
          refine sra rfl ?_
          generalize hxe : rd (slotsL l a) (i : Int) = x at hsm hsin
          refine c_rs (by kernel_rfl) ?_   -- region 11
          refine sr 3 rfl ?_
          refine s_op rfl (oidx rfl rfl rfl (by omega) (by omega) ?_)
          refine s_op rfl (old rfl rfl ((hx.ex he4).rd (by omega) (by omega)) ?_)
          refine sra rfl ?_
          generalize hve : rd l x = v
          refine c_sj (α := Bool) (fun t => [(18, .sl rb 0 b.length), (19, I b.length), (20, I j), (26, .sl rs 0 (slotsL l a).length), (27, I (slotsL l a).length), (28, I i), (53, .bool t)]) (fun _ => [(2, 2, [.sl r o l.length]), (3, 3, [I p, .sl rg 0 g.length, .sl rb 0 b.length, I q])])
            (fun t st' => st4 = st' ∧ (t = true ↔ 4 ≤ v % 8 ∧ v / 8 ∉ g ∧ v / 8 ∉ b)) ?_ ?_
          · -- region 12
            refine cd1 [0, 1, 2, 3, 4, 5, 6, 7, 8, 9, 10, 11, 12, 13, 14, 15, 16] [.q, .f, .q, .q, .q, .q, .f, .f, .q, .q, .q, .q, .q, .f, .f, .q, .q] (by kernel_rfl) (by kernel_rfl) ?_
            refine sr 1 rfl ?_
            refine s_op rfl (o_pure loud_f rfl (hasPlace_c ..) ?_)
            refine sr 1 rfl ?_
            refine s_bool 39 rfl rfl (fun h39 => ?_) (fun h39 => ?_)
            · -- slot 39 true
              have h39 := of_decide_eq_true h39
              refine sr 3 rfl ?_
              refine s_op rfl (o_pure loud_f rfl (iNum_c ..) ?_)
              refine s_op rfl (o_pure loud_f rfl (Contains_c (hx := hg.ex he4) (hl := by omega) ..) ?_)
              refine sr 3 rfl ?_
              refine s_bool 47 rfl rfl (fun h47 => ?_) (fun h47 => ?_)
              · -- slot 47 true
                have h47 := nbt h47
                refine sr 2 rfl ?_
                refine s_op rfl (o_pure loud_f rfl (iNum_c ..) ?_)
                refine s_op rfl (o_pure loud_f rfl (isBlack_c (hb := hb.ex he4) (hs := hbs) (hl := by omega) ..) ?_)
                refine sra rfl ⟨_, ⟨rfl, rfl, rfl, rfl, rfl, rfl, rfl, trivial⟩, ⟨rfl, rfl, rfl, rfl, trivial⟩, rfl, fun h => ⟨h39, h47, nbt h⟩, fun h => (by rw [bdf.2 h.2.2]; rfl)⟩
              · -- slot 47 false
                have h47 := nbf h47
                exact sra rfl ⟨false, ⟨rfl, rfl, rfl, rfl, rfl, rfl, rfl, trivial⟩, ⟨rfl, rfl, rfl, rfl, trivial⟩, rfl, fun h => (by cases h), fun h => absurd h47 h.2.1⟩
            · -- slot 39 false
              have h39 := of_decide_eq_false h39
              refine sr 8 rfl ?_
              refine s_bool 47 rfl rfl (fun h47 => by cases h47) (fun h47 => ?_)
              exact sra rfl ⟨false, ⟨rfl, rfl, rfl, rfl, rfl, rfl, rfl, trivial⟩, ⟨rfl, rfl, rfl, rfl, trivial⟩, rfl, fun h => (by cases h), fun h => absurd h.1 h39⟩
          rintro t st5 ⟨rfl, ht⟩
          refine c_if rfl (fun h53 => ?_) (fun h53 => ?_)
          · -- then
            have h53 := ht.1 h53
            refine crr (by kernel_rfl) rfl ?_   -- region 13
            refine c_ret (fr rfl ?_)
            rw [bdf.2 (fun h : Tri l p g b q => by
              have := h.2 h16 a hbm x hsm
              rw [hve] at this
              exact (this h53.1).elim h53.2.1 h53.2.2)]
            rfl
          · -- else
            have h53 : 4 ≤ v % 8 → v / 8 ∈ g ∨ v / 8 ∈ b := fun h => Classical.byContradiction fun hc => by have := ht.2 ⟨h, fun h => hc (.inl h), fun h => hc (.inr h)⟩; rw [h53] at this; cases this
            refine c_skip ?_
            refine c_region (by kernel_rfl) ?_   -- region 14
            refine s_op rfl (o_ar rfl rfl rfl (by omega) (by omega) ?_)
            refine sra rfl ⟨i + 1, ⟨rfl, rfl, rfl, rfl, rfl, rfl, trivial⟩, ⟨rfl, rfl, rfl, rfl, trivial⟩, ⟨rfl, by omega, fun y hy hy4 => ?_⟩, by omega⟩
            obtain ⟨k, hk1, hk2, rfl⟩ := mem_take.1 hy
            by_cases e : k = i
            · subst e; rw [hxe, hve] at hy4 ⊢; exact h53 hy4
            · exact halls _ (mem_take.2 ⟨k, by omega, hk2, rfl⟩) hy4
        · -- else
          have h29 := of_decide_eq_false h29
          have hie : (slotsL l a).take i = slotsL l a := List.take_of_length_le (by omega)
          rw [hie] at halls
          refine c_exit ?_
          refine c_region (by kernel_rfl) ?_   -- region 15
          refine s_op rfl (o_ar rfl rfl rfl (by omega) (by omega) ?_)
          refine sra rfl ⟨j + 1, ⟨rfl, rfl, rfl, trivial⟩, ⟨rfl, rfl, rfl, rfl, trivial⟩, ⟨he4, by omega, fun a' ha' => ?_⟩, by omega⟩
          obtain ⟨k, hk1, hk2, rfl⟩ := mem_take.1 ha'
          by_cases e : k = j
          · subst e; rw [hae]; exact halls
          · exact hallb _ (mem_take.2 ⟨k, by omega, hk2, rfl⟩)
      · -- else
        have h21 := of_decide_eq_false h21
        have hie : b.take j = b := List.take_of_length_le (by omega)
        rw [hie] at hallb
        refine c_exit ?_
        refine crr (by kernel_rfl) rfl ?_   -- region 16
        refine c_ret (fr rfl ?_)
        rw [bdt.2 (show Tri l p g b q from ⟨h13, fun _ => hallb⟩)]
        rfl
theorem TriOk_c (p q : Int) (r rg rb : Option Nat) (o : Nat) (l g b : List Int) (st : St) (hx : At st r o l) (hl : l.length ≤ 1048576) (hg : At st rg 0 g) (hb : At st rb 0 b) (hlg : g.length ≤ 536870912) (hlb : b.length ≤ 536870912) :
    ACalls Tryz.prog 26 [.agg [.sl r o l.length], .agg [I p, .sl rg 0 g.length, .sl rb 0 b.length, I q]] st No (Pv (.bool (bd (Tri l p g b q)))) := by
  refine ent (N := 63) Tryz.func26 rfl (by decide) rfl rfl rfl ?_
  refine crr (by kernel_rfl) rfl ?_   -- region 0
  refine c_seq ?_
  refine c_rs (by kernel_rfl) ?_   -- region 1
  refine sr 2 rfl ?_
  refine s_op rfl (o_ex loud_n rfl (MarkerOk_c p q r rg rb o l g b _ hx hl hg hb hlg hlb) ?_)
  rintro v1 st1 rfl e1
  refine sra rfl ?_
  refine c_if rfl (fun h12 => ?_) (fun h12 => ?_)
  · -- then
    have h12 := nbt h12
    refine crr (by kernel_rfl) rfl ?_   -- region 2
    refine c_ret (fr rfl ?_)
    rw [bdf.2 (fun h : Tri l p g b q => h12 h.1)]
    rfl
  · -- else
    have h12 := nbf h12
    have hok := h12.1
    have hlen := okB_len hok
    have hbb := h12.black
    refine c_skip ?_
    refine c_seq ?_
    refine crr (by kernel_rfl) rfl ?_   -- region 3
    refine c_block ?_
    refine c_lp (α := Nat) (fun j => [(5, I j)]) (fun _ => [(2, 2, [.sl r o l.length]), (3, 3, [I p, .sl rg 0 g.length, .sl rb 0 b.length, I q])])
      (fun j st' => Ex st st' ∧ j ≤ b.length ∧ ∀ a ∈ b.take j, TriB l g b a) (fun j => b.length - j) 0 ⟨rfl, trivial⟩ ⟨rfl, rfl, rfl, rfl, trivial⟩ ⟨e1, Nat.zero_le _, fun a h => by simp at h⟩ ?_
    rintro j st2 ⟨he, hj, hallb⟩
    refine c_seq ?_
    refine c_sj (α := Bool) (fun t => [(5, I j), (22, .bool t)]) (fun _ => [(2, 2, [.sl r o l.length]), (3, 3, [I p, .sl rg 0 g.length, .sl rb 0 b.length, I q])])
      (fun t st' => st2 = st' ∧ (t = true ↔ j < b.length ∧ p = 1)) ?_ ?_
    · -- region 4
      refine c_region (by kernel_rfl) ?_
      refine sr 6 rfl ?_
      refine s_bool 18 rfl rfl (fun h18 => ?_) (fun h18 => ?_)
      · -- slot 18 true
        have h18 := of_decide_eq_true h18
        refine sra rfl ⟨_, ⟨rfl, rfl, trivial⟩, ⟨rfl, rfl, rfl, rfl, trivial⟩, rfl, ?_⟩
        show decide (p = 1) = true ↔ _
        rw [decide_eq_true_eq]
        exact ⟨fun h => ⟨by omega, h⟩, fun h => h.2⟩
      · -- slot 18 false
        have h18 := of_decide_eq_false h18
        exact sra rfl ⟨false, ⟨rfl, rfl, trivial⟩, ⟨rfl, rfl, rfl, rfl, trivial⟩, rfl, fun h => (by cases h), fun h => absurd h.1 (by omega)⟩
    rintro t st3 ⟨rfl, ht⟩
    refine c_if rfl (fun h22 => ?_) (fun h22 => ?_)
    · -- then
      obtain ⟨h22, hp1⟩ := ht.1 h22
      have hheap : Heap l := by rw [hp1] at h12; exact h12.heap
      have hbm : rd b j ∈ b := mem_rd (by omega)
      refine c_skip ?_
      refine c_seq ?_
      refine c_block ?_
      refine cds [0, 1, 2, 3, 4, 5, 6, 7] [.q, .q, .q, .q, .q, .q, .f, .q] (by kernel_rfl) (by kernel_rfl) ?_   -- region 6
      refine sr 4 rfl ?_
      refine s_op rfl (oidx rfl rfl rfl (by omega) (by omega) ?_)
      refine s_op rfl (old rfl rfl ((hb.ex he).rd (by omega) (by omega)) ?_)
      generalize hae : rd b (j : Int) = a at hbm
      refine s_op rfl (o_ex loud_f rfl (l3Slots_c _ _ _ _ _ (hx.ex he) (hbb a hbm)) ?_)
      rintro v4 st4 ⟨rs, rfl, hs4⟩ e4
      refine sra rfl ?_
      have he4 := he.tr e4
      refine crr (by kernel_rfl) rfl ?_   -- region 7
      refine c_block ?_
      refine c_lp (α := Nat) (fun i => [(5, I j), (6, .sl (some rs) 0 (slotsL l a).length), (7, I i)]) (fun _ => [(2, 2, [.sl r o l.length]), (3, 3, [I p, .sl rg 0 g.length, .sl rb 0 b.length, I q])])
        (fun i st' => st4 = st' ∧ i ≤ (slotsL l a).length ∧ ∀ x ∈ (slotsL l a).take i, 4 ≤ rd l x % 8 → rd l x / 8 ∈ g ∨ rd l x / 8 ∈ b) (fun i => (slotsL l a).length - i) 0 ⟨rfl, rfl, rfl, trivial⟩ ⟨rfl, rfl, rfl, rfl, trivial⟩ ⟨rfl, Nat.zero_le _, fun x h => by simp at h⟩ ?_
      rintro i st5 ⟨rfl, hi, halls⟩
      have hsl := slots_len (hbb a hbm)
      refine c_seq ?_
      refine crr (by kernel_rfl) rfl ?_   -- region 8
      refine c_if rfl (fun h35 => ?_) (fun h35 => ?_)
      · -- then
        have h35 := of_decide_eq_true h35
        have hsm : rd (slotsL l a) i ∈ slotsL l a := mem_rd (by omega)
        have hsin := slots_in (hbb a hbm) hsm
        obtain ⟨an, han, _, _⟩ := blocks_mem (hbb a hbm)
        refine c_skip ?_
        refine c_seq ?_
        refine c_block ?_
        refine cds [0, 1, 2, 3, 4, 5, 6, 7, 8, 9] [.q, .q, .q, .q, .q, .q, .q, .q, .f, .q] (by kernel_rfl) (by kernel_rfl) ?_   -- region 10
        refine sr 4 rfl ?_
        refine s_op rfl (oidx rfl rfl rfl (by omega) (by omega) ?_)
        refine s_op rfl (old rfl rfl (hs4.at_.rd (by omega) (by omega)) ?_)
        generalize hxe : rd (slotsL l a) (i : Int) = x at hsm hsin
        refine s_op rfl (oidx rfl rfl rfl (by omega) (by omega) ?_)
        refine s_op rfl (old rfl rfl ((hx.ex he4).rd (by omega) (by omega)) ?_)
        have hvb := slot_vb (hheap.2 a (hbb a hbm)) (hbb a hbm) hsm
        generalize hve : rd l x = v at hvb
        refine s_op rfl (o_pure loud_f rfl (l7Block_c ..) ?_)
        refine sra rfl ?_
        have hbv := blk_vb hvb
        refine c_sj (α := Bool) (fun t => [(5, I j), (6, .sl (some rs) 0 (slotsL l a).length), (7, I i), (62, .bool t)]) (fun _ => [(2, 2, [.sl r o l.length]), (3, 3, [I p, .sl rg 0 g.length, .sl rb 0 b.length, I q])])
          (fun t st' => st4 = st' ∧ (t = true ↔ 4 ≤ v % 8 ∧ v / 8 ∉ g ∧ v / 8 ∉ b)) ?_ ?_
        · -- region 11
          refine c_region (by kernel_rfl) ?_
          refine sr 3 rfl ?_
          refine s_bool 49 rfl rfl (fun h49 => ?_) (fun h49 => ?_)
          · -- slot 49 true
            have h49 := hbv.1 (of_decide_eq_true h49)
            have e5 := blk_pl h49
            refine sr 3 rfl ?_
            rw [e5]
            refine s_op rfl (o_pure loud_n rfl (l7In_c (hx := hg.ex he4) (hl := by omega) ..) ?_)
            refine sr 3 rfl ?_
            refine s_bool 56 rfl rfl (fun h56 => ?_) (fun h56 => ?_)
            · -- slot 56 true
              have h56 := nbt h56
              refine sr 3 rfl ?_
              refine s_op rfl (o_pure loud_n rfl (l7In_c (hx := hb.ex he4) (hl := by omega) ..) ?_)
              refine sra rfl ⟨_, ⟨rfl, rfl, rfl, rfl, trivial⟩, ⟨rfl, rfl, rfl, rfl, trivial⟩, rfl, fun h => ⟨h49, h56, nbt h⟩, fun h => (by rw [bdf.2 h.2.2]; rfl)⟩
            · -- slot 56 false
              have h56 := nbf h56
              exact sra rfl ⟨false, ⟨rfl, rfl, rfl, rfl, trivial⟩, ⟨rfl, rfl, rfl, rfl, trivial⟩, rfl, fun h => (by cases h), fun h => absurd h56 h.2.1⟩
          · -- slot 49 false
            have h49 := of_decide_eq_false h49
            rw [hbv] at h49
            refine sr 7 rfl ?_
            refine s_bool 56 rfl rfl (fun h56 => by cases h56) (fun h56 => ?_)
            exact sra rfl ⟨false, ⟨rfl, rfl, rfl, rfl, trivial⟩, ⟨rfl, rfl, rfl, rfl, trivial⟩, rfl, fun h => (by cases h), fun h => absurd h.1 h49⟩
        rintro t st5 ⟨rfl, ht2⟩
        refine c_if rfl (fun h62 => ?_) (fun h62 => ?_)
        · -- then
          have h62 := ht2.1 h62
          refine crr (by kernel_rfl) rfl ?_   -- region 12
          refine c_ret (fr rfl ?_)
          rw [bdf.2 (fun h : Tri l p g b q => by
            have := h.2 hp1 a hbm x hsm
            rw [hve] at this
            exact (this h62.1).elim h62.2.1 h62.2.2)]
          rfl
        · -- else
          have h62 : 4 ≤ v % 8 → v / 8 ∈ g ∨ v / 8 ∈ b := fun h => Classical.byContradiction fun hc => by have := ht2.2 ⟨h, fun h => hc (.inl h), fun h => hc (.inr h)⟩; rw [h62] at this; cases this
          refine c_skip ?_
          refine c_region (by kernel_rfl) ?_   -- region 9
          refine sr 1 rfl ?_
          refine s_op rfl (o_ar rfl rfl rfl (by omega) (by omega) ?_)
          refine sra rfl ⟨i + 1, ⟨rfl, rfl, rfl, trivial⟩, ⟨rfl, rfl, rfl, rfl, trivial⟩, ⟨rfl, by omega, fun y hy hy4 => ?_⟩, by omega⟩
          obtain ⟨k, hk1, hk2, rfl⟩ := mem_take.1 hy
          by_cases e : k = i
          · subst e; rw [hxe, hve] at hy4 ⊢; exact h62 hy4
          · exact halls _ (mem_take.2 ⟨k, by omega, hk2, rfl⟩) hy4
      · -- else
        have h35 := of_decide_eq_false h35
        have hie : (slotsL l a).take i = slotsL l a := List.take_of_length_le (by omega)
        rw [hie] at halls
        refine c_exit ?_
        refine c_region (by kernel_rfl) ?_   -- region 5
        refine sr 1 rfl ?_
        refine s_op rfl (o_ar rfl rfl rfl (by omega) (by omega) ?_)
        refine sra rfl ⟨j + 1, ⟨rfl, trivial⟩, ⟨rfl, rfl, rfl, rfl, trivial⟩, ⟨he4, by omega, fun a' ha' => ?_⟩, by omega⟩
        obtain ⟨k, hk1, hk2, rfl⟩ := mem_take.1 ha'
        by_cases e : k = j
        · subst e; rw [hae]; exact halls
        · exact hallb _ (mem_take.2 ⟨k, by omega, hk2, rfl⟩)
    · -- else
      refine c_exit ?_
      refine crr (by kernel_rfl) rfl ?_   -- region 13
      refine c_ret (fr rfl ?_)
      have hno : ¬ (j < b.length ∧ p = 1) := fun h => by have := ht.2 h; rw [h22] at this; cases this
      rw [bdt.2 (show Tri l p g b q from ⟨h12, fun hp a ha => hallb a (by
        rw [List.take_of_length_le (by
          rcases Nat.lt_or_ge j b.length with h | h
          · exact absurd ⟨h, hp⟩ hno
          · exact h)]; exact ha)⟩)]
      rfl
end Go.Proofs.YtfhkjhnaihhdmaaGreatW.Ax

/- A marker copied, and Shade: walked. -/
namespace Go.Proofs.YtfhkjhnaihhdmaaGreatW.Ax
open Go Go.RowKit Go.Proofs Go.Proofs.YtfhkjhnaihhdmaaGreat.Pure
set_option linter.unusedVariables false
set_option maxRecDepth 100000

theorem copyMarker_c (p q : Int) (r1 r2 : Option Nat) (g b : List Int) (st : St) (hg : At st r1 0 g) (hb : At st r2 0 b) (hlg : g.length ≤ 1073741824) (hlb : b.length ≤ 1073741824) :
    ACalls Tryz.prog 69 [.agg [I p, .sl r1 0 g.length, .sl r2 0 b.length, I q]] st No (Mr st p g b q) := by
  refine ent (N := 12) Tryz.func69 rfl (by decide) rfl rfl rfl ?_
  refine crr (by kernel_rfl) rfl ?_   -- region 0
  refine cdt [0, 1, 3, 4, 2, 6, 5, 7, 8, 9] [.q, .q, .q, .q, .f, .q, .f, .n, .q, .n] (by kernel_rfl) (by kernel_rfl) ?_   -- region 1
  refine sr 4 rfl ?_
  refine s_op rfl (o_ex loud_f rfl (copyInts_c _ _ _ _ hg (by omega)) ?_)
  rintro v1 st1 ⟨q1, rfl, hf1⟩ e1
  refine sr 1 rfl ?_
  refine s_op rfl (o_ex loud_f rfl (copyInts_c _ _ _ _ (hb.ex e1) (by omega)) ?_)
  rintro v2 st2 ⟨q2, rfl, hf2⟩ e2
  refine sra rfl ?_
  refine crr (by kernel_rfl) rfl ?_   -- region 2
  refine c_ret (fr rfl ⟨q1, q2, rfl, hf1.ex e2, hf2.le e1.n, fun i h h' => ?_⟩)
  have := hf1.bd i h
  have := hf2.bd i h'
  omega
/-- What the literals and the first of the copies are. -/
def PhiC (n0 : Nat) (g : List Int) (i : Nat) (v : AV) (st : St) : Prop := match i with
  | 5 => ∃ q1, v = .sl q1 0 g.length ∧ Fr n0 st q1 g
  | _ => v = .sl none 0 0
theorem phiC_ex (n0 : Nat) (g : List Int) : ∀ i v st st', PhiC n0 g i v st → Ex st st' → PhiC n0 g i v st' := fun i v st st' h he => by
  unfold PhiC at *
  split at h
  · obtain ⟨q1, h1, h2⟩ := h
    exact ⟨q1, h1, h2.ex he⟩
  · exact h
theorem l8Copy_c (p q : Int) (r1 r2 : Option Nat) (g b : List Int) (st : St) (hg : At st r1 0 g) (hb : At st r2 0 b) (hlg : g.length ≤ 1073741824) (hlb : b.length ≤ 1073741824) :
    ACalls Tryz.prog 73 [.agg [I p, .sl r1 0 g.length, .sl r2 0 b.length, I q]] st No (Mr st p g b q) := by
  refine ent (N := 16) Tryz.func73 rfl (by decide) rfl rfl rfl ?_
  refine crr (by kernel_rfl) rfl ?_   -- region 0
  refine cdM [0, 1, 3, 4, 7, 8, 10, 11] [2, 5, 6] [9, 12, 13] [.f, .q, .n] (fun i => if i = 2 then 5 else if i = 5 then 8 else 9) (PhiC st.n g) (by kernel_rfl) (by kernel_rfl) (phiC_ex st.n g) (by decide) ?_
  refine sr 8 rfl ?_
  refine s_end ⟨rfl, fun i hi op ho a st' hex hdep hsl hbx => ?_, fun a st' hex hphi hsl hbx => ?_⟩
  · have h7 : a.s 7 = .sl r1 0 g.length := (hsl 7 (by decide)).1
    simp only [List.mem_cons, List.not_mem_nil, or_false] at hi
    rcases hi with rfl | rfl | rfl
    · obtain rfl : _ = op := Option.some.inj ho
      exact obsl0 loud_f rfl ⟨_, rfl, rfl, Ext.refl _ _⟩
    · obtain rfl : _ = op := Option.some.inj ho
      have h5 : a.s 5 = .sl none 0 0 := hdep 2 (by decide) ⟨_, by simp; exact .inl rfl, rfl, rfl⟩
      exact oappE loud_f rfl h5 h7 (hg.ex hex) (by omega) fun q1 st2 hf2 he2 => ⟨_, rfl, ⟨q1, rfl, hf2.le hex.n⟩, he2⟩
    · obtain rfl : _ = op := Option.some.inj ho
      exact obsl0 loud_f rfl ⟨_, rfl, rfl, Ext.refl _ _⟩
  · have h4 : a.s 4 = I p := (hsl 4 (by decide)).1
    have h11 : a.s 11 = .sl r2 0 b.length := (hsl 11 (by decide)).1
    have h14 : a.s 14 = I q := (hsl 14 (by decide)).1
    obtain ⟨q1, h8, hf1⟩ := hphi 5 (by decide)
    have h8 : a.s 8 = .sl q1 0 g.length := h8
    have h9 : a.s 9 = .sl none 0 0 := hphi 6 (by decide)
    refine s_mk [(4, I p), (8, .sl q1 0 g.length), (9, .sl none 0 0), (11, .sl r2 0 b.length), (14, I q)] [(2, 2, [I 0, .sl none 0 0, .sl none 0 0, I 0])] rfl (by decide) ⟨h4, h8, h9, h11, h14, trivial⟩ ⟨(hsl 2 (by decide)).2, congrFun hbx 2, trivial⟩ ?_
    refine s_op rfl (oappE loud_f rfl rfl rfl (hb.ex hex) (by omega) fun q2 st2 hf2 he2 => ?_)
    refine sra rfl ?_
    refine c_ret (fr rfl ⟨q1, q2, rfl, hf1.ex he2, hf2.le hex.n, fun i h h' => ?_⟩)
    have := hf1.bd i h
    have := hf2.bd i h'
    omega
theorem ld_leads {l : List Int} {v : Int} : Ld l v ↔ Vok v ∧ 4 ≤ v % 8 ∧ (Leads l v 5 ∨ Leads l v 3) := by
  have up : ∀ {k b : Int}, Rf l v k b → k ≠ 7 → ((k = 4 ∧ b = 1) ∨ (k = 5 ∧ b = 2) ∨ (k = 6 ∧ b = 4) ∨ (k = 7 ∧ 0 ≤ b)) → Leads l v 5 := fun {k b} h h7 hk => by
    have h1 := h.leads hk
    exact ⟨h1.1, h1.2.1, h1.2.2.1, h1.2.2.2.1, fun e => absurd (h.1.symm.trans e) h7⟩
  constructor
  · intro h
    rcases h with h | h | h | h | h
    · exact ⟨(up h (by omega) (by omega)).1, by have := h.1; omega, .inl (up h (by omega) (by omega))⟩
    · exact ⟨(up h (by omega) (by omega)).1, by have := h.1; omega, .inl (up h (by omega) (by omega))⟩
    · exact ⟨(up h (by omega) (by omega)).1, by have := h.1; omega, .inl (up h (by omega) (by omega))⟩
    · have h1 := h.leads (by omega)
      exact ⟨h1.1, by have := h.1; omega, .inr h1⟩
    · have h1 := h.leads (by omega)
      exact ⟨h1.1, by have := h.1; omega, .inl h1⟩
  · rintro ⟨hv, h4, h | h⟩
    · exact ld_vb h h4
    · obtain ⟨_, a4, a5, a6, a7⟩ := h
      rcases (show v % 8 = 4 ∨ v % 8 = 5 ∨ v % 8 = 6 ∨ v % 8 = 7 by omega) with e | e | e | e
      · exact .inl ⟨e, a4 e⟩
      · exact .inr (.inl ⟨e, a5 e⟩)
      · exact .inr (.inr (.inl ⟨e, a6 e⟩))
      · exact .inr (.inr (.inr (.inl ⟨e, a7 e⟩)))
theorem l8Block_c (r : Option Nat) (o : Nat) (l : List Int) (v : Int) (st : St) (hx : At st r o l) (hok : okB l = true) : ACalls Tryz.prog 72 [.agg [.sl r o l.length], I v] st No (Pure1 (.bool (bd (Ld l v))) st) := by
  refine ent (N := 22) Tryz.func72 rfl (by decide) rfl rfl rfl ?_
  refine crr (by kernel_rfl) rfl ?_   -- region 0
  refine c_sj (α := Bool) (fun b => [(4, .bool b)]) (fun _ => []) (fun b st' => st = st' ∧ (b = true ↔ Ld l v)) ?_ ?_
  · -- region 1
    refine c_region (by kernel_rfl) ?_
    refine sr 1 rfl ?_
    refine s_op rfl (o_pure loud_n rfl (ValueOk_c ..) ?_)
    refine sr 1 rfl ?_
    refine s_bool 7 rfl rfl (fun h7 => ?_) (fun h7 => ?_)
    · -- slot 7 true
      have h7 := bdt.1 h7
      refine sr 1 rfl ?_
      refine s_op rfl (o_pure loud_n rfl (Kind_c ..) ?_)
      refine sr 3 rfl ?_
      refine s_bool 12 rfl rfl (fun h12 => ?_) (fun h12 => ?_)
      · -- slot 12 true
        have h12 := of_decide_eq_true h12
        refine sr 2 rfl ?_
        refine s_op rfl (o_pure loud_n rfl (l3Leads_c _ _ _ _ _ _ hx hok (by omega)) ?_)
        refine sr 1 rfl ?_
        refine s_bool 16 rfl rfl (fun h16 => ?_) (fun h16 => ?_)
        · -- slot 16 true
          have h16 := bdt.1 h16
          exact sra rfl ⟨true, ⟨rfl, trivial⟩, trivial, rfl, fun _ => ld_leads.2 ⟨h7, h12, .inl h16⟩, fun _ => rfl⟩
        · -- slot 16 false
          have h16 := bdf.1 h16
          refine sr 2 rfl ?_
          refine s_op rfl (o_pure loud_n rfl (l3Leads_c _ _ _ _ _ _ hx hok (by omega)) ?_)
          refine sra rfl ⟨_, ⟨rfl, trivial⟩, trivial, rfl, ?_⟩
          show bd (Leads l v 3) = true ↔ _
          rw [bdt, ld_leads]
          exact ⟨fun h => ⟨h7, h12, .inr h⟩, fun h => h.2.2.resolve_left h16⟩
      · -- slot 12 false
        have h12 := of_decide_eq_false h12
        refine sr 4 rfl ?_
        exact sra rfl ⟨false, ⟨rfl, trivial⟩, trivial, rfl, fun h => (by cases h), fun h => absurd (ld_leads.1 h).2.1 h12⟩
    · -- slot 7 false
      have h7 := bdf.1 h7
      refine sr 5 rfl ?_
      refine s_bool 12 rfl rfl (fun h12 => by cases h12) (fun h12 => ?_)
      refine sr 4 rfl ?_
      exact sra rfl ⟨false, ⟨rfl, trivial⟩, trivial, rfl, fun h => (by cases h), fun h => absurd (ld_leads.1 h).1 h7⟩
  rintro b st1 ⟨rfl, hb⟩
  exact c_ret (fr rfl ⟨abd hb, rfl⟩)
/-- Grey, when a value has been shaded. -/
noncomputable def shG (l : List Int) (p : Int) (g b : List Int) (q v : Int) : List Int := cond (bd (MkOk l p g b q)) (cond (bd (Ld l v)) (shd p g b v) g) g
theorem shG_len (l : List Int) (p : Int) (g b : List Int) (q v : Int) : (shG l p g b q v).length ≤ g.length + 1 := by
  unfold shG
  have := shd_len p g b v
  cases bd (MkOk l p g b q) <;> cases bd (Ld l v) <;> simp <;> omega
theorem Ld.num {l : List Int} {v : Int} (h : Ld l v) : 4 ≤ v % 8 → 0 ≤ v / 8 := fun h4 => ((ld_leads.1 h).1.2.2.2.2 h4).1
theorem Shade_c (p q v : Int) (r rg rb : Option Nat) (o : Nat) (l g b : List Int) (st : St) (hx : At st r o l) (hl : l.length ≤ 1048576) (hg : At st rg 0 g) (hb : At st rb 0 b) (hlg : g.length ≤ 536870912) (hlb : b.length ≤ 536870912) :
    ACalls Tryz.prog 13 [.agg [.sl r o l.length], .agg [I p, .sl rg 0 g.length, .sl rb 0 b.length, I q], I v] st No (Mr st p (shG l p g b q v) b q) := by
  refine ent (N := 23) Tryz.func13 rfl (by decide) rfl rfl rfl ?_
  refine crr (by kernel_rfl) rfl ?_   -- region 0
  refine c_seq ?_
  refine c_sj (α := Bool) (fun t => [(2, I v), (16, .bool t)]) (fun _ => [(3, 3, [.sl r o l.length]), (4, 4, [I p, .sl rg 0 g.length, .sl rb 0 b.length, I q]), (6, 6, [I 0, .sl none 0 0, .sl none 0 0, I 0])])
    (fun t st' => Ex st st' ∧ (t = true ↔ ¬ (MkOk l p g b q ∧ Ld l v))) ?_ ?_
  · -- region 1
    refine c_region (by kernel_rfl) ?_
    refine sr 2 rfl ?_
    refine s_op rfl (o_ex loud_n rfl (MarkerOk_c p q r rg rb o l g b _ hx hl hg hb hlg hlb) ?_)
    rintro v1 st1 rfl e1
    refine sr 2 rfl ?_
    refine s_bool 11 rfl rfl (fun h11 => ?_) (fun h11 => ?_)
    · -- slot 11 true
      have h11 := nbt h11
      exact sra rfl ⟨true, ⟨rfl, rfl, trivial⟩, ⟨rfl, rfl, rfl, rfl, rfl, rfl, trivial⟩, e1, fun _ h => h11 h.1, fun _ => rfl⟩
    · -- slot 11 false
      have h11 := nbf h11
      refine sr 2 rfl ?_
      refine s_op rfl (o_pure loud_n rfl (l8Block_c _ _ _ _ _ (hx.ex e1) h11.1) ?_)
      refine sra rfl ⟨_, ⟨rfl, rfl, trivial⟩, ⟨rfl, rfl, rfl, rfl, rfl, rfl, trivial⟩, e1, ?_⟩
      show (!bd (Ld l v)) = true ↔ _
      exact ⟨fun h hh => nbt h hh.2, fun h => (by rw [bdf.2 (fun hc => h ⟨h11, hc⟩)]; rfl)⟩
  rintro t st1 ⟨e1, ht⟩
  refine c_if rfl (fun h16 => ?_) (fun h16 => ?_)
  · -- then
    have h16 := ht.1 h16
    have es : shG l p g b q v = g := by
      unfold shG
      cases hm : bd (MkOk l p g b q) with
      | false => rfl
      | true =>
        rw [bdf.2 (fun h => h16 ⟨bdt.1 hm, h⟩)]; rfl
    rw [es]
    refine c_rs (by kernel_rfl) ?_   -- region 2
    refine sr 1 rfl ?_
    refine s_op rfl (o_ex loud_n rfl (l8Copy_c p q rg rb g b _ (hg.ex e1) (hb.ex e1) (by omega) (by omega)) ?_)
    rintro v2 st2 ⟨q1, q2, rfl, hf1, hf2, hd⟩ e2
    refine sra rfl ?_
    exact c_ret (fr rfl ⟨q1, q2, rfl, hf1.le e1.n, hf2.le e1.n, hd⟩)
  · -- else
    have h16 : MkOk l p g b q ∧ Ld l v := Classical.byContradiction fun hc => by have := ht.2 hc; rw [h16] at this; cases this
    have es : shG l p g b q v = shd p g b v := by
      unfold shG
      rw [bdt.2 h16.1, bdt.2 h16.2]; rfl
    rw [es]
    refine c_skip ?_
    refine c_rs (by kernel_rfl) ?_   -- region 3
    refine sr 1 rfl ?_
    refine s_op rfl (o_ex loud_n rfl (l8Copy_c p q rg rb g b _ (hg.ex e1) (hb.ex e1) (by omega) (by omega)) ?_)
    rintro v2 st2 ⟨q1, q2, rfl, hf1, hf2, hd⟩ e2
    refine sr 1 rfl ?_
    have n1 := e1.n
    have n2 := e2.n
    refine s_op rfl (o_call rfl (l8Shade_c st1.n p q v q1 q2 g b _ n2 hf1 hf2.at_ h16.2.num (by omega) (by omega)) (fun k hk ht => absurd hk (by have := hf1.bd k ht; omega)) (.inl rfl) ?_)
    rintro v3 st3 ⟨q3, rfl, hf3, hq3⟩ e3
    refine sra rfl ?_
    refine c_ret (fr rfl ⟨q3, q2, rfl, hf3.le n1, (hf2.ext e3 (fun i h h' => hd i h' h)).le n1, fun i h h' => ?_⟩)
    rcases hq3 i h with h3 | h3
    · exact hd i h3 h'
    · have := hf2.bd i h'; omega
theorem iShade_c (p q v : Int) (r rg rb : Option Nat) (o : Nat) (l g b : List Int) (st : St) (hx : At st r o l) (hl : l.length ≤ 1048576) (hg : At st rg 0 g) (hb : At st rb 0 b) (hlg : g.length ≤ 536870912) (hlb : b.length ≤ 536870912) (hq : W1 q) :
    ACalls Tryz.prog 11 [.agg [.sl r o l.length], .agg [I p, .sl rg 0 g.length, .sl rb 0 b.length, I q], I v] st No (Mr st p (shG l p g b q v) b q) := by
  refine ent (N := 18) Tryz.func11 rfl (by decide) rfl rfl rfl ?_
  refine crr (by kernel_rfl) rfl ?_   -- region 0
  refine c_rs (by kernel_rfl) ?_   -- region 1
  refine sr 1 rfl ?_
  refine s_op rfl (o_ex loud_n rfl (copyMarker_c p q rg rb g b _ hg hb (by omega) (by omega)) ?_)
  rintro v1 st1 ⟨q1, q2, rfl, hf1, hf2, hd⟩ e1
  have n1 := e1.n
  refine s_op rfl (oallocP loud_n rfl fun bb st2 hbe n2 ob2 e2 => ?_)
  refine s_op rfl (ostP rfl rfl (by omega) (fun h => absurd h (by omega)) ob2 rfl rfl rfl (by simp) fun st3 n3 ob3 e3 => ?_)
  refine s_end ?_
  have hb1 := hf1.bd
  have hb2 := hf2.bd
  have he3 : Ext (fun i => st.n ≤ i) st st3 := (e1.tr e2).over.over e3 (fun i e => by omega)
  have hm3 : MkS st.n bb p q q1 q2 g b st3 := ⟨⟨by omega, by omega, ob3⟩, (hf1.ex e2).ext e3 (fun i h e => by have := hb1 i h; omega), (hf2.ex e2).ext e3 (fun i h e => by have := hb2 i h; omega), hd⟩
  refine c_sj (α := Option Nat) (fun _ => [(7, .ptr (some bb) 0)]) (fun _ => [(6, 6, [I 0, .sl none 0 0, .sl none 0 0, I 0])])
    (fun i st' => MkS st.n bb p q i q2 (shG l p g b q v) b st') ?_ ?_
  · -- ways that meet
    refine c_rs (by kernel_rfl) ?_   -- region 2
    refine sr 2 rfl ?_
    refine s_op rfl (o_ex loud_n rfl (iMarkerOk_c p q r rg rb o l g b _ (hx.over he3) hl (hg.over he3) (hb.over he3) hlg hlb hq) ?_)
    rintro v4 st4 rfl e4
    refine s_end ?_
    have he4 := he3.over e4 (fun i h => h.elim)
    have hm4 := hm3.ex e4
    refine c_if rfl (fun h12 => ?_) (fun h12 => ?_)
    · -- then
      have h12 := bdt.1 h12
      have es : shG l p g b q v = cond (bd (Ld l v)) (shd p g b v) g := by unfold shG; rw [bdt.2 h12]; rfl
      have hlen := okB_len h12.1
      rw [es]
      refine c_region (by kernel_rfl) ?_   -- region 3
      refine sr 1 rfl ?_
      refine s_op rfl (o_ex loud_n rfl (kinds_c _ _ _ _ (hx.over he4) hlen) ?_)
      rintro v5 st5 ⟨kr, rfl, hk5⟩ e5
      refine sr 1 rfl ?_
      have hm5 := hm4.ex e5
      have n45 := e4.n
      have n5 := e5.n
      have T5 : ∀ j, (j = bb ∨ q1 = some j) → st.n ≤ j := fun j hj => by
        rcases hj with rfl | hj
        · omega
        · exact (hm5.hg.bd j hj).1
      refine s_op rfl (o_call rfl (shade_c st.n bb p q v _ q1 q2 0 _ l g b _ hk5.at_ (by omega) (kindsL_len l) hm5 (by omega) (by omega) (by omega)) (fun j hj ht => absurd hj (by have := T5 j ht; omega)) (.inl rfl) ?_)
      rintro v6 st6 ⟨rfl, q6, hm6, hq6⟩ e6
      refine s_end ?_
      exact ⟨q6, ⟨rfl, trivial⟩, ⟨rfl, rfl, trivial⟩, hm6⟩
    · -- else
      have h12 := bdf.1 h12
      have es : shG l p g b q v = g := by unfold shG; rw [bdf.2 h12]; rfl
      rw [es]
      refine c_skip ?_
      exact ⟨q1, ⟨rfl, trivial⟩, ⟨rfl, rfl, trivial⟩, hm4⟩
  rintro i st4 hm
  obtain ⟨⟨a1, a2, a3⟩, hg', hbl, d⟩ := hm
  refine c_rs (by kernel_rfl) ?_   -- region 4
  refine s_op rfl (oldS rfl rfl rfl a2 a3 rfl ?_)
  refine sra rfl ?_
  exact c_ret (fr rfl ⟨i, q2, rfl, hg', hbl, d⟩)
end Go.Proofs.YtfhkjhnaihhdmaaGreatW.Ax
