/- Shading, and how marking starts: walked. -/
import Derived.Test.YtmphklmhhcmbnaaZj
import Derived.Test.YtmphklmhhcmbnaaYm
import Derived.Test.YtmphklmhhcmbnaaYk
import Derived.Test.YtmphklmhhcmbnaaXU
namespace Go.Proofs.YtmphklmhhcmbnaaW.Ax
open Go Go.RowKit Go.Proofs Go.Proofs.Ytmphklmhhcmbnaa.Pure
set_option linter.unusedVariables false
set_option maxRecDepth 100000

/-- A value is shaded. -/
def shd (p : Int) (g b : List Int) (v : Int) : List Int := if p = 1 ∧ 4 ≤ v % 8 ∧ v / 8 ∉ g ∧ v / 8 ∉ b then g ++ [v / 8] else g
theorem shd_len (p : Int) (g b : List Int) (v : Int) : (shd p g b v).length ≤ g.length + 1 := by
  unfold shd; split <;> simp
/-- A marker whose Grey has grown. -/
def ShP (n0 : Nat) (st : St) (p q : Int) (rg rb : Option Nat) (g b : List Int) : AV → St → Prop := fun v st' =>
  ∃ rg', v = .agg [I p, .sl rg' 0 g.length, .sl rb 0 b.length, I q] ∧ Fr n0 st' rg' g ∧ ∀ i, rg' = some i → rg = some i ∨ st.n ≤ i
theorem l8Shade_c (n0 : Nat) (p q v : Int) (rg rb : Option Nat) (g b : List Int) (st : St) (hn0 : n0 ≤ st.n) (hg : Fr n0 st rg g) (hb : At st rb 0 b) (hv : 4 ≤ v % 8 → 0 ≤ v / 8) (hlg : g.length ≤ 1073741824) (hlb : b.length ≤ 1073741824) :
    ACalls Try.prog 43 [.agg [I p, .sl rg 0 g.length, .sl rb 0 b.length, I q], I v] st (fun i => rg = some i) (ShP n0 st p q rg rb (shd p g b v) b) := by
  refine ent (N := 36) Try.func43 rfl (by decide) rfl rfl rfl ?_
  refine crr (by kernel_rfl) rfl ?_   -- region 0
  refine c_rs (by kernel_rfl) ?_   -- region 1
  refine sr 1 rfl ?_
  refine s_op rfl (o_pure loud_n rfl (l7Block_c ..) ?_)
  refine sra rfl ?_
  have hbk : 0 ≤ blk v ↔ 4 ≤ v % 8 := by unfold blk; split <;> omega
  have hbv : 4 ≤ v % 8 → blk v = v / 8 := fun h => by unfold blk; rw [if_neg (by omega)]
  refine c_sj (α := Option Nat) (fun i => []) (fun i => [(2, 2, [I p, .sl i 0 (shd p g b v).length, .sl rb 0 b.length, I q]), (4, 4, [I 0, .sl none 0 0, .sl none 0 0, I 0])])
    (fun i st' => Fr n0 st' i (shd p g b v) ∧ ∀ k, i = some k → rg = some k ∨ st.n ≤ k) ?_ ?_
  · -- ways that meet
    refine c_sj (α := Bool) (fun b => [(5, I (blk v)), (28, .bool b)]) (fun _ => [(2, 2, [I p, .sl rg 0 g.length, .sl rb 0 b.length, I q]), (4, 4, [I 0, .sl none 0 0, .sl none 0 0, I 0])])
      (fun x st' => st = st' ∧ (x = true ↔ p = 1 ∧ 4 ≤ v % 8 ∧ v / 8 ∉ g ∧ v / 8 ∉ b)) ?_ ?_
    · -- region 2
      refine c_region (by kernel_rfl) ?_
      refine sr 4 rfl ?_
      refine s_bool 11 rfl rfl (fun h11 => ?_) (fun h11 => ?_)
      · -- slot 11 true
        have h11 := of_decide_eq_true h11
        refine sr 4 rfl ?_
        refine s_bool 15 rfl rfl (fun h15 => ?_) (fun h15 => ?_)
        · -- slot 15 true
          have h15 := hbk.1 (of_decide_eq_true h15)
          have e5 := hbv h15
          refine sr 3 rfl ?_
          refine s_op rfl (o_pure loud_n rfl (l7In_c (hx := hg.at_) (hl := by omega) ..) ?_)
          refine sr 3 rfl ?_
          refine s_bool 22 rfl rfl (fun h22 => ?_) (fun h22 => ?_)
          · -- slot 22 true
            have h22 := nbt h22
            rw [e5] at h22 ⊢
            refine sr 3 rfl ?_
            refine s_op rfl (o_pure loud_n rfl (l7In_c (hx := hb) (hl := by omega) ..) ?_)
            refine sra rfl ⟨_, ⟨rfl, rfl, trivial⟩, ⟨rfl, rfl, rfl, rfl, trivial⟩, rfl, ?_⟩
            exact ⟨fun h => ⟨h11, h15, h22, nbt h⟩, fun h => (by rw [bdf.2 h.2.2.2]; rfl)⟩
          · -- slot 22 false
            have h22 := nbf h22
            rw [e5] at h22
            refine sra rfl ⟨_, ⟨rfl, rfl, trivial⟩, ⟨rfl, rfl, rfl, rfl, trivial⟩, rfl, fun h => (by cases h), fun h => absurd h22 h.2.2.1⟩
        · -- slot 15 false
          have h15 := of_decide_eq_false h15
          rw [hbk] at h15
          refine sr 7 rfl ?_
          refine s_bool 22 rfl rfl (fun h22 => by cases h22) (fun h22 => ?_)
          refine sra rfl ⟨_, ⟨rfl, rfl, trivial⟩, ⟨rfl, rfl, rfl, rfl, trivial⟩, rfl, fun h => (by cases h), fun h => absurd h.2.1 h15⟩
      · -- slot 11 false
        have h11 := of_decide_eq_false h11
        refine sr 4 rfl ?_
        refine s_bool 15 rfl rfl (fun h15 => by cases h15) (fun h15 => ?_)
        refine sr 7 rfl ?_
        refine s_bool 22 rfl rfl (fun h22 => by cases h22) (fun h22 => ?_)
        refine sra rfl ⟨_, ⟨rfl, rfl, trivial⟩, ⟨rfl, rfl, rfl, rfl, trivial⟩, rfl, fun h => (by cases h), fun h => absurd h.1 h11⟩
    rintro x st1 ⟨rfl, hx⟩
    refine c_if rfl (fun h28 => ?_) (fun h28 => ?_)
    · -- then
      have h28 := hx.1 h28
      have e5 := hbv h28.2.1
      have es : shd p g b v = g ++ [v / 8] := by rw [shd, if_pos h28]
      rw [es, e5]
      refine c_region (by kernel_rfl) ?_   -- region 3
      refine sr 3 rfl ?_
      refine s_op rfl (oone loud_n rfl rfl ?_)
      have hf := fr_push st [v / 8]
      have he := ex_push st (.row true ([v / 8].map I))
      have hn := he.n
      have hg' := hg.ex he
      generalize hst : st.push (.row true ([v / 8].map I)) = st2 at hf he hn hg' ⊢
      refine s_op rfl (oappT (fun i hi _ => hi) (by omega) rfl rfl rfl hg' rfl hf.at_ (by simp; omega) fun r2 st3 hr2 hn2 he2 => ?_)
      exact sra rfl ⟨r2, trivial, ⟨rfl, rfl, rfl, rfl, trivial⟩, hr2, fun k hk => .inr (by have := hn2 k hk; omega)⟩
    · -- else
      have h28 : ¬ _ := fun h => by have := hx.2 h; rw [h28] at this; cases this
      have es : shd p g b v = g := by rw [shd, if_neg h28]
      rw [es]
      refine c_skip ?_
      exact ⟨rg, trivial, ⟨rfl, rfl, rfl, rfl, trivial⟩, hg, fun k hk => .inl hk⟩
  rintro i st1 ⟨h1, h2⟩
  refine crr (by kernel_rfl) rfl ?_   -- region 4
  exact c_ret (fr rfl ⟨i, rfl, h1, h2⟩)
theorem shd_ad (g : List Int) (v : Int) : shd 1 g [] v = ad g v := by
  unfold shd ad
  by_cases h : 4 ≤ v % 8 ∧ v / 8 ∉ g
  · rw [if_pos ⟨rfl, h.1, h.2, by simp⟩, if_pos h]
  · rw [if_neg (fun hh => h ⟨hh.2.1, hh.2.2.1⟩), if_neg h]
/-- How marking starts. -/
noncomputable def stP (l rs : List Int) : Int := cond (bd (Rts l rs)) 1 0
noncomputable def stG (l rs : List Int) : List Int := cond (bd (Rts l rs)) (rs.foldl ad []) []
theorem stG_len (l rs : List Int) : (stG l rs).length ≤ 2000 := by
  unfold stG
  cases h : bd (Rts l rs) with
  | false => simp
  | true => exact ((ord_nil l).all (rts_vb (bdt.1 h))).len
theorem Leads.num {l : List Int} {v i : Int} (h : Leads l v i) : 4 ≤ v % 8 → 0 ≤ v / 8 := fun h4 => (h.1.2.2.2.2 h4).1
theorem Start_c (r rr : Option Nat) (o or : Nat) (l rs : List Int) (st : St) (hx : At st r o l) (hy : At st rr or rs) (hl : l.length ≤ 1048576) (hlr : rs.length ≤ 1048576) :
    ACalls Try.prog 12 [.agg [.sl r o l.length], .sl rr or rs.length] st No (Mr st (stP l rs) (stG l rs) [] 0) := by
  refine ent (N := 26) Try.func12 rfl (by decide) rfl rfl rfl ?_
  refine crr (by kernel_rfl) rfl ?_   -- region 0
  refine c_seq ?_
  refine c_rs (by kernel_rfl) ?_   -- region 1
  refine sr 2 rfl ?_
  refine s_op rfl (o_ex loud_n rfl (RootsOk_c _ _ _ _ _ _ _ hx hy hl hlr) ?_)
  rintro v1 st1 rfl e1
  refine sra rfl ?_
  have hx1 := hx.ex e1
  have hy1 := hy.ex e1
  refine c_if rfl (fun h10 => ?_) (fun h10 => ?_)
  · -- then
    have h10 := nbt h10
    have ep : stP l rs = 0 := by rw [stP, bdf.2 h10]; rfl
    have eg : stG l rs = [] := by rw [stG, bdf.2 h10]; rfl
    rw [ep, eg]
    refine crr (by kernel_rfl) rfl ?_   -- region 2
    exact c_ret (fr rfl ⟨none, none, rfl, fr_nil _ _, fr_nil _ _, fun i h => (by cases h)⟩)
  · -- else
    have h10 := nbf h10
    have ep : stP l rs = 1 := by rw [stP, bdt.2 h10]; rfl
    have eg : stG l rs = rs.foldl ad [] := by rw [stG, bdt.2 h10]; rfl
    rw [ep, eg]
    refine c_skip ?_
    refine crr (by kernel_rfl) rfl ?_   -- region 3
    refine c_seq ?_
    refine crr (by kernel_rfl) rfl ?_   -- region 4
    refine c_block ?_
    refine c_lp (α := Nat × Option Nat) (fun i => [(1, .sl rr or rs.length), (6, I i.1)]) (fun i => [(4, 4, [I 0, .sl none 0 0, .sl none 0 0, I 0]), (5, 5, [I 1, .sl i.2 0 ((rs.take i.1).foldl ad []).length, .sl none 0 0, I 0])])
      (fun i st' => i.1 ≤ rs.length ∧ Ex st st' ∧ Fr st.n st' i.2 ((rs.take i.1).foldl ad [])) (fun i => rs.length - i.1) (0, none) ⟨rfl, rfl, trivial⟩ ⟨rfl, rfl, rfl, rfl, trivial⟩ ⟨Nat.zero_le _, e1, fr_nil _ _⟩ ?_
    rintro ⟨i, q⟩ st2 ⟨hi, he, hf⟩
    dsimp only at *
    have hol : ((rs.take i).foldl ad []).length ≤ 2000 := ((ord_nil l).all fun v hv => rts_vb h10 v (List.mem_of_mem_take hv)).len
    have hn2 := he.n
    refine c_seq ?_
    refine crr (by kernel_rfl) rfl ?_   -- region 5
    refine c_if rfl (fun h16 => ?_) (fun h16 => ?_)
    · -- then
      have h16 := of_decide_eq_true h16
      have hrd : rd rs i ∈ rs := mem_rd (by omega)
      refine c_skip ?_
      refine c_seq ?_
      refine c_block ?_
      refine cdt1 [0, 1, 2, 3, 4, 5, 6] [.q, .q, .q, .q, .q, .n, .n] (by kernel_rfl) (by kernel_rfl) ?_   -- region 7
      refine sr 3 rfl ?_
      refine s_op rfl (oidx rfl rfl rfl (by omega) (by omega) ?_)   -- 22 := indexAddr 22 (tmp 20) (tmp 21)
      refine s_op rfl (old rfl rfl ((hy.ex he).rd (by omega) (by omega)) ?_)   -- 23 := load 3 (tmp 22)
      refine s_op rfl (o_call rfl (l8Shade_c st.n 1 0 (rd rs i) q none _ [] _ hn2 hf (At.nil _ _ _) ((h10.2 _ hrd).num) (by omega) (by simp)) (fun k hk ht => absurd hk (by have := hf.bd k ht; omega)) (.inl rfl) ?_)
      rintro v5 st5 ⟨q5, rfl, hf5, _⟩ e5
      have he5 := he.own hf e5
      rw [shd_ad, ← foldl_rd _ _ _ (by omega)] at hf5
      refine sra rfl ?_
      refine c_region (by kernel_rfl) ?_   -- region 6
      refine sr 1 rfl ?_
      refine s_op rfl (o_ar rfl rfl rfl (by omega) (by omega) ?_)   -- 18 := binOp BinOp.add 3 (tmp 17) (const (Value.int IntKind.i64 1)) 3
      refine sra rfl ?_
      refine ⟨(i + 1, q5), ⟨rfl, rfl, trivial⟩, ⟨rfl, rfl, rfl, ?_, trivial⟩, ⟨by dsimp only; omega, he5, hf5⟩, by dsimp only; omega⟩
      show some _ = some _
      rw [shd_ad, ← foldl_rd _ _ _ (by omega)]
      rfl
    · -- else
      have h16 := of_decide_eq_false h16
      have hie : rs.take i = rs := List.take_of_length_le (by omega)
      rw [hie] at hf ⊢
      refine c_exit ?_
      refine crr (by kernel_rfl) rfl ?_   -- region 8
      exact c_ret (fr rfl ⟨q, none, rfl, hf, fr_nil _ _, fun i _ h => (by cases h)⟩)
/-- A value leads to a block of its kind. -/
def Ld (l : List Int) (v : Int) : Prop := Rf l v 4 1 ∨ Rf l v 5 2 ∨ Rf l v 6 4 ∨ Rf l v 7 3 ∨ Rf l v 7 5
theorem leads_c (r : Option Nat) (o n : Nat) (l : List Int) (v : Int) (st : St) (hx : At st r o (kindsL l)) (hl : l.length ≤ 2000) (hn : n = l.length) : ACalls Try.prog 86 [.sl r o n, I v] st No (Pure1 (.bool (bd (Ld l v))) st) := by
  refine ent (N := 32) Try.func86 rfl (by decide) rfl rfl rfl ?_
  refine crr (by kernel_rfl) rfl ?_   -- region 0
  refine c_seq ?_
  refine c_rs (by kernel_rfl) ?_   -- region 1
  refine sr 1 rfl ?_
  refine s_op rfl (o_pure loud_n rfl (iKind_c ..) ?_)
  refine s_end ?_
  refine c_block ?_
  refine crr (by kernel_rfl) rfl ?_   -- region 2
  refine c_if rfl (fun h7 => ?_) (fun h7 => ?_)
  · -- then
    have h7 := of_decide_eq_true h7
    refine c_rs (by kernel_rfl) ?_   -- region 3
    refine sr 2 rfl ?_
    refine s_op rfl (o_pure loud_n rfl (leadsTo_c r o n l v 4 1 _ hx hl (by omega) hn) ?_)
    refine sra rfl ?_
    refine c_ret (fr rfl ⟨?_, rfl⟩)
    rw [bd_eq (P := Rf l v 4 1) (Q := Ld l v) ⟨fun h => .inl h, fun h => by
      rcases h with h | h | h | h | h
      · exact h
      all_goals (have := h.1; omega)⟩]
  · -- else
    have h7 := of_decide_eq_false h7
    refine crr (by kernel_rfl) rfl ?_   -- region 4
    refine c_if rfl (fun h12 => ?_) (fun h12 => ?_)
    · -- then
      have h12 := of_decide_eq_true h12
      refine c_rs (by kernel_rfl) ?_   -- region 5
      refine sr 2 rfl ?_
      refine s_op rfl (o_pure loud_n rfl (leadsTo_c r o n l v 5 2 _ hx hl (by omega) hn) ?_)
      refine sra rfl ?_
      refine c_ret (fr rfl ⟨?_, rfl⟩)
      rw [bd_eq (P := Rf l v 5 2) (Q := Ld l v) ⟨fun h => .inr (.inl h), fun h => by
        rcases h with h | h | h | h | h
        · have := h.1; omega
        · exact h
        all_goals (have := h.1; omega)⟩]
    · -- else
      have h12 := of_decide_eq_false h12
      refine crr (by kernel_rfl) rfl ?_   -- region 6
      refine c_if rfl (fun h17 => ?_) (fun h17 => ?_)
      · -- then
        have h17 := of_decide_eq_true h17
        refine c_rs (by kernel_rfl) ?_   -- region 7
        refine sr 2 rfl ?_
        refine s_op rfl (o_pure loud_n rfl (leadsTo_c r o n l v 6 4 _ hx hl (by omega) hn) ?_)
        refine sra rfl ?_
        refine c_ret (fr rfl ⟨?_, rfl⟩)
        rw [bd_eq (P := Rf l v 6 4) (Q := Ld l v) ⟨fun h => .inr (.inr (.inl h)), fun h => by
          rcases h with h | h | h | h | h
          · have := h.1; omega
          · have := h.1; omega
          · exact h
          all_goals (have := h.1; omega)⟩]
      · -- else
        have h17 := of_decide_eq_false h17
        refine crr (by kernel_rfl) rfl ?_   -- region 8
        refine c_if rfl (fun h22 => ?_) (fun h22 => ?_)
        · -- then
          have h22 := of_decide_eq_true h22
          refine c_sj (α := Bool) (fun b => [(4, .bool b)]) (fun _ => []) (fun b st' => st = st' ∧ (b = true ↔ Rf l v 7 3 ∨ Rf l v 7 5)) ?_ ?_
          · -- region 9
            refine c_region (by kernel_rfl) ?_
            refine sr 2 rfl ?_
            refine s_op rfl (o_pure loud_n rfl (leadsTo_c r o n l v 7 3 _ hx hl (by omega) hn) ?_)
            refine sr 1 rfl ?_
            refine s_bool 27 rfl rfl (fun h27 => ?_) (fun h27 => ?_)
            · -- slot 27 true
              have h27 := bdt.1 h27
              refine sra rfl ⟨_, ⟨rfl, trivial⟩, trivial, rfl, fun _ => .inl h27, fun _ => rfl⟩
            · -- slot 27 false
              have h27 := bdf.1 h27
              refine sr 2 rfl ?_
              refine s_op rfl (o_pure loud_n rfl (leadsTo_c r o n l v 7 5 _ hx hl (by omega) hn) ?_)
              refine sra rfl ⟨_, ⟨rfl, trivial⟩, trivial, rfl, fun h => .inr (bdt.1 h), fun h => bdt.2 (h.resolve_left h27)⟩
          rintro b st1 ⟨rfl, hb⟩
          refine c_ret (fr rfl ⟨?_, rfl⟩)
          refine abd (hb.trans ⟨fun h => .inr (.inr (.inr h)), fun h => ?_⟩)
          rcases h with h | h | h | h
          · have := h.1; omega
          · have := h.1; omega
          · have := h.1; omega
          · exact h
        · -- else
          have h22 := of_decide_eq_false h22
          refine c_skip ?_
          refine crr (by kernel_rfl) rfl ?_   -- region 10
          refine c_ret (fr rfl ⟨abd ⟨fun h => (by cases h), fun h => ?_⟩, rfl⟩)
          exfalso
          rcases h with h | h | h | h | h <;> (have := h.1; omega)
/-- A marker behind a place: a variable, and two rows. -/
structure MkS (n0 b : Nat) (p q : Int) (rg rb : Option Nat) (g bl : List Int) (st : St) : Prop where
  hb : n0 ≤ b ∧ b < st.n ∧ st.ob b = .row true [I p, .sl rg 0 g.length, .sl rb 0 bl.length, I q]
  hg : Fr n0 st rg g
  hbl : Fr n0 st rb bl
  d : ∀ i, rg = some i → rb ≠ some i
theorem MkS.ex {n0 b : Nat} {p q : Int} {rg rb : Option Nat} {g bl : List Int} {st st' : St} (h : MkS n0 b p q rg rb g bl st) (he : Ex st st') : MkS n0 b p q rg rb g bl st' := by
  obtain ⟨⟨a1, a2, a3⟩, hg, hbl, d⟩ := h
  have := he.n
  exact ⟨⟨a1, by omega, by rw [he.ob b a2 id]; exact a3⟩, hg.ex he, hbl.ex he, d⟩
theorem MkS.apart {n0 b : Nat} {p q : Int} {rg rb : Option Nat} {g bl : List Int} {st : St} (h : MkS n0 b p q rg rb g bl st) : (∀ i, rg = some i → i ≠ b) ∧ ∀ i, rb = some i → i ≠ b := by
  obtain ⟨⟨a1, a2, a3⟩, hg, hbl, d⟩ := h
  refine ⟨fun i hi e => ?_, fun i hi e => ?_⟩
  all_goals
    subst hi; subst e
  · have := hg.ob.2.2; rw [a3] at this
    injection this with _ this
    match g, this with
    | [], this => cases this
    | [_], this => cases this
    | x :: y :: g, this => injection this with _ this; injection this with this _; cases this
  · have := hbl.ob.2.2; rw [a3] at this
    injection this with _ this
    match bl, this with
    | [], this => cases this
    | [_], this => cases this
    | x :: y :: g, this => injection this with _ this; injection this with this _; cases this
/-- A value has been shaded there. -/
def MkP (n0 b : Nat) (p q : Int) (rg rb : Option Nat) (n : Nat) (g bl : List Int) : AV → St → Prop := fun v st' => v = .tup [] ∧ ∃ rg', MkS n0 b p q rg' rb g bl st' ∧ ∀ i, rg' = some i → rg = some i ∨ n ≤ i
theorem shade_c (n0 b : Nat) (p q v : Int) (r rg rb : Option Nat) (o n : Nat) (l g bl : List Int) (st : St) (hx : At st r o (kindsL l)) (hl : l.length ≤ 2000) (hn : n = l.length) (h : MkS n0 b p q rg rb g bl st) (hn0 : n0 ≤ st.n)
    (hlg : g.length ≤ 1073741824) (hlb : bl.length ≤ 1073741824) :
    ACalls Try.prog 46 [.sl r o n, .ptr (some b) 0, I v] st (fun i => i = b ∨ rg = some i) (MkP n0 b p q rg rb st.n (cond (bd (Ld l v)) (shd p g bl v) g) bl) := by
  obtain ⟨ap1, ap2⟩ := h.apart
  obtain ⟨⟨a1, a2, a3⟩, hg, hbl, d⟩ := h
  have c0 : cell st (some b) 0 = some (I p) := by rw [cell_row a2 a3]; rfl
  have c1 : cell st (some b) 1 = some (.sl rg 0 g.length) := by rw [cell_row a2 a3]; rfl
  have c2 : cell st (some b) 2 = some (.sl rb 0 bl.length) := by rw [cell_row a2 a3]; rfl
  have hld : Ld l v → 4 ≤ v % 8 := fun h => by rcases h with h | h | h | h | h <;> (have := h.1; omega)
  refine ent (N := 47) Try.func46 rfl (by decide) rfl rfl rfl ?_
  refine c_sj (α := Bool) (fun x => [(1, .ptr (some b) 0), (2, I v), (35, .bool x)]) (fun _ => []) (fun x st' => st = st' ∧ (x = true ↔ Ld l v ∧ p = 1 ∧ v / 8 ∉ g ∧ v / 8 ∉ bl)) ?_ ?_
  · -- region 0
    refine cd1 [0, 1, 2, 3, 4, 5, 6, 7, 8, 9, 10, 11, 12, 13, 14, 15, 16, 17, 18, 19, 20, 21, 22, 23, 24, 25, 26, 27, 28, 29] [.q, .q, .q, .q, .q, .q, .q, .q, .f, .q, .q, .q, .q, .q, .q, .q, .f, .f, .q, .q, .q, .q, .q, .q, .q, .q, .f, .f, .q, .q] (by kernel_rfl) (by kernel_rfl) ?_
    refine sr 3 rfl ?_
    refine s_op rfl (old rfl rfl c0 ?_)
    refine sr 2 rfl ?_
    refine s_bool 11 rfl rfl (fun h11 => ?_) (fun h11 => ?_)
    · -- slot 11 true
      have h11 := of_decide_eq_true h11
      refine sr 2 rfl ?_
      refine s_op rfl (o_pure loud_f rfl (leads_c r o n l v _ hx hl hn) ?_)
      refine sr 2 rfl ?_
      refine s_bool 16 rfl rfl (fun h16 => ?_) (fun h16 => ?_)
      · -- slot 16 true
        have h16 := bdt.1 h16
        refine sr 3 rfl ?_
        refine s_op rfl (old rfl rfl c1 ?_)
        refine sr 1 rfl ?_
        refine s_op rfl (o_pure loud_f rfl (iNum_c ..) ?_)
        refine s_op rfl (o_pure loud_f rfl (Contains_c (hx := hg.at_) (hl := by omega) ..) ?_)
        refine sr 3 rfl ?_
        refine s_bool 26 rfl rfl (fun h26 => ?_) (fun h26 => ?_)
        · -- slot 26 true
          have h26 := nbt h26
          refine sr 3 rfl ?_
          refine s_op rfl (old rfl rfl c2 ?_)
          refine sr 1 rfl ?_
          refine s_op rfl (o_pure loud_f rfl (iNum_c ..) ?_)
          refine s_op rfl (o_pure loud_f rfl (Contains_c (hx := hbl.at_) (hl := by omega) ..) ?_)
          refine sra rfl ⟨_, ⟨rfl, rfl, rfl, trivial⟩, trivial, rfl, ?_⟩
          exact ⟨fun h => ⟨h16, h11, h26, nbt h⟩, fun h => (by rw [bdf.2 h.2.2.2]; rfl)⟩
        · -- slot 26 false
          have h26 := nbf h26
          refine sra rfl ⟨_, ⟨rfl, rfl, rfl, trivial⟩, trivial, rfl, fun h => (by cases h), fun h => absurd h26 h.2.2.1⟩
      · -- slot 16 false
        have h16 := bdf.1 h16
        refine sr 10 rfl ?_
        refine s_bool 26 rfl rfl (fun h26 => by cases h26) (fun h26 => ?_)
        refine sra rfl ⟨_, ⟨rfl, rfl, rfl, trivial⟩, trivial, rfl, fun h => (by cases h), fun h => absurd h.1 h16⟩
    · -- slot 11 false
      have h11 := of_decide_eq_false h11
      refine sr 5 rfl ?_
      refine s_bool 16 rfl rfl (fun h16 => by cases h16) (fun h16 => ?_)
      refine sr 10 rfl ?_
      refine s_bool 26 rfl rfl (fun h26 => by cases h26) (fun h26 => ?_)
      refine sra rfl ⟨_, ⟨rfl, rfl, rfl, trivial⟩, trivial, rfl, fun h => (by cases h), fun h => absurd h.2.1 h11⟩
  rintro x st1 ⟨rfl, hx1⟩
  refine c_if rfl (fun h35 => ?_) (fun h35 => ?_)
  · -- then
    have h35 := hx1.1 h35
    have es : cond (bd (Ld l v)) (shd p g bl v) g = g ++ [v / 8] := by rw [bdt.2 h35.1]; show shd p g bl v = _; rw [shd, if_pos ⟨h35.2.1, hld h35.1, h35.2.2⟩]
    rw [es]
    refine cdv1 [0] [1, 2, 3, 4, 5, 6, 7, 8, 9, 10, 11] [.q, .q, .q, .q, .q, .f, .f, .n, .q, .q, .n] (by kernel_rfl) (by kernel_rfl) ?_   -- region 1
    refine sr 4 rfl ?_
    refine s_op rfl (old rfl rfl c1 ?_)
    refine sr 1 rfl ?_
    refine s_op rfl (o_pure loud_f rfl (iNum_c ..) ?_)
    refine s_op rfl (oints [v / 8] loud_f rfl (by decide) rfl rfl rfl fun pq st3 hp e3 => ?_)
    have hg3 := hg.ex e3
    have e3n := e3.n
    refine s_op rfl (oappT (fun i hi _ => .inr hi) (by omega) rfl rfl rfl hg3 rfl hp.at_ (by simp; omega) fun q2 st4 hq4 hn4 e4 => ?_)
    have e4n := e4.n
    have hb4 : st4.ob b = .row true [I p, .sl rg 0 g.length, .sl rb 0 bl.length, I q] := by rw [e4.ob b (by omega) (fun e => ap1 _ e rfl), e3.ob b a2 id]; exact a3
    have hbl4 : Fr n0 st4 rb bl := (hbl.ex e3).ext e4 (fun i hi hi' => d i hi' hi)
    refine sr 2 rfl ?_
    refine s_op rfl (ost rfl rfl (by omega) (fun _ => .inl rfl) hb4 rfl rfl rfl (by simp) ?_)
    refine s_end ?_
    refine frn rfl ⟨rfl, q2, ⟨⟨a1, by show b < st4.n; omega, set_ob _ _ _⟩, hq4.ext (ext_set st4 b _) (fun i hi e => by have := hn4 i hi; omega), hbl4.ext (ext_set st4 b _) (fun i hi e => ap2 i hi e), fun i hi hi' => ?_⟩, fun i hi => .inr (by have := hn4 i hi; omega)⟩
    have := hn4 i hi
    have := hbl.bd i hi'
    omega
  · -- else
    have h35 : ¬ _ := fun h => by have := hx1.2 h; rw [h35] at this; cases this
    have es : cond (bd (Ld l v)) (shd p g bl v) g = g := by
      cases hb : bd (Ld l v) with
      | false => rfl
      | true => show shd p g bl v = _; rw [shd, if_neg (fun h => h35 ⟨bdt.1 hb, h.1, h.2.2⟩)]
    rw [es]
    refine c_skip ?_
    exact frn rfl ⟨rfl, rg, ⟨⟨a1, a2, a3⟩, hg, hbl, d⟩, fun i hi => .inl hi⟩
theorem ld_vb {l : List Int} {v : Int} (h : Leads l v 5) (h4 : 4 ≤ v % 8) : Ld l v := by
  obtain ⟨hv, a4, a5, a6, a7⟩ := h
  rcases (show v % 8 = 4 ∨ v % 8 = 5 ∨ v % 8 = 6 ∨ v % 8 = 7 by omega) with e | e | e | e
  · exact .inl ⟨e, a4 e⟩
  · exact .inr (.inl ⟨e, a5 e⟩)
  · exact .inr (.inr (.inl ⟨e, a6 e⟩))
  · exact .inr (.inr (.inr (.inr ⟨e, a7 e⟩)))
theorem shd_ld {l : List Int} {p : Int} {g b : List Int} {v : Int} (h : 4 ≤ v % 8 → Ld l v) : cond (bd (Ld l v)) (shd p g b v) g = shd p g b v := by
  cases hb : bd (Ld l v) with
  | true => rfl
  | false =>
    show g = _
    rw [shd, if_neg (fun hh => (bdf.1 hb) (h hh.2.1))]
theorem iStart_c (r rr : Option Nat) (o or : Nat) (l rs : List Int) (st : St) (hx : At st r o l) (hy : At st rr or rs) (hl : l.length ≤ 1048576) (hlr : rs.length ≤ 1048576) :
    ACalls Try.prog 15 [.agg [.sl r o l.length], .sl rr or rs.length] st No (Mr st (stP l rs) (stG l rs) [] 0) := by
  refine ent (N := 28) Try.func15 rfl (by decide) rfl rfl rfl ?_
  refine crr (by kernel_rfl) rfl ?_   -- region 0
  refine c_seq ?_
  refine c_rs (by kernel_rfl) ?_   -- region 1
  refine sr 2 rfl ?_
  refine s_op rfl (o_ex loud_n rfl (iRootsOk_c _ _ _ _ _ _ _ hx hy hl hlr) ?_)
  rintro v1 st1 rfl e1
  refine sra rfl ?_
  have hx1 := hx.ex e1
  have n1 := e1.n
  refine c_if rfl (fun h12 => ?_) (fun h12 => ?_)
  · -- then
    have h12 := nbt h12
    have ep : stP l rs = 0 := by rw [stP, bdf.2 h12]; rfl
    have eg : stG l rs = [] := by rw [stG, bdf.2 h12]; rfl
    rw [ep, eg]
    refine crr (by kernel_rfl) rfl ?_   -- region 2
    exact c_ret (fr rfl ⟨none, none, rfl, fr_nil _ _, fr_nil _ _, fun i h => (by cases h)⟩)
  · -- else
    have h12 := nbf h12
    have ep : stP l rs = 1 := by rw [stP, bdt.2 h12]; rfl
    have eg : stG l rs = rs.foldl ad [] := by rw [stG, bdt.2 h12]; rfl
    have hlen := okB_len h12.1.1
    rw [ep, eg]
    refine c_skip ?_
    refine c_rs (by kernel_rfl) ?_   -- region 3
    refine sr 1 rfl ?_
    refine s_op rfl (oallocP loud_n rfl fun b st2 hbe n2 ob2 e2 => ?_)
    refine s_op rfl (ostP rfl rfl (by omega) (fun h => absurd h (by omega)) ob2 rfl rfl rfl (by decide) fun st3 n3 ob3 e3 => ?_)
    refine s_end ?_
    have he3 : Ext (fun i => st.n ≤ i) st st3 := (e1.tr e2).over.over e3 (fun i e => by omega)
    have hm3 : MkS st.n b 1 0 none none [] [] st3 := ⟨⟨by omega, by omega, ob3⟩, fr_nil _ _, fr_nil _ _, fun i h => (by cases h)⟩
    refine c_rs (by kernel_rfl) ?_   -- region 4
    refine sr 1 rfl ?_
    refine s_op rfl (o_ex loud_n rfl (kinds_c _ _ _ _ (hx.over he3) (by omega)) ?_)
    rintro v4 st4 ⟨kr, rfl, hk4⟩ e4
    refine sra rfl ?_
    have hkb := hk4.bd kr rfl
    refine c_seq ?_
    refine crr (by kernel_rfl) rfl ?_   -- region 5
    refine c_block ?_
    refine c_lp (α := Nat × Option Nat) (fun i => [(5, .ptr (some b) 0), (6, .sl (some kr) 0 (kindsL l).length), (17, .sl rr or rs.length), (18, I rs.length), (19, I i.1)]) (fun _ => [(4, 4, [I 0, .sl none 0 0, .sl none 0 0, I 0])])
      (fun i st' => i.1 ≤ rs.length ∧ Ext (fun i => st.n ≤ i) st st' ∧ st4.n ≤ st'.n ∧ MkS st.n b 1 0 i.2 none ((rs.take i.1).foldl ad []) [] st' ∧ Fr st3.n st' (some kr) (kindsL l) ∧ ∀ k, i.2 = some k → kr < k) (fun i => rs.length - i.1) (0, none) ⟨rfl, rfl, rfl, rfl, rfl, trivial⟩ ⟨rfl, rfl, trivial⟩
      ⟨Nat.zero_le _, he3.over e4 (fun i h => h.elim), Nat.le_refl _, hm3.ex e4, hk4, fun k h => (by cases h)⟩ ?_
    rintro ⟨i, q⟩ st5 ⟨hi, he, hn5, hm, hk, hq⟩
    dsimp only at *
    have hol : ((rs.take i).foldl ad []).length ≤ 2000 := ((ord_nil l).all fun v hv => rts_vb h12 v (List.mem_of_mem_take hv)).len
    refine crr (by kernel_rfl) rfl ?_   -- region 6
    refine c_seq ?_
    refine c_if rfl (fun h20 => ?_) (fun h20 => ?_)
    · -- then
      have h20 := of_decide_eq_true h20
      have hrd : rd rs i ∈ rs := mem_rd (by omega)
      refine c_skip ?_
      refine c_seq ?_
      refine c_block ?_
      refine c_rs (by kernel_rfl) ?_   -- region 7
      refine s_op rfl (oidx rfl rfl rfl (by omega) (by omega) ?_)   -- 21 := indexAddr 22 (tmp 17) (tmp 19)
      refine s_op rfl (old rfl rfl ((hy.over he).rd (by omega) (by omega)) ?_)   -- 22 := load 3 (tmp 21)
      refine sra rfl ?_
      refine c_region (by kernel_rfl) ?_   -- region 8
      refine sr 2 rfl ?_
      have T5 : ∀ j, (j = b ∨ q = some j) → st.n ≤ j := fun j hj => by
        rcases hj with rfl | hj
        · omega
        · exact (hm.hg.bd j hj).1
      refine s_op rfl (o_call rfl (shade_c st.n b 1 0 (rd rs i) _ q none 0 _ l _ [] _ hk.at_ (by omega) (kindsL_len l) hm he.n (by omega) (by simp)) (fun j hj ht => absurd hj (by have := T5 j ht; omega)) (.inl rfl) ?_)
      rintro v6 st6 ⟨rfl, q6, hm6, hq6⟩ e6
      have he6 := he.over e6 T5
      have hk6 : Fr st3.n st6 (some kr) (kindsL l) := hk.ext e6 (fun j hj ht => by
        injection hj with hj
        rcases ht with ht | ht
        · omega
        · have := hq j ht; omega)
      rw [shd_ld (fun h4 => ld_vb (h12.2 _ hrd) h4), shd_ad, ← foldl_rd _ _ _ (by omega)] at hm6
      have n6 := e6.n
      refine s_end ?_
      refine c_region (by kernel_rfl) ?_   -- region 9
      refine s_op rfl (o_ar rfl rfl rfl (by omega) (by omega) ?_)   -- 26 := binOp BinOp.add 3 (tmp 19) (const (Value.int IntKind.i64 1)) 3
      refine sra rfl ?_
      refine ⟨(i + 1, q6), ⟨rfl, rfl, rfl, rfl, rfl, trivial⟩, ⟨rfl, rfl, trivial⟩, ⟨by dsimp only; omega, he6, by omega, hm6, hk6, fun k hk' => ?_⟩, by dsimp only; omega⟩
      rcases hq6 k hk' with h | h
      · exact hq k h
      · omega
    · -- else
      have h20 := of_decide_eq_false h20
      have hie : rs.take i = rs := List.take_of_length_le (by omega)
      rw [hie] at hm
      obtain ⟨⟨a1, a2, a3⟩, hg, hbl, d⟩ := hm
      refine c_exit ?_
      refine c_rs (by kernel_rfl) ?_   -- region 10
      refine s_op rfl (oldS rfl rfl rfl a2 a3 rfl ?_)
      refine sra rfl ?_
      exact c_ret (fr rfl ⟨q, none, rfl, hg, fr_nil _ _, fun i _ h => (by cases h)⟩)
end Go.Proofs.YtmphklmhhcmbnaaW.Ax
