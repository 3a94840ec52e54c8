/- Slabs that are drawn, and what is taken and made in general: walked. -/
import Derived.Test.YtfhkjhnaihhdmaaGa
import Derived.Test.YtfhkjhnaihhdmaaXV
import Derived.Test.YtfhkjhnaihhdmaaYu
import Derived.Test.YtfhkjhnaihhdmaaZw
import Derived.Test.YtfhkjhnaihhdmaaYd
namespace Go.Proofs.YtfhkjhnaihhdmaaW.Ax
open Go Go.RowKit Go.Proofs Go.Proofs.Ytfhkjhnaihhdmaa.Pure
set_option linter.unusedVariables false
set_option maxRecDepth 100000

/-! ### SlabNew and Take, at any arguments -/
def snwL (n : Int) : List Int := if 2 ≤ n ∧ n ≤ 2000 then (List.replicate n.toNat 0).set 0 (8 * n) else []
theorem snwL_t {n : Int} (h : 2 ≤ n ∧ n ≤ 2000) : snwL n = (List.replicate n.toNat 0).set 0 (8 * n) := by unfold snwL; rw [if_pos h]
theorem snwL_f {n : Int} (h : ¬ (2 ≤ n ∧ n ≤ 2000)) : snwL n = [] := by unfold snwL; rw [if_neg h]
theorem snwL_len (n : Int) : (snwL n).length ≤ 2000 ∧ (2 ≤ n → n ≤ 2000 → (snwL n).length = n.toNat) := by
  unfold snwL
  split
  · rename_i h
    simp; omega
  · rename_i h
    exact ⟨Nat.zero_le _, fun h1 h2 => absurd ⟨h1, h2⟩ h⟩
theorem SlabNew_c (n : Int) (st : St) : ACalls Try.prog 48 [I n] st No (Ns st (snwL n) (decide (2 ≤ n ∧ n ≤ 2000))) := by
  refine ent (N := 18) Try.func48 rfl (by decide) rfl rfl rfl ?_
  refine crr (by kernel_rfl) rfl ?_   -- region 0
  refine c_seq ?_
  refine c_rs (by kernel_rfl) ?_   -- region 1
  refine sr 1 rfl ?_
  refine s_op rfl (o_pure loud_n rfl (l1In_c ..) ?_)
  refine sra rfl ?_
  refine c_if rfl (fun h7 => ?_) (fun h7 => ?_)
  · -- then
    have h7 := ndt h7
    refine crr (by kernel_rfl) rfl ?_   -- region 2
    refine c_ret (fr rfl ⟨none, ?_, .inl ⟨rfl, snwL_f h7⟩⟩)
    rw [snwL_f h7, decide_eq_false h7]; rfl
  · -- else
    have h7 := ndf h7
    refine c_skip ?_
    refine c_rs (by kernel_rfl) ?_   -- region 3
    refine sr 1 rfl ?_
    refine s_op rfl (omkI loud_n rfl rfl rfl (by omega) (by omega) ?_)   -- 10 := makeSlice 31 (tmp 9) (tmp 9)
    refine sra rfl ?_
    refine c_rs (by kernel_rfl) ?_   -- region 4
    refine sr 3 rfl ?_
    refine s_op rfl (o_ar rfl rfl rfl (by omega) (by omega) ?_)   -- 15 := binOp BinOp.mul 3 (const (Value.int IntKind.i64 8)) (tmp 14) 3
    refine s_op rfl (oidx rfl rfl rfl (by omega) (by omega) ?_)   -- 16 := indexAddr 31 (tmp 13) (const (Value.int IntKind.i64 0))
    refine s_op rfl (ostF rfl rfl (fr_push st (List.replicate n.toNat 0)) rfl rfl (by simp; omega) fun st2 hf2 he2 => ?_)
    refine s_end ?_
    refine crr (by kernel_rfl) rfl ?_   -- region 5
    refine c_ret (fr rfl ⟨some st.n, ?_, ?_⟩)
    · rw [snwL_t h7, decide_eq_true h7]
      simp
    · rw [snwL_t h7]; simpa using hf2
def tgL (l : List Int) (k n : Int) : List Int := if okB l = true then (if (1 ≤ k ∧ k ≤ 5) ∧ 2 ≤ n then tkL l k n.toNat else l) else []
def tgA (l : List Int) (k n : Int) : Int := if okB l = true ∧ (1 ≤ k ∧ k ≤ 5) ∧ 2 ≤ n then tkA l n.toNat else 0
def tgO (l : List Int) (k n : Int) : Bool := if okB l = true ∧ (1 ≤ k ∧ k ≤ 5) ∧ 2 ≤ n then tkO l n.toNat else false
theorem tg_no {l : List Int} (k n : Int) (h : ¬ okB l = true) : tgL l k n = [] ∧ tgA l k n = 0 ∧ tgO l k n = false := by
  unfold tgL tgA tgO
  rw [if_neg h, if_neg (fun hh => h hh.1), if_neg (fun hh => h hh.1)]; exact ⟨rfl, rfl, rfl⟩
theorem tg_bad {l : List Int} {k n : Int} (h : okB l = true) (hb : ¬ ((1 ≤ k ∧ k ≤ 5) ∧ 2 ≤ n)) : tgL l k n = l ∧ tgA l k n = 0 ∧ tgO l k n = false := by
  unfold tgL tgA tgO
  rw [if_pos h, if_neg hb, if_neg (fun hh => hb hh.2), if_neg (fun hh => hb hh.2)]; exact ⟨rfl, rfl, rfl⟩
theorem tg_ok {l : List Int} {k n : Int} (h : okB l = true) (hb : (1 ≤ k ∧ k ≤ 5) ∧ 2 ≤ n) : tgL l k n = tkL l k n.toNat ∧ tgA l k n = tkA l n.toNat ∧ tgO l k n = tkO l n.toNat := by
  unfold tgL tgA tgO
  rw [if_pos h, if_pos hb, if_pos ⟨h, hb⟩, if_pos ⟨h, hb⟩]; exact ⟨rfl, rfl, rfl⟩
theorem tgL_len (l : List Int) (k n : Int) : (tgL l k n).length ≤ l.length := by
  unfold tgL
  split
  · split
    · rw [tkL_len]; exact Nat.le_refl _
    · exact Nat.le_refl _
  · exact Nat.zero_le _
theorem Take_c (r : Option Nat) (o : Nat) (l : List Int) (k n : Int) (st : St) (hx : At st r o l) (hl : l.length ≤ 1048576) (hn : W1 n) : ACalls Try.prog 33 [.agg [.sl r o l.length], I k, I n] st No (Nw st (tgL l k n) (tgA l k n) (tgO l k n)) := by
  unfold W1 at hn
  refine ent (N := 37) Try.func33 rfl (by decide) rfl rfl rfl ?_
  refine crr (by kernel_rfl) rfl ?_   -- region 0
  refine c_seq ?_
  refine c_rs (by kernel_rfl) ?_   -- region 1
  refine sr 1 rfl ?_
  refine s_op rfl (o_pure loud_n rfl (SlabOk_c _ _ _ _ hx hl) ?_)
  refine sra rfl ?_
  refine c_if rfl (fun h14 => ?_) (fun h14 => ?_)
  · -- then
    have h14 : ¬ okB l = true := by simpa using h14
    obtain ⟨e1, e2, e3⟩ := tg_no k n h14
    refine crr (by kernel_rfl) rfl ?_   -- region 2
    refine c_ret (fr rfl ⟨none, ?_, .inl ⟨rfl, e1⟩⟩)
    rw [e1, e2, e3]; rfl
  · -- else
    have h14 : okB l = true := by simpa using h14
    have hlen := okB_len h14
    refine c_skip ?_
    refine c_seq ?_
    refine c_sj (α := Bool) (fun b => [(1, I k), (2, I n), (22, .bool b)]) (fun _ => [(3, 3, [.sl r o l.length]), (6, 6, [.sl none 0 0])]) (fun b st' => st = st' ∧ (b = true ↔ ¬ ((1 ≤ k ∧ k ≤ 5) ∧ 2 ≤ n))) ?_ ?_
    · -- region 3
      refine c_region (by kernel_rfl) ?_
      refine sr 1 rfl ?_
      refine s_op rfl (o_pure loud_n rfl (l1In_c ..) ?_)
      refine sr 2 rfl ?_
      refine s_bool 19 rfl rfl (fun h19 => ?_) (fun h19 => ?_)
      · -- slot 19 true
        have h19 := ndt h19
        exact sra rfl ⟨true, ⟨rfl, rfl, rfl, trivial⟩, ⟨rfl, rfl, rfl, rfl, trivial⟩, rfl, fun _ h => h19 h.1, fun _ => rfl⟩
      · -- slot 19 false
        have h19 := ndf h19
        refine sra rfl ⟨_, ⟨rfl, rfl, rfl, trivial⟩, ⟨rfl, rfl, rfl, rfl, trivial⟩, rfl, ?_⟩
        show decide (n < 2) = true ↔ _
        exact ⟨fun h hh => by have := of_decide_eq_true h; omega, fun h => decide_eq_true (by omega)⟩
    rintro b st1 ⟨rfl, hb1⟩
    refine c_if rfl (fun h22 => ?_) (fun h22 => ?_)
    · -- then
      have h22 := hb1.1 h22
      obtain ⟨e1, e2, e3⟩ := tg_bad h14 h22
      refine c_rs (by kernel_rfl) ?_   -- region 4
      refine sr 1 rfl ?_
      refine s_op rfl (o_ex loud_n rfl (l2Copy_c _ _ _ _ hx hl) ?_)
      rintro v1 st1 ⟨q, rfl, hf⟩ _
      refine sra rfl ?_
      refine c_ret (fr rfl ⟨q, ?_, ?_⟩)
      · rw [e1, e2, e3]
      · rw [e1]; exact hf
    · -- else
      have h22 : (1 ≤ k ∧ k ≤ 5) ∧ 2 ≤ n := Classical.byContradiction fun h => by rw [hb1.2 h] at h22; cases h22
      obtain ⟨e1, e2, e3⟩ := tg_ok h14 h22
      obtain ⟨m, rfl⟩ : ∃ m : Nat, n = m := ⟨n.toNat, by omega⟩
      rw [Int.toNat_natCast] at e1 e2 e3
      refine c_skip ?_
      refine c_rs (by kernel_rfl) ?_   -- region 5
      refine sr 1 rfl ?_
      refine s_op rfl (o_ex loud_n rfl (l2Copy_c _ _ _ _ hx hl) ?_)
      rintro v1 st1 ⟨q, rfl, hf⟩ _
      refine sr 2 rfl ?_
      refine s_op rfl (o_call rfl (l2Take_c st.n q l k m _ hf h14 (by omega) (by omega) (by omega)) (fun i hi h => absurd hi (by have := hf.bd i h; omega)) (.inl rfl) ?_)
      rintro v2 st2 ⟨rfl, hf2, _⟩ _
      refine sra rfl ?_
      refine crr (by kernel_rfl) rfl ?_   -- region 6
      refine c_ret (fr rfl ⟨q, ?_, ?_⟩)
      · rw [e1, e2, e3]
      · rw [e1]; exact hf2
/-! ### words of slabs that stay right -/
theorem give_okB {l : List Int} (h : okB l = true) (a : Int) : okB (give l a) = true ∧ (give l a).length = l.length := by
  by_cases hc : a ∈ blocks l ∧ kindOf l a.toNat ≠ 0
  · obtain ⟨n, rfl, _, _⟩ := blocks_mem hc.1
    have := give_at h hc.1 (by simpa using hc.2)
    exact ⟨this.1, this.2.1⟩
  · have e : give l a = l := by unfold give; rw [if_neg hc]
    rw [e]; exact ⟨h, rfl⟩
theorem set_okB {l : List Int} (hok : okB l = true) {a j : Nat} (v : Int) (ha : (a : Int) ∈ blocks l) (h1 : a < j) (h2 : j < a + size l a) : okB (l.set j v) = true := by
  have hs := size_pos (show headOk l a by have := block_at ha; simpa using this.2.2.1)
  refine (heads_same (by simp) hok fun x hx => ?_).1
  obtain ⟨n, rfl, _⟩ := blocks_mem hx
  rw [Int.toNat_natCast, getD_set_I _ _ _ _ (by omega), if_neg]
  intro e
  subst e
  have := blocks_apart hok ha hx h1
  omega
theorem tg_okB {l : List Int} (h : okB l = true) (k n : Int) : okB (tgL l k n) = true ∧ (tgL l k n).length = l.length ∧ (tgO l k n = true → ∃ b : Nat, tgA l k n = b ∧ (b : Int) ∈ blocks (tgL l k n) ∧ 2 ≤ size (tgL l k n) b) := by
  by_cases hb : (1 ≤ k ∧ k ≤ 5) ∧ 2 ≤ n
  · obtain ⟨e1, e2, e3⟩ := tg_ok h hb
    rw [e1, e2, e3]
    cases hs : slot l n.toNat (blocks l) with
    | none =>
      obtain ⟨t1, t2, t3⟩ := tk_none (k := k) hs
      rw [t1, t3]
      exact ⟨h, rfl, fun hh => by cases hh⟩
    | some x =>
      obtain ⟨b, rfl⟩ : ∃ b : Nat, x = b := ⟨x.toNat, by have := (slot_at hs).2.1; omega⟩
      obtain ⟨r1, r2, r3, r4, r5, r6, r7, r8, r9⟩ := tk_room h (show 2 ≤ n.toNat by omega) hb.1 hs
      exact ⟨r1, tkL_len _ _ _, fun _ => ⟨b, (tk_some (k := k) hs).2.1, r2, by rw [r4]; omega⟩⟩
  · obtain ⟨e1, e2, e3⟩ := tg_bad h hb
    rw [e1, e3]
    exact ⟨h, rfl, fun hh => by cases hh⟩
theorem snw_okB {n : Int} (h : 2 ≤ n ∧ n ≤ 2000) : okB (snwL n) = true := by
  have hl := (snwL_len n).2 h.1 h.2
  have e0 : (snwL n).getD 0 0 = 8 * n := by
    rw [snwL_t h, getD_set_I _ _ _ _ (by simp; omega), if_pos rfl]
  have hs : size (snwL n) 0 = n.toNat := by
    have e1 : size (snwL n) 0 = ((snwL n).getD 0 0 / 8).toNat := rfl
    rw [e1, e0]; omega
  have hsg : sg (snwL n) 0 [0] (snwL n).length := ⟨rfl, by omega, by unfold headOk; rw [e0, hl]; omega, by rw [hs]; show 0 + n.toNat = _; omega⟩
  exact (sg_okB hsg (by omega)).1
theorem blocks_ne {l : List Int} (h : okB l = true) (hl : 1 ≤ l.length) : 0 < (blocks l).length := by
  obtain ⟨h1, r, h2, h3⟩ := walk_cons (blocks_of h).2 (show 0 < l.length by omega)
  rw [h2]; simp
/-! ### slabs that are drawn -/
/-- A slab of a new row that is right, and the cursor gone on. -/
def DrR (n0 n1 k : Nat) (r : Option Nat) (code : List Int) : AV → St → Prop := fun v st' => ∃ q l, v = .agg [.sl q 0 l.length] ∧ Fr n1 st' q l ∧ okB l = true ∧ 1 ≤ l.length ∧ CuE n0 k r code st'
theorem l2DrawRight_c (n0 k : Nat) (r : Option Nat) (code : List Int) (st : St) (hc : CuE n0 k r code st) : ACalls Try.prog 128 [.ptr (some k) 0] st (fun j => j = k) (DrR n0 st.n k r code) := by
  have hk := hc.bd
  refine ent (N := 64) Try.func128 rfl (by decide) rfl rfl rfl ?_
  refine crr (by kernel_rfl) rfl ?_   -- region 0
  refine c_rs (by kernel_rfl) ?_   -- region 1
  refine sr 1 rfl ?_
  refine s_op rfl (oints [2, 3, 10, 40, 90] loud_n rfl (by decide) rfl rfl rfl fun q st1 hq e1 => ?_)
  refine s_op rfl (o_call rfl (l1PickInt_c n0 k r (some q) code 0 _ _ (hc.ex e1) hq.at_ (fun j hj => by have := hq.bd j hj; omega) (by decide) (by decide)) (fun _ _ h => h) (.inl rfl) ?_)
  rintro v2 st2 ⟨x, rfl, hx, hc2⟩ e2
  have hx : 2 ≤ x ∧ x ≤ 2000 := by
    simp only [List.mem_cons, List.not_mem_nil, or_false] at hx
    omega
  refine s_op rfl (o_ex loud_n rfl (SlabNew_c x _) ?_)
  rintro v3 st3 ⟨q3, rfl, hf3⟩ e3
  have hn1 := e1.n
  have hn2 := e2.n
  have hn3 := e3.n
  have hf3 : Fr st.n st3 q3 (snwL x) := hf3.le (by omega)
  have hc3 := hc2.ex e3
  refine sra rfl ?_
  refine c_rs (by kernel_rfl) ?_   -- region 2
  refine sr 1 rfl ?_
  refine s_op rfl (o_call rfl (l1Below_c n0 k r code 14 _ hc3 (by decide)) (fun _ _ h => h) (.inl rfl) ?_)
  rintro v4 st4 ⟨m, rfl, ⟨hm, _⟩, hc4⟩ e4
  have hm := hm (by omega)
  have hf4 := hf3.cu hk.2 e4
  refine sra rfl ?_
  refine c_seq ?_
  refine crr (by kernel_rfl) rfl ?_   -- region 3
  refine c_block ?_
  refine c_lp (α := Nat × Option Nat × List Int) (fun i => [(0, .ptr (some k) 0), (5, I m), (6, I i.1)]) (fun i => [(2, 2, [.sl none 0 0]), (3, 3, [.sl i.2.1 0 i.2.2.length])]) (fun i st' => CuE n0 k r code st' ∧ Fr st.n st' i.2.1 i.2.2 ∧ okB i.2.2 = true ∧ 1 ≤ i.2.2.length ∧ i.1 ≤ 14 ∧ st.n ≤ st'.n) (fun i => 14 - i.1) (0, q3, snwL x) ⟨rfl, rfl, rfl, trivial⟩ ⟨rfl, rfl, rfl, rfl, trivial⟩ ⟨hc4, hf4, snw_okB hx, by have := (snwL_len x).2 hx.1 hx.2; dsimp only; omega, by dsimp only; omega, by have := e4.n; omega⟩ ?_
  rintro ⟨i, q, l⟩ st5 ⟨hc, hf, hok, hl1, hi, hn5⟩
  dsimp only at *
  have hlen := okB_len hok
  refine c_seq ?_
  refine crr (by kernel_rfl) rfl ?_   -- region 4
  refine c_if rfl (fun h22 => ?_) (fun h22 => ?_)
  · -- then
    have h22 := of_decide_eq_true h22
    refine c_skip ?_
    refine c_sj (α := Option Nat × List Int) (fun j => [(0, .ptr (some k) 0), (5, I m), (6, I i)]) (fun j => [(2, 2, [.sl none 0 0]), (3, 3, [.sl j.1 0 j.2.length])]) (fun j st' => CuE n0 k r code st' ∧ Fr st.n st' j.1 j.2 ∧ okB j.2 = true ∧ 1 ≤ j.2.length ∧ st.n ≤ st'.n) ?_ ?_
    · -- ways that meet
      refine c_block ?_
      refine c_seq ?_
      refine c_rs (by kernel_rfl) ?_   -- region 6
      refine sr 1 rfl ?_
      refine s_op rfl (o_call rfl (l1Once_c n0 k r code 3 _ hc (by decide)) (fun _ _ h => h) (.inl rfl) ?_)
      rintro v1 st6 ⟨b, rfl, hc6⟩ e6
      have hf6 := hf.cu hk.2 e6
      have hn6 := e6.n
      refine s_end ?_
      refine c_if rfl (fun h26 => ?_) (fun h26 => ?_)
      · -- then
        refine c_rs (by kernel_rfl) ?_   -- region 7
        refine sr 1 rfl ?_
        refine s_op rfl (o_ex loud_n rfl (Blocks_c _ _ _ _ hf6.at_ (by omega)) ?_)
        rintro v7 st7 ⟨qb, rfl, hfb⟩ e7
        have hn7 := e7.n
        have hf7 := hf6.ex e7
        have hc7 := hc6.ex e7
        have hbn := blocks_ne hok hl1
        have hbl := blocks_lel l
        refine sra rfl ?_
        refine cdx [3] [] [0, 1, 2, 3, 4, 5] [false, false, false, false, false, true] [6, 7, 8, 9] [.q, .q, .n, .n] (by kernel_rfl) (by kernel_rfl) ?_   -- region 8
        refine yr 5 rfl ?_
        refine y_b rfl rfl (b_call rfl (l1Below_c n0 k r code (blocks l).length _ hc7 (by omega)) (fun _ _ h => h) ?_)
        rintro v8 st8 ⟨y, rfl, ⟨hy, _⟩, hc8⟩ e8
        have hy := hy (by omega)
        have hf8 := hf7.cu hk.2 e8
        have hfb8 := (hfb.le (show st.n ≤ st6.n by omega)).cu hk.2 e8
        refine y_end ?_
        refine s_op rfl (oidx rfl rfl rfl (by omega) (by omega) ?_)   -- 35 := indexAddr 31 (tmp 30) (tmp 34)
        refine s_op rfl (old rfl rfl (hfb8.at_.rd (by omega) (by omega)) ?_)   -- 36 := load 3 (tmp 35)
        refine s_op rfl (o_ex loud_n rfl (Give_c _ _ l _ _ hf8.at_ (by omega)) ?_)
        rintro v9 st9 ⟨q9, rfl, hf9⟩ e9
        refine sra rfl ?_
        have hg := give_okB hok (rd (blocks l) y)
        refine c_exit ?_
        exact ⟨(q9, give l (rd (blocks l) y)), ⟨rfl, rfl, rfl, trivial⟩, ⟨rfl, rfl, rfl, rfl, trivial⟩, hc8.ex e9, hf9.le (by have := e8.n; omega), hg.1, by rw [hg.2]; exact hl1, by have := e8.n; have := e9.n; omega⟩
      · -- else
        refine c_skip ?_
        refine cdx [3] [12] [0, 1, 4, 2, 3, 5, 6, 7, 8, 9, 10, 11] [false, false, false, true, false, true, false, true, false, false, false, false] [13, 14, 15] [.n, .n, .n] (by kernel_rfl) (by kernel_rfl) ?_   -- region 9
        refine yr 3 rfl ?_
        refine y_b rfl rfl (b_call rfl (l1Below_c n0 k r code 5 _ hc6 (by decide)) (fun _ _ h => h) ?_)
        rintro v7 st7 ⟨y, rfl, ⟨hy, _⟩, hc7⟩ e7
        have hy := hy (by omega)
        refine y_op rfl rfl rfl (x_ar rfl rfl rfl (by omega) (by omega)) ?_
        refine y_b rfl rfl (b_call rfl (l1Below_c n0 k r code 6 _ hc7 (by decide)) (fun _ _ h => h) ?_)
        rintro v8 st8 ⟨z, rfl, ⟨hz, _⟩, hc8⟩ e8
        have hz := hz (by omega)
        refine y_op rfl rfl rfl (x_ar rfl rfl rfl (by omega) (by omega)) ?_
        have hf8 := (hf6.cu hk.2 e7).cu hk.2 e8
        refine y_b rfl rfl (b_call rfl (Take_c _ _ l (1 + y) (2 + z) _ hf8.at_ (by omega) (by unfold W1; omega)) no_T ?_)
        rintro v9 st9 ⟨q9, rfl, hf9⟩ e9
        have hn7 := e7.n
        have hn8 := e8.n
        have hn9 := e9.n
        have hf9 : Fr st.n st9 q9 _ := hf9.le (by omega)
        have hc9 := hc8.ex e9
        obtain ⟨t1, t2, t3⟩ := tg_okB hok (1 + y) (2 + z)
        refine yr 4 rfl ?_
        refine y_end ?_
        refine sra rfl ?_
        refine crr (by kernel_rfl) rfl ?_   -- region 10
        refine c_sj (α := Bool) (fun b => [(0, .ptr (some k) 0), (5, I m), (6, I i), (9, I (tgA l (1 + y) (2 + z))), (55, .bool b)]) (fun _ => [(2, 2, [.sl none 0 0]), (3, 3, [.sl q9 0 (tgL l (1 + y) (2 + z)).length])]) (fun b st' => CuE n0 k r code st' ∧ Fr st.n st' q9 (tgL l (1 + y) (2 + z)) ∧ st.n ≤ st'.n ∧ (b = true → tgO l (1 + y) (2 + z) = true)) ?_ ?_
        · -- region 11
          refine c_region (by kernel_rfl) ?_
          refine sr 2 rfl ?_
          refine s_bool 52 rfl rfl (fun h52 => ?_) (fun h52 => ?_)
          · -- slot 52 true
            refine sr 1 rfl ?_
            refine s_op rfl (o_call rfl (l1Once_c n0 k r code 2 _ hc9 (by decide)) (fun _ _ h => h) (.inl rfl) ?_)
            rintro v3 st10 ⟨b3, rfl, hc10⟩ e10
            exact sra rfl ⟨_, ⟨rfl, rfl, rfl, rfl, rfl, trivial⟩, ⟨rfl, rfl, rfl, rfl, trivial⟩, hc10, hf9.cu hk.2 e10, by have := e10.n; omega, fun _ => h52⟩
          · -- slot 52 false
            exact sra rfl ⟨false, ⟨rfl, rfl, rfl, rfl, rfl, trivial⟩, ⟨rfl, rfl, rfl, rfl, trivial⟩, hc9, hf9, by omega, fun h => by cases h⟩
        rintro b st10 ⟨hc10, hf10, hn10, hb1⟩
        refine c_if rfl (fun h55 => ?_) (fun h55 => ?_)
        · -- then
          obtain ⟨a, ha1, ha2, ha3⟩ := t3 (hb1 h55)
          have hs := size_pos (show headOk (tgL l (1 + y) (2 + z)) a by have := block_at ha2; simpa using this.2.2.1)
          rw [ha1]
          obtain ⟨qq, rfl⟩ := hf10.some_of (fun e => by rw [e] at hs; simp at hs; omega)
          refine cdx1 [3] [] [0, 1, 2, 3, 4, 5] [false, false, false, false, false, true] [6, 7] [.q, .n] (by kernel_rfl) (by kernel_rfl) ?_   -- region 12
          refine yr 3 rfl ?_
          refine y_op rfl rfl rfl (x_ar rfl rfl rfl (by omega) (by omega)) ?_
          refine yr 1 rfl ?_
          refine y_b rfl rfl (b_call rfl (l1Below_c n0 k r code 50 _ hc10 (by decide)) (fun _ _ h => h) ?_)
          rintro v11 st11 ⟨w, rfl, _, hc11⟩ e11
          have hf11 := hf10.cu hk.2 e11
          refine y_end ?_
          refine s_op rfl (oidx rfl rfl rfl (by omega) (by omega) ?_)   -- 62 := indexAddr 31 (tmp 57) (tmp 59)
          refine s_op rfl (ostF rfl rfl hf11 rfl rfl (by omega) fun st12 hf12 he12 => ?_)
          refine s_end ?_
          have hb12 := hf11.bd qq rfl
          have el : ((tgL l (1 + y) (2 + z)).set (0 + ((a : Int) + 1).toNat) w).length = (tgL l (1 + y) (2 + z)).length := List.length_set
          refine ⟨(some qq, (tgL l (1 + y) (2 + z)).set (0 + ((a : Int) + 1).toNat) w), ⟨rfl, rfl, rfl, trivial⟩, ⟨rfl, rfl, rfl, ?_, trivial⟩, hc11.ext he12 (fun e => ?_) (fun j hj => ?_), hf12, set_okB t1 w ha2 (by omega) (by omega), ?_, ?_⟩
          · show some [AV.sl (some qq) 0 (tgL l (1 + y) (2 + z)).length] = some [AV.sl (some qq) 0 ((tgL l (1 + y) (2 + z)).set (0 + ((a : Int) + 1).toNat) w).length]
            rw [el]
          · injection e with e; omega
          · injection hj with hj; omega
          · rw [el]; omega
          · have := he12.n; have := e11.n; omega
        · -- else
          refine c_skip ?_
          exact ⟨(q9, tgL l (1 + y) (2 + z)), ⟨rfl, rfl, rfl, trivial⟩, ⟨rfl, rfl, rfl, rfl, trivial⟩, hc10, hf10, t1, by rw [t2]; exact hl1, hn10⟩
    rintro ⟨q', l'⟩ st6 ⟨hc6, hf6, hok6, hl6, hn6⟩
    dsimp only at *
    refine c_region (by kernel_rfl) ?_   -- region 5
    refine sr 1 rfl ?_
    refine s_op rfl (o_ar rfl rfl rfl (by omega) (by omega) ?_)   -- 24 := binOp BinOp.add 3 (tmp 23) (const (Value.int IntKind.i64 1)) 3
    refine sra rfl ?_
    exact ⟨(i + 1, q', l'), ⟨rfl, rfl, rfl, trivial⟩, ⟨rfl, rfl, rfl, rfl, trivial⟩, ⟨hc6, hf6, hok6, hl6, by dsimp only; omega, hn6⟩, by dsimp only; omega⟩
  · -- else
    refine c_exit ?_
    refine crr (by kernel_rfl) rfl ?_   -- region 13
    exact c_ret (fr rfl ⟨q, l, rfl, hf, hok, hl1, hc⟩)
/-- A slab that is drawn: of a new row, or of none. -/
def SlA (n0 n1 k : Nat) (r : Option Nat) (code : List Int) : AV → St → Prop := fun v st' => ∃ q o l, v = .agg [.sl q o l.length] ∧ At st' q o l ∧ l.length ≤ 2001 ∧ (∀ j, q = some j → n1 ≤ j ∧ j < st'.n) ∧ CuE n0 k r code st'
theorem l2Draw_c (n0 k : Nat) (r : Option Nat) (code : List Int) (st : St) (hc : CuE n0 k r code st) : ACalls Try.prog 85 [.ptr (some k) 0] st (fun j => j = k) (SlA n0 st.n k r code) := by
  have hk := hc.bd
  refine ent (N := 33) Try.func85 rfl (by decide) rfl rfl rfl ?_
  refine crr (by kernel_rfl) rfl ?_   -- region 0
  refine c_rs (by kernel_rfl) ?_   -- region 1
  refine sr 1 rfl ?_
  refine s_op rfl (o_call rfl (l2DrawRight_c n0 k r code _ hc) (fun _ _ h => h) (.inl rfl) ?_)
  rintro v1 st1 ⟨q, l, rfl, hf, hok, hl1, hc1⟩ e1
  have hlen := okB_len hok
  obtain ⟨q, rfl⟩ := hf.some_of (fun e => by rw [e] at hl1; simp at hl1)
  have hb := hf.bd q rfl
  refine sra rfl ?_
  refine c_sj (α := Option Nat × Nat × List Int) (fun i => []) (fun i => [(2, 2, [.sl none 0 0]), (3, 3, [.sl i.1 i.2.1 i.2.2.length])]) (fun i st' => At st' i.1 i.2.1 i.2.2 ∧ i.2.2.length ≤ 2001 ∧ (∀ j, i.1 = some j → st.n ≤ j ∧ j < st'.n) ∧ CuE n0 k r code st') ?_ ?_
  · -- ways that meet
    refine c_rs (by kernel_rfl) ?_   -- region 2
    refine sr 1 rfl ?_
    refine s_op rfl (o_call rfl (l1Below_c n0 k r code 15 _ hc1 (by decide)) (fun _ _ h => h) (.inl rfl) ?_)
    rintro v2 st2 ⟨x, rfl, _, hc2⟩ e2
    have hf2 := hf.cu hk.2 e2
    have hn2 := e2.n
    refine s_end ?_
    refine c_block ?_
    refine crr (by kernel_rfl) rfl ?_   -- region 3
    refine c_if rfl (fun h8 => ?_) (fun h8 => ?_)
    · -- then
      refine cdx1 [3] [] [0, 1, 2, 3, 4] [false, false, false, true, true] [5, 6] [.q, .n] (by kernel_rfl) (by kernel_rfl) ?_   -- region 4
      refine yr 3 rfl ?_
      refine y_b rfl rfl (bints [0, 8, 16, 24, -8, 22, 9223372036854775807] rfl (by decide) rfl rfl rfl fun q3 st3 hq3 e3 => ?_)
      refine y_b rfl rfl (b_call rfl (l1PickInt_c n0 k r (some q3) code 0 _ _ (hc2.ex e3) hq3.at_ (fun j hj => by have := hq3.bd j hj; omega) (by decide) (by decide)) (fun _ _ h => h) ?_)
      rintro v4 st4 ⟨y, rfl, hy, hc4⟩ e4
      have hf4 := (hf2.ex e3).cu hk.2 e4
      refine y_end ?_
      refine s_op rfl (oidx rfl rfl rfl (by omega) (by omega) ?_)   -- 15 := indexAddr 31 (tmp 11) (const (Value.int IntKind.i64 0))
      refine s_op rfl (ostF rfl rfl hf4 rfl rfl (by omega) fun st5 hf5 he5 => ?_)
      refine s_end ?_
      have el : (l.set (0 + (0 : Int).toNat) y).length = l.length := List.length_set
      refine ⟨(some q, 0, l.set (0 + (0 : Int).toNat) y), trivial, ⟨rfl, rfl, rfl, ?_, trivial⟩, hf5.at_, by rw [el]; omega, fun j hj => hf5.bd j hj, hc4.ext he5 (fun e => ?_) (fun j hj => ?_)⟩
      · show some [AV.sl (some q) 0 l.length] = some [AV.sl (some q) 0 (l.set (0 + (0 : Int).toNat) y).length]
        rw [el]
      · injection e with e; omega
      · injection hj with hj; omega
    · -- else
      refine crr (by kernel_rfl) rfl ?_   -- region 5
      refine c_if rfl (fun h16 => ?_) (fun h16 => ?_)
      · -- then
        refine c_region (by kernel_rfl) ?_   -- region 6
        refine sr 2 rfl ?_
        refine s_op rfl (oone loud_n rfl rfl ?_)
        refine s_op rfl (oappT (n0 := st.n) (fun i hi h => by injection hi with hi; omega) (by have := (ex_push st2 (.row true ([16].map I))).n; omega) rfl rfl rfl (hf2.ex (ex_push _ _)) rfl (at_row (Nat.lt_succ_self _) (push_ob _ _)) (by simp; omega) fun q3 st3 hf3 _ he3 => ?_)
        refine sra rfl ?_
        have hcp : CuE n0 k r code (st2.push (.row true ([16].map I))) := hc2.ex (ex_push _ _)
        refine ⟨(q3, 0, l ++ [16]), trivial, ⟨rfl, rfl, rfl, ?_, trivial⟩, hf3.at_, by simp; omega, fun j hj => hf3.bd j hj, hcp.ext he3 (fun e => ?_) (fun j hj => ?_)⟩
        · rfl
        · injection e with e; omega
        · injection hj with hj; omega
      · -- else
        refine crr (by kernel_rfl) rfl ?_   -- region 7
        refine c_if rfl (fun h23 => ?_) (fun h23 => ?_)
        · -- then
          refine c_region (by kernel_rfl) ?_   -- region 8
          refine sr 2 rfl ?_
          refine s_op rfl (oslice rfl rfl rfl rfl (by omega) (by omega) (by omega) ?_)   -- 27 := slice 31 (tmp 26) (some (const (Value.int IntKind.i64 1))) none none
          refine sra rfl ?_
          have hcut := hf2.at_.cut 1 l.length hl1 (Nat.le_refl _)
          have el : ((l.drop 1).take (l.length - 1)).length = l.length - 1 := by simp
          refine ⟨(some q, 0 + 1, (l.drop 1).take (l.length - 1)), trivial, ⟨rfl, rfl, rfl, ?_, trivial⟩, hcut, by rw [el]; omega, fun j hj => hf2.bd j hj, hc2⟩
          rw [el]; rfl
        · -- else
          refine crr (by kernel_rfl) rfl ?_   -- region 9
          refine c_if rfl (fun h29 => ?_) (fun h29 => ?_)
          · -- then
            refine c_region (by kernel_rfl) ?_   -- region 10
            refine sra rfl ?_
            exact ⟨(none, 0, []), trivial, ⟨rfl, rfl, rfl, rfl, trivial⟩, At.nil _ _ _, Nat.zero_le _, fun j hj => (by cases hj), hc2⟩
          · -- else
            refine c_skip ?_
            exact ⟨(some q, 0, l), trivial, ⟨rfl, rfl, rfl, rfl, trivial⟩, hf2.at_, by dsimp only; omega, fun j hj => hf2.bd j hj, hc2⟩
  rintro ⟨q', o', l'⟩ st2 ⟨ha, hl, hbd, hc2⟩
  dsimp only at *
  refine crr (by kernel_rfl) rfl ?_   -- region 11
  exact c_ret (fr rfl ⟨q', o', l', rfl, ha, hl, hbd, hc2⟩)
theorem l2DrawAt_c (n0 k : Nat) (r ra : Option Nat) (code : List Int) (o : Nat) (l : List Int) (st : St) (hc : CuE n0 k r code st) (hx : At st ra o l) (hne : ∀ j, ra = some j → j ≠ k) (hl : l.length ≤ 1048576) : ACalls Try.prog 105 [.ptr (some k) 0, .agg [.sl ra o l.length]] st (fun j => j = k) (CuI n0 k r code fun x => -1 ≤ x ∧ x ≤ 9999) := by
  have hk := hc.bd
  have hbl := blocks_lel l
  refine ent (N := 25) Try.func105 rfl (by decide) rfl rfl rfl ?_
  refine crr (by kernel_rfl) rfl ?_   -- region 0
  refine c_rs (by kernel_rfl) ?_   -- region 1
  refine sr 1 rfl ?_
  refine s_op rfl (o_ex loud_n rfl (Blocks_c _ _ _ _ hx hl) ?_)
  rintro v1 st1 ⟨qb, rfl, hfb⟩ e1
  have hc1 := hc.ex e1
  have hn1 := e1.n
  refine sra rfl ?_
  refine c_seq ?_
  refine c_sj (α := Bool) (fun b => [(0, .ptr (some k) 0), (5, .sl (some qb) 0 (blocks l).length), (14, .bool b)]) (fun _ => []) (fun b st' => CuE n0 k r code st' ∧ Fr st.n st' (some qb) (blocks l) ∧ st.n ≤ st'.n ∧ (b = false → 0 < (blocks l).length)) ?_ ?_
  · -- region 2
    refine c_region (by kernel_rfl) ?_
    refine sr 4 rfl ?_
    refine s_bool 11 rfl rfl (fun h11 => ?_) (fun h11 => ?_)
    · -- slot 11 true
      exact sra rfl ⟨true, ⟨rfl, rfl, rfl, trivial⟩, trivial, hc1, hfb, hn1, fun h => by cases h⟩
    · -- slot 11 false
      have h11 := of_decide_eq_false h11
      refine sr 1 rfl ?_
      refine s_op rfl (o_call rfl (l1Once_c n0 k r code 5 _ hc1 (by decide)) (fun _ _ h => h) (.inl rfl) ?_)
      rintro v5 st5 ⟨b, rfl, hc5⟩ e5
      exact sra rfl ⟨_, ⟨rfl, rfl, rfl, trivial⟩, trivial, hc5, hfb.cu hk.2 e5, by have := e5.n; omega, fun _ => by omega⟩
  rintro b st2 ⟨hc2, hfb2, hn2, hb⟩
  refine c_if rfl (fun h14 => ?_) (fun h14 => ?_)
  · -- then
    refine c_rs (by kernel_rfl) ?_   -- region 3
    refine sr 1 rfl ?_
    refine s_op rfl (oints [-1, 0, 1, 5, 9999] loud_n rfl (by decide) rfl rfl rfl fun q st3 hq e3 => ?_)
    refine s_op rfl (o_call rfl (l1PickInt_c n0 k r (some q) code 0 _ _ (hc2.ex e3) hq.at_ (fun j hj => by have := hq.bd j hj; omega) (by decide) (by decide)) (fun _ _ h => h) (.inl rfl) ?_)
    rintro v2 st4 ⟨x, rfl, hx, hc4⟩ e2
    refine sra rfl ?_
    refine c_ret (fr rfl ⟨x, rfl, ?_, hc4⟩)
    simp only [List.mem_cons, List.not_mem_nil, or_false] at hx
    omega
  · -- else
    have hb := hb h14
    refine c_skip ?_
    refine c_rs (by kernel_rfl) ?_   -- region 4
    refine sr 4 rfl ?_
    refine s_op rfl (o_call rfl (l1Below_c n0 k r code (blocks l).length _ hc2 (by omega)) (fun _ _ h => h) (.inl rfl) ?_)
    rintro v4 st4 ⟨y, rfl, ⟨hy, _⟩, hc4⟩ e4
    have hy := hy (by omega)
    have hfb4 := hfb2.cu hk.2 e4
    refine s_op rfl (oidx rfl rfl rfl (by omega) (by omega) ?_)   -- 23 := indexAddr 31 (tmp 18) (tmp 22)
    refine s_op rfl (old rfl rfl (hfb4.at_.rd (by omega) (by omega)) ?_)   -- 24 := load 3 (tmp 23)
    refine sra rfl ?_
    have hm : rd (blocks l) y ∈ blocks l := by
      have := mem_rd (l := blocks l) (j := y.toNat) (by omega)
      rwa [show ((y.toNat : Nat) : Int) = y by omega] at this
    have hba := block_at hm
    exact c_ret (fr rfl ⟨_, rfl, by omega, hc4⟩)
/-- A slab and a number that are drawn, without the cursor. -/
def SlI (n1 : Nat) (p : Int → Prop) : AV → St → Prop := fun v st' => ∃ q o l x, v = .tup [.agg [.sl q o l.length], I x] ∧ At st' q o l ∧ l.length ≤ 2001 ∧ (∀ j, q = some j → n1 ≤ j ∧ j < st'.n) ∧ p x
theorem l2DrawBoth_c (r : Option Nat) (code : List Int) (st : St) (hx : AtB st r 0 code) (h8 : U8 code) (hl : code.length ≤ 1048576) (hr : ∀ j, r = some j → j < st.n) : ACalls Try.prog 95 [.sl r 0 code.length] st No (SlI st.n fun x => -1 ≤ x ∧ x ≤ 9999) := by
  refine ent (N := 14) Try.func95 rfl (by decide) rfl rfl rfl ?_
  refine crr (by kernel_rfl) rfl ?_   -- region 0
  refine c_rs (by kernel_rfl) ?_   -- region 1
  refine sr 1 rfl ?_
  refine s_op rfl (o_ex loud_n rfl (l1New_c st.n r code _ hx h8 hl (Nat.le_refl _) hr) ?_)
  rintro v1 st1 ⟨k, rfl, hk, hc1⟩ e1
  have hT : ∀ i, i < st.n → i = k → No i := fun i hi e => absurd hi (by omega)
  have hn1 := e1.n
  refine sra rfl ?_
  refine c_rs (by kernel_rfl) ?_   -- region 2
  refine sr 1 rfl ?_
  refine s_op rfl (o_call rfl (l2Draw_c st.n k r code _ hc1) hT (.inl rfl) ?_)
  rintro v2 st2 ⟨q, o, l, rfl, ha, hll, hb, hc2⟩ e2
  have hk1 := hc1.bd
  have hn2 := e2.n
  refine sra rfl ?_
  refine cdx [5] [] [0, 1, 2, 3] [false, false, false, true] [4, 5] [.n, .n] (by kernel_rfl) (by kernel_rfl) ?_   -- region 3
  refine yr 3 rfl ?_
  refine y_b rfl rfl (b_call rfl (l2DrawAt_c st.n k r q code o l _ hc2 ha (fun j hj => by have := hb j hj; omega) (by omega)) hT ?_)
  rintro v3 st3 ⟨x, rfl, hx3, hc3⟩ e3
  refine y_end ?_
  refine sra rfl ?_
  have hn3 := e3.n
  exact c_ret (fr rfl ⟨q, o, l, x, rfl, ha.cu (fun j hj => by have := hb j hj; omega) e3, hll, fun j hj => by have := hb j hj; omega, hx3⟩)
theorem DrawGive_c (r : Option Nat) (code : List Int) (st : St) (hx : AtB st r 0 code) (h8 : U8 code) (hl : code.length ≤ 1048576) (hr : ∀ j, r = some j → j < st.n) : ACalls Try.prog 41 [.sl r 0 code.length] st No (SlI st.n fun x => -1 ≤ x ∧ x ≤ 9999) := by
  refine ent (N := 13) Try.func41 rfl (by decide) rfl rfl rfl ?_
  refine crr (by kernel_rfl) rfl ?_   -- region 0
  refine c_rs (by kernel_rfl) ?_   -- region 1
  refine sr 1 rfl ?_
  refine s_op rfl (o_ex loud_n rfl (l2DrawBoth_c r code _ hx h8 hl hr) ?_)
  rintro v1 st1 ⟨q, o, l, x, rfl, ha, hll, hb, hx1⟩ e1
  refine sra rfl ?_
  refine crr (by kernel_rfl) rfl ?_   -- region 2
  exact c_ret (fr rfl ⟨q, o, l, x, rfl, ha, hll, hb, hx1⟩)
theorem DrawSlabNew_c (r : Option Nat) (code : List Int) (st : St) (hx : AtB st r 0 code) (h8 : U8 code) (hl : code.length ≤ 1048576) (hr : ∀ j, r = some j → j < st.n) : ACalls Try.prog 46 [.sl r 0 code.length] st No (fun v st' => ∃ x, v = I x ∧ -1 ≤ x ∧ x ≤ 2001) := by
  refine ent (N := 7) Try.func46 rfl (by decide) rfl rfl rfl ?_
  refine crr (by kernel_rfl) rfl ?_   -- region 0
  refine c_rs (by kernel_rfl) ?_   -- region 1
  refine sr 1 rfl ?_
  refine s_op rfl (o_ex loud_n rfl (l1New_c st.n r code _ hx h8 hl (Nat.le_refl _) hr) ?_)
  rintro v1 st1 ⟨k, rfl, hk, hc1⟩ e1
  have hk1 := hc1.bd
  refine s_op rfl (oints [0, 1, 2, 3, 50, 2000, 2001, -1] loud_n rfl (by decide) rfl rfl rfl fun q st3 hq e3 => ?_)
  refine s_op rfl (o_call rfl (l1PickInt_c st.n k r (some q) code 0 _ _ (hc1.ex e3) hq.at_ (fun j hj => by have := hq.bd j hj; omega) (by decide) (by decide)) (fun i hi e => absurd hi (by omega)) (.inl rfl) ?_)
  rintro v2 st4 ⟨x, rfl, hx, hc4⟩ e2
  refine sra rfl ?_
  refine c_ret (fr rfl ⟨x, rfl, ?_⟩)
  simp only [List.mem_cons, List.not_mem_nil, or_false] at hx
  omega
/-- A slab and two numbers that are drawn. -/
def SlII (n1 : Nat) (p : Int → Int → Prop) : AV → St → Prop := fun v st' => ∃ q o l x y, v = .tup [.agg [.sl q o l.length], I x, I y] ∧ At st' q o l ∧ l.length ≤ 2001 ∧ (∀ j, q = some j → n1 ≤ j ∧ j < st'.n) ∧ p x y
theorem DrawTake_c (r : Option Nat) (code : List Int) (st : St) (hx : AtB st r 0 code) (h8 : U8 code) (hl : code.length ≤ 1048576) (hr : ∀ j, r = some j → j < st.n) : ACalls Try.prog 31 [.sl r 0 code.length] st No (SlII st.n fun x y => (-1 ≤ x ∧ x ≤ 6) ∧ (0 ≤ y ∧ (y ≤ 20 ∨ y = 9223372036854775807))) := by
  refine ent (N := 23) Try.func31 rfl (by decide) rfl rfl rfl ?_
  refine crr (by kernel_rfl) rfl ?_   -- region 0
  refine c_rs (by kernel_rfl) ?_   -- region 1
  refine sr 1 rfl ?_
  refine s_op rfl (o_ex loud_n rfl (l1New_c st.n r code _ hx h8 hl (Nat.le_refl _) hr) ?_)
  rintro v1 st1 ⟨k, rfl, hk, hc1⟩ e1
  have hT : ∀ i, i < st.n → i = k → No i := fun i hi e => absurd hi (by omega)
  have hk1 := hc1.bd
  have hn1 := e1.n
  refine sra rfl ?_
  refine c_rs (by kernel_rfl) ?_   -- region 2
  refine sr 1 rfl ?_
  refine s_op rfl (o_call rfl (l2Draw_c st.n k r code _ hc1) hT (.inl rfl) ?_)
  rintro v2 st2 ⟨q, o, l, rfl, ha, hll, hb, hc2⟩ e2
  have hn2 := e2.n
  refine sra rfl ?_
  refine c_rs (by kernel_rfl) ?_   -- region 3
  refine sr 1 rfl ?_
  refine s_op rfl (o_call rfl (l1Below_c st.n k r code 7 _ hc2 (by decide)) hT (.inl rfl) ?_)
  rintro v3 st3 ⟨x, rfl, ⟨hx3, _⟩, hc3⟩ e3
  have hx3 := hx3 (by omega)
  refine sr 1 rfl ?_
  refine s_op rfl (o_call rfl (l1Below_c st.n k r code 9 _ hc3 (by decide)) hT (.inl rfl) ?_)
  rintro v4 st4 ⟨y, rfl, ⟨hy4, _⟩, hc4⟩ e4
  have hy4 := hy4 (by omega)
  refine s_op rfl (o_quo rfl rfl (by omega) (by omega) (by omega) ?_)
  refine s_op rfl (o_ar rfl rfl rfl (by omega) (by omega) ?_)   -- 17 := binOp BinOp.sub 3 (tmp 13) (tmp 16) 3
  refine sra rfl ?_
  have hn3 := e3.n
  have hn4 := e4.n
  refine cdx [6] [] [0, 1, 2, 3, 4] [false, false, false, true, true] [5, 6, 7] [.n, .n, .n] (by kernel_rfl) (by kernel_rfl) ?_   -- region 4
  refine yr 3 rfl ?_
  refine y_b rfl rfl (bints [2, 3, 4, 6, 20, 1, 0, 9223372036854775807] rfl (by decide) rfl rfl rfl fun q5 st5 hq5 e5 => ?_)
  refine y_b rfl rfl (b_call rfl (l1PickInt_c st.n k r (some q5) code 0 _ _ (hc4.ex e5) hq5.at_ (fun j hj => by have := hq5.bd j hj; omega) (by decide) (by decide)) hT ?_)
  rintro v6 st6 ⟨z, rfl, hz, hc6⟩ e6
  refine y_end ?_
  refine sra rfl ?_
  have hne : ∀ j, q = some j → j ≠ k := fun j hj => by have := hb j hj; omega
  refine c_ret (fr rfl ⟨q, o, l, _, z, rfl, (((ha.cu hne e3).cu hne e4).ex e5).cu hne e6, hll, fun j hj => ?_, ?_, ?_⟩)
  · have := hb j hj; have := e5.n; have := e6.n; omega
  · omega
  · simp only [List.mem_cons, List.not_mem_nil, or_false] at hz
    omega
end Go.Proofs.YtfhkjhnaihhdmaaW.Ax
