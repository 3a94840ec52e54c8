/- Sweeping step by step: what comes of it; the reference's walk. -/
import Derived.Test.YtmphklmhhcmbnaaGreatZt
import Derived.Test.YtmphklmhhcmbnaaGreatZn
namespace Go.Proofs.YtmphklmhhcmbnaaGreatW.Ax
open Go Go.RowKit Go.Proofs Go.Proofs.YtmphklmhhcmbnaaGreat.Pure
set_option linter.unusedVariables false
set_option maxRecDepth 100000
noncomputable section
abbrev cdA := @c_dA Go.Proofs.Tryz.prog
/-- A slab and a marker: rows of the call's own, and no two the same. -/
def Sm (n0 : Nat) (W : List Int) (P : Int) (G B : List Int) (Q : Int) : AV → St → Prop := fun v st' =>
  ∃ r rg rb, v = .tup [.agg [.sl r 0 W.length], .agg [I P, .sl rg 0 G.length, .sl rb 0 B.length, I Q]] ∧ Fr n0 st' r W ∧ Fr n0 st' rg G ∧ Fr n0 st' rb B ∧ (∀ i, rg = some i → rb ≠ some i) ∧ ∀ i, r = some i → rg ≠ some i ∧ rb ≠ some i
theorem Sm.ex {n0 : Nat} {W : List Int} {P : Int} {G B : List Int} {Q : Int} {v : AV} {st st' : St} (h : Sm n0 W P G B Q v st) (he : Ex st st') : Sm n0 W P G B Q v st' := by
  obtain ⟨r, rg, rb, h1, h2, h3, h4, h5⟩ := h
  exact ⟨r, rg, rb, h1, h2.ex he, h3.ex he, h4.ex he, h5⟩
theorem Sm.le {n0 n1 : Nat} {W : List Int} {P : Int} {G B : List Int} {Q : Int} {v : AV} {st : St} (h : Sm n0 W P G B Q v st) (hn : n1 ≤ n0) : Sm n1 W P G B Q v st := by
  obtain ⟨r, rg, rb, h1, h2, h3, h4, h5⟩ := h
  exact ⟨r, rg, rb, h1, h2.le hn, h3.le hn, h4.le hn, h5⟩
/-- Where sweeping comes to. -/
def swR (l b : List Int) (q n : Int) : List Int × Nat := runS b n.toNat (l, q.toNat)
def swZ (l : List Int) (p : Int) (g b : List Int) (q n : Int) : Prop := (MkOk l p g b q ∧ p = 2) ∧ (swR l b q n).2 = (swR l b q n).1.length
def swW (l : List Int) (p : Int) (g b : List Int) (q n : Int) : List Int := cond (bd (MkOk l p g b q)) (cond (bd (p = 2)) (swR l b q n).1 l) []
def swP (l : List Int) (p : Int) (g b : List Int) (q n : Int) : Int := cond (bd (swZ l p g b q n)) 0 p
def swG (l : List Int) (p : Int) (g b : List Int) (q n : Int) : List Int := cond (bd (swZ l p g b q n)) [] g
def swB (l : List Int) (p : Int) (g b : List Int) (q n : Int) : List Int := cond (bd (swZ l p g b q n)) [] b
def swQ (l : List Int) (p : Int) (g b : List Int) (q n : Int) : Int := cond (bd (swZ l p g b q n)) 0 (cond (bd (MkOk l p g b q ∧ p = 2)) ((swR l b q n).2 : Int) q)
/-- What comes of sweeping. -/
abbrev SwM (n0 : Nat) (l : List Int) (p : Int) (g b : List Int) (q n : Int) : AV → St → Prop := Sm n0 (swW l p g b q n) (swP l p g b q n) (swG l p g b q n) (swB l p g b q n) (swQ l p g b q n)
theorem sw_no {l : List Int} {p : Int} {g b : List Int} {q : Int} (n : Int) (h : ¬ MkOk l p g b q) (n0 : Nat) : SwM n0 l p g b q n = Sm n0 [] p g b q := by
  have h1 : ¬ swZ l p g b q n := fun hz => h hz.1.1
  unfold SwM swW swP swG swB swQ
  rw [bdf.2 h, bdf.2 h1, bdf.2 (fun hh : MkOk l p g b q ∧ p = 2 => h hh.1)]; rfl
theorem sw_ne {l : List Int} {p : Int} {g b : List Int} {q : Int} (n : Int) (h : MkOk l p g b q) (hp : p ≠ 2) (n0 : Nat) : SwM n0 l p g b q n = Sm n0 l p g b q := by
  have h1 : ¬ swZ l p g b q n := fun hz => hp hz.1.2
  unfold SwM swW swP swG swB swQ
  rw [bdt.2 h, bdf.2 h1, bdf.2 (fun hh : MkOk l p g b q ∧ p = 2 => hp hh.2), bdf.2 hp]; rfl
theorem sw_go {l : List Int} {g b : List Int} {q : Int} (n : Int) (h : MkOk l 2 g b q) (n0 : Nat) : SwM n0 l 2 g b q n =
    if (swR l b q n).2 = (swR l b q n).1.length then Sm n0 (swR l b q n).1 0 [] [] 0 else Sm n0 (swR l b q n).1 2 g b (swR l b q n).2 := by
  unfold SwM swW swP swG swB swQ
  rw [bdt.2 h, bdt.2 (rfl : (2 : Int) = 2), bdt.2 (⟨h, rfl⟩ : MkOk l 2 g b q ∧ (2 : Int) = 2)]
  split
  · rename_i hc
    rw [bdt.2 (show swZ l 2 g b q n from ⟨⟨h, rfl⟩, hc⟩)]; rfl
  · rename_i hc
    rw [bdf.2 (fun hz : swZ l 2 g b q n => hc hz.2)]; rfl
theorem MkOk.swAt {l : List Int} {g b : List Int} {q : Int} (h : MkOk l 2 g b q) : ∃ k : Nat, q = k ∧ SwAt (l, k) := by
  obtain ⟨hok, _, h⟩ := h
  rcases h with h | h | h
  · exact absurd h.1 (by decide)
  · exact absurd h.1 (by decide)
  · obtain ⟨_, h2, _⟩ := h.2
    rcases h2 with e | e
    · exact ⟨l.length, e, hok, .inl rfl⟩
    · obtain ⟨k, e1, _⟩ := blocks_mem e
      rw [e1] at e
      exact ⟨k, e1, hok, .inr e⟩
theorem sw_len (l : List Int) (p : Int) (g b : List Int) (q n : Int) : (swW l p g b q n).length ≤ l.length ∧ (swG l p g b q n).length ≤ g.length ∧ (swB l p g b q n).length ≤ b.length := by
  refine ⟨?_, ?_, ?_⟩
  · unfold swW
    cases h1 : bd (MkOk l p g b q) with
    | false => exact Nat.zero_le _
    | true =>
      cases h2 : bd (p = 2) with
      | false => exact Nat.le_refl _
      | true =>
        have h1 := bdt.1 h1
        have h2 := bdt.1 h2
        subst h2
        obtain ⟨k, rfl, hs⟩ := h1.swAt
        have := (SwAt.run (b := b) n.toNat hs).2
        show (swR l b k n).1.length ≤ _
        unfold swR
        rw [Int.toNat_natCast]
        exact Nat.le_of_eq this
  · unfold swG
    cases bd (swZ l p g b q n) <;> simp
  · unfold swB
    cases bd (swZ l p g b q n) <;> simp
theorem MkOk.ok {l : List Int} {p : Int} {g b : List Int} {q : Int} (h : MkOk l p g b q) : okB l = true := h.1

/-- What is known while the copies are made and swept. -/
def PhiW (n0 : Nat) (l g b : List Int) (p q n : Int) (i : Nat) (s : Nat → AV) (st : St) : Prop := match i with
  | 1 => ∃ r, s 26 = .agg [.sl r 0 l.length] ∧ Fr n0 st r l
  | 3 => ∃ r rg rb, s 26 = .agg [.sl r 0 l.length] ∧ s 28 = .agg [I p, .sl rg 0 g.length, .sl rb 0 b.length, I q] ∧ Fr n0 st rg g ∧ Fr n0 st rb b ∧ (∀ i, rg = some i → rb ≠ some i) ∧ ∀ i, r = some i → rg ≠ some i ∧ rb ≠ some i
  | 5 => SwM n0 l p g b q n (s 30) st
  | 6 => SwM n0 l p g b q n (s 24) st
  | 7 => ∃ x y, s 24 = .tup [x, y] ∧ s 31 = x
  | 8 => ∃ x y, s 24 = .tup [x, y] ∧ s 32 = y
  | _ => False
def phiWK (i : Nat) : List Nat := match i with | 1 => [26] | 3 => [28, 26] | 5 => [30] | 6 => [24] | 7 => [31, 24] | 8 => [32, 24] | _ => []
theorem phiW_ex (n0 : Nat) (l g b : List Int) (p q n : Int) : ∀ i s st st', PhiW n0 l g b p q n i s st → Ex st st' → PhiW n0 l g b p q n i s st' := fun i s st st' h he => by
  unfold PhiW at *
  split at h
  · obtain ⟨r, h1, h2⟩ := h; exact ⟨r, h1, h2.ex he⟩
  · obtain ⟨r, rg, rb, h1, h2, h3, h4, h5⟩ := h; exact ⟨r, rg, rb, h1, h2, h3.ex he, h4.ex he, h5⟩
  · exact Sm.ex h he
  · exact Sm.ex h he
  · exact h
  · exact h
  · exact h
theorem phiW_loc (n0 : Nat) (l g b : List Int) (p q n : Int) : ∀ i s s' st, (∀ t ∈ phiWK i, s' t = s t) → PhiW n0 l g b p q n i s st → PhiW n0 l g b p q n i s' st := fun i s s' st hk h => by
  unfold PhiW at *
  unfold phiWK at hk
  split at h <;> simp only [List.mem_cons, List.not_mem_nil, or_false, forall_eq_or_imp, forall_eq] at hk
  · rw [hk]; exact h
  · rw [hk.1, hk.2]; exact h
  · rw [hk]; exact h
  · rw [hk]; exact h
  · rw [hk.1, hk.2]; exact h
  · rw [hk.1, hk.2]; exact h
  · exact h

theorem SweepStep_c (p q n : Int) (r rg rb : Option Nat) (o : Nat) (l g b : List Int) (st : St) (hx : At st r o l) (hl : l.length ≤ 1048576) (hg : At st rg 0 g) (hb : At st rb 0 b) (hlg : g.length ≤ 536870912) (hlb : b.length ≤ 536870912) (hn : W1 n) :
    ACalls Tryz.prog 23 [.agg [.sl r o l.length], .agg [I p, .sl rg 0 g.length, .sl rb 0 b.length, I q], I n] st No (SwM st.n l p g b q n) := by
  refine ent (N := 35) Tryz.func23 rfl (by decide) rfl rfl rfl ?_
  refine crr (by kernel_rfl) rfl ?_   -- region 0
  refine c_seq ?_
  refine c_rs (by kernel_rfl) ?_   -- region 1
  refine sr 2 rfl ?_
  refine s_op rfl (o_ex loud_n rfl (MarkerOk_c p q r rg rb o l g b _ hx hl hg hb hlg hlb) ?_)
  rintro v1 st1 rfl e1
  refine sra rfl ?_
  refine c_if rfl (fun h13 => ?_) (fun h13 => ?_)
  · -- then
    have h13 := nbt h13
    rw [sw_no n h13]
    refine c_rs (by kernel_rfl) ?_   -- region 2
    refine sr 2 rfl ?_
    refine s_op rfl (o_ex loud_n rfl (l8Copy_c p q rg rb g b _ (hg.ex e1) (hb.ex e1) (by omega) (by omega)) ?_)
    rintro v2 st2 ⟨q1, q2, rfl, hf1, hf2, hd⟩ e2
    refine sra rfl ?_
    exact c_ret (fr rfl ⟨none, q1, q2, rfl, .inl ⟨rfl, rfl⟩, hf1.le e1.n, hf2.le e1.n, hd, fun i h => (by cases h)⟩)
  · -- else
    have h13 := nbf h13
    have hok := h13.ok
    refine c_skip ?_
    refine c_seq ?_
    refine crr (by kernel_rfl) rfl ?_   -- region 3
    refine c_if rfl (fun h19 => ?_) (fun h19 => ?_)
    · -- then
      have h19 := ndt h19
      rw [sw_ne n h13 h19]
      refine cdt [0, 2, 1, 3, 4, 5] [.q, .q, .f, .f, .n, .n] (by kernel_rfl) (by kernel_rfl) ?_   -- region 4
      refine sr 2 rfl ?_
      refine s_op rfl (o_ex loud_f rfl (l2Copy_c _ _ _ _ (hx.ex e1) hl) ?_)
      rintro v2 st2 ⟨r2, rfl, hf2⟩ e2
      refine s_op rfl (o_ex loud_f rfl (l8Copy_c p q rg rb g b _ ((hg.ex e1).ex e2) ((hb.ex e1).ex e2) (by omega) (by omega)) ?_)
      rintro v3 st3 ⟨q1, q2, rfl, hf3, hf4, hd⟩ e3
      refine sra rfl ?_
      refine c_ret (fr rfl ⟨r2, q1, q2, rfl, (hf2.le e1.n).ex e3, hf3.le (e1.tr e2).n, hf4.le (e1.tr e2).n, hd, fun i h => ?_⟩)
      have h2 := hf2.bd i h
      exact ⟨fun h' => by have := hf3.bd i h'; omega, fun h' => by have := hf4.bd i h'; omega⟩
    · -- else
      have h19 := ndf h19
      subst h19
      obtain ⟨k, rfl, hsw⟩ := h13.swAt
      refine c_skip ?_
      refine cdA [0, 2, 4] [6, 7, 8] [1, 3] [5] [9, 10] [11, 12] [.n, .n] (fun i => if i = 1 then [5] else []) (fun i => match i with | 1 => 26 | 3 => 28 | 5 => 30 | 6 => 24 | 7 => 31 | 8 => 32 | 9 => 8 | _ => 9) (fun i => if i = 9 then [.sl none 0 0] else [I 0, .sl none 0 0, .sl none 0 0, I 0])
        phiWK (PhiW st1.n l g b 2 k n) (by kernel_rfl) (by kernel_rfl) (by decide) (phiW_ex _ _ _ _ _ _ _) (phiW_loc _ _ _ _ _ _ _) (fun i hi o ho a st' => ?_) ?_   -- region 5
      · simp only [List.mem_cons, List.not_mem_nil, or_false] at hi
        rcases hi with rfl | rfl
        · obtain rfl : _ = o := Option.some.inj ho
          exact run2_ok rfl ⟨rfl, rfl⟩
        · obtain rfl : _ = o := Option.some.inj ho
          exact run2_ok rfl ⟨rfl, rfl⟩
      refine sr 3 rfl ?_
      refine s_end ⟨rfl, fun i hi op ho a st' hex hdep hsl => ?_, fun i hi op ho a st' hex hdep hsl => ?_, fun i hi op ho a st' hex hdep hsl => ?_, fun a st' hex hphi hal hsl hpl hbx => ?_⟩
      · -- moves
        simp only [List.mem_cons, List.not_mem_nil, or_false] at hi
        rcases hi with rfl | rfl | rfl
        · obtain rfl : _ = op := Option.some.inj ho
          have h5 : SwM st1.n l 2 g b k n (a.s 30) st' := hdep 5 (by decide) (by kernel_rfl) (by decide)
          obtain ⟨x1, x2, x3, h6, h7⟩ := h5
          exact ⟨rfl, _, q_mk [(30, _)] [] ⟨h6, trivial⟩ trivial (run1_ok (tb := Tys) rfl), ⟨x1, x2, x3, rfl, h7⟩⟩
        · obtain rfl : _ = op := Option.some.inj ho
          have h5 : SwM st1.n l 2 g b k n (a.s 24) st' := hdep 6 (by decide) (by kernel_rfl) (by decide)
          obtain ⟨x1, x2, x3, h6, h7⟩ := h5
          exact ⟨rfl, _, q_mk [(24, _)] [] ⟨h6, trivial⟩ trivial (run1_ok (tb := Tys) rfl), ⟨_, _, h6, rfl⟩⟩
        · obtain rfl : _ = op := Option.some.inj ho
          have h5 : SwM st1.n l 2 g b k n (a.s 24) st' := hdep 6 (by decide) (by kernel_rfl) (by decide)
          obtain ⟨x1, x2, x3, h6, h7⟩ := h5
          exact ⟨rfl, _, q_mk [(24, _)] [] ⟨h6, trivial⟩ trivial (run1_ok (tb := Tys) rfl), ⟨_, _, h6, rfl⟩⟩
      · -- makers
        have h25 : a.s 25 = .agg [.sl r o l.length] := hsl 25 (by decide)
        have h27 : a.s 27 = .agg [I 2, .sl rg 0 g.length, .sl rb 0 b.length, I k] := hsl 27 (by decide)
        simp only [List.mem_cons, List.not_mem_nil, or_false] at hi
        rcases hi with rfl | rfl
        · obtain rfl : _ = op := Option.some.inj ho
          refine o_ex loud_f rfl (Post := Sn st' l) ?_ ?_
          · show ACalls _ _ [a.s 25] _ _ _
            rw [h25]
            exact l2Copy_c _ _ _ _ ((hx.ex e1).ex hex) hl
          · rintro v st2 ⟨r2, rfl, hf2⟩ he2
            exact ⟨_, rfl, ⟨r2, rfl, hf2.le hex.n⟩, he2⟩
        · obtain rfl : _ = op := Option.some.inj ho
          obtain ⟨r1, h26, hf1⟩ : ∃ r, a.s 26 = .agg [.sl r 0 l.length] ∧ Fr st1.n st' r l := hdep 1 (by decide) (by kernel_rfl) fun j hj => by
            obtain rfl : j = 5 := by simpa using hj
            exact .inr (by kernel_rfl)
          refine o_ex loud_f rfl (Post := Mr st' 2 g b k) ?_ ?_
          · show ACalls _ _ [a.s 27] _ _ _
            rw [h27]
            exact l8Copy_c _ _ _ _ _ _ _ ((hg.ex e1).ex hex) ((hb.ex e1).ex hex) (by omega) (by omega)
          · rintro v st2 ⟨q1, q2, rfl, hf2, hf3, hd⟩ he2
            refine ⟨_, rfl, ⟨r1, q1, q2, h26, rfl, hf2.le hex.n, hf3.le hex.n, hd, fun i h => ?_⟩, he2⟩
            have h2 := hf1.bd i h
            exact ⟨fun h' => by have := hf2.bd i h'; omega, fun h' => by have := hf3.bd i h'; omega⟩
      · -- the sweeping
        have h29 : a.s 29 = I n := hsl 29 (by decide)
        obtain rfl : i = 5 := by simpa using hi
        obtain rfl : _ = op := Option.some.inj ho
        obtain ⟨r1, h26, hf1⟩ : ∃ r, a.s 26 = .agg [.sl r 0 l.length] ∧ Fr st1.n st' r l := hdep 1 (by decide) (by kernel_rfl) fun j hj => .inl (by simpa using hj)
        obtain ⟨r2, q1, q2, h26', h28, hf2, hf3, hd, hd2⟩ : ∃ r rg rb, a.s 26 = .agg [.sl r 0 l.length] ∧ a.s 28 = .agg [I 2, .sl rg 0 g.length, .sl rb 0 b.length, I k] ∧ Fr st1.n st' rg g ∧ Fr st1.n st' rb b ∧ (∀ i, rg = some i → rb ≠ some i) ∧ ∀ i, r = some i → rg ≠ some i ∧ rb ≠ some i :=
          hdep 3 (by decide) (by kernel_rfl) (by decide)
        obtain rfl : r1 = r2 := by rw [h26] at h26'; injection h26' with e; injection e with e; injection e
        refine o_call rfl (T' := fun i => r1 = some i) (Post := Gt st1.n st' r1 (runS b n.toNat (l, k)) 2 q1 q2 g b) ?_ (fun i hi h => by have := hf1.bd i h; have := e1.n; omega) (.inl rfl) ?_
        · show ACalls _ _ ([a.s 26, a.s 28, a.s 29] ++ []) _ _ _
          rw [h26, h28, h29]
          exact l9Step_c st1.n r1 q1 q2 l g b k 2 n st' hf1 hsw hf3.at_ (fun i h => (hd2 i h).2) (by omega) hn
        · rintro v st2 ⟨rfl, hf4, he4⟩ _
          have hk1 : ∀ {x : Option Nat} {m : List Int}, Fr st1.n st' x m → (∀ i, r1 = some i → x ≠ some i) → Fr st1.n st2 x m := fun hf hne => hf.ext he4 fun i hi h => hne i h hi
          refine ⟨_, rfl, ?_, (hex.own (hf1) he4), ?_⟩
          · show SwM st1.n l 2 g b k n _ st2
            rw [sw_go n h13]
            have e : swR l b k n = runS b n.toNat (l, k) := by unfold swR; rw [Int.toNat_natCast]
            rw [e]
            have hu : upd a.s 30 (.tup [.agg [.sl r1 0 (runS b n.toNat (l, k)).1.length], endM 2 q1 q2 g b (runS b n.toNat (l, k)).1.length (runS b n.toNat (l, k)).2]) 30 = _ := upd_same _ _ _
            unfold endM at hu ⊢
            split
            · rename_i hc
              rw [if_pos hc] at hu
              exact ⟨r1, none, none, hu, hf4, .inl ⟨rfl, rfl⟩, .inl ⟨rfl, rfl⟩, fun i h => (by cases h), fun i _ => ⟨(by intro h; cases h), (by intro h; cases h)⟩⟩
            · rename_i hc
              rw [if_neg hc] at hu
              exact ⟨r1, q1, q2, hu, hf4, hk1 hf2 (fun i h => (hd2 i h).1), hk1 hf3 (fun i h => (hd2 i h).2), hd, hd2⟩
          · intro j hj hki hji hbn hphi
            simp only [List.mem_append, List.mem_cons, List.not_mem_nil, or_false] at hj
            rcases hj with (rfl | rfl | rfl) | (rfl | rfl) | rfl
            · exact absurd (Eq.trans (c := true) hbn.symm (by kernel_rfl)) (by decide)
            · exact hphi
            · exact hphi
            · exact absurd hki (by decide)
            · exact ⟨r1, q1, q2, h26, h28, hk1 hf2 (fun i h => (hd2 i h).1), hk1 hf3 (fun i h => (hd2 i h).2), hd, hd2⟩
            · exact absurd rfl hji
      · have h6 : SwM st1.n l 2 g b k n (a.s 24) st' := hphi 6 (by decide) rfl
        obtain ⟨x, y, h24, h31⟩ : ∃ x y, a.s 24 = .tup [x, y] ∧ a.s 31 = x := hphi 7 (by decide) rfl
        obtain ⟨x', y', h24', h32⟩ : ∃ x y, a.s 24 = .tup [x, y] ∧ a.s 32 = y := hphi 8 (by decide) rfl
        obtain ⟨r, rg, rb, h1, hr⟩ := h6
        rw [h1] at h24 h24'
        injection h24 with h24
        injection h24 with e5 e2
        injection e2 with e2
        subst e5
        injection h24' with h24'
        injection h24' with e3 e4
        injection e4 with e4
        subst e4
        have p8 := hal 9 (by decide)
        have p9 := hal 10 (by decide)
        refine s_mk [(31, _), (32, _)] [(6, 6, [.sl none 0 0]), (7, 7, [I 0, .sl none 0 0, .sl none 0 0, I 0]), (8, 8, [.sl none 0 0]), (9, 9, [I 0, .sl none 0 0, .sl none 0 0, I 0])] rfl (by decide) ⟨h31, h32, trivial⟩ ⟨hpl 6 (by decide) 6 0 rfl (by decide), hbx 6 (by decide), hpl 7 (by decide) 7 0 rfl (by decide), hbx 7 (by decide), p8.1, p8.2, p9.1, p9.2, trivial⟩ ?_
        refine sra rfl ?_
        refine c_sj (α := Unit) (fun _ => []) (fun _ => [(6, 6, [.sl r 0 (swW l 2 g b k n).length]), (7, 7, [I (swP l 2 g b k n), .sl rg 0 (swG l 2 g b k n).length, .sl rb 0 (swB l 2 g b k n).length, I (swQ l 2 g b k n)])]) (fun _ st'' => st' = st'') ?_ ?_
        · refine c_tr1 [0] [0, 1] 3 (.node [(1, .node [(2, .node [(3, .leaf)])]), (2, .node [(1, .node [(3, .leaf)])])]) (by kernel_rfl) (by kernel_rfl) ?_   -- region 6
          refine sr 1 rfl ?_
          refine s_end ?_
          refine ⟨⟨_, rfl, rfl, ?_⟩, ⟨_, rfl, rfl, ?_⟩, trivial⟩
          all_goals
            refine run2_ok rfl ?_
            refine ⟨⟨_, rfl, rfl, ?_⟩, trivial⟩
            refine run2_ok rfl ?_
            refine ⟨⟨_, rfl, rfl, ?_⟩, trivial⟩
            refine run2_ok rfl ?_
            exact ⟨(), trivial, ⟨rfl, rfl, rfl, rfl, trivial⟩, rfl⟩
        rintro _ _ rfl
        exact c_ret (fr rfl (Sm.le (n1 := st.n) ⟨r, rg, rb, rfl, hr⟩ e1.n))
end
end Go.Proofs.YtmphklmhhcmbnaaGreatW.Ax
