/- Sweeping step by step: the program's walk. -/
import Derived.Test.YtmphklmhhcmbnaaGreatZu
import Derived.Test.YtmphklmhhcmbnaaGreatXV
namespace Go.Proofs.YtmphklmhhcmbnaaGreatW.Ax
open Go Go.RowKit Go.Proofs Go.Proofs.YtmphklmhhcmbnaaGreat.Pure
set_option linter.unusedVariables false
set_option maxRecDepth 100000
noncomputable section
theorem sweepStep_c (q n : Int) (r rg rb : Option Nat) (o : Nat) (l g b : List Int) (st : St) (hx : At st r o l) (hm : MkOk l 2 g b q) (hg : At st rg 0 g) (hb : At st rb 0 b) (hlg : g.length ≤ 536870912) (hlb : b.length ≤ 536870912) (hn : W1 n) :
    ACalls Tryz.prog 40 [.agg [.sl r o l.length], .agg [I 2, .sl rg 0 g.length, .sl rb 0 b.length, I q], I n] st No (SwM st.n l 2 g b q n) := by
  have hlen := okB_len hm.ok
  have hasc := hm.asc
  obtain ⟨k0, rfl, hsw⟩ := hm.swAt
  rw [sw_go n hm]
  have eR : swR l b k0 n = runS b n.toNat (l, k0) := by unfold swR; rw [Int.toNat_natCast]
  rw [eR]
  unfold W1 at hn
  refine ent (N := 89) Tryz.func40 rfl (by decide) rfl rfl rfl ?_
  refine crr (by kernel_rfl) rfl ?_   -- region 0
  refine cdx [3, 4] [4, 5] [0, 2, 1, 3] [false, false, true, true] [6, 7] [.n, .n] (by kernel_rfl) (by kernel_rfl) ?_   -- region 1
  refine yr 2 rfl ?_
  refine y_b rfl rfl (b_call rfl (copySlab_c _ _ _ _ hx (by omega)) no_T ?_)
  rintro v2 st2 ⟨q2, rfl, hf2⟩ e2
  refine y_b rfl rfl (b_call rfl (copyMarker_c 2 k0 rg rb g b _ (hg.ex e2) (hb.ex e2) (by omega) (by omega)) no_T ?_)
  rintro v3 st3 ⟨qg, qb, rfl, hf3, hf4, hd⟩ e3
  refine y_end ?_
  refine sra rfl ?_
  have b2 := hf2.bd
  have b3 := hf3.bd
  have b4 := hf4.bd
  have hf2 := hf2.ex e3
  have hf3 := hf3.le e2.n
  have hf4 := hf4.le e2.n
  have e23 := e2.tr e3
  refine c_seq ?_
  refine crr (by kernel_rfl) rfl ?_   -- region 2
  refine c_block ?_
  refine c_lp (α := Nat × (List Int × Nat) × Option Nat) (fun i => [(2, I n), (10, I i.1)]) (fun i => [(6, 6, [.sl none 0 0]), (7, 7, [I 0, .sl none 0 0, .sl none 0 0, I 0]), (8, 8, [.sl i.2.2 0 i.2.1.1.length]), (9, 9, [I 2, .sl qg 0 g.length, .sl qb 0 b.length, I i.2.1.2])])
    (fun i st' => Ex st3 st' ∧ Fr st.n st' i.2.2 i.2.1.1 ∧ SwAt i.2.1 ∧ i.2.1.1.length = l.length ∧ i.1 ≤ n.toNat ∧ runS b (n.toNat - i.1) i.2.1 = runS b n.toNat (l, k0) ∧ ∀ j, i.2.2 = some j → qg ≠ some j ∧ qb ≠ some j) (fun i => n.toNat - i.1) (0, (l, k0), q2) ⟨rfl, rfl, trivial⟩ ⟨rfl, rfl, rfl, rfl, rfl, rfl, rfl, rfl, trivial⟩ ⟨Ext.refl _ _, hf2, hsw, rfl, Nat.zero_le _, rfl, fun j hj => ?_⟩ ?_
  · have := b2 j hj
    exact ⟨fun h => by have := b3 j h; omega, fun h => by have := b4 j h; omega⟩
  rintro ⟨k, ⟨w, a⟩, qr⟩ st1 ⟨he, hfw, hsw, hwl, hkn, hrun, hdd⟩
  dsimp only at *
  have hal := hsw.le
  dsimp only at hal
  have hgl : Fr st.n st1 qg g := hf3.ex he
  have hbl : Fr st.n st1 qb b := hf4.ex he
  refine c_seq ?_
  refine c_sj (α := Bool) (fun t => [(2, I n), (10, I k), (27, .bool t)]) (fun _ => [(6, 6, [.sl none 0 0]), (7, 7, [I 0, .sl none 0 0, .sl none 0 0, I 0]), (8, 8, [.sl qr 0 w.length]), (9, 9, [I 2, .sl qg 0 g.length, .sl qb 0 b.length, I a])]) (fun t st' => st1 = st' ∧ (t = true ↔ (k : Int) < n ∧ a < w.length)) ?_ ?_
  · -- region 3
    refine c_region (by kernel_rfl) ?_
    refine sr 4 rfl ?_
    refine s_bool 20 rfl rfl (fun h20 => ?_) (fun h20 => ?_)
    · -- slot 20 true
      have h20 := of_decide_eq_true h20
      refine sra rfl ⟨_, ⟨rfl, rfl, rfl, trivial⟩, ⟨rfl, rfl, rfl, rfl, rfl, rfl, rfl, rfl, trivial⟩, rfl, ?_⟩
      simp only [cond_true, decide_eq_true_eq]
      omega
    · -- slot 20 false
      have h20 := of_decide_eq_false h20
      exact sra rfl ⟨false, ⟨rfl, rfl, rfl, trivial⟩, ⟨rfl, rfl, rfl, rfl, rfl, rfl, rfl, rfl, trivial⟩, rfl, fun h => (by cases h), fun h => absurd h.1 h20⟩
  rintro t _ ⟨rfl, ht⟩
  refine c_if rfl (fun h27 => ?_) (fun h27 => ?_)
  · -- then
    obtain ⟨hk1, ha1⟩ := ht.1 h27
    have hmw := hsw.mem ha1
    dsimp only at hmw
    obtain ⟨a', ea, _, hha⟩ := blocks_mem hmw
    obtain rfl : a = a' := by omega
    have hsa := size_pos hha
    have hsz := size_eq hha
    have hdec : ∃ m, n.toNat - k = m + 1 := ⟨n.toNat - k - 1, by omega⟩
    obtain ⟨m, hm1⟩ := hdec
    rw [hm1, runS, if_pos ha1] at hrun
    have hsw' := (hsw.swp ha1 b).1
    have hswl : (swp b (w, a)).1.length = w.length := (hsw.swp ha1 b).2
    have ha1 : a < w.length := ha1
    refine c_skip ?_
    refine c_seq ?_
    refine c_block ?_
    refine crr (by kernel_rfl) rfl ?_   -- region 5
    refine c_rs (by kernel_rfl) ?_   -- region 6
    refine sr 4 rfl ?_
    refine s_op rfl (oidx rfl rfl rfl (by omega) (by omega) ?_)   -- 36 := indexAddr 22 (tmp 34) (tmp 35)
    refine s_op rfl (old rfl rfl (hfw.at_.rd (by omega) (by omega)) ?_)   -- 37 := load 3 (tmp 36)
    refine sr 1 rfl ?_
    rw [← hsz]
    refine s_op rfl (o_ar rfl rfl rfl (by omega) (by omega) ?_)   -- 39 := binOp BinOp.add 3 (tmp 32) (tmp 38) 3
    refine sra rfl ?_
    refine c_sj (α := (List Int × Nat) × Option Nat) (fun i => [(2, I n), (10, I k), (12, I i.1.2)]) (fun i => [(6, 6, [.sl none 0 0]), (7, 7, [I 0, .sl none 0 0, .sl none 0 0, I 0]), (8, 8, [.sl i.2 0 i.1.1.length]), (9, 9, [I 2, .sl qg 0 g.length, .sl qb 0 b.length, I a])])
      (fun i st' => Ex st1 st' ∧ Fr st.n st' i.2 i.1.1 ∧ i.1 = swp b (w, a) ∧ ∀ j, i.2 = some j → qg ≠ some j ∧ qb ≠ some j) ?_ ?_
    · -- ways that meet
      refine c_sj (α := Bool) (fun t => [(2, I n), (10, I k), (11, I a), (12, I ((a : Int) + (size w a : Nat))), (52, .bool t)]) (fun _ => [(6, 6, [.sl none 0 0]), (7, 7, [I 0, .sl none 0 0, .sl none 0 0, I 0]), (8, 8, [.sl qr 0 w.length]), (9, 9, [I 2, .sl qg 0 g.length, .sl qb 0 b.length, I a])]) (fun t st' => st1 = st' ∧ (t = true ↔ kindOf w a ≠ 0 ∧ (a : Int) ∉ b)) ?_ ?_
      · -- region 7
        refine c_region (by kernel_rfl) ?_
        refine sr 3 rfl ?_
        refine s_op rfl (oidx rfl rfl rfl (by omega) (by omega) ?_)   -- 43 := indexAddr 22 (tmp 41) (tmp 42)
        refine s_op rfl (old rfl rfl (hfw.at_.rd (by omega) (by omega)) ?_)   -- 44 := load 3 (tmp 43)
        refine sr 3 rfl ?_
        rw [rd_kind]
        refine s_bool 47 rfl rfl (fun h47 => ?_) (fun h47 => ?_)
        · -- slot 47 true
          have h47 := ndt h47
          refine sr 2 rfl ?_
          refine s_op rfl (o_pure loud_n rfl (isBlack_c 2 a a qg qb 0 _ b _ hbl.at_ hasc (by omega)) ?_)
          refine sra rfl ⟨_, ⟨rfl, rfl, rfl, rfl, rfl, trivial⟩, ⟨rfl, rfl, rfl, rfl, rfl, rfl, rfl, rfl, trivial⟩, rfl, ?_⟩
          show (!bd ((a : Int) ∈ b)) = true ↔ _
          exact ⟨fun h => ⟨h47, nbt h⟩, fun h => (by rw [bdf.2 h.2]; rfl)⟩
        · -- slot 47 false
          have h47 := ndf h47
          exact sra rfl ⟨false, ⟨rfl, rfl, rfl, rfl, rfl, trivial⟩, ⟨rfl, rfl, rfl, rfl, rfl, rfl, rfl, rfl, trivial⟩, rfl, fun h => (by cases h), fun h => absurd h47 h.1⟩
      rintro t2 _ ⟨rfl, ht2⟩
      refine c_if rfl (fun h52 => ?_) (fun h52 => ?_)
      · -- then
        have hc := ht2.1 h52
        have eS : swp b (w, a) = (Go.Proofs.YtmphklmhhcmbnaaGreat.Pure.give w a, gto w a) := by unfold swp; rw [if_pos hc]
        refine c_sj (α := Unit) (fun _ => [(2, I n), (10, I k), (11, I a), (12, I (gto w a : Nat))]) (fun _ => [(6, 6, [.sl none 0 0]), (7, 7, [I 0, .sl none 0 0, .sl none 0 0, I 0]), (8, 8, [.sl qr 0 w.length]), (9, 9, [I 2, .sl qg 0 g.length, .sl qb 0 b.length, I a])]) (fun _ st' => st1 = st') ?_ ?_
        · -- ways that meet
          refine c_sj (α := Bool) (fun t => [(2, I n), (10, I k), (11, I a), (12, I ((a : Int) + (size w a : Nat))), (66, .bool t)]) (fun _ => [(6, 6, [.sl none 0 0]), (7, 7, [I 0, .sl none 0 0, .sl none 0 0, I 0]), (8, 8, [.sl qr 0 w.length]), (9, 9, [I 2, .sl qg 0 g.length, .sl qb 0 b.length, I a])]) (fun t st' => st1 = st' ∧ (t = true ↔ a + size w a < w.length ∧ kindOf w (a + size w a) = 0)) ?_ ?_
          · -- region 8
            refine c_region (by kernel_rfl) ?_
            refine sr 6 rfl ?_
            refine s_bool 58 rfl rfl (fun h58 => ?_) (fun h58 => ?_)
            · -- slot 58 true
              have h58 := of_decide_eq_true h58
              refine sr 3 rfl ?_
              refine s_op rfl (oidx rfl rfl rfl (by omega) (by omega) ?_)   -- 62 := indexAddr 22 (tmp 60) (tmp 61)
              refine s_op rfl (old rfl rfl (hfw.at_.rd (by omega) (by omega)) ?_)   -- 63 := load 3 (tmp 62)
              refine sra rfl ⟨_, ⟨rfl, rfl, rfl, rfl, rfl, trivial⟩, ⟨rfl, rfl, rfl, rfl, rfl, rfl, rfl, rfl, trivial⟩, rfl, ?_⟩
              have e1 : rd w ((a : Int) + (size w a : Nat)) % 8 = kindOf w (a + size w a) := by rw [show (a : Int) + (size w a : Nat) = ((a + size w a : Nat) : Int) by omega, rd_kind]
              rw [e1]
              simp only [cond_true, decide_eq_true_eq]
              exact ⟨fun h => ⟨by omega, h⟩, fun h => h.2⟩
            · -- slot 58 false
              have h58 := of_decide_eq_false h58
              exact sra rfl ⟨false, ⟨rfl, rfl, rfl, rfl, rfl, trivial⟩, ⟨rfl, rfl, rfl, rfl, rfl, rfl, rfl, rfl, trivial⟩, rfl, fun h => (by cases h), fun h => absurd h.1 (by omega)⟩
          rintro t3 _ ⟨rfl, ht3⟩
          refine c_if rfl (fun h66 => ?_) (fun h66 => ?_)
          · -- then
            have h66 := ht3.1 h66
            have hhn : headOk w (a + size w a) := walk_next (l := w) w.length (by omega) (blocks_of hsw.1).2 hmw h66.1
            have hsn := size_pos hhn
            have hszn := size_eq hhn
            refine c_region (by kernel_rfl) ?_   -- region 9
            refine sr 4 rfl ?_
            refine s_op rfl (oidx rfl rfl rfl (by omega) (by omega) ?_)   -- 71 := indexAddr 22 (tmp 69) (tmp 70)
            refine s_op rfl (old rfl rfl (hfw.at_.rd (by omega) (by omega)) ?_)   -- 72 := load 3 (tmp 71)
            refine sr 1 rfl ?_
            rw [show (a : Int) + (size w a : Nat) = ((a + size w a : Nat) : Int) by omega, ← hszn]
            refine s_op rfl (o_ar rfl rfl rfl (by omega) (by omega) ?_)   -- 74 := binOp BinOp.add 3 (tmp 67) (tmp 73) 3
            refine sra rfl ?_
            refine ⟨(), ⟨rfl, rfl, rfl, ?_, trivial⟩, ⟨rfl, rfl, rfl, rfl, rfl, rfl, rfl, rfl, trivial⟩, rfl⟩
            show I _ = I _
            congr 1
            unfold gto
            rw [if_pos h66]; omega
          · -- else
            have h66 : ¬ (a + size w a < w.length ∧ kindOf w (a + size w a) = 0) := fun h => by rw [ht3.2 h] at h66; cases h66
            refine c_skip ?_
            refine ⟨(), ⟨rfl, rfl, rfl, ?_, trivial⟩, ⟨rfl, rfl, rfl, rfl, rfl, rfl, rfl, rfl, trivial⟩, rfl⟩
            show I _ = I _
            congr 1
            unfold gto
            rw [if_neg h66]; omega
        rintro _ _ rfl
        refine c_region (by kernel_rfl) ?_   -- region 10
        refine sr 2 rfl ?_
        refine s_op rfl (o_ex loud_n rfl (iGive_c _ _ w a _ hfw.at_ (by omega)) ?_)
        rintro v5 st5 ⟨q5, rfl, hf5⟩ e5
        refine sra rfl ?_
        have hfg := hgl.bd
        have hfb := hbl.bd
        exact ⟨((Go.Proofs.YtmphklmhhcmbnaaGreat.Pure.give w a, gto w a), q5), ⟨rfl, rfl, rfl, trivial⟩, ⟨rfl, rfl, rfl, rfl, rfl, rfl, rfl, rfl, trivial⟩, e5, hf5.le (by have := e23.n; have := he.n; omega), eS.symm, fun j hj => by
          have := hf5.bd j hj
          exact ⟨fun h => by have := hfg j h; omega, fun h => by have := hfb j h; omega⟩⟩
      · -- else
        have hc : ¬ (kindOf w a ≠ 0 ∧ (a : Int) ∉ b) := fun h => by rw [ht2.2 h] at h52; cases h52
        have eS : swp b (w, a) = (w, a + size w a) := by unfold swp; rw [if_neg hc]
        refine c_skip ⟨((w, a + size w a), qr), ⟨rfl, rfl, ?_, trivial⟩, ⟨rfl, rfl, rfl, rfl, rfl, rfl, rfl, rfl, trivial⟩, Ext.refl _ _, hfw, eS.symm, hdd⟩
        show I _ = I _
        congr 1
    rintro ⟨⟨w', e'⟩, qr'⟩ st2 ⟨he2, hf5, eS, hdd'⟩
    dsimp only at *
    refine c_region (by kernel_rfl) ?_   -- region 11
    refine sra rfl ?_
    refine c_region (by kernel_rfl) ?_   -- region 4
    refine sr 1 rfl ?_
    refine s_op rfl (o_ar rfl rfl rfl (by omega) (by omega) ?_)   -- 29 := binOp BinOp.add 3 (tmp 28) (const (Value.int IntKind.i64 1)) 3
    refine sra rfl ?_
    rw [← eS] at hsw' hswl hrun
    dsimp only at hswl
    refine ⟨(k + 1, (w', e'), qr'), ⟨rfl, ?_, trivial⟩, ⟨rfl, rfl, rfl, rfl, rfl, rfl, rfl, rfl, trivial⟩, ⟨he.tr he2, hf5, hsw', by dsimp only; omega, by dsimp only; omega, ?_, hdd'⟩, by dsimp only; omega⟩
    · show AV.int .i64 _ = AV.int .i64 _
      congr 1
    · dsimp only
      rw [show n.toNat - (k + 1) = m by omega]
      exact hrun
  · -- else
    have hfin : runS b n.toNat (l, k0) = (w, a) := by
      rw [← hrun]
      by_cases hk1 : (k : Int) < n
      · exact runS_stop b _ (fun h => by rw [ht.2 ⟨hk1, h⟩] at h27; cases h27)
      · rw [show n.toNat - k = 0 by omega]; rfl
    rw [hfin]
    refine c_exit ?_
    refine c_sj (α := List AV) (fun _ => []) (fun i => [(6, 6, [.sl none 0 0]), (7, 7, [I 0, .sl none 0 0, .sl none 0 0, I 0]), (8, 8, [.sl qr 0 w.length]), (9, 9, i)]) (fun i st' => st1 = st' ∧ i = if a = w.length then [I 0, .sl none 0 0, .sl none 0 0, I 0] else [I 2, .sl qg 0 g.length, .sl qb 0 b.length, I a]) ?_ ?_
    · -- ways that meet
      refine crr (by kernel_rfl) rfl ?_   -- region 12
      refine c_if rfl (fun h85 => ?_) (fun h85 => ?_)
      · -- then
        have h85 := of_decide_eq_true h85
        refine c_region (by kernel_rfl) ?_   -- region 13
        refine sra rfl ?_
        exact ⟨_, trivial, ⟨rfl, rfl, rfl, rfl, rfl, rfl, rfl, rfl, trivial⟩, rfl, by rw [if_pos (by omega)]⟩
      · -- else
        have h85 := of_decide_eq_false h85
        refine c_skip ?_
        exact ⟨_, trivial, ⟨rfl, rfl, rfl, rfl, rfl, rfl, rfl, rfl, trivial⟩, rfl, by rw [if_neg (by omega)]⟩
    rintro i _ ⟨rfl, hi⟩
    by_cases hc : a = w.length
    · rw [if_pos hc] at hi
      subst hi
      refine c_sj (α := Unit) (fun _ => []) (fun _ => [(6, 6, [.sl qr 0 w.length]), (7, 7, [I 0, .sl none 0 0, .sl none 0 0, I 0])]) (fun _ st'' => st1 = st'') ?_ ?_
      · refine c_tr1 [0] [0, 1] 3 (.node [(1, .node [(2, .node [(3, .leaf)])]), (2, .node [(1, .node [(3, .leaf)])])]) (by kernel_rfl) (by kernel_rfl) ?_   -- region 14
        refine sr 1 rfl ?_
        refine s_end ?_
        refine ⟨⟨_, rfl, rfl, ?_⟩, ⟨_, rfl, rfl, ?_⟩, trivial⟩
        all_goals
          refine run2_ok rfl ?_
          refine ⟨⟨_, rfl, rfl, ?_⟩, trivial⟩
          refine run2_ok rfl ?_
          refine ⟨⟨_, rfl, rfl, ?_⟩, trivial⟩
          refine run2_ok rfl ?_
          exact ⟨(), trivial, ⟨rfl, rfl, rfl, rfl, trivial⟩, rfl⟩
      rintro _ _ rfl
      rw [if_pos (show (w, a).2 = (w, a).1.length from hc)]
      exact c_ret (fr rfl ⟨qr, none, none, rfl, hfw, .inl ⟨rfl, rfl⟩, .inl ⟨rfl, rfl⟩, fun i h => (by cases h), fun i _ => ⟨(by intro h; cases h), (by intro h; cases h)⟩⟩)
    · rw [if_neg hc] at hi
      subst hi
      refine c_sj (α := Unit) (fun _ => []) (fun _ => [(6, 6, [.sl qr 0 w.length]), (7, 7, [I 2, .sl qg 0 g.length, .sl qb 0 b.length, I a])]) (fun _ st'' => st1 = st'') ?_ ?_
      · refine c_tr1 [0] [0, 1] 3 (.node [(1, .node [(2, .node [(3, .leaf)])]), (2, .node [(1, .node [(3, .leaf)])])]) (by kernel_rfl) (by kernel_rfl) ?_   -- region 14
        refine sr 1 rfl ?_
        refine s_end ?_
        refine ⟨⟨_, rfl, rfl, ?_⟩, ⟨_, rfl, rfl, ?_⟩, trivial⟩
        all_goals
          refine run2_ok rfl ?_
          refine ⟨⟨_, rfl, rfl, ?_⟩, trivial⟩
          refine run2_ok rfl ?_
          refine ⟨⟨_, rfl, rfl, ?_⟩, trivial⟩
          refine run2_ok rfl ?_
          exact ⟨(), trivial, ⟨rfl, rfl, rfl, rfl, trivial⟩, rfl⟩
      rintro _ _ rfl
      rw [if_neg (show ¬ (w, a).2 = (w, a).1.length from hc)]
      exact c_ret (fr rfl ⟨qr, qg, qb, rfl, hfw, hgl, hbl, hd, hdd⟩)
theorem iSweepStep_c (p q n : Int) (r rg rb : Option Nat) (o : Nat) (l g b : List Int) (st : St) (hx : At st r o l) (hl : l.length ≤ 1048576) (hg : At st rg 0 g) (hb : At st rb 0 b) (hlg : g.length ≤ 536870912) (hlb : b.length ≤ 536870912) (hq : W1 q) (hn : W1 n) :
    ACalls Tryz.prog 25 [.agg [.sl r o l.length], .agg [I p, .sl rg 0 g.length, .sl rb 0 b.length, I q], I n] st No (SwM st.n l p g b q n) := by
  refine ent (N := 28) Tryz.func25 rfl (by decide) rfl rfl rfl ?_
  refine crr (by kernel_rfl) rfl ?_   -- region 0
  refine c_seq ?_
  refine c_rs (by kernel_rfl) ?_   -- region 1
  refine sr 2 rfl ?_
  refine s_op rfl (o_ex loud_n rfl (iMarkerOk_c p q r rg rb o l g b _ hx hl hg hb hlg hlb hq) ?_)
  rintro v1 st1 rfl e1
  refine sra rfl ?_
  refine c_if rfl (fun h11 => ?_) (fun h11 => ?_)
  · -- then
    have h11 := nbt h11
    rw [sw_no n h11]
    refine c_rs (by kernel_rfl) ?_   -- region 2
    refine sr 2 rfl ?_
    refine s_op rfl (o_ex loud_n rfl (copyMarker_c p q rg rb g b _ (hg.ex e1) (hb.ex e1) (by omega) (by omega)) ?_)
    rintro v2 st2 ⟨q1, q2, rfl, hf1, hf2, hd⟩ e2
    refine sra rfl ?_
    exact c_ret (fr rfl ⟨none, q1, q2, rfl, .inl ⟨rfl, rfl⟩, hf1.le e1.n, hf2.le e1.n, hd, fun i h => (by cases h)⟩)
  · -- else
    have h11 := nbf h11
    have hlen := okB_len h11.ok
    refine c_skip ?_
    refine c_seq ?_
    refine crr (by kernel_rfl) rfl ?_   -- region 3
    refine c_if rfl (fun h17 => ?_) (fun h17 => ?_)
    · -- then
      have h17 := ndt h17
      rw [sw_ne n h11 h17]
      refine cdt [0, 2, 1, 3, 4, 5] [.q, .q, .f, .f, .n, .n] (by kernel_rfl) (by kernel_rfl) ?_   -- region 4
      refine sr 2 rfl ?_
      refine s_op rfl (o_ex loud_f rfl (copySlab_c _ _ _ _ (hx.ex e1) (by omega)) ?_)
      rintro v2 st2 ⟨r2, rfl, hf2⟩ e2
      refine s_op rfl (o_ex loud_f rfl (copyMarker_c p q rg rb g b _ ((hg.ex e1).ex e2) ((hb.ex e1).ex e2) (by omega) (by omega)) ?_)
      rintro v3 st3 ⟨q1, q2, rfl, hf3, hf4, hd⟩ e3
      refine sra rfl ?_
      refine c_ret (fr rfl ⟨r2, q1, q2, rfl, (hf2.le e1.n).ex e3, hf3.le (e1.tr e2).n, hf4.le (e1.tr e2).n, hd, fun i h => ?_⟩)
      have h2 := hf2.bd i h
      exact ⟨fun h' => by have := hf3.bd i h'; omega, fun h' => by have := hf4.bd i h'; omega⟩
    · -- else
      have h17 := ndf h17
      subst h17
      refine c_skip ?_
      refine c_rs (by kernel_rfl) ?_   -- region 5
      refine sr 3 rfl ?_
      refine s_op rfl (o_ex loud_n rfl (sweepStep_c q n r rg rb o l g b _ (hx.ex e1) h11 (hg.ex e1) (hb.ex e1) hlg hlb hn) ?_)
      rintro v3 st3 h3 e3
      obtain ⟨x1, x2, x3, rfl, h4⟩ := h3
      refine sra rfl ?_
      exact c_ret (fr rfl (Sm.le (n1 := st.n) ⟨x1, x2, x3, rfl, h4⟩ e1.n))
end
end Go.Proofs.YtmphklmhhcmbnaaGreatW.Ax
