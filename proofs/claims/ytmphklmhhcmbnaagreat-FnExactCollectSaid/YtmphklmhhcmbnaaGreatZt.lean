/- Sweeping step by step: the reference's walks. -/
import Derived.Test.YtmphklmhhcmbnaaGreatZp
import Derived.Test.YtmphklmhhcmbnaaGreatYd
import Derived.Test.YtmphklmhhcmbnaaGreatMf
import Derived.Test.YtmphklmhhcmbnaaGreatXC
import Derived.Test.YtmphklmhhcmbnaaGreatXD
namespace Go.Proofs.YtmphklmhhcmbnaaGreatW.Ax
open Go Go.RowKit Go.Proofs Go.Proofs.YtmphklmhhcmbnaaGreat.Pure
set_option linter.unusedVariables false
set_option maxRecDepth 100000

theorem l9Behind_c (r : Option Nat) (o : Nat) (l : List Int) (a c : Nat) (st : St) (hx : At st r o l) (hok : okB l = true) (hc : (c : Int) ∈ blocks l) (h1 : c ≤ a) (h2 : a < c + size l c) :
    ACalls Tryz.prog 58 [.agg [.sl r o l.length], I a] st No (Pure1 (I (c + size l c : Nat)) st) := by
  have hlen := okB_len hok
  obtain ⟨c', e, hcl, hhc⟩ := blocks_mem hc
  obtain rfl : c = c' := by omega
  have hsc := size_pos hhc
  refine ent (N := 18) Tryz.func58 rfl (by decide) rfl rfl rfl ?_
  refine crr (by kernel_rfl) rfl ?_   -- region 0
  refine crr (by kernel_rfl) rfl ?_   -- region 1
  refine c_seq ?_
  refine c_block ?_
  refine c_lp (α := Nat × List Int) (fun i => [(1, I a), (5, I i.1)]) (fun i => [(2, 2, [.sl r o l.length])]) (fun i st' => st = st' ∧ walk l i.1 = some i.2 ∧ ((c : Int) ∈ i.2 ∨ i.1 = c + size l c)) (fun i => l.length - i.1) (0, blocks l) ⟨rfl, rfl, trivial⟩ ⟨rfl, rfl, trivial⟩ ⟨rfl, (blocks_of hok).2, .inl hc⟩ ?_
  rintro ⟨k, rest⟩ st' ⟨rfl, hw, hor⟩
  dsimp only at *
  refine c_seq ?_
  refine crr (by kernel_rfl) rfl ?_   -- region 2
  refine c_if rfl (fun h8 => ?_) (fun h8 => ?_)
  · -- then
    have h8 := of_decide_eq_true h8
    have hcr : (c : Int) ∈ rest := by
      rcases hor with h | h
      · exact h
      · omega
    have hk : k < l.length := by omega
    obtain ⟨hhk, r', rfl, hw'⟩ := walk_cons hw hk
    have hsk := size_pos hhk
    have hsek := size_eq hhk
    refine c_skip ?_
    refine c_block ?_
    refine c_region (by kernel_rfl) ?_   -- region 3
    refine sr 4 rfl ?_
    refine s_op rfl (oidx rfl rfl rfl (by omega) (by omega) ?_)   -- 13 := indexAddr 22 (tmp 11) (tmp 12)
    refine s_op rfl (old rfl rfl (hx.rd (by omega) (by omega)) ?_)   -- 14 := load 3 (tmp 13)
    refine s_op rfl (o_pure loud_n rfl (l2Size_c ..) ?_)
    rw [← hsek]
    refine s_op rfl (o_ar rfl rfl rfl (by omega) (by omega) ?_)   -- 16 := binOp BinOp.add 3 (tmp 9) (tmp 15) 3
    refine sra rfl ?_
    refine ⟨(k + size l k, r'), ⟨rfl, ?_, trivial⟩, ⟨rfl, rfl, trivial⟩, ⟨rfl, hw', ?_⟩, by dsimp only; omega⟩
    · show AV.int .i64 _ = AV.int .i64 _
      congr 1
    · rcases List.mem_cons.1 hcr with e | e
      · right; dsimp only
        obtain rfl : c = k := by omega
        rfl
      · exact .inl e
  · -- else
    have h8 := of_decide_eq_false h8
    have hk : k = c + size l c := by
      rcases hor with h | h
      · have := walk_ge hw h
        omega
      · exact h
    subst hk
    refine c_exit ?_
    refine crr (by kernel_rfl) rfl ?_   -- region 4
    exact c_ret (fr rfl ⟨rfl, rfl⟩)

/-- What is told of a marker that sweeps: the zero one at the end. -/
def endM (p : Int) (rg rb : Option Nat) (g b : List Int) (n q : Nat) : AV := if q = n then .agg [I 0, .sl none 0 0, .sl none 0 0, I 0] else .agg [I p, .sl rg 0 g.length, .sl rb 0 b.length, I q]
def Gt (n0 : Nat) (st : St) (r : Option Nat) (s : List Int × Nat) (p : Int) (rg rb : Option Nat) (g b : List Int) : AV → St → Prop := fun v st' => v = .tup [.agg [.sl r 0 s.1.length], endM p rg rb g b s.1.length s.2] ∧ Fr n0 st' r s.1 ∧ Ext (fun i => r = some i) st st'
theorem l9Step_c (n0 : Nat) (r rg rb : Option Nat) (l g b : List Int) (q : Nat) (p n : Int) (st : St) (hf : Fr n0 st r l) (hs : SwAt (l, q)) (hb : At st rb 0 b) (hd : ∀ i, r = some i → rb ≠ some i) (hlb : b.length ≤ 1073741824) (hn : W1 n) :
    ACalls Tryz.prog 35 [.agg [.sl r 0 l.length], .agg [I p, .sl rg 0 g.length, .sl rb 0 b.length, I q], I n] st (fun i => r = some i) (Gt n0 st r (runS b n.toNat (l, q)) p rg rb g b) := by
  have hlen := okB_len hs.1
  unfold W1 at hn
  refine ent (N := 57) Tryz.func35 rfl (by decide) rfl rfl rfl ?_
  refine crr (by kernel_rfl) rfl ?_   -- region 0
  refine c_seq ?_
  refine crr (by kernel_rfl) rfl ?_   -- region 1
  refine c_block ?_
  refine c_lp (α := Nat × (List Int × Nat)) (fun i => [(2, I n), (8, I i.1)]) (fun i => [(3, 3, [.sl r 0 i.2.1.length]), (4, 4, [I p, .sl rg 0 g.length, .sl rb 0 b.length, I i.2.2]), (6, 6, [.sl none 0 0]), (7, 7, [I 0, .sl none 0 0, .sl none 0 0, I 0])])
    (fun i st' => Ext (fun i => r = some i) st st' ∧ Fr n0 st' r i.2.1 ∧ SwAt i.2 ∧ i.2.1.length = l.length ∧ i.1 ≤ n.toNat ∧ runS b (n.toNat - i.1) i.2 = runS b n.toNat (l, q)) (fun i => n.toNat - i.1) (0, (l, q)) ⟨rfl, rfl, trivial⟩ ⟨rfl, rfl, rfl, rfl, rfl, rfl, rfl, rfl, trivial⟩ ⟨Ext.refl _ _, hf, hs, rfl, Nat.zero_le _, rfl⟩ ?_
  rintro ⟨k, w, a⟩ st1 ⟨he, hfw, hsw, hwl, hkn, hrun⟩
  dsimp only at *
  have hal := hsw.le
  dsimp only at hal
  refine c_seq ?_
  refine c_sj (α := Bool) (fun t => [(2, I n), (8, I k), (19, .bool t)]) (fun _ => [(3, 3, [.sl r 0 w.length]), (4, 4, [I p, .sl rg 0 g.length, .sl rb 0 b.length, I a]), (6, 6, [.sl none 0 0]), (7, 7, [I 0, .sl none 0 0, .sl none 0 0, I 0])]) (fun t st' => st1 = st' ∧ (t = true ↔ (k : Int) < n ∧ a < w.length)) ?_ ?_
  · -- region 2
    refine c_region (by kernel_rfl) ?_
    refine sr 4 rfl ?_
    refine s_bool 12 rfl rfl (fun h12 => ?_) (fun h12 => ?_)
    · -- slot 12 true
      have h12 := of_decide_eq_true h12
      refine sra rfl ⟨_, ⟨rfl, rfl, rfl, trivial⟩, ⟨rfl, rfl, rfl, rfl, rfl, rfl, rfl, rfl, trivial⟩, rfl, ?_⟩
      simp only [cond_true, decide_eq_true_eq]
      omega
    · -- slot 12 false
      have h12 := of_decide_eq_false h12
      exact sra rfl ⟨false, ⟨rfl, rfl, rfl, trivial⟩, ⟨rfl, rfl, rfl, rfl, rfl, rfl, rfl, rfl, trivial⟩, rfl, fun h => (by cases h), fun h => absurd h.1 h12⟩
  rintro t _ ⟨rfl, ht⟩
  refine c_if rfl (fun h19 => ?_) (fun h19 => ?_)
  · -- then
    obtain ⟨hk1, ha1⟩ := ht.1 h19
    have hm := hsw.mem ha1
    dsimp only at hm
    obtain ⟨a', ea, _, hha⟩ := blocks_mem hm
    obtain rfl : a = a' := by omega
    have hsa := size_pos hha
    have hx := hfw.at_
    have hbl : At st1 rb 0 b := hb.ext he fun i hi h => hd i h hi
    have hdec : ∃ m, n.toNat - k = m + 1 := ⟨n.toNat - k - 1, by omega⟩
    obtain ⟨m, hm1⟩ := hdec
    rw [hm1, runS, if_pos ha1] at hrun
    obtain ⟨hsw', hswl⟩ := hsw.swp ha1 b
    dsimp only at hswl
    refine c_skip ?_
    refine c_seq ?_
    refine c_block ?_
    refine c_sj (α := List Int) (fun w' => [(2, I n), (8, I k)]) (fun w' => [(3, 3, [.sl r 0 w'.length]), (4, 4, [I p, .sl rg 0 g.length, .sl rb 0 b.length, I a]), (6, 6, [.sl none 0 0]), (7, 7, [I 0, .sl none 0 0, .sl none 0 0, I 0])])
      (fun w' st' => Ext (fun i => r = some i) st1 st' ∧ Fr n0 st' r w' ∧ w' = (swp b (w, a)).1 ∧ ∃ c : Nat, (c : Int) ∈ blocks w' ∧ c ≤ a ∧ a < c + size w' c ∧ c + size w' c = (swp b (w, a)).2) ?_ ?_
    · -- ways that meet
      refine c_sj (α := Bool) (fun t => [(2, I n), (8, I k), (37, .bool t)]) (fun _ => [(3, 3, [.sl r 0 w.length]), (4, 4, [I p, .sl rg 0 g.length, .sl rb 0 b.length, I a]), (6, 6, [.sl none 0 0]), (7, 7, [I 0, .sl none 0 0, .sl none 0 0, I 0])]) (fun t st' => st1 = st' ∧ (t = true ↔ kindOf w a ≠ 0 ∧ (a : Int) ∉ b)) ?_ ?_
      · -- region 4
        refine c_region (by kernel_rfl) ?_
        refine sr 4 rfl ?_
        refine s_op rfl (oidx rfl rfl rfl (by omega) (by omega) ?_)   -- 26 := indexAddr 22 (tmp 23) (tmp 25)
        refine s_op rfl (old rfl rfl (hx.rd (by omega) (by omega)) ?_)   -- 27 := load 3 (tmp 26)
        refine s_op rfl (o_pure loud_n rfl (l2Kind_c ..) ?_)
        rw [rd_kind]
        refine sr 2 rfl ?_
        refine s_bool 30 rfl rfl (fun h30 => ?_) (fun h30 => ?_)
        · -- slot 30 true
          have h30 := ndt h30
          refine sr 4 rfl ?_
          refine s_op rfl (o_pure loud_n rfl (l7In_c _ _ _ _ _ hbl (by omega)) ?_)
          refine sra rfl ⟨_, ⟨rfl, rfl, rfl, trivial⟩, ⟨rfl, rfl, rfl, rfl, rfl, rfl, rfl, rfl, trivial⟩, rfl, ?_⟩
          exact ⟨fun h => ⟨h30, nbt h⟩, fun h => (by rw [bdf.2 h.2]; rfl)⟩
        · -- slot 30 false
          have h30 := ndf h30
          exact sra rfl ⟨false, ⟨rfl, rfl, rfl, trivial⟩, ⟨rfl, rfl, rfl, rfl, rfl, rfl, rfl, rfl, trivial⟩, rfl, fun h => (by cases h), fun h => absurd h30 h.1⟩
      rintro t2 _ ⟨rfl, ht2⟩
      refine c_if rfl (fun h37 => ?_) (fun h37 => ?_)
      · -- then
        have hc := ht2.1 h37
        have eS : swp b (w, a) = (Go.Proofs.YtmphklmhhcmbnaaGreat.Pure.give w a, gto w a) := by unfold swp; rw [if_pos hc]
        have eG : Go.Proofs.YtmphklmhhcmbnaaGreat.Pure.give w a = free w (gfr w a a (blocks w)).toNat (gto w (a : Int).toNat) := by rw [Go.Proofs.YtmphklmhhcmbnaaGreat.Pure.give, if_pos ⟨hm, by rw [Int.toNat_natCast]; exact hc.1⟩]
        refine c_region (by kernel_rfl) ?_   -- region 5
        refine sr 3 rfl ?_
        refine s_op rfl (o_call rfl (l2Give_c n0 r w a st1 hfw hsw.1 hm) (fun _ _ h => h) (.inl rfl) ?_)
        rintro v3 st3 ⟨rfl, hf3, he3⟩ _
        rw [← eG] at hf3 ⊢
        refine sra rfl ?_
        obtain ⟨g1, g2, g3, g4, f, g5, g6, g7⟩ := give_at (l := w) hsw.1 hm hc.1
        refine ⟨Go.Proofs.YtmphklmhhcmbnaaGreat.Pure.give w a, ⟨rfl, rfl, trivial⟩, ⟨rfl, rfl, rfl, rfl, rfl, rfl, rfl, rfl, trivial⟩, he3, hf3, by rw [eS], f, g5, g6, ?_, by rw [eS]; exact g7⟩
        omega
      · -- else
        have hc : ¬ (kindOf w a ≠ 0 ∧ (a : Int) ∉ b) := fun h => by rw [ht2.2 h] at h37; cases h37
        have eS : swp b (w, a) = (w, a + size w a) := by unfold swp; rw [if_neg hc]
        exact c_skip ⟨w, ⟨rfl, rfl, trivial⟩, ⟨rfl, rfl, rfl, rfl, rfl, rfl, rfl, rfl, trivial⟩, Ext.refl _ _, hfw, by rw [eS], a, hm, Nat.le_refl _, by omega, by rw [eS]⟩
    rintro w' st2 ⟨he2, hf2, rfl, c, hc1, hc2, hc3, hc4⟩
    refine c_region (by kernel_rfl) ?_   -- region 6
    refine sr 3 rfl ?_
    refine s_op rfl (o_pure loud_n rfl (l9Behind_c _ _ _ a c _ hf2.at_ hsw'.1 hc1 hc2 hc3) ?_)
    rw [hc4]
    refine sra rfl ?_
    refine c_region (by kernel_rfl) ?_   -- region 3
    refine sr 1 rfl ?_
    refine s_op rfl (o_ar rfl rfl rfl (by omega) (by omega) ?_)   -- 21 := binOp BinOp.add 3 (tmp 20) (const (Value.int IntKind.i64 1)) 3
    refine sra rfl ?_
    refine ⟨(k + 1, swp b (w, a)), ⟨rfl, ?_, trivial⟩, ⟨rfl, rfl, rfl, rfl, rfl, rfl, rfl, rfl, trivial⟩, ⟨he.trans he2 (fun _ _ h => h), hf2, hsw', by dsimp only; omega, by dsimp only; omega, ?_⟩, by dsimp only; omega⟩
    · show AV.int .i64 _ = AV.int .i64 _
      congr 1
    · dsimp only
      rw [show n.toNat - (k + 1) = m by omega]
      exact hrun
  · -- else
    have hfin : runS b n.toNat (l, q) = (w, a) := by
      rw [← hrun]
      by_cases hk1 : (k : Int) < n
      · exact runS_stop b _ (fun h => by rw [ht.2 ⟨hk1, h⟩] at h19; cases h19)
      · rw [show n.toNat - k = 0 by omega]; rfl
    rw [hfin]
    refine c_exit ?_
    refine c_seq ?_
    refine crr (by kernel_rfl) rfl ?_   -- region 7
    refine c_if rfl (fun h52 => ?_) (fun h52 => ?_)
    · -- then
      have h52 := of_decide_eq_true h52
      refine crr (by kernel_rfl) rfl ?_   -- region 8
      refine c_ret (fr rfl ⟨?_, hfw, he⟩)
      rw [endM, if_pos (by dsimp only; omega)]
    · -- else
      have h52 := of_decide_eq_false h52
      refine c_skip ?_
      refine c_sj (α := Unit) (fun _ => []) (fun _ => [(6, 6, [.sl r 0 w.length]), (7, 7, [I p, .sl rg 0 g.length, .sl rb 0 b.length, I a])]) (fun _ st' => st1 = st') ?_ ?_
      · refine c_tr1 [0] [0, 1] 3 (.node [(1, .node [(2, .node [(3, .leaf)])]), (2, .node [(1, .node [(3, .leaf)])])]) (by kernel_rfl) (by kernel_rfl) ?_   -- region 9
        refine sr 1 rfl ?_
        refine s_end ?_
        refine ⟨⟨_, rfl, rfl, ?_⟩, ⟨_, rfl, rfl, ?_⟩, trivial⟩
        all_goals
          refine run2_ok rfl ?_
          refine ⟨⟨_, rfl, rfl, ?_⟩, trivial⟩
          refine run2_ok rfl ?_
          refine ⟨⟨_, rfl, rfl, ?_⟩, trivial⟩
          refine run2_ok rfl ?_
          exact ⟨(), trivial, ⟨rfl, rfl, rfl, rfl, trivial⟩, rfl⟩
      rintro _ _ rfl
      refine c_ret (fr rfl ⟨?_, hfw, he⟩)
      rw [endM, if_neg (by dsimp only; omega)]
end Go.Proofs.YtmphklmhhcmbnaaGreatW.Ax
