/- Give, walked: the reference's and the program's. -/
import Derived.Test.YtfhkjhnaihhdmaaGreatYc
import Derived.Test.YtfhkjhnaihhdmaaGreatMA
namespace Go.Proofs.YtfhkjhnaihhdmaaGreatW.Ax
open Go Go.RowKit Go.Proofs Go.Proofs.YtfhkjhnaihhdmaaGreat.Pure
set_option linter.unusedVariables false
set_option maxRecDepth 100000

/-- The slab's own row has been turned; nothing else. -/
def Gv (n0 : Nat) (st : St) (r : Option Nat) (l : List Int) : AV → St → Prop := fun v st' => v = .agg [.sl r 0 l.length] ∧ Fr n0 st' r l ∧ Ext (fun i => r = some i) st st'
theorem zero_set (l : List Int) (f k : Nat) (hf : f ≤ k) (hk : k < l.length) : (l.take f ++ List.replicate (k - f) 0 ++ l.drop k).set k 0 = l.take f ++ List.replicate (k + 1 - f) 0 ++ l.drop (k + 1) := by
  have e1 : (l.take f ++ List.replicate (k - f) (0 : Int)).length = k := by simp; omega
  rw [List.set_append, if_neg (by omega), e1, Nat.sub_self, List.drop_eq_getElem_cons hk, List.set_cons_zero, show k + 1 - f = (k - f) + 1 by omega, List.replicate_succ']
  simp
theorem gfr_le {l : List Int} {a : Int} : ∀ (r : List Int) (f : Int), f ≤ a → gfr l a f r ≤ a
  | [], f, h => by simpa [gfr] using h
  | b :: r, f, h => by
    unfold gfr
    split
    · refine gfr_le r _ ?_
      split <;> omega
    · exact h

theorem l2Give_c (n0 : Nat) (r : Option Nat) (l : List Int) (a : Int) (st : St) (hf : Fr n0 st r l) (hok : okB l = true) (ha : a ∈ blocks l) :
    ACalls Tryz.prog 218 [.agg [.sl r 0 l.length], I a] st (fun i => r = some i) (Gv n0 st r (free l (gfr l a a (blocks l)).toNat (gto l a.toNat))) := by
  have hlen := okB_len hok
  have hb := (blocks_of hok).2
  obtain ⟨n, rfl, hn, hh⟩ := blocks_mem ha
  have hs := size_pos hh
  have hse := size_eq hh
  have hgt := gto_le ha
  have hnx : n + size l n < l.length → headOk l (n + size l n) := fun h => walk_next l.length (by omega) hb ha h
  rw [Int.toNat_natCast]
  have hx := hf.at_
  refine ent (N := 90) Tryz.func218 rfl (by decide) rfl rfl rfl ?_
  refine crr (by kernel_rfl) rfl ?_   -- region 0
  refine c_rs (by kernel_rfl) ?_   -- region 1
  refine sr 5 rfl ?_
  refine s_op rfl (oidx rfl rfl rfl (by omega) (by omega) ?_)   -- 14 := indexAddr 22 (tmp 12) (tmp 13)
  refine s_op rfl (old rfl rfl (hx.rd (by omega) (by omega)) ?_)   -- 15 := load 3 (tmp 14)
  refine s_op rfl (o_pure loud_n rfl (l2Size_c ..) ?_)
  refine s_op rfl (o_ar rfl rfl rfl (by omega) (by omega) ?_)   -- 17 := binOp BinOp.add 3 (tmp 10) (tmp 16) 3
  refine sra rfl ?_
  refine c_sj (fun _ : Unit => [(1, I n), (5, I n), (6, I (gto l n : Nat))]) (fun _ => [(2, 2, [.sl r 0 l.length]), (4, 4, [.sl none 0 0])]) (fun _ st' => st = st') ?_ ?_
  · refine c_rj [(1, I n), (5, I n), (6, I ((n : Int) + size l n)), (31, .bool (decide (n + size l n < l.length ∧ kindOf l (n + size l n) = 0)))] [(2, 2, [.sl r 0 l.length]), (4, 4, [.sl none 0 0])] (by kernel_rfl) ?_ ?_   -- region 2
    · refine sr 6 rfl ?_
      refine s_bool 23 rfl rfl (fun h23 => ?_) (fun h23 => ?_)
      · -- slot 23 true
        have h23 := of_decide_eq_true h23
        refine sr 3 rfl ?_
        refine s_op rfl (oidx rfl rfl rfl (by omega) (by omega) ?_)   -- 27 := indexAddr 22 (tmp 25) (tmp 26)
        refine s_op rfl (old rfl rfl (hx.rd (by omega) (by omega)) ?_)   -- 28 := load 3 (tmp 27)
        refine s_op rfl (o_pure loud_n rfl (l2Kind_c ..) ?_)
        refine sra rfl ⟨⟨rfl, rfl, ?_, ?_, trivial⟩, ⟨rfl, rfl, rfl, rfl, trivial⟩, rfl⟩
        · show AV.int .i64 _ = AV.int .i64 _
          rw [hse]
        · have e : (n : Int) + rd l n / 8 = ((n + size l n : Nat) : Int) := by omega
          have h : n + size l n < l.length := by omega
          show AV.bool (decide _) = AV.bool (decide _)
          rw [e, rd_kind]
          congr 1
          exact decide_eq_decide.2 ⟨fun hk => ⟨h, hk⟩, fun hk => hk.2⟩
      · have h23 := of_decide_eq_false h23
        refine sra rfl ⟨⟨rfl, rfl, ?_, ?_, trivial⟩, ⟨rfl, rfl, rfl, rfl, trivial⟩, rfl⟩
        · show AV.int .i64 _ = AV.int .i64 _
          rw [hse]
        · show AV.bool false = AV.bool _
          rw [decide_eq_false (by omega)]
    refine c_if rfl (fun h31 => ?_) (fun h31 => ?_)
    · -- then
      have h31 := of_decide_eq_true h31
      have hh2 := hnx h31.1
      have hs2 := size_pos hh2
      have hse2 := size_eq hh2
      have e : (n : Int) + size l n = ((n + size l n : Nat) : Int) := by omega
      refine c_region (by kernel_rfl) ?_   -- region 3
      refine sr 4 rfl ?_
      refine s_op rfl (oidx rfl rfl rfl (by omega) (by omega) ?_)   -- 36 := indexAddr 22 (tmp 34) (tmp 35)
      refine s_op rfl (old rfl rfl (hx.rd (by omega) (by omega)) ?_)   -- 37 := load 3 (tmp 36)
      refine s_op rfl (o_pure loud_n rfl (l2Size_c ..) ?_)
      rw [e, ← hse2]
      refine s_op rfl (o_ar rfl rfl rfl (by omega) (by omega) ?_)   -- 39 := binOp BinOp.add 3 (tmp 32) (tmp 38) 3
      refine sra rfl ⟨(), ⟨rfl, rfl, ?_, trivial⟩, ⟨rfl, rfl, rfl, rfl, trivial⟩, rfl⟩
      show AV.int .i64 _ = AV.int .i64 _
      congr 1
      rw [gto, if_pos h31]; omega
    · have h31 := of_decide_eq_false h31
      refine c_skip ⟨(), ⟨rfl, rfl, ?_, trivial⟩, ⟨rfl, rfl, rfl, rfl, trivial⟩, rfl⟩
      show AV.int .i64 _ = AV.int .i64 _
      congr 1
      rw [gto, if_neg h31]; omega
  rintro _ st' rfl
  refine c_seq ?_
  refine crr (by kernel_rfl) rfl ?_   -- region 4
  refine c_block ?_
  refine c_lp (α := Nat × List Int × Int) (fun i => [(1, I n), (5, I i.2.2), (6, I (gto l n : Nat)), (7, I i.1)]) (fun _ => [(2, 2, [.sl r 0 l.length]), (4, 4, [.sl none 0 0])])
    (fun i st' => st = st' ∧ i.1 ≤ l.length ∧ walk l i.1 = some i.2.1 ∧ gfr l n i.2.2 i.2.1 = gfr l n n (blocks l) ∧ 0 ≤ i.2.2 ∧ i.2.2 ≤ n) (fun i => l.length - i.1) (0, blocks l, (n : Int)) ⟨rfl, rfl, rfl, rfl, trivial⟩ ⟨rfl, rfl, rfl, rfl, trivial⟩ ⟨rfl, by omega, hb, rfl, by dsimp only; omega, by dsimp only; omega⟩ ?_
  rintro ⟨k, rest, f⟩ st' ⟨rfl, hk, hw, hg, hf0, hfn⟩
  dsimp only at *
  refine c_seq ?_
  refine crr (by kernel_rfl) rfl ?_   -- region 5
  refine c_if rfl (fun h42 => ?_) (fun h42 => ?_)
  · -- then
    have h42 := of_decide_eq_true h42
    obtain ⟨hhk, r', rfl, hw'⟩ := walk_cons hw (by omega)
    have hsk := size_pos hhk
    have hsek := size_eq hhk
    refine c_skip ?_
    refine c_sj (fun f' : Int => [(1, I n), (5, I f'), (6, I (gto l n : Nat)), (7, I k)]) (fun _ => [(2, 2, [.sl r 0 l.length]), (4, 4, [.sl none 0 0])]) (fun f' st' => st = st' ∧ f' = if (k : Int) + size l k = n ∧ kindOf l k = 0 then (k : Int) else f) ?_ ?_
    · refine c_block ?_
      refine c_rj [(1, I n), (5, I f), (6, I (gto l n : Nat)), (7, I k), (69, .bool (decide ((k : Int) + size l k = n ∧ kindOf l k = 0)))] [(2, 2, [.sl r 0 l.length]), (4, 4, [.sl none 0 0])] (by kernel_rfl) ?_ ?_   -- region 7
      · refine sr 4 rfl ?_
        refine s_op rfl (oidx rfl rfl rfl (by omega) (by omega) ?_)   -- 55 := indexAddr 22 (tmp 53) (tmp 54)
        refine s_op rfl (old rfl rfl (hx.rd (by omega) (by omega)) ?_)   -- 56 := load 3 (tmp 55)
        refine s_op rfl (o_pure loud_n rfl (l2Size_c ..) ?_)
        rw [← hsek]
        refine s_op rfl (o_ar rfl rfl rfl (by omega) (by omega) ?_)   -- 58 := binOp BinOp.add 3 (tmp 51) (tmp 57) 3
        refine sr 3 rfl ?_
        refine s_bool 61 rfl rfl (fun h61 => ?_) (fun h61 => ?_)
        · have h61 := of_decide_eq_true h61
          refine sr 3 rfl ?_
          refine s_op rfl (oidx rfl rfl rfl (by omega) (by omega) ?_)   -- 65 := indexAddr 22 (tmp 63) (tmp 64)
          refine s_op rfl (old rfl rfl (hx.rd (by omega) (by omega)) ?_)   -- 66 := load 3 (tmp 65)
          refine s_op rfl (o_pure loud_n rfl (l2Kind_c ..) ?_)
          refine sra rfl ⟨⟨rfl, rfl, rfl, rfl, ?_, trivial⟩, ⟨rfl, rfl, rfl, rfl, trivial⟩, rfl⟩
          show AV.bool (decide _) = AV.bool (decide _)
          rw [rd_kind]
          congr 1
          exact decide_eq_decide.2 ⟨fun hk => ⟨h61, hk⟩, fun hk => hk.2⟩
        · have h61 := of_decide_eq_false h61
          refine sra rfl ⟨⟨rfl, rfl, rfl, rfl, ?_, trivial⟩, ⟨rfl, rfl, rfl, rfl, trivial⟩, rfl⟩
          show AV.bool false = AV.bool _
          rw [decide_eq_false (fun h => h61 h.1)]
      refine c_if rfl (fun h69 => ?_) (fun h69 => ?_)
      · have h69 := of_decide_eq_true h69
        refine c_region (by kernel_rfl) ?_   -- region 8
        exact sra rfl ⟨(k : Int), ⟨rfl, rfl, rfl, rfl, trivial⟩, ⟨rfl, rfl, rfl, rfl, trivial⟩, rfl, by rw [if_pos h69]⟩
      · have h69 := of_decide_eq_false h69
        exact c_skip ⟨f, ⟨rfl, rfl, rfl, rfl, trivial⟩, ⟨rfl, rfl, rfl, rfl, trivial⟩, rfl, by rw [if_neg h69]⟩
    rintro f' st' ⟨rfl, hf'⟩
    refine c_region (by kernel_rfl) ?_   -- region 6
    refine sr 4 rfl ?_
    refine s_op rfl (oidx rfl rfl rfl (by omega) (by omega) ?_)   -- 47 := indexAddr 22 (tmp 45) (tmp 46)
    refine s_op rfl (old rfl rfl (hx.rd (by omega) (by omega)) ?_)   -- 48 := load 3 (tmp 47)
    refine s_op rfl (o_pure loud_n rfl (l2Size_c ..) ?_)
    refine s_op rfl (o_ar rfl rfl rfl (by omega) (by omega) ?_)   -- 50 := binOp BinOp.add 3 (tmp 43) (tmp 49) 3
    refine sra rfl ?_
    refine ⟨(k + size l k, r', f'), ⟨rfl, rfl, rfl, ?_, trivial⟩, ⟨rfl, rfl, rfl, rfl, trivial⟩, ⟨rfl, by dsimp only; omega, hw', ?_, ?_, ?_⟩, by dsimp only; omega⟩
    · show AV.int .i64 _ = AV.int .i64 _
      congr 1; omega
    · dsimp only
      rw [← hg, gfr, if_pos h42, Int.toNat_natCast, ← hf']
    · dsimp only; rw [hf']; split <;> omega
    · dsimp only; rw [hf']; split <;> omega
  · -- else
    have h42 := of_decide_eq_false h42
    have hgf : gfr l n f rest = f := by
      by_cases h : k < l.length
      · obtain ⟨_, r', rfl, _⟩ := walk_cons hw h
        rw [gfr, if_neg h42]
      · rw [walk_nil hw (by omega)]; rfl
    rw [hgf] at hg
    rw [← hg]
    obtain ⟨g, rfl⟩ : ∃ g : Nat, f = g := ⟨f.toNat, by omega⟩
    rw [Int.toNat_natCast]
    refine c_exit ?_
    refine c_seq ?_
    refine crr (by kernel_rfl) rfl ?_   -- region 9
    refine c_block ?_
    refine c_lp (α := Nat) (fun i => [(5, I g), (6, I (gto l n : Nat)), (8, I i)]) (fun _ => [(2, 2, [.sl r 0 l.length]), (4, 4, [.sl none 0 0])])
      (fun i st' => Ext (fun i => r = some i) st st' ∧ g ≤ i ∧ i ≤ gto l n ∧ Fr n0 st' r (l.take g ++ List.replicate (i - g) 0 ++ l.drop i)) (fun i => gto l n - i) g ⟨rfl, rfl, rfl, trivial⟩ ⟨rfl, rfl, rfl, rfl, trivial⟩ ⟨Ext.refl _ _, by omega, by omega, by simpa using hf⟩ ?_
    rintro i st' ⟨he, hgi, hit, hfi⟩
    refine c_seq ?_
    refine crr (by kernel_rfl) rfl ?_   -- region 10
    refine c_if rfl (fun h74 => ?_) (fun h74 => ?_)
    · -- then
      have h74 := of_decide_eq_true h74
      have hne : l.take g ++ List.replicate (i - g) 0 ++ l.drop i ≠ [] := fun h => by have := congrArg List.length h; simp at this; omega
      obtain ⟨q, rfl⟩ := hfi.some_of hne
      refine c_skip ?_
      refine c_seq ?_
      refine c_block ?_
      refine c_region (by kernel_rfl) ?_   -- region 12
      refine sr 3 rfl ?_
      refine s_op rfl (oidx rfl rfl rfl (by omega) (by omega) ?_)   -- 80 := indexAddr 22 (tmp 78) (tmp 79)
      refine s_op rfl (ostI rfl rfl hfi.ob.2 (fun _ => rfl) rfl rfl (by simp; omega) ?_)
      refine s_end ?_
      refine c_region (by kernel_rfl) ?_   -- region 11
      refine sr 1 rfl ?_
      refine s_op rfl (o_ar rfl rfl rfl (by omega) (by omega) ?_)   -- 76 := binOp BinOp.add 3 (tmp 75) (const (Value.int IntKind.i64 1)) 3
      refine sra rfl ?_
      refine ⟨i + 1, ⟨rfl, rfl, ?_, trivial⟩, ⟨rfl, rfl, rfl, rfl, trivial⟩, ⟨he.trans (T' := (· = q)) (ext_set _ _ _) (fun _ _ h => by rw [h]), by omega, by omega, ?_⟩, by omega⟩
      · show AV.int .i64 _ = AV.int .i64 _
        congr 1
      · rw [← zero_set l g i hgi (by omega)]
        have := hfi.set (l' := (l.take g ++ List.replicate (i - g) 0 ++ l.drop i).set i 0)
        simpa using this
    · -- else
      have h74 := of_decide_eq_false h74
      have hi : i = gto l n := by omega
      subst hi
      have hne : l.take g ++ List.replicate (gto l n - g) 0 ++ l.drop (gto l n) ≠ [] := fun h => by have := congrArg List.length h; simp at this; omega
      obtain ⟨q, rfl⟩ := hfi.some_of hne
      refine c_exit ?_
      refine c_rs (by kernel_rfl) ?_   -- region 13
      refine sr 5 rfl ?_
      refine s_op rfl (o_ar rfl rfl rfl (by omega) (by omega) ?_)   -- 86 := binOp BinOp.sub 3 (tmp 84) (tmp 85) 3
      refine s_op rfl (o_ar rfl rfl rfl (by omega) (by omega) ?_)   -- 87 := binOp BinOp.mul 3 (const (Value.int IntKind.i64 8)) (tmp 86) 3
      refine s_op rfl (oidx rfl rfl rfl (by omega) (by omega) ?_)   -- 88 := indexAddr 22 (tmp 82) (tmp 83)
      refine s_op rfl (ostI rfl rfl hfi.ob.2 (fun _ => rfl) rfl rfl (by simp; omega) ?_)
      refine s_end ?_
      refine crr (by kernel_rfl) rfl ?_   -- region 14
      refine c_ret (fr rfl ⟨?_, ?_, ?_⟩)
      · rw [free_len l g (gto l n) (by omega) (by omega)]
      · have := hfi.set (l' := (l.take g ++ List.replicate (gto l n - g) 0 ++ l.drop (gto l n)).set g (8 * ((gto l n : Int) - g)))
        simpa [free] using this
      · exact he.trans (T' := (· = q)) (ext_set _ _ _) (fun _ _ h => by rw [h])

/-- What Give makes of a slab. -/
theorem give_len (l : List Int) (a : Int) : (give l a).length = l.length := by
  unfold give
  split
  · rename_i h
    obtain ⟨n, rfl, hn, hh⟩ := blocks_mem h.1
    have hgt := gto_le h.1
    have := gfr_le (l := l) (a := (n : Int)) (blocks l) (n : Int) (by omega)
    rw [Int.toNat_natCast]
    exact free_len _ _ _ (by omega) (by omega)
  · rfl
theorem Give_c (r : Option Nat) (o : Nat) (l : List Int) (a : Int) (st : St) (hx : At st r o l) (hl : l.length ≤ 1048576) : ACalls Tryz.prog 214 [.agg [.sl r o l.length], I a] st No (Sn st (give l a)) := by
  refine ent (N := 29) Tryz.func214 rfl (by decide) rfl rfl rfl ?_
  refine crr (by kernel_rfl) rfl ?_   -- region 0
  refine c_seq ?_
  refine c_rj [(1, I a), (22, .bool (decide (¬ (a ∈ blocks l ∧ kindOf l a.toNat ≠ 0))))] [(2, 2, [.sl r o l.length]), (4, 4, [.sl none 0 0])] (by kernel_rfl) ?_ ?_   -- region 1
  · refine sr 1 rfl ?_
    refine s_op rfl (o_pure loud_n rfl (SlabOk_c _ _ _ _ hx hl) ?_)
    refine sr 2 rfl ?_
    refine s_bool 8 rfl rfl (fun h8 => ?_) (fun h8 => ?_)
    · -- slot 8 true
      refine sra rfl ⟨⟨rfl, ?_, trivial⟩, ⟨rfl, rfl, rfl, rfl, trivial⟩, rfl⟩
      rw [blocks_not (by simpa using h8)]; simp; rfl
    · -- slot 8 false
      have hok : okB l = true := by simpa using h8
      refine sr 2 rfl ?_
      refine s_op rfl (o_pure loud_n rfl (l2Is_c _ _ _ _ _ hx hok) ?_)
      refine sr 3 rfl ?_
      refine s_bool 14 rfl rfl (fun h14 => ?_) (fun h14 => ?_)
      · refine sra rfl ⟨⟨rfl, ?_, trivial⟩, ⟨rfl, rfl, rfl, rfl, trivial⟩, rfl⟩
        have h14 : a ∉ blocks l := by simpa using h14
        show AV.bool true = AV.bool _
        have hn : ¬ (a ∈ blocks l ∧ kindOf l a.toNat ≠ 0) := fun h => h14 h.1
        rw [decide_eq_true hn]
      · have h14 : a ∈ blocks l := by simpa using h14
        have hb := block_at h14
        refine sr 3 rfl ?_
        refine s_op rfl (oidx rfl rfl rfl (by omega) (by omega) ?_)
        refine s_op rfl (old rfl rfl (hx.rd (by omega) (by omega)) ?_)
        refine s_op rfl (o_pure loud_n rfl (l2Kind_c ..) ?_)
        refine sra rfl ⟨⟨rfl, ?_, trivial⟩, ⟨rfl, rfl, rfl, rfl, trivial⟩, rfl⟩
        show AV.bool (decide (rd l a % 8 = 0)) = AV.bool _
        congr 1
        rw [kind_rd]
        exact decide_eq_decide.2 ⟨fun h hc => hc.2 h, fun h => Decidable.byContradiction fun hc => h ⟨h14, hc⟩⟩
  refine c_if rfl (fun h22 => ?_) (fun h22 => ?_)
  · -- then
    have h22 := of_decide_eq_true h22
    refine c_rs (by kernel_rfl) ?_   -- region 2
    refine sr 1 rfl ?_
    refine s_op rfl (o_ex loud_n rfl (l2Copy_c _ _ _ _ hx hl) ?_)
    rintro v1 st1 ⟨q, rfl, hf⟩ e1
    refine sra rfl ?_
    refine c_ret (fr rfl ?_)
    rw [give, if_neg h22]; exact ⟨q, rfl, hf⟩
  · -- else
    have h22 : a ∈ blocks l ∧ kindOf l a.toNat ≠ 0 := by simpa using h22
    have hok : okB l = true := by
      by_cases h : okB l = true
      · exact h
      · rw [blocks_not h] at h22; simp at h22
    refine c_skip ?_
    refine c_rs (by kernel_rfl) ?_   -- region 3
    refine sr 1 rfl ?_
    refine s_op rfl (o_ex loud_n rfl (l2Copy_c _ _ _ _ hx hl) ?_)
    rintro v1 st1 ⟨q, rfl, hf⟩ e1
    refine sr 1 rfl ?_
    refine s_op rfl (o_call rfl (l2Give_c _ _ _ _ _ hf hok h22.1) (fun i hi h => absurd hi (by have := hf.bd i h; omega)) (.inl rfl) ?_)
    rintro v2 st2 ⟨rfl, hf2, _⟩ e2
    refine sra rfl ?_
    refine c_ret (fr rfl ?_)
    rw [give, if_pos h22]; exact ⟨q, rfl, hf2⟩
end Go.Proofs.YtfhkjhnaihhdmaaGreatW.Ax
