/- What is given of a drawn slab (P2): the law, walked. -/
import Derived.Test.YtfhkjhnaihhdmaaGc
import Derived.Test.YtfhkjhnaihhdmaaHa
import Derived.Test.YtfhkjhnaihhdmaaYd
namespace Go.Proofs.YtfhkjhnaihhdmaaW.Ax
open Go Go.RowKit Go.Proofs Go.Proofs.Ytfhkjhnaihhdmaa.Pure
set_option linter.unusedVariables false
set_option maxRecDepth 100000

theorem gv_room_le (l : List Int) : 0 ≤ roomL l ∧ roomL l ≤ 4000000 := by
  have h1 := sm_le (fun a => if kindOf l a.toNat = 0 then szI l a else 0) (blocks l) fun x hx => by
    have := szI_le hx
    split <;> omega
  have h2 := blocks_lel l
  unfold roomL
  omega
theorem snw_room {n : Int} (h : 2 ≤ n ∧ n ≤ 2000) : roomL (snwL n) = n := by
  have hl := (snwL_len n).2 h.1 h.2
  have e0 : (snwL n).getD 0 0 = 8 * n := by
    rw [snwL_t h, getD_set_I _ _ _ _ (by simp; omega), if_pos rfl]
  have hs : size (snwL n) 0 = n.toNat := by
    have e1 : size (snwL n) 0 = ((snwL n).getD 0 0 / 8).toNat := rfl
    rw [e1, e0]; omega
  have hk : kindOf (snwL n) 0 = 0 := by
    have e1 : kindOf (snwL n) 0 = (snwL n).getD 0 0 % 8 := rfl
    rw [e1, e0]; omega
  have hsg : sg (snwL n) 0 [0] (snwL n).length := ⟨rfl, by omega, by unfold headOk; rw [e0, hl]; omega, by rw [hs]; show 0 + n.toNat = _; omega⟩
  unfold roomL
  rw [(sg_okB hsg (by omega)).2]
  show (if kindOf (snwL n) (0 : Int).toNat = 0 then szI (snwL n) 0 else 0) + 0 = n
  have e2 : szI (snwL n) 0 = (size (snwL n) 0 : Nat) := rfl
  rw [show (0 : Int).toNat = 0 from rfl, if_pos hk, e2, hs]
  omega
theorem okB_blk {l : List Int} {x : Int} (h : x ∈ blocks l) : okB l = true := by
  unfold blocks at h
  unfold okB
  split at h
  · rename_i h1
    cases hw : walk l 0 with
    | none => rw [hw] at h; cases h
    | some p => simpa using h1
  · cases h
/-- What is not given stays. -/
theorem gv_stay {l : List Int} {a x : Int} (hx : x ∈ blocks l) (hne : x ≠ a) (hk : kindOf l x.toNat ≠ 0) : kat (give l a) x = kat l x ∧ sat (give l a) x = sat l x := by
  have hok := okB_blk hx
  by_cases hc : a ∈ blocks l ∧ kindOf l a.toNat ≠ 0
  · obtain ⟨n, rfl, _, _⟩ := blocks_mem hc.1
    have h1 := (give_all hok hc.1 (by simpa using hc.2)).2.2 x hx hne hk
    obtain ⟨e1, e2⟩ := at_congr h1.2
    unfold kat sat
    rw [if_pos h1.1, if_pos hx, if_pos h1.1, if_pos hx, e1, e2]
    exact ⟨rfl, rfl⟩
  · unfold give; rw [if_neg hc]; exact ⟨rfl, rfl⟩
theorem sum_blk {l : List Int} (h : okB l = true) : sm (szI l) (blocks l) = l.length := by
  have := tile l.length 0 (blocks l) (by omega) (by omega) (blocks_of h).2
  omega
theorem gv_kat {l : List Int} {a : Int} (h : a ∈ blocks l) : kat l a = kindOf l a.toNat := by unfold kat; rw [if_pos h]
theorem gv_sat {l : List Int} {a : Int} (h : a ∈ blocks l) : sat l a = szI l a := by unfold sat; rw [if_pos h]; rfl
theorem FnGiven_c (r : Option Nat) (code : List Int) (st : St) (hx : AtB st r 0 code) (h8 : U8 code) (hm : code.length ≤ 9223372036854775807) (hr : ∀ j, r = some j → j < st.n) : ACalls Try.prog 5 [.sl r 0 code.length] st No (Pv (.bool true)) := by
  refine ent (N := 148) Try.func5 rfl (by decide) rfl rfl rfl ?_
  refine crr (by kernel_rfl) rfl ?_   -- region 0
  refine c_seq ?_
  refine c_rs (by kernel_rfl) ?_   -- region 1
  refine sr 1 rfl ?_
  refine s_op rfl (o_pure loud_n rfl (big_c ..) ?_)
  refine s_end ?_
  refine c_if rfl (fun h14 => ?_) (fun h14 => ?_)
  · refine crr (by kernel_rfl) rfl ?_   -- region 2
    exact c_ret (fr rfl rfl)
  have h14 := of_decide_eq_false h14
  refine c_skip ?_
  refine c_rs (by kernel_rfl) ?_   -- region 3
  refine sr 1 rfl ?_
  refine s_op rfl (o_ex loud_n rfl (DrawGive_c r code _ hx h8 (by omega) hr) ?_)
  rintro v1 st1 ⟨q, o, l, a, rfl, ha, hll, hqb, hn⟩ e1
  have hx1 := hx.ex e1
  have hr1 : ∀ j, r = some j → j < st1.n := fun j h => by have := hr j h; have := e1.n; omega
  refine sra rfl ?_
  refine c_rs (by kernel_rfl) ?_   -- region 4
  refine sr 2 rfl ?_
  refine s_op rfl (o_ex loud_n rfl (iGive_c q o l a _ ha (by omega)) ?_)
  rintro v2 st2 ⟨q2, rfl, hf2⟩ e2
  have ha2 := ha.ex e2
  have hx2 := hx1.ex e2
  refine sra rfl ?_
  have hgl : (give l a).length ≤ 1048576 := by
    have := give_len l a; omega
  refine c_seq ?_
  refine cds [0, 1, 2, 3, 4, 5, 6, 7] [.q, .q, .q, .q, .f, .q, .f, .q] (by kernel_rfl) (by kernel_rfl) ?_   -- region 5
  refine sr 4 rfl ?_
  refine s_op rfl (o_ex loud_f rfl (Give_c q o l a _ ha2 (by omega)) ?_)
  rintro v3 st3 ⟨q3, rfl, hf3⟩ e3
  have ha3 := ha2.ex e3
  have hx3 := hx2.ex e3
  have ht3 := hf2.at_.ex e3
  refine sr 1 rfl ?_
  refine s_op rfl (o_pure loud_f rfl (sameInts_t _ _ _ _ _ _ ht3 hf3.at_ (by omega)) ?_)
  refine sra rfl ?_
  refine c_if_f rfl ?_
  refine c_skip ?_
  refine c_rs (by kernel_rfl) ?_   -- region 7
  refine sr 1 rfl ?_
  refine s_op rfl (o_ex loud_n rfl (iBlocks_c q o l _ ha3) ?_)
  rintro v4 st4 ⟨q4, rfl, hf4⟩ e4
  have ha4 := ha3.ex e4
  have hx4 := hx3.ex e4
  have ht4 := ht3.ex e4
  have hbl := blocks_lel l
  refine sra rfl ?_
  refine c_seq ?_
  refine cds [0, 1, 2, 3, 4, 5, 6, 8, 7, 9, 10, 11] [.q, .q, .f, .f, .q, .q, .q, .q, .f, .f, .q, .q] (by kernel_rfl) (by kernel_rfl) ?_   -- region 8
  refine sr 2 rfl ?_
  refine s_op rfl (o_ex loud_f rfl (Blocks_c q o l _ ha4 (by omega)) ?_)
  rintro v5 st5 ⟨q5, rfl, hf5⟩ e5
  have ha5 := ha4.ex e5
  have hx5 := hx4.ex e5
  have ht5 := ht4.ex e5
  have hb5 := hf4.at_.ex e5
  refine s_op rfl (o_pure loud_f rfl (sameInts_t _ _ _ _ _ _ hb5 hf5.at_ (by omega)) ?_)
  refine sr 4 rfl ?_
  refine s_op rfl (o_ex loud_f rfl (Room_c _ _ _ _ ha5 (by omega)) ?_)
  rintro v6 st6 rfl e6
  have ha6 := ha5.ex e6
  have hx6 := hx5.ex e6
  have ht6 := ht5.ex e6
  have hb6 := hb5.ex e6
  refine s_op rfl (o_ex loud_f rfl (sRoom_c _ _ _ _ ha6 (by omega)) ?_)
  rintro v7 st7 rfl e7
  have ha7 := ha6.ex e7
  have hx7 := hx6.ex e7
  have ht7 := ht6.ex e7
  have hb7 := hb6.ex e7
  refine s_op rfl (oeq rfl (.v (.bool false)) (bN rfl) ?_)
  refine sra rfl ?_
  refine c_if_f rfl ?_
  refine c_skip ?_
  have hr7 : ∀ j, r = some j → j < st7.n := fun j h => by
    have := hr1 j h; have := e2.n; have := e3.n; have := e4.n; have := e5.n; have := e6.n; have := e7.n; omega
  refine c_rs (by kernel_rfl) ?_   -- region 10
  refine sr 1 rfl ?_
  refine s_op rfl (o_ex loud_n rfl (DrawSlabNew_c r code _ hx7 h8 (by omega) hr7) ?_)
  rintro v8 st8 ⟨n, rfl, hn1, hn2⟩ e8
  have ha8 := ha7.ex e8
  have ht8 := ht7.ex e8
  have hb8 := hb7.ex e8
  refine sra rfl ?_
  refine c_rs (by kernel_rfl) ?_   -- region 11
  refine sr 1 rfl ?_
  refine s_op rfl (o_ex loud_n rfl (iSlabNew_c n _) ?_)
  rintro v9 st9 ⟨q9, rfl, hf9⟩ e9
  have ha9 := ha8.ex e9
  have ht9 := ht8.ex e9
  have hb9 := hb8.ex e9
  have hsl := (snwL_len n).1
  refine sra rfl ?_
  refine c_rs (by kernel_rfl) ?_   -- region 12
  refine sr 1 rfl ?_
  refine s_op rfl (o_ex loud_n rfl (SlabNew_c n _) ?_)
  rintro v10 st10 ⟨q10, rfl, hf10⟩ e10
  have ha10 := ha9.ex e10
  have ht10 := ht9.ex e10
  have hb10 := hb9.ex e10
  have hs10 := hf9.at_.ex e10
  refine sra rfl ?_
  refine c_seq ?_
  refine c_sj (α := Unit) (fun _ => [(4, I a), (6, .sl q4 0 (blocks l).length), (74, .bool false)]) (fun _ => [(3, 3, [.sl q o l.length]), (5, 5, [.sl q2 0 (give l a).length])]) (fun _ st' => Ex st10 st') ?_ ?_
  · -- region 13
    refine c_region (by kernel_rfl) ?_
    refine sr 2 rfl ?_
    refine s_op rfl (oneB rfl rfl rfl rfl ?_)
    by_cases hn3 : 2 ≤ n ∧ n ≤ 2000
    · rw [decide_eq_true hn3]
      refine sr 4 rfl ?_
      refine s_op rfl (o_ex loud_n rfl (iSlabOk_c _ _ _ _ hs10) ?_)
      rintro v11 st11 rfl e11
      have hs11 := hs10.ex e11
      rw [snw_okB hn3]
      refine sr 3 rfl ?_
      refine s_op rfl (o_ex loud_n rfl (Room_c _ _ _ _ hs11 (by omega)) ?_)
      rintro v12 st12 rfl e12
      rw [snw_room hn3]
      refine sr 1 rfl ?_
      refine s_op rfl (oeq rfl (.v (.bool false)) (bN rfl) ?_)
      exact sra rfl ⟨(), ⟨rfl, rfl, rfl, trivial⟩, ⟨rfl, rfl, rfl, rfl, trivial⟩, e11.tr e12⟩
    · rw [decide_eq_false hn3]
      exact sra rfl ⟨(), ⟨rfl, rfl, rfl, trivial⟩, ⟨rfl, rfl, rfl, rfl, trivial⟩, Ext.refl _ _⟩
  rintro _ st13 e13
  replace ha10 := ha10.ex e13
  replace ht10 := ht10.ex e13
  replace hb10 := hb10.ex e13
  refine c_if_f rfl ?_
  refine c_skip ?_
  refine crr (by kernel_rfl) rfl ?_   -- region 15
  refine c_seq ?_
  refine crr (by kernel_rfl) rfl ?_   -- region 16
  refine c_block ?_
  have hbd : ∀ i : Nat, 0 ≤ sm (szI l) ((blocks l).take i) ∧ sm (szI l) ((blocks l).take i) ≤ 4000000 := fun i => by
    have := sm_le (szI l) ((blocks l).take i) fun x hx => szI_le (List.mem_of_mem_take hx)
    have : ((blocks l).take i).length ≤ 2000 := by rw [List.length_take]; omega
    omega
  refine c_lp (α := Nat) (fun i => [(4, I a), (6, .sl q4 0 (blocks l).length), (12, I (sm (szI l) ((blocks l).take i))), (13, I i)]) (fun _ => [(3, 3, [.sl q o l.length]), (5, 5, [.sl q2 0 (give l a).length])])
    (fun i st' => Ex st13 st' ∧ i ≤ (blocks l).length) (fun i => (blocks l).length - i) 0 ⟨rfl, rfl, rfl, rfl, trivial⟩ ⟨rfl, rfl, rfl, rfl, trivial⟩ ⟨Ext.refl _ _, Nat.zero_le _⟩ ?_
  rintro i st' ⟨e14, hi⟩
  replace ha10 := ha10.ex e14
  replace ht10 := ht10.ex e14
  replace hb10 := hb10.ex e14
  refine c_seq ?_
  refine crr (by kernel_rfl) rfl ?_   -- region 17
  refine c_if rfl (fun h78 => ?_) (fun h78 => ?_)
  · -- then
    have h78 := of_decide_eq_true h78
    have hib : rd (blocks l) i ∈ blocks l := mem_rd (by omega)
    have hst := sm_take (szI l) (blocks l) i (by omega)
    have hgd : (blocks l).getD i 0 = rd (blocks l) i := rfl
    rw [hgd, ← gv_sat hib] at hst
    have hb1 := hbd i
    have hb2 := hbd (i + 1)
    refine c_skip ?_
    refine c_seq ?_
    refine c_block ?_
    refine cds [0, 1, 2, 3, 4, 5, 6, 7, 8] [.q, .q, .q, .q, .q, .q, .f, .q, .q] (by kernel_rfl) (by kernel_rfl) ?_   -- region 19
    refine sr 4 rfl ?_
    refine s_op rfl (oidx rfl rfl rfl (by omega) (by omega) ?_)   -- 85 := indexAddr 31 (tmp 83) (tmp 84)
    refine s_op rfl (old rfl rfl (hb10.rd (by omega) (by omega)) ?_)   -- 86 := load 3 (tmp 85)
    refine s_op rfl (o_ex loud_f rfl (iSizeAt_c _ _ _ _ _ ha10) ?_)
    rintro v15 st15 rfl e15
    have ha15 := ha10.ex e15
    have ht15 := ht10.ex e15
    have hb15 := hb10.ex e15
    refine s_op rfl (o_ar rfl rfl rfl (by omega) (by omega) ?_)   -- 88 := binOp BinOp.add 3 (tmp 81) (tmp 87) 3
    rw [← hst]
    refine sra rfl ?_
    refine c_sj (α := Unit) (fun _ => [(4, I a), (6, .sl q4 0 (blocks l).length), (12, I (sm (szI l) ((blocks l).take (i + 1)))), (13, I i), (133, .bool false)]) (fun _ => [(3, 3, [.sl q o l.length]), (5, 5, [.sl q2 0 (give l a).length])]) (fun _ st' => Ex st15 st') ?_ ?_
    · -- region 20
      refine cd1 [0, 1, 2, 3, 4, 5, 6, 7, 8, 9, 10, 11, 12, 13, 14, 15, 16, 17, 18, 19, 20, 22, 23, 24, 25, 26, 21, 27, 28, 29, 30, 31, 32, 33, 34, 36, 37, 38, 39, 40, 35, 41, 42, 43, 44] [.q, .q, .q, .q, .q, .q, .q, .q, .q, .q, .q, .q, .f, .q, .q, .q, .q, .q, .q, .q, .q, .q, .q, .q, .q, .q, .f, .f, .q, .q, .q, .q, .q, .q, .q, .q, .q, .q, .q, .q, .f, .f, .q, .q, .q] (by kernel_rfl) (by kernel_rfl) ?_
      refine sr 2 rfl ?_
      refine s_op rfl (oidx rfl rfl rfl (by omega) (by omega) ?_)   -- 91 := indexAddr 31 (tmp 89) (tmp 90)
      refine s_op rfl (old rfl rfl (hb15.rd (by omega) (by omega)) ?_)   -- 92 := load 3 (tmp 91)
      refine sr 3 rfl ?_
      refine s_bool 95 rfl rfl (fun h95 => ?_) (fun h95 => ?_)
      · -- slot 95 true
        have h95 : rd (blocks l) i ≠ a := by simpa using h95
        refine sr 3 rfl ?_
        refine s_op rfl (oidx rfl rfl rfl (by omega) (by omega) ?_)   -- 99 := indexAddr 31 (tmp 97) (tmp 98)
        refine s_op rfl (old rfl rfl (hb15.rd (by omega) (by omega)) ?_)   -- 100 := load 3 (tmp 99)
        refine s_op rfl (o_ex loud_f rfl (iKindAt_c _ _ _ _ _ ha15) ?_)
        rintro v16 st16 rfl e16
        have ha16 := ha15.ex e16
        have ht16 := ht15.ex e16
        have hb16 := hb15.ex e16
        refine sr 3 rfl ?_
        refine s_bool 104 rfl rfl (fun h104 => ?_) (fun h104 => ?_)
        · -- slot 104 true
          have h104 : kat l (rd (blocks l) i) ≠ 0 := by simpa using h104
          rw [gv_kat hib] at h104
          obtain ⟨s1, s2⟩ := gv_stay hib h95 h104
          refine sr 3 rfl ?_
          refine s_op rfl (oidx rfl rfl rfl (by omega) (by omega) ?_)   -- 108 := indexAddr 31 (tmp 106) (tmp 107)
          refine s_op rfl (old rfl rfl (hb16.rd (by omega) (by omega)) ?_)   -- 109 := load 3 (tmp 108)
          refine sr 3 rfl ?_
          refine s_op rfl (oidx rfl rfl rfl (by omega) (by omega) ?_)   -- 114 := indexAddr 31 (tmp 112) (tmp 113)
          refine s_op rfl (old rfl rfl (hb16.rd (by omega) (by omega)) ?_)   -- 115 := load 3 (tmp 114)
          refine s_op rfl (o_ex loud_f rfl (iKindAt_c _ _ _ _ _ ht16) ?_)
          rintro v17 st17 rfl e17
          have ha17 := ha16.ex e17
          have ht17 := ht16.ex e17
          have hb17 := hb16.ex e17
          refine s_op rfl (o_ex loud_f rfl (iKindAt_c _ _ _ _ _ ha17) ?_)
          rintro v18 st18 rfl e18
          have ha18 := ha17.ex e18
          have ht18 := ht17.ex e18
          have hb18 := hb17.ex e18
          refine s_op rfl (oeq rfl (.v (.bool false)) (bN s1) ?_)
          refine sr 4 rfl ?_
          refine s_op rfl (oidx rfl rfl rfl (by omega) (by omega) ?_)   -- 122 := indexAddr 31 (tmp 120) (tmp 121)
          refine s_op rfl (old rfl rfl (hb18.rd (by omega) (by omega)) ?_)   -- 123 := load 3 (tmp 122)
          refine sr 3 rfl ?_
          refine s_op rfl (oidx rfl rfl rfl (by omega) (by omega) ?_)   -- 128 := indexAddr 31 (tmp 126) (tmp 127)
          refine s_op rfl (old rfl rfl (hb18.rd (by omega) (by omega)) ?_)   -- 129 := load 3 (tmp 128)
          refine s_op rfl (o_ex loud_f rfl (iSizeAt_c _ _ _ _ _ ht18) ?_)
          rintro v19 st19 rfl e19
          have ha19 := ha18.ex e19
          refine s_op rfl (o_ex loud_f rfl (iSizeAt_c _ _ _ _ _ ha19) ?_)
          rintro v20 st20 rfl e20
          refine s_op rfl (oeq rfl (.v (.bool false)) (bN s2) ?_)
          exact sra rfl ⟨(), ⟨rfl, rfl, rfl, rfl, rfl, trivial⟩, ⟨rfl, rfl, rfl, rfl, trivial⟩, (e16.tr e17).tr ((e18.tr e19).tr e20)⟩
        · -- slot 104 false
          exact sra rfl ⟨(), ⟨rfl, rfl, rfl, rfl, rfl, trivial⟩, ⟨rfl, rfl, rfl, rfl, trivial⟩, e16⟩
      · -- slot 95 false
        exact sra rfl ⟨(), ⟨rfl, rfl, rfl, rfl, rfl, trivial⟩, ⟨rfl, rfl, rfl, rfl, trivial⟩, Ext.refl _ _⟩
    rintro _ st20 e20
    refine c_if_f rfl ?_
    refine c_skip ?_
    refine c_region (by kernel_rfl) ?_   -- region 18
    refine sr 1 rfl ?_
    refine s_op rfl (o_ar rfl rfl rfl (by omega) (by omega) ?_)   -- 80 := binOp BinOp.add 3 (tmp 79) (const (Value.int IntKind.i64 1)) 3
    refine sra rfl ?_
    exact ⟨i + 1, ⟨rfl, rfl, rfl, rfl, trivial⟩, ⟨rfl, rfl, rfl, rfl, trivial⟩, ⟨(e14.tr e15).tr e20, by omega⟩, by omega⟩
  · -- else
    have h78 := of_decide_eq_false h78
    have hil : i = (blocks l).length := by omega
    subst hil
    rw [List.take_length]
    refine c_exit ?_
    refine c_sj (α := Unit) (fun b => [(2, .bool true)]) (fun _ => []) (fun _ st' => True) ?_ ?_
    · -- region 22
      refine c_region (by kernel_rfl) ?_
      refine sr 1 rfl ?_
      refine s_op rfl (o_pure loud_n rfl (SlabOk_c _ _ _ _ ha10 (by omega)) ?_)
      by_cases hok : okB l = true
      · rw [hok, sum_blk hok]
        refine sr 6 rfl ?_
        refine s_op rfl (oeq rfl (.v (.bool true)) (bT rfl) ?_)
        refine sr 2 rfl ?_
        refine s_op rfl (o_ex loud_n rfl (iSlabOk_c _ _ _ _ ht10) ?_)
        rintro v21 st21 rfl e21
        rw [(give_okB hok a).1]
        exact sra rfl ⟨(), ⟨rfl, trivial⟩, trivial, trivial⟩
      · rw [Bool.eq_false_iff.2 hok]
        exact sra rfl ⟨(), ⟨rfl, trivial⟩, trivial, trivial⟩
    rintro _ _ _
    exact c_ret (fr rfl rfl)
end Go.Proofs.YtfhkjhnaihhdmaaW.Ax
