/- What is taken of a drawn slab (P2): the law, walked. -/
import Derived.Test.YtfhkjhnaihhdmaaGc
import Derived.Test.YtfhkjhnaihhdmaaHa
import Derived.Test.YtfhkjhnaihhdmaaYd
namespace Go.Proofs.YtfhkjhnaihhdmaaW.Ax
open Go Go.RowKit Go.Proofs Go.Proofs.Ytfhkjhnaihhdmaa.Pure
set_option linter.unusedVariables false
set_option maxRecDepth 100000

theorem kat_blk {l : List Int} {a : Int} (h : a ∈ blocks l) : kat l a = kindOf l a.toNat := by unfold kat; rw [if_pos h]
theorem sat_blk {l : List Int} {a : Int} (h : a ∈ blocks l) : sat l a = size l a.toNat := by unfold sat; rw [if_pos h]
theorem room_le (l : List Int) : 0 ≤ roomL l ∧ roomL l ≤ 4000000 := by
  have h1 := sm_le (fun a => if kindOf l a.toNat = 0 then szI l a else 0) (blocks l) fun x hx => by
    have := szI_le hx
    split <;> omega
  have h2 := blocks_lel l
  unfold roomL
  omega
/-- What is taken, told plainly. -/
structure Tkn (l t : List Int) (k n a : Int) : Prop where
  ok : okB t = true
  kind : kat t a = k
  lo : n ≤ sat t a
  hi : sat t a ≤ n + 1
  was : kat l a = 0
  okb : okB (give t a) = true
  room : roomL (give t a) = roomL l
  left : roomL t = roomL l - sat t a
  big : n ≤ 2000
theorem tkn_of {l : List Int} {k n : Int} (h : okB l = true) (hO : tgO l k n = true) : Tkn l (tgL l k n) k n (tgA l k n) := by
  by_cases hb : (1 ≤ k ∧ k ≤ 5) ∧ 2 ≤ n
  · obtain ⟨e1, e2, e3⟩ := tg_ok h hb
    rw [e1, e2]
    rw [e3] at hO
    cases hs : slot l n.toNat (blocks l) with
    | none => rw [(tk_none (k := k) hs).2.2] at hO; cases hO
    | some x =>
      obtain ⟨b, rfl⟩ : ∃ b : Nat, x = b := ⟨x.toNat, by have := (slot_at hs).2.1; omega⟩
      obtain ⟨r1, r2, r3, r4, r5, r6, r7, r8, r9⟩ := tk_room h (show 2 ≤ n.toNat by omega) hb.1 hs
      have hsl := slot_at hs
      rw [(tk_some (k := k) hs).2.1]
      obtain ⟨g1, g2, g3⟩ := give_all r1 r2 (by rw [r3]; omega)
      rw [Int.toNat_natCast] at hsl
      refine ⟨r1, ?_, ?_, ?_, ?_, g1, by rw [g2, r5, r4]; omega, ?_, by omega⟩
      · rw [kat_blk r2, Int.toNat_natCast, r3]
      · rw [sat_blk r2, Int.toNat_natCast, r4]; omega
      · rw [sat_blk r2, Int.toNat_natCast, r4]; omega
      · rw [kat_blk r6, Int.toNat_natCast, r7]
      · rw [sat_blk r2, Int.toNat_natCast, r5]
  · obtain ⟨e1, e2, e3⟩ := tg_bad h hb
    rw [e3] at hO; cases hO
theorem tg_same {l : List Int} {k n : Int} (h : okB l = true) (hO : ¬ tgO l k n = true) : tgL l k n = l := by
  by_cases hb : (1 ≤ k ∧ k ≤ 5) ∧ 2 ≤ n
  · obtain ⟨e1, e2, e3⟩ := tg_ok h hb
    rw [e1]
    rw [e3] at hO
    exact (tk_no k (by simpa using hO)).2
  · exact (tg_bad h hb).1
theorem FnTaken_c (r : Option Nat) (code : List Int) (st : St) (hx : AtB st r 0 code) (h8 : U8 code) (hm : code.length ≤ 9223372036854775807) (hr : ∀ j, r = some j → j < st.n) : ACalls Try.prog 4 [.sl r 0 code.length] st No (Pv (.bool true)) := by
  refine ent (N := 128) Try.func4 rfl (by decide) rfl rfl rfl ?_
  refine crr (by kernel_rfl) rfl ?_   -- region 0
  refine c_seq ?_
  refine c_rs (by kernel_rfl) ?_   -- region 1
  refine sr 1 rfl ?_
  refine s_op rfl (o_pure loud_n rfl (big_c ..) ?_)
  refine s_end ?_
  refine c_if rfl (fun h14 => ?_) (fun h14 => ?_)
  · refine crr (by kernel_rfl) rfl ?_   -- region 2
    exact c_ret (fr rfl rfl)
  have h14 := of_decide_eq_false h14
  refine c_skip ?_
  refine c_rs (by kernel_rfl) ?_   -- region 3
  refine sr 1 rfl ?_
  refine s_op rfl (o_ex loud_n rfl (DrawTake_c r code _ hx h8 (by omega) hr) ?_)
  rintro v1 st1 ⟨q, o, l, k, n, rfl, ha, hll, _, hk, hn⟩ e1
  refine sra rfl ?_
  refine c_rs (by kernel_rfl) ?_   -- region 4
  refine sr 3 rfl ?_
  refine s_op rfl (o_ex loud_n rfl (iTakeG_c q o l k n _ ha (by omega) (by unfold W1; omega)) ?_)
  rintro v2 st2 ⟨q2, rfl, hf2⟩ e2
  have ha2 := ha.ex e2
  refine sra rfl ?_
  refine c_rs (by kernel_rfl) ?_   -- region 5
  refine sr 3 rfl ?_
  refine s_op rfl (o_ex loud_n rfl (Take_c q o l k n _ ha2 (by omega) (by unfold W1; omega)) ?_)
  rintro v3 st3 ⟨q3, rfl, hf3⟩ e3
  have ha3 := ha2.ex e3
  have ht3 := hf2.at_.ex e3
  have htl := tgL_len l k n
  refine sra rfl ?_
  refine c_seq ?_
  refine cds [0, 1, 2, 3, 4, 5, 6, 7, 8, 9, 10, 11, 12, 13, 14, 15, 16, 17, 19, 18, 20, 21, 22] [.q, .q, .q, .q, .q, .q, .q, .q, .q, .q, .q, .q, .q, .f, .q, .q, .q, .q, .q, .f, .f, .q, .q] (by kernel_rfl) (by kernel_rfl) ?_   -- region 6
  refine sr 2 rfl ?_
  refine s_op rfl (oneB rfl rfl rfl rfl ?_)
  refine sr 3 rfl ?_
  refine s_op rfl (oeq rfl (.v (.bool false)) (bN rfl) ?_)
  refine sr 6 rfl ?_
  refine s_op rfl (o_pure loud_f rfl (sameInts_t _ _ _ _ _ _ ht3 hf3.at_ (by omega)) ?_)
  refine sr 5 rfl ?_
  refine s_op rfl (o_ex loud_f rfl (iSlabOk_c _ _ _ _ ha3) ?_)
  rintro v4 st4 rfl e4
  have ha4 := ha3.ex e4
  have ht4 := ht3.ex e4
  refine s_op rfl (o_pure loud_f rfl (SlabOk_c _ _ _ _ ha4 (by omega)) ?_)
  refine s_op rfl (oneB rfl rfl rfl rfl ?_)
  refine sra rfl ?_
  refine c_if_f rfl ?_
  refine c_skip ?_
  refine c_seq ?_
  refine c_rs (by kernel_rfl) ?_   -- region 8
  refine sr 1 rfl ?_
  refine s_op rfl (o_pure loud_n rfl (SlabOk_c _ _ _ _ ha4 (by omega)) ?_)
  refine sra rfl ?_
  refine c_if rfl (fun h62 => ?_) (fun h62 => ?_)
  · have h62 : ¬ okB l = true := by simpa using h62
    rw [(tg_no k n h62).1]
    refine crr (by kernel_rfl) rfl ?_   -- region 9
    exact c_ret (fr rfl rfl)
  have h62 : okB l = true := by simpa using h62
  refine c_skip ?_
  refine c_seq ?_
  refine crr (by kernel_rfl) rfl ?_   -- region 10
  refine c_if rfl (fun h68 => ?_) (fun h68 => ?_)
  · have hO : ¬ tgO l k n = true := by simpa using h68
    rw [tg_same h62 hO] at ht4 ⊢
    refine c_rs (by kernel_rfl) ?_   -- region 11
    refine sr 4 rfl ?_
    refine s_op rfl (o_pure loud_n rfl (sameInts_t _ _ _ _ _ _ ht4 ha4 (by omega)) ?_)
    refine sra rfl ?_
    exact c_ret (fr rfl rfl)
  have hO : tgO l k n = true := by simpa using h68
  have T := tkn_of h62 hO
  have T1 := T.lo
  have T2 := T.hi
  have T3 := T.big
  refine c_skip ?_
  refine c_seq ?_
  refine c_rs (by kernel_rfl) ?_   -- region 12
  refine sr 2 rfl ?_
  refine s_op rfl (o_ex loud_n rfl (iKindAt_c _ _ _ _ _ ht4) ?_)
  rintro v5 st5 rfl e5
  have ha5 := ha4.ex e5
  have ht5 := ht4.ex e5
  refine sr 1 rfl ?_
  refine s_op rfl (oeq rfl (.v (.bool false)) (bN T.kind) ?_)
  refine sr 3 rfl ?_
  refine s_op rfl (o_ex loud_n rfl (iSizeAt_c _ _ _ _ _ ht5) ?_)
  rintro v6 st6 rfl e6
  have ha6 := ha5.ex e6
  have ht6 := ht5.ex e6
  refine sr 1 rfl ?_
  refine s_op rfl (oeq rfl (.v (.bool false)) (bF (by omega)) ?_)
  refine sr 4 rfl ?_
  refine s_op rfl (o_ex loud_n rfl (iSizeAt_c _ _ _ _ _ ht6) ?_)
  rintro v7 st7 rfl e7
  have ha7 := ha6.ex e7
  have ht7 := ht6.ex e7
  refine sr 1 rfl ?_
  refine s_op rfl (o_ar rfl rfl rfl (by omega) (by omega) ?_)   -- 91 := binOp BinOp.add 3 (tmp 90) (const (Value.int IntKind.i64 1)) 3
  refine s_op rfl (oeq rfl (.v (.bool false)) (bF (by omega)) ?_)
  refine sr 4 rfl ?_
  refine s_op rfl (o_ex loud_n rfl (iKindAt_c _ _ _ _ _ ha7) ?_)
  rintro v8 st8 rfl e8
  have ha8 := ha7.ex e8
  have ht8 := ht7.ex e8
  refine s_op rfl (oeq rfl (.v (.bool false)) (bN T.was) ?_)
  refine sr 3 rfl ?_
  refine s_op rfl (o_ex loud_n rfl (iSlabOk_c _ _ _ _ ht8) ?_)
  rintro v9 st9 rfl e9
  have ha9 := ha8.ex e9
  have ht9 := ht8.ex e9
  rw [T.ok]
  refine sra rfl ?_
  refine c_if_f rfl ?_
  refine c_skip ?_
  refine c_rs (by kernel_rfl) ?_   -- region 14
  refine sr 2 rfl ?_
  refine s_op rfl (o_ex loud_n rfl (iGive_c _ _ _ _ _ ht9 (by omega)) ?_)
  rintro v10 st10 ⟨q10, rfl, hf10⟩ e10
  have ha10 := ha9.ex e10
  have ht10 := ht9.ex e10
  have hb10 := hf10.at_
  have hgl := (give_okB T.ok (tgA l k n)).2
  refine sra rfl ?_
  have hll2 := okB_len h62
  have hbr := room_le l
  have hbr2 := room_le (tgL l k n)
  refine cds [0, 2, 1, 3, 4, 5, 6, 8, 10, 11, 7, 9, 12, 13, 14, 15, 16, 17, 18, 19, 20] [.q, .q, .f, .f, .q, .q, .q, .q, .q, .q, .f, .f, .f, .q, .q, .q, .q, .q, .f, .q, .q] (by kernel_rfl) (by kernel_rfl) ?_   -- region 15
  refine sr 2 rfl ?_
  refine s_op rfl (o_ex loud_f rfl (Room_c _ _ _ _ hb10 (by omega)) ?_)
  rintro v11 st11 rfl e11
  have ha11 := ha10.ex e11
  have ht11 := ht10.ex e11
  have hb11 := hb10.ex e11
  refine s_op rfl (o_ex loud_f rfl (Room_c _ _ _ _ ha11 (by omega)) ?_)
  rintro v12 st12 rfl e12
  have ha12 := ha11.ex e12
  have ht12 := ht11.ex e12
  have hb12 := hb11.ex e12
  refine s_op rfl (oeq rfl (.v (.bool true)) (bT T.room) ?_)
  refine sr 5 rfl ?_
  refine s_op rfl (o_ex loud_f rfl (Room_c _ _ _ _ ht12 (by omega)) ?_)
  rintro v13 st13 rfl e13
  have ha13 := ha12.ex e13
  have ht13 := ht12.ex e13
  have hb13 := hb12.ex e13
  refine s_op rfl (o_ex loud_f rfl (Room_c _ _ _ _ ha13 (by omega)) ?_)
  rintro v14 st14 rfl e14
  have ht14 := ht13.ex e14
  have hb14 := hb13.ex e14
  refine s_op rfl (o_ex loud_f rfl (iSizeAt_c _ _ _ _ _ ht14) ?_)
  rintro v15 st15 rfl e15
  have hb15 := hb14.ex e15
  refine s_op rfl (o_ar rfl rfl rfl (by omega) (by omega) ?_)
  refine s_op rfl (oeq rfl (.v (.bool true)) (bT T.left) ?_)
  refine sr 3 rfl ?_
  refine s_op rfl (o_ex loud_f rfl (iSlabOk_c _ _ _ _ hb15) ?_)
  rintro v16 st16 rfl e16
  rw [T.okb]
  refine sra rfl ?_
  exact c_ret (fr rfl rfl)
end Go.Proofs.YtfhkjhnaihhdmaaW.Ax
