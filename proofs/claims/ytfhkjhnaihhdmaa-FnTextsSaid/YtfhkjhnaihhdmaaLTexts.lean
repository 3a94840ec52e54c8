/- Texts of drawn heaps (P4): the law, walked. -/
import Derived.Test.YtfhkjhnaihhdmaaGj
import Derived.Test.YtfhkjhnaihhdmaaZx
import Derived.Test.YtfhkjhnaihhdmaaYi
import Derived.Test.YtfhkjhnaihhdmaaHa
namespace Go.Proofs.YtfhkjhnaihhdmaaW.Ax
open Go Go.RowKit Go.Proofs Go.Proofs.Ytfhkjhnaihhdmaa.Pure
set_option linter.unusedVariables false
set_option maxRecDepth 100000

theorem bSn {s : ByteArray} : RV.v (.bool (!(s.toList == s.toList))) = .v (.bool false) := by simp
theorem bSt {s t : ByteArray} (h : s = t) : RV.v (.bool (s.toList == t.toList)) = .v (.bool true) := by rw [h]; simp
theorem tq_no {l : List Int} {t : ByteArray} (h : tqO l t = false) : tqV l t = 0 ∧ (tqL l t = [] ∨ tqL l t = l) := by
  by_cases hp : Heap l
  · obtain ⟨h1, h2, h3⟩ := tq_t (t := t) hp
    rw [h3] at h
    rw [h1, h2]
    cases hn : tnO l t with
    | true => rw [(tp_new hn).2.2] at h; cases h
    | false =>
      obtain ⟨g1, g2, g3⟩ := tp_old hn
      rw [g3] at h
      rw [g1, g2, tf_no h]
      exact ⟨rfl, .inr rfl⟩
  · obtain ⟨h1, h2, h3⟩ := tq_f (t := t) hp
    exact ⟨h2, .inl h1⟩
theorem tq_in {l : List Int} {t : ByteArray} (h : tqO l t = true) : TpIn (tqL l t) (tqV l t) t := by
  by_cases hp : Heap l
  · obtain ⟨h1, h2, h3⟩ := tq_t (t := t) hp
    rw [h3] at h
    rw [h1, h2]
    exact tp_in hp h
  · rw [(tq_f hp).2.2] at h; cases h
theorem FnTexts_c (r : Option Nat) (code : List Int) (st : St) (hx : AtB st r 0 code) (h8 : U8 code) (hm : code.length ≤ 9223372036854775807) (hr : ∀ j, r = some j → j < st.n) : ACalls Try.prog 8 [.sl r 0 code.length] st No (Pv (.bool true)) := by
  refine ent (N := 162) Try.func8 rfl (by decide) rfl rfl rfl ?_
  refine crr (by kernel_rfl) rfl ?_   -- region 0
  refine c_seq ?_
  refine c_rs (by kernel_rfl) ?_   -- region 1
  refine sr 1 rfl ?_
  refine s_op rfl (o_pure loud_n rfl (big_c ..) ?_)
  refine s_end ?_
  refine c_if rfl (fun h14 => ?_) (fun h14 => ?_)
  · refine crr (by kernel_rfl) rfl ?_   -- region 2
    exact c_ret (fr rfl rfl)
  have h14 := of_decide_eq_false h14
  refine c_skip ?_
  have hl : code.length ≤ 1048576 := by omega
  refine c_rs (by kernel_rfl) ?_   -- region 3
  refine sr 1 rfl ?_
  refine s_op rfl (o_ex loud_n rfl (DrawTextPut_c r code _ hx h8 hl hr) ?_)
  rintro v1 st1 ⟨q, o, l, t, rfl, ha, hll, _, ht⟩ e1
  replace hx := hx.ex e1
  replace hr : ∀ j, r = some j → j < st1.n := fun j h => Nat.lt_of_lt_of_le (hr j h) e1.n
  have htl := tqL_len l t
  refine sra rfl ?_
  refine c_rs (by kernel_rfl) ?_   -- region 4
  refine sr 2 rfl ?_
  refine s_op rfl (o_ex loud_n rfl (iTextPut_c q o l t _ ha) ?_)
  rintro v2 st2 ⟨q2, rfl, hf2⟩ e2
  replace hx := hx.ex e2
  replace ha := ha.ex e2
  refine sra rfl ?_
  refine c_rs (by kernel_rfl) ?_   -- region 5
  refine sr 2 rfl ?_
  refine s_op rfl (o_ex loud_n rfl (TextPut_c q o l t _ ha (by omega)) ?_)
  rintro v3 st3 ⟨q3, rfl, hf3⟩ e3
  replace hx := hx.ex e3
  replace ha := ha.ex e3
  have hu := hf2.at_.ex e3
  replace hr : ∀ j, r = some j → j < st3.n := fun j h => Nat.lt_of_lt_of_le (hr j h) (Nat.le_trans e2.n e3.n)
  refine sra rfl ?_
  refine c_seq ?_
  refine c_rs (by kernel_rfl) ?_   -- region 6
  refine sr 2 rfl ?_
  refine s_op rfl (oneB rfl rfl rfl rfl ?_)
  refine sr 3 rfl ?_
  refine s_op rfl (oeq rfl (.v (.bool false)) (bN rfl) ?_)
  refine sr 6 rfl ?_
  refine s_op rfl (o_pure loud_n rfl (sameInts_t _ _ _ _ _ _ hu hf3.at_ (by omega)) ?_)
  refine sra rfl ?_
  refine c_if_f rfl ?_
  refine c_skip ?_
  refine c_rs (by kernel_rfl) ?_   -- region 8
  refine sr 1 rfl ?_
  refine s_op rfl (o_ex loud_n rfl (DrawTextOf_c r code _ hx h8 hl hr) ?_)
  rintro v4 st4 ⟨q4, o4, l4, x4, rfl, h4, hl4, _⟩ e4
  replace hx := hx.ex e4
  replace ha := ha.ex e4
  replace hu := hu.ex e4
  replace hr : ∀ j, r = some j → j < st4.n := fun j h => Nat.lt_of_lt_of_le (hr j h) e4.n
  refine sra rfl ?_
  refine c_rs (by kernel_rfl) ?_   -- region 9
  refine sr 1 rfl ?_
  refine s_op rfl (o_ex loud_n rfl (DrawTextFind_c r code _ hx h8 hl hr) ?_)
  rintro v5 st5 ⟨q5, o5, l5, t5, rfl, h5, hl5, _, _⟩ e5
  replace ha := ha.ex e5
  replace hu := hu.ex e5
  replace h4 := h4.ex e5
  refine sra rfl ?_
  refine c_rs (by kernel_rfl) ?_   -- region 10
  refine sr 2 rfl ?_
  refine s_op rfl (o_ex loud_n rfl (iTextFind_c _ _ _ t5 _ h5) ?_)
  rintro v6 st6 rfl e6
  replace ha := ha.ex e6
  replace hu := hu.ex e6
  replace h4 := h4.ex e6
  replace h5 := h5.ex e6
  refine sra rfl ?_
  refine c_rs (by kernel_rfl) ?_   -- region 11
  refine sr 2 rfl ?_
  refine s_op rfl (o_ex loud_n rfl (TextFind_c _ _ _ t5 _ h5 (by omega)) ?_)
  rintro v7 st7 rfl e7
  replace ha := ha.ex e7
  replace hu := hu.ex e7
  replace h4 := h4.ex e7
  refine sra rfl ?_
  refine c_seq ?_
  refine cds [0, 1, 3, 4, 2, 5, 6, 7, 8, 9, 10, 11, 12, 13, 14, 15, 16] [.q, .q, .q, .q, .f, .f, .q, .q, .q, .q, .q, .q, .q, .q, .q, .q, .q] (by kernel_rfl) (by kernel_rfl) ?_   -- region 12
  refine sr 4 rfl ?_
  refine s_op rfl (o_ex loud_f rfl (iTextOf_c _ _ _ x4 _ h4) ?_)
  rintro v8 st8 rfl e8
  replace ha := ha.ex e8
  replace hu := hu.ex e8
  replace h4 := h4.ex e8
  refine s_op rfl (o_ex loud_f rfl (TextOf_c _ _ _ x4 _ h4 (by omega)) ?_)
  rintro v9 st9 rfl e9
  replace ha := ha.ex e9
  replace hu := hu.ex e9
  refine s_op rfl (oeq rfl (.v (.bool false)) bSn ?_)
  refine sr 3 rfl ?_
  refine s_op rfl (oeq rfl (.v (.bool false)) (bN rfl) ?_)
  refine sr 4 rfl ?_
  refine s_op rfl (oneB rfl rfl rfl rfl ?_)
  refine sra rfl ?_
  refine c_if_f rfl ?_
  refine c_skip ?_
  refine c_seq ?_
  refine crr (by kernel_rfl) rfl ?_   -- region 14
  refine c_if rfl (fun h101 => ?_) (fun h101 => ?_)
  · -- then
    have h101 : tqO l t = false := by simpa using h101
    obtain ⟨g1, g2⟩ := tq_no h101
    refine c_sj (α := Unit) (fun b => [(2, .bool true)]) (fun _ => []) (fun b st' => True) ?_ ?_
    · -- region 15
      refine c_region (by kernel_rfl) ?_
      rw [g1]
      refine sr 1 rfl ?_
      refine s_op rfl (oeq rfl (.v (.bool true)) (bT rfl) ?_)
      rcases g2 with g2 | g2
      · rw [g2]
        exact sra rfl ⟨(), ⟨rfl, trivial⟩, trivial, trivial⟩
      · rw [g2] at hu ⊢
        refine sr 6 rfl ?_
        refine s_bool 109 rfl rfl (fun h109 => ?_) (fun h109 => ?_)
        · exact sra rfl ⟨(), ⟨rfl, trivial⟩, trivial, trivial⟩
        · refine sr 4 rfl ?_
          refine s_op rfl (o_pure loud_n rfl (sameInts_t _ _ _ _ _ _ hu ha (by omega)) ?_)
          exact sra rfl ⟨(), ⟨rfl, trivial⟩, trivial, trivial⟩
    rintro _ _ _
    exact c_ret (fr rfl rfl)
  · -- else
    have h101 : tqO l t = true := by simpa using h101
    have T := tq_in h101
    obtain ⟨b, hv, _⟩ := T.ex
    obtain ⟨g1, g2, g3, g4, g5⟩ := T.again
    obtain ⟨k1, k2, k3⟩ := tq_t (t := t) T.heap
    rw [g1] at k1
    rw [g2] at k2
    rw [g3] at k3
    rw [h101]
    generalize tqL l t = u at *
    generalize tqV l t = v at *
    have hfv : tfV (some (v / 8)) = v := by show 8 * (v / 8) + 4 = v; omega
    refine c_skip ?_
    refine c_rs (by kernel_rfl) ?_   -- region 16
    refine sr 2 rfl ?_
    refine s_op rfl (o_ex loud_n rfl (iTextFind_c _ _ _ t _ hu) ?_)
    rintro v10 st10 rfl e10
    have hT : TfR (tfH u t) = .tup [I v, .bool true] := by
      rw [g4]
      show AV.tup [I (tfV (some (v / 8))), .bool true] = _
      rw [hfv]
    rw [hT]
    replace hu := hu.ex e10
    refine sra rfl ?_
    refine c_rs (by kernel_rfl) ?_   -- region 17
    refine sr 2 rfl ?_
    refine s_op rfl (o_ex loud_n rfl (iTextPut_c _ _ _ t _ hu) ?_)
    rintro v11 st11 ⟨q11, rfl, hf11⟩ e11
    rw [k1] at hf11
    rw [k1, k2, k3]
    replace hu := hu.ex e11
    refine sra rfl ?_
    refine c_sj (α := Unit) (fun b => [(2, .bool true)]) (fun _ => []) (fun b st' => True) ?_ ?_
    · -- region 18
      refine c_region (by kernel_rfl) ?_
      refine sr 7 rfl ?_
      refine s_op rfl (oeq rfl (.v (.bool true)) (bT rfl) ?_)
      refine sr 4 rfl ?_
      refine s_op rfl (oeq rfl (.v (.bool true)) (bT rfl) ?_)
      refine sr 6 rfl ?_
      refine s_op rfl (o_pure loud_n rfl (sameInts_t _ _ _ _ _ _ hf11.at_ hu (by omega)) ?_)
      refine sr 4 rfl ?_
      refine s_op rfl (o_ex loud_n rfl (iTextOf_c _ _ _ v _ hu) ?_)
      rintro v12 st12 rfl e12
      replace hu := hu.ex e12
      refine sr 1 rfl ?_
      refine s_op rfl (oeq rfl (.v (.bool true)) (bSt g5) ?_)
      refine sr 3 rfl ?_
      refine s_op rfl (o_ex loud_n rfl (iHeapOk_c _ _ _ _ hu) ?_)
      rintro v13 st13 rfl e13
      rw [bdt.2 T.heap]
      exact sra rfl ⟨(), ⟨rfl, trivial⟩, trivial, trivial⟩
    rintro _ _ _
    exact c_ret (fr rfl rfl)
end Go.Proofs.YtfhkjhnaihhdmaaW.Ax
