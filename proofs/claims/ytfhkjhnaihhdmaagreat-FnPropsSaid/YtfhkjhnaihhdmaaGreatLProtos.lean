/- Prototypes of drawn objects (P5): the law, walked. -/
import Derived.Test.YtfhkjhnaihhdmaaGreatGq
import Derived.Test.YtfhkjhnaihhdmaaGreatQo
import Derived.Test.YtfhkjhnaihhdmaaGreatGn
import Derived.Test.YtfhkjhnaihhdmaaGreatHa
namespace Go.Proofs.YtfhkjhnaihhdmaaGreatW.Ax
open Go Go.RowKit Go.Proofs Go.Proofs.YtfhkjhnaihhdmaaGreat.Pure
set_option linter.unusedVariables false
set_option maxRecDepth 100000

theorem own_look {l : List Int} {obj name c : Int} (h8 : obj % 8 = 5) (h : ownC l obj name = some c) : lookC l obj name = some c := by
  have e : chain (nxP l) stPr (l.length + 1) obj [] = chain (nxP l) stPr l.length (nxP l obj) ([] ++ [obj]) := by
    rw [chain, if_neg (by simp [stPr, h8]), if_neg (by simp)]
  obtain ⟨r, hr⟩ := chain_pre (nxP l) stPr l.length (nxP l obj) ([] ++ [obj])
  unfold lookC protoR
  rw [e, hr]
  show List.findSome? (fun v => ownC l v name) (obj :: r) = some c
  rw [List.findSome?_cons, h]
theorem ow_lk {l : List Int} {obj name : Int} (h : gO (OwOk l obj name) (ownC l obj name).isSome = true) : gO (OwOk l obj name) (lookC l obj name).isSome = true ∧ gV (OwOk l obj name) (lookV l obj name) = gV (OwOk l obj name) (ownV l obj name) := by
  by_cases hk : OwOk l obj name
  · rw [gO_t hk] at h
    obtain ⟨c, hc⟩ := Option.isSome_iff_exists.1 h
    have h8 : obj % 8 = 5 := (ow_in hk).2.1
    have hl := own_look h8 hc
    rw [gO_t hk, gV_t hk, gV_t hk]
    unfold lookV ownV
    rw [hl, hc]
    exact ⟨rfl, rfl⟩
  · rw [gO_f hk] at h; cases h
theorem pok_rf {l : List Int} {v : Int} (hp : Pok v) (h : Leads l v 5) : v = 1 ∨ Rf l v 5 2 := hp.imp id fun h5 => (leads_rf h).2.1 h5
theorem ps_ok {l : List Int} {a b : Int} (h : PsOk l a b) : Heap (psL l a b) ∧ rd (psL l a b) (a / 8 + 1) = b ∧ (0 ≤ a / 8 + 1 ∧ a / 8 + 1 < (psL l a b).length) := by
  obtain ⟨hp, hr⟩ := ps_at h
  have hb := obj_at hp hr
  have hw := pok_rf h.1 (h.2.2.2 b (by simp))
  obtain ⟨h1, h2⟩ := set_obj1 hp hr hw
  rw [psL_t h]
  refine ⟨h1.heap, ?_, by omega, by rw [List.length_set]; omega⟩
  rw [h2 _ (by omega), if_pos rfl]
theorem on_ok {l : List Int} {v : Int} (h : onO l v = true) : Heap (onL l v) ∧ namL (onL l v) (onV l v) = [] := by
  by_cases hk : OnOk l v
  · unfold onO at h
    rw [gO_t hk] at h
    unfold onL onV
    rw [gL_t hk, gV_t hk]
    obtain ⟨h1, h2, h3⟩ := on_in hk.2.1 (pok_rf hk.1 (hk.2.2 v (by simp))) h
    refine ⟨h1, ?_⟩
    by_cases hn : NmOk (nwL l 2 3 v) (nwV l 3 5)
    · rw [nam_t hn]; unfold nmsL; rw [cells_nil h3]; rfl
    · exact nam_f hn
  · unfold onO at h; rw [gO_f hk] at h; cases h
theorem FnProtos_c (r : Option Nat) (code : List Int) (st : St) (hx : AtB st r 0 code) (h8 : U8 code) (hm : code.length ≤ 9223372036854775807) (hr : ∀ j, r = some j → j < st.n) : ACalls Tryz.prog 8 [.sl r 0 code.length] st No (Pv (.bool true)) := by
  refine ent (N := 166) Tryz.func8 rfl (by decide) rfl rfl rfl ?_
  refine crr (by kernel_rfl) rfl ?_   -- region 0
  refine c_seq ?_
  refine c_rs (by kernel_rfl) ?_   -- region 1
  refine sr 1 rfl ?_
  refine s_op rfl (o_pure loud_n rfl (big_c ..) ?_)
  refine s_end ?_
  refine c_if rfl (fun h14 => ?_) (fun h14 => ?_)
  · refine crr (by kernel_rfl) rfl ?_   -- region 2
    exact c_ret (fr rfl rfl)
  have h14 := of_decide_eq_false h14
  refine c_skip ?_
  have hl : code.length ≤ 1048576 := by omega
  refine c_rs (by kernel_rfl) ?_   -- region 3
  refine sr 1 rfl ?_
  refine s_op rfl (o_ex loud_n rfl (DrawProtoSet_c r code _ hx h8 hl hr) ?_)
  rintro v1 st1 ⟨q, o, l, a, b, rfl, ha, hll⟩ e1
  replace hx := hx.ex e1
  replace hr : ∀ j, r = some j → j < st1.n := fun j h => Nat.lt_of_lt_of_le (hr j h) e1.n
  have hpl := psL_len l a b
  refine sra rfl ?_
  refine c_rs (by kernel_rfl) ?_   -- region 4
  refine sr 3 rfl ?_
  refine s_op rfl (o_ex loud_n rfl (iProtoSet_c q o l a b _ ha (by omega)) ?_)
  rintro v2 st2 ⟨q2, rfl, hf2⟩ e2
  replace hx := hx.ex e2
  replace hr : ∀ j, r = some j → j < st2.n := fun j h => Nat.lt_of_lt_of_le (hr j h) e2.n
  replace ha := ha.ex e2
  refine sra rfl ?_
  refine c_rs (by kernel_rfl) ?_   -- region 5
  refine sr 3 rfl ?_
  refine s_op rfl (o_ex loud_n rfl (ProtoSet_c q o l a b _ ha (by omega)) ?_)
  rintro v3 st3 ⟨q3, rfl, hf3⟩ e3
  replace hx := hx.ex e3
  replace hr : ∀ j, r = some j → j < st3.n := fun j h => Nat.lt_of_lt_of_le (hr j h) e3.n
  have ht := hf2.at_.ex e3
  clear hf2 ha
  refine sra rfl ?_
  refine c_seq ?_
  refine c_rs (by kernel_rfl) ?_   -- region 6
  refine sr 2 rfl ?_
  refine s_op rfl (oneB rfl rfl rfl rfl ?_)
  refine sr 5 rfl ?_
  refine s_op rfl (o_pure loud_n rfl (sameInts_t _ _ _ _ _ _ ht hf3.at_ (by omega)) ?_)
  refine sra rfl ?_
  refine c_if_f rfl ?_
  refine c_skip ?_
  clear hf3
  refine c_rs (by kernel_rfl) ?_   -- region 8
  refine sr 1 rfl ?_
  refine s_op rfl (o_ex loud_n rfl (DrawLook_c r code _ hx h8 hl hr) ?_)
  rintro v4 st4 ⟨q4, o4, l4, a4, b4, rfl, h4, hl4⟩ e4
  replace hx := hx.ex e4
  replace hr : ∀ j, r = some j → j < st4.n := fun j h => Nat.lt_of_lt_of_le (hr j h) e4.n
  replace ht := ht.ex e4
  have key := @ow_lk l4 a4 b4
  obtain ⟨x, see, eL⟩ : ∃ x see, LookG l4 a4 b4 = .tup [I x, .bool see] ∧ x = gV (OwOk l4 a4 b4) (lookV l4 a4 b4) ∧ see = gO (OwOk l4 a4 b4) (lookC l4 a4 b4).isSome := ⟨_, _, rfl, rfl, rfl⟩
  obtain ⟨z, w, eO⟩ : ∃ z w, OwG l4 a4 b4 = .tup [I z, .bool w] ∧ z = gV (OwOk l4 a4 b4) (ownV l4 a4 b4) ∧ w = gO (OwOk l4 a4 b4) (ownC l4 a4 b4).isSome := ⟨_, _, rfl, rfl, rfl⟩
  obtain ⟨eL, eL1, eL2⟩ := eL
  obtain ⟨eO, eO1, eO2⟩ := eO
  rw [← eL1, ← eL2, ← eO1, ← eO2] at key
  clear eL1 eL2 eO1 eO2
  refine sra rfl ?_
  refine c_rs (by kernel_rfl) ?_   -- region 9
  refine sr 3 rfl ?_
  refine s_op rfl (o_ex loud_n rfl (iLook_c _ _ _ a4 b4 _ h4 (by omega)) ?_)
  rintro v5 st5 rfl e5
  rw [eL]
  replace hx := hx.ex e5
  replace hr : ∀ j, r = some j → j < st5.n := fun j h => Nat.lt_of_lt_of_le (hr j h) e5.n
  replace ht := ht.ex e5
  replace h4 := h4.ex e5
  refine sra rfl ?_
  refine c_rs (by kernel_rfl) ?_   -- region 10
  refine sr 3 rfl ?_
  refine s_op rfl (o_ex loud_n rfl (Look_c _ _ _ a4 b4 _ h4 (by omega)) ?_)
  rintro v6 st6 rfl e6
  rw [eL]
  replace hx := hx.ex e6
  replace hr : ∀ j, r = some j → j < st6.n := fun j h => Nat.lt_of_lt_of_le (hr j h) e6.n
  replace ht := ht.ex e6
  replace h4 := h4.ex e6
  refine sra rfl ?_
  refine c_rs (by kernel_rfl) ?_   -- region 11
  refine sr 3 rfl ?_
  refine s_op rfl (o_ex loud_n rfl (iOwn_c _ _ _ a4 b4 _ h4 (by omega)) ?_)
  rintro v7 st7 rfl e7
  rw [eO]
  replace hx := hx.ex e7
  replace hr : ∀ j, r = some j → j < st7.n := fun j h => Nat.lt_of_lt_of_le (hr j h) e7.n
  replace ht := ht.ex e7
  refine sra rfl ?_
  refine c_seq ?_
  refine c_sj (α := Unit) (fun _ => [(0, .sl r 0 code.length), (4, I a), (5, I b), (7, .bool (bd (PsOk l a b))), (106, .bool false)]) (fun _ => [(6, 6, [.sl q2 0 (psL l a b).length])]) (fun _ st' => st7 = st') ?_ ?_
  · -- region 12
    refine c_region (by kernel_rfl) ?_
    refine sr 2 rfl ?_
    refine s_op rfl (oeq rfl (.v (.bool false)) (bN rfl) ?_)
    refine sr 3 rfl ?_
    refine s_op rfl (oneB rfl rfl rfl rfl ?_)
    cases w with
    | false => exact sra rfl ⟨(), ⟨rfl, rfl, rfl, rfl, rfl, trivial⟩, ⟨rfl, rfl, trivial⟩, rfl⟩
    | true =>
      obtain ⟨rfl, rfl⟩ := key rfl
      refine sr 9 rfl ?_
      refine s_op rfl (oeq rfl (.v (.bool false)) (bN rfl) ?_)
      exact sra rfl ⟨(), ⟨rfl, rfl, rfl, rfl, rfl, trivial⟩, ⟨rfl, rfl, trivial⟩, rfl⟩
  rintro _ _ rfl
  refine c_if_f rfl ?_
  refine c_skip ?_
  clear h4
  refine c_rs (by kernel_rfl) ?_   -- region 14
  refine sr 1 rfl ?_
  refine s_op rfl (o_ex loud_n rfl (DrawObjNew_c r code _ hx h8 hl hr) ?_)
  rintro v8 st8 ⟨q8, o8, l8, a8, rfl, h8', hl8⟩ e8
  replace ht := ht.ex e8
  have hol := onL_len l8 a8
  refine sra rfl ?_
  refine c_rs (by kernel_rfl) ?_   -- region 15
  refine sr 2 rfl ?_
  refine s_op rfl (o_ex loud_n rfl (iObjNew_c _ _ _ a8 _ h8' (by omega)) ?_)
  rintro v9 st9 ⟨q9, rfl, hf9⟩ e9
  replace ht := ht.ex e9
  replace h8' := h8'.ex e9
  refine sra rfl ?_
  refine c_rs (by kernel_rfl) ?_   -- region 16
  refine sr 2 rfl ?_
  refine s_op rfl (o_ex loud_n rfl (ObjNew_c _ _ _ a8 _ h8' (by omega)) ?_)
  rintro v10 st10 ⟨q10, rfl, hf10⟩ e10
  replace ht := ht.ex e10
  have hw := hf9.at_.ex e10
  clear hf9 hf10
  refine sra rfl ?_
  refine c_seq ?_
  refine c_sj (α := Unit) (fun _ => [(4, I a), (5, I b), (7, .bool (bd (PsOk l a b))), (148, .bool false)]) (fun _ => [(6, 6, [.sl q2 0 (psL l a b).length])]) (fun _ st' => Ex st10 st') ?_ ?_
  · -- region 17
    refine c_region (by kernel_rfl) ?_
    refine sr 2 rfl ?_
    refine s_op rfl (oneB rfl rfl rfl rfl ?_)
    refine sr 3 rfl ?_
    refine s_op rfl (oeq rfl (.v (.bool false)) (bN rfl) ?_)
    cases hon : onO l8 a8 with
    | false => exact sra rfl ⟨(), ⟨rfl, rfl, rfl, rfl, trivial⟩, ⟨rfl, rfl, trivial⟩, Ext.refl _ _⟩
    | true =>
      obtain ⟨g1, g2⟩ := on_ok hon
      refine sr 6 rfl ?_
      refine s_op rfl (o_ex loud_n rfl (iNames_c _ _ _ (onV l8 a8) _ hw (by omega)) ?_)
      rintro v11 st11 ⟨q11, rfl, hf11⟩ e11
      rw [g2]
      replace hw := hw.ex e11
      refine sr 1 rfl ?_
      refine s_op rfl (oeq rfl (.v (.bool false)) (bN rfl) ?_)
      refine sr 2 rfl ?_
      refine s_op rfl (o_ex loud_n rfl (iHeapOk_c _ _ _ _ hw) ?_)
      rintro v12 st12 rfl e12
      rw [bdt.2 g1]
      exact sra rfl ⟨(), ⟨rfl, rfl, rfl, rfl, trivial⟩, ⟨rfl, rfl, trivial⟩, e11.tr e12⟩
  rintro _ st11 e11
  replace ht := ht.ex e11
  refine c_if_f rfl ?_
  refine c_skip ?_
  refine c_sj (α := Unit) (fun _ => [(2, .bool true)]) (fun _ => []) (fun _ st' => True) ?_ ?_
  · -- region 19
    by_cases hps : PsOk l a b
    · obtain ⟨g1, g2, g3⟩ := ps_ok hps
      rw [bdt.2 hps]
      refine cd1 [0, 1, 2, 3, 4, 5, 6, 7, 8, 13, 9, 10, 11, 12, 14, 15, 16, 17] [.q, .q, .q, .q, .f, .q, .q, .q, .q, .q, .f, .q, .q, .q, .q, .q, .q, .q] (by kernel_rfl) (by kernel_rfl) ?_
      refine sr 4 rfl ?_
      refine s_op rfl (o_ex loud_f rfl (iHeapOk_c _ _ _ _ ht) ?_)
      rintro v12 st12 rfl e12
      rw [bdt.2 g1]
      replace ht := ht.ex e12
      refine sr 5 rfl ?_
      refine s_op rfl (o_pure loud_f rfl (iNum_c ..) ?_)
      refine s_op rfl (o_ar rfl rfl rfl (by omega) (by omega) ?_)
      refine s_op rfl (oidx rfl rfl rfl (by omega) (by omega) ?_)
      refine s_op rfl (old rfl rfl (ht.rd (by omega) (by omega)) ?_)
      refine s_op rfl (oeq rfl (.v (.bool true)) (bT g2) ?_)
      exact sra rfl ⟨(), ⟨rfl, trivial⟩, trivial, trivial⟩
    · rw [bdf.2 hps]
      refine cd1 [0, 1, 2, 3, 4, 5, 6, 7, 8, 13, 9, 10, 11, 12, 14, 15, 16, 17] [.q, .q, .q, .q, .f, .q, .q, .q, .q, .q, .f, .q, .q, .q, .q, .q, .q, .q] (by kernel_rfl) (by kernel_rfl) ?_
      exact sra rfl ⟨(), ⟨rfl, trivial⟩, trivial, trivial⟩
  rintro _ _ _
  exact c_ret (fr rfl rfl)
end Go.Proofs.YtfhkjhnaihhdmaaGreatW.Ax
