/- Chapter 4, walked: texts that are found, texts of values. -/
import Derived.Test.YtfhkjhnaihhdmaaYp
namespace Go.Proofs.YtfhkjhnaihhdmaaW.Ax
open Go Go.RowKit Go.Proofs Go.Proofs.Ytfhkjhnaihhdmaa.Pure
set_option linter.unusedVariables false
set_option maxRecDepth 100000

noncomputable def tfH (l : List Int) (t : ByteArray) : Option Int := cond (bd (Heap l)) (tfind l t (blocks l)) none
theorem tfH_t {l : List Int} {t : ByteArray} (h : Heap l) : tfH l t = tfind l t (blocks l) := by unfold tfH; rw [bdt.2 h]; rfl
theorem tfH_f {l : List Int} {t : ByteArray} (h : ¬ Heap l) : tfH l t = none := by unfold tfH; rw [bdf.2 h]; rfl
theorem TextFind_c (r : Option Nat) (o : Nat) (l : List Int) (t : ByteArray) (st : St) (hx : At st r o l) (hl : l.length ≤ 1048576) : ACalls Try.prog 75 [.agg [.sl r o l.length], .str t] st No (Pv (TfR (tfH l t))) := by
  refine ent (N := 19) Try.func75 rfl (by decide) rfl rfl rfl ?_
  refine crr (by kernel_rfl) rfl ?_   -- region 0
  refine c_seq ?_
  refine c_rs (by kernel_rfl) ?_   -- region 1
  refine sr 1 rfl ?_
  refine s_op rfl (o_ex loud_n rfl (HeapOk_c _ _ _ _ hx hl) ?_)
  rintro v1 st1 rfl e1
  refine sra rfl ?_
  refine c_if rfl (fun h10 => ?_) (fun h10 => ?_)
  · have h10 := nbt h10
    refine crr (by kernel_rfl) rfl ?_   -- region 2
    refine c_ret (fr rfl ?_)
    rw [tfH_f h10]; rfl
  · have h10 := nbf h10
    refine c_skip ?_
    refine c_rs (by kernel_rfl) ?_   -- region 3
    refine sr 2 rfl ?_
    refine s_op rfl (o_ex loud_n rfl (l4Find_c _ _ _ t _ (hx.ex e1) h10) ?_)
    rintro v2 st2 rfl e2
    refine sra rfl ?_
    refine crr (by kernel_rfl) rfl ?_   -- region 4
    refine c_ret (fr rfl ?_)
    rw [tfH_t h10]; rfl
theorem iTextFind_c (r : Option Nat) (o : Nat) (l : List Int) (t : ByteArray) (st : St) (hx : At st r o l) : ACalls Try.prog 74 [.agg [.sl r o l.length], .str t] st No (Pv (TfR (tfH l t))) := by
  refine ent (N := 14) Try.func74 rfl (by decide) rfl rfl rfl ?_
  refine crr (by kernel_rfl) rfl ?_   -- region 0
  refine c_seq ?_
  refine c_rs (by kernel_rfl) ?_   -- region 1
  refine sr 1 rfl ?_
  refine s_op rfl (o_ex loud_n rfl (iHeapOk_c _ _ _ _ hx) ?_)
  rintro v1 st1 rfl e1
  refine sra rfl ?_
  refine c_if rfl (fun h8 => ?_) (fun h8 => ?_)
  · have h8 := nbt h8
    refine crr (by kernel_rfl) rfl ?_   -- region 2
    refine c_ret (fr rfl ?_)
    rw [tfH_f h8]; rfl
  · have h8 := nbf h8
    refine c_skip ?_
    refine c_rs (by kernel_rfl) ?_   -- region 3
    refine sr 2 rfl ?_
    refine s_op rfl (o_ex loud_n rfl (textFind_c _ _ _ t _ (hx.ex e1) h8) ?_)
    rintro v2 st2 rfl e2
    refine sra rfl ?_
    refine c_ret (fr rfl ?_)
    rw [tfH_t h8]; rfl
noncomputable def txO (l : List Int) (v : Int) : ByteArray := cond (bd (Heap l ∧ Rf l v 4 1)) (txt l (v / 8)) ByteArray.empty
theorem txO_t {l : List Int} {v : Int} (h : Heap l ∧ Rf l v 4 1) : txO l v = txt l (v / 8) := by unfold txO; rw [bdt.2 h]; rfl
theorem txO_f {l : List Int} {v : Int} (h : ¬ (Heap l ∧ Rf l v 4 1)) : txO l v = ByteArray.empty := by unfold txO; rw [bdf.2 h]; rfl
theorem leads4 {l : List Int} {v : Int} (h : v % 8 = 4) : Leads l v 0 ↔ Rf l v 4 1 := ⟨fun k => ⟨h, k.2.1 h⟩, fun k => ⟨(k.leads (.inl ⟨rfl, rfl⟩)).1, fun _ => k.2, fun e => by omega, fun e => by omega, fun e => by omega⟩⟩
theorem TextOf_c (r : Option Nat) (o : Nat) (l : List Int) (v : Int) (st : St) (hx : At st r o l) (hl : l.length ≤ 1048576) : ACalls Try.prog 77 [.agg [.sl r o l.length], I v] st No (Pv (.str (txO l v))) := by
  refine ent (N := 23) Try.func77 rfl (by decide) rfl rfl rfl ?_
  refine crr (by kernel_rfl) rfl ?_   -- region 0
  refine c_seq ?_
  refine c_sj (α := Bool) (fun b => [(1, I v), (18, .bool b)]) (fun _ => [(2, 2, [.sl r o l.length])]) (fun b st' => Ex st st' ∧ (b = true ↔ ¬ (Heap l ∧ Rf l v 4 1))) ?_ ?_
  · refine c_region (by kernel_rfl) ?_   -- region 1
    refine sr 1 rfl ?_
    refine s_op rfl (o_pure loud_n rfl (Kind_c ..) ?_)
    refine sr 2 rfl ?_
    refine s_bool 8 rfl rfl (fun h8 => ?_) (fun h8 => ?_)
    · have h8 := ndt h8
      refine sr 5 rfl ?_
      refine sra rfl ⟨true, ⟨rfl, rfl, trivial⟩, ⟨rfl, rfl, trivial⟩, Ext.refl _ _, ⟨fun _ h => h8 h.2.1, fun _ => rfl⟩⟩
    · have h8 := ndf h8
      refine sr 1 rfl ?_
      refine s_op rfl (o_ex loud_n rfl (HeapOk_c _ _ _ _ hx hl) ?_)
      rintro v1 st1 rfl e1
      refine sr 3 rfl ?_
      refine s_bool 13 rfl rfl (fun h13 => ?_) (fun h13 => ?_)
      · have h13 := nbt h13
        refine sra rfl ⟨true, ⟨rfl, rfl, trivial⟩, ⟨rfl, rfl, trivial⟩, e1, ⟨fun _ h => h13 h.1, fun _ => rfl⟩⟩
      · have h13 := nbf h13
        refine sr 2 rfl ?_
        refine s_op rfl (o_pure loud_n rfl (l3Leads_c _ _ _ v 0 _ (hx.ex e1) h13.1 (by omega)) ?_)
        refine sra rfl ⟨_, ⟨rfl, rfl, trivial⟩, ⟨rfl, rfl, trivial⟩, e1, ?_⟩
        rw [leads4 h8]
        exact ⟨fun h k => nbt h k.2, fun h => (by rw [bdf.2 fun k => h ⟨h13, k⟩]; rfl)⟩
  rintro b st1 ⟨e1, hb⟩
  refine c_if rfl (fun h18 => ?_) (fun h18 => ?_)
  · refine crr (by kernel_rfl) rfl ?_   -- region 2
    refine c_ret (fr rfl ?_)
    rw [txO_f (hb.1 h18)]; rfl
  · have h18 : Heap l ∧ Rf l v 4 1 := Classical.byContradiction fun h => by rw [hb.2 h] at h18; cases h18
    obtain ⟨t1, t2, t3, t4, t5, t6, t7⟩ := text_at h18.1 h18.2
    refine c_skip ?_
    refine cds [0, 1, 2, 3, 4] [.q, .q, .f, .f, .q] (by kernel_rfl) (by kernel_rfl) ?_   -- region 3
    refine sr 2 rfl ?_
    refine s_op rfl (o_pure loud_f rfl (Num_c ..) ?_)
    refine s_op rfl (o_ex loud_f rfl (l4Bytes_c _ _ _ _ _ _ (hx.ex e1) t3 (by omega) t4 t5 t7) ?_)
    rintro v1 st2 rfl e2
    refine sra rfl ?_
    refine c_ret (fr rfl ?_)
    rw [txO_t h18]; rfl
theorem iTextOf_c (r : Option Nat) (o : Nat) (l : List Int) (v : Int) (st : St) (hx : At st r o l) : ACalls Try.prog 76 [.agg [.sl r o l.length], I v] st No (Pv (.str (txO l v))) := by
  refine ent (N := 19) Try.func76 rfl (by decide) rfl rfl rfl ?_
  refine crr (by kernel_rfl) rfl ?_   -- region 0
  refine c_seq ?_
  refine c_sj (α := Bool) (fun b => [(1, I v), (14, .bool b)]) (fun _ => [(2, 2, [.sl r o l.length])]) (fun b st' => Ex st st' ∧ (b = true ↔ ¬ (Heap l ∧ Rf l v 4 1))) ?_ ?_
  · refine c_region (by kernel_rfl) ?_   -- region 1
    refine sr 1 rfl ?_
    refine s_op rfl (o_ex loud_n rfl (iHeapOk_c _ _ _ _ hx) ?_)
    rintro v1 st1 rfl e1
    refine sr 2 rfl ?_
    refine s_bool 8 rfl rfl (fun h8 => ?_) (fun h8 => ?_)
    · have h8 := nbt h8
      refine sra rfl ⟨true, ⟨rfl, rfl, trivial⟩, ⟨rfl, rfl, trivial⟩, e1, ⟨fun _ h => h8 h.1, fun _ => rfl⟩⟩
    · have h8 := nbf h8
      have hlen := okB_len h8.1
      refine sr 1 rfl ?_
      refine s_op rfl (o_ex loud_n rfl (kinds_c _ _ _ _ (hx.ex e1) hlen) ?_)
      rintro v2 st2 ⟨q, rfl, hq⟩ e2
      refine sr 1 rfl ?_
      refine s_op rfl (o_pure loud_n rfl (leadsTo_c _ _ _ l v 4 1 _ hq.at_ hlen (by omega) (kindsL_len l)) ?_)
      refine sra rfl ⟨_, ⟨rfl, rfl, trivial⟩, ⟨rfl, rfl, trivial⟩, e1.tr e2, ?_⟩
      exact ⟨fun h k => nbt h k.2, fun h => by rw [bdf.2 fun k => h ⟨h8, k⟩]; rfl⟩
  rintro b st1 ⟨e1, hb⟩
  refine c_if rfl (fun h14 => ?_) (fun h14 => ?_)
  · refine crr (by kernel_rfl) rfl ?_   -- region 2
    refine c_ret (fr rfl ?_)
    rw [txO_f (hb.1 h14)]; rfl
  · have h14 : Heap l ∧ Rf l v 4 1 := Classical.byContradiction fun h => by rw [hb.2 h] at h14; cases h14
    obtain ⟨t1, t2, t3, t4, t5, t6, t7⟩ := text_at h14.1 h14.2
    refine c_skip ?_
    refine cds [0, 1, 2, 3, 4] [.q, .q, .f, .f, .q] (by kernel_rfl) (by kernel_rfl) ?_   -- region 3
    refine sr 2 rfl ?_
    refine s_op rfl (o_pure loud_f rfl (iNum_c ..) ?_)
    refine s_op rfl (o_ex loud_f rfl (textAt_c _ _ _ _ _ _ (hx.ex e1) t3 (by omega) t4 t5 t7) ?_)
    rintro v1 st2 rfl e2
    refine sra rfl ?_
    refine c_ret (fr rfl ?_)
    rw [txO_t h14]; rfl
end Go.Proofs.YtfhkjhnaihhdmaaW.Ax
