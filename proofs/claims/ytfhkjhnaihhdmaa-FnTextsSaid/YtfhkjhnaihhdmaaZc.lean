/- FunNew: walked. -/
import Derived.Test.YtfhkjhnaihhdmaaYw
import Derived.Test.YtfhkjhnaihhdmaaXU
namespace Go.Proofs.YtfhkjhnaihhdmaaW.Ax
open Go Go.RowKit Go.Proofs Go.Proofs.Ytfhkjhnaihhdmaa.Pure
set_option linter.unusedVariables false
set_option maxRecDepth 100000

/-- A function's block. -/
def fnL (l : List Int) (c s : Int) : List Int := cond (tkO l 3) (((tkL l 4 3).set (tkA l 3 + 1).toNat c).set (tkA l 3 + 2).toNat s) l
theorem fnL_len (l : List Int) (c s : Int) : (fnL l c s).length = l.length := by
  unfold fnL
  cases tkO l 3
  · rfl
  · show (((tkL l 4 3).set _ c).set _ s).length = _
    rw [List.length_set, List.length_set, tkL_len]
theorem l6Fun_c (n0 : Nat) (r : Option Nat) (l : List Int) (c s : Int) (st : St) (hf : Fr n0 st r l) (hok : okB l = true) : ACalls Try.prog 158 [.agg [.sl r 0 l.length], I c, I s] st (fun i => r = some i) (Tv n0 st r (fnL l c s) (nwV l 3 6) (tkO l 3)) := by
  have hlen := okB_len hok
  refine ent (N := 36) Try.func158 rfl (by decide) rfl rfl rfl ?_
  refine crr (by kernel_rfl) rfl ?_   -- region 0
  refine c_rs (by kernel_rfl) ?_   -- region 1
  refine sr 1 rfl ?_
  refine s_op rfl (o_call rfl (l2Take_c n0 r l 4 3 _ hf hok (by omega) (by omega) (by omega)) (fun _ _ h => h) (.inl rfl) ?_)
  rintro v1 st1 ⟨rfl, hf1, he1⟩ _
  refine sra rfl ?_
  refine c_seq ?_
  refine crr (by kernel_rfl) rfl ?_   -- region 2
  refine c_if rfl (fun hc => ?_) (fun hc => ?_)
  · have hc : tkO l 3 = false := by simpa using hc
    have ht := tk_no 4 hc
    refine crr (by kernel_rfl) rfl ?_   -- region 3
    refine c_ret (fr rfl ?_)
    rw [ht.2] at hf1
    have e1 : fnL l c s = l := by unfold fnL; rw [hc]; rfl
    have e2 : nwV l 3 6 = 0 := by unfold nwV; rw [hc]; rfl
    rw [e1, e2, hc]
    exact ⟨rfl, hf1, he1⟩
  · have hc : tkO l 3 = true := by simpa using hc
    have ht := tk_at hc
    have hl := tkL_len l 4 3
    have hl0 : tkL l 4 3 ≠ [] := fun h => by rw [h] at hl; simp at hl; omega
    obtain ⟨q, rfl⟩ := hf1.some_of hl0
    have hb := block_at ht.2.2.1
    refine c_skip ?_
    refine c_rs (by kernel_rfl) ?_   -- region 4
    refine sr 3 rfl ?_
    refine s_op rfl (o_ar rfl rfl rfl (by omega) (by omega) ?_)
    refine sr 1 rfl ?_
    refine s_op rfl (oidx rfl rfl rfl (by omega) (by omega) ?_)
    refine s_op rfl (ostI rfl rfl hf1.ob.2 (fun _ => rfl) rfl rfl (by omega) ?_)
    refine s_end ?_
    have hf2 := hf1.set (l' := (tkL l 4 3).set (0 + (tkA l 3 + 1).toNat) c)
    have he2 : Ext (fun i => some q = some i) st (st1.set q (.row true (((tkL l 4 3).set (0 + (tkA l 3 + 1).toNat) c).map I))) := he1.trans (T' := (· = q)) (ext_set ..) (fun _ _ h => by rw [h])
    generalize st1.set q (.row true (((tkL l 4 3).set (0 + (tkA l 3 + 1).toNat) c).map I)) = st2 at hf2 he2 ⊢
    have hl2 : ((tkL l 4 3).set (0 + (tkA l 3 + 1).toNat) c).length = l.length := by rw [List.length_set, hl]
    refine c_rs (by kernel_rfl) ?_   -- region 5
    refine sr 3 rfl ?_
    refine s_op rfl (o_ar rfl rfl rfl (by omega) (by omega) ?_)
    refine sr 1 rfl ?_
    refine s_op rfl (oidx rfl rfl rfl (by omega) (by omega) ?_)
    refine s_op rfl (ostI rfl rfl hf2.ob.2 (fun _ => rfl) rfl rfl (by omega) ?_)
    refine s_end ?_
    refine cdt [0, 1, 2, 3, 4, 5] [.q, .q, .f, .n, .q, .q] (by kernel_rfl) (by kernel_rfl) ?_   -- region 6
    refine sr 2 rfl ?_
    refine s_op rfl (o_pure loud_f rfl (RefOf_c 6 (tkA l 3) _ (by omega) (by omega)) ?_)
    refine sra rfl ?_
    have e1 : fnL l c s = ((tkL l 4 3).set (0 + (tkA l 3 + 1).toNat) c).set (0 + (tkA l 3 + 2).toNat) s := by unfold fnL; rw [hc, Nat.zero_add, Nat.zero_add]; rfl
    have e2 : nwV l 3 6 = 8 * tkA l 3 + 6 := by unfold nwV; rw [hc]; rfl
    refine c_ret (fr rfl ⟨?_, ?_, ?_⟩)
    · rw [fnL_len, e2, hc, hl]
    · rw [e1]; exact hf2.set
    · exact he2.trans (T' := (· = q)) (ext_set ..) (fun _ _ h => by rw [h])
end Go.Proofs.YtfhkjhnaihhdmaaW.Ax
