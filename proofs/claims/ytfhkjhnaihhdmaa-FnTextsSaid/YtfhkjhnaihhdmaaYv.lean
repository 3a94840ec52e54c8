/- Objects and scopes that are made: walked. -/
import Derived.Test.YtfhkjhnaihhdmaaYu
namespace Go.Proofs.YtfhkjhnaihhdmaaW.Ax
open Go Go.RowKit Go.Proofs Go.Proofs.Ytfhkjhnaihhdmaa.Pure
set_option linter.unusedVariables false
set_option maxRecDepth 100000

/-- A block that is taken, its first word behind the head given. -/
def nwL (l : List Int) (k : Int) (n : Nat) (w : Int) : List Int := cond (tkO l n) ((tkL l k n).set (tkA l n + 1).toNat w) l
def nwV (l : List Int) (n : Nat) (K : Int) : Int := cond (tkO l n) (8 * tkA l n + K) 0
theorem nwL_len (l : List Int) (k : Int) (n : Nat) (w : Int) : (nwL l k n w).length = l.length := by
  unfold nwL
  cases tkO l n
  · rfl
  · show ((tkL l k n).set _ w).length = _
    rw [List.length_set, tkL_len]
theorem l5New_c (n0 : Nat) (r : Option Nat) (l : List Int) (w : Int) (st : St) (hf : Fr n0 st r l) (hok : okB l = true) : ACalls Try.prog 156 [.agg [.sl r 0 l.length], I w] st (fun i => r = some i) (Tv n0 st r (nwL l 2 3 w) (nwV l 3 5) (tkO l 3)) := by
  have hlen := okB_len hok
  refine ent (N := 28) Try.func156 rfl (by decide) rfl rfl rfl ?_
  refine crr (by kernel_rfl) rfl ?_   -- region 0
  refine c_rs (by kernel_rfl) ?_   -- region 1
  refine sr 1 rfl ?_
  refine s_op rfl (o_call rfl (l2Take_c n0 r l 2 3 _ hf hok (by omega) (by omega) (by omega)) (fun _ _ h => h) (.inl rfl) ?_)
  rintro v1 st1 ⟨rfl, hf1, he1⟩ _
  refine sra rfl ?_
  refine c_seq ?_
  refine crr (by kernel_rfl) rfl ?_   -- region 2
  refine c_if rfl (fun hc => ?_) (fun hc => ?_)
  · have hc : tkO l 3 = false := by simpa using hc
    have ht := tk_no 2 hc
    refine crr (by kernel_rfl) rfl ?_   -- region 3
    refine c_ret (fr rfl ?_)
    rw [ht.2] at hf1
    have e1 : nwL l 2 3 w = l := by unfold nwL; rw [hc]; rfl
    have e2 : nwV l 3 5 = 0 := by unfold nwV; rw [hc]; rfl
    rw [e1, e2, hc]
    exact ⟨rfl, hf1, he1⟩
  · have hc : tkO l 3 = true := by simpa using hc
    have ht := tk_at hc
    have hl := tkL_len l 2 3
    have hl0 : tkL l 2 3 ≠ [] := fun h => by rw [h] at hl; simp at hl; omega
    obtain ⟨q, rfl⟩ := hf1.some_of hl0
    have hb := block_at ht.2.2.1
    refine c_skip ?_
    refine c_rs (by kernel_rfl) ?_   -- region 4
    refine sr 3 rfl ?_
    refine s_op rfl (o_ar rfl rfl rfl (by omega) (by omega) ?_)
    refine sr 1 rfl ?_
    refine s_op rfl (oidx rfl rfl rfl (by omega) (by omega) ?_)
    refine s_op rfl (ostI rfl rfl hf1.ob.2 (fun _ => rfl) rfl rfl (by omega) ?_)
    refine s_end ?_
    refine cdt [0, 1, 2, 3, 4, 5] [.q, .q, .f, .n, .q, .q] (by kernel_rfl) (by kernel_rfl) ?_   -- region 5
    refine sr 2 rfl ?_
    refine s_op rfl (o_pure loud_f rfl (RefOf_c 5 (tkA l 3) _ (by omega) (by omega)) ?_)
    refine sra rfl ?_
    refine c_ret (fr rfl ?_)
    have e1 : nwL l 2 3 w = (tkL l 2 3).set (0 + (tkA l 3 + 1).toNat) w := by unfold nwL; rw [hc, Nat.zero_add]; rfl
    have e2 : nwV l 3 5 = 8 * tkA l 3 + 5 := by unfold nwV; rw [hc]; rfl
    rw [e1, e2, hc]
    refine ⟨?_, hf1.set, ?_⟩
    · rw [List.length_set]
    · have := ext_set st1 q (.row true (((tkL l 2 3).set (0 + (tkA l 3 + 1).toNat) w).map I))
      exact he1.trans (T' := (· = q)) this (fun _ _ h => by rw [h])
theorem l6New_c (n0 : Nat) (r : Option Nat) (l : List Int) (w : Int) (m : Nat) (st : St) (hf : Fr n0 st r l) (hok : okB l = true) (hm : m ≤ 12) : ACalls Try.prog 157 [.agg [.sl r 0 l.length], I w, I m] st (fun i => r = some i) (Tv n0 st r (nwL l 5 (m + 2) w) (nwV l (m + 2) 7) (tkO l (m + 2))) := by
  have hlen := okB_len hok
  refine ent (N := 32) Try.func157 rfl (by decide) rfl rfl rfl ?_
  refine crr (by kernel_rfl) rfl ?_   -- region 0
  refine c_rs (by kernel_rfl) ?_   -- region 1
  refine sr 2 rfl ?_
  refine s_op rfl (o_ar rfl rfl rfl (by omega) (by omega) ?_)
  refine s_op rfl (o_call rfl (l2Take_c n0 r l 5 (m + 2) _ hf hok (by omega) (by omega) (by omega)) (fun _ _ h => h) (.inl rfl) ?_)
  rintro v1 st1 ⟨rfl, hf1, he1⟩ _
  refine sra rfl ?_
  refine c_seq ?_
  refine crr (by kernel_rfl) rfl ?_   -- region 2
  refine c_if rfl (fun hc => ?_) (fun hc => ?_)
  · have hc : tkO l (m + 2) = false := by simpa using hc
    have ht := tk_no 5 hc
    refine crr (by kernel_rfl) rfl ?_   -- region 3
    refine c_ret (fr rfl ?_)
    rw [ht.2] at hf1
    have e1 : nwL l 5 (m + 2) w = l := by unfold nwL; rw [hc]; rfl
    have e2 : nwV l (m + 2) 7 = 0 := by unfold nwV; rw [hc]; rfl
    rw [e1, e2, hc]
    exact ⟨rfl, hf1, he1⟩
  · have hc : tkO l (m + 2) = true := by simpa using hc
    have ht := tk_at hc
    have hl := tkL_len l 5 (m + 2)
    have hl0 : tkL l 5 (m + 2) ≠ [] := fun h => by rw [h] at hl; simp at hl; omega
    obtain ⟨q, rfl⟩ := hf1.some_of hl0
    have hb := block_at ht.2.2.1
    refine c_skip ?_
    refine c_rs (by kernel_rfl) ?_   -- region 4
    refine sr 3 rfl ?_
    refine s_op rfl (o_ar rfl rfl rfl (by omega) (by omega) ?_)
    refine sr 1 rfl ?_
    refine s_op rfl (oidx rfl rfl rfl (by omega) (by omega) ?_)
    refine s_op rfl (ostI rfl rfl hf1.ob.2 (fun _ => rfl) rfl rfl (by omega) ?_)
    refine s_end ?_
    refine cdt [0, 1, 2, 3, 4, 5] [.q, .q, .f, .n, .q, .q] (by kernel_rfl) (by kernel_rfl) ?_   -- region 5
    refine sr 2 rfl ?_
    refine s_op rfl (o_pure loud_f rfl (RefOf_c 7 (tkA l (m + 2)) _ (by omega) (by omega)) ?_)
    refine sra rfl ?_
    refine c_ret (fr rfl ?_)
    have e1 : nwL l 5 (m + 2) w = (tkL l 5 (m + 2)).set (0 + (tkA l (m + 2) + 1).toNat) w := by unfold nwL; rw [hc, Nat.zero_add]; rfl
    have e2 : nwV l (m + 2) 7 = 8 * tkA l (m + 2) + 7 := by unfold nwV; rw [hc]; rfl
    rw [e1, e2, hc]
    refine ⟨?_, hf1.set, ?_⟩
    · rw [List.length_set]
    · have := ext_set st1 q (.row true (((tkL l 5 (m + 2)).set (0 + (tkA l (m + 2) + 1).toNat) w).map I))
      exact he1.trans (T' := (· = q)) this (fun _ _ h => by rw [h])
end Go.Proofs.YtfhkjhnaihhdmaaW.Ax
