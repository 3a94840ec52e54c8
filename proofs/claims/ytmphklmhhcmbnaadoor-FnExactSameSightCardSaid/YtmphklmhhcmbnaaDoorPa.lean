/- Numbers as the reference writes them. -/
import Derived.Test.YtmphklmhhcmbnaaDoorIt
import Derived.Test.YtmphklmhhcmbnaaDoorXF
import Derived.Test.YtmphklmhhcmbnaaDoorYl
namespace Go.Proofs.YtmphklmhhcmbnaaDoorW.Ax
open Go Go.RowKit Go.Proofs Go.Proofs.YtmphklmhhcmbnaaDoor.Pure
set_option linter.unusedVariables false
set_option maxRecDepth 100000

def q10 (p : Int) : Int := if 0 ≤ p then p / 10 else -((-p) / 10)
def r10 (p : Int) : Int := if 0 ≤ p then p % 10 else -((-p) % 10)
def g10 (p : Int) : Int := if 0 ≤ p then p % 10 else (-p) % 10
theorem tdiv10 (p : Int) : p.tdiv 10 = q10 p := by
  unfold q10
  split
  · exact Int.tdiv_eq_ediv_of_nonneg ‹_›
  · have e : p = -(-p) := by omega
    rw [e, Int.neg_tdiv, Int.tdiv_eq_ediv_of_nonneg (by omega)]
    simp
theorem tmod10 (p : Int) : p.tmod 10 = r10 p := by
  unfold r10
  split
  · exact Int.tmod_eq_emod_of_nonneg ‹_›
  · have e : p = -(-p) := by omega
    rw [e, Int.neg_tmod, Int.tmod_eq_emod_of_nonneg (by omega)]
    simp
/-- The digits of a number, ahead of what there is. -/
def dgF : Nat → Int → ByteArray → ByteArray
  | 0, _, out => out
  | d + 1, k, out => if k = 0 then out else dgF d (q10 k) (bstr [48 + g10 k] ++ out)
theorem dgF_end (d : Nat) (out : ByteArray) : dgF d 0 out = out := by cases d <;> rfl
def dgN (n : Int) : ByteArray := if n = 0 then ⟨#[48]⟩ else if n < 0 then ⟨#[45]⟩ ++ dgF n.natAbs n ⟨#[]⟩ else dgF n.natAbs n ⟨#[]⟩
section
variable {P : Program} {T : Nat → Prop} {st0 : St} {N : Nat} {a : Aa} {st : St} {m : Md} {R : Aa → St → Prop} {dst : Option Nat} {ty : Nat} {pos : String} {aft : Array Edge} {gd : Option (Nat × Bool)}
theorem o_rem10 {t yt : Nat} {x y : Operand} {p : Int} (hx : av a x = I p) (hy : av a y = I 10)
    (hR : R (a.put dst (.v (I (r10 p)))) st) : ALeaf P T st0 N ⟨dst, .binOp .rem t x y yt, ty, pos, aft, gd⟩ m R a st := by
  refine leaf_q (.v (I (r10 p))) (fun μ0 w0 β μ w ca hinv => ?_) hR
  have hxv := av_vr hinv x
  have hyv := av_vr hinv y
  rw [hx] at hxv
  rw [hy] at hyv
  simp only [VR] at hxv hyv
  refine ⟨.int .i64 (r10 p), by simp [RR, VR], fun w' _ => ?_⟩
  have he : Op.intDiv .rem .i64 p 10 = (pure (.int .i64 (r10 p)) : Sem Value) := by
    rw [← tmod10]; rfl
  simp [execOp, hxv, hyv, eqGuard_int, binOp, he]
theorem o_quo10 {t yt : Nat} {x y : Operand} {p : Int} (hx : av a x = I p) (hy : av a y = I 10) (h0 : -9223372036854775808 ≤ p) (h1 : p ≤ 9223372036854775807)
    (hR : R (a.put dst (.v (I (q10 p)))) st) : ALeaf P T st0 N ⟨dst, .binOp .quo t x y yt, ty, pos, aft, gd⟩ m R a st := by
  refine leaf_q (.v (I (q10 p))) (fun μ0 w0 β μ w ca hinv => ?_) hR
  have hxv := av_vr hinv x
  have hyv := av_vr hinv y
  rw [hx] at hxv
  rw [hy] at hyv
  simp only [VR] at hxv hyv
  refine ⟨.int .i64 (q10 p), by simp [RR, VR], fun w' _ => ?_⟩
  have hw : IntKind.i64.wrap (q10 p) = q10 p := by rw [IntKind.wrap_i64]; unfold q10; split <;> omega
  have he : Op.intDiv .quo .i64 p 10 = (pure (.int .i64 (q10 p)) : Sem Value) := by
    show (pure (.int .i64 (IntKind.i64.wrap (p.tdiv 10))) : Sem Value) = _
    rw [tdiv10, hw]
  simp [execOp, hxv, hyv, eqGuard_int, binOp, he]
end
theorem bsz1 (x : Int) : (bstr [x]).size = 1 := rfl
theorem l7Digits_c (n : Int) (st : St) (h0 : -9223372036854775808 ≤ n) (h1 : n ≤ 9223372036854775807) : ACalls Tryd.prog 30 [I n] st No (Pv (.str (dgN n))) := by
  refine ent (N := 31) Tryd.func30 rfl (by decide) rfl rfl rfl ?_
  refine crr (by kernel_rfl) rfl ?_   -- region 0
  refine c_seq ?_
  refine crr (by kernel_rfl) rfl ?_   -- region 1
  refine c_if rfl (fun h7 => ?_) (fun h7 => ?_)
  · -- then
    have h7 : n = 0 := of_decide_eq_true h7
    subst h7
    refine crr (by kernel_rfl) rfl ?_   -- region 2
    exact c_ret (fr rfl rfl)
  · -- else
    have h7 : ¬ n = 0 := of_decide_eq_false h7
    refine c_skip ?_
    refine crr (by kernel_rfl) rfl ?_   -- region 3
    refine crr (by kernel_rfl) rfl ?_   -- region 4
    refine c_seq ?_
    refine c_block ?_
    refine c_lp (α := Int × ByteArray × Nat) (fun i => [(0, I i.1), (3, .bool (decide (n < 0))), (4, .str i.2.1)]) (fun _ => []) (fun i st' => Ex st st' ∧ dgF i.2.2 i.1 i.2.1 = dgF n.natAbs n ⟨#[]⟩ ∧ i.1.natAbs ≤ i.2.2 ∧ i.1.natAbs ≤ 9223372036854775808 ∧ -9223372036854775808 ≤ i.1 ∧ i.1 ≤ 9223372036854775807 ∧ (i.2.1.size + i.1.natAbs ≤ 4611686018427387904 ∨ i.2.1.size = 0)) (fun i => i.2.2) (n, ⟨#[]⟩, n.natAbs) ⟨rfl, rfl, rfl, trivial⟩ trivial ⟨Ext.refl _ _, rfl, Nat.le_refl _, by dsimp only; omega, h0, h1, .inr rfl⟩ ?_
    rintro ⟨j, out, d⟩ st1 ⟨he, hf, hd, hj, hj0, hj1, hs⟩
    dsimp only at *
    refine c_seq ?_
    refine crr (by kernel_rfl) rfl ?_   -- region 5
    refine c_if rfl (fun h11 => ?_) (fun h11 => ?_)
    · -- then
      have h11 : ¬ j = 0 := fun e => by subst e; cases h11
      obtain ⟨d, rfl⟩ : ∃ d', d = d' + 1 := ⟨d - 1, by omega⟩
      have hf : dgF d (q10 j) (bstr [48 + g10 j] ++ out) = dgF n.natAbs n ⟨#[]⟩ := by rw [← hf, dgF, if_neg h11]
      have hz : (bstr [48 + g10 j] ++ out).size = out.size + 1 := by rw [ByteArray.size_append, bsz1]; omega
      have hg : 0 ≤ g10 j ∧ g10 j < 10 := by unfold g10; split <;> omega
      have hq : (q10 j).natAbs = j.natAbs / 10 := by unfold q10; split <;> omega
      refine c_skip ?_
      refine c_block ?_
      refine c_rs (by kernel_rfl) ?_   -- region 6
      refine sr 1 rfl ?_
      refine s_op rfl (o_rem10 rfl rfl ?_)
      refine sra rfl ?_
      refine c_sj (α := Unit) (fun _ => [(0, I j), (3, .bool (decide (n < 0))), (4, .str out), (5, I (g10 j))]) (fun _ => []) (fun _ st' => st1 = st') ?_ ?_
      · -- ways that meet
        refine crr (by kernel_rfl) rfl ?_   -- region 7
        refine c_if rfl (fun h15 => ?_) (fun h15 => ?_)
        · -- then
          have h15 : r10 j < 0 := of_decide_eq_true h15
          have e : (0 : Int) - r10 j = g10 j := by unfold r10 at *; unfold g10; split <;> split at h15 <;> omega
          refine c_region (by kernel_rfl) ?_   -- region 8
          refine sr 1 rfl ?_
          refine s_op rfl (o_ar rfl rfl rfl (by omega) (by omega) ?_)
          refine sra rfl ?_
          exact ⟨(), ⟨rfl, rfl, rfl, by rw [← e]; rfl, trivial⟩, trivial, rfl⟩
        · -- else
          have h15 : ¬ r10 j < 0 := of_decide_eq_false h15
          have e : r10 j = g10 j := by unfold r10 at *; unfold g10; split <;> split at h15 <;> omega
          refine c_skip ?_
          exact ⟨(), ⟨rfl, rfl, rfl, by rw [← e]; rfl, trivial⟩, trivial, rfl⟩
      rintro ⟨⟩ st2 rfl
      refine c_rs (by kernel_rfl) ?_   -- region 9
      refine sr 1 rfl ?_
      refine s_op rfl (o_ar rfl rfl rfl (by omega) (by omega) ?_)
      refine s_op rfl (oconv rfl rfl rfl rfl (by rw [IntKind.wrap_u8]; omega) ?_)
      refine s_op rfl (oblk [B8 (48 + g10 j)] loud_n rfl (by decide) rfl rfl fun q st2 hce e2 => ?_)
      refine s_op rfl (obstr rfl ⟨_, rfl, rfl⟩ rfl rfl (ns := [48 + g10 j]) ?_ ?_)
      · refine ⟨some q, 0, rfl, fun i hi => ?_⟩
        have hi : i = 0 := by simp at hi; exact hi
        subst hi
        rw [hce]; rfl
      refine sr 1 rfl ?_
      refine s_op rfl (o_cat rfl rfl (by rw [bsz1]; omega) ?_)
      refine sra rfl ?_
      refine c_region (by kernel_rfl) ?_   -- region 10
      refine sr 1 rfl ?_
      refine s_op rfl (o_quo10 rfl rfl hj0 hj1 ?_)
      exact sra rfl ⟨(q10 j, bstr [48 + g10 j] ++ out, d), ⟨rfl, rfl, rfl, trivial⟩, trivial, ⟨he.tr e2, hf, by dsimp only; omega, by dsimp only; omega, by dsimp only; omega, by dsimp only; omega, by dsimp only; rw [hz]; omega⟩, by dsimp only; omega⟩   -- round ends
    · -- else
      have h11 : j = 0 := by
        by_cases e : j = 0
        · exact e
        · rw [decide_eq_false e] at h11; cases h11
      subst h11
      rw [dgF_end] at hf
      refine c_exit ?_
      refine c_seq ?_
      refine crr (by kernel_rfl) rfl ?_   -- region 11
      refine c_if rfl (fun h27 => ?_) (fun h27 => ?_)
      · -- then
        have h27 : n < 0 := of_decide_eq_true h27
        have e : dgN n = ⟨#[45]⟩ ++ out := by unfold dgN; rw [if_neg h7, if_pos h27, hf]
        rw [e]
        refine c_rs (by kernel_rfl) ?_   -- region 12
        refine sr 1 rfl ?_
        refine s_op rfl (o_cat (s := ⟨#[45]⟩) rfl rfl (by show 1 + out.size ≤ _; omega) ?_)
        refine sra rfl ?_
        exact c_ret (fr rfl rfl)
      · -- else
        have h27 : ¬ n < 0 := of_decide_eq_false h27
        have e : dgN n = out := by unfold dgN; rw [if_neg h7, if_neg h27, hf]
        rw [e]
        refine c_skip ?_
        refine crr (by kernel_rfl) rfl ?_   -- region 13
        exact c_ret (fr rfl rfl)
end Go.Proofs.YtmphklmhhcmbnaaDoorW.Ax
