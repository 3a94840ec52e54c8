/- More operations: quotients and rests of what is not negative, the exclusive or, sums of texts; numbers that go round. -/
import Derived.Test.YtmphklmhhcmbnaaDoorXE
namespace Go.Proofs.YtmphklmhhcmbnaaDoorW.Ax
open Go Go.RowKit
set_option linter.unusedVariables false
theorem wrap_w1 (z : Int) : W1 (IntKind.i64.wrap z) := by unfold W1; rw [IntKind.wrap_i64]; omega
section
variable {P : Program} {T : Nat → Prop} {st0 : St} {N : Nat} {a : Aa} {st : St} {m : Md} {R : Aa → St → Prop} {dst : Option Nat} {ty : Nat} {pos : String} {aft : Array Edge} {gd : Option (Nat × Bool)}
theorem o_rem {t yt : Nat} {x y : Operand} {p q : Int} (hx : av a x = I p) (hy : av a y = I q) (h0 : 0 ≤ p) (h1 : 0 < q)
    (hR : R (a.put dst (.v (I (p % q)))) st) : ALeaf P T st0 N ⟨dst, .binOp .rem t x y yt, ty, pos, aft, gd⟩ m R a st := by
  refine leaf_q (.v (I (p % q))) (fun μ0 w0 β μ w ca hinv => ?_) hR
  have hxv := av_vr hinv x
  have hyv := av_vr hinv y
  rw [hx] at hxv
  rw [hy] at hyv
  simp only [VR] at hxv hyv
  refine ⟨.int .i64 (p % q), by simp [RR, VR], fun w' _ => ?_⟩
  have hq : q ≠ 0 := by omega
  have he : Op.intDiv .rem .i64 p q = (pure (.int .i64 (p % q)) : Sem Value) := by
    simp only [Op.intDiv, if_neg hq]
    rw [Int.tmod_eq_emod_of_nonneg h0]
  simp [execOp, hxv, hyv, eqGuard_int, binOp, he]
theorem o_quo {t yt : Nat} {x y : Operand} {p q : Int} (hx : av a x = I p) (hy : av a y = I q) (h0 : 0 ≤ p) (hp : p ≤ 9223372036854775807) (h1 : 0 < q)
    (hR : R (a.put dst (.v (I (p / q)))) st) : ALeaf P T st0 N ⟨dst, .binOp .quo t x y yt, ty, pos, aft, gd⟩ m R a st := by
  refine leaf_q (.v (I (p / q))) (fun μ0 w0 β μ w ca hinv => ?_) hR
  have hxv := av_vr hinv x
  have hyv := av_vr hinv y
  rw [hx] at hxv
  rw [hy] at hyv
  simp only [VR] at hxv hyv
  refine ⟨.int .i64 (p / q), by simp [RR, VR], fun w' _ => ?_⟩
  have hq : q ≠ 0 := by omega
  have hd0 : 0 ≤ p / q := Int.ediv_nonneg h0 (by omega)
  have hd1 : p / q ≤ p := Int.ediv_le_self _ h0
  have hw : IntKind.i64.wrap (p / q) = p / q := by rw [IntKind.wrap_i64]; omega
  have he : Op.intDiv .quo .i64 p q = (pure (.int .i64 (p / q)) : Sem Value) := by
    simp only [Op.intDiv, if_neg hq]
    rw [Int.tdiv_eq_ediv_of_nonneg h0, hw]
  simp [execOp, hxv, hyv, eqGuard_int, binOp, he]
/-- The exclusive or: some number. -/
theorem o_xor {t yt : Nat} {x y : Operand} {p q : Int} (hx : av a x = I p) (hy : av a y = I q)
    (hR : ∀ z, W1 z → R (a.put dst (.v (I z))) st) : ALeaf P T st0 N ⟨dst, .binOp .xor t x y yt, ty, pos, aft, gd⟩ m R a st := by
  refine leaf_q (.v (I (IntKind.i64.wrap ((BitVec.ofInt 64 p ^^^ BitVec.ofInt 64 q).toNat : Nat)))) (fun μ0 w0 β μ w ca hinv => ?_) (hR _ (wrap_w1 _))
  have hxv := av_vr hinv x
  have hyv := av_vr hinv y
  rw [hx] at hxv
  rw [hy] at hyv
  simp only [VR] at hxv hyv
  refine ⟨.int .i64 (IntKind.i64.wrap ((BitVec.ofInt 64 p ^^^ BitVec.ofInt 64 q).toNat : Nat)), by simp [RR, VR], fun w' _ => ?_⟩
  have he : Op.intBits .xor .i64 p q = (pure (.int .i64 (IntKind.i64.wrap ((BitVec.ofInt 64 p ^^^ BitVec.ofInt 64 q).toNat : Nat))) : Sem Value) := rfl
  simp [execOp, hxv, hyv, eqGuard_int, binOp, he]
/-- Two texts, one behind the other. -/
theorem o_cat {t yt : Nat} {x y : Operand} {s u : ByteArray} (hx : av a x = .str s) (hy : av a y = .str u) (hb : s.size + u.size ≤ 9223372036854775807)
    (hR : R (a.put dst (.v (.str (s ++ u)))) st) : ALeaf P T st0 N ⟨dst, .binOp .add t x y yt, ty, pos, aft, gd⟩ m R a st := by
  refine leaf_q (.v (.str (s ++ u))) (fun μ0 w0 β μ w ca hinv => ?_) hR
  have hxv := av_vr hinv x
  have hyv := av_vr hinv y
  rw [hx] at hxv
  rw [hy] at hyv
  simp only [VR] at hxv hyv
  refine ⟨.string (s ++ u), by simp [RR, VR], fun w' _ => ?_⟩
  have he : Op.stringOp .add s u = (pure (.string (s ++ u)) : Sem Value) := by
    have hm : ¬ (((s.size + u.size : Nat) : Int) > IntKind.i64.max) := by rw [show IntKind.i64.max = 9223372036854775807 by rfl]; omega
    simp only [Op.stringOp, if_neg hm]
  simp [execOp, hxv, hyv, eqGuard_str, binOp, he]
/-- A number that goes round: what it is does not matter. -/
theorem o_wrap {op : BinOp} {t yt : Nat} {x y : Operand} (h : ∃ z0, binA op (av a x) (av a y) = some (I (IntKind.i64.wrap z0)))
    (hR : ∀ z, W1 z → R (a.put dst (.v (I z))) st) : ALeaf P T st0 N ⟨dst, .binOp op t x y yt, ty, pos, aft, gd⟩ m R a st := by
  obtain ⟨z0, h⟩ := h
  exact leaf_q (.v (I (IntKind.i64.wrap z0))) (q_binOp (tb := []) (by simp only [run1, h])) (hR _ (wrap_w1 z0))
end
end Go.Proofs.YtmphklmhhcmbnaaDoorW.Ax
