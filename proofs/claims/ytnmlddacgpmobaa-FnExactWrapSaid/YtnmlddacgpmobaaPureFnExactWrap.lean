/- For every int n the program's Wrap and the reference's Wrap answer alike. No condition. -/
import Derived.Test.YtnmlddacgpmobaaPFnExactWrapx1
namespace Go.Proofs.Ytnmlddacgpmobaa.Pure
open Go.RowKit Go.Proofs.Ytnmlddacgpmobaa.PFnExactWrap Go.Proofs.YtnmlddacgpmobaaW.PrintWords Go.Proofs.YtnmlddacgpmobaaW.PrintLast

theorem and_m32 (n : Int) : Go.bits .and .i64 n 4294967295 = n % 4294967296 := by
  have h127 : (BitVec.ofInt 64 4294967295).toNat = 2 ^ 32 - 1 := by decide
  have key : (BitVec.ofInt 64 n &&& BitVec.ofInt 64 4294967295).toNat = (n % ((2 ^ 64 : Nat) : Int)).toNat % 2 ^ 32 := by
    rw [BitVec.toNat_and, BitVec.toNat_ofInt, h127, Nat.and_two_pow_sub_one_eq_mod]
  show IntKind.i64.wrap ((BitVec.ofInt 64 n &&& BitVec.ofInt 64 4294967295).toNat : Nat) = n % 4294967296
  rw [key, IntKind.wrap_i64]
  omega

theorem wrap_alike (a0 : Int) : spec_Wrap.f a0 = impl_Wrap.f a0 := by
  unfold spec_Wrap.f impl_Wrap.f
  rw [and_m32]
  unfold wrap64 wrap32
  split <;> (congr 1; omega)

theorem FnExactWrap : laws_FnExactWrap.Pure := by
  intro a0 _
  unfold laws_FnExactWrap.f
  rw [wrap_alike]
  simp [impl_Wrap.f]

end Go.Proofs.Ytnmlddacgpmobaa.Pure
