/- The reference's numerals are the library's. -/
import Derived.Test.YtmphklmhhcmbnaaDoorPa
import Derived.Lib.ItoaLen
namespace Go.Proofs.YtmphklmhhcmbnaaDoorW.Ax
open Go Go.RowKit Go.Proofs Go.Proofs.YtmphklmhhcmbnaaDoor.Pure
set_option linter.unusedVariables false
theorem dgF_dec : ∀ (d : Nat) (k : Int) (out : ByteArray), k.natAbs ≤ d → k ≠ 0 → dgF d k out = ⟨(Lib.decDigits k.natAbs).toArray⟩ ++ out
  | 0, k, out, h, h0 => by omega
  | d + 1, k, out, h, h0 => by
    have hq : (q10 k).natAbs = k.natAbs / 10 := by unfold q10; split <;> omega
    have hg : g10 k = ((k.natAbs % 10 : Nat) : Int) := by unfold g10; split <;> omega
    have hb : bstr [48 + g10 k] = ⟨#[UInt8.ofNat (48 + k.natAbs % 10)]⟩ := by
      rw [hg]
      have e : (48 + ((k.natAbs % 10 : Nat) : Int)).toNat = 48 + k.natAbs % 10 := by omega
      show ByteArray.push ByteArray.empty (UInt8.ofNat (48 + ((k.natAbs % 10 : Nat) : Int)).toNat) = _
      rw [e]; rfl
    rw [dgF, if_neg h0, hb]
    by_cases hz : q10 k = 0
    · have hl : k.natAbs < 10 := by omega
      rw [hz, dgF_end, Lib.decDigits_one hl, Nat.mod_eq_of_lt hl]
    · have hl : ¬ k.natAbs < 10 := by omega
      rw [dgF_dec d _ _ (by omega) hz, hq]
      have e : Lib.decDigits k.natAbs = Lib.decDigits (k.natAbs / 10) ++ [UInt8.ofNat (48 + k.natAbs % 10)] := by
        conv => lhs; rw [Lib.decDigits, dif_neg hl]
      rw [e]
      apply ByteArray.ext
      simp [ByteArray.data_append]
theorem dgN_numeral (n : Int) : dgN n = numeral n := by
  unfold dgN numeral Lib.itoa
  by_cases h : n = 0
  · subst h
    rw [if_pos rfl, if_neg (by omega), show (0 : Int).toNat = 0 from rfl, Lib.decDigits_one (by omega)]
    rfl
  · rw [if_neg h]
    by_cases h2 : n < 0
    · rw [if_pos h2, if_pos h2, dgF_dec _ _ _ (Nat.le_refl _) h]
      apply ByteArray.ext
      simp [ByteArray.data_append]
    · rw [if_neg h2, if_neg h2, dgF_dec _ _ _ (Nat.le_refl _) h, show n.natAbs = n.toNat by omega]
      apply ByteArray.ext
      simp [ByteArray.data_append]
theorem numeral_size (n : Int) (h0 : -9223372036854775808 ≤ n) (h1 : n ≤ 9223372036854775807) : (numeral n).size ≤ 21 := Lib.itoa_length_le n h0 h1
end Go.Proofs.YtmphklmhhcmbnaaDoorW.Ax
