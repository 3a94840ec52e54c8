/- The line of a block, plainly. -/
import Derived.Test.YtmphklmhhcmbnaaDoorPd
import Derived.Test.YtmphklmhhcmbnaaDoorQ6
namespace Go.Proofs.YtmphklmhhcmbnaaDoorW.Ax
open Go Go.RowKit Go.Proofs Go.Proofs.YtmphklmhhcmbnaaDoor.Pure
set_option linter.unusedVariables false
theorem atS_size (x : Int) : ∀ (l : List Int) (i : Nat), i + l.length ≤ 1099511627776 → (atS x l i).size ≤ 24
  | [], _, _ => by show 2 ≤ 24; omega
  | y :: l, i, h => by
    rw [List.length_cons] at h
    unfold atS
    split
    · have := numeral_size i (by omega) (by omega)
      rw [ByteArray.size_append]
      show 2 + (numeral i).size ≤ 24
      omega
    · exact atS_size x l (i + 1) (by omega)
theorem valS_size (l : List Int) (v : Int) (hl : l.length ≤ 1099511627776) (h : W1 v) : (valS l v).size ≤ 24 := by
  unfold W1 at h
  unfold valS
  split
  · show 6 ≤ 24; omega
  split
  · show 5 ≤ 24; omega
  split
  · split
    · show 5 ≤ 24; omega
    · show 6 ≤ 24; omega
  split
  · have := numeral_size (v / 8) (by omega) (by omega)
    rw [ByteArray.size_append]
    show 1 + (numeral (v / 8)).size ≤ 24
    omega
  · exact atS_size _ _ _ (by omega)
/-- A text's numbers. -/
def txS (l : List Int) (a : Int) : Nat → ByteArray
  | 0 => ⟨#[116, 101, 120, 116]⟩
  | n + 1 => txS l a n ++ ⟨#[32]⟩ ++ numeral (rd l (a + 2 + n))
theorem txS_size (l : List Int) (a : Int) (h : ∀ i, W1 (rd l i)) : ∀ n, (txS l a n).size ≤ 4 + 22 * n
  | 0 => Nat.le_refl _
  | n + 1 => by
    have := txS_size l a h n
    have hw := h (a + 2 + n)
    unfold W1 at hw
    have h2 := numeral_size (rd l (a + 2 + n)) (by omega) (by omega)
    have e : (txS l a (n + 1)).size = (txS l a n).size + 1 + (numeral (rd l (a + 2 + n))).size := by
      show (txS l a n ++ ⟨#[32]⟩ ++ numeral (rd l (a + 2 + n))).size = _
      rw [ByteArray.size_append, ByteArray.size_append]; rfl
    omega
/-- Values, one behind the other: of a row of values. -/
def catV (order : List Int) : List Int → ByteArray → ByteArray
  | [], b => b
  | v :: vs, b => catV order vs (b ++ valS order v)
theorem catV_app (order : List Int) (v : Int) : ∀ (vs : List Int) (b : ByteArray), catV order (vs ++ [v]) b = catV order vs b ++ valS order v
  | [], b => rfl
  | x :: vs, b => catV_app order v vs (b ++ valS order x)
theorem catV_size (order : List Int) (hl : order.length ≤ 1099511627776) : ∀ (vs : List Int) (b : ByteArray), (∀ v ∈ vs, W1 v) → (catV order vs b).size ≤ b.size + 24 * vs.length
  | [], b, _ => Nat.le_refl _
  | x :: vs, b, h => by
    have h1 := catV_size order hl vs (b ++ valS order x) fun v hv => h v (List.mem_cons_of_mem _ hv)
    have h2 := valS_size order x hl (h x List.mem_cons_self)
    rw [ByteArray.size_append] at h1
    rw [List.length_cons]
    show (catV order vs (b ++ valS order x)).size ≤ _
    omega
/-- How many slots are left, where those behind them hold nothing. -/
def trN (l s : List Int) : Nat → Nat
  | 0 => 0
  | n + 1 => if rd l (rd s n) = 0 then trN l s n else n + 1
theorem trN_le (l s : List Int) : ∀ n, trN l s n ≤ n
  | 0 => Nat.le_refl _
  | n + 1 => by
    unfold trN
    have := trN_le l s n
    split <;> omega
def headS (l : List Int) (a : Int) : ByteArray :=
  if rd l a % 8 = 1 then txS l a (rd l (a + 1)).toNat else if rd l a % 8 = 2 then ⟨#[111, 98, 106]⟩ else if rd l a % 8 = 3 then ⟨#[99, 101, 108, 108]⟩
  else if rd l a % 8 = 4 then ⟨#[102, 117, 110, 32]⟩ ++ numeral (rd l (a + 1)) else ⟨#[115, 99, 111, 112, 101]⟩
def leftS (l : List Int) (a : Int) : List Int := if rd l a % 8 = 5 then (slotsL l a).take (trN l (slotsL l a) (slotsL l a).length) else slotsL l a
/-- A block's line, without its end. -/
def lineS (order l : List Int) (a : Int) : ByteArray := catV order ((leftS l a).map fun k => rd l k) (headS l a)
/-- All lines. -/
def linesS (order l : List Int) : List Int → ByteArray → ByteArray
  | [], b => b
  | a :: r, b => linesS order l r (b ++ (lineS order l a ++ ⟨#[10]⟩))
/-- The picture. -/
def picS (order l rs : List Int) : ByteArray := linesS order l order (catV order rs ⟨#[114, 111, 111, 116, 115]⟩ ++ ⟨#[10]⟩)
end Go.Proofs.YtmphklmhhcmbnaaDoorW.Ax
