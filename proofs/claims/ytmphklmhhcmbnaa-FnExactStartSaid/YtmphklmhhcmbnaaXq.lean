/- Rules: slices made of what is given, as new rows. -/
import Derived.Test.YtmphklmhhcmbnaaXp
namespace Go.Proofs.YtmphklmhhcmbnaaW.Ax
open Go Go.RowKit
set_option linter.unusedVariables false
section
variable {P : Program} {tb : Tb} [TbOk P tb] {st0 : St} {N : Nat} {a : Aa} {st : St} {R : Aa → St → Prop} {m : Md}
variable {dst : Option Nat} {ty : Nat} {pos : String} {aft : Array Edge} {gd : Option (Nat × Bool)}
/-- A slice of whole numbers. -/
theorem o_ints {T : Nat → Prop} {t len : Nat} {parts : Array (Nat × Operand)} {e : Nat} (ys : List Int) (hm : m.loud) (ht : elem1 tb t = some (e, .int .i64, 8)) (hlen : len ≤ 16777216) (hl : setA (List.replicate len (I 0)) (partsA a parts.toList) = some (ys.map I)) (hone : ((partsA a parts.toList).all fun p => oneA p.2) = true) (hn : len = ys.length)
    (hR : ∀ q st', Fr st.n st' (some q) ys → Ex st st' → R (a.put dst (.v (.sl (some q) 0 ys.length))) st') : ALeaf P T st0 N ⟨dst, .buildSlice t len parts, ty, pos, aft, gd⟩ m R a st := by
  subst hn
  exact o_bslice (l := ys.map I) hm ht hlen hl hone (hR st.n _ (fr_push st ys) (ex_push _ _))
/-- A slice of values of one cell. -/
theorem o_blk {T : Nat → Prop} {t len : Nat} {parts : Array (Nat × Operand)} {e : Nat} {z : Z} {b : Nat} (l : List AV) (hm : m.loud) (ht : elem1 tb t = some (e, z, b)) (hlen : len ≤ 16777216) (hl : setA (List.replicate len z.av) (partsA a parts.toList) = some l) (hone : ((partsA a parts.toList).all fun p => oneA p.2) = true)
    (hR : ∀ q st', (∀ j, cell st' (some q) j = l[j]?) → Ex st st' → R (a.put dst (.v (.sl (some q) 0 len))) st') : ALeaf P T st0 N ⟨dst, .buildSlice t len parts, ty, pos, aft, gd⟩ m R a st :=
  o_bslice hm ht hlen hl hone (hR st.n _ (fun j => cell_row (st := st.push (.row true l)) (i := st.n) (Nat.lt_succ_self _) (push_ob _ _) j) (ex_push _ _))
end
end Go.Proofs.YtmphklmhhcmbnaaW.Ax
