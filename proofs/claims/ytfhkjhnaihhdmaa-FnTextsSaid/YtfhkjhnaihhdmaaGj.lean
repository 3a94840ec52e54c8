/- Texts that are drawn. -/
import Derived.Test.YtfhkjhnaihhdmaaGh
import Derived.Test.YtfhkjhnaihhdmaaXF
namespace Go.Proofs.YtfhkjhnaihhdmaaW.Ax
open Go Go.RowKit Go.Proofs Go.Proofs.Ytfhkjhnaihhdmaa.Pure
set_option linter.unusedVariables false
set_option maxRecDepth 100000

section
variable {P : Program} {tb : Tb} [TbOk P tb] {st0 : St} {N : Nat} {a : Aa} {st : St} {m : Md} {R : Aa → St → Prop} {dst : Option Nat} {ty : Nat} {pos : String} {aft : Array Edge} {gd : Option (Nat × Bool)}
theorem o_blkN {T : Nat → Prop} {t len : Nat} {parts : Array (Nat × Operand)} {e : Nat} {z : Z} {b : Nat} (l : List AV) (hm : m.loud) (ht : elem1 tb t = some (e, z, b)) (hlen : len ≤ 16777216) (hl : setA (List.replicate len z.av) (partsA a parts.toList) = some l) (hone : ((partsA a parts.toList).all fun p => oneA p.2) = true)
    (hR : ∀ q st', st.n ≤ q → q < st'.n → (∀ j, cell st' (some q) j = l[j]?) → Ex st st' → R (a.put dst (.v (.sl (some q) 0 len))) st') : ALeaf P T st0 N ⟨dst, .buildSlice t len parts, ty, pos, aft, gd⟩ m R a st :=
  o_bslice hm ht hlen hl hone (hR st.n _ (Nat.le_refl _) (Nat.lt_succ_self _) (fun j => cell_row (st := st.push (.row true l)) (i := st.n) (Nat.lt_succ_self _) (push_ob _ _) j) (ex_push _ _))
end
abbrev oblkN := @o_blkN Go.Proofs.Try.prog Tys tysOk
/-- A text is drawn, and the cursor goes on. -/
def CuT (n0 k : Nat) (r : Option Nat) (code : List Int) : AV → St → Prop := fun v st' => ∃ x, v = .str x ∧ x.size ≤ 31 ∧ CuE n0 k r code st'
theorem l4DrawText_c (n0 k : Nat) (r : Option Nat) (code : List Int) (st : St) (hc : CuE n0 k r code st) : ACalls Try.prog 121 [.ptr (some k) 0] st (fun j => j = k) (CuT n0 k r code) := by
  refine ent (N := 18) Try.func121 rfl (by decide) rfl rfl rfl ?_
  refine crr (by kernel_rfl) rfl ?_   -- region 0
  refine c_seq ?_
  refine c_rs (by kernel_rfl) ?_   -- region 1
  refine sr 1 rfl ?_
  refine s_op rfl (o_call rfl (l1Once_c n0 k r code 12 _ hc (by decide)) (fun _ _ h => h) (.inl rfl) ?_)
  rintro v1 st1 ⟨b, rfl, hc1⟩ e1
  refine s_end ?_
  refine c_if rfl (fun h5 => ?_) (fun h5 => ?_)
  · -- then
    refine crr (by kernel_rfl) rfl ?_   -- region 2
    refine c_seq ?_
    refine c_block ?_
    refine c_lp (α := ByteArray) (fun s => [(0, .ptr (some k) 0), (3, .str s)]) (fun _ => []) (fun s st' => CuE n0 k r code st' ∧ s.size ≤ 31) (fun s => 31 - s.size) ⟨#[]⟩ ⟨rfl, rfl, trivial⟩ trivial ⟨hc1, by decide⟩ ?_
    rintro s st2 ⟨hc2, hs⟩
    refine c_seq ?_
    refine c_rs (by kernel_rfl) ?_   -- region 3
    refine sr 3 rfl ?_
    refine s_op rfl (o_call rfl (l1Below_c n0 k r code 2 _ hc2 (by decide)) (fun _ _ h => h) (.inl rfl) ?_)
    rintro v3 st3 ⟨x, rfl, hx, hc3⟩ e3
    have hx := hx.1 (by decide)
    refine s_op rfl (o_ar rfl rfl rfl (by omega) (by omega) ?_)   -- 10 := binOp BinOp.add 3 (const (Value.int IntKind.i64 30)) (tmp 9) 3
    refine sra rfl ?_
    refine c_if rfl (fun h11 => ?_) (fun h11 => ?_)
    · -- then
      have h11 := of_decide_eq_true h11
      refine c_skip ?_
      refine c_block ?_
      refine c_region (by kernel_rfl) ?_   -- region 4
      refine sr 1 rfl ?_
      have hz : (s ++ (⟨#[113]⟩ : ByteArray)).size = s.size + 1 := by rw [ByteArray.size_append]; rfl
      refine s_op rfl (o_cat (u := ⟨#[113]⟩) rfl rfl (by show s.size + 1 ≤ _; omega) ?_)
      refine sra rfl ?_
      exact ⟨s ++ ⟨#[113]⟩, ⟨rfl, rfl, trivial⟩, trivial, ⟨hc3, by rw [hz]; omega⟩, by rw [hz]; omega⟩   -- round ends
    · -- else
      refine c_exit ?_
      refine crr (by kernel_rfl) rfl ?_   -- region 5
      exact c_ret (fr rfl ⟨s, rfl, hs, hc3⟩)
  · -- else
    refine c_skip ?_
    refine c_rs (by kernel_rfl) ?_   -- region 6
    refine sr 1 rfl ?_
    refine s_op rfl (oblkN (List.map AV.str [⟨#[]⟩, ⟨#[97]⟩, ⟨#[98]⟩, ⟨#[107, 101, 121]⟩, ⟨#[122, 122]⟩, ⟨#[97, 0]⟩]) loud_n rfl (by decide) rfl rfl fun q2 st2 h2 h2' hce e2 => ?_)
    refine s_op rfl (o_call rfl (l1Pick_c n0 k r (some q2) code [⟨#[]⟩, ⟨#[97]⟩, ⟨#[98]⟩, ⟨#[107, 101, 121]⟩, ⟨#[122, 122]⟩, ⟨#[97, 0]⟩] _ (hc1.ex e2) (ats_of hce) (fun j hj => by injection hj with hj; have := hc1.bd; omega) (by decide) (by decide)) (fun _ _ h => h) (.inl rfl) ?_)
    rintro v3 st3 ⟨s, rfl, hs, hc3⟩ e3
    refine sra rfl ?_
    refine c_ret (fr rfl ⟨s, rfl, ?_, hc3⟩)
    simp only [List.mem_cons, List.not_mem_nil, or_false] at hs
    rcases hs with rfl | rfl | rfl | rfl | rfl | rfl <;> decide
/-- A slab and a text that are drawn. -/
def SlS (n1 : Nat) : AV → St → Prop := fun v st' => ∃ q o l t, v = .tup [.agg [.sl q o l.length], .str t] ∧ At st' q o l ∧ l.length ≤ 2001 ∧ (∀ j, q = some j → n1 ≤ j ∧ j < st'.n) ∧ t.size ≤ 31
section
variable (r : Option Nat) (code : List Int) (st : St) (hx : AtB st r 0 code) (h8 : U8 code) (hl : code.length ≤ 1048576) (hr : ∀ j, r = some j → j < st.n)
include hx h8 hl hr
theorem DrawTextFind_c : ACalls Try.prog 73 [.sl r 0 code.length] st No (SlS st.n) := by
  refine ent (N := 17) Try.func73 rfl (by decide) rfl rfl rfl ?_
  refine crr (by kernel_rfl) rfl ?_   -- region 0
  refine c_rs (by kernel_rfl) ?_   -- region 1
  refine sr 1 rfl ?_
  refine s_op rfl (o_ex loud_n rfl (l1New_c st.n r code _ hx h8 hl (Nat.le_refl _) hr) ?_)
  rintro v1 st1 ⟨k, rfl, hk, hc1⟩ e1
  have hn1 := e1.n
  have hk1 := hc1.bd
  refine sra rfl ?_
  refine c_rs (by kernel_rfl) ?_   -- region 2
  refine sr 1 rfl ?_
  refine s_op rfl (o_call rfl (l3Draw_c st.n k r code _ hc1) (fun i hi e => absurd hi (by omega)) (.inl rfl) ?_)
  rintro v2 st2 ⟨q, o, l, p, R, rfl, S, hc2⟩ e2
  have hlen := S.len
  refine sra rfl ?_
  refine cdx [5] [] [0, 1, 2] [false, false, true] [3, 4] [.n, .q] (by kernel_rfl) (by kernel_rfl) ?_   -- region 3
  refine yr 2 rfl ?_
  refine y_b rfl rfl (b_call rfl (l4DrawText_c st.n k r code _ hc2) (fun i hi e => absurd hi (by omega)) ?_)
  rintro v3 st3 ⟨t, rfl, ht, hc3⟩ e3
  refine y_end ?_
  refine sra rfl ?_
  have S3 := S.cur hk1.2 e3
  exact c_ret (fr rfl ⟨q, o, l, t, rfl, S3.at_, hlen, fun j hj => by have := S3.bd j hj; omega, ht⟩)
theorem DrawTextPut_c : ACalls Try.prog 69 [.sl r 0 code.length] st No (SlS st.n) := by
  refine ent (N := 13) Try.func69 rfl (by decide) rfl rfl rfl ?_
  refine crr (by kernel_rfl) rfl ?_   -- region 0
  refine c_rs (by kernel_rfl) ?_   -- region 1
  refine sr 1 rfl ?_
  refine s_op rfl (o_ex loud_n rfl (DrawTextFind_c r code _ hx h8 hl hr) ?_)
  rintro v1 st1 ⟨q, o, l, t, rfl, h1, h2, h3, h4⟩ e1
  refine sra rfl ?_
  refine crr (by kernel_rfl) rfl ?_   -- region 2
  exact c_ret (fr rfl ⟨q, o, l, t, rfl, h1, h2, h3, h4⟩)
/-- A slab and one of its values that are drawn. -/
def SlV (n1 : Nat) : AV → St → Prop := fun v st' => ∃ q o l x, v = .tup [.agg [.sl q o l.length], I x] ∧ At st' q o l ∧ l.length ≤ 2001 ∧ (∀ j, q = some j → n1 ≤ j ∧ j < st'.n)
theorem DrawTextOf_c : ACalls Try.prog 72 [.sl r 0 code.length] st No (SlV st.n) := by
  refine ent (N := 18) Try.func72 rfl (by decide) rfl rfl rfl ?_
  refine crr (by kernel_rfl) rfl ?_   -- region 0
  refine c_rs (by kernel_rfl) ?_   -- region 1
  refine sr 1 rfl ?_
  refine s_op rfl (o_ex loud_n rfl (l1New_c st.n r code _ hx h8 hl (Nat.le_refl _) hr) ?_)
  rintro v1 st1 ⟨k, rfl, hk, hc1⟩ e1
  have hn1 := e1.n
  have hk1 := hc1.bd
  refine sra rfl ?_
  refine c_rs (by kernel_rfl) ?_   -- region 2
  refine sr 1 rfl ?_
  refine s_op rfl (o_call rfl (l3Draw_c st.n k r code _ hc1) (fun i hi e => absurd hi (by omega)) (.inl rfl) ?_)
  rintro v2 st2 ⟨q, o, l, p, R, rfl, S, hc2⟩ e2
  have hlen := S.len
  have hR2 := S.R2
  refine sra rfl ?_
  refine cdx [5] [] [0, 1, 2, 3] [false, false, false, true] [4, 5] [.n, .q] (by kernel_rfl) (by kernel_rfl) ?_   -- region 3
  refine yr 3 rfl ?_
  refine y_b rfl rfl (b_call rfl (l3DrawOf_c st.n k r code p R 4 _ hc2 S.fR.at_ (fun j hj => by have := S.fR.bd j hj; omega) (by omega)) (fun i hi e => absurd hi (by omega)) ?_)
  rintro v3 st3 ⟨x, rfl, hx3, hc3⟩ e3
  refine y_end ?_
  refine sra rfl ?_
  have S3 := S.cur hk1.2 e3
  exact c_ret (fr rfl ⟨q, o, l, x, rfl, S3.at_, hlen, fun j hj => by have := S3.bd j hj; omega⟩)
end
end Go.Proofs.YtfhkjhnaihhdmaaW.Ax
