/- Texts that tell numbers: rows of texts are marked, and found marked. -/
import Derived.Test.YtfnfiapacbeemaaGn
import Derived.Test.YtfnfiapacbeemaaXF
import Derived.Test.YtfnfiapacbeemaaYl
namespace Go.Proofs.YtfnfiapacbeemaaW.Ax
open Go Go.RowKit Go.Proofs Go.Proofs.Ytfnfiapacbeemaa.Pure
set_option linter.unusedVariables false
set_option maxRecDepth 100000

/-- The digits of a number, ahead of what there is. -/
def mkF : Nat → Int → ByteArray → ByteArray
  | 0, _, out => out
  | d + 1, k, out => if 0 < k then mkF d (k / 10) (bstr [48 + k % 10] ++ out) else out
def mkT (k : Int) : ByteArray := if k ≤ 0 then ⟨#[109, 48]⟩ else ⟨#[109]⟩ ++ mkF k.toNat k ⟨#[]⟩
theorem mkF_end {d : Nat} {k : Int} {out : ByteArray} (h : ¬ 0 < k) : mkF d k out = out := by
  cases d with
  | zero => rfl
  | succ d => show (if 0 < k then _ else out) = out; rw [if_neg h]
theorem bstr1 (x : Int) : (bstr [x]).size = 1 := rfl
/-- The texts of the numbers from k on. -/
def upT : Int → Nat → List ByteArray
  | _, 0 => []
  | k, n + 1 => mkT k :: upT (k + 1) n
theorem upT_len : ∀ (k : Int) (n : Nat), (upT k n).length = n
  | _, 0 => rfl
  | k, n + 1 => congrArg (· + 1) (upT_len (k + 1) n)
theorem upT_get : ∀ (k : Int) (n i : Nat), i < n → (upT k n).getD i ByteArray.empty = mkT (k + i)
  | _, 0, i, h => absurd h (by omega)
  | k, n + 1, 0, h => by simp [upT]
  | k, n + 1, i + 1, h => by
    have := upT_get (k + 1) n i (by omega)
    simp only [upT, List.getD_cons_succ, this]
    congr 1; omega
theorem upT_app : ∀ (k : Int) (n : Nat), upT k (n + 1) = upT k n ++ [mkT (k + n)]
  | k, 0 => by simp [upT]
  | k, n + 1 => by
    have := upT_app (k + 1) n
    rw [show upT k (n + 1 + 1) = mkT k :: upT (k + 1) (n + 1) from rfl, this]
    simp only [upT, List.cons_append, List.cons.injEq, true_and]
    congr 2
    congr 1; omega
theorem markT_set (l : List ByteArray) (k : Int) (i : Nat) (h : i < l.length) : (upT k i ++ l.drop i).set i (mkT (k + i)) = upT k (i + 1) ++ l.drop (i + 1) := by
  have e1 := upT_len k i
  rw [List.set_append, if_neg (by omega), e1, Nat.sub_self, List.drop_eq_getElem_cons h, List.set_cons_zero, upT_app]
  simp
theorem spl_S (l : List ByteArray) (j : Nat) (y : ByteArray) (h : j < l.length) : (l.map AV.str).take j ++ [AV.str y] ++ (l.map AV.str).drop (j + 1) = (l.set j y).map AV.str := by
  rw [List.set_eq_take_append_cons_drop, if_pos h]
  simp
section
variable {n0 : Nat} {st st' : St} {r : Option Nat} {l : List ByteArray}
theorem Ft.ext {T : Nat → Prop} (h : Ft n0 st r l) (he : Ext T st st') (hn : ∀ i, r = some i → ¬ T i) : Ft n0 st' r l := by
  rcases h with h | ⟨i, h0, h1, h2, h3⟩
  · exact .inl h
  · exact .inr ⟨i, h0, h1, Nat.lt_of_lt_of_le h2 he.n, (he.ob i h2 (hn i h0)).trans h3⟩
theorem Ft.off {r' : Option Nat} {p q p' q' : Nat} (h : Ft n0 st r l) (he : Ext (fun i => r' = some i) st st') (hb : ∀ i, r = some i → p ≤ i ∧ i < q) (hb' : ∀ i, r' = some i → p' ≤ i ∧ i < q') (hd : q ≤ p' ∨ q' ≤ p) : Ft n0 st' r l :=
  h.ext he fun i e e' => by have := hb i e; have := hb' i e'; omega
end
section
variable {P : Program} {tb : Tb} [TbOk P tb] {st0 : St} {N : Nat} {a : Aa} {st : St} {m : Md} {R : Aa → St → Prop} {dst : Option Nat} {ty : Nat} {pos : String} {aft : Array Edge} {gd : Option (Nat × Bool)}
theorem o_stT {T : Nat → Prop} {t : Nat} {x v : Operand} {r : Nat} {j : Nat} {y : ByteArray} {l : List ByteArray} {i : TyI} (ht : look tb t = some i) (hx : av a x = .ptr (some r) j) (hf : r < st.n ∧ st.ob r = .row true (l.map AV.str)) (hmay : May T st0 r) (hv : av a v = .str y) (h1 : i.zero.length = 1) (hj : j < l.length)
    (hR : R (a.put dst (.v .junk)) (st.set r (.row true ((l.set j y).map AV.str)))) : ALeaf P T st0 N ⟨dst, .store t x v, ty, pos, aft, gd⟩ .n R a st :=
  o_st (vs := [.str y]) ht hx hf.1 hmay hf.2 (by rw [hv]; rfl) rfl h1.symm (by simp; omega) (by
    have e := spl_S l j y hj
    show R _ (st.set r (.row true ((l.map AV.str).take j ++ [.str y] ++ (l.map AV.str).drop (j + 1))))
    rw [e]; exact hR)
end
abbrev ostT := @o_stT Go.Proofs.Try.prog Tys tysOk
theorem markText_c (k : Int) (st : St) (h1 : k ≤ 4398046511104) : ACalls Try.prog 25 [I k] st No (Pv (.str (mkT k))) := by
  refine ent (N := 20) Try.func25 rfl (by decide) rfl rfl rfl ?_
  refine crr (by kernel_rfl) rfl ?_   -- region 0
  refine c_seq ?_
  refine crr (by kernel_rfl) rfl ?_   -- region 1
  refine c_if rfl (fun h5 => ?_) (fun h5 => ?_)
  · -- then
    have h5 : k ≤ 0 := of_decide_eq_true h5
    have e : mkT k = ⟨#[109, 48]⟩ := by unfold mkT; rw [if_pos h5]
    rw [e]
    refine crr (by kernel_rfl) rfl ?_   -- region 2
    exact c_ret (fr rfl rfl)
  · -- else
    have h5 : ¬ k ≤ 0 := of_decide_eq_false h5
    have e : mkT k = ⟨#[109]⟩ ++ mkF k.toNat k ⟨#[]⟩ := by unfold mkT; rw [if_neg h5]
    rw [e]
    refine c_skip ?_
    refine crr (by kernel_rfl) rfl ?_   -- region 3
    refine c_seq ?_
    refine c_block ?_
    refine c_lp (α := Int × ByteArray × Nat) (fun i => [(0, I i.1), (3, .str i.2.1)]) (fun _ => []) (fun i st' => Ex st st' ∧ mkF i.2.2 i.1 i.2.1 = mkF k.toNat k ⟨#[]⟩ ∧ 0 ≤ i.1 ∧ i.1 ≤ i.2.2 ∧ i.2.1.size + i.2.2 ≤ 4398046511104) (fun i => i.2.2) (k, ⟨#[]⟩, k.toNat) ⟨rfl, rfl, trivial⟩ trivial ⟨Ext.refl _ _, rfl, by dsimp only; omega, by dsimp only; omega, by show 0 + k.toNat ≤ _; omega⟩ ?_
    rintro ⟨j, out, d⟩ st1 ⟨he, hf, h0, hd, hs⟩
    dsimp only at *
    refine c_seq ?_
    refine crr (by kernel_rfl) rfl ?_   -- region 4
    refine c_if rfl (fun h7 => ?_) (fun h7 => ?_)
    · -- then
      have h7 : 0 < j := of_decide_eq_true h7
      obtain ⟨d, rfl⟩ : ∃ d', d = d' + 1 := ⟨d - 1, by omega⟩
      have hf : mkF d (j / 10) (bstr [48 + j % 10] ++ out) = mkF k.toNat k ⟨#[]⟩ := by rw [← hf, mkF, if_pos h7]
      have hz : (bstr [48 + j % 10] ++ out).size = out.size + 1 := by rw [ByteArray.size_append, bstr1]; omega
      refine c_skip ?_
      refine c_block ?_
      refine c_rs (by kernel_rfl) ?_   -- region 5
      refine sr 1 rfl ?_
      refine s_op rfl (o_rem rfl rfl h0 (by omega) ?_)
      refine s_op rfl (o_ar rfl rfl rfl (by omega) (by omega) ?_)   -- 10 := binOp BinOp.add 3 (const (Value.int IntKind.i64 48)) (tmp 9) 3
      refine s_op rfl (oconv rfl rfl rfl rfl (by rw [IntKind.wrap_u8]; omega) ?_)
      refine s_op rfl (oblk [B8 (48 + j % 10)] loud_n rfl (by decide) rfl rfl fun q st2 hce e2 => ?_)
      refine s_op rfl (obstr rfl ⟨_, rfl, rfl⟩ rfl rfl (ns := [48 + j % 10]) ?_ ?_)
      · refine ⟨some q, 0, rfl, fun i hi => ?_⟩
        have hi : i = 0 := by simp at hi; exact hi
        subst hi
        rw [hce]; rfl
      refine sr 1 rfl ?_
      refine s_op rfl (o_cat rfl rfl (by rw [bstr1]; omega) ?_)
      refine sra rfl ?_
      refine c_region (by kernel_rfl) ?_   -- region 6
      refine sr 1 rfl ?_
      refine s_op rfl (o_quo rfl rfl h0 (by omega) (by omega) ?_)
      exact sra rfl ⟨(j / 10, bstr [48 + j % 10] ++ out, d), ⟨rfl, rfl, trivial⟩, trivial, ⟨he.tr e2, hf, by dsimp only; omega, by dsimp only; omega, by dsimp only; rw [hz]; omega⟩, by dsimp only; omega⟩   -- round ends
    · -- else
      have h7 : ¬ 0 < j := of_decide_eq_false h7
      rw [mkF_end h7] at hf
      rw [← hf]
      refine c_exit ?_
      refine c_rs (by kernel_rfl) ?_   -- region 7
      refine sr 1 rfl ?_
      refine s_op rfl (o_cat (s := ⟨#[109]⟩) rfl rfl (by show 1 + out.size ≤ _; omega) ?_)
      refine sra rfl ?_
      exact c_ret (fr rfl rfl)
def MkT (n0 : Nat) (st : St) (r : Option Nat) (k : Int) (n : Nat) : AV → St → Prop := fun v st' => v = I (k + n) ∧ Ft n0 st' r (upT k n) ∧ Ext (fun i => r = some i) st st'
theorem markStringS_c (n0 : Nat) (r : Option Nat) (l : List ByteArray) (k : Int) (st : St) (hf : Ft n0 st r l) (hl : l.length ≤ 1099511627776) (h0 : 0 ≤ k) (h1 : k ≤ 1099511627776) : ACalls Try.prog 11 [.sl r 0 l.length, I k] st (fun i => r = some i) (MkT n0 st r k l.length) := by
  refine ent (N := 20) Try.func11 rfl (by decide) rfl rfl rfl ?_
  refine crr (by kernel_rfl) rfl ?_   -- region 0
  refine c_seq ?_
  refine crr (by kernel_rfl) rfl ?_   -- region 1
  refine c_block ?_
  refine c_lp (α := Nat) (fun i => [(0, .sl r 0 l.length), (1, I (k + i)), (5, I i)]) (fun i => []) (fun i st' => i ≤ l.length ∧ Ext (fun i => r = some i) st st' ∧ Ft n0 st' r (upT k i ++ l.drop i)) (fun i => l.length - i) 0 ⟨rfl, by show I k = I (k + ((0 : Nat) : Int)); simp, rfl, trivial⟩ trivial ⟨by omega, Ext.refl _ _, by simpa [upT] using hf⟩ ?_
  rintro i st' ⟨hi, he, hf'⟩
  refine c_seq ?_
  refine crr (by kernel_rfl) rfl ?_   -- region 2
  refine c_if rfl (fun h9 => ?_) (fun h9 => ?_)
  · -- then
    have h9 := of_decide_eq_true h9
    refine c_skip ?_
    refine c_seq ?_
    refine c_block ?_
    refine c_rs (by kernel_rfl) ?_   -- region 4
    refine sr 3 rfl ?_
    refine s_op rfl (o_ex loud_n rfl (markText_c (k + i) _ (by omega)) ?_)
    rintro v2 st2 rfl e2
    have hf2 := hf'.ex e2
    rcases hf2 with ⟨_, h⟩ | ⟨q, rfl, g1, g2, g3⟩
    · have := congrArg List.length h; simp [upT_len] at this; omega
    refine s_op rfl (oidx rfl rfl rfl (by omega) (by omega) ?_)   -- 16 := indexAddr 26 (tmp 12) (tmp 13)
    refine s_op rfl (ostT rfl rfl ⟨g2, g3⟩ (fun _ => rfl) rfl rfl (by simp [upT_len]; omega) ?_)   -- none := store 9 (tmp 16) (tmp 15)
    refine s_end ?_
    refine c_region (by kernel_rfl) ?_   -- region 5
    refine sr 1 rfl ?_
    refine s_op rfl (o_ar rfl rfl rfl (by omega) (by omega) ?_)
    refine sr 1 rfl (s_end ?_)
    refine c_region (by kernel_rfl) ?_   -- region 3
    refine sr 1 rfl ?_
    refine s_op rfl (o_ar rfl rfl rfl (by omega) (by omega) ?_)
    refine sr 1 rfl (s_end ?_)
    refine ⟨i + 1, ⟨rfl, ?_, ?_, trivial⟩, trivial, ⟨by omega, (he.trans (T' := fun _ => False) e2 (fun _ _ h => h.elim)).trans (T' := (· = q)) (ext_set _ _ _) (fun _ _ h => by rw [h]), ?_⟩, by omega⟩
    · show AV.int .i64 _ = AV.int .i64 _
      congr 1; omega
    · show AV.int .i64 _ = _
      rw [Int.natCast_add]; rfl
    · have e := markT_set l k i (by omega)
      rw [← e]
      refine .inr ⟨q, rfl, g1, g2, ?_⟩
      rw [set_ob]
      simp
  · -- else
    have h9 := of_decide_eq_false h9
    have e : i = l.length := by omega
    refine c_exit ?_
    refine crr (by kernel_rfl) rfl ?_   -- region 6
    refine c_ret (fr rfl ⟨by rw [e], ?_, he⟩)
    subst e
    simpa using hf'
theorem heldStringS_c (r : Option Nat) (n : Nat) (k : Int) (st : St) (hx : AtT st r 0 (upT k n)) (hl : n ≤ 1099511627776) (h0 : 0 ≤ k) (h1 : k ≤ 1099511627776) : ACalls Try.prog 12 [.sl r 0 n, I k] st No (Pv (I (k + n))) := by
  refine ent (N := 22) Try.func12 rfl (by decide) rfl rfl rfl ?_
  refine crr (by kernel_rfl) rfl ?_   -- region 0
  refine c_seq ?_
  refine crr (by kernel_rfl) rfl ?_   -- region 1
  refine c_block ?_
  refine c_lp (α := Nat) (fun i => [(0, .sl r 0 n), (1, I (k + i)), (5, I i)]) (fun i => []) (fun i st' => Ex st st' ∧ i ≤ n) (fun i => n - i) 0 ⟨rfl, by show I k = I (k + ((0 : Nat) : Int)); simp, rfl, trivial⟩ trivial ⟨Ext.refl _ _, by omega⟩ ?_
  rintro i st' ⟨he, hi⟩
  have hn := upT_len k n
  refine c_seq ?_
  refine crr (by kernel_rfl) rfl ?_   -- region 2
  refine c_if rfl (fun h9 => ?_) (fun h9 => ?_)
  · -- then
    have h9 := of_decide_eq_true h9
    have hg := upT_get k n i (by omega)
    have hc := (hx.ex he) (i : Int).toNat (by omega)
    rw [Int.toNat_natCast, hg] at hc
    refine c_skip ?_
    refine c_seq ?_
    refine c_block ?_
    refine c_seq ?_
    refine cds [0, 1, 2, 3, 4, 5, 6] [.q, .q, .q, .q, .q, .f, .q] (by kernel_rfl) (by kernel_rfl) ?_   -- region 4
    refine sr 2 rfl ?_
    refine s_op rfl (oidx rfl rfl rfl (by omega) (by omega) ?_)   -- 14 := indexAddr 26 (tmp 12) (tmp 13)
    refine s_op rfl (old rfl rfl hc ?_)   -- 15 := load 9 (tmp 14)
    refine sr 1 rfl ?_
    refine s_op rfl (o_ex loud_f rfl (markText_c (k + i) _ (by omega)) ?_)
    rintro v2 st2 rfl e2
    refine s_op rfl (oeq rfl (.v (.bool false)) (by simp) ?_)
    refine s_end ?_
    refine c_if_f rfl ?_
    refine c_skip ?_
    refine c_region (by kernel_rfl) ?_   -- region 6
    refine sr 1 rfl ?_
    refine s_op rfl (o_ar rfl rfl rfl (by omega) (by omega) ?_)
    refine sr 1 rfl (s_end ?_)
    refine c_region (by kernel_rfl) ?_   -- region 3
    refine sr 1 rfl ?_
    refine s_op rfl (o_ar rfl rfl rfl (by omega) (by omega) ?_)
    refine sr 1 rfl (s_end ?_)
    refine ⟨i + 1, ⟨rfl, ?_, ?_, trivial⟩, trivial, ⟨he.tr e2, by omega⟩, by omega⟩
    · show AV.int .i64 _ = AV.int .i64 _
      congr 1; omega
    · show AV.int .i64 _ = _
      rw [Int.natCast_add]; rfl
  · -- else
    have h9 := of_decide_eq_false h9
    refine c_exit ?_
    refine crr (by kernel_rfl) rfl ?_   -- region 7
    have hin : i = n := by omega
    subst hin
    exact c_ret (fr rfl rfl)
theorem eqStringS_t (r r' : Option Nat) (o o' : Nat) (l : List ByteArray) (st : St) (hx : AtT st r o l) (hy : AtT st r' o' l) (hl : l.length ≤ 1099511627776) : ACalls Try.prog 8 [.sl r o l.length, .sl r' o' l.length] st No (Pure1 (.bool true) st) := by
  refine ent (N := 26) Try.func8 rfl (by decide) rfl rfl rfl ?_
  refine crr (by kernel_rfl) rfl ?_   -- region 0
  refine c_seq ?_
  refine crr (by kernel_rfl) rfl ?_   -- region 1
  refine c_if rfl (fun h10 => ?_) (fun h10 => ?_)
  · -- then
    exact absurd h10 (by simp)
  · -- else
    refine c_skip ?_
    refine c_seq ?_
    refine crr (by kernel_rfl) rfl ?_   -- region 3
    refine c_block ?_
    refine c_lp (α := Nat) (fun i => [(0, .sl r o l.length), (1, .sl r' o' l.length), (5, I i)]) (fun i => []) (fun i st' => st = st' ∧ i ≤ l.length) (fun i => l.length - i) 0 ⟨rfl, rfl, rfl, trivial⟩ trivial ⟨rfl, by omega⟩ ?_
    rintro i st' ⟨rfl, hi⟩
    refine c_seq ?_
    refine crr (by kernel_rfl) rfl ?_   -- region 4
    refine c_if rfl (fun h14 => ?_) (fun h14 => ?_)
    · -- then
      have h14 := of_decide_eq_true h14
      refine c_skip ?_
      refine c_seq ?_
      refine c_block ?_
      refine cds [0, 1, 2, 3, 4, 5, 6, 7, 8] [.q, .q, .q, .q, .q, .q, .q, .q, .q] (by kernel_rfl) (by kernel_rfl) ?_   -- region 6
      refine sr 2 rfl ?_
      refine s_op rfl (oidx rfl rfl rfl (by omega) (by omega) ?_)   -- 19 := indexAddr 22 (tmp 17) (tmp 18)
      refine s_op rfl (old rfl rfl (hx (i : Int).toNat (by omega)) ?_)   -- 20 := load 3 (tmp 19)
      refine sr 2 rfl ?_
      refine s_op rfl (oidx rfl rfl rfl (by omega) (by omega) ?_)   -- 23 := indexAddr 22 (tmp 21) (tmp 22)
      refine s_op rfl (old rfl rfl (hy (i : Int).toNat (by omega)) ?_)   -- 24 := load 3 (tmp 23)
      refine s_op rfl (oeq rfl (.v (.bool false)) (by simp) ?_)
      refine s_end ?_
      refine c_if_f rfl ?_
      refine c_skip ?_
      refine c_region (by kernel_rfl) ?_   -- region 5
      refine sr 1 rfl ?_
      refine s_op rfl (o_ar rfl rfl rfl (by omega) (by omega) ?_)
      refine sra rfl ?_
      exact ⟨i + 1, ⟨rfl, rfl, rfl, trivial⟩, trivial, ⟨rfl, by omega⟩, by omega⟩
    · -- else
      refine c_exit ?_
      refine crr (by kernel_rfl) rfl ?_   -- region 8
      exact c_ret (fr rfl ⟨rfl, rfl⟩)
end Go.Proofs.YtfnfiapacbeemaaW.Ax
