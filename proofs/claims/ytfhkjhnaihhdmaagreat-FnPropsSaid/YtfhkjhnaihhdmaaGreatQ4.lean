/- Merged: Yt Yu Yv Yw Yx Yy. -/
import Derived.Test.YtfhkjhnaihhdmaaGreatQ3
import Derived.Test.YtfhkjhnaihhdmaaGreatQ2
import Derived.Test.YtfhkjhnaihhdmaaGreatXU
/- What is taken of a slab: walked. -/
namespace Go.Proofs.YtfhkjhnaihhdmaaGreatW.Ax
open Go Go.RowKit Go.Proofs Go.Proofs.YtfhkjhnaihhdmaaGreat.Pure
set_option linter.unusedVariables false
set_option maxRecDepth 100000

/-- What is taken of a row of one's own: the same row. -/
def Tv (n0 : Nat) (st : St) (r : Option Nat) (l : List Int) (x : Int) (b : Bool) : AV → St → Prop := fun v st' => v = .tup [.agg [.sl r 0 l.length], I x, .bool b] ∧ Fr n0 st' r l ∧ Ext (fun i => r = some i) st st'
/-- A slab that is new, a number, whether it went. -/
def Nw (st : St) (l : List Int) (x : Int) (b : Bool) : AV → St → Prop := fun v st' => ∃ r, v = .tup [.agg [.sl r 0 l.length], I x, .bool b] ∧ Fr st.n st' r l
theorem own_ge {s n : Nat} (h : 2 ≤ n) (hs : n ≤ s) : 2 ≤ ownN s n ∧ ownN s n ≤ s ∧ n ≤ ownN s n := by unfold ownN; split <;> omega
theorem tk_some {l : List Int} {n : Nat} {k : Int} {i : Nat} (h : slot l n (blocks l) = some (i : Int)) : tkL l k n = put (cutL l i n) i (8 * (ownN (size l i) n : Int) + k) (ownN (size l i) n) ∧ tkA l n = i ∧ tkO l n = true := by
  unfold tkL tkA tkO
  rw [h]
  exact ⟨rfl, rfl, rfl⟩
theorem tk_none {l : List Int} {n : Nat} {k : Int} (h : slot l n (blocks l) = none) : tkL l k n = l ∧ tkA l n = 0 ∧ tkO l n = false := by
  unfold tkL tkA tkO
  rw [h]
  exact ⟨rfl, rfl, rfl⟩
theorem l2Take_c (n0 : Nat) (r : Option Nat) (l : List Int) (k : Int) (n : Nat) (st : St) (hf : Fr n0 st r l) (hok : okB l = true) (hk : 0 ≤ k ∧ k ≤ 5) (hn2 : 2 ≤ n) (hn : n ≤ 9223372036854775807) :
    ACalls Tryz.prog 174 [.agg [.sl r 0 l.length], I k, I n] st (fun i => r = some i) (Tv n0 st r (tkL l k n) (tkA l n) (tkO l n)) := by
  have hlen := okB_len hok
  have hb := (blocks_of hok).2
  have hx := hf.at_
  refine ent (N := 80) Tryz.func174 rfl (by decide) rfl rfl rfl ?_
  refine crr (by kernel_rfl) rfl ?_   -- region 0
  refine c_seq ?_
  refine crr (by kernel_rfl) rfl ?_   -- region 1
  refine c_block ?_
  refine c_lp (α := Nat × List Int) (fun i => [(1, I k), (2, I n), (9, I i.1)]) (fun _ => [(3, 3, [.sl r 0 l.length]), (6, 6, [.sl none 0 0])])
    (fun i st' => st = st' ∧ i.1 ≤ l.length ∧ walk l i.1 = some i.2 ∧ slot l n (blocks l) = slot l n i.2) (fun i => l.length - i.1) (0, blocks l) ⟨rfl, rfl, rfl, trivial⟩ ⟨rfl, rfl, rfl, rfl, trivial⟩ ⟨rfl, by omega, hb, rfl⟩ ?_
  rintro ⟨i, rest⟩ st' ⟨rfl, hi, hw, hd⟩
  dsimp only at *
  refine c_seq ?_
  refine crr (by kernel_rfl) rfl ?_   -- region 2
  refine c_if rfl (fun h17 => ?_) (fun h17 => ?_)
  · -- then
    have h17 := of_decide_eq_true h17
    obtain ⟨hh, r', rfl, hw'⟩ := walk_cons hw (by omega)
    have hs := size_pos hh
    have hse := size_eq hh
    refine c_skip ?_
    refine c_seq ?_
    refine c_block ?_
    refine c_rs (by kernel_rfl) ?_   -- region 4
    refine sr 3 rfl ?_
    refine s_op rfl (oidx rfl rfl rfl (by omega) (by omega) ?_)   -- 29 := indexAddr 22 (tmp 27) (tmp 28)
    refine s_op rfl (old rfl rfl (hx.rd (by omega) (by omega)) ?_)   -- 30 := load 3 (tmp 29)
    refine s_op rfl (o_pure loud_n rfl (l2Size_c ..) ?_)
    rw [← hse]
    refine sra rfl ?_
    refine c_seq ?_
    refine c_sj (α := Bool) (fun b => [(1, I k), (2, I n), (9, I i), (10, I (size l i : Nat)), (43, .bool b)]) (fun _ => [(3, 3, [.sl r 0 l.length]), (6, 6, [.sl none 0 0])]) (fun b st' => st = st' ∧ (b = true ↔ ¬ (kindOf l i = 0 ∧ (n : Int) ≤ size l i))) ?_ ?_
    · -- region 5
      refine c_region (by kernel_rfl) ?_
      refine sr 3 rfl ?_
      refine s_op rfl (oidx rfl rfl rfl (by omega) (by omega) ?_)   -- 35 := indexAddr 22 (tmp 33) (tmp 34)
      refine s_op rfl (old rfl rfl (hx.rd (by omega) (by omega)) ?_)   -- 36 := load 3 (tmp 35)
      refine s_op rfl (o_pure loud_n rfl (l2Kind_c ..) ?_)
      rw [rd_kind]
      refine sr 2 rfl ?_
      refine s_bool 39 rfl rfl (fun h39 => ?_) (fun h39 => ?_)
      · have h39 := ndt h39
        refine sra rfl ⟨true, ⟨rfl, rfl, rfl, rfl, rfl, trivial⟩, ⟨rfl, rfl, rfl, rfl, trivial⟩, rfl, ⟨fun _ h => h39 h.1, fun _ => rfl⟩⟩
      · have h39 := ndf h39
        refine sra rfl ⟨_, ⟨rfl, rfl, rfl, rfl, rfl, trivial⟩, ⟨rfl, rfl, rfl, rfl, trivial⟩, rfl, ?_⟩
        exact ⟨fun h h2 => by have := of_decide_eq_true h; omega, fun h => decide_eq_true (by omega)⟩
    rintro b st1 ⟨rfl, hb1⟩
    refine c_if rfl (fun h43 => ?_) (fun h43 => ?_)
    · -- then
      have h43 := hb1.1 h43
      refine c_exit ?_
      refine c_region (by kernel_rfl) ?_   -- region 3
      refine sr 4 rfl ?_
      refine s_op rfl (oidx rfl rfl rfl (by omega) (by omega) ?_)   -- 22 := indexAddr 22 (tmp 20) (tmp 21)
      refine s_op rfl (old rfl rfl (hx.rd (by omega) (by omega)) ?_)   -- 23 := load 3 (tmp 22)
      refine s_op rfl (o_pure loud_n rfl (l2Size_c ..) ?_)
      rw [← hse]
      refine s_op rfl (o_ar rfl rfl rfl (by omega) (by omega) ?_)   -- 25 := binOp BinOp.add 3 (tmp 18) (tmp 24) 3
      refine sra rfl ⟨(i + size l i, r'), ⟨rfl, rfl, ?_, trivial⟩, ⟨rfl, rfl, rfl, rfl, trivial⟩, ⟨rfl, by dsimp only; omega, hw', ?_⟩, by dsimp only; omega⟩
      · show I _ = I _
        congr 1
      · rw [hd, slot, if_neg (by simpa using h43)]
    · -- else
      have h43 : kindOf l i = 0 ∧ (n : Int) ≤ size l i := Classical.byContradiction fun h => by rw [hb1.2 h] at h43; cases h43
      have hsl : slot l n (blocks l) = some (i : Int) := by rw [hd, slot, if_pos (by simpa using h43)]
      obtain ⟨hT1, hT2, hT3⟩ := tk_some (k := k) hsl
      have how := own_ge hn2 (show n ≤ size l i by omega)
      have hl0 : l ≠ [] := fun h => by rw [h] at h17; simp at h17; omega
      obtain ⟨q, rfl⟩ := hf.some_of hl0
      refine c_skip ?_
      refine c_rs (by kernel_rfl) ?_   -- region 6
      refine sr 2 rfl ?_
      refine s_op rfl (o_ar rfl rfl rfl (by omega) (by omega) ?_)   -- 46 := binOp BinOp.sub 3 (tmp 44) (tmp 45) 3
      refine sra rfl ?_
      refine c_sj (fun _ : Unit => [(1, I k), (2, I (ownN (size l i) n : Nat)), (9, I i)]) (fun _ => [(3, 3, [.sl (some q) 0 l.length]), (6, 6, [.sl none 0 0])]) (fun _ st' => Fr n0 st' (some q) (cutL l i n) ∧ Ext (fun i => some q = some i) st st') ?_ ?_
      · -- ways that meet
        refine crr (by kernel_rfl) rfl ?_   -- region 7
        refine c_if rfl (fun h48 => ?_) (fun h48 => ?_)
        · -- then
          have h48 := of_decide_eq_true h48
          refine c_region (by kernel_rfl) ?_   -- region 8
          refine sra rfl ⟨(), ⟨rfl, ?_, rfl, trivial⟩, ⟨rfl, rfl, rfl, rfl, trivial⟩, ?_, Ext.refl _ _⟩
          · show I _ = I _
            rw [ownN, if_pos (by omega)]
          · rw [cutL, if_pos (by omega)]; exact hf
        · -- else
          have h48 := of_decide_eq_false h48
          refine c_region (by kernel_rfl) ?_   -- region 9
          refine sr 4 rfl ?_
          refine s_op rfl (o_ar rfl rfl rfl (by omega) (by omega) ?_)   -- 54 := binOp BinOp.add 3 (tmp 52) (tmp 53) 3
          refine sr 1 rfl ?_
          refine s_op rfl (o_ar rfl rfl rfl (by omega) (by omega) ?_)   -- 56 := binOp BinOp.mul 3 (const (Value.int IntKind.i64 8)) (tmp 55) 3
          refine s_op rfl (oidx rfl rfl rfl (by omega) (by omega) ?_)   -- 57 := indexAddr 22 (tmp 51) (tmp 54)
          refine s_op rfl (ostI rfl rfl hf.ob.2 (fun _ => rfl) rfl rfl (by omega) ?_)
          refine s_end ⟨(), ⟨rfl, ?_, rfl, trivial⟩, ⟨rfl, rfl, rfl, rfl, trivial⟩, ?_, ?_⟩
          · show I _ = I _
            rw [ownN, if_neg (by omega)]
          · have := hf.set (l' := cutL l i n)
            have e : cutL l i n = l.set (0 + ((i : Int) + (n : Int)).toNat) (8 * ((size l i : Int) - n)) := by rw [cutL, if_neg (by omega), show 0 + ((i : Int) + (n : Int)).toNat = i + n by omega]
            rw [e] at this ⊢
            exact this
          · have := ext_set st q (.row true ((l.set (0 + ((i : Int) + (n : Int)).toNat) (8 * ((size l i : Int) - n))).map I))
            exact ⟨this.n, fun j hj hn => this.ob j hj fun e => hn (by rw [e])⟩
      rintro _ st1 ⟨hf1, he1⟩
      have hcl := cutL_len l i n
      refine c_rs (by kernel_rfl) ?_   -- region 10
      refine sr 4 rfl ?_
      refine s_op rfl (o_ar rfl rfl rfl (by omega) (by omega) ?_)   -- 62 := binOp BinOp.mul 3 (const (Value.int IntKind.i64 8)) (tmp 61) 3
      refine sr 1 rfl ?_
      refine s_op rfl (o_ar rfl rfl rfl (by omega) (by omega) ?_)   -- 64 := binOp BinOp.add 3 (tmp 62) (tmp 63) 3
      refine s_op rfl (oidx rfl rfl rfl (by omega) (by omega) ?_)   -- 65 := indexAddr 22 (tmp 59) (tmp 60)
      refine s_op rfl (ostI rfl rfl hf1.ob.2 (fun _ => rfl) rfl rfl (by omega) ?_)
      have hf2 := hf1.set (l' := (cutL l i n).set (0 + (i : Int).toNat) (8 * ((ownN (size l i) n : Nat) : Int) + k))
      have he2 : Ext (fun i => some q = some i) st1 (st1.set q (.row true (((cutL l i n).set (0 + (i : Int).toNat) (8 * ((ownN (size l i) n : Nat) : Int) + k)).map I))) := by
        have := ext_set st1 q (.row true (((cutL l i n).set (0 + (i : Int).toNat) (8 * ((ownN (size l i) n : Nat) : Int) + k)).map I))
        exact ⟨this.n, fun j hj hn => this.ob j hj fun e => hn (by rw [e])⟩
      have he3 := he1.trans he2 (fun _ _ h => h)
      refine s_end ?_
      refine c_seq ?_
      refine crr (by kernel_rfl) rfl ?_   -- region 11
      refine c_block ?_
      refine c_lp (α := Nat) (fun j => [(2, I (ownN (size l i) n : Nat)), (9, I i), (12, I j)]) (fun _ => [(3, 3, [.sl (some q) 0 l.length]), (6, 6, [.sl none 0 0])])
        (fun j st' => 1 ≤ j ∧ j ≤ ownN (size l i) n ∧ Fr n0 st' (some q) (put (cutL l i n) i (8 * (ownN (size l i) n : Int) + k) j) ∧ Ext (fun i => some q = some i) st st') (fun j => ownN (size l i) n - j) 1 ⟨rfl, rfl, rfl, trivial⟩ ⟨rfl, rfl, rfl, rfl, trivial⟩
        ⟨by omega, by omega, ?_, he3⟩ ?_
      · rw [← put_one _ _ _ (by omega)]
        rw [show (0 + (i : Int).toNat) = i by omega] at hf2
        simpa using hf2
      rintro j st2 ⟨hj1, hj2, hfj, hej⟩
      have hpl := put_len (cutL l i n) i (8 * (ownN (size l i) n : Int) + k) j (by omega)
      refine c_seq ?_
      refine crr (by kernel_rfl) rfl ?_   -- region 12
      refine c_if rfl (fun h68 => ?_) (fun h68 => ?_)
      · -- then
        have h68 := of_decide_eq_true h68
        refine c_skip ?_
        refine c_seq ?_
        refine c_block ?_
        refine c_region (by kernel_rfl) ?_   -- region 14
        refine sr 4 rfl ?_
        refine s_op rfl (o_ar rfl rfl rfl (by omega) (by omega) ?_)   -- 75 := binOp BinOp.add 3 (tmp 73) (tmp 74) 3
        refine s_op rfl (oidx rfl rfl rfl (by omega) (by omega) ?_)   -- 76 := indexAddr 22 (tmp 72) (tmp 75)
        refine s_op rfl (ostI rfl rfl hfj.ob.2 (fun _ => rfl) rfl rfl (by omega) ?_)
        refine s_end ?_
        refine c_region (by kernel_rfl) ?_   -- region 13
        refine sr 1 rfl ?_
        refine s_op rfl (o_ar rfl rfl rfl (by omega) (by omega) ?_)   -- 70 := binOp BinOp.add 3 (tmp 69) (const (Value.int IntKind.i64 1)) 3
        refine sra rfl ⟨j + 1, ⟨rfl, rfl, rfl, trivial⟩, ⟨rfl, rfl, rfl, rfl, trivial⟩, ⟨by omega, by omega, ?_, ?_⟩, by omega⟩
        · have := hfj.set (l' := (put (cutL l i n) i (8 * (ownN (size l i) n : Int) + k) j).set (0 + ((i : Int) + (j : Int)).toNat) 0)
          rw [show 0 + ((i : Int) + (j : Int)).toNat = i + j by omega] at this ⊢
          rw [put_step _ _ _ _ (by omega) (by omega)] at this ⊢
          exact this
        · have := ext_set st2 q (.row true (((put (cutL l i n) i (8 * (ownN (size l i) n : Int) + k) j).set (0 + ((i : Int) + (j : Int)).toNat) 0).map I))
          exact hej.trans (T' := (· = q)) this (fun _ _ h => by rw [h])
      · -- else
        have h68 := of_decide_eq_false h68
        have hjj : j = ownN (size l i) n := by omega
        refine c_exit ?_
        refine crr (by kernel_rfl) rfl ?_   -- region 15
        refine c_ret (fr rfl ⟨?_, ?_, hej⟩)
        · rw [tkL_len, hT2, hT3]
        · rw [hT1, ← hjj]; rw [← hjj] at hfj; exact hfj
  · -- else
    have h17 := of_decide_eq_false h17
    have := walk_nil hw (by omega)
    subst this
    obtain ⟨hT1, hT2, hT3⟩ := tk_none (k := k) (show slot l n (blocks l) = none from hd)
    refine c_exit ?_
    refine crr (by kernel_rfl) rfl ?_   -- region 16
    refine c_ret (fr rfl ⟨?_, ?_, Ext.refl _ _⟩)
    · rw [hT1, hT2, hT3]
    · rw [hT1]; exact hf
theorem iSlabOk_c (r : Option Nat) (o : Nat) (l : List Int) (st : St) (hx : At st r o l) : ACalls Tryz.prog 86 [.agg [.sl r o l.length]] st No (Pv (.bool (okB l))) := by
  refine ent (N := 11) Tryz.func86 rfl (by decide) rfl rfl rfl ?_
  refine crr (by kernel_rfl) rfl ?_   -- region 0
  refine c_rs (by kernel_rfl) ?_   -- region 1
  refine sr 1 rfl ?_
  refine s_op rfl (o_ex loud_n rfl (places_c _ _ _ _ hx) ?_)
  rintro v1 st1 ⟨q, rfl, hf⟩ e1
  refine sra rfl ?_
  refine crr (by kernel_rfl) rfl ?_   -- region 2
  exact c_ret (fr rfl rfl)
theorem iTake_c (r : Option Nat) (o : Nat) (l : List Int) (k : Int) (n : Nat) (st : St) (hx : At st r o l) (hok : okB l = true) (hk : 1 ≤ k ∧ k ≤ 5) (hn2 : 2 ≤ n) (hn : n ≤ 9223372036854775807) :
    ACalls Tryz.prog 172 [.agg [.sl r o l.length], I k, I n] st No (Nw st (tkL l k n) (tkA l n) (tkO l n)) := by
  have hlen := okB_len hok
  have hbl := blocks_lel l
  refine ent (N := 89) Tryz.func172 rfl (by decide) rfl rfl rfl ?_
  refine crr (by kernel_rfl) rfl ?_   -- region 0
  refine c_seq ?_
  refine c_rs (by kernel_rfl) ?_   -- region 1
  refine sr 1 rfl ?_
  refine s_op rfl (o_ex loud_n rfl (iSlabOk_c _ _ _ _ hx) ?_)
  rintro v1 st1 rfl e1
  rw [hok]
  refine sra rfl ?_
  refine c_if_f rfl ?_
  have hx1 := hx.ex e1
  refine c_skip ?_
  refine c_rs (by kernel_rfl) ?_   -- region 3
  refine sr 1 rfl ?_
  refine s_op rfl (o_ex loud_n rfl (copySlab_c _ _ _ _ hx1 (by omega)) ?_)
  rintro v2 st2 ⟨q, rfl, hf⟩ e2
  have hx2 := hx1.ex e2
  have e12 := e1.tr e2
  have hf : Fr st.n st2 q l := hf.le e1.n
  refine sra rfl ?_
  refine c_seq ?_
  refine c_rj [(1, I k), (2, I n), (26, .bool false)] [(3, 3, [.sl r o l.length]), (6, 6, [.sl none 0 0]), (9, 9, [.sl q 0 l.length])] (by kernel_rfl) ?_ ?_
  · -- region 4
    refine sr 1 rfl ?_
    refine s_op rfl (o_pure loud_n rfl (within_c ..) ?_)
    rw [decide_eq_true hk]
    refine sra rfl ⟨⟨rfl, rfl, ?_, trivial⟩, ⟨rfl, rfl, rfl, rfl, rfl, rfl, trivial⟩, rfl⟩
    show AV.bool (decide ((n : Int) < 2)) = _
    rw [decide_eq_false (by omega)]
  refine c_if_f rfl ?_
  refine c_skip ?_
  refine c_seq ?_
  refine c_rs (by kernel_rfl) ?_   -- region 6
  refine sr 1 rfl ?_
  refine s_op rfl (o_ex loud_n rfl (iBlocks_c _ _ _ _ hx2) ?_)
  rintro v3 st3 ⟨p, rfl, hp⟩ e3
  have hx3 := hx2.ex e3
  have e13 := e12.tr e3
  replace hf := hf.ex e3
  refine sra rfl ?_
  refine c_block ?_
  refine c_lp (α := Nat) (fun i => [(1, I k), (2, I n), (29, .sl p 0 (blocks l).length), (30, I (blocks l).length), (31, I i)]) (fun _ => [(3, 3, [.sl r o l.length]), (6, 6, [.sl none 0 0]), (9, 9, [.sl q 0 l.length])])
    (fun i st' => st3 = st' ∧ i ≤ (blocks l).length ∧ ∀ j : Nat, j < i → ¬ (kindOf l (rd (blocks l) j).toNat = 0 ∧ (n : Int) ≤ size l (rd (blocks l) j).toNat)) (fun i => (blocks l).length - i) 0 ⟨rfl, rfl, rfl, rfl, rfl, trivial⟩ ⟨rfl, rfl, rfl, rfl, rfl, rfl, trivial⟩ ⟨rfl, by omega, fun j hj => by omega⟩ ?_
  rintro i st' ⟨rfl, hi, hn'⟩
  refine crr (by kernel_rfl) rfl ?_   -- region 7
  refine c_seq ?_
  refine c_if rfl (fun h32 => ?_) (fun h32 => ?_)
  · -- then
    have h32 := of_decide_eq_true h32
    have hib : rd (blocks l) i ∈ blocks l := mem_rd (by omega)
    obtain ⟨a, ha⟩ : ∃ a : Nat, rd (blocks l) i = a := ⟨(rd (blocks l) i).toNat, by have := (block_at hib).1; omega⟩
    have hba := block_at hib
    rw [ha] at hib hba
    have hh := hba.2.2.1
    rw [Int.toNat_natCast] at hh
    have hs := size_pos hh
    have hse := size_eq hh
    refine c_skip ?_
    refine c_seq ?_
    refine c_block ?_
    refine c_rs (by kernel_rfl) ?_   -- region 8
    refine s_op rfl (oidx rfl rfl rfl (by omega) (by omega) ?_)   -- 33 := indexAddr 22 (tmp 29) (tmp 31)
    refine s_op rfl (old rfl rfl (hp.at_.rd (by omega) (by omega)) ?_)   -- 34 := load 3 (tmp 33)
    rw [ha]
    refine sra rfl ?_
    refine c_rs (by kernel_rfl) ?_   -- region 9
    refine sr 3 rfl ?_
    refine s_op rfl (oidx rfl rfl rfl (by omega) (by omega) ?_)   -- 38 := indexAddr 22 (tmp 36) (tmp 37)
    refine s_op rfl (old rfl rfl (hx3.rd (by omega) (by omega)) ?_)   -- 39 := load 3 (tmp 38)
    refine sra rfl ?_
    rw [← hse]
    refine c_seq ?_
    refine c_sj (α := Bool) (fun b => [(1, I k), (2, I n), (11, I a), (12, I (size l a : Nat)), (29, .sl p 0 (blocks l).length), (30, I (blocks l).length), (31, I i), (52, .bool b)]) (fun _ => [(3, 3, [.sl r o l.length]), (6, 6, [.sl none 0 0]), (9, 9, [.sl q 0 l.length])]) (fun b st' => st3 = st' ∧ (b = true ↔ ¬ (kindOf l a = 0 ∧ (n : Int) ≤ size l a))) ?_ ?_
    · -- region 10
      refine c_region (by kernel_rfl) ?_
      refine sr 3 rfl ?_
      refine s_op rfl (oidx rfl rfl rfl (by omega) (by omega) ?_)   -- 44 := indexAddr 22 (tmp 42) (tmp 43)
      refine s_op rfl (old rfl rfl (hx3.rd (by omega) (by omega)) ?_)   -- 45 := load 3 (tmp 44)
      refine sr 3 rfl ?_
      refine s_bool 48 rfl rfl (fun h48 => ?_) (fun h48 => ?_)
      · have h48 := ndt h48
        rw [rd_kind] at h48
        refine sra rfl ⟨true, ⟨rfl, rfl, rfl, rfl, rfl, rfl, rfl, rfl, trivial⟩, ⟨rfl, rfl, rfl, rfl, rfl, rfl, trivial⟩, rfl, ⟨fun _ h => h48 h.1, fun _ => rfl⟩⟩
      · have h48 := ndf h48
        rw [rd_kind] at h48
        refine sra rfl ⟨_, ⟨rfl, rfl, rfl, rfl, rfl, rfl, rfl, rfl, trivial⟩, ⟨rfl, rfl, rfl, rfl, rfl, rfl, trivial⟩, rfl, ?_⟩
        exact ⟨fun h h2 => by have := of_decide_eq_true h; omega, fun h => decide_eq_true (by omega)⟩
    rintro b st4 ⟨rfl, hb1⟩
    refine c_if rfl (fun h52 => ?_) (fun h52 => ?_)
    · -- then
      have h52 := hb1.1 h52
      refine c_exit ?_
      refine c_region (by kernel_rfl) ?_   -- region 18
      refine s_op rfl (o_ar rfl rfl rfl (by omega) (by omega) ?_)   -- 87 := binOp BinOp.add 3 (tmp 31) (const (Value.int IntKind.i64 1)) 3
      refine sra rfl ⟨i + 1, ⟨rfl, rfl, rfl, rfl, rfl, trivial⟩, ⟨rfl, rfl, rfl, rfl, rfl, rfl, trivial⟩, ⟨rfl, by omega, fun j hj => ?_⟩, by omega⟩
      by_cases e : j = i
      · rw [e, ha]; simpa using h52
      · exact hn' j (by omega)
    · -- else
      have h52 : kindOf l a = 0 ∧ (n : Int) ≤ size l a := Classical.byContradiction fun h => by rw [hb1.2 h] at h52; cases h52
      have hsp : blocks l = (blocks l).take i ++ (rd (blocks l) i :: (blocks l).drop (i + 1)) := by
        have hi' : i < (blocks l).length := by omega
        rw [show rd (blocks l) i = (blocks l)[i] by simp [rd, List.getD, hi'], ← List.drop_eq_getElem_cons hi', List.take_append_drop]
      have hsl : slot l n (blocks l) = some (a : Int) := by
        rw [hsp, slot_app, slot, if_pos (by rw [ha]; simpa using h52), ha]
        intro b hb
        obtain ⟨j, hj, e⟩ := rd_mem hb
        have hj' : j < i := by simp at hj; omega
        have : rd ((blocks l).take i) j = rd (blocks l) j := by simp [rd, List.getD, hj']
        rw [← e, this]
        exact hn' j hj'
      obtain ⟨hT1, hT2, hT3⟩ := tk_some (k := k) hsl
      have how := own_ge hn2 (show n ≤ size l a by omega)
      have hl0 : l ≠ [] := fun h => by rw [h] at hs; simp at hs; omega
      obtain ⟨q, rfl⟩ := hf.some_of hl0
      refine c_skip ?_
      refine crr (by kernel_rfl) rfl ?_   -- region 11
      refine c_sj (fun _ : Unit => [(1, I k), (11, I a), (13, I (ownN (size l a) n : Nat))]) (fun _ => [(6, 6, [.sl none 0 0]), (9, 9, [.sl (some q) 0 l.length])]) (fun _ st' => Fr st.n st' (some q) (cutL l a n)) ?_ ?_
      · -- ways that meet
        refine c_rs (by kernel_rfl) ?_   -- region 12
        refine sr 2 rfl ?_
        refine s_op rfl (o_ar rfl rfl rfl (by omega) (by omega) ?_)   -- 56 := binOp BinOp.sub 3 (tmp 54) (tmp 55) 3
        refine sra rfl ?_
        refine c_if rfl (fun h57 => ?_) (fun h57 => ?_)
        · -- then
          have h57 := of_decide_eq_true h57
          refine crr (by kernel_rfl) rfl ?_   -- region 13
          refine c_region (by kernel_rfl) ?_   -- region 14
          refine sr 4 rfl ?_
          refine s_op rfl (o_ar rfl rfl rfl (by omega) (by omega) ?_)   -- 63 := binOp BinOp.add 3 (tmp 61) (tmp 62) 3
          refine sr 2 rfl ?_
          refine s_op rfl (o_ar rfl rfl rfl (by omega) (by omega) ?_)   -- 66 := binOp BinOp.sub 3 (tmp 64) (tmp 65) 3
          refine s_op rfl (o_ar rfl rfl rfl (by omega) (by omega) ?_)   -- 67 := binOp BinOp.mul 3 (const (Value.int IntKind.i64 8)) (tmp 66) 3
          refine s_op rfl (o_ar rfl rfl rfl (by omega) (by omega) ?_)   -- 68 := binOp BinOp.add 3 (tmp 67) (const (Value.int IntKind.i64 0)) 3
          refine s_op rfl (oidx rfl rfl rfl (by omega) (by omega) ?_)   -- 69 := indexAddr 22 (tmp 60) (tmp 63)
          refine s_op rfl (ostF rfl rfl hf rfl rfl (by omega) fun st4 hf4 he4 => ?_)
          refine s_end ⟨(), ⟨rfl, rfl, ?_, trivial⟩, ⟨rfl, rfl, rfl, rfl, trivial⟩, ?_⟩
          · show I _ = I _
            rw [ownN, if_neg (by omega)]
          · have e : cutL l a n = l.set (0 + ((a : Int) + (n : Int)).toNat) (8 * ((size l a : Int) - n) + 0) := by rw [cutL, if_neg (by omega), show 0 + ((a : Int) + (n : Int)).toNat = a + n by omega, Int.add_zero]
            rw [e]; exact hf4
        · -- else
          have h57 := of_decide_eq_false h57
          refine c_skip ⟨(), ⟨rfl, rfl, ?_, trivial⟩, ⟨rfl, rfl, rfl, rfl, trivial⟩, ?_⟩
          · show I _ = I _
            rw [ownN, if_pos (by omega)]
          · rw [cutL, if_pos (by omega)]; exact hf
      rintro _ st4 hf4
      have hcl := cutL_len l a n
      refine c_rs (by kernel_rfl) ?_   -- region 15
      refine sr 5 rfl ?_
      refine s_op rfl (o_ar rfl rfl rfl (by omega) (by omega) ?_)   -- 75 := binOp BinOp.add 3 (tmp 73) (tmp 74) 3
      refine s_op rfl (oslice rfl rfl rfl rfl (by omega) (by omega) (by omega) ?_)   -- 76 := slice 22 (tmp 71) (some (tmp 72)) (some (tmp 75)) none
      have e1 : (cond (some q).isNone 0 (0 + (a : Int).toNat)) = a := by show 0 + (a : Int).toNat = _; omega
      have e2 : ((a : Int) + ((ownN (size l a) n : Nat) : Int)).toNat - (a : Int).toNat = ownN (size l a) n := by omega
      rw [e1, e2]
      refine s_op rfl (oclrF rfl rfl hf4 (by omega) fun st5 hf5 he5 => ?_)
      refine s_end ?_
      refine c_rs (by kernel_rfl) ?_   -- region 16
      refine sr 4 rfl ?_
      refine s_op rfl (o_ar rfl rfl rfl (by omega) (by omega) ?_)   -- 81 := binOp BinOp.mul 3 (const (Value.int IntKind.i64 8)) (tmp 80) 3
      refine sr 1 rfl ?_
      refine s_op rfl (o_ar rfl rfl rfl (by omega) (by omega) ?_)   -- 83 := binOp BinOp.add 3 (tmp 81) (tmp 82) 3
      refine s_op rfl (oidx rfl rfl rfl (by omega) (by omega) ?_)   -- 84 := indexAddr 22 (tmp 78) (tmp 79)
      refine s_op rfl (ostF rfl rfl hf5 rfl rfl (by simp; omega) fun st6 hf6 he6 => ?_)
      refine s_end ?_
      refine crr (by kernel_rfl) rfl ?_   -- region 17
      refine c_ret (fr rfl ⟨some q, ?_, ?_⟩)
      · rw [tkL_len, hT2, hT3]
      · rw [hT1, put]
        simpa using hf6
  · -- else
    have h32 := of_decide_eq_false h32
    have hsl : slot l n (blocks l) = none := by
      rw [← List.append_nil (blocks l), slot_app]
      · rfl
      · intro b hb
        obtain ⟨j, hj, e⟩ := rd_mem hb
        rw [← e]
        exact hn' j (by omega)
    obtain ⟨hT1, hT2, hT3⟩ := tk_none (k := k) hsl
    refine c_exit ?_
    refine crr (by kernel_rfl) rfl ?_   -- region 19
    refine c_ret (fr rfl ⟨q, ?_, ?_⟩)
    · rw [hT1, hT2, hT3]
    · rw [hT1]; exact hf
end Go.Proofs.YtfhkjhnaihhdmaaGreatW.Ax

/- Chapters 5 and 6, walked: what is asked ahead; prototypes; what is made. -/
namespace Go.Proofs.YtfhkjhnaihhdmaaGreatW.Ax
open Go Go.RowKit Go.Proofs Go.Proofs.YtfhkjhnaihhdmaaGreat.Pure
set_option linter.unusedVariables false
set_option maxRecDepth 100000

/-! ### ready, for one, two and three values -/
theorem ready1_c (r rr ro : Option Nat) (o : Nat) (q0 : Option Nat) (l k0 : List Int) (v : Int) (st : St) (hx : At st r o l) (hy : At st rr 0 [v]) (hl : l.length ≤ 1048576)
    (h0 : cell st ro 0 = some (.sl q0 0 k0.length)) (a0 : At st q0 0 k0) (n0 : k0.length ≤ 1000) :
    ACalls Tryz.prog 102 [.agg [.sl r o l.length], .sl rr 0 [v].length, .sl ro 0 1] st No (Pv (.bool (bd (Rts l [v] ∧ v % 8 ∈ k0)))) := by
  have e : bd (Rdy l [v] (fun _ => k0)) = bd (Rts l [v] ∧ v % 8 ∈ k0) := bd_eq ⟨fun h => ⟨h.1, by simpa [rd] using h.2 0 (by simp)⟩, fun h => ⟨h.1, fun i hi => by
    have hi0 : i = 0 := by simp at hi; exact hi
    subst hi0
    simpa [rd] using h.2⟩⟩
  rw [← e]
  exact ready_c _ _ _ _ _ _ _ l [v] (fun _ => q0) (fun _ => k0) _ hx hy hl (by simp) (by simp) (fun i hi => by
    have hi0 : i = 0 := by simp at hi; exact hi
    subst hi0
    exact ⟨h0, a0, n0⟩)
theorem ready2_c (r rr ro : Option Nat) (o : Nat) (q0 q1 : Option Nat) (l k0 k1 : List Int) (v w : Int) (st : St) (hx : At st r o l) (hy : At st rr 0 [v, w]) (hl : l.length ≤ 1048576)
    (h0 : cell st ro 0 = some (.sl q0 0 k0.length)) (a0 : At st q0 0 k0) (n0 : k0.length ≤ 1000) (h1 : cell st ro 1 = some (.sl q1 0 k1.length)) (a1 : At st q1 0 k1) (n1 : k1.length ≤ 1000) :
    ACalls Tryz.prog 102 [.agg [.sl r o l.length], .sl rr 0 [v, w].length, .sl ro 0 2] st No (Pv (.bool (bd (Rts l [v, w] ∧ v % 8 ∈ k0 ∧ w % 8 ∈ k1)))) := by
  have e : bd (Rdy l [v, w] (fun i => match i with | 0 => k0 | _ => k1)) = bd (Rts l [v, w] ∧ v % 8 ∈ k0 ∧ w % 8 ∈ k1) := bd_eq ⟨fun h => ⟨h.1, by simpa [rd] using h.2 0 (by simp), by simpa [rd] using h.2 1 (by simp)⟩, fun h => ⟨h.1, fun i hi => by
    match i, hi with
    | 0, _ => simpa [rd] using h.2.1
    | 1, _ => simpa [rd] using h.2.2
    | i + 2, hi => exact absurd hi (by simp)⟩⟩
  rw [← e]
  exact ready_c _ _ _ _ _ _ _ l [v, w] (fun i => match i with | 0 => q0 | _ => q1) (fun i => match i with | 0 => k0 | _ => k1) _ hx hy hl (by simp) (by simp) (fun i hi => by
    match i, hi with
    | 0, _ => exact ⟨h0, a0, n0⟩
    | 1, _ => exact ⟨h1, a1, n1⟩
    | i + 2, hi => exact absurd hi (by simp))
theorem ready3_c (r rr ro : Option Nat) (o : Nat) (q0 q1 q2 : Option Nat) (l k0 k1 k2 : List Int) (u v w : Int) (st : St) (hx : At st r o l) (hy : At st rr 0 [u, v, w]) (hl : l.length ≤ 1048576)
    (h0 : cell st ro 0 = some (.sl q0 0 k0.length)) (a0 : At st q0 0 k0) (n0 : k0.length ≤ 1000) (h1 : cell st ro 1 = some (.sl q1 0 k1.length)) (a1 : At st q1 0 k1) (n1 : k1.length ≤ 1000) (h2 : cell st ro 2 = some (.sl q2 0 k2.length)) (a2 : At st q2 0 k2) (n2 : k2.length ≤ 1000) :
    ACalls Tryz.prog 102 [.agg [.sl r o l.length], .sl rr 0 [u, v, w].length, .sl ro 0 3] st No (Pv (.bool (bd (Rts l [u, v, w] ∧ u % 8 ∈ k0 ∧ v % 8 ∈ k1 ∧ w % 8 ∈ k2)))) := by
  have e : bd (Rdy l [u, v, w] (fun i => match i with | 0 => k0 | 1 => k1 | _ => k2)) = bd (Rts l [u, v, w] ∧ u % 8 ∈ k0 ∧ v % 8 ∈ k1 ∧ w % 8 ∈ k2) := bd_eq ⟨fun h => ⟨h.1, by simpa [rd] using h.2 0 (by simp), by simpa [rd] using h.2 1 (by simp), by simpa [rd] using h.2 2 (by simp)⟩, fun h => ⟨h.1, fun i hi => by
    match i, hi with
    | 0, _ => simpa [rd] using h.2.1
    | 1, _ => simpa [rd] using h.2.2.1
    | 2, _ => simpa [rd] using h.2.2.2
    | i + 3, hi => exact absurd hi (by simp)⟩⟩
  rw [← e]
  exact ready_c _ _ _ _ _ _ _ l [u, v, w] (fun i => match i with | 0 => q0 | 1 => q1 | _ => q2) (fun i => match i with | 0 => k0 | 1 => k1 | _ => k2) _ hx hy hl (by simp) (by simp) (fun i hi => by
    match i, hi with
    | 0, _ => exact ⟨h0, a0, n0⟩
    | 1, _ => exact ⟨h1, a1, n1⟩
    | 2, _ => exact ⟨h2, a2, n2⟩
    | i + 3, hi => exact absurd hi (by simp))

/-! ### what is told where something is not right -/
noncomputable def zl (l : List Int) : List Int := cond (bd (Heap l)) l []
theorem zl_t {l : List Int} (h : Heap l) : zl l = l := by unfold zl; rw [bdt.2 h]; rfl
theorem zl_f {l : List Int} (h : ¬ Heap l) : zl l = [] := by unfold zl; rw [bdf.2 h]; rfl
theorem zl_len (l : List Int) : (zl l).length ≤ l.length := by unfold zl; cases bd (Heap l) <;> simp
theorem l5Zero_c (r : Option Nat) (o : Nat) (l : List Int) (st : St) (hx : At st r o l) (hl : l.length ≤ 1048576) : ACalls Tryz.prog 109 [.agg [.sl r o l.length]] st No (Sn st (zl l)) := by
  refine ent (N := 9) Tryz.func109 rfl (by decide) rfl rfl rfl ?_
  refine crr (by kernel_rfl) rfl ?_   -- region 0
  refine c_seq ?_
  refine c_rs (by kernel_rfl) ?_   -- region 1
  refine sr 1 rfl ?_
  refine s_op rfl (o_ex loud_n rfl (HeapOk_c _ _ _ _ hx hl) ?_)
  rintro v1 st1 rfl e1
  refine sra rfl ?_
  refine c_if rfl (fun h5 => ?_) (fun h5 => ?_)
  · have h5 := nbt h5
    refine crr (by kernel_rfl) rfl ?_   -- region 2
    refine c_ret (fr rfl ⟨none, ?_, ?_⟩)
    · rw [zl_f h5]; rfl
    · rw [zl_f h5]; exact fr_nil _ _
  · have h5 := nbf h5
    refine c_skip ?_
    refine c_rs (by kernel_rfl) ?_   -- region 3
    refine sr 1 rfl ?_
    refine s_op rfl (o_ex loud_n rfl (l2Copy_c _ _ _ _ (hx.ex e1) hl) ?_)
    rintro v2 st2 ⟨q, rfl, hf⟩ e2
    refine sra rfl ?_
    refine c_ret (fr rfl ⟨q, ?_, ?_⟩)
    · rw [zl_t h5]
    · rw [zl_t h5]; exact hf.le e1.n
theorem asItWas_c (r : Option Nat) (o : Nat) (l : List Int) (st : St) (hx : At st r o l) (hl : l.length ≤ 1048576) : ACalls Tryz.prog 104 [.agg [.sl r o l.length]] st No (Sn st (zl l)) := by
  refine ent (N := 9) Tryz.func104 rfl (by decide) rfl rfl rfl ?_
  refine crr (by kernel_rfl) rfl ?_   -- region 0
  refine c_seq ?_
  refine c_rs (by kernel_rfl) ?_   -- region 1
  refine sr 1 rfl ?_
  refine s_op rfl (o_ex loud_n rfl (iHeapOk_c _ _ _ _ hx) ?_)
  rintro v1 st1 rfl e1
  refine sra rfl ?_
  refine c_if rfl (fun h5 => ?_) (fun h5 => ?_)
  · have h5 := nbt h5
    refine crr (by kernel_rfl) rfl ?_   -- region 2
    refine c_ret (fr rfl ⟨none, ?_, ?_⟩)
    · rw [zl_f h5]; rfl
    · rw [zl_f h5]; exact fr_nil _ _
  · have h5 := nbf h5
    refine c_skip ?_
    refine c_rs (by kernel_rfl) ?_   -- region 3
    refine sr 1 rfl ?_
    refine s_op rfl (o_ex loud_n rfl (copySlab_c _ _ _ _ (hx.ex e1) (by omega)) ?_)
    rintro v2 st2 ⟨q, rfl, hf⟩ e2
    refine sra rfl ?_
    refine c_ret (fr rfl ⟨q, ?_, ?_⟩)
    · rw [zl_t h5]
    · rw [zl_t h5]; exact hf.le e1.n
def Pok (v : Int) : Prop := v = 1 ∨ v % 8 = 5
theorem l5ProtoOk_c (v : Int) (st : St) : ACalls Tryz.prog 135 [I v] st No (Pure1 (.bool (bd (Pok v))) st) := by
  refine ent (N := 10) Tryz.func135 rfl (by decide) rfl rfl rfl ?_
  refine crr (by kernel_rfl) rfl ?_   -- region 0
  refine c_rs (by kernel_rfl) ?_   -- region 1
  refine sr 3 rfl ?_
  refine s_bool 5 rfl rfl (fun h5 => ?_) (fun h5 => ?_)
  · have h5 := of_decide_eq_true h5
    refine sra rfl ?_
    exact c_ret (fr rfl ⟨abd ⟨fun _ => .inl h5, fun _ => rfl⟩, rfl⟩)
  · have h5 := of_decide_eq_false h5
    refine sr 1 rfl ?_
    refine s_op rfl (o_pure loud_n rfl (Kind_c ..) ?_)
    refine sra rfl ?_
    exact c_ret (fr rfl ⟨abd ⟨fun h => .inr (of_decide_eq_true h), fun h => decide_eq_true (h.resolve_left h5)⟩, rfl⟩)
/-- A slab that is new, whether it went. -/
def Ns (st : St) (l : List Int) (b : Bool) : AV → St → Prop := fun v st' => ∃ r, v = .tup [.agg [.sl r 0 l.length], .bool b] ∧ Fr st.n st' r l
theorem vok1 {l : List Int} {v : Int} (h : Leads l v 5) (h1 : v % 8 = 1) : v = 1 := by have := h.1.2.1 h1; omega
theorem vok0 {l : List Int} {v : Int} (h : Leads l v 5) (h1 : v % 8 = 0) : v = 0 := by have := h.1.1 h1; omega

/-! ### ProtoSet -/
def PsOk (l : List Int) (obj proto : Int) : Prop := Pok proto ∧ Isk l [obj, proto] 5
theorem ps_at {l : List Int} {obj proto : Int} (h : PsOk l obj proto) : Heap l ∧ Rf l obj 5 2 := by
  have h1 : obj % 8 = 5 := by simpa [rd] using h.2.1
  exact ⟨h.2.2.1, (leads_rf (h.2.2.2 obj (by simp))).2.1 h1⟩
noncomputable def psL (l : List Int) (obj proto : Int) : List Int := cond (bd (PsOk l obj proto)) (l.set (obj / 8 + 1).toNat proto) (zl l)
theorem psL_t {l : List Int} {obj proto : Int} (h : PsOk l obj proto) : psL l obj proto = l.set (obj / 8 + 1).toNat proto := by unfold psL; rw [bdt.2 h]; rfl
theorem psL_f {l : List Int} {obj proto : Int} (h : ¬ PsOk l obj proto) : psL l obj proto = zl l := by unfold psL; rw [bdf.2 h]; rfl
theorem psL_len (l : List Int) (obj proto : Int) : (psL l obj proto).length ≤ l.length := by
  unfold psL
  have := zl_len l
  cases bd (PsOk l obj proto)
  · exact this
  · simp
theorem ProtoSet_c (r : Option Nat) (o : Nat) (l : List Int) (obj proto : Int) (st : St) (hx : At st r o l) (hl : l.length ≤ 1048576) : ACalls Tryz.prog 55 [.agg [.sl r o l.length], I obj, I proto] st No (Ns st (psL l obj proto) (bd (PsOk l obj proto))) := by
  refine ent (N := 32) Tryz.func55 rfl (by decide) rfl rfl rfl ?_
  refine crr (by kernel_rfl) rfl ?_   -- region 0
  refine c_seq ?_
  refine c_sj (α := Bool) (fun b => [(1, I obj), (2, I proto), (19, .bool b)]) (fun _ => [(3, 3, [.sl r o l.length]), (6, 6, [.sl none 0 0])]) (fun b st' => Ex st st' ∧ (b = true ↔ ¬ PsOk l obj proto)) ?_ ?_
  · -- region 1
    refine c_region (by kernel_rfl) ?_
    refine sr 1 rfl ?_
    refine s_op rfl (o_pure loud_n rfl (l5ProtoOk_c ..) ?_)
    refine sr 2 rfl ?_
    refine s_bool 12 rfl rfl (fun h12 => ?_) (fun h12 => ?_)
    · have h12 := nbt h12
      refine sra rfl ⟨true, ⟨rfl, rfl, rfl, trivial⟩, ⟨rfl, rfl, rfl, rfl, trivial⟩, Ext.refl _ _, ⟨fun _ h => h12 h.1, fun _ => rfl⟩⟩
    · have h12 := nbf h12
      refine sr 3 rfl ?_
      refine s_op rfl (oints [obj, proto] loud_n rfl (by decide) rfl rfl rfl fun q st1 hq e1 => ?_)
      refine s_op rfl (o_ex loud_n rfl (l5Is_c _ _ _ _ _ _ _ _ (hx.ex e1) hq.at_ hl (by simp) (by simp)) ?_)
      rintro v2 st2 rfl e2
      refine sra rfl ⟨_, ⟨rfl, rfl, rfl, trivial⟩, ⟨rfl, rfl, rfl, rfl, trivial⟩, e1.tr e2, ?_⟩
      exact ⟨fun h k => nbt h k.2, fun h => (by rw [bdf.2 fun k => h ⟨h12, k⟩]; rfl)⟩
  rintro b st1 ⟨e1, hb⟩
  refine c_if rfl (fun h19 => ?_) (fun h19 => ?_)
  · have h19 := hb.1 h19
    refine c_rs (by kernel_rfl) ?_   -- region 2
    refine sr 1 rfl ?_
    refine s_op rfl (o_ex loud_n rfl (l5Zero_c _ _ _ _ (hx.ex e1) hl) ?_)
    rintro v2 st2 ⟨q, rfl, hf⟩ e2
    refine sra rfl ?_
    refine c_ret (fr rfl ⟨q, ?_, ?_⟩)
    · rw [psL_f h19, bdf.2 h19]
    · rw [psL_f h19]; exact hf.le e1.n
  · have h19 : PsOk l obj proto := Classical.byContradiction fun h => by rw [hb.2 h] at h19; cases h19
    obtain ⟨hp, ho⟩ := ps_at h19
    have hb := obj_at hp ho
    refine c_skip ?_
    refine c_rs (by kernel_rfl) ?_   -- region 3
    refine sr 1 rfl ?_
    refine s_op rfl (o_ex loud_n rfl (l2Copy_c _ _ _ _ (hx.ex e1) hl) ?_)
    rintro v2 st2 ⟨q, rfl, hf⟩ e2
    have hf := hf.le e1.n
    refine sra rfl ?_
    refine cds [0, 1, 2, 5, 3, 4, 6, 7] [.q, .q, .q, .q, .f, .q, .q, .n] (by kernel_rfl) (by kernel_rfl) ?_   -- region 4
    refine sr 4 rfl ?_
    refine s_op rfl (o_pure loud_f rfl (Num_c ..) ?_)
    refine s_op rfl (o_ar rfl rfl rfl (by omega) (by omega) ?_)
    refine s_op rfl (oidx rfl rfl rfl (by omega) (by omega) ?_)
    refine s_op rfl (ostF rfl rfl hf rfl rfl (by omega) fun st3 hf3 e3 => ?_)
    refine s_end ?_
    refine crr (by kernel_rfl) rfl ?_   -- region 5
    refine c_ret (fr rfl ⟨q, ?_, ?_⟩)
    · rw [psL_t h19, bdt.2 h19, List.length_set]
    · rw [psL_t h19]; simpa using hf3
theorem iProtoSet_c (r : Option Nat) (o : Nat) (l : List Int) (obj proto : Int) (st : St) (hx : At st r o l) (hl : l.length ≤ 1048576) : ACalls Tryz.prog 54 [.agg [.sl r o l.length], I obj, I proto] st No (Ns st (psL l obj proto) (bd (PsOk l obj proto))) := by
  have hR : (Rts l [obj, proto] ∧ obj % 8 ∈ ([5] : List Int) ∧ proto % 8 ∈ ([1, 5] : List Int)) ↔ PsOk l obj proto := by
    unfold PsOk Isk Pok
    have e : rd [obj, proto] 0 = obj := rfl
    rw [e]
    refine ⟨fun h => ⟨?_, by simpa using h.2.1, h.1⟩, fun h => ⟨h.2.2, by simpa using h.2.1, ?_⟩⟩
    · have h3 : proto % 8 = 1 ∨ proto % 8 = 5 := by simpa using h.2.2
      exact h3.imp (vok1 (h.1.2 proto (by simp))) id
    · have : proto % 8 = 1 ∨ proto % 8 = 5 := h.1.imp (fun e => by omega) id
      simpa using this
  refine ent (N := 30) Tryz.func54 rfl (by decide) rfl rfl rfl ?_
  refine crr (by kernel_rfl) rfl ?_   -- region 0
  refine c_seq ?_
  refine c_rs (by kernel_rfl) ?_   -- region 1
  refine sr 3 rfl ?_
  refine s_op rfl (oints [obj, proto] loud_n rfl (by decide) rfl rfl rfl fun q st1 hq e1 => ?_)
  refine s_op rfl (oints [5] loud_n rfl (by decide) rfl rfl rfl fun q1 st2 hq1 e2 => ?_)
  refine s_op rfl (oints [1, 5] loud_n rfl (by decide) rfl rfl rfl fun q2 st3 hq2 e3 => ?_)
  refine s_op rfl (oblk [.sl (some q1) 0 1, .sl (some q2) 0 2] loud_n rfl (by decide) rfl rfl fun q3 st4 hq3 e4 => ?_)
  have e24 := (e2.tr e3).tr e4
  refine s_op rfl (o_ex loud_n rfl (ready2_c _ _ _ _ _ _ l [5] [1, 5] obj proto _ (hx.ex (e1.tr e24)) (hq.at_.ex e24) hl (hq3 0) (hq1.at_.ex (e3.tr e4)) (by decide) (hq3 1) (hq2.at_.ex e4) (by decide)) ?_)
  rintro v5 st5 rfl e5
  have e15 := (e1.tr e24).tr e5
  refine sra rfl ?_
  refine c_if rfl (fun h17 => ?_) (fun h17 => ?_)
  · have h17 : ¬ PsOk l obj proto := fun h => nbt h17 (hR.2 h)
    refine c_rs (by kernel_rfl) ?_   -- region 2
    refine sr 1 rfl ?_
    refine s_op rfl (o_ex loud_n rfl (asItWas_c _ _ _ _ (hx.ex e15) hl) ?_)
    rintro v2 st2 ⟨q, rfl, hf⟩ e2
    refine sra rfl ?_
    refine c_ret (fr rfl ⟨q, ?_, ?_⟩)
    · rw [psL_f h17, bdf.2 h17]
    · rw [psL_f h17]; exact hf.le e15.n
  · have h17 : PsOk l obj proto := hR.1 (nbf h17)
    obtain ⟨hp, ho⟩ := ps_at h17
    have hb := obj_at hp ho
    refine c_skip ?_
    refine c_rs (by kernel_rfl) ?_   -- region 3
    refine sr 1 rfl ?_
    refine s_op rfl (o_ex loud_n rfl (copySlab_c _ _ _ _ (hx.ex e15) (by omega)) ?_)
    rintro v2 st2 ⟨q, rfl, hf⟩ e2
    have hf := hf.le e15.n
    refine sra rfl ?_
    refine cds [0, 1, 2, 5, 3, 4, 6, 7] [.q, .q, .q, .q, .f, .q, .q, .n] (by kernel_rfl) (by kernel_rfl) ?_   -- region 4
    refine sr 4 rfl ?_
    refine s_op rfl (o_pure loud_f rfl (iNum_c ..) ?_)
    refine s_op rfl (o_ar rfl rfl rfl (by omega) (by omega) ?_)
    refine s_op rfl (oidx rfl rfl rfl (by omega) (by omega) ?_)
    refine s_op rfl (ostF rfl rfl hf rfl rfl (by omega) fun st3 hf3 e3 => ?_)
    refine s_end ?_
    refine crr (by kernel_rfl) rfl ?_   -- region 5
    refine c_ret (fr rfl ⟨q, ?_, ?_⟩)
    · rw [psL_t h17, bdt.2 h17, List.length_set]
    · rw [psL_t h17]; simpa using hf3
end Go.Proofs.YtfhkjhnaihhdmaaGreatW.Ax

/- Objects and scopes that are made: walked. -/
namespace Go.Proofs.YtfhkjhnaihhdmaaGreatW.Ax
open Go Go.RowKit Go.Proofs Go.Proofs.YtfhkjhnaihhdmaaGreat.Pure
set_option linter.unusedVariables false
set_option maxRecDepth 100000

/-- A block that is taken, its first word behind the head given. -/
def nwL (l : List Int) (k : Int) (n : Nat) (w : Int) : List Int := cond (tkO l n) ((tkL l k n).set (tkA l n + 1).toNat w) l
def nwV (l : List Int) (n : Nat) (K : Int) : Int := cond (tkO l n) (8 * tkA l n + K) 0
theorem nwL_len (l : List Int) (k : Int) (n : Nat) (w : Int) : (nwL l k n w).length = l.length := by
  unfold nwL
  cases tkO l n
  · rfl
  · show ((tkL l k n).set _ w).length = _
    rw [List.length_set, tkL_len]
theorem l5New_c (n0 : Nat) (r : Option Nat) (l : List Int) (w : Int) (st : St) (hf : Fr n0 st r l) (hok : okB l = true) : ACalls Tryz.prog 138 [.agg [.sl r 0 l.length], I w] st (fun i => r = some i) (Tv n0 st r (nwL l 2 3 w) (nwV l 3 5) (tkO l 3)) := by
  have hlen := okB_len hok
  refine ent (N := 28) Tryz.func138 rfl (by decide) rfl rfl rfl ?_
  refine crr (by kernel_rfl) rfl ?_   -- region 0
  refine c_rs (by kernel_rfl) ?_   -- region 1
  refine sr 1 rfl ?_
  refine s_op rfl (o_call rfl (l2Take_c n0 r l 2 3 _ hf hok (by omega) (by omega) (by omega)) (fun _ _ h => h) (.inl rfl) ?_)
  rintro v1 st1 ⟨rfl, hf1, he1⟩ _
  refine sra rfl ?_
  refine c_seq ?_
  refine crr (by kernel_rfl) rfl ?_   -- region 2
  refine c_if rfl (fun hc => ?_) (fun hc => ?_)
  · have hc : tkO l 3 = false := by simpa using hc
    have ht := tk_no 2 hc
    refine crr (by kernel_rfl) rfl ?_   -- region 3
    refine c_ret (fr rfl ?_)
    rw [ht.2] at hf1
    have e1 : nwL l 2 3 w = l := by unfold nwL; rw [hc]; rfl
    have e2 : nwV l 3 5 = 0 := by unfold nwV; rw [hc]; rfl
    rw [e1, e2, hc]
    exact ⟨rfl, hf1, he1⟩
  · have hc : tkO l 3 = true := by simpa using hc
    have ht := tk_at hc
    have hl := tkL_len l 2 3
    have hl0 : tkL l 2 3 ≠ [] := fun h => by rw [h] at hl; simp at hl; omega
    obtain ⟨q, rfl⟩ := hf1.some_of hl0
    have hb := block_at ht.2.2.1
    refine c_skip ?_
    refine c_rs (by kernel_rfl) ?_   -- region 4
    refine sr 3 rfl ?_
    refine s_op rfl (o_ar rfl rfl rfl (by omega) (by omega) ?_)
    refine sr 1 rfl ?_
    refine s_op rfl (oidx rfl rfl rfl (by omega) (by omega) ?_)
    refine s_op rfl (ostI rfl rfl hf1.ob.2 (fun _ => rfl) rfl rfl (by omega) ?_)
    refine s_end ?_
    refine cdt [0, 1, 2, 3, 4, 5] [.q, .q, .f, .n, .q, .q] (by kernel_rfl) (by kernel_rfl) ?_   -- region 5
    refine sr 2 rfl ?_
    refine s_op rfl (o_pure loud_f rfl (RefOf_c 5 (tkA l 3) _ (by omega) (by omega)) ?_)
    refine sra rfl ?_
    refine c_ret (fr rfl ?_)
    have e1 : nwL l 2 3 w = (tkL l 2 3).set (0 + (tkA l 3 + 1).toNat) w := by unfold nwL; rw [hc, Nat.zero_add]; rfl
    have e2 : nwV l 3 5 = 8 * tkA l 3 + 5 := by unfold nwV; rw [hc]; rfl
    rw [e1, e2, hc]
    refine ⟨?_, hf1.set, ?_⟩
    · rw [List.length_set]
    · have := ext_set st1 q (.row true (((tkL l 2 3).set (0 + (tkA l 3 + 1).toNat) w).map I))
      exact he1.trans (T' := (· = q)) this (fun _ _ h => by rw [h])
theorem objNew_c (r : Option Nat) (o : Nat) (l : List Int) (w : Int) (st : St) (hx : At st r o l) (hok : okB l = true) : ACalls Tryz.prog 137 [.agg [.sl r o l.length], I w] st No (Nw st (nwL l 2 3 w) (nwV l 3 5) (tkO l 3)) := by
  have hlen := okB_len hok
  refine ent (N := 28) Tryz.func137 rfl (by decide) rfl rfl rfl ?_
  refine crr (by kernel_rfl) rfl ?_   -- region 0
  refine c_rs (by kernel_rfl) ?_   -- region 1
  refine sr 1 rfl ?_
  refine s_op rfl (o_ex loud_n rfl (iTake_c r o l 2 3 _ hx hok (by omega) (by omega) (by omega)) ?_)
  rintro v1 st1 ⟨q, rfl, hf1⟩ e1
  refine sra rfl ?_
  refine c_seq ?_
  refine crr (by kernel_rfl) rfl ?_   -- region 2
  refine c_if rfl (fun hc => ?_) (fun hc => ?_)
  · have hc : tkO l 3 = false := by simpa using hc
    have ht := tk_no 2 hc
    refine crr (by kernel_rfl) rfl ?_   -- region 3
    refine c_ret (fr rfl ?_)
    have e1 : nwL l 2 3 w = tkL l 2 3 := by unfold nwL; rw [hc, ht.2]; rfl
    have e2 : nwV l 3 5 = 0 := by unfold nwV; rw [hc]; rfl
    rw [e1, e2, hc]
    exact ⟨q, rfl, hf1⟩
  · have hc : tkO l 3 = true := by simpa using hc
    have ht := tk_at hc
    have hl := tkL_len l 2 3
    have hb := block_at ht.2.2.1
    refine c_skip ?_
    refine c_rs (by kernel_rfl) ?_   -- region 4
    refine sr 3 rfl ?_
    refine s_op rfl (o_ar rfl rfl rfl (by omega) (by omega) ?_)
    refine sr 1 rfl ?_
    refine s_op rfl (oidx rfl rfl rfl (by omega) (by omega) ?_)
    refine s_op rfl (ostF rfl rfl hf1 rfl rfl (by omega) fun st2 hf2 e2 => ?_)
    refine s_end ?_
    refine cdt [0, 1, 2, 3, 4, 5] [.q, .q, .f, .n, .q, .q] (by kernel_rfl) (by kernel_rfl) ?_   -- region 5
    refine sr 2 rfl ?_
    refine s_op rfl (o_pure loud_f rfl (iRefOf_c 5 (tkA l 3) _ (by omega) (by omega)) ?_)
    refine sra rfl ?_
    refine c_ret (fr rfl ?_)
    have e1 : nwL l 2 3 w = (tkL l 2 3).set (0 + (tkA l 3 + 1).toNat) w := by unfold nwL; rw [hc, Nat.zero_add]; rfl
    have e2 : nwV l 3 5 = 8 * tkA l 3 + 5 := by unfold nwV; rw [hc]; rfl
    rw [e1, e2, hc]
    refine ⟨q, ?_, hf2⟩
    rw [List.length_set]
theorem l6New_c (n0 : Nat) (r : Option Nat) (l : List Int) (w : Int) (m : Nat) (st : St) (hf : Fr n0 st r l) (hok : okB l = true) (hm : m ≤ 12) : ACalls Tryz.prog 122 [.agg [.sl r 0 l.length], I w, I m] st (fun i => r = some i) (Tv n0 st r (nwL l 5 (m + 2) w) (nwV l (m + 2) 7) (tkO l (m + 2))) := by
  have hlen := okB_len hok
  refine ent (N := 32) Tryz.func122 rfl (by decide) rfl rfl rfl ?_
  refine crr (by kernel_rfl) rfl ?_   -- region 0
  refine c_rs (by kernel_rfl) ?_   -- region 1
  refine sr 2 rfl ?_
  refine s_op rfl (o_ar rfl rfl rfl (by omega) (by omega) ?_)
  refine s_op rfl (o_call rfl (l2Take_c n0 r l 5 (m + 2) _ hf hok (by omega) (by omega) (by omega)) (fun _ _ h => h) (.inl rfl) ?_)
  rintro v1 st1 ⟨rfl, hf1, he1⟩ _
  refine sra rfl ?_
  refine c_seq ?_
  refine crr (by kernel_rfl) rfl ?_   -- region 2
  refine c_if rfl (fun hc => ?_) (fun hc => ?_)
  · have hc : tkO l (m + 2) = false := by simpa using hc
    have ht := tk_no 5 hc
    refine crr (by kernel_rfl) rfl ?_   -- region 3
    refine c_ret (fr rfl ?_)
    rw [ht.2] at hf1
    have e1 : nwL l 5 (m + 2) w = l := by unfold nwL; rw [hc]; rfl
    have e2 : nwV l (m + 2) 7 = 0 := by unfold nwV; rw [hc]; rfl
    rw [e1, e2, hc]
    exact ⟨rfl, hf1, he1⟩
  · have hc : tkO l (m + 2) = true := by simpa using hc
    have ht := tk_at hc
    have hl := tkL_len l 5 (m + 2)
    have hl0 : tkL l 5 (m + 2) ≠ [] := fun h => by rw [h] at hl; simp at hl; omega
    obtain ⟨q, rfl⟩ := hf1.some_of hl0
    have hb := block_at ht.2.2.1
    refine c_skip ?_
    refine c_rs (by kernel_rfl) ?_   -- region 4
    refine sr 3 rfl ?_
    refine s_op rfl (o_ar rfl rfl rfl (by omega) (by omega) ?_)
    refine sr 1 rfl ?_
    refine s_op rfl (oidx rfl rfl rfl (by omega) (by omega) ?_)
    refine s_op rfl (ostI rfl rfl hf1.ob.2 (fun _ => rfl) rfl rfl (by omega) ?_)
    refine s_end ?_
    refine cdt [0, 1, 2, 3, 4, 5] [.q, .q, .f, .n, .q, .q] (by kernel_rfl) (by kernel_rfl) ?_   -- region 5
    refine sr 2 rfl ?_
    refine s_op rfl (o_pure loud_f rfl (RefOf_c 7 (tkA l (m + 2)) _ (by omega) (by omega)) ?_)
    refine sra rfl ?_
    refine c_ret (fr rfl ?_)
    have e1 : nwL l 5 (m + 2) w = (tkL l 5 (m + 2)).set (0 + (tkA l (m + 2) + 1).toNat) w := by unfold nwL; rw [hc, Nat.zero_add]; rfl
    have e2 : nwV l (m + 2) 7 = 8 * tkA l (m + 2) + 7 := by unfold nwV; rw [hc]; rfl
    rw [e1, e2, hc]
    refine ⟨?_, hf1.set, ?_⟩
    · rw [List.length_set]
    · have := ext_set st1 q (.row true (((tkL l 5 (m + 2)).set (0 + (tkA l (m + 2) + 1).toNat) w).map I))
      exact he1.trans (T' := (· = q)) this (fun _ _ h => by rw [h])
theorem scopeNew_c (r : Option Nat) (o : Nat) (l : List Int) (w : Int) (m : Nat) (st : St) (hx : At st r o l) (hok : okB l = true) (hm : m ≤ 12) : ACalls Tryz.prog 121 [.agg [.sl r o l.length], I w, I m] st No (Nw st (nwL l 5 (m + 2) w) (nwV l (m + 2) 7) (tkO l (m + 2))) := by
  have hlen := okB_len hok
  refine ent (N := 32) Tryz.func121 rfl (by decide) rfl rfl rfl ?_
  refine crr (by kernel_rfl) rfl ?_   -- region 0
  refine c_rs (by kernel_rfl) ?_   -- region 1
  refine sr 2 rfl ?_
  refine s_op rfl (o_ar rfl rfl rfl (by omega) (by omega) ?_)
  refine s_op rfl (o_ex loud_n rfl (iTake_c r o l 5 (m + 2) _ hx hok (by omega) (by omega) (by omega)) ?_)
  rintro v1 st1 ⟨q, rfl, hf1⟩ e1
  refine sra rfl ?_
  refine c_seq ?_
  refine crr (by kernel_rfl) rfl ?_   -- region 2
  refine c_if rfl (fun hc => ?_) (fun hc => ?_)
  · have hc : tkO l (m + 2) = false := by simpa using hc
    have ht := tk_no 5 hc
    refine crr (by kernel_rfl) rfl ?_   -- region 3
    refine c_ret (fr rfl ?_)
    have e1 : nwL l 5 (m + 2) w = tkL l 5 (m + 2) := by unfold nwL; rw [hc, ht.2]; rfl
    have e2 : nwV l (m + 2) 7 = 0 := by unfold nwV; rw [hc]; rfl
    rw [e1, e2, hc]
    exact ⟨q, rfl, hf1⟩
  · have hc : tkO l (m + 2) = true := by simpa using hc
    have ht := tk_at hc
    have hl := tkL_len l 5 (m + 2)
    have hb := block_at ht.2.2.1
    refine c_skip ?_
    refine c_rs (by kernel_rfl) ?_   -- region 4
    refine sr 3 rfl ?_
    refine s_op rfl (o_ar rfl rfl rfl (by omega) (by omega) ?_)
    refine sr 1 rfl ?_
    refine s_op rfl (oidx rfl rfl rfl (by omega) (by omega) ?_)
    refine s_op rfl (ostF rfl rfl hf1 rfl rfl (by omega) fun st2 hf2 e2 => ?_)
    refine s_end ?_
    refine cdt [0, 1, 2, 3, 4, 5] [.q, .q, .f, .n, .q, .q] (by kernel_rfl) (by kernel_rfl) ?_   -- region 5
    refine sr 2 rfl ?_
    refine s_op rfl (o_pure loud_f rfl (iRefOf_c 7 (tkA l (m + 2)) _ (by omega) (by omega)) ?_)
    refine sra rfl ?_
    refine c_ret (fr rfl ?_)
    have e1 : nwL l 5 (m + 2) w = (tkL l 5 (m + 2)).set (0 + (tkA l (m + 2) + 1).toNat) w := by unfold nwL; rw [hc, Nat.zero_add]; rfl
    have e2 : nwV l (m + 2) 7 = 8 * tkA l (m + 2) + 7 := by unfold nwV; rw [hc]; rfl
    rw [e1, e2, hc]
    refine ⟨q, ?_, hf2⟩
    rw [List.length_set]
end Go.Proofs.YtfhkjhnaihhdmaaGreatW.Ax

/- ObjNew, ScopeNew: walked. -/
namespace Go.Proofs.YtfhkjhnaihhdmaaGreatW.Ax
open Go Go.RowKit Go.Proofs Go.Proofs.YtfhkjhnaihhdmaaGreat.Pure
set_option linter.unusedVariables false
set_option maxRecDepth 100000

noncomputable def gL (P : Prop) (L l : List Int) : List Int := cond (bd P) L (zl l)
noncomputable def gV (P : Prop) (x : Int) : Int := cond (bd P) x 0
noncomputable def gO (P : Prop) (b : Bool) : Bool := cond (bd P) b false
theorem gL_t {P : Prop} {L l : List Int} (h : P) : gL P L l = L := by unfold gL; rw [bdt.2 h]; rfl
theorem gL_f {P : Prop} {L l : List Int} (h : ¬ P) : gL P L l = zl l := by unfold gL; rw [bdf.2 h]; rfl
theorem gV_t {P : Prop} {x : Int} (h : P) : gV P x = x := by unfold gV; rw [bdt.2 h]; rfl
theorem gV_f {P : Prop} {x : Int} (h : ¬ P) : gV P x = 0 := by unfold gV; rw [bdf.2 h]; rfl
theorem gO_t {P : Prop} {x : Bool} (h : P) : gO P x = x := by unfold gO; rw [bdt.2 h]; rfl
theorem gO_f {P : Prop} {x : Bool} (h : ¬ P) : gO P x = false := by unfold gO; rw [bdf.2 h]; rfl
theorem gL_len {P : Prop} {L l : List Int} (h : L.length ≤ l.length) : (gL P L l).length ≤ l.length := by
  by_cases hp : P
  · rw [gL_t hp]; exact h
  · rw [gL_f hp]; exact zl_len l

def OnOk (l : List Int) (v : Int) : Prop := Pok v ∧ Rts l [v]
noncomputable def onL (l : List Int) (v : Int) : List Int := gL (OnOk l v) (nwL l 2 3 v) l
noncomputable def onV (l : List Int) (v : Int) : Int := gV (OnOk l v) (nwV l 3 5)
noncomputable def onO (l : List Int) (v : Int) : Bool := gO (OnOk l v) (tkO l 3)
theorem onL_len (l : List Int) (v : Int) : (onL l v).length ≤ l.length := gL_len (by rw [nwL_len]; exact Nat.le_refl _)
theorem ObjNew_c (r : Option Nat) (o : Nat) (l : List Int) (v : Int) (st : St) (hx : At st r o l) (hl : l.length ≤ 1048576) : ACalls Tryz.prog 60 [.agg [.sl r o l.length], I v] st No (Nw st (onL l v) (onV l v) (onO l v)) := by
  refine ent (N := 33) Tryz.func60 rfl (by decide) rfl rfl rfl ?_
  refine crr (by kernel_rfl) rfl ?_   -- region 0
  refine c_seq ?_
  refine c_sj (α := Bool) (fun b => [(1, I v), (19, .bool b)]) (fun _ => [(2, 2, [.sl r o l.length]), (4, 4, [.sl none 0 0])]) (fun b st' => Ex st st' ∧ (b = true ↔ ¬ OnOk l v)) ?_ ?_
  · -- region 1
    refine c_region (by kernel_rfl) ?_
    refine sr 1 rfl ?_
    refine s_op rfl (o_pure loud_n rfl (l5ProtoOk_c ..) ?_)
    refine sr 2 rfl ?_
    refine s_bool 13 rfl rfl (fun h13 => ?_) (fun h13 => ?_)
    · have h13 := nbt h13
      refine sra rfl ⟨true, ⟨rfl, rfl, trivial⟩, ⟨rfl, rfl, rfl, rfl, trivial⟩, Ext.refl _ _, ⟨fun _ h => h13 h.1, fun _ => rfl⟩⟩
    · have h13 := nbf h13
      refine sr 2 rfl ?_
      refine s_op rfl (oints [v] loud_n rfl (by decide) rfl rfl rfl fun q st1 hq e1 => ?_)
      refine s_op rfl (o_ex loud_n rfl (RootsOk_c _ _ _ _ _ _ _ (hx.ex e1) hq.at_ hl (by simp)) ?_)
      rintro v2 st2 rfl e2
      refine sra rfl ⟨_, ⟨rfl, rfl, trivial⟩, ⟨rfl, rfl, rfl, rfl, trivial⟩, e1.tr e2, ?_⟩
      exact ⟨fun h k => nbt h k.2, fun h => (by rw [bdf.2 fun k => h ⟨h13, k⟩]; rfl)⟩
  rintro b st1 ⟨e1, hb⟩
  refine c_if rfl (fun h19 => ?_) (fun h19 => ?_)
  · have h19 := hb.1 h19
    refine c_rs (by kernel_rfl) ?_   -- region 2
    refine sr 1 rfl ?_
    refine s_op rfl (o_ex loud_n rfl (l5Zero_c _ _ _ _ (hx.ex e1) hl) ?_)
    rintro v2 st2 ⟨q, rfl, hf⟩ e2
    refine sra rfl ?_
    refine c_ret (fr rfl ⟨q, ?_, ?_⟩)
    · rw [onL, onV, onO, gL_f h19, gV_f h19, gO_f h19]
    · rw [onL, gL_f h19]; exact hf.le e1.n
  · have h19 : OnOk l v := Classical.byContradiction fun h => by rw [hb.2 h] at h19; cases h19
    refine c_skip ?_
    refine c_rs (by kernel_rfl) ?_   -- region 3
    refine sr 1 rfl ?_
    refine s_op rfl (o_ex loud_n rfl (l2Copy_c _ _ _ _ (hx.ex e1) hl) ?_)
    rintro v2 st2 ⟨q, rfl, hf⟩ e2
    have hf := hf.le e1.n
    refine sr 1 rfl ?_
    refine s_op rfl (o_call rfl (l5New_c _ _ _ v _ hf h19.2.1.1) (fun i hi h => absurd hi (by have := hf.bd i h; omega)) (.inl rfl) ?_)
    rintro v3 st3 ⟨rfl, hf3, _⟩ e3
    refine sra rfl ?_
    refine crr (by kernel_rfl) rfl ?_   -- region 4
    refine c_ret (fr rfl ⟨q, ?_, ?_⟩)
    · rw [onL, onV, onO, gL_t h19, gV_t h19, gO_t h19]
    · rw [onL, gL_t h19]; exact hf3
theorem iObjNew_c (r : Option Nat) (o : Nat) (l : List Int) (v : Int) (st : St) (hx : At st r o l) (hl : l.length ≤ 1048576) : ACalls Tryz.prog 59 [.agg [.sl r o l.length], I v] st No (Nw st (onL l v) (onV l v) (onO l v)) := by
  have hR : (Rts l [v] ∧ v % 8 ∈ ([1, 5] : List Int)) ↔ OnOk l v := by
    unfold OnOk Pok
    refine ⟨fun h => ⟨?_, h.1⟩, fun h => ⟨h.2, ?_⟩⟩
    · have h3 : v % 8 = 1 ∨ v % 8 = 5 := by simpa using h.2
      exact h3.imp (vok1 (h.1.2 v (by simp))) id
    · have : v % 8 = 1 ∨ v % 8 = 5 := h.1.imp (fun e => by omega) id
      simpa using this
  refine ent (N := 22) Tryz.func59 rfl (by decide) rfl rfl rfl ?_
  refine crr (by kernel_rfl) rfl ?_   -- region 0
  refine c_seq ?_
  refine c_rs (by kernel_rfl) ?_   -- region 1
  refine sr 2 rfl ?_
  refine s_op rfl (oints [v] loud_n rfl (by decide) rfl rfl rfl fun q st1 hq e1 => ?_)
  refine s_op rfl (oints [1, 5] loud_n rfl (by decide) rfl rfl rfl fun q1 st2 hq1 e2 => ?_)
  refine s_op rfl (oblk [.sl (some q1) 0 2] loud_n rfl (by decide) rfl rfl fun q3 st4 hq3 e4 => ?_)
  refine s_op rfl (o_ex loud_n rfl (ready1_c _ _ _ _ _ l [1, 5] v _ (hx.ex (e1.tr (e2.tr e4))) (hq.at_.ex (e2.tr e4)) hl (hq3 0) (hq1.at_.ex e4) (by decide)) ?_)
  rintro v5 st5 rfl e5
  have e15 := (e1.tr (e2.tr e4)).tr e5
  refine sra rfl ?_
  refine c_if rfl (fun h13 => ?_) (fun h13 => ?_)
  · have h13 : ¬ OnOk l v := fun h => nbt h13 (hR.2 h)
    refine c_rs (by kernel_rfl) ?_   -- region 2
    refine sr 1 rfl ?_
    refine s_op rfl (o_ex loud_n rfl (asItWas_c _ _ _ _ (hx.ex e15) hl) ?_)
    rintro v2 st2 ⟨q, rfl, hf⟩ e2
    refine sra rfl ?_
    refine c_ret (fr rfl ⟨q, ?_, ?_⟩)
    · rw [onL, onV, onO, gL_f h13, gV_f h13, gO_f h13]
    · rw [onL, gL_f h13]; exact hf.le e15.n
  · have h13 : OnOk l v := hR.1 (nbf h13)
    refine c_skip ?_
    refine c_rs (by kernel_rfl) ?_   -- region 3
    refine sr 2 rfl ?_
    refine s_op rfl (o_ex loud_n rfl (objNew_c _ _ _ v _ (hx.ex e15) h13.2.1.1) ?_)
    rintro v3 st3 ⟨q, rfl, hf⟩ e3
    refine sra rfl ?_
    refine c_ret (fr rfl ⟨q, ?_, ?_⟩)
    · rw [onL, onV, onO, gL_t h13, gV_t h13, gO_t h13]
    · rw [onL, gL_t h13]; exact hf.le e15.n
def SnOk (l : List Int) (u n : Int) : Prop := (u = 0 ∨ u % 8 = 7) ∧ Rts l [u] ∧ (0 ≤ n ∧ n ≤ 12)
noncomputable def snL (l : List Int) (u n : Int) : List Int := gL (SnOk l u n) (nwL l 5 (n.toNat + 2) u) l
noncomputable def snV (l : List Int) (u n : Int) : Int := gV (SnOk l u n) (nwV l (n.toNat + 2) 7)
noncomputable def snO (l : List Int) (u n : Int) : Bool := gO (SnOk l u n) (tkO l (n.toNat + 2))
theorem snL_len (l : List Int) (u n : Int) : (snL l u n).length ≤ l.length := gL_len (by rw [nwL_len]; exact Nat.le_refl _)
theorem ScopeNew_c (r : Option Nat) (o : Nat) (l : List Int) (u n : Int) (st : St) (hx : At st r o l) (hl : l.length ≤ 1048576) : ACalls Tryz.prog 44 [.agg [.sl r o l.length], I u, I n] st No (Nw st (snL l u n) (snV l u n) (snO l u n)) := by
  refine ent (N := 45) Tryz.func44 rfl (by decide) rfl rfl rfl ?_
  refine crr (by kernel_rfl) rfl ?_   -- region 0
  refine c_seq ?_
  refine c_sj (α := Bool) (fun b => [(1, I u), (2, I n), (30, .bool b)]) (fun _ => [(3, 3, [.sl r o l.length]), (6, 6, [.sl none 0 0])]) (fun b st' => Ex st st' ∧ (b = true ↔ ¬ SnOk l u n)) ?_ ?_
  · -- region 1
    refine c_region (by kernel_rfl) ?_
    have tail : ∀ (h19 : u = 0 ∨ u % 8 = 7) (a : Aa) (h1 : a.s 19 = .bool false) (h2 : a.p 19 = none), True := fun _ _ _ _ => trivial
    refine sr 3 rfl ?_
    refine s_bool 14 rfl rfl (fun h14 => ?_) (fun h14 => ?_)
    · have h14 := ndt h14
      refine sr 1 rfl ?_
      refine s_op rfl (o_pure loud_n rfl (Kind_c ..) ?_)
      refine sr 3 rfl ?_
      refine s_bool 19 rfl rfl (fun h19 => ?_) (fun h19 => ?_)
      · have h19 := ndt h19
        refine sr 7 rfl ?_
        refine sra rfl ⟨true, ⟨rfl, rfl, rfl, trivial⟩, ⟨rfl, rfl, rfl, rfl, trivial⟩, Ext.refl _ _, ⟨fun _ h => h.1.elim h14 h19, fun _ => rfl⟩⟩
      · have h19 : u = 0 ∨ u % 8 = 7 := .inr (ndf h19)
        refine sr 2 rfl ?_
        refine s_op rfl (oints [u] loud_n rfl (by decide) rfl rfl rfl fun q st1 hq e1 => ?_)
        refine s_op rfl (o_ex loud_n rfl (RootsOk_c _ _ _ _ _ _ _ (hx.ex e1) hq.at_ hl (by simp)) ?_)
        rintro v2 st2 rfl e2
        refine sr 3 rfl ?_
        refine s_bool 26 rfl rfl (fun h26 => ?_) (fun h26 => ?_)
        · have h26 := nbt h26
          refine sra rfl ⟨true, ⟨rfl, rfl, rfl, trivial⟩, ⟨rfl, rfl, rfl, rfl, trivial⟩, e1.tr e2, ⟨fun _ h => h26 h.2.1, fun _ => rfl⟩⟩
        · have h26 := nbf h26
          refine sr 1 rfl ?_
          refine s_op rfl (o_pure loud_n rfl (l1In_c ..) ?_)
          refine sra rfl ⟨_, ⟨rfl, rfl, rfl, trivial⟩, ⟨rfl, rfl, rfl, rfl, trivial⟩, e1.tr e2, ?_⟩
          exact ⟨fun h k => ndt h k.2.2, fun h => (by rw [decide_eq_false fun k => h ⟨h19, h26, k⟩]; rfl)⟩
    · have h19 : u = 0 ∨ u % 8 = 7 := .inl (ndf h14)
      refine sr 5 rfl ?_
      refine sr 2 rfl ?_
      refine s_op rfl (oints [u] loud_n rfl (by decide) rfl rfl rfl fun q st1 hq e1 => ?_)
      refine s_op rfl (o_ex loud_n rfl (RootsOk_c _ _ _ _ _ _ _ (hx.ex e1) hq.at_ hl (by simp)) ?_)
      rintro v2 st2 rfl e2
      refine sr 3 rfl ?_
      refine s_bool 26 rfl rfl (fun h26 => ?_) (fun h26 => ?_)
      · have h26 := nbt h26
        refine sra rfl ⟨true, ⟨rfl, rfl, rfl, trivial⟩, ⟨rfl, rfl, rfl, rfl, trivial⟩, e1.tr e2, ⟨fun _ h => h26 h.2.1, fun _ => rfl⟩⟩
      · have h26 := nbf h26
        refine sr 1 rfl ?_
        refine s_op rfl (o_pure loud_n rfl (l1In_c ..) ?_)
        refine sra rfl ⟨_, ⟨rfl, rfl, rfl, trivial⟩, ⟨rfl, rfl, rfl, rfl, trivial⟩, e1.tr e2, ?_⟩
        exact ⟨fun h k => ndt h k.2.2, fun h => (by rw [decide_eq_false fun k => h ⟨h19, h26, k⟩]; rfl)⟩
  rintro b st1 ⟨e1, hb⟩
  refine c_if rfl (fun h30 => ?_) (fun h30 => ?_)
  · have h30 := hb.1 h30
    refine c_rs (by kernel_rfl) ?_   -- region 2
    refine sr 1 rfl ?_
    refine s_op rfl (o_ex loud_n rfl (l5Zero_c _ _ _ _ (hx.ex e1) hl) ?_)
    rintro v2 st2 ⟨q, rfl, hf⟩ e2
    refine sra rfl ?_
    refine c_ret (fr rfl ⟨q, ?_, ?_⟩)
    · rw [snL, snV, snO, gL_f h30, gV_f h30, gO_f h30]
    · rw [snL, gL_f h30]; exact hf.le e1.n
  · have h30 : SnOk l u n := Classical.byContradiction fun h => by rw [hb.2 h] at h30; cases h30
    obtain ⟨m, hm⟩ : ∃ m : Nat, n = m := ⟨n.toNat, by have := h30.2.2; omega⟩
    have hmt : n.toNat = m := by omega
    have hm12 : m ≤ 12 := by have := h30.2.2; omega
    refine c_skip ?_
    refine c_rs (by kernel_rfl) ?_   -- region 3
    refine sr 1 rfl ?_
    refine s_op rfl (o_ex loud_n rfl (l2Copy_c _ _ _ _ (hx.ex e1) hl) ?_)
    rintro v2 st2 ⟨q, rfl, hf⟩ e2
    have hf := hf.le e1.n
    refine sr 2 rfl ?_
    rw [hm]
    refine s_op rfl (o_call rfl (l6New_c _ _ _ u m _ hf h30.2.1.1.1 hm12) (fun i hi h => absurd hi (by have := hf.bd i h; omega)) (.inl rfl) ?_)
    rintro v3 st3 ⟨rfl, hf3, _⟩ e3
    refine sra rfl ?_
    refine crr (by kernel_rfl) rfl ?_   -- region 4
    rw [← hm]
    refine c_ret (fr rfl ⟨q, ?_, ?_⟩)
    · rw [snL, snV, snO, gL_t h30, gV_t h30, gO_t h30, hmt]
    · rw [snL, gL_t h30, hmt]; exact hf3
theorem iScopeNew_c (r : Option Nat) (o : Nat) (l : List Int) (u n : Int) (st : St) (hx : At st r o l) (hl : l.length ≤ 1048576) : ACalls Tryz.prog 43 [.agg [.sl r o l.length], I u, I n] st No (Nw st (snL l u n) (snV l u n) (snO l u n)) := by
  have hR : (Rts l [u] ∧ u % 8 ∈ ([7, 0] : List Int)) ↔ ((u = 0 ∨ u % 8 = 7) ∧ Rts l [u]) := by
    refine ⟨fun h => ⟨?_, h.1⟩, fun h => ⟨h.2, ?_⟩⟩
    · have h3 : u % 8 = 7 ∨ u % 8 = 0 := by simpa using h.2
      exact (h3.imp id (vok0 (h.1.2 u (by simp)))).symm
    · have : u % 8 = 7 ∨ u % 8 = 0 := (h.1.imp (fun e => by omega) id).symm
      simpa using this
  refine ent (N := 30) Tryz.func43 rfl (by decide) rfl rfl rfl ?_
  refine crr (by kernel_rfl) rfl ?_   -- region 0
  refine c_seq ?_
  refine c_sj (α := Bool) (fun b => [(1, I u), (2, I n), (20, .bool b)]) (fun _ => [(3, 3, [.sl r o l.length]), (6, 6, [.sl none 0 0])]) (fun b st' => Ex st st' ∧ (b = true ↔ ¬ SnOk l u n)) ?_ ?_
  · -- region 1
    refine c_region (by kernel_rfl) ?_
    refine sr 2 rfl ?_
    refine s_op rfl (oints [u] loud_n rfl (by decide) rfl rfl rfl fun q st1 hq e1 => ?_)
    refine s_op rfl (oints [7, 0] loud_n rfl (by decide) rfl rfl rfl fun q1 st2 hq1 e2 => ?_)
    refine s_op rfl (oblk [.sl (some q1) 0 2] loud_n rfl (by decide) rfl rfl fun q3 st4 hq3 e4 => ?_)
    refine s_op rfl (o_ex loud_n rfl (ready1_c _ _ _ _ _ l [7, 0] u _ (hx.ex (e1.tr (e2.tr e4))) (hq.at_.ex (e2.tr e4)) hl (hq3 0) (hq1.at_.ex e4) (by decide)) ?_)
    rintro v5 st5 rfl e5
    have e15 := (e1.tr (e2.tr e4)).tr e5
    refine sr 2 rfl ?_
    refine s_bool 16 rfl rfl (fun h16 => ?_) (fun h16 => ?_)
    · have h16 := nbt h16
      refine sra rfl ⟨true, ⟨rfl, rfl, rfl, trivial⟩, ⟨rfl, rfl, rfl, rfl, trivial⟩, e15, ⟨fun _ h => h16 (hR.2 ⟨h.1, h.2.1⟩), fun _ => rfl⟩⟩
    · have h16 := hR.1 (nbf h16)
      refine sr 1 rfl ?_
      refine s_op rfl (o_pure loud_n rfl (within_c ..) ?_)
      refine sra rfl ⟨_, ⟨rfl, rfl, rfl, trivial⟩, ⟨rfl, rfl, rfl, rfl, trivial⟩, e15, ?_⟩
      exact ⟨fun h k => ndt h k.2.2, fun h => (by rw [decide_eq_false fun k => h ⟨h16.1, h16.2, k⟩]; rfl)⟩
  rintro b st1 ⟨e1, hb⟩
  refine c_if rfl (fun h30 => ?_) (fun h30 => ?_)
  · have h30 := hb.1 h30
    refine c_rs (by kernel_rfl) ?_   -- region 2
    refine sr 1 rfl ?_
    refine s_op rfl (o_ex loud_n rfl (asItWas_c _ _ _ _ (hx.ex e1) hl) ?_)
    rintro v2 st2 ⟨q, rfl, hf⟩ e2
    refine sra rfl ?_
    refine c_ret (fr rfl ⟨q, ?_, ?_⟩)
    · rw [snL, snV, snO, gL_f h30, gV_f h30, gO_f h30]
    · rw [snL, gL_f h30]; exact hf.le e1.n
  · have h30 : SnOk l u n := Classical.byContradiction fun h => by rw [hb.2 h] at h30; cases h30
    obtain ⟨m, hm⟩ : ∃ m : Nat, n = m := ⟨n.toNat, by have := h30.2.2; omega⟩
    have hmt : n.toNat = m := by omega
    have hm12 : m ≤ 12 := by have := h30.2.2; omega
    refine c_skip ?_
    refine c_rs (by kernel_rfl) ?_   -- region 3
    refine sr 3 rfl ?_
    rw [hm]
    refine s_op rfl (o_ex loud_n rfl (scopeNew_c _ _ _ u m _ (hx.ex e1) h30.2.1.1.1 hm12) ?_)
    rintro v3 st3 ⟨q, rfl, hf⟩ e3
    refine sra rfl ?_
    rw [← hm]
    refine c_ret (fr rfl ⟨q, ?_, ?_⟩)
    · rw [snL, snV, snO, gL_t h30, gV_t h30, gO_t h30, hmt]
    · rw [snL, gL_t h30, hmt]; exact hf.le e1.n
end Go.Proofs.YtfhkjhnaihhdmaaGreatW.Ax

/- The cells of an object: walked. -/
namespace Go.Proofs.YtfhkjhnaihhdmaaGreatW.Ax
open Go Go.RowKit Go.Proofs Go.Proofs.YtfhkjhnaihhdmaaGreat.Pure
set_option linter.unusedVariables false
set_option maxRecDepth 100000

theorem find_at {p : Int → Bool} : ∀ {l : List Int} {i : Nat}, i < l.length → (∀ j : Nat, j < i → p (l.getD j 0) = false) → p (l.getD i 0) = true → l.find? p = some (l.getD i 0)
  | [], i, h, _, _ => by simp at h
  | a :: l, 0, _, _, hi => by
    have hi : p a = true := by simpa using hi
    simp [List.find?, hi]
  | a :: l, i + 1, h, hn, hi => by
    have h0 : p a = false := by simpa using hn 0 (by omega)
    have := find_at (p := p) (l := l) (i := i) (by simpa using h) (fun j hj => by simpa using hn (j + 1) (by omega)) (by simpa using hi)
    simp [List.find?, h0, this]
theorem find_no {p : Int → Bool} : ∀ {l : List Int}, (∀ j : Nat, j < l.length → p (l.getD j 0) = false) → l.find? p = none
  | [], _ => rfl
  | a :: l, hn => by
    have h0 : p a = false := by simpa using hn 0 (by simp)
    have := find_no (p := p) (l := l) (fun j hj => by simpa using hn (j + 1) (by simpa using hj))
    simp [List.find?, h0, this]
theorem find_mem {p : Int → Bool} {l : List Int} (h : ∀ x ∈ l, p x = false) : l.find? p = none := find_no fun j hj => h _ (by simp [List.getD, hj])
theorem find_app {p : Int → Bool} {l m : List Int} {v : Int} (h : ∀ x ∈ l, p x = false) (hv : p v = true) : (l ++ v :: m).find? p = some v := by
  rw [List.find?_append, find_mem h]
  simp [List.find?, hv]
theorem rd_map8 (l : List Int) (j : Nat) : rd (l.map (· / 8)) j = rd l j / 8 := by
  by_cases h : j < l.length
  · simp [rd, List.getD, h]
  · simp [rd, List.getD, h]
/-- An object's value whose prototype and cells are looked at. -/
def ObjIn (l : List Int) (obj : Int) : Prop := Heap l ∧ Rf l obj 5 2
def lastD (out : List Int) : Int := match out.getLast? with | some v => v / 8 | none => -1
theorem lastD_app (out : List Int) (v : Int) : lastD (out ++ [v]) = v / 8 := by simp [lastD]
def cA (x : Option Int) : Int := match x with | some v => v / 8 | none => -1
def Cl (st : St) (l : List Int) (obj : Int) : AV → St → Prop := fun v st' => ∃ q, v = .tup [.sl q 0 (places l obj).length, .bool (cellsR l obj).2] ∧ Fr st.n st' q (places l obj)
theorem places_len {l : List Int} {obj : Int} (h : ObjIn l obj) : (places l obj).length < l.length := by
  have hb := obj_at h.1 h.2
  have key : ∀ (d : Nat) (v : Int) (out : List Int), Way l (cellsR l obj) d v out → (cellsR l obj).1.length < l.length := by
    intro d
    induction d with
    | zero => intro v out hw; obtain ⟨_, e, he⟩ := hw.len hb.2.1; cases he
    | succ d ih =>
      intro v out hw
      have hl := (hw.len hb.2.1).1
      by_cases hv : v = 0
      · rw [hw.on.stop_ (decide_eq_true hv)]; exact hl
      · by_cases hm : v ∈ out
        · rw [(hw.on.circle (decide_eq_false hv) hm).1]; exact hl
        · exact ih _ _ (hw.step h.1 hv hm)
  unfold places
  rw [List.length_map]
  exact key _ _ _ (way_start h.1 h.2)

theorem cells_c (r : Option Nat) (o : Nat) (l : List Int) (obj : Int) (st : St) (hx : At st r o l) (h : ObjIn l obj) : ACalls Tryz.prog 127 [.agg [.sl r o l.length], I obj] st No (Cl st l obj) := by
  obtain ⟨hp, ho⟩ := h
  have hb := obj_at hp ho
  refine ent (N := 35) Tryz.func127 rfl (by decide) rfl rfl rfl ?_
  refine crr (by kernel_rfl) rfl ?_   -- region 0
  refine crr (by kernel_rfl) rfl ?_   -- region 1
  refine c_seq ?_
  refine cds [0, 1, 2, 3, 4, 5, 6, 7] [.q, .q, .q, .f, .q, .q, .q, .q] (by kernel_rfl) (by kernel_rfl) ?_   -- region 2
  refine sr 3 rfl ?_
  refine s_op rfl (o_pure loud_f rfl (iNum_c ..) ?_)
  refine s_op rfl (o_ar rfl rfl rfl (by omega) (by omega) ?_)
  refine s_op rfl (oidx rfl rfl rfl (by omega) (by omega) ?_)
  refine s_op rfl (old rfl rfl (hx.rd (by omega) (by omega)) ?_)
  refine sra rfl ?_
  refine c_block ?_
  refine c_lp (α := Int × List Int × Nat × Option Nat) (fun i => [(6, .sl i.2.2.2 0 (i.2.1.map (· / 8)).length), (7, I i.1)]) (fun _ => [(2, 2, [.sl r o l.length])])
    (fun i st' => Way l (cellsR l obj) i.2.2.1 i.1 i.2.1 ∧ Ex st st' ∧ Fr st.n st' i.2.2.2 (i.2.1.map (· / 8))) (fun i => i.2.2.1) (rd l (obj / 8 + 2), [], l.length + 1, none) ⟨rfl, rfl, trivial⟩ ⟨rfl, rfl, trivial⟩ ⟨way_start hp ho, Ext.refl _ _, fr_nil _ _⟩ ?_
  rintro ⟨v, out, d, q⟩ st1 ⟨hw, he, hf⟩
  dsimp only at *
  obtain ⟨hol, d, rfl⟩ := hw.len hb.2.1
  have hml : (out.map (· / 8)).length = out.length := List.length_map _
  refine c_seq ?_
  refine crr (by kernel_rfl) rfl ?_   -- region 3
  refine c_if rfl (fun h16 => ?_) (fun h16 => ?_)
  · -- then
    have h16 := ndt h16
    have hc := cell_at hp (hw.nx.resolve_left h16)
    refine c_skip ?_
    refine c_seq ?_
    refine c_block ?_
    refine c_seq ?_
    refine c_rs (by kernel_rfl) ?_   -- region 5
    refine sr 2 rfl ?_
    refine s_op rfl (o_pure loud_n rfl (iNum_c ..) ?_)
    refine s_op rfl (o_pure loud_n rfl (Contains_c _ _ _ _ _ hf.at_ (by omega)) ?_)
    refine s_end ?_
    refine c_if rfl (fun h27 => ?_) (fun h27 => ?_)
    · -- then
      have h27 := (hw.mem h16).1 (bdt.1 h27)
      have hC := (hw.on.circle (decide_eq_false h16) h27).1
      refine crr (by kernel_rfl) rfl ?_   -- region 6
      refine c_ret (fr rfl ⟨q, ?_, ?_⟩)
      · unfold places; rw [hC]
      · unfold places; rw [hC]; exact hf
    · -- else
      have h27 : v ∉ out := fun h => bdf.1 h27 ((hw.mem h16).2 h)
      refine c_skip ?_
      refine c_region (by kernel_rfl) ?_   -- region 7
      refine sr 2 rfl ?_
      refine s_op rfl (o_pure loud_n rfl (iNum_c ..) ?_)
      refine s_op rfl (oone loud_n rfl rfl ?_)
      refine s_op rfl (oappF rfl rfl rfl (hf.ex (ex_push _ _)) rfl (at_row (Nat.lt_succ_self _) (push_ob _ _)) (by simp; omega) fun q2 st2 hf2 he2 => ?_)
      have he3 : Ex st st2 := (he.tr (ex_push _ _)).own (hf.ex (ex_push _ _)) he2
      refine sra rfl ?_
      refine cd1 [0, 1, 2, 3, 4, 5, 6, 7] [.q, .q, .q, .f, .q, .q, .q, .q] (by kernel_rfl) (by kernel_rfl) ?_   -- region 4
      refine sr 3 rfl ?_
      refine s_op rfl (o_pure loud_f rfl (iNum_c ..) ?_)
      refine s_op rfl (o_ar rfl rfl rfl (by omega) (by omega) ?_)
      refine s_op rfl (oidx rfl rfl rfl (by omega) (by omega) ?_)
      refine s_op rfl (old rfl rfl ((hx.ex he3).rd (by omega) (by omega)) ?_)
      have em : (out ++ [v]).map (· / 8) = out.map (· / 8) ++ [v / 8] := by simp
      refine sra rfl ⟨(nxC l v, out ++ [v], d, q2), ⟨?_, rfl, trivial⟩, ⟨rfl, rfl, trivial⟩, ⟨hw.step hp h16 h27, he3, ?_⟩, by dsimp only; omega⟩
      · dsimp only; rw [em]; rfl
      · dsimp only; rw [em]; exact hf2
  · -- else
    have h16 := ndf h16
    have hC := hw.on.stop_ (decide_eq_true h16)
    refine c_exit ?_
    refine crr (by kernel_rfl) rfl ?_   -- region 8
    refine c_ret (fr rfl ⟨q, ?_, ?_⟩)
    · unfold places; rw [hC]
    · unfold places; rw [hC]; exact hf
theorem own_c (r : Option Nat) (o : Nat) (l : List Int) (obj name : Int) (st : St) (hx : At st r o l) (h : ObjIn l obj) : ACalls Tryz.prog 131 [.agg [.sl r o l.length], I obj, I name] st No (Pv (OwnR l obj name)) := by
  have hb := obj_at h.1 h.2
  have hpl := places_len h
  have hcl : (places l obj).length = (cellsR l obj).1.length := List.length_map _
  refine ent (N := 39) Tryz.func131 rfl (by decide) rfl rfl rfl ?_
  refine crr (by kernel_rfl) rfl ?_   -- region 0
  refine c_rs (by kernel_rfl) ?_   -- region 1
  refine sr 2 rfl ?_
  refine s_op rfl (o_ex loud_n rfl (cells_c _ _ _ _ _ hx h) ?_)
  rintro v2 st1 ⟨q, rfl, hf⟩ e1
  have hx1 := hx.ex e1
  refine sra rfl ?_
  refine c_seq ?_
  refine crr (by kernel_rfl) rfl ?_   -- region 2
  refine c_block ?_
  refine c_lp (α := Nat) (fun i => [(2, I name), (18, .sl q 0 (places l obj).length), (19, I (places l obj).length), (20, I i)]) (fun _ => [(3, 3, [.sl r o l.length])])
    (fun i st' => st1 = st' ∧ i ≤ (places l obj).length ∧ ∀ j : Nat, j < i → ¬ rd l (rd (cellsR l obj).1 j / 8 + 1) = name) (fun i => (places l obj).length - i) 0 ⟨rfl, rfl, rfl, rfl, trivial⟩ ⟨rfl, rfl, trivial⟩ ⟨rfl, by omega, fun j hj => by omega⟩ ?_
  rintro i st' ⟨rfl, hi, hn⟩
  refine crr (by kernel_rfl) rfl ?_   -- region 3
  refine c_seq ?_
  refine c_if rfl (fun h21 => ?_) (fun h21 => ?_)
  · -- then
    have h21 := of_decide_eq_true h21
    have hmm : rd (cellsR l obj).1 i ∈ (cellsR l obj).1 := mem_rd (by omega)
    have hc := cell_at h.1 (cells_rf h.1 h.2 _ hmm)
    have hpi : rd (places l obj) i = rd (cellsR l obj).1 i / 8 := rd_map8 _ _
    refine c_skip ?_
    refine c_seq ?_
    refine c_block ?_
    refine c_rs (by kernel_rfl) ?_   -- region 4
    refine s_op rfl (oidx rfl rfl rfl (by omega) (by omega) ?_)
    refine s_op rfl (old rfl rfl (hf.at_.rd (by omega) (by omega)) ?_)
    rw [hpi]
    refine sra rfl ?_
    refine c_rs (by kernel_rfl) ?_   -- region 5
    refine sr 3 rfl ?_
    refine s_op rfl (o_ar rfl rfl rfl (by omega) (by omega) ?_)
    refine s_op rfl (oidx rfl rfl rfl (by omega) (by omega) ?_)
    refine s_op rfl (old rfl rfl (hx1.rd (by omega) (by omega)) ?_)
    refine sra rfl ?_
    refine c_if rfl (fun h31 => ?_) (fun h31 => ?_)
    · -- then
      have h31 := of_decide_eq_true h31
      refine c_rs (by kernel_rfl) ?_   -- region 6
      refine sr 3 rfl ?_
      refine s_op rfl (o_ar rfl rfl rfl (by omega) (by omega) ?_)
      refine s_op rfl (oidx rfl rfl rfl (by omega) (by omega) ?_)
      refine s_op rfl (old rfl rfl (hx1.rd (by omega) (by omega)) ?_)
      refine sra rfl ?_
      refine c_ret (fr rfl ?_)
      have e : ownC l obj name = some (rd (cellsR l obj).1 i) := find_at (by omega) (fun j hj => decide_eq_false (hn j hj)) (decide_eq_true h31)
      unfold OwnR ownV
      rw [e]; rfl
    · -- else
      have h31 := of_decide_eq_false h31
      refine c_skip ?_
      refine c_region (by kernel_rfl) ?_   -- region 7
      refine s_op rfl (o_ar rfl rfl rfl (by omega) (by omega) ?_)
      refine sra rfl ⟨i + 1, ⟨rfl, rfl, rfl, rfl, trivial⟩, ⟨rfl, rfl, trivial⟩, ⟨rfl, by omega, fun j hj => ?_⟩, by omega⟩
      by_cases e : j = i
      · rw [e]; exact h31
      · exact hn j (by omega)
  · -- else
    have h21 := of_decide_eq_false h21
    refine c_exit ?_
    refine crr (by kernel_rfl) rfl ?_   -- region 8
    refine c_ret (fr rfl ?_)
    have e : ownC l obj name = none := find_no fun j hj => decide_eq_false (hn j (by omega))
    unfold OwnR ownV
    rw [e]; rfl
/-- The place of the first cell of a name, and the last one that was looked at. -/
def C5 (st : St) (l : List Int) (obj name : Int) : AV → St → Prop := fun v st' => ∃ b, v = .tup [I (cA (ownC l obj name)), I b] ∧ (ownC l obj name = none → (cellsR l obj).2 = false → b = lastD (cellsR l obj).1) ∧ st = st'
theorem l5Cell_c (r : Option Nat) (o : Nat) (l : List Int) (obj name : Int) (st : St) (hx : At st r o l) (h : ObjIn l obj) : ACalls Tryz.prog 175 [.agg [.sl r o l.length], I obj, I name] st No (C5 st l obj name) := by
  obtain ⟨hp, ho⟩ := h
  have hb := obj_at hp ho
  have hcr := cells_rf hp ho
  refine ent (N := 50) Tryz.func175 rfl (by decide) rfl rfl rfl ?_
  refine crr (by kernel_rfl) rfl ?_   -- region 0
  refine crr (by kernel_rfl) rfl ?_   -- region 1
  refine cds [0, 1, 2, 3, 4, 5, 6, 7] [.q, .q, .q, .f, .q, .q, .q, .q] (by kernel_rfl) (by kernel_rfl) ?_   -- region 2
  refine sr 3 rfl ?_
  refine s_op rfl (o_pure loud_f rfl (Num_c ..) ?_)
  refine s_op rfl (o_ar rfl rfl rfl (by omega) (by omega) ?_)
  refine s_op rfl (oidx rfl rfl rfl (by omega) (by omega) ?_)
  refine s_op rfl (old rfl rfl (hx.rd (by omega) (by omega)) ?_)
  refine sra rfl ?_
  refine c_seq ?_
  refine crr (by kernel_rfl) rfl ?_   -- region 3
  refine c_block ?_
  refine c_lp (α := Nat × Int × Int) (fun i => [(2, I name), (8, I i.2.2), (9, I i.2.1), (10, I i.1)]) (fun _ => [(3, 3, [.sl r o l.length])])
    (fun i st' => st = st' ∧ i.1 ≤ l.length ∧ ((∃ d out, Way l (cellsR l obj) d i.2.1 out ∧ out.length = i.1 ∧ (∀ x ∈ out, ¬ rd l (x / 8 + 1) = name) ∧ i.2.2 = lastD out) ∨
      ((cellsR l obj).2 = true ∧ (∀ x ∈ (cellsR l obj).1, ¬ rd l (x / 8 + 1) = name) ∧ i.2.1 ∈ (cellsR l obj).1 ∧ ∀ x ∈ (cellsR l obj).1, nxC l x ∈ (cellsR l obj).1))) (fun i => l.length - i.1) (0, rd l (obj / 8 + 2), -1) ⟨rfl, rfl, rfl, rfl, trivial⟩ ⟨rfl, rfl, trivial⟩
    ⟨rfl, by omega, .inl ⟨_, [], way_start hp ho, rfl, fun x hx => by simp at hx, rfl⟩⟩ ?_
  rintro ⟨n, v, last⟩ st' ⟨rfl, hn, hI⟩
  dsimp only at *
  have hnx : Nxt l v 3 := by
    rcases hI with ⟨d, out, hw, _⟩ | ⟨_, _, hm, _⟩
    · exact hw.nx
    · exact .inr (hcr v hm)
  refine c_seq ?_
  refine c_rj [(2, I name), (8, I last), (9, I v), (10, I n), (27, .bool (decide (v ≠ 0 ∧ n < l.length)))] [(3, 3, [.sl r o l.length])] (by kernel_rfl) ?_ ?_
  · -- region 4
    refine sr 3 rfl ?_
    refine s_bool 21 rfl rfl (fun h21 => ?_) (fun h21 => ?_)
    · have h21 := ndt h21
      refine sra rfl ⟨⟨rfl, rfl, rfl, rfl, ?_, trivial⟩, ⟨rfl, rfl, trivial⟩, rfl⟩
      show AV.bool (decide _) = AV.bool (decide _)
      congr 1
      exact decide_eq_decide.2 ⟨fun h => ⟨h21, by omega⟩, fun h => by omega⟩
    · have h21 := ndf h21
      refine sra rfl ⟨⟨rfl, rfl, rfl, rfl, ?_, trivial⟩, ⟨rfl, rfl, trivial⟩, rfl⟩
      show AV.bool false = AV.bool (decide _)
      rw [decide_eq_false fun h => h.1 h21]
  refine c_if rfl (fun h27 => ?_) (fun h27 => ?_)
  · -- then
    obtain ⟨hv, hnl⟩ := of_decide_eq_true h27
    have hrf := hnx.resolve_left hv
    have hc := cell_at hp hrf
    refine c_skip ?_
    refine c_seq ?_
    refine c_block ?_
    refine c_rs (by kernel_rfl) ?_   -- region 6
    refine sr 1 rfl ?_
    refine s_op rfl (o_pure loud_n rfl (Num_c ..) ?_)
    refine sra rfl ?_
    refine c_seq ?_
    refine c_rs (by kernel_rfl) ?_   -- region 7
    refine sr 3 rfl ?_
    refine s_op rfl (o_ar rfl rfl rfl (by omega) (by omega) ?_)
    refine s_op rfl (oidx rfl rfl rfl (by omega) (by omega) ?_)
    refine s_op rfl (old rfl rfl (hx.rd (by omega) (by omega)) ?_)
    refine sra rfl ?_
    refine c_if rfl (fun h39 => ?_) (fun h39 => ?_)
    · -- then
      have h39 := of_decide_eq_true h39
      have e : ownC l obj name = some v := by
        rcases hI with ⟨d, out, hw, _, hno, _⟩ | ⟨_, hno, hm, _⟩
        · obtain ⟨_, d, rfl⟩ := hw.len hb.2.1
          have hvo : v ∉ out := fun h => hno v h h39
          obtain ⟨r', hr'⟩ := hw.on.pre1 (decide_eq_false hv) hvo
          unfold ownC
          rw [hr']
          exact find_app (fun x hx => decide_eq_false (hno x hx)) (decide_eq_true h39)
        · exact absurd h39 (hno v hm)
      refine crr (by kernel_rfl) rfl ?_   -- region 8
      refine c_ret (fr rfl ⟨last, ?_, ?_, rfl⟩)
      · rw [e]; rfl
      · intro h; rw [e] at h; cases h
    · -- else
      have h39 := of_decide_eq_false h39
      refine c_skip ?_
      refine crr (by kernel_rfl) rfl ?_   -- region 9
      refine c_region (by kernel_rfl) ?_   -- region 10
      refine sr 3 rfl ?_
      refine s_op rfl (o_ar rfl rfl rfl (by omega) (by omega) ?_)
      refine s_op rfl (oidx rfl rfl rfl (by omega) (by omega) ?_)
      refine s_op rfl (old rfl rfl (hx.rd (by omega) (by omega)) ?_)
      refine sra rfl ?_
      refine c_region (by kernel_rfl) ?_   -- region 5
      refine sr 1 rfl ?_
      refine s_op rfl (o_ar rfl rfl rfl (by omega) (by omega) ?_)
      refine sra rfl ⟨(n + 1, nxC l v, v / 8), ⟨rfl, rfl, rfl, rfl, trivial⟩, ⟨rfl, rfl, trivial⟩, ⟨rfl, by dsimp only; omega, ?_⟩, by dsimp only; omega⟩
      dsimp only
      rcases hI with ⟨d, out, hw, hlo, hno, _⟩ | ⟨h1, hno, hm, hcl⟩
      · obtain ⟨_, d, rfl⟩ := hw.len hb.2.1
        by_cases hvo : v ∈ out
        · obtain ⟨hC, hcl⟩ := hw.on.circle (decide_eq_false hv) hvo
          refine .inr ?_
          rw [hC]
          exact ⟨rfl, hno, hcl v hvo, hcl⟩
        · refine .inl ⟨d, out ++ [v], hw.step hp hv hvo, by simp [hlo], fun x hx => ?_, (lastD_app _ _).symm⟩
          rcases List.mem_append.1 hx with hx | hx
          · exact hno x hx
          · rw [List.mem_singleton.1 hx]; exact h39
      · exact .inr ⟨h1, hno, hcl v hm, hcl⟩
  · -- else
    have h27 := of_decide_eq_false h27
    refine c_exit ?_
    refine crr (by kernel_rfl) rfl ?_   -- region 11
    refine c_ret (fr rfl ?_)
    rcases hI with ⟨d, out, hw, hlo, hno, hla⟩ | ⟨h1, hno, hm, hcl⟩
    · obtain ⟨hol, d, rfl⟩ := hw.len hb.2.1
      have hv : v = 0 := Classical.byContradiction fun h => h27 ⟨h, by omega⟩
      have hC := hw.on.stop_ (decide_eq_true hv)
      have e : ownC l obj name = none := by unfold ownC; rw [hC]; exact find_mem fun x hx => decide_eq_false (hno x hx)
      refine ⟨last, ?_, fun _ _ => ?_, rfl⟩
      · rw [e]; rfl
      · rw [hC]; exact hla
    · have e : ownC l obj name = none := find_mem fun x hx => decide_eq_false (hno x hx)
      refine ⟨last, ?_, fun _ h => ?_, rfl⟩
      · rw [e]; rfl
      · rw [h1] at h; cases h
end Go.Proofs.YtfhkjhnaihhdmaaGreatW.Ax

/- Own, Look: walked. -/
namespace Go.Proofs.YtfhkjhnaihhdmaaGreatW.Ax
open Go Go.RowKit Go.Proofs Go.Proofs.YtfhkjhnaihhdmaaGreat.Pure
set_option linter.unusedVariables false
set_option maxRecDepth 100000

/-- An object and a name, right. -/
def OwOk (l : List Int) (obj name : Int) : Prop := name % 8 = 4 ∧ Isk l [obj, name] 5
theorem ow_in {l : List Int} {obj name : Int} (h : OwOk l obj name) : ObjIn l obj := by
  have h1 : obj % 8 = 5 := by simpa [rd] using h.2.1
  exact ⟨h.2.2.1, (leads_rf (h.2.2.2 obj (by simp))).2.1 h1⟩
theorem ow_iff (l : List Int) (obj name : Int) : (Rts l [obj, name] ∧ obj % 8 ∈ ([5] : List Int) ∧ name % 8 ∈ ([4] : List Int)) ↔ OwOk l obj name := by
  unfold OwOk Isk
  have e : rd [obj, name] 0 = obj := rfl
  rw [e]
  exact ⟨fun h => ⟨by simpa using h.2.2, by simpa using h.2.1, h.1⟩, fun h => ⟨h.2.2, by simpa using h.2.1, by simpa using h.1⟩⟩
theorem cA_some {l : List Int} {obj name v : Int} (h : ObjIn l obj) (e : ownC l obj name = some v) : v ∈ (cellsR l obj).1 ∧ 0 ≤ v / 8 ∧ v / 8 + 4 ≤ l.length ∧ l.length ≤ 2000 := by
  have hm := List.mem_of_find?_eq_some e
  have hc := cell_at h.1 (cells_rf h.1 h.2 _ hm)
  exact ⟨hm, hc.2.2.1, hc.2.2.2.1, hc.2.2.2.2.1⟩

/-! ### Look -/
def nxP (l : List Int) (v : Int) : Int := rd l (v / 8 + 1)
def stPr (v : Int) : Bool := decide (¬ v % 8 = 5)
/-- An object and its prototypes, each once. -/
def protoR (l : List Int) (obj : Int) : List Int × Bool := chain (nxP l) stPr (l.length + 1) obj []
def lookC (l : List Int) (obj name : Int) : Option Int := (protoR l obj).1.findSome? fun v => ownC l v name
def lookV (l : List Int) (obj name : Int) : Int := match lookC l obj name with | some v => rd l (v / 8 + 2) | none => 0
def LookR (l : List Int) (obj name : Int) : AV := .tup [I (lookV l obj name), .bool (lookC l obj name).isSome]
theorem findS_mem {f : Int → Option Int} : ∀ {l : List Int}, (∀ x ∈ l, f x = none) → l.findSome? f = none
  | [], _ => rfl
  | a :: l, h => by simp [List.findSome?, h a List.mem_cons_self, findS_mem fun x hx => h x (List.mem_cons_of_mem _ hx)]
theorem findS_app {f : Int → Option Int} {l m : List Int} {v c : Int} (h : ∀ x ∈ l, f x = none) (hv : f v = some c) : (l ++ v :: m).findSome? f = some c := by
  rw [List.findSome?_append, findS_mem h]
  simp [List.findSome?, hv]
structure WayP (l : List Int) (C : List Int × Bool) (d : Nat) (v : Int) (out : List Int) : Prop where
  on : On (nxP l) stPr C d v out
  d : d + out.length = l.length + 1
  rf : ∀ x ∈ out, Rf l x 5 2
  nx : v = 1 ∨ Rf l v 5 2
theorem WayP.len {l : List Int} {C : List Int × Bool} {d : Nat} {v : Int} {out : List Int} (h : WayP l C d v out) {a : Int} (ha : a ∈ blocks l) : out.length < l.length ∧ ∃ e, d = e + 1 := by
  have := chain_len (k := 5) h.on.nd (fun x hx => ⟨(h.rf x hx).1, (at_of (h.rf x hx) (by omega)).1⟩) ha
  have := h.d
  exact ⟨by omega, d - 1, by omega⟩
theorem wayP_start {l : List Int} {obj : Int} (h : ObjIn l obj) : WayP l (protoR l obj) (l.length + 1) obj [] := ⟨on_start .., by simp, fun x hx => by simp at hx, .inr h.2⟩
theorem WayP.obj {l : List Int} {C : List Int × Bool} {d : Nat} {v : Int} {out : List Int} (h : WayP l C d v out) (hv : v % 8 = 5) : Rf l v 5 2 := h.nx.resolve_left (by omega)
theorem WayP.step {l : List Int} (hp : Heap l) {C : List Int × Bool} {d : Nat} {v : Int} {out : List Int} (h : WayP l C (d + 1) v out) (hv : v % 8 = 5) (hn : v ∉ out) : WayP l C d (nxP l v) (out ++ [v]) where
  on := h.on.step (decide_eq_false (by simpa using hv)) hn
  d := by have := h.d; simp; omega
  rf := fun x hx => by
    rcases List.mem_append.1 hx with hx | hx
    · exact h.rf x hx
    · rw [List.mem_singleton.1 hx]; exact h.obj hv
  nx := (obj_at hp (h.obj hv)).2.2.2.2.2.1
theorem protos_rf {l : List Int} {obj : Int} (h : ObjIn l obj) : ∀ x ∈ (protoR l obj).1, Rf l x 5 2 := by
  have hb := obj_at h.1 h.2
  have key : ∀ (d : Nat) (v : Int) (out : List Int), WayP l (protoR l obj) d v out → ∀ x ∈ (protoR l obj).1, Rf l x 5 2 := by
    intro d
    induction d with
    | zero => intro v out hw; obtain ⟨_, e, he⟩ := hw.len hb.2.1; cases he
    | succ d ih =>
      intro v out hw
      by_cases hv : v % 8 = 5
      · by_cases hm : v ∈ out
        · rw [(hw.on.circle (decide_eq_false (by simpa using hv)) hm).1]; exact hw.rf
        · exact ih _ _ (hw.step h.1 hv hm)
      · rw [hw.on.stop_ (decide_eq_true hv)]; exact hw.rf
  exact key _ _ _ (wayP_start h)
theorem l5Look_c (r : Option Nat) (o : Nat) (l : List Int) (obj name : Int) (st : St) (hx : At st r o l) (h : ObjIn l obj) : ACalls Tryz.prog 136 [.agg [.sl r o l.length], I obj, I name] st No (Pv (LookR l obj name)) := by
  have hp := h.1
  have hb := obj_at h.1 h.2
  have hcr := protos_rf h
  refine ent (N := 45) Tryz.func136 rfl (by decide) rfl rfl rfl ?_
  refine crr (by kernel_rfl) rfl ?_   -- region 0
  refine c_seq ?_
  refine crr (by kernel_rfl) rfl ?_   -- region 1
  refine c_block ?_
  refine c_lp (α := Nat × Int) (fun i => [(1, I i.2), (2, I name), (8, I i.1)]) (fun _ => [(3, 3, [.sl r o l.length])])
    (fun i st' => st = st' ∧ i.1 ≤ l.length ∧ ((∃ d out, WayP l (protoR l obj) d i.2 out ∧ out.length = i.1 ∧ ∀ x ∈ out, ownC l x name = none) ∨
      ((∀ x ∈ (protoR l obj).1, ownC l x name = none) ∧ i.2 ∈ (protoR l obj).1 ∧ ∀ x ∈ (protoR l obj).1, nxP l x ∈ (protoR l obj).1))) (fun i => l.length - i.1) (0, obj) ⟨rfl, rfl, rfl, trivial⟩ ⟨rfl, rfl, trivial⟩
    ⟨rfl, by omega, .inl ⟨_, [], wayP_start h, rfl, fun x hx => by simp at hx⟩⟩ ?_
  rintro ⟨n, v⟩ st' ⟨rfl, hn, hI⟩
  dsimp only at *
  have hnx : v = 1 ∨ Rf l v 5 2 := by
    rcases hI with ⟨d, out, hw, _⟩ | ⟨_, hm, _⟩
    · exact hw.nx
    · exact .inr (hcr v hm)
  refine c_seq ?_
  refine c_rj [(1, I v), (2, I name), (8, I n), (20, .bool (decide (v % 8 = 5 ∧ n < l.length)))] [(3, 3, [.sl r o l.length])] (by kernel_rfl) ?_ ?_
  · -- region 2
    refine sr 1 rfl ?_
    refine s_op rfl (o_pure loud_n rfl (Kind_c ..) ?_)
    refine sr 2 rfl ?_
    refine s_bool 14 rfl rfl (fun h14 => ?_) (fun h14 => ?_)
    · have h14 := of_decide_eq_true h14
      refine sra rfl ⟨⟨rfl, rfl, rfl, ?_, trivial⟩, ⟨rfl, rfl, trivial⟩, rfl⟩
      show AV.bool (decide _) = AV.bool (decide _)
      congr 1
      exact decide_eq_decide.2 ⟨fun h => ⟨h14, by omega⟩, fun h => by omega⟩
    · have h14 := of_decide_eq_false h14
      refine sra rfl ⟨⟨rfl, rfl, rfl, ?_, trivial⟩, ⟨rfl, rfl, trivial⟩, rfl⟩
      show AV.bool false = AV.bool (decide _)
      rw [decide_eq_false fun h => h14 h.1]
  refine c_if rfl (fun h20 => ?_) (fun h20 => ?_)
  · -- then
    obtain ⟨hv, hnl⟩ := of_decide_eq_true h20
    have hrf : Rf l v 5 2 := hnx.resolve_left (by omega)
    have hvi : ObjIn l v := ⟨hp, hrf⟩
    have hc := obj_at hp hrf
    refine c_skip ?_
    refine c_seq ?_
    refine c_block ?_
    refine c_rs (by kernel_rfl) ?_   -- region 4
    refine sr 3 rfl ?_
    refine s_op rfl (o_ex loud_n rfl (l5Cell_c _ _ _ v name _ hx hvi) ?_)
    rintro v3 st3 ⟨b3, rfl, _, rfl⟩ e3
    refine sra rfl ?_
    refine c_seq ?_
    refine crr (by kernel_rfl) rfl ?_   -- region 5
    refine c_if rfl (fun h31 => ?_) (fun h31 => ?_)
    · have h31 := of_decide_eq_true h31
      obtain ⟨c, e⟩ : ∃ c, ownC l v name = some c := by
        cases e : ownC l v name with
        | none => rw [e] at h31; exact absurd h31 (by decide)
        | some c => exact ⟨c, rfl⟩
      have hc := cA_some hvi e
      have hcA : cA (ownC l v name) = c / 8 := by rw [e]; rfl
      rw [hcA]
      have eL : lookC l obj name = some c := by
        rcases hI with ⟨d, out, hw, _, hno⟩ | ⟨hno, hm, _⟩
        · obtain ⟨_, d, rfl⟩ := hw.len hb.2.1
          have hvo : v ∉ out := fun h => by rw [hno v h] at e; cases e
          obtain ⟨r', hr'⟩ := hw.on.pre1 (decide_eq_false (by simpa using hv)) hvo
          unfold lookC
          rw [hr']
          exact findS_app hno e
        · rw [hno v hm] at e; cases e
      refine c_rs (by kernel_rfl) ?_   -- region 6
      refine sr 3 rfl ?_
      refine s_op rfl (o_ar rfl rfl rfl (by omega) (by omega) ?_)
      refine s_op rfl (oidx rfl rfl rfl (by omega) (by omega) ?_)
      refine s_op rfl (old rfl rfl (hx.rd (by omega) (by omega)) ?_)
      refine sra rfl ?_
      refine c_ret (fr rfl ?_)
      show _ = LookR l obj name
      rw [LookR, lookV, eL]; rfl
    · have h31 := of_decide_eq_false h31
      have e : ownC l v name = none := by
        cases e : ownC l v name with
        | none => rfl
        | some c => rw [e] at h31; have := (cA_some hvi e).2.1; exact absurd (show (0 : Int) ≤ c / 8 from this) h31
      refine c_skip ?_
      refine cd1 [0, 1, 2, 3, 4, 5, 6, 7] [.q, .q, .q, .f, .q, .q, .q, .q] (by kernel_rfl) (by kernel_rfl) ?_   -- region 7
      refine sr 3 rfl ?_
      refine s_op rfl (o_pure loud_f rfl (Num_c ..) ?_)
      refine s_op rfl (o_ar rfl rfl rfl (by omega) (by omega) ?_)
      refine s_op rfl (oidx rfl rfl rfl (by omega) (by omega) ?_)
      refine s_op rfl (old rfl rfl (hx.rd (by omega) (by omega)) ?_)
      refine sra rfl ?_
      refine c_region (by kernel_rfl) ?_   -- region 3
      refine sr 1 rfl ?_
      refine s_op rfl (o_ar rfl rfl rfl (by omega) (by omega) ?_)
      refine sra rfl ⟨(n + 1, nxP l v), ⟨rfl, rfl, rfl, trivial⟩, ⟨rfl, rfl, trivial⟩, ⟨rfl, by dsimp only; omega, ?_⟩, by dsimp only; omega⟩
      dsimp only
      rcases hI with ⟨d, out, hw, hlo, hno⟩ | ⟨hno, hm, hcl⟩
      · obtain ⟨_, d, rfl⟩ := hw.len hb.2.1
        by_cases hvo : v ∈ out
        · obtain ⟨hC, hcl⟩ := hw.on.circle (decide_eq_false (by simpa using hv)) hvo
          refine .inr ?_
          rw [hC]
          exact ⟨hno, hcl v hvo, hcl⟩
        · refine .inl ⟨d, out ++ [v], hw.step hp hv hvo, by simp [hlo], fun x hx => ?_⟩
          rcases List.mem_append.1 hx with hx | hx
          · exact hno x hx
          · rw [List.mem_singleton.1 hx]; exact e
      · exact .inr ⟨hno, hcl v hm, hcl⟩
  · -- else
    have h20 := of_decide_eq_false h20
    have eL : lookC l obj name = none := by
      rcases hI with ⟨d, out, hw, hlo, hno⟩ | ⟨hno, hm, hcl⟩
      · obtain ⟨hol, d, rfl⟩ := hw.len hb.2.1
        have hv : ¬ v % 8 = 5 := fun h => h20 ⟨h, by omega⟩
        have hC := hw.on.stop_ (decide_eq_true hv)
        unfold lookC; rw [hC]; exact findS_mem hno
      · exact findS_mem hno
    refine c_exit ?_
    refine crr (by kernel_rfl) rfl ?_   -- region 8
    refine c_ret (fr rfl ?_)
    show _ = LookR l obj name
    rw [LookR, lookV, eL]; rfl
theorem look_c (r : Option Nat) (o : Nat) (l : List Int) (obj name : Int) (st : St) (hx : At st r o l) (h : ObjIn l obj) : ACalls Tryz.prog 132 [.agg [.sl r o l.length], I obj, I name] st No (Pv (LookR l obj name)) := by
  have hp := h.1
  have hb := obj_at h.1 h.2
  refine ent (N := 40) Tryz.func132 rfl (by decide) rfl rfl rfl ?_
  refine crr (by kernel_rfl) rfl ?_   -- region 0
  refine crr (by kernel_rfl) rfl ?_   -- region 1
  refine c_seq ?_
  refine c_block ?_
  refine c_lp (α := Int × List Int × Nat × Option Nat) (fun i => [(1, I i.1), (2, I name), (8, .sl i.2.2.2 0 i.2.1.length)]) (fun _ => [(3, 3, [.sl r o l.length])])
    (fun i st' => WayP l (protoR l obj) i.2.2.1 i.1 i.2.1 ∧ Ex st st' ∧ Fr st.n st' i.2.2.2 i.2.1 ∧ ∀ x ∈ i.2.1, ownC l x name = none) (fun i => i.2.2.1) (obj, [], l.length + 1, none) ⟨rfl, rfl, rfl, trivial⟩ ⟨rfl, rfl, trivial⟩ ⟨wayP_start h, Ext.refl _ _, fr_nil _ _, fun x hx => by simp at hx⟩ ?_
  rintro ⟨v, out, d, q⟩ st1 ⟨hw, he, hf, hno⟩
  dsimp only at *
  obtain ⟨hol, d, rfl⟩ := hw.len hb.2.1
  refine c_seq ?_
  refine c_sj (α := Bool) (fun b => [(1, I v), (2, I name), (8, .sl q 0 out.length), (19, .bool b)]) (fun _ => [(3, 3, [.sl r o l.length])]) (fun b st' => st1 = st' ∧ (b = true ↔ v % 8 = 5 ∧ v ∉ out)) ?_ ?_
  · -- region 2
    refine c_region (by kernel_rfl) ?_
    refine sr 1 rfl ?_
    refine s_op rfl (o_pure loud_n rfl (iKind_c ..) ?_)
    refine sr 2 rfl ?_
    refine s_bool 14 rfl rfl (fun h14 => ?_) (fun h14 => ?_)
    · have h14 := of_decide_eq_true h14
      refine sr 2 rfl ?_
      refine s_op rfl (o_pure loud_n rfl (Contains_c _ _ _ _ _ hf.at_ (by omega)) ?_)
      refine sra rfl ⟨_, ⟨rfl, rfl, rfl, rfl, trivial⟩, ⟨rfl, rfl, trivial⟩, rfl, ?_⟩
      exact ⟨fun h => ⟨h14, nbt h⟩, fun h => (by rw [bdf.2 h.2]; rfl)⟩
    · have h14 := of_decide_eq_false h14
      refine sra rfl ⟨false, ⟨rfl, rfl, rfl, rfl, trivial⟩, ⟨rfl, rfl, trivial⟩, rfl, ⟨fun h => (by cases h), fun h => absurd h.1 h14⟩⟩
  rintro b st2 ⟨rfl, hbb⟩
  refine c_if rfl (fun h19 => ?_) (fun h19 => ?_)
  · -- then
    obtain ⟨hv, hvo⟩ := hbb.1 h19
    have hrf := hw.obj hv
    have hc := obj_at hp hrf
    refine c_skip ?_
    refine c_seq ?_
    refine c_block ?_
    refine c_rs (by kernel_rfl) ?_   -- region 4
    refine sr 2 rfl ?_
    refine s_op rfl (oone loud_n rfl rfl ?_)
    refine s_op rfl (oappF rfl rfl rfl (hf.ex (ex_push _ _)) rfl (at_row (Nat.lt_succ_self _) (push_ob _ _)) (by simp; omega) fun q2 st2 hf2 he2 => ?_)
    have he3 : Ex st st2 := (he.tr (ex_push _ _)).own (hf.ex (ex_push _ _)) he2
    refine sra rfl ?_
    refine c_rs (by kernel_rfl) ?_   -- region 5
    refine sr 3 rfl ?_
    refine s_op rfl (o_ex loud_n rfl (own_c _ _ _ v name _ (hx.ex he3) ⟨hp, hrf⟩) ?_)
    rintro v3 st3 rfl e3
    refine sra rfl ?_
    refine crr (by kernel_rfl) rfl ?_   -- region 6
    refine c_if rfl (fun h38 => ?_) (fun h38 => ?_)
    · obtain ⟨c, e⟩ := Option.isSome_iff_exists.1 h38
      obtain ⟨r', hr'⟩ := hw.on.pre1 (decide_eq_false (by simpa using hv)) hvo
      have eL : lookC l obj name = some c := by unfold lookC; rw [hr']; exact findS_app hno e
      refine crr (by kernel_rfl) rfl ?_   -- region 7
      refine c_ret (fr rfl ?_)
      show _ = LookR l obj name
      rw [LookR, lookV, eL, ownV, e]; rfl
    · have e : ownC l v name = none := by simpa using h38
      have he4 := he3.tr e3
      refine c_skip ?_
      refine cd1 [0, 1, 2, 3, 4, 5, 6, 7] [.q, .q, .q, .f, .q, .q, .q, .q] (by kernel_rfl) (by kernel_rfl) ?_   -- region 3
      refine sr 3 rfl ?_
      refine s_op rfl (o_pure loud_f rfl (iNum_c ..) ?_)
      refine s_op rfl (o_ar rfl rfl rfl (by omega) (by omega) ?_)
      refine s_op rfl (oidx rfl rfl rfl (by omega) (by omega) ?_)
      refine s_op rfl (old rfl rfl ((hx.ex he4).rd (by omega) (by omega)) ?_)
      refine sra rfl ⟨(nxP l v, out ++ [v], d, q2), ⟨rfl, rfl, rfl, trivial⟩, ⟨rfl, rfl, trivial⟩, ⟨hw.step hp hv hvo, he4, hf2.ex e3, fun x hx => ?_⟩, by dsimp only; omega⟩
      rcases List.mem_append.1 hx with hx | hx
      · exact hno x hx
      · rw [List.mem_singleton.1 hx]; exact e
  · -- else
    have h19 : ¬ (v % 8 = 5 ∧ v ∉ out) := fun h => by rw [hbb.2 h] at h19; cases h19
    have eL : lookC l obj name = none := by
      by_cases hv : v % 8 = 5
      · have hvo : v ∈ out := Classical.byContradiction fun h => h19 ⟨hv, h⟩
        unfold lookC; rw [(hw.on.circle (decide_eq_false (by simpa using hv)) hvo).1]; exact findS_mem hno
      · unfold lookC; rw [hw.on.stop_ (decide_eq_true hv)]; exact findS_mem hno
    refine c_exit ?_
    refine crr (by kernel_rfl) rfl ?_   -- region 8
    refine c_ret (fr rfl ?_)
    show _ = LookR l obj name
    rw [LookR, lookV, eL]; rfl
end Go.Proofs.YtfhkjhnaihhdmaaGreatW.Ax
