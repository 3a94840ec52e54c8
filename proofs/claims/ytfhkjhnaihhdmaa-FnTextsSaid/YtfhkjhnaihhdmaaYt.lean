/- What is taken of a slab: walked. -/
import Derived.Test.YtfhkjhnaihhdmaaYq
namespace Go.Proofs.YtfhkjhnaihhdmaaW.Ax
open Go Go.RowKit Go.Proofs Go.Proofs.Ytfhkjhnaihhdmaa.Pure
set_option linter.unusedVariables false
set_option maxRecDepth 100000

/-- What is taken of a row of one's own: the same row. -/
def Tv (n0 : Nat) (st : St) (r : Option Nat) (l : List Int) (x : Int) (b : Bool) : AV → St → Prop := fun v st' => v = .tup [.agg [.sl r 0 l.length], I x, .bool b] ∧ Fr n0 st' r l ∧ Ext (fun i => r = some i) st st'
/-- A slab that is new, a number, whether it went. -/
def Nw (st : St) (l : List Int) (x : Int) (b : Bool) : AV → St → Prop := fun v st' => ∃ r, v = .tup [.agg [.sl r 0 l.length], I x, .bool b] ∧ Fr st.n st' r l
theorem own_ge {s n : Nat} (h : 2 ≤ n) (hs : n ≤ s) : 2 ≤ ownN s n ∧ ownN s n ≤ s ∧ n ≤ ownN s n := by unfold ownN; split <;> omega
theorem tk_some {l : List Int} {n : Nat} {k : Int} {i : Nat} (h : slot l n (blocks l) = some (i : Int)) : tkL l k n = put (cutL l i n) i (8 * (ownN (size l i) n : Int) + k) (ownN (size l i) n) ∧ tkA l n = i ∧ tkO l n = true := by
  unfold tkL tkA tkO
  rw [h]
  exact ⟨rfl, rfl, rfl⟩
theorem tk_none {l : List Int} {n : Nat} {k : Int} (h : slot l n (blocks l) = none) : tkL l k n = l ∧ tkA l n = 0 ∧ tkO l n = false := by
  unfold tkL tkA tkO
  rw [h]
  exact ⟨rfl, rfl, rfl⟩
theorem l2Take_c (n0 : Nat) (r : Option Nat) (l : List Int) (k : Int) (n : Nat) (st : St) (hf : Fr n0 st r l) (hok : okB l = true) (hk : 0 ≤ k ∧ k ≤ 5) (hn2 : 2 ≤ n) (hn : n ≤ 9223372036854775807) :
    ACalls Try.prog 89 [.agg [.sl r 0 l.length], I k, I n] st (fun i => r = some i) (Tv n0 st r (tkL l k n) (tkA l n) (tkO l n)) := by
  have hlen := okB_len hok
  have hb := (blocks_of hok).2
  have hx := hf.at_
  refine ent (N := 80) Try.func89 rfl (by decide) rfl rfl rfl ?_
  refine crr (by kernel_rfl) rfl ?_   -- region 0
  refine c_seq ?_
  refine crr (by kernel_rfl) rfl ?_   -- region 1
  refine c_block ?_
  refine c_lp (α := Nat × List Int) (fun i => [(1, I k), (2, I n), (9, I i.1)]) (fun _ => [(3, 3, [.sl r 0 l.length]), (6, 6, [.sl none 0 0])])
    (fun i st' => st = st' ∧ i.1 ≤ l.length ∧ walk l i.1 = some i.2 ∧ slot l n (blocks l) = slot l n i.2) (fun i => l.length - i.1) (0, blocks l) ⟨rfl, rfl, rfl, trivial⟩ ⟨rfl, rfl, rfl, rfl, trivial⟩ ⟨rfl, by omega, hb, rfl⟩ ?_
  rintro ⟨i, rest⟩ st' ⟨rfl, hi, hw, hd⟩
  dsimp only at *
  refine c_seq ?_
  refine crr (by kernel_rfl) rfl ?_   -- region 2
  refine c_if rfl (fun h17 => ?_) (fun h17 => ?_)
  · -- then
    have h17 := of_decide_eq_true h17
    obtain ⟨hh, r', rfl, hw'⟩ := walk_cons hw (by omega)
    have hs := size_pos hh
    have hse := size_eq hh
    refine c_skip ?_
    refine c_seq ?_
    refine c_block ?_
    refine c_rs (by kernel_rfl) ?_   -- region 4
    refine sr 3 rfl ?_
    refine s_op rfl (oidx rfl rfl rfl (by omega) (by omega) ?_)   -- 29 := indexAddr 22 (tmp 27) (tmp 28)
    refine s_op rfl (old rfl rfl (hx.rd (by omega) (by omega)) ?_)   -- 30 := load 3 (tmp 29)
    refine s_op rfl (o_pure loud_n rfl (l2Size_c ..) ?_)
    rw [← hse]
    refine sra rfl ?_
    refine c_seq ?_
    refine c_sj (α := Bool) (fun b => [(1, I k), (2, I n), (9, I i), (10, I (size l i : Nat)), (43, .bool b)]) (fun _ => [(3, 3, [.sl r 0 l.length]), (6, 6, [.sl none 0 0])]) (fun b st' => st = st' ∧ (b = true ↔ ¬ (kindOf l i = 0 ∧ (n : Int) ≤ size l i))) ?_ ?_
    · -- region 5
      refine c_region (by kernel_rfl) ?_
      refine sr 3 rfl ?_
      refine s_op rfl (oidx rfl rfl rfl (by omega) (by omega) ?_)   -- 35 := indexAddr 22 (tmp 33) (tmp 34)
      refine s_op rfl (old rfl rfl (hx.rd (by omega) (by omega)) ?_)   -- 36 := load 3 (tmp 35)
      refine s_op rfl (o_pure loud_n rfl (l2Kind_c ..) ?_)
      rw [rd_kind]
      refine sr 2 rfl ?_
      refine s_bool 39 rfl rfl (fun h39 => ?_) (fun h39 => ?_)
      · have h39 := ndt h39
        refine sra rfl ⟨true, ⟨rfl, rfl, rfl, rfl, rfl, trivial⟩, ⟨rfl, rfl, rfl, rfl, trivial⟩, rfl, ⟨fun _ h => h39 h.1, fun _ => rfl⟩⟩
      · have h39 := ndf h39
        refine sra rfl ⟨_, ⟨rfl, rfl, rfl, rfl, rfl, trivial⟩, ⟨rfl, rfl, rfl, rfl, trivial⟩, rfl, ?_⟩
        exact ⟨fun h h2 => by have := of_decide_eq_true h; omega, fun h => decide_eq_true (by omega)⟩
    rintro b st1 ⟨rfl, hb1⟩
    refine c_if rfl (fun h43 => ?_) (fun h43 => ?_)
    · -- then
      have h43 := hb1.1 h43
      refine c_exit ?_
      refine c_region (by kernel_rfl) ?_   -- region 3
      refine sr 4 rfl ?_
      refine s_op rfl (oidx rfl rfl rfl (by omega) (by omega) ?_)   -- 22 := indexAddr 22 (tmp 20) (tmp 21)
      refine s_op rfl (old rfl rfl (hx.rd (by omega) (by omega)) ?_)   -- 23 := load 3 (tmp 22)
      refine s_op rfl (o_pure loud_n rfl (l2Size_c ..) ?_)
      rw [← hse]
      refine s_op rfl (o_ar rfl rfl rfl (by omega) (by omega) ?_)   -- 25 := binOp BinOp.add 3 (tmp 18) (tmp 24) 3
      refine sra rfl ⟨(i + size l i, r'), ⟨rfl, rfl, ?_, trivial⟩, ⟨rfl, rfl, rfl, rfl, trivial⟩, ⟨rfl, by dsimp only; omega, hw', ?_⟩, by dsimp only; omega⟩
      · show I _ = I _
        congr 1
      · rw [hd, slot, if_neg (by simpa using h43)]
    · -- else
      have h43 : kindOf l i = 0 ∧ (n : Int) ≤ size l i := Classical.byContradiction fun h => by rw [hb1.2 h] at h43; cases h43
      have hsl : slot l n (blocks l) = some (i : Int) := by rw [hd, slot, if_pos (by simpa using h43)]
      obtain ⟨hT1, hT2, hT3⟩ := tk_some (k := k) hsl
      have how := own_ge hn2 (show n ≤ size l i by omega)
      have hl0 : l ≠ [] := fun h => by rw [h] at h17; simp at h17; omega
      obtain ⟨q, rfl⟩ := hf.some_of hl0
      refine c_skip ?_
      refine c_rs (by kernel_rfl) ?_   -- region 6
      refine sr 2 rfl ?_
      refine s_op rfl (o_ar rfl rfl rfl (by omega) (by omega) ?_)   -- 46 := binOp BinOp.sub 3 (tmp 44) (tmp 45) 3
      refine sra rfl ?_
      refine c_sj (fun _ : Unit => [(1, I k), (2, I (ownN (size l i) n : Nat)), (9, I i)]) (fun _ => [(3, 3, [.sl (some q) 0 l.length]), (6, 6, [.sl none 0 0])]) (fun _ st' => Fr n0 st' (some q) (cutL l i n) ∧ Ext (fun i => some q = some i) st st') ?_ ?_
      · -- ways that meet
        refine crr (by kernel_rfl) rfl ?_   -- region 7
        refine c_if rfl (fun h48 => ?_) (fun h48 => ?_)
        · -- then
          have h48 := of_decide_eq_true h48
          refine c_region (by kernel_rfl) ?_   -- region 8
          refine sra rfl ⟨(), ⟨rfl, ?_, rfl, trivial⟩, ⟨rfl, rfl, rfl, rfl, trivial⟩, ?_, Ext.refl _ _⟩
          · show I _ = I _
            rw [ownN, if_pos (by omega)]
          · rw [cutL, if_pos (by omega)]; exact hf
        · -- else
          have h48 := of_decide_eq_false h48
          refine c_region (by kernel_rfl) ?_   -- region 9
          refine sr 4 rfl ?_
          refine s_op rfl (o_ar rfl rfl rfl (by omega) (by omega) ?_)   -- 54 := binOp BinOp.add 3 (tmp 52) (tmp 53) 3
          refine sr 1 rfl ?_
          refine s_op rfl (o_ar rfl rfl rfl (by omega) (by omega) ?_)   -- 56 := binOp BinOp.mul 3 (const (Value.int IntKind.i64 8)) (tmp 55) 3
          refine s_op rfl (oidx rfl rfl rfl (by omega) (by omega) ?_)   -- 57 := indexAddr 22 (tmp 51) (tmp 54)
          refine s_op rfl (ostI rfl rfl hf.ob.2 (fun _ => rfl) rfl rfl (by omega) ?_)
          refine s_end ⟨(), ⟨rfl, ?_, rfl, trivial⟩, ⟨rfl, rfl, rfl, rfl, trivial⟩, ?_, ?_⟩
          · show I _ = I _
            rw [ownN, if_neg (by omega)]
          · have := hf.set (l' := cutL l i n)
            have e : cutL l i n = l.set (0 + ((i : Int) + (n : Int)).toNat) (8 * ((size l i : Int) - n)) := by rw [cutL, if_neg (by omega), show 0 + ((i : Int) + (n : Int)).toNat = i + n by omega]
            rw [e] at this ⊢
            exact this
          · have := ext_set st q (.row true ((l.set (0 + ((i : Int) + (n : Int)).toNat) (8 * ((size l i : Int) - n))).map I))
            exact ⟨this.n, fun j hj hn => this.ob j hj fun e => hn (by rw [e])⟩
      rintro _ st1 ⟨hf1, he1⟩
      have hcl := cutL_len l i n
      refine c_rs (by kernel_rfl) ?_   -- region 10
      refine sr 4 rfl ?_
      refine s_op rfl (o_ar rfl rfl rfl (by omega) (by omega) ?_)   -- 62 := binOp BinOp.mul 3 (const (Value.int IntKind.i64 8)) (tmp 61) 3
      refine sr 1 rfl ?_
      refine s_op rfl (o_ar rfl rfl rfl (by omega) (by omega) ?_)   -- 64 := binOp BinOp.add 3 (tmp 62) (tmp 63) 3
      refine s_op rfl (oidx rfl rfl rfl (by omega) (by omega) ?_)   -- 65 := indexAddr 22 (tmp 59) (tmp 60)
      refine s_op rfl (ostI rfl rfl hf1.ob.2 (fun _ => rfl) rfl rfl (by omega) ?_)
      have hf2 := hf1.set (l' := (cutL l i n).set (0 + (i : Int).toNat) (8 * ((ownN (size l i) n : Nat) : Int) + k))
      have he2 : Ext (fun i => some q = some i) st1 (st1.set q (.row true (((cutL l i n).set (0 + (i : Int).toNat) (8 * ((ownN (size l i) n : Nat) : Int) + k)).map I))) := by
        have := ext_set st1 q (.row true (((cutL l i n).set (0 + (i : Int).toNat) (8 * ((ownN (size l i) n : Nat) : Int) + k)).map I))
        exact ⟨this.n, fun j hj hn => this.ob j hj fun e => hn (by rw [e])⟩
      have he3 := he1.trans he2 (fun _ _ h => h)
      refine s_end ?_
      refine c_seq ?_
      refine crr (by kernel_rfl) rfl ?_   -- region 11
      refine c_block ?_
      refine c_lp (α := Nat) (fun j => [(2, I (ownN (size l i) n : Nat)), (9, I i), (12, I j)]) (fun _ => [(3, 3, [.sl (some q) 0 l.length]), (6, 6, [.sl none 0 0])])
        (fun j st' => 1 ≤ j ∧ j ≤ ownN (size l i) n ∧ Fr n0 st' (some q) (put (cutL l i n) i (8 * (ownN (size l i) n : Int) + k) j) ∧ Ext (fun i => some q = some i) st st') (fun j => ownN (size l i) n - j) 1 ⟨rfl, rfl, rfl, trivial⟩ ⟨rfl, rfl, rfl, rfl, trivial⟩
        ⟨by omega, by omega, ?_, he3⟩ ?_
      · rw [← put_one _ _ _ (by omega)]
        rw [show (0 + (i : Int).toNat) = i by omega] at hf2
        simpa using hf2
      rintro j st2 ⟨hj1, hj2, hfj, hej⟩
      have hpl := put_len (cutL l i n) i (8 * (ownN (size l i) n : Int) + k) j (by omega)
      refine c_seq ?_
      refine crr (by kernel_rfl) rfl ?_   -- region 12
      refine c_if rfl (fun h68 => ?_) (fun h68 => ?_)
      · -- then
        have h68 := of_decide_eq_true h68
        refine c_skip ?_
        refine c_seq ?_
        refine c_block ?_
        refine c_region (by kernel_rfl) ?_   -- region 14
        refine sr 4 rfl ?_
        refine s_op rfl (o_ar rfl rfl rfl (by omega) (by omega) ?_)   -- 75 := binOp BinOp.add 3 (tmp 73) (tmp 74) 3
        refine s_op rfl (oidx rfl rfl rfl (by omega) (by omega) ?_)   -- 76 := indexAddr 22 (tmp 72) (tmp 75)
        refine s_op rfl (ostI rfl rfl hfj.ob.2 (fun _ => rfl) rfl rfl (by omega) ?_)
        refine s_end ?_
        refine c_region (by kernel_rfl) ?_   -- region 13
        refine sr 1 rfl ?_
        refine s_op rfl (o_ar rfl rfl rfl (by omega) (by omega) ?_)   -- 70 := binOp BinOp.add 3 (tmp 69) (const (Value.int IntKind.i64 1)) 3
        refine sra rfl ⟨j + 1, ⟨rfl, rfl, rfl, trivial⟩, ⟨rfl, rfl, rfl, rfl, trivial⟩, ⟨by omega, by omega, ?_, ?_⟩, by omega⟩
        · have := hfj.set (l' := (put (cutL l i n) i (8 * (ownN (size l i) n : Int) + k) j).set (0 + ((i : Int) + (j : Int)).toNat) 0)
          rw [show 0 + ((i : Int) + (j : Int)).toNat = i + j by omega] at this ⊢
          rw [put_step _ _ _ _ (by omega) (by omega)] at this ⊢
          exact this
        · have := ext_set st2 q (.row true (((put (cutL l i n) i (8 * (ownN (size l i) n : Int) + k) j).set (0 + ((i : Int) + (j : Int)).toNat) 0).map I))
          exact hej.trans (T' := (· = q)) this (fun _ _ h => by rw [h])
      · -- else
        have h68 := of_decide_eq_false h68
        have hjj : j = ownN (size l i) n := by omega
        refine c_exit ?_
        refine crr (by kernel_rfl) rfl ?_   -- region 15
        refine c_ret (fr rfl ⟨?_, ?_, hej⟩)
        · rw [tkL_len, hT2, hT3]
        · rw [hT1, ← hjj]; rw [← hjj] at hfj; exact hfj
  · -- else
    have h17 := of_decide_eq_false h17
    have := walk_nil hw (by omega)
    subst this
    obtain ⟨hT1, hT2, hT3⟩ := tk_none (k := k) (show slot l n (blocks l) = none from hd)
    refine c_exit ?_
    refine crr (by kernel_rfl) rfl ?_   -- region 16
    refine c_ret (fr rfl ⟨?_, ?_, Ext.refl _ _⟩)
    · rw [hT1, hT2, hT3]
    · rw [hT1]; exact hf
theorem iSlabOk_c (r : Option Nat) (o : Nat) (l : List Int) (st : St) (hx : At st r o l) : ACalls Try.prog 35 [.agg [.sl r o l.length]] st No (Pv (.bool (okB l))) := by
  refine ent (N := 11) Try.func35 rfl (by decide) rfl rfl rfl ?_
  refine crr (by kernel_rfl) rfl ?_   -- region 0
  refine c_rs (by kernel_rfl) ?_   -- region 1
  refine sr 1 rfl ?_
  refine s_op rfl (o_ex loud_n rfl (places_c _ _ _ _ hx) ?_)
  rintro v1 st1 ⟨q, rfl, hf⟩ e1
  refine sra rfl ?_
  refine crr (by kernel_rfl) rfl ?_   -- region 2
  exact c_ret (fr rfl rfl)
theorem iTake_c (r : Option Nat) (o : Nat) (l : List Int) (k : Int) (n : Nat) (st : St) (hx : At st r o l) (hok : okB l = true) (hk : 1 ≤ k ∧ k ≤ 5) (hn2 : 2 ≤ n) (hn : n ≤ 9223372036854775807) :
    ACalls Try.prog 32 [.agg [.sl r o l.length], I k, I n] st No (Nw st (tkL l k n) (tkA l n) (tkO l n)) := by
  have hlen := okB_len hok
  have hbl := blocks_lel l
  refine ent (N := 89) Try.func32 rfl (by decide) rfl rfl rfl ?_
  refine crr (by kernel_rfl) rfl ?_   -- region 0
  refine c_seq ?_
  refine c_rs (by kernel_rfl) ?_   -- region 1
  refine sr 1 rfl ?_
  refine s_op rfl (o_ex loud_n rfl (iSlabOk_c _ _ _ _ hx) ?_)
  rintro v1 st1 rfl e1
  rw [hok]
  refine sra rfl ?_
  refine c_if_f rfl ?_
  have hx1 := hx.ex e1
  refine c_skip ?_
  refine c_rs (by kernel_rfl) ?_   -- region 3
  refine sr 1 rfl ?_
  refine s_op rfl (o_ex loud_n rfl (copySlab_c _ _ _ _ hx1 (by omega)) ?_)
  rintro v2 st2 ⟨q, rfl, hf⟩ e2
  have hx2 := hx1.ex e2
  have e12 := e1.tr e2
  have hf : Fr st.n st2 q l := hf.le e1.n
  refine sra rfl ?_
  refine c_seq ?_
  refine c_rj [(1, I k), (2, I n), (26, .bool false)] [(3, 3, [.sl r o l.length]), (6, 6, [.sl none 0 0]), (9, 9, [.sl q 0 l.length])] (by kernel_rfl) ?_ ?_
  · -- region 4
    refine sr 1 rfl ?_
    refine s_op rfl (o_pure loud_n rfl (within_c ..) ?_)
    rw [decide_eq_true hk]
    refine sra rfl ⟨⟨rfl, rfl, ?_, trivial⟩, ⟨rfl, rfl, rfl, rfl, rfl, rfl, trivial⟩, rfl⟩
    show AV.bool (decide ((n : Int) < 2)) = _
    rw [decide_eq_false (by omega)]
  refine c_if_f rfl ?_
  refine c_skip ?_
  refine c_seq ?_
  refine c_rs (by kernel_rfl) ?_   -- region 6
  refine sr 1 rfl ?_
  refine s_op rfl (o_ex loud_n rfl (iBlocks_c _ _ _ _ hx2) ?_)
  rintro v3 st3 ⟨p, rfl, hp⟩ e3
  have hx3 := hx2.ex e3
  have e13 := e12.tr e3
  replace hf := hf.ex e3
  refine sra rfl ?_
  refine c_block ?_
  refine c_lp (α := Nat) (fun i => [(1, I k), (2, I n), (29, .sl p 0 (blocks l).length), (30, I (blocks l).length), (31, I i)]) (fun _ => [(3, 3, [.sl r o l.length]), (6, 6, [.sl none 0 0]), (9, 9, [.sl q 0 l.length])])
    (fun i st' => st3 = st' ∧ i ≤ (blocks l).length ∧ ∀ j : Nat, j < i → ¬ (kindOf l (rd (blocks l) j).toNat = 0 ∧ (n : Int) ≤ size l (rd (blocks l) j).toNat)) (fun i => (blocks l).length - i) 0 ⟨rfl, rfl, rfl, rfl, rfl, trivial⟩ ⟨rfl, rfl, rfl, rfl, rfl, rfl, trivial⟩ ⟨rfl, by omega, fun j hj => by omega⟩ ?_
  rintro i st' ⟨rfl, hi, hn'⟩
  refine crr (by kernel_rfl) rfl ?_   -- region 7
  refine c_seq ?_
  refine c_if rfl (fun h32 => ?_) (fun h32 => ?_)
  · -- then
    have h32 := of_decide_eq_true h32
    have hib : rd (blocks l) i ∈ blocks l := mem_rd (by omega)
    obtain ⟨a, ha⟩ : ∃ a : Nat, rd (blocks l) i = a := ⟨(rd (blocks l) i).toNat, by have := (block_at hib).1; omega⟩
    have hba := block_at hib
    rw [ha] at hib hba
    have hh := hba.2.2.1
    rw [Int.toNat_natCast] at hh
    have hs := size_pos hh
    have hse := size_eq hh
    refine c_skip ?_
    refine c_seq ?_
    refine c_block ?_
    refine c_rs (by kernel_rfl) ?_   -- region 8
    refine s_op rfl (oidx rfl rfl rfl (by omega) (by omega) ?_)   -- 33 := indexAddr 22 (tmp 29) (tmp 31)
    refine s_op rfl (old rfl rfl (hp.at_.rd (by omega) (by omega)) ?_)   -- 34 := load 3 (tmp 33)
    rw [ha]
    refine sra rfl ?_
    refine c_rs (by kernel_rfl) ?_   -- region 9
    refine sr 3 rfl ?_
    refine s_op rfl (oidx rfl rfl rfl (by omega) (by omega) ?_)   -- 38 := indexAddr 22 (tmp 36) (tmp 37)
    refine s_op rfl (old rfl rfl (hx3.rd (by omega) (by omega)) ?_)   -- 39 := load 3 (tmp 38)
    refine sra rfl ?_
    rw [← hse]
    refine c_seq ?_
    refine c_sj (α := Bool) (fun b => [(1, I k), (2, I n), (11, I a), (12, I (size l a : Nat)), (29, .sl p 0 (blocks l).length), (30, I (blocks l).length), (31, I i), (52, .bool b)]) (fun _ => [(3, 3, [.sl r o l.length]), (6, 6, [.sl none 0 0]), (9, 9, [.sl q 0 l.length])]) (fun b st' => st3 = st' ∧ (b = true ↔ ¬ (kindOf l a = 0 ∧ (n : Int) ≤ size l a))) ?_ ?_
    · -- region 10
      refine c_region (by kernel_rfl) ?_
      refine sr 3 rfl ?_
      refine s_op rfl (oidx rfl rfl rfl (by omega) (by omega) ?_)   -- 44 := indexAddr 22 (tmp 42) (tmp 43)
      refine s_op rfl (old rfl rfl (hx3.rd (by omega) (by omega)) ?_)   -- 45 := load 3 (tmp 44)
      refine sr 3 rfl ?_
      refine s_bool 48 rfl rfl (fun h48 => ?_) (fun h48 => ?_)
      · have h48 := ndt h48
        rw [rd_kind] at h48
        refine sra rfl ⟨true, ⟨rfl, rfl, rfl, rfl, rfl, rfl, rfl, rfl, trivial⟩, ⟨rfl, rfl, rfl, rfl, rfl, rfl, trivial⟩, rfl, ⟨fun _ h => h48 h.1, fun _ => rfl⟩⟩
      · have h48 := ndf h48
        rw [rd_kind] at h48
        refine sra rfl ⟨_, ⟨rfl, rfl, rfl, rfl, rfl, rfl, rfl, rfl, trivial⟩, ⟨rfl, rfl, rfl, rfl, rfl, rfl, trivial⟩, rfl, ?_⟩
        exact ⟨fun h h2 => by have := of_decide_eq_true h; omega, fun h => decide_eq_true (by omega)⟩
    rintro b st4 ⟨rfl, hb1⟩
    refine c_if rfl (fun h52 => ?_) (fun h52 => ?_)
    · -- then
      have h52 := hb1.1 h52
      refine c_exit ?_
      refine c_region (by kernel_rfl) ?_   -- region 18
      refine s_op rfl (o_ar rfl rfl rfl (by omega) (by omega) ?_)   -- 87 := binOp BinOp.add 3 (tmp 31) (const (Value.int IntKind.i64 1)) 3
      refine sra rfl ⟨i + 1, ⟨rfl, rfl, rfl, rfl, rfl, trivial⟩, ⟨rfl, rfl, rfl, rfl, rfl, rfl, trivial⟩, ⟨rfl, by omega, fun j hj => ?_⟩, by omega⟩
      by_cases e : j = i
      · rw [e, ha]; simpa using h52
      · exact hn' j (by omega)
    · -- else
      have h52 : kindOf l a = 0 ∧ (n : Int) ≤ size l a := Classical.byContradiction fun h => by rw [hb1.2 h] at h52; cases h52
      have hsp : blocks l = (blocks l).take i ++ (rd (blocks l) i :: (blocks l).drop (i + 1)) := by
        have hi' : i < (blocks l).length := by omega
        rw [show rd (blocks l) i = (blocks l)[i] by simp [rd, List.getD, hi'], ← List.drop_eq_getElem_cons hi', List.take_append_drop]
      have hsl : slot l n (blocks l) = some (a : Int) := by
        rw [hsp, slot_app, slot, if_pos (by rw [ha]; simpa using h52), ha]
        intro b hb
        obtain ⟨j, hj, e⟩ := rd_mem hb
        have hj' : j < i := by simp at hj; omega
        have : rd ((blocks l).take i) j = rd (blocks l) j := by simp [rd, List.getD, hj']
        rw [← e, this]
        exact hn' j hj'
      obtain ⟨hT1, hT2, hT3⟩ := tk_some (k := k) hsl
      have how := own_ge hn2 (show n ≤ size l a by omega)
      have hl0 : l ≠ [] := fun h => by rw [h] at hs; simp at hs; omega
      obtain ⟨q, rfl⟩ := hf.some_of hl0
      refine c_skip ?_
      refine crr (by kernel_rfl) rfl ?_   -- region 11
      refine c_sj (fun _ : Unit => [(1, I k), (11, I a), (13, I (ownN (size l a) n : Nat))]) (fun _ => [(6, 6, [.sl none 0 0]), (9, 9, [.sl (some q) 0 l.length])]) (fun _ st' => Fr st.n st' (some q) (cutL l a n)) ?_ ?_
      · -- ways that meet
        refine c_rs (by kernel_rfl) ?_   -- region 12
        refine sr 2 rfl ?_
        refine s_op rfl (o_ar rfl rfl rfl (by omega) (by omega) ?_)   -- 56 := binOp BinOp.sub 3 (tmp 54) (tmp 55) 3
        refine sra rfl ?_
        refine c_if rfl (fun h57 => ?_) (fun h57 => ?_)
        · -- then
          have h57 := of_decide_eq_true h57
          refine crr (by kernel_rfl) rfl ?_   -- region 13
          refine c_region (by kernel_rfl) ?_   -- region 14
          refine sr 4 rfl ?_
          refine s_op rfl (o_ar rfl rfl rfl (by omega) (by omega) ?_)   -- 63 := binOp BinOp.add 3 (tmp 61) (tmp 62) 3
          refine sr 2 rfl ?_
          refine s_op rfl (o_ar rfl rfl rfl (by omega) (by omega) ?_)   -- 66 := binOp BinOp.sub 3 (tmp 64) (tmp 65) 3
          refine s_op rfl (o_ar rfl rfl rfl (by omega) (by omega) ?_)   -- 67 := binOp BinOp.mul 3 (const (Value.int IntKind.i64 8)) (tmp 66) 3
          refine s_op rfl (o_ar rfl rfl rfl (by omega) (by omega) ?_)   -- 68 := binOp BinOp.add 3 (tmp 67) (const (Value.int IntKind.i64 0)) 3
          refine s_op rfl (oidx rfl rfl rfl (by omega) (by omega) ?_)   -- 69 := indexAddr 22 (tmp 60) (tmp 63)
          refine s_op rfl (ostF rfl rfl hf rfl rfl (by omega) fun st4 hf4 he4 => ?_)
          refine s_end ⟨(), ⟨rfl, rfl, ?_, trivial⟩, ⟨rfl, rfl, rfl, rfl, trivial⟩, ?_⟩
          · show I _ = I _
            rw [ownN, if_neg (by omega)]
          · have e : cutL l a n = l.set (0 + ((a : Int) + (n : Int)).toNat) (8 * ((size l a : Int) - n) + 0) := by rw [cutL, if_neg (by omega), show 0 + ((a : Int) + (n : Int)).toNat = a + n by omega, Int.add_zero]
            rw [e]; exact hf4
        · -- else
          have h57 := of_decide_eq_false h57
          refine c_skip ⟨(), ⟨rfl, rfl, ?_, trivial⟩, ⟨rfl, rfl, rfl, rfl, trivial⟩, ?_⟩
          · show I _ = I _
            rw [ownN, if_pos (by omega)]
          · rw [cutL, if_pos (by omega)]; exact hf
      rintro _ st4 hf4
      have hcl := cutL_len l a n
      refine c_rs (by kernel_rfl) ?_   -- region 15
      refine sr 5 rfl ?_
      refine s_op rfl (o_ar rfl rfl rfl (by omega) (by omega) ?_)   -- 75 := binOp BinOp.add 3 (tmp 73) (tmp 74) 3
      refine s_op rfl (oslice rfl rfl rfl rfl (by omega) (by omega) (by omega) ?_)   -- 76 := slice 22 (tmp 71) (some (tmp 72)) (some (tmp 75)) none
      have e1 : (cond (some q).isNone 0 (0 + (a : Int).toNat)) = a := by show 0 + (a : Int).toNat = _; omega
      have e2 : ((a : Int) + ((ownN (size l a) n : Nat) : Int)).toNat - (a : Int).toNat = ownN (size l a) n := by omega
      rw [e1, e2]
      refine s_op rfl (oclrF rfl rfl hf4 (by omega) fun st5 hf5 he5 => ?_)
      refine s_end ?_
      refine c_rs (by kernel_rfl) ?_   -- region 16
      refine sr 4 rfl ?_
      refine s_op rfl (o_ar rfl rfl rfl (by omega) (by omega) ?_)   -- 81 := binOp BinOp.mul 3 (const (Value.int IntKind.i64 8)) (tmp 80) 3
      refine sr 1 rfl ?_
      refine s_op rfl (o_ar rfl rfl rfl (by omega) (by omega) ?_)   -- 83 := binOp BinOp.add 3 (tmp 81) (tmp 82) 3
      refine s_op rfl (oidx rfl rfl rfl (by omega) (by omega) ?_)   -- 84 := indexAddr 22 (tmp 78) (tmp 79)
      refine s_op rfl (ostF rfl rfl hf5 rfl rfl (by simp; omega) fun st6 hf6 he6 => ?_)
      refine s_end ?_
      refine crr (by kernel_rfl) rfl ?_   -- region 17
      refine c_ret (fr rfl ⟨some q, ?_, ?_⟩)
      · rw [tkL_len, hT2, hT3]
      · rw [hT1, put]
        simpa using hf6
  · -- else
    have h32 := of_decide_eq_false h32
    have hsl : slot l n (blocks l) = none := by
      rw [← List.append_nil (blocks l), slot_app]
      · rfl
      · intro b hb
        obtain ⟨j, hj, e⟩ := rd_mem hb
        rw [← e]
        exact hn' j (by omega)
    obtain ⟨hT1, hT2, hT3⟩ := tk_none (k := k) hsl
    refine c_exit ?_
    refine crr (by kernel_rfl) rfl ?_   -- region 19
    refine c_ret (fr rfl ⟨q, ?_, ?_⟩)
    · rw [hT1, hT2, hT3]
    · rw [hT1]; exact hf
end Go.Proofs.YtfhkjhnaihhdmaaW.Ax
