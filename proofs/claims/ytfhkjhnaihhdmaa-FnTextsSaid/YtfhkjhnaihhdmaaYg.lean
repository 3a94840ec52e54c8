/- Shapes of blocks in the program, walked: closures, and the searches that call them. -/
import Derived.Test.YtfhkjhnaihhdmaaYf
namespace Go.Proofs.YtfhkjhnaihhdmaaW.Ax
open Go Go.RowKit Go.Proofs Go.Proofs.Ytfhkjhnaihhdmaa.Pure
set_option linter.unusedVariables false
set_option maxRecDepth 100000

/-- Where the first is of which p holds; -1 where there is none. -/
def Ix (l : List Int) (p : Int → Prop) : AV → St → Prop := fun v _ => ∃ k : Int, v = I k ∧ ((k = -1 ∧ ∀ i : Nat, i < l.length → ¬ p (rd l i)) ∨ (0 ≤ k ∧ k < l.length ∧ p (rd l k) ∧ ∀ i : Nat, i < k → ¬ p (rd l i)))
theorem IndexFunc_c (r : Option Nat) (o : Nat) (l : List Int) (f : Nat) (cap : List AV) (p : Int → Prop) (st : St) (hx : At st r o l) (hl : l.length ≤ 1099511627776) (hf : ∀ st' (i : Nat), Ex st st' → i < l.length → ACalls Try.prog f ([I (rd l i)] ++ cap) st' No (Pv (.bool (bd (p (rd l i)))))) :
    ACalls Try.prog 133 [.sl r o l.length, .fn f cap] st No (Ix l p) := by
  refine ent (N := 19) Try.func133 rfl (by decide) rfl rfl rfl ?_
  refine crr (by kernel_rfl) rfl ?_   -- region 0
  refine c_seq ?_
  refine crr (by kernel_rfl) rfl ?_   -- region 1
  refine c_block ?_
  refine c_lp (α := Nat) (fun i => [(0, .sl r o l.length), (1, .fn f cap), (7, I l.length), (8, I i)]) (fun _ => []) (fun i st' => i ≤ l.length ∧ Ex st st' ∧ ∀ j : Nat, j < i → ¬ p (rd l j)) (fun i => l.length - i) 0 ⟨rfl, rfl, rfl, rfl, trivial⟩ trivial ⟨by omega, Ext.refl _ _, fun j hj => by omega⟩ ?_
  rintro i st1 ⟨hi, he, hn⟩
  refine crr (by kernel_rfl) rfl ?_   -- region 2
  refine c_seq ?_
  refine c_if rfl (fun h9 => ?_) (fun h9 => ?_)
  · -- then
    have h9 := of_decide_eq_true h9
    refine c_skip ?_
    refine c_seq ?_
    refine c_block ?_
    refine crr (by kernel_rfl) rfl ?_   -- region 3
    refine c_rs (by kernel_rfl) ?_   -- region 4
    refine sr 3 rfl ?_
    refine s_op rfl (oidx rfl rfl rfl (by omega) (by omega) ?_)   -- 14 := indexAddr 22 (tmp 12) (tmp 13)
    refine s_op rfl (old rfl rfl ((hx.ex he).rd (by omega) (by omega)) ?_)   -- 15 := load 3 (tmp 14)
    refine s_op rfl (o_call rfl (hf st1 i he (by omega)) no_T (.inl rfl) ?_)
    rintro v st2 rfl e2
    refine s_end ?_
    refine c_if rfl (fun h16 => ?_) (fun h16 => ?_)
    · -- then
      have h16 := bdt.1 h16
      refine crr (by kernel_rfl) rfl ?_   -- region 5
      exact c_ret (fr rfl ⟨i, rfl, .inr ⟨by omega, by omega, h16, fun j hj => hn j (by omega)⟩⟩)
    · -- else
      have h16 := bdf.1 h16
      refine c_skip ?_
      refine c_region (by kernel_rfl) ?_   -- region 6
      refine s_op rfl (o_ar rfl rfl rfl (by omega) (by omega) ?_)   -- 18 := binOp BinOp.add 3 (tmp 8) (const (Value.int IntKind.i64 1)) 3
      refine sra rfl ⟨i + 1, ⟨rfl, rfl, rfl, rfl, trivial⟩, trivial, ⟨by omega, he.tr e2, fun j hj => ?_⟩, by omega⟩
      by_cases e : j = i
      · rw [e]; exact h16
      · exact hn j (by omega)
  · -- else
    have h9 := of_decide_eq_false h9
    refine c_exit ?_
    refine crr (by kernel_rfl) rfl ?_   -- region 7
    exact c_ret (fr rfl ⟨-1, rfl, .inl ⟨rfl, fun j hj => hn j (by omega)⟩⟩)
/-- There is one of which p holds. -/
def Any (l : List Int) (p : Int → Prop) : Prop := ∃ i : Nat, i < l.length ∧ p (rd l i)
theorem ContainsFunc_c (r : Option Nat) (o : Nat) (l : List Int) (f : Nat) (cap : List AV) (p : Int → Prop) (st : St) (hx : At st r o l) (hl : l.length ≤ 1099511627776) (hf : ∀ st' (i : Nat), Ex st st' → i < l.length → ACalls Try.prog f ([I (rd l i)] ++ cap) st' No (Pv (.bool (bd (p (rd l i)))))) :
    ACalls Try.prog 101 [.sl r o l.length, .fn f cap] st No (Pv (.bool (bd (Any l p)))) := by
  refine ent (N := 9) Try.func101 rfl (by decide) rfl rfl rfl ?_
  refine crr (by kernel_rfl) rfl ?_   -- region 0
  refine c_rs (by kernel_rfl) ?_   -- region 1
  refine sr 2 rfl ?_
  refine s_op rfl (o_ex loud_n rfl (IndexFunc_c _ _ _ _ _ _ _ hx hl hf) ?_)
  rintro v st1 ⟨k, rfl, hk⟩ e1
  refine sra rfl ?_
  refine c_ret (fr rfl (abd ?_))
  rw [decide_eq_true_eq]
  rcases hk with ⟨rfl, h⟩ | ⟨h1, h2, h3, _⟩
  · exact ⟨fun h => by omega, fun ⟨i, hi, hp⟩ => absurd hp (h i hi)⟩
  · exact ⟨fun _ => ⟨k.toNat, by omega, by rw [show ((k.toNat : Nat) : Int) = k by omega]; exact h3⟩, fun _ => h1⟩

/-- So many words, or one more that is 0. -/
def Sp (w : List Int) (m : Int) : Prop := (w.length : Int) = m ∨ ((w.length : Int) = m + 1 ∧ rd w m = 0)
theorem spare_c (b : Nat) (r : Option Nat) (o : Nat) (w : List Int) (m : Int) (st : St) (hc : cell st (some b) 0 = some (.sl r o w.length)) (hx : At st r o w) (h0 : 0 ≤ m) (h1 : m ≤ 1000000) : ACalls Try.prog 134 [I m, .ptr (some b) 0] st No (Pure1 (.bool (bd (Sp w m))) st) := by
  refine ent (N := 22) Try.func134 rfl (by decide) rfl rfl rfl ?_
  refine crr (by kernel_rfl) rfl ?_   -- region 0
  refine c_rs (by kernel_rfl) ?_   -- region 1
  refine s_op rfl (old rfl rfl hc ?_)
  refine sr 4 rfl ?_
  refine s_bool 8 rfl rfl (fun h8 => ?_) (fun h8 => ?_)
  · have h8 := of_decide_eq_true h8
    refine sra rfl ?_
    exact c_ret (fr rfl ⟨abd ⟨fun _ => .inl h8, fun _ => rfl⟩, rfl⟩)
  · have h8 := of_decide_eq_false h8
    refine s_op rfl (old rfl rfl hc ?_)
    refine sr 2 rfl ?_
    refine s_op rfl (o_ar rfl rfl rfl (by omega) (by omega) ?_)
    refine sr 2 rfl ?_
    refine s_bool 14 rfl rfl (fun h14 => ?_) (fun h14 => ?_)
    · have h14 := of_decide_eq_true h14
      refine s_op rfl (old rfl rfl hc ?_)
      refine sr 1 rfl ?_
      refine s_op rfl (oidx rfl rfl rfl (by omega) (by omega) ?_)
      refine s_op rfl (old rfl rfl (hx.rd (by omega) (by omega)) ?_)
      refine sra rfl ?_
      refine c_ret (fr rfl ⟨abd ?_, rfl⟩)
      show decide _ = true ↔ _
      rw [decide_eq_true_eq]
      exact ⟨fun h => .inr ⟨h14, h⟩, fun h => (h.resolve_left h8).2⟩
    · have h14 := of_decide_eq_false h14
      refine sra rfl ?_
      refine c_ret (fr rfl ⟨abd ?_, rfl⟩)
      exact ⟨fun h => (by cases h), fun h => absurd (h.resolve_left h8).1 h14⟩
theorem inner_c (b : Nat) (r : Option Nat) (o : Nat) (l : List Int) (v k : Int) (st : St) (hc : cell st (some b) 0 = some (.sl r o l.length)) (hx : At st r o (kindsL l)) (hl : l.length ≤ 2000) (hk : 0 ≤ k) : ACalls Try.prog 135 [I v, I k, .ptr (some b) 0] st No (Pure1 (.bool (bd (Nxt l v k))) st) := by
  refine ent (N := 14) Try.func135 rfl (by decide) rfl rfl rfl ?_
  refine crr (by kernel_rfl) rfl ?_   -- region 0
  refine c_rs (by kernel_rfl) ?_   -- region 1
  refine sr 3 rfl ?_
  refine s_bool 8 rfl rfl (fun h8 => ?_) (fun h8 => ?_)
  · have h8 := of_decide_eq_true h8
    refine sra rfl ?_
    exact c_ret (fr rfl ⟨abd ⟨fun _ => .inl h8, fun _ => rfl⟩, rfl⟩)
  · have h8 := of_decide_eq_false h8
    refine s_op rfl (old rfl rfl hc ?_)
    refine sr 2 rfl ?_
    refine s_op rfl (o_pure loud_n rfl (leadsTo_c _ _ _ _ _ _ _ _ hx hl hk rfl) ?_)
    refine sra rfl ?_
    refine c_ret (fr rfl ⟨abd ?_, rfl⟩)
    show bd _ = true ↔ _
    rw [bdt]
    exact ⟨fun h => .inr h, fun h => h.resolve_left h8⟩
theorem notPlain_c (b : Nat) (r : Option Nat) (o : Nat) (l : List Int) (v : Int) (st : St) (hc : cell st (some b) 0 = some (.sl r o l.length)) (hx : At st r o (kindsL l)) (hl : l.length ≤ 2000) : ACalls Try.prog 138 [I v, .ptr (some b) 0] st No (Pv (.bool (bd (¬ Plain l v)))) := by
  refine ent (N := 8) Try.func138 rfl (by decide) rfl rfl rfl ?_
  refine crr (by kernel_rfl) rfl ?_   -- region 0
  refine c_rs (by kernel_rfl) ?_   -- region 1
  refine s_op rfl (old rfl rfl hc ?_)
  refine sr 1 rfl ?_
  refine s_op rfl (o_pure loud_n rfl (plainOk_c _ _ _ _ _ _ hx hl rfl) ?_)
  refine sra rfl ?_
  refine c_ret (fr rfl (abd ?_))
  show (!bd _) = true ↔ _
  exact ⟨nbt, fun h => by simpa using bdf.2 h⟩

theorem rd_cut (l : List Int) (p m : Nat) (i : Int) (h0 : 0 ≤ i) (h1 : i < m) (h2 : p + m ≤ l.length) : rd ((l.drop p).take m) i = rd l (p + i) := by
  obtain ⟨k, rfl⟩ : ∃ k : Nat, i = k := ⟨i.toNat, by omega⟩
  have e : ((p : Int) + k).toNat = p + k := by omega
  have hk : k < m := by omega
  simp [rd, e, List.getD, hk]
theorem txt_cut {l : List Int} {p m : Nat} (h2 : p + m ≤ l.length) (hm : 2 ≤ m) : Txt ((l.drop p).take m) 0 m ↔ Txt l p m := by
  have e1 : rd ((l.drop p).take m) (0 + 1) = rd l (p + 1) := rd_cut l p m 1 (by omega) (by omega) h2
  unfold Txt
  rw [e1]
  refine ⟨fun ⟨a1, a2, a3⟩ => ⟨a1, fun i h3 h4 => ?_, fun i h3 h4 => ?_⟩, fun ⟨a1, a2, a3⟩ => ⟨a1, fun i h3 h4 => ?_, fun i h3 h4 => ?_⟩⟩
  · have := a2 (i - p) (by omega) (by omega)
    rw [rd_cut l p m (i - p) (by omega) (by omega) h2, show (p : Int) + (i - p) = i by omega] at this
    exact this
  · have := a3 i h3 h4
    rw [rd_cut l p m (0 + 2 + i) (by omega) (by omega) h2, show (p : Int) + (0 + 2 + i) = p + 2 + i by omega] at this
    exact this
  · have := a2 (p + i) (by omega) (by omega)
    rw [rd_cut l p m i (by omega) (by omega) h2]; exact this
  · have := a3 i h3 h4
    rw [rd_cut l p m (0 + 2 + i) (by omega) (by omega) h2, show (p : Int) + (0 + 2 + i) = p + 2 + i by omega]
    exact this
/-- So many words, or one more that is 0: of a block. -/
def Spl (l : List Int) (a n m : Int) : Prop := n = m ∨ (n = m + 1 ∧ rd l (a + m) = 0)
/-- A block that is right: at a place, of n words and a kind. -/
def ShpK (l : List Int) (a n k : Int) : Prop :=
  (k = 1 → Txt l a n) ∧
  (k = 2 → (Spl l a n 3 ∧ (rd l (a + 1) = 1 ∨ Rf l (rd l (a + 1)) 5 2)) ∧ Nxt l (rd l (a + 2)) 3) ∧
  (k = 3 → ((Spl l a n 4 ∧ Rf l (rd l (a + 1)) 4 1) ∧ Plain l (rd l (a + 2))) ∧ Nxt l (rd l (a + 3)) 3) ∧
  (k = 4 → (Spl l a n 3 ∧ (0 ≤ rd l (a + 1) ∧ rd l (a + 1) ≤ 99)) ∧ Rf l (rd l (a + 2)) 7 5) ∧
  (k = 5 → Nxt l (rd l (a + 1)) 5 ∧ ∀ i : Int, 2 ≤ i → i < n → Plain l (rd l (a + i)))
def Shp (l : List Int) (a : Int) : Prop := ShpK l a (size l a.toNat) (kindOf l a.toNat)
theorem sp_cut {l : List Int} {p m : Nat} (h2 : p + m ≤ l.length) (hm : 2 ≤ m) (c : Int) (hc : 0 ≤ c) (w : List Int) (hw : w = (l.drop p).take m) : Sp w c ↔ Spl l p m c := by
  have hl : w.length = m := by rw [hw]; simp; omega
  unfold Sp Spl
  rw [hl]
  refine or_congr Iff.rfl (and_congr_right fun h => ?_)
  rw [hw, rd_cut l p m c hc (by omega) h2]

theorem shapeOk_c (r ra : Option Nat) (o oa : Nat) (l : List Int) (a : Int) (st : St) (hx : At st r o l) (hk : At st ra oa (kindsL l)) (hok : okB l = true) (ha : a ∈ blocks l) :
    ACalls Try.prog 103 [.agg [.sl r o l.length], .sl ra oa l.length, I a] st No (Pv (.bool (bd (Shp l a)))) := by
  have hlen := okB_len hok
  have hkl := kindsL_len l
  obtain ⟨p, rfl, hp, hh⟩ := blocks_mem ha
  have hs := size_pos hh
  have hse := size_eq hh
  have hkat : kat l p = kindOf l p := by rw [kat, if_pos ha, Int.toNat_natCast]
  have hkk : 0 ≤ kindOf l p ∧ kindOf l p ≤ 5 := by have := hh.2.2; unfold kindOf; omega
  have hShp : Shp l p = ShpK l p (size l p) (kindOf l p) := by unfold Shp; rw [Int.toNat_natCast]
  rw [hShp]
  generalize hn : size l p = n at *
  generalize hkd : kindOf l p = kd at *
  refine ent (N := 112) Try.func103 rfl (by decide) rfl rfl rfl ?_
  refine c_rs (by kernel_rfl) ?_   -- region 0
  refine sr 1 rfl ?_
  refine s_op rfl (o_boxS loud_n rfl ?_)
  refine sra rfl ?_
  have hrs : ∃ q, r = some q := by
    cases r with
    | none => have := hx p hp; cases this
    | some q => exact ⟨q, rfl⟩
  obtain ⟨q, rfl⟩ := hrs
  have hx1 : At (st.push (.row true [.sl ra oa l.length])) (some q) o l := hx.ex (ex_push _ _)
  obtain ⟨w, hw⟩ : ∃ w, w = (l.drop p).take n := ⟨_, rfl⟩
  have hwl : w.length = n := by rw [hw]; simp; omega
  have hrw : ∀ i : Int, 0 ≤ i → i < n → rd w i = rd l (p + i) := fun i h0 h1 => by rw [hw]; exact rd_cut l p n i h0 h1 (by omega)
  have e0 : (cond (some q).isNone 0 (o + (p : Int).toNat)) = o + p := by show o + (p : Int).toNat = _; omega
  have e1 : ((p : Int) + (n : Int)).toNat - (p : Int).toNat = w.length := by omega
  have hvv : AV.sl (some q) (cond (some q).isNone 0 (o + (p : Int).toNat)) (((p : Int) + (n : Int)).toNat - (p : Int).toNat) = .sl (some q) (o + p) w.length := by rw [e0, e1]
  refine cds [0, 1, 2, 3, 4, 5, 6, 7, 8, 9, 10, 11, 12, 13] [.q, .q, .q, .q, .q, .q, .q, .q, .q, .q, .q, .q, .f, .n] (by kernel_rfl) (by kernel_rfl) ?_   -- region 1
  refine sr 7 rfl ?_
  refine s_op rfl (oidx rfl rfl rfl (by omega) (by omega) ?_)
  refine s_op rfl (old rfl rfl (hx1.rd (by omega) (by omega)) ?_)
  refine sr 1 rfl ?_
  rw [← hse]
  refine s_op rfl (o_ar rfl rfl rfl (by omega) (by omega) ?_)
  refine s_op rfl (oslice rfl rfl rfl rfl (by omega) (by omega) (by omega) ?_)
  refine s_op rfl (oalloc1 loud_f rfl ?_)
  refine s_op rfl (ost1 rfl rfl (Nat.lt_succ_self _) (fun h => absurd h (by show ¬ (st.n + 1 < st.n); omega)) (push_ob _ _) (u := .sl (some q) (o + p) w.length) hvv rfl rfl ?_)
  refine s_end ?_
  have hb : (st.push (.row true [.sl ra oa l.length])).n = st.n + 1 := rfl
  have hE : Ex st (((st.push (.row true [.sl ra oa l.length])).push (.row true [Z.nil.av])).set (st.push (.row true [.sl ra oa l.length])).n (.row true [.sl (some q) (o + p) w.length])) :=
    ((ex_push _ _).tr (ex_push _ _)).trans (T' := (· = st.n + 1)) (ext_set _ _ _) (fun i hi e => by omega)
  have hc7 : cell (((st.push (.row true [.sl ra oa l.length])).push (.row true [Z.nil.av])).set (st.push (.row true [.sl ra oa l.length])).n (.row true [.sl (some q) (o + p) w.length])) (some (st.n + 1)) 0 = some (.sl (some q) (o + p) w.length) := cell_set1 (Nat.lt_succ_self _)
  have hc4 : cell (((st.push (.row true [.sl ra oa l.length])).push (.row true [Z.nil.av])).set (st.push (.row true [.sl ra oa l.length])).n (.row true [.sl (some q) (o + p) w.length])) (some st.n) 0 = some (.sl ra oa l.length) :=
    cell_ext (T := (· = st.n + 1)) (ext_set _ _ _) (cell_ext (ex_push _ _) (cell_push1 _ _) (fun _ _ h => h)) (fun i hi e => by injection hi with hi; omega)
  generalize (((st.push (.row true [.sl ra oa l.length])).push (.row true [Z.nil.av])).set (st.push (.row true [.sl ra oa l.length])).n (.row true [.sl (some q) (o + p) w.length])) = S at hE hc7 hc4 ⊢
  have hxS : At S (some q) o l := hx.ex hE
  have hkS : At S ra oa (kindsL l) := hk.ex hE
  have hwS : At S (some q) (o + p) w := by
    have := hxS.cut p (p + n) (by omega) (by omega)
    rw [show p + n - p = n by omega, ← hw] at this
    exact this
  refine crr (by kernel_rfl) rfl ?_   -- region 2
  refine crr (by kernel_rfl) rfl ?_   -- region 3
  refine c_seq ?_
  refine c_rs (by kernel_rfl) ?_   -- region 4
  refine s_op rfl (old rfl rfl hc4 ?_)
  refine sr 1 rfl ?_
  refine s_op rfl (oidx rfl rfl rfl (by omega) (by omega) ?_)
  refine s_op rfl (old rfl rfl (hkS.rd (by omega) (by omega)) ?_)
  rw [kindsL_rd l p (by omega) (by omega), hkat]
  refine s_end ?_
  refine c_block ?_
  refine crr (by kernel_rfl) rfl ?_   -- region 5
  refine c_if rfl (fun h28 => ?_) (fun h28 => ?_)
  · have h28 := of_decide_eq_true h28
    refine crr (by kernel_rfl) rfl ?_   -- region 6
    refine c_ret (fr rfl (abd ⟨fun _ => ?_, fun _ => rfl⟩))
    exact ⟨fun h => by omega, fun h => by omega, fun h => by omega, fun h => by omega, fun h => by omega⟩
  have h28 := of_decide_eq_false h28
  refine crr (by kernel_rfl) rfl ?_   -- region 7
  refine c_if rfl (fun h30 => ?_) (fun h30 => ?_)
  · have h30 := of_decide_eq_true h30
    refine c_rs (by kernel_rfl) ?_   -- region 8
    refine s_op rfl (old rfl rfl hc7 ?_)
    refine s_op rfl (o_pure loud_n rfl (textOk_c _ _ _ _ hwS (by omega) (by omega)) ?_)
    refine sra rfl ?_
    refine c_ret (fr rfl (abd ?_))
    rw [bdt, hwl, hw, txt_cut (by omega) (by omega)]
    exact ⟨fun h => ⟨fun _ => h, fun h => by omega, fun h => by omega, fun h => by omega, fun h => by omega⟩, fun h => h.1 h30⟩
  have h30 := of_decide_eq_false h30
  refine crr (by kernel_rfl) rfl ?_   -- region 9
  refine c_if rfl (fun h34 => ?_) (fun h34 => ?_)
  · have h34 := of_decide_eq_true h34
    have hG : ShpK l p n kd ↔ (Spl l p n 3 ∧ (rd l (p + 1) = 1 ∨ Rf l (rd l (p + 1)) 5 2)) ∧ Nxt l (rd l (p + 2)) 3 :=
      ⟨fun h => h.2.1 h34, fun h => ⟨fun e => by omega, fun _ => h, fun e => by omega, fun e => by omega, fun e => by omega⟩⟩
    have hsp := sp_cut (l := l) (p := p) (m := n) (by omega) (by omega) 3 (by omega) w hw
    refine cds [0, 1, 2, 3, 4, 5, 6, 7, 8, 9, 10, 11, 12, 13, 14, 15, 16, 17, 18, 19, 20, 21, 22] [.q, .f, .q, .q, .q, .q, .q, .q, .q, .q, .q, .q, .f, .q, .q, .q, .q, .q, .q, .q, .f, .q, .q] (by kernel_rfl) (by kernel_rfl) ?_   -- region 10
    refine sr 1 rfl ?_
    refine s_op rfl (o_call rfl (spare_c _ _ _ w 3 _ hc7 hwS (by omega) (by omega)) no_T (loud_no loud_f _) ?_)
    rintro v1 st1 ⟨rfl, rfl⟩ _
    refine sr 1 rfl ?_
    refine s_bool 38 rfl rfl (fun h38 => ?_) (fun h38 => ?_)
    · have h38 := hsp.1 (bdt.1 h38)
      have h3 : 3 ≤ n := by unfold Spl at h38; omega
      refine s_op rfl (old rfl rfl hc7 ?_)
      refine s_op rfl (oidx rfl rfl rfl (by omega) (by omega) ?_)
      refine s_op rfl (old rfl rfl (hwS.rd (by omega) (by omega)) ?_)
      rw [hrw 1 (by omega) (by omega)]
      refine sr 2 rfl ?_
      refine s_bool 43 rfl rfl (fun h43 => ?_) (fun h43 => ?_)
      · have h43 := of_decide_eq_true h43
        refine sr 9 rfl ?_
        refine s_op rfl (old rfl rfl hc7 ?_)
        refine s_op rfl (oidx rfl rfl rfl (by omega) (by omega) ?_)
        refine s_op rfl (old rfl rfl (hwS.rd (by omega) (by omega)) ?_)
        rw [hrw 2 (by omega) (by omega)]
        refine s_op rfl (o_call rfl (inner_c _ _ _ l _ 3 _ hc4 hkS hlen (by omega)) no_T (loud_no loud_f _) ?_)
        rintro v2 st2 ⟨rfl, rfl⟩ _
        refine sra rfl ?_
        refine c_ret (fr rfl (abd ?_))
        show bd _ = true ↔ _
        rw [bdt, hG]
        exact ⟨fun h => ⟨⟨h38, .inl h43⟩, h⟩, fun h => h.2⟩
      · have h43 := of_decide_eq_false h43
        refine s_op rfl (old rfl rfl hc4 ?_)
        refine s_op rfl (old rfl rfl hc7 ?_)
        refine s_op rfl (oidx rfl rfl rfl (by omega) (by omega) ?_)
        refine s_op rfl (old rfl rfl (hwS.rd (by omega) (by omega)) ?_)
        rw [hrw 1 (by omega) (by omega)]
        refine s_op rfl (o_pure loud_f rfl (leadsTo_c _ _ _ _ _ _ _ _ hkS hlen (by omega) rfl) ?_)
        refine sr 3 rfl ?_
        refine s_bool 51 rfl rfl (fun h51 => ?_) (fun h51 => ?_)
        · have h51 : Rf l (rd l (p + 1)) 5 2 := bdt.1 h51
          refine sr 1 rfl ?_
          refine s_op rfl (old rfl rfl hc7 ?_)
          refine s_op rfl (oidx rfl rfl rfl (by omega) (by omega) ?_)
          refine s_op rfl (old rfl rfl (hwS.rd (by omega) (by omega)) ?_)
          rw [hrw 2 (by omega) (by omega)]
          refine s_op rfl (o_call rfl (inner_c _ _ _ l _ 3 _ hc4 hkS hlen (by omega)) no_T (loud_no loud_f _) ?_)
          rintro v2 st2 ⟨rfl, rfl⟩ _
          refine sra rfl ?_
          refine c_ret (fr rfl (abd ?_))
          show bd _ = true ↔ _
          rw [bdt, hG]
          exact ⟨fun h => ⟨⟨h38, .inr h51⟩, h⟩, fun h => h.2⟩
        · have h51 : ¬ Rf l (rd l (p + 1)) 5 2 := bdf.1 h51
          refine sra rfl ?_
          refine c_ret (fr rfl (abd ?_))
          rw [hG]
          exact ⟨fun h => (by cases h), fun h => absurd (h.1.2.resolve_left h43) h51⟩
    · have h38 := fun h => bdf.1 h38 (hsp.2 h)
      refine sra rfl ?_
      refine c_ret (fr rfl (abd ?_))
      rw [hG]
      exact ⟨fun h => (by cases h), fun h => absurd h.1.1 h38⟩
  have h34 := of_decide_eq_false h34
  refine crr (by kernel_rfl) rfl ?_   -- region 11
  refine c_if rfl (fun h58 => ?_) (fun h58 => ?_)
  · have h58 := of_decide_eq_true h58
    have hG : ShpK l p n kd ↔ ((Spl l p n 4 ∧ Rf l (rd l (p + 1)) 4 1) ∧ Plain l (rd l (p + 2))) ∧ Nxt l (rd l (p + 3)) 3 :=
      ⟨fun h => h.2.2.1 h58, fun h => ⟨fun e => by omega, fun e => by omega, fun _ => h, fun e => by omega, fun e => by omega⟩⟩
    have hsp := sp_cut (l := l) (p := p) (m := n) (by omega) (by omega) 4 (by omega) w hw
    refine cds [0, 1, 2, 3, 4, 5, 6, 7, 8, 9, 10, 11, 12, 13, 14, 15, 16, 17, 18, 19, 20, 21, 22, 23] [.q, .f, .q, .q, .q, .q, .q, .f, .q, .q, .q, .q, .q, .q, .f, .q, .q, .q, .q, .q, .q, .f, .q, .q] (by kernel_rfl) (by kernel_rfl) ?_   -- region 12
    refine sr 1 rfl ?_
    refine s_op rfl (o_call rfl (spare_c _ _ _ w 4 _ hc7 hwS (by omega) (by omega)) no_T (loud_no loud_f _) ?_)
    rintro v1 st1 ⟨rfl, rfl⟩ _
    refine sr 1 rfl ?_
    refine s_bool 62 rfl rfl (fun h62 => ?_) (fun h62 => ?_)
    · have h62 := hsp.1 (bdt.1 h62)
      have h3 : 4 ≤ n := by unfold Spl at h62; omega
      refine s_op rfl (old rfl rfl hc4 ?_)
      refine s_op rfl (old rfl rfl hc7 ?_)
      refine s_op rfl (oidx rfl rfl rfl (by omega) (by omega) ?_)
      refine s_op rfl (old rfl rfl (hwS.rd (by omega) (by omega)) ?_)
      rw [hrw 1 (by omega) (by omega)]
      refine s_op rfl (o_pure loud_f rfl (leadsTo_c _ _ _ _ _ _ _ _ hkS hlen (by omega) rfl) ?_)
      refine sr 2 rfl ?_
      refine s_bool 69 rfl rfl (fun h69 => ?_) (fun h69 => ?_)
      · have h69 : Rf l (rd l (p + 1)) 4 1 := bdt.1 h69
        refine s_op rfl (old rfl rfl hc4 ?_)
        refine s_op rfl (old rfl rfl hc7 ?_)
        refine s_op rfl (oidx rfl rfl rfl (by omega) (by omega) ?_)
        refine s_op rfl (old rfl rfl (hwS.rd (by omega) (by omega)) ?_)
        rw [hrw 2 (by omega) (by omega)]
        refine s_op rfl (o_pure loud_f rfl (plainOk_c _ _ _ _ _ _ hkS hlen rfl) ?_)
        refine sr 2 rfl ?_
        refine s_bool 76 rfl rfl (fun h76 => ?_) (fun h76 => ?_)
        · have h76 : Plain l (rd l (p + 2)) := bdt.1 h76
          refine sr 1 rfl ?_
          refine s_op rfl (old rfl rfl hc7 ?_)
          refine s_op rfl (oidx rfl rfl rfl (by omega) (by omega) ?_)
          refine s_op rfl (old rfl rfl (hwS.rd (by omega) (by omega)) ?_)
          rw [hrw 3 (by omega) (by omega)]
          refine s_op rfl (o_call rfl (inner_c _ _ _ l _ 3 _ hc4 hkS hlen (by omega)) no_T (loud_no loud_f _) ?_)
          rintro v2 st2 ⟨rfl, rfl⟩ _
          refine sra rfl ?_
          refine c_ret (fr rfl (abd ?_))
          show bd _ = true ↔ _
          rw [bdt, hG]
          exact ⟨fun h => ⟨⟨⟨h62, h69⟩, h76⟩, h⟩, fun h => h.2⟩
        · have h76 : ¬ Plain l (rd l (p + 2)) := bdf.1 h76
          refine sra rfl ?_
          refine c_ret (fr rfl (abd ?_))
          rw [hG]
          exact ⟨fun h => (by cases h), fun h => absurd h.1.2 h76⟩
      · have h69 : ¬ Rf l (rd l (p + 1)) 4 1 := bdf.1 h69
        refine sra rfl ?_
        refine c_ret (fr rfl (abd ?_))
        rw [hG]
        exact ⟨fun h => (by cases h), fun h => absurd h.1.1.2 h69⟩
    · have h62 := fun h => bdf.1 h62 (hsp.2 h)
      refine sra rfl ?_
      refine c_ret (fr rfl (abd ?_))
      rw [hG]
      exact ⟨fun h => (by cases h), fun h => absurd h.1.1.1 h62⟩
  have h58 := of_decide_eq_false h58
  refine crr (by kernel_rfl) rfl ?_   -- region 13
  refine c_if rfl (fun h83 => ?_) (fun h83 => ?_)
  · have h83 := of_decide_eq_true h83
    have hG : ShpK l p n kd ↔ (Spl l p n 3 ∧ (0 ≤ rd l (p + 1) ∧ rd l (p + 1) ≤ 99)) ∧ Rf l (rd l (p + 2)) 7 5 :=
      ⟨fun h => h.2.2.2.1 h83, fun h => ⟨fun e => by omega, fun e => by omega, fun e => by omega, fun _ => h, fun e => by omega⟩⟩
    have hsp := sp_cut (l := l) (p := p) (m := n) (by omega) (by omega) 3 (by omega) w hw
    refine cds [0, 1, 2, 3, 4, 5, 6, 7, 8, 9, 10, 11, 12, 13, 14, 15] [.q, .f, .q, .q, .q, .q, .f, .q, .q, .q, .q, .q, .q, .f, .q, .q] (by kernel_rfl) (by kernel_rfl) ?_   -- region 14
    refine sr 1 rfl ?_
    refine s_op rfl (o_call rfl (spare_c _ _ _ w 3 _ hc7 hwS (by omega) (by omega)) no_T (loud_no loud_f _) ?_)
    rintro v1 st1 ⟨rfl, rfl⟩ _
    refine sr 1 rfl ?_
    refine s_bool 87 rfl rfl (fun h87 => ?_) (fun h87 => ?_)
    · have h87 := hsp.1 (bdt.1 h87)
      have h3 : 3 ≤ n := by unfold Spl at h87; omega
      refine s_op rfl (old rfl rfl hc7 ?_)
      refine s_op rfl (oidx rfl rfl rfl (by omega) (by omega) ?_)
      refine s_op rfl (old rfl rfl (hwS.rd (by omega) (by omega)) ?_)
      rw [hrw 1 (by omega) (by omega)]
      refine s_op rfl (o_pure loud_f rfl (within_c ..) ?_)
      refine sr 2 rfl ?_
      refine s_bool 93 rfl rfl (fun h93 => ?_) (fun h93 => ?_)
      · have h93 : 0 ≤ rd l (p + 1) ∧ rd l (p + 1) ≤ 99 := of_decide_eq_true h93
        refine s_op rfl (old rfl rfl hc4 ?_)
        refine s_op rfl (old rfl rfl hc7 ?_)
        refine s_op rfl (oidx rfl rfl rfl (by omega) (by omega) ?_)
        refine s_op rfl (old rfl rfl (hwS.rd (by omega) (by omega)) ?_)
        rw [hrw 2 (by omega) (by omega)]
        refine s_op rfl (o_pure loud_f rfl (leadsTo_c _ _ _ _ _ _ _ _ hkS hlen (by omega) rfl) ?_)
        refine sra rfl ?_
        refine c_ret (fr rfl (abd ?_))
        show bd _ = true ↔ _
        rw [bdt, hG]
        exact ⟨fun h => ⟨⟨h87, h93⟩, h⟩, fun h => h.2⟩
      · have h93 : ¬ (0 ≤ rd l (p + 1) ∧ rd l (p + 1) ≤ 99) := of_decide_eq_false h93
        refine sra rfl ?_
        refine c_ret (fr rfl (abd ?_))
        rw [hG]
        exact ⟨fun h => (by cases h), fun h => absurd h.1.2 h93⟩
    · have h87 := fun h => bdf.1 h87 (hsp.2 h)
      refine sra rfl ?_
      refine c_ret (fr rfl (abd ?_))
      rw [hG]
      exact ⟨fun h => (by cases h), fun h => absurd h.1.1 h87⟩
  have h83 := of_decide_eq_false h83
  have hk5 : kd = 5 := by omega
  have hG : ShpK l p n kd ↔ Nxt l (rd l (p + 1)) 5 ∧ ∀ i : Int, 2 ≤ i → i < n → Plain l (rd l (p + i)) :=
    ⟨fun h => h.2.2.2.2 hk5, fun h => ⟨fun e => by omega, fun e => by omega, fun e => by omega, fun e => by omega, fun _ => h⟩⟩
  refine c_skip ?_
  refine c_rs (by kernel_rfl) ?_   -- region 15
  refine sr 1 rfl ?_
  refine s_op rfl (old rfl rfl hc7 ?_)
  refine s_op rfl (oidx rfl rfl rfl (by omega) (by omega) ?_)
  refine s_op rfl (old rfl rfl (hwS.rd (by omega) (by omega)) ?_)
  rw [hrw 1 (by omega) (by omega)]
  refine s_op rfl (o_call rfl (inner_c _ _ _ l _ 5 _ hc4 hkS hlen (by omega)) no_T (.inl rfl) ?_)
  rintro v1 st1 ⟨rfl, rfl⟩ _
  refine sr 1 rfl ?_
  refine s_bool 105 rfl rfl (fun h105 => ?_) (fun h105 => ?_)
  · have h105 := bdt.1 h105
    refine s_op rfl (old rfl rfl hc7 ?_)
    refine s_op rfl (oslice rfl rfl rfl rfl (by omega) (by omega) (by omega) ?_)
    refine sr 1 rfl ?_
    have hw2 := hwS.cut 2 w.length (by omega) (by omega)
    obtain ⟨u, hu⟩ : ∃ u, u = (w.drop 2).take (w.length - 2) := ⟨_, rfl⟩
    rw [← hu] at hw2
    have hul : u.length = w.length - 2 := by rw [hu]; simp
    have hru : ∀ i : Nat, i < u.length → rd u i = rd l (p + (2 + i)) := fun i hi => by
      rw [hu, rd_cut w 2 (w.length - 2) i (by omega) (by omega) (by omega), show ((2 : Nat) : Int) + i = 2 + i by omega, hrw _ (by omega) (by omega)]
    have e2 : (cond (some q).isNone 0 (o + p + (2 : Int).toNat)) = o + p + 2 := rfl
    have e3 : ((w.length : Int)).toNat - (2 : Int).toNat = u.length := by rw [hul]; omega
    rw [e2, e3]
    refine s_op rfl (o_ex loud_n rfl (ContainsFunc_c _ _ u _ _ (fun x => ¬ Plain l x) _ hw2 (by omega) (fun st' i he hi => notPlain_c _ _ _ l _ _ (cell_ext he hc4 (fun _ _ h => h)) (hkS.ex he) hlen)) ?_)
    rintro v2 st2 rfl e4
    refine sra rfl ?_
    refine c_ret (fr rfl (abd ?_))
    show (!bd _) = true ↔ _
    rw [hG]
    refine ⟨fun h => ⟨h105, fun i h1 h2 => ?_⟩, fun h => ?_⟩
    · have h := nbt h
      refine Classical.byContradiction fun hc => h ⟨(i - 2).toNat, by omega, ?_⟩
      rw [hru _ (by omega), show (p : Int) + (2 + ((i - 2).toNat : Int)) = p + i by omega]
      exact hc
    · have : ¬ Any u fun x => ¬ Plain l x := fun ⟨i, hi, hc⟩ => by
        rw [hru i hi] at hc
        exact hc (h.2 (2 + i) (by omega) (by omega))
      rw [bdf.2 this]; rfl
  · have h105 := bdf.1 h105
    refine sra rfl ?_
    refine c_ret (fr rfl (abd ?_))
    rw [hG]
    exact ⟨fun h => (by cases h), fun h => absurd h.1 h105⟩
end Go.Proofs.YtfhkjhnaihhdmaaW.Ax
