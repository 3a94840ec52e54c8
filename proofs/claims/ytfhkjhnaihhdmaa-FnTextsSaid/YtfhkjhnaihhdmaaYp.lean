/- Texts that are looked for: walked. -/
import Derived.Test.YtfhkjhnaihhdmaaYo
import Derived.Test.YtfhkjhnaihhdmaaYq
namespace Go.Proofs.YtfhkjhnaihhdmaaW.Ax
open Go Go.RowKit Go.Proofs Go.Proofs.Ytfhkjhnaihhdmaa.Pure
set_option linter.unusedVariables false
set_option maxRecDepth 100000

theorem str_eq (s t : ByteArray) : (s.toList == t.toList) = decide (s = t) := by
  have key : ∀ u : ByteArray, u.toList = u.data.toList := fun u => by
    have loop : ∀ (n i : Nat) (r : List UInt8), u.size - i = n → ByteArray.toList.loop u i r = r.reverse ++ u.data.toList.drop i := by
      intro n
      induction n with
      | zero =>
        intro i r h
        unfold ByteArray.toList.loop
        have hs : u.data.toList.length = u.size := Array.length_toList
        rw [if_neg (by omega), List.drop_of_length_le (by omega)]; simp
      | succ n ih =>
        intro i r h
        unfold ByteArray.toList.loop
        have hi : i < u.size := by omega
        have hl : i < u.data.toList.length := by rw [Array.length_toList]; exact hi
        rw [if_pos hi, ih (i + 1) _ (by omega), List.drop_eq_getElem_cons hl]
        have hg : u.get! i = u.data.toList[i] := by
          have hi' : i < u.data.size := hi
          show u.data[i]! = _
          rw [getElem!_pos u.data i hi']
          exact (Array.getElem_toList hi').symm
        rw [hg]; simp
    have := loop _ 0 [] rfl
    simpa [ByteArray.toList] using this
  rw [key, key]
  by_cases h : s = t
  · subst h; simp
  · rw [decide_eq_false h]
    have : s.data.toList ≠ t.data.toList := fun e => h (ByteArray.ext (Array.toList_inj.1 e))
    simpa using this
theorem bstr_size (ns : List Int) : (bstr ns).size = ns.length := by
  have key : ∀ (ns : List Int) (s : ByteArray), (ns.foldl (fun r n => r.push (UInt8.ofNat n.toNat)) s).size = s.size + ns.length := by
    intro ns
    induction ns with
    | nil => intro s; simp
    | cons n ns ih => intro s; rw [List.foldl_cons, ih]; simp [ByteArray.size_push]; omega
  have := key ns ByteArray.empty
  unfold bstr
  rw [this]; simp
theorem txt_size {l : List Int} {a n : Int} (h : Txt l a n) : ((txt l a).size : Int) = rd l (a + 1) := by
  unfold txt
  rw [bstr_size, tx_len]
  have := h.1
  omega

/-- The first text block of these bytes. -/
def tfind (l : List Int) (t : ByteArray) : List Int → Option Int
  | [] => none
  | b :: r => if kindOf l b.toNat = 1 ∧ txt l b = t then some b else tfind l t r
def tfV (x : Option Int) : Int := match x with | some b => 8 * b + 4 | none => 0
def TfR (x : Option Int) : AV := .tup [I (tfV x), .bool x.isSome]
theorem tfind_app {l : List Int} {t : ByteArray} : ∀ (r s : List Int), (∀ b ∈ r, ¬ (kindOf l b.toNat = 1 ∧ txt l b = t)) → tfind l t (r ++ s) = tfind l t s
  | [], s, _ => rfl
  | c :: r, s, h => by
    rw [List.cons_append, tfind, if_neg (h c List.mem_cons_self)]
    exact tfind_app r s fun b hb => h b (List.mem_cons_of_mem _ hb)
theorem txt_of {l : List Int} (hp : Heap l) {a : Int} (ha : a ∈ blocks l) (hk : kindOf l a.toNat = 1) : 0 ≤ a ∧ a + size l a.toNat ≤ l.length ∧ l.length ≤ 2000 ∧ (2 : Int) ≤ size l a.toNat ∧ Txt l a (size l a.toNat) ∧ a ≤ 1999 := by
  have h := block_at ha
  have hs := size_pos h.2.2.1
  have := hp.2 a ha
  unfold Shp at this
  rw [hk] at this
  exact ⟨h.1, by omega, h.2.2.2, by omega, this.1 rfl, by omega⟩
theorem l4Find_c (r : Option Nat) (o : Nat) (l : List Int) (t : ByteArray) (st : St) (hx : At st r o l) (hp : Heap l) : ACalls Try.prog 123 [.agg [.sl r o l.length], .str t] st No (Pv (TfR (tfind l t (blocks l)))) := by
  have hlen := okB_len hp.1
  have hb := (blocks_of hp.1).2
  refine ent (N := 36) Try.func123 rfl (by decide) rfl rfl rfl ?_
  refine crr (by kernel_rfl) rfl ?_   -- region 0
  refine c_seq ?_
  refine crr (by kernel_rfl) rfl ?_   -- region 1
  refine c_block ?_
  refine c_lp (α := Nat × List Int) (fun i => [(1, .str t), (6, I i.1)]) (fun _ => [(2, 2, [.sl r o l.length])])
    (fun i st' => i.1 ≤ l.length ∧ Ex st st' ∧ walk l i.1 = some i.2 ∧ tfind l t (blocks l) = tfind l t i.2 ∧ (∀ x ∈ i.2, x ∈ blocks l)) (fun i => l.length - i.1) (0, blocks l) ⟨rfl, rfl, trivial⟩ ⟨rfl, rfl, trivial⟩ ⟨by omega, Ext.refl _ _, hb, rfl, fun x h => h⟩ ?_
  rintro ⟨i, rest⟩ st' ⟨hi, he, hw, hd, hm⟩
  dsimp only at *
  refine c_seq ?_
  refine crr (by kernel_rfl) rfl ?_   -- region 2
  refine c_if rfl (fun h11 => ?_) (fun h11 => ?_)
  · -- then
    have h11 := of_decide_eq_true h11
    obtain ⟨hh, r', rfl, hw'⟩ := walk_cons hw (by omega)
    have hs := size_pos hh
    have hse := size_eq hh
    have hib := hm _ List.mem_cons_self
    refine c_skip ?_
    refine c_seq ?_
    refine c_block ?_
    refine c_sj (α := Bool) (fun b => [(1, .str t), (6, I i), (33, .bool b)]) (fun _ => [(2, 2, [.sl r o l.length])]) (fun b st' => Ex st st' ∧ (b = true ↔ kindOf l i = 1 ∧ txt l i = t)) ?_ ?_
    · refine c_region (by kernel_rfl) ?_   -- region 4
      refine sr 3 rfl ?_
      refine s_op rfl (oidx rfl rfl rfl (by omega) (by omega) ?_)
      refine s_op rfl (old rfl rfl ((hx.ex he).rd (by omega) (by omega)) ?_)
      refine s_op rfl (o_pure loud_n rfl (l2Kind_c ..) ?_)
      refine sr 2 rfl ?_
      refine s_bool 27 rfl rfl (fun h27 => ?_) (fun h27 => ?_)
      · have h27 := of_decide_eq_true h27
        rw [rd_kind] at h27
        obtain ⟨t1, t2, t3, t4, t5, t6⟩ := txt_of hp hib (by simpa using h27)
        simp only [Int.toNat_natCast] at *
        refine sr 2 rfl ?_
        refine s_op rfl (o_ex loud_n rfl (l4Bytes_c _ _ _ _ _ _ (hx.ex he) t1 t4 t2 t3 t5) ?_)
        rintro v1 st1 rfl e1
        refine sra rfl ⟨_, ⟨rfl, rfl, rfl, trivial⟩, ⟨rfl, rfl, trivial⟩, he.tr e1, ?_⟩
        rw [str_eq]
        exact ⟨fun h => ⟨h27, of_decide_eq_true h⟩, fun h => decide_eq_true h.2⟩
      · have h27 := of_decide_eq_false h27
        rw [rd_kind] at h27
        refine sra rfl ⟨false, ⟨rfl, rfl, rfl, trivial⟩, ⟨rfl, rfl, trivial⟩, he, ⟨fun h => (by cases h), fun h => absurd h.1 h27⟩⟩
    rintro b st1 ⟨he1, hbb⟩
    refine c_if rfl (fun h33 => ?_) (fun h33 => ?_)
    · have h33 := hbb.1 h33
      refine c_rs (by kernel_rfl) ?_   -- region 5
      refine sr 1 rfl ?_
      refine s_op rfl (o_pure loud_n rfl (RefOf_c 4 i _ (by omega) (by omega)) ?_)
      refine sra rfl ?_
      refine c_ret (fr rfl ?_)
      rw [hd, tfind, if_pos (by simpa using h33)]
      show AV.tup [I (8 * (i : Int) + 4), .bool true] = _
      rfl
    · have h33 : ¬ (kindOf l i = 1 ∧ txt l i = t) := fun h => by rw [hbb.2 h] at h33; cases h33
      refine c_skip ?_
      refine c_region (by kernel_rfl) ?_   -- region 3
      refine sr 4 rfl ?_
      refine s_op rfl (oidx rfl rfl rfl (by omega) (by omega) ?_)
      refine s_op rfl (old rfl rfl ((hx.ex he1).rd (by omega) (by omega)) ?_)
      refine s_op rfl (o_pure loud_n rfl (l2Size_c ..) ?_)
      refine s_op rfl (o_ar rfl rfl rfl (by omega) (by omega) ?_)
      refine sra rfl ⟨(i + size l i, r'), ⟨rfl, ?_, trivial⟩, ⟨rfl, rfl, trivial⟩, ⟨by dsimp only; omega, he1, hw', ?_, fun x h => hm x (List.mem_cons_of_mem _ h)⟩, by dsimp only; omega⟩
      · show I _ = I _
        congr 1
        omega
      · rw [hd, tfind, if_neg (by simpa using h33)]
  · -- else
    have h11 := of_decide_eq_false h11
    have := walk_nil hw (by omega)
    subst this
    refine c_exit ?_
    refine crr (by kernel_rfl) rfl ?_   -- region 6
    refine c_ret (fr rfl ?_)
    rw [hd]; rfl
theorem textFind_c (r : Option Nat) (o : Nat) (l : List Int) (t : ByteArray) (st : St) (hx : At st r o l) (hp : Heap l) : ACalls Try.prog 122 [.agg [.sl r o l.length], .str t] st No (Pv (TfR (tfind l t (blocks l)))) := by
  have hlen := okB_len hp.1
  have hbl := blocks_lel l
  refine ent (N := 43) Try.func122 rfl (by decide) rfl rfl rfl ?_
  refine crr (by kernel_rfl) rfl ?_   -- region 0
  refine c_seq ?_
  refine c_rs (by kernel_rfl) ?_   -- region 1
  refine sr 1 rfl ?_
  refine s_op rfl (o_ex loud_n rfl (iBlocks_c _ _ _ _ hx) ?_)
  rintro v1 st1 ⟨q, rfl, hf1⟩ e1
  refine sra rfl ?_
  refine c_block ?_
  refine c_lp (α := Nat) (fun i => [(1, .str t), (9, .sl q 0 (blocks l).length), (10, I (blocks l).length), (11, I i)]) (fun _ => [(2, 2, [.sl r o l.length])])
    (fun i st' => i ≤ (blocks l).length ∧ Ex st1 st' ∧ ∀ j : Nat, j < i → ¬ (kindOf l (rd (blocks l) j).toNat = 1 ∧ txt l (rd (blocks l) j) = t)) (fun i => (blocks l).length - i) 0 ⟨rfl, rfl, rfl, rfl, trivial⟩ ⟨rfl, rfl, trivial⟩ ⟨by omega, Ext.refl _ _, fun j hj => by omega⟩ ?_
  rintro i st' ⟨hi, he, hn⟩
  refine crr (by kernel_rfl) rfl ?_   -- region 2
  refine c_seq ?_
  refine c_if rfl (fun h12 => ?_) (fun h12 => ?_)
  · -- then
    have h12 := of_decide_eq_true h12
    have hib : rd (blocks l) i ∈ blocks l := mem_rd (by omega)
    obtain ⟨a, ha⟩ : ∃ a : Nat, rd (blocks l) i = a := ⟨(rd (blocks l) i).toNat, by have := (block_at hib).1; omega⟩
    have hba := block_at hib
    rw [ha] at hib hba
    have hs := size_pos hba.2.2.1
    simp only [Int.toNat_natCast] at *
    refine c_skip ?_
    refine c_seq ?_
    refine c_block ?_
    refine c_rs (by kernel_rfl) ?_   -- region 3
    refine s_op rfl (oidx rfl rfl rfl (by omega) (by omega) ?_)
    refine s_op rfl (old rfl rfl ((hf1.at_.ex he).rd (by omega) (by omega)) ?_)
    rw [ha]
    refine sra rfl ?_
    have hx1 := (hx.ex e1).ex he
    refine c_sj (α := Bool) (fun b => [(1, .str t), (7, I a), (9, .sl q 0 (blocks l).length), (10, I (blocks l).length), (11, I i), (39, .bool b)]) (fun _ => [(2, 2, [.sl r o l.length])]) (fun b st' => Ex st1 st' ∧ (b = true ↔ kindOf l a = 1 ∧ txt l a = t)) ?_ ?_
    · refine c_region (by kernel_rfl) ?_   -- region 4
      refine sr 3 rfl ?_
      refine s_op rfl (oidx rfl rfl rfl (by omega) (by omega) ?_)
      refine s_op rfl (old rfl rfl (hx1.rd (by omega) (by omega)) ?_)
      refine sr 3 rfl ?_
      refine s_bool 22 rfl rfl (fun h22 => ?_) (fun h22 => ?_)
      · have h22 := of_decide_eq_true h22
        rw [rd_kind] at h22
        obtain ⟨t1, t2, t3, t4, t5, t6⟩ := txt_of hp hib (by simpa using h22)
        simp only [Int.toNat_natCast] at *
        have hsz := txt_size t5
        refine sr 3 rfl ?_
        refine s_op rfl (o_ar rfl rfl rfl (by omega) (by omega) ?_)
        refine s_op rfl (oidx rfl rfl rfl (by omega) (by omega) ?_)
        refine s_op rfl (old rfl rfl (hx1.rd (by omega) (by omega)) ?_)
        refine sr 5 rfl ?_
        refine s_bool 33 rfl rfl (fun h33 => ?_) (fun h33 => ?_)
        · refine sr 2 rfl ?_
          refine s_op rfl (o_ex loud_n rfl (textAt_c _ _ _ _ _ _ hx1 t1 t4 t2 t3 t5) ?_)
          rintro v1 st2 rfl e2
          refine sra rfl ⟨_, ⟨rfl, rfl, rfl, rfl, rfl, rfl, trivial⟩, ⟨rfl, rfl, trivial⟩, he.tr e2, ?_⟩
          rw [str_eq]
          exact ⟨fun h => ⟨h22, of_decide_eq_true h⟩, fun h => decide_eq_true h.2⟩
        · have h33 := of_decide_eq_false h33
          refine sra rfl ⟨false, ⟨rfl, rfl, rfl, rfl, rfl, rfl, trivial⟩, ⟨rfl, rfl, trivial⟩, he, ⟨fun h => (by cases h), fun h => absurd (by rw [← h.2]; exact hsz.symm) h33⟩⟩
      · have h22 := of_decide_eq_false h22
        rw [rd_kind] at h22
        refine sr 11 rfl ?_
        refine sra rfl ⟨false, ⟨rfl, rfl, rfl, rfl, rfl, rfl, trivial⟩, ⟨rfl, rfl, trivial⟩, he, ⟨fun h => (by cases h), fun h => absurd h.1 h22⟩⟩
    rintro b st2 ⟨he2, hbb⟩
    refine c_if rfl (fun h39 => ?_) (fun h39 => ?_)
    · have h39 := hbb.1 h39
      refine c_rs (by kernel_rfl) ?_   -- region 5
      refine sr 1 rfl ?_
      refine s_op rfl (o_pure loud_n rfl (iRefOf_c 4 a _ (by omega) (by omega)) ?_)
      refine sra rfl ?_
      refine c_ret (fr rfl ?_)
      have hsp : blocks l = (blocks l).take i ++ (rd (blocks l) i :: (blocks l).drop (i + 1)) := by
        have hi' : i < (blocks l).length := by omega
        rw [show rd (blocks l) i = (blocks l)[i] by simp [rd, List.getD, hi'], ← List.drop_eq_getElem_cons hi', List.take_append_drop]
      rw [hsp, tfind_app, tfind, if_pos (by rw [ha]; simpa using h39), ha]
      · rfl
      · intro b hb
        obtain ⟨j, hj, e⟩ := rd_mem hb
        have hj' : j < i := by simp at hj; omega
        have : rd ((blocks l).take i) j = rd (blocks l) j := by simp [rd, List.getD, hj']
        rw [← e, this]
        exact hn j hj'
    · have h39 : ¬ (kindOf l a = 1 ∧ txt l a = t) := fun h => by rw [hbb.2 h] at h39; cases h39
      refine c_skip ?_
      refine c_region (by kernel_rfl) ?_   -- region 6
      refine s_op rfl (o_ar rfl rfl rfl (by omega) (by omega) ?_)
      refine sra rfl ⟨i + 1, ⟨rfl, rfl, rfl, rfl, trivial⟩, ⟨rfl, rfl, trivial⟩, ⟨by omega, he2, fun j hj => ?_⟩, by omega⟩
      by_cases e : j = i
      · rw [e, ha]; simpa using h39
      · exact hn j (by omega)
  · -- else
    have h12 := of_decide_eq_false h12
    refine c_exit ?_
    refine crr (by kernel_rfl) rfl ?_   -- region 7
    refine c_ret (fr rfl ?_)
    rw [← List.append_nil (blocks l), tfind_app]
    · rfl
    · intro b hb
      obtain ⟨j, hj, e⟩ := rd_mem hb
      rw [← e]
      exact hn j (by omega)
end Go.Proofs.YtfhkjhnaihhdmaaW.Ax
