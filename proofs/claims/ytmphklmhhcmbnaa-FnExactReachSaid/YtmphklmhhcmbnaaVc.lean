/- What can be reached, in order. -/
import Derived.Test.YtmphklmhhcmbnaaZi
import Derived.Test.YtmphklmhhcmbnaaZh
import Derived.Test.YtmphklmhhcmbnaaZj
import Derived.Test.YtmphklmhhcmbnaaZq
import Derived.Test.YtmphklmhhcmbnaaSr
import Derived.Test.YtmphklmhhcmbnaaXV
namespace Go.Proofs.YtmphklmhhcmbnaaW.Ax
open Go Go.RowKit Go.Proofs Go.Proofs.Ytmphklmhhcmbnaa.Pure
set_option linter.unusedVariables false
set_option maxRecDepth 100000

theorem insA_pw {b : List Int} (x : Int) (h : b.Pairwise (· ≤ ·)) : (insA b x).Pairwise (· ≤ ·) := by
  have hp := pos_le b x
  unfold insA insL
  have h0 := h
  rw [← List.take_append_drop (posL b x) b, List.pairwise_append] at h0
  obtain ⟨h1, h2, h3⟩ := h0
  have ht : ∀ y ∈ b.take (posL b x), y ≤ x := fun y hy => by
    obtain ⟨j, hj, rfl⟩ := List.getElem_of_mem hy
    rw [List.length_take] at hj
    have := pos_lt b x j (by omega)
    rw [List.getElem_take]
    have e : b.getD j 0 = b[j] := by simp [List.getD, show j < b.length by omega]
    rw [e] at this; omega
  have hd : ∀ y ∈ b.drop (posL b x), x ≤ y := fun y hy => by
    obtain ⟨j, hj, rfl⟩ := List.getElem_of_mem hy
    rw [List.length_drop] at hj
    have h4 := pos_ge b x (by omega)
    have e : b.getD (posL b x) 0 = b[posL b x] := by simp [List.getD, show posL b x < b.length by omega]
    rw [e] at h4
    rw [List.getElem_drop]
    rcases Nat.eq_zero_or_pos j with e0 | e0
    · subst e0; simpa using h4
    · have h5 := List.pairwise_iff_getElem.1 h (posL b x) (posL b x + j) (by omega) (by omega) (by omega)
      omega
  rw [List.pairwise_append]
  refine ⟨h1, List.pairwise_cons.2 ⟨hd, h2⟩, fun y hy z hz => ?_⟩
  rcases List.mem_cons.1 hz with e | hz
  · subst e; exact ht y hy
  · exact h3 y hy z hz
/-- A list in order, each put into its place. -/
def sortB (xs : List Int) : List Int := xs.foldl insA []
theorem fold_srt : ∀ (xs b : List Int), b.Pairwise (· ≤ ·) → (xs.foldl insA b).Pairwise (· ≤ ·) ∧ (xs.foldl insA b).Perm (b ++ xs)
  | [], b, h => ⟨h, by simp⟩
  | x :: xs, b, h => by
    obtain ⟨h1, h2⟩ := fold_srt xs (insA b x) (insA_pw x h)
    refine ⟨h1, h2.trans ?_⟩
    refine (((insA_perm b x).symm).append_right xs).trans ?_
    exact List.perm_middle.symm
theorem sortB_eq (xs : List Int) : sortB xs = srtL xs := by
  obtain ⟨h1, h2⟩ := fold_srt xs [] List.Pairwise.nil
  refine List.Perm.eq_of_pairwise (le := (· ≤ ·)) (fun a b _ _ h h' => by omega) h1 ?_ (h2.trans ?_)
  · have := List.pairwise_mergeSort (le := fun x y : Int => decide (x ≤ y)) (fun a b c h h' => by simp at *; omega) (fun a b => by simp; omega) xs
    exact this.imp fun h => by simpa using h
  · exact (List.mergeSort_perm xs _).symm
theorem fold_app (xs : List Int) (x : Int) : sortB (xs ++ [x]) = insA (sortB xs) x := by
  unfold sortB; rw [List.foldl_append]; rfl
theorem sortB_len (xs : List Int) : (sortB xs).length = xs.length := by rw [sortB_eq, srt_len]
noncomputable def reL (l rs : List Int) : List Int := cond (bd (Rts l rs)) (srtL (ordL l rs)) []
theorem ord_len {l rs : List Int} (h : Rts l rs) : (ordL l rs).length ≤ 2000 := (ord_ok h).len
theorem reL_len (l rs : List Int) : (reL l rs).length ≤ 2000 := by
  unfold reL
  cases h : bd (Rts l rs) with
  | false => simp
  | true => rw [cond_true, srt_len]; exact ord_len (bdt.1 h)
theorem l7Sort_c (r : Option Nat) (o : Nat) (l : List Int) (st : St) (hx : At st r o l) (hl : l.length ≤ 1048576) : ACalls Try.prog 77 [.sl r o l.length] st No (Rn st (sortB l)) := by
  refine ent (N := 49) Try.func77 rfl (by decide) rfl rfl rfl ?_
  refine crr (by kernel_rfl) rfl ?_   -- region 0
  refine c_rs (by kernel_rfl) ?_   -- region 1
  refine s_op rfl (obsl0 loud_n rfl ?_)
  refine sra rfl ?_
  refine c_seq ?_
  refine crr (by kernel_rfl) rfl ?_   -- region 2
  refine c_block ?_
  refine c_lp (α := Nat × Option Nat) (fun i => [(0, .sl r o l.length), (3, .sl i.2 0 i.1), (4, I i.1)]) (fun _ => [])
    (fun i st' => Ex st st' ∧ i.1 ≤ l.length ∧ Fr st.n st' i.2 (sortB (l.take i.1))) (fun i => l.length - i.1) (0, none) ⟨rfl, rfl, rfl, trivial⟩ trivial ⟨Ext.refl _ _, Nat.zero_le _, .inl ⟨rfl, rfl⟩⟩ ?_
  rintro ⟨i, q⟩ st1 ⟨he, hi, hf⟩
  dsimp only at *
  have hlen : (sortB (l.take i)).length = i := by rw [sortB_len, List.length_take]; omega
  refine c_seq ?_
  refine crr (by kernel_rfl) rfl ?_   -- region 3
  refine c_if rfl (fun h11 => ?_) (fun h11 => ?_)
  · -- then
    have h11 := of_decide_eq_true h11
    have hx1 := hx.ex he
    refine c_skip ?_
    refine c_seq ?_
    refine c_block ?_
    refine crr (by kernel_rfl) rfl ?_   -- region 5
    refine c_seq ?_
    refine c_block ?_
    have hb : At st1 q 0 (sortB (l.take i)) := hf.at_
    have ex : rd l i = l.getD i 0 := rd_nat _ _
    generalize hbb : sortB (l.take i) = b at hf hlen hb
    subst hlen
    refine c_lp (α := Nat) (fun k => [(0, .sl r o l.length), (3, .sl q 0 b.length), (4, I b.length), (5, I k)]) (fun _ => []) (fun k st' => st1 = st' ∧ k ≤ b.length ∧ ∀ j : Nat, j < k → b.getD j 0 < rd l b.length) (fun k => b.length - k) 0 ⟨rfl, rfl, rfl, rfl, trivial⟩ trivial ⟨rfl, Nat.zero_le _, fun j h => by omega⟩ ?_
    rintro k st' ⟨rfl, hk, hlt⟩
    refine c_seq ?_
    refine c_sj (α := Bool) (fun t => [(0, .sl r o l.length), (3, .sl q 0 b.length), (4, I b.length), (5, I k), (28, .bool t)]) (fun _ => []) (fun t st' => st1 = st' ∧ (t = true ↔ k < b.length ∧ b.getD k 0 < rd l b.length)) ?_ ?_
    · -- region 6
      refine cd1 [0, 1, 2, 3, 4, 5, 6, 7, 8, 9, 10, 11, 12, 13, 14] [.q, .q, .q, .q, .q, .q, .q, .q, .q, .q, .q, .q, .q, .q, .q] (by kernel_rfl) (by kernel_rfl) ?_
      refine sr 5 rfl ?_
      refine s_bool 18 rfl rfl (fun h18 => ?_) (fun h18 => ?_)
      · -- slot 18 true
        have h18 := of_decide_eq_true h18
        refine sr 2 rfl ?_
        refine s_op rfl (oidx rfl rfl rfl (by omega) (by omega) ?_)   -- 21 := indexAddr 22 (tmp 19) (tmp 20)
        refine s_op rfl (old rfl rfl (hb.rd (by omega) (by omega)) ?_)   -- 22 := load 3 (tmp 21)
        refine sr 2 rfl ?_
        refine s_op rfl (oidx rfl rfl rfl (by omega) (by omega) ?_)   -- 25 := indexAddr 22 (tmp 23) (tmp 24)
        refine s_op rfl (old rfl rfl (hx1.rd (by omega) (by omega)) ?_)   -- 26 := load 3 (tmp 25)
        rw [rd_nat b]
        refine sra rfl ⟨_, ⟨rfl, rfl, rfl, rfl, rfl, trivial⟩, trivial, rfl, ?_⟩
        show decide (b.getD k 0 < rd l b.length) = true ↔ _
        rw [decide_eq_true_eq]
        exact ⟨fun h => ⟨by omega, h⟩, fun h => h.2⟩
      · -- slot 18 false
        have h18 := of_decide_eq_false h18
        exact sra rfl ⟨false, ⟨rfl, rfl, rfl, rfl, rfl, trivial⟩, trivial, rfl, fun h => (by cases h), fun h => absurd h.1 (by omega)⟩
    rintro t st' ⟨rfl, ht⟩
    refine c_if rfl (fun h28 => ?_) (fun h28 => ?_)
    · -- then
      obtain ⟨h1, h2⟩ := ht.1 h28
      refine c_skip ?_
      refine c_block ?_
      refine c_region (by kernel_rfl) ?_   -- region 7
      refine sr 1 rfl ?_
      refine s_op rfl (o_ar rfl rfl rfl (by omega) (by omega) ?_)   -- 30 := binOp BinOp.add 3 (tmp 29) (const (Value.int IntKind.i64 1)) 3
      refine sra rfl ?_
      refine ⟨k + 1, ⟨rfl, rfl, rfl, rfl, trivial⟩, trivial, ⟨rfl, by omega, fun j hj => ?_⟩, by omega⟩
      by_cases e : j = k
      · subst e; exact h2
      · exact hlt j (by omega)
    · -- else
      have h28 : ¬ (k < b.length ∧ b.getD k 0 < rd l b.length) := fun h => by have := ht.2 h; rw [h28] at this; cases this
      have hp : posL b (rd l b.length) = k := pos_eq b _ k hk hlt (fun h => by
        rcases Int.lt_or_le (b.getD k 0) (rd l b.length) with h' | h'
        · exact absurd ⟨h, h'⟩ h28
        · exact h')
      have ei : insA b (rd l b.length) = b.take k ++ [rd l b.length] ++ b.drop k := by unfold insA insL; rw [hp]; simp
      have hcnd : cond q.isNone 0 (0 + (k : Int).toNat) = k := by
        cases q with
        | none => have := at_none hb; subst this; simp at hk; subst hk; rfl
        | some q => show 0 + (k : Int).toNat = k; omega
      have ht1 : (b.take k).length = k := by simp; omega
      have ht2 : (b.drop k).length = b.length - k := by simp
      have hc1 : At st1 q 0 (b.take k) := by have := hb.cut 0 k (by omega) (by omega); simpa using this
      have hc2 : At st1 q k (b.drop k) := by
        have := hb.cut k b.length (by omega) (by omega)
        rw [Nat.zero_add] at this
        rwa [List.take_of_length_le (by simp)] at this
      refine c_exit ?_
      refine c_rs (by kernel_rfl) ?_   -- region 8
      refine s_op rfl (obsl0 loud_n rfl ?_)
      refine sr 2 rfl ?_
      refine s_op rfl (oslE (o' := 0) (n' := (b.take k).length) rfl rfl rfl rfl (Int.le_refl _) (by omega) (by omega) (by cases q <;> rfl) (by omega) ?_)
      refine s_op rfl (oappE loud_n rfl rfl rfl hc1 (by omega) fun r1 st2 hf1 he1 => ?_)
      refine sra rfl ?_
      refine c_rs (by kernel_rfl) ?_   -- region 9
      refine sr 3 rfl ?_
      refine s_op rfl (oidx rfl rfl rfl (by omega) (by omega) ?_)   -- 39 := indexAddr 22 (tmp 37) (tmp 38)
      refine s_op rfl (old rfl rfl ((hx1.ex he1).rd (by omega) (by omega)) ?_)   -- 40 := load 3 (tmp 39)
      refine s_op rfl (oints [rd l b.length] loud_n rfl (by decide) rfl rfl rfl fun q2 st3 hq e2 => ?_)
      have e12 := he1.tr e2
      have hf1' := hf1.ex e2
      refine s_op rfl (oappF rfl rfl rfl (hf1'.le he.n) rfl hq.at_ (by simp; omega) fun r2 st4 hf3 he3 => ?_)
      refine sra rfl ?_
      have e13 := e12.own hf1' he3
      refine c_region (by kernel_rfl) ?_   -- region 10
      refine sr 3 rfl ?_
      refine s_op rfl (oslE (o' := k) (n' := (b.drop k).length) rfl rfl rfl rfl (by omega) (by omega) (by omega) hcnd (by omega) ?_)
      refine s_op rfl (oappF rfl rfl rfl hf3 rfl (hc2.ex e13) (by simp; omega) fun r4 st5 hf5 he5 => ?_)
      refine sra rfl ?_
      rw [← ei] at hf5
      have e14 := (he.tr e13).own hf3 he5
      refine c_region (by kernel_rfl) ?_   -- region 4
      refine sr 1 rfl ?_
      refine s_op rfl (o_ar rfl rfl rfl (by omega) (by omega) ?_)   -- 13 := binOp BinOp.add 3 (tmp 12) (const (Value.int IntKind.i64 1)) 3
      refine sra rfl ?_
      have etk : sortB (l.take (b.length + 1)) = insA b (rd l b.length) := by
        rw [List.take_succ_eq_append_getElem (by omega), fold_app, hbb, rd_nat]
        simp [List.getD, show b.length < l.length by omega]
      refine ⟨(b.length + 1, r4), ⟨rfl, congrArg (AV.sl r4 0) (by simp; omega), rfl, trivial⟩, trivial, ⟨e14, by omega, ?_⟩, by omega⟩
      rw [etk]
      exact hf5
  · -- else
    have h11 := of_decide_eq_false h11
    have hil : i = l.length := by omega
    subst hil
    rw [List.take_length] at hf
    have e : l.length = (sortB l).length := (sortB_len l).symm
    refine c_exit ?_
    refine crr (by kernel_rfl) rfl ?_   -- region 11
    exact c_ret (fr rfl ⟨q, by rw [← e], hf⟩)
theorem Reach_c (r rr : Option Nat) (o or : Nat) (l rs : List Int) (st : St) (hx : At st r o l) (hy : At st rr or rs) (hl : l.length ≤ 1048576) (hlr : rs.length ≤ 1048576) : ACalls Try.prog 36 [.agg [.sl r o l.length], .sl rr or rs.length] st No (Rn st (reL l rs)) := by
  refine ent (N := 14) Try.func36 rfl (by decide) rfl rfl rfl ?_
  refine crr (by kernel_rfl) rfl ?_   -- region 0
  refine c_seq ?_
  refine c_rs (by kernel_rfl) ?_   -- region 1
  refine sr 2 rfl ?_
  refine s_op rfl (o_ex loud_n rfl (RootsOk_c r rr o or l rs _ hx hy hl hlr) ?_)
  rintro v1 st1 rfl e1
  refine sra rfl ?_
  refine c_if rfl (fun h8 => ?_) (fun h8 => ?_)
  · -- then
    have h8 := nbt h8
    have e0 : reL l rs = [] := by unfold reL; rw [bdf.2 h8]; rfl
    rw [e0]
    refine c_rs (by kernel_rfl) ?_   -- region 2
    refine s_op rfl (obsl0 loud_n rfl ?_)
    refine sra rfl ?_
    exact c_ret (fr rfl ⟨none, rfl, .inl ⟨rfl, rfl⟩⟩)
  · -- else
    have h8 := nbf h8
    have e0 : reL l rs = sortB (ordL l rs) := by unfold reL; rw [bdt.2 h8, sortB_eq]; rfl
    have hol := ord_len h8
    rw [e0]
    refine c_skip ?_
    refine c_rs (by kernel_rfl) ?_   -- region 3
    refine sr 2 rfl ?_
    refine s_op rfl (o_ex loud_n rfl (l7Order_c r rr o or l rs _ (hx.ex e1) (hy.ex e1) h8 hlr) ?_)
    rintro v2 st2 ⟨q2, rfl, hf2⟩ e2
    refine s_op rfl (o_ex loud_n rfl (l7Sort_c _ _ _ _ hf2.at_ (by omega)) ?_)
    rintro v3 st3 ⟨q3, rfl, hf3⟩ e3
    refine sra rfl ?_
    exact c_ret (fr rfl ⟨q3, rfl, hf3.le (e1.tr e2).n⟩)
theorem iReach_c (r rr : Option Nat) (o or : Nat) (l rs : List Int) (st : St) (hx : At st r o l) (hy : At st rr or rs) (hl : l.length ≤ 1048576) (hlr : rs.length ≤ 1048576) : ACalls Try.prog 37 [.agg [.sl r o l.length], .sl rr or rs.length] st No (Rn st (reL l rs)) := by
  refine ent (N := 16) Try.func37 rfl (by decide) rfl rfl rfl ?_
  refine crr (by kernel_rfl) rfl ?_   -- region 0
  refine c_seq ?_
  refine c_rs (by kernel_rfl) ?_   -- region 1
  refine sr 2 rfl ?_
  refine s_op rfl (o_ex loud_n rfl (iRootsOk_c r rr o or l rs _ hx hy hl hlr) ?_)
  rintro v1 st1 rfl e1
  refine sra rfl ?_
  refine c_if rfl (fun h9 => ?_) (fun h9 => ?_)
  · -- then
    have h9 := nbt h9
    have e0 : reL l rs = [] := by unfold reL; rw [bdf.2 h9]; rfl
    rw [e0]
    refine crr (by kernel_rfl) rfl ?_   -- region 2
    exact c_ret (fr rfl ⟨none, rfl, .inl ⟨rfl, rfl⟩⟩)
  · -- else
    have h9 := nbf h9
    have e0 : reL l rs = srtL (ordL l rs) := by unfold reL; rw [bdt.2 h9]; rfl
    have hol := ord_len h9
    rw [e0]
    refine c_skip ?_
    refine c_rs (by kernel_rfl) ?_   -- region 3
    refine sr 2 rfl ?_
    refine s_op rfl (o_ex loud_n rfl (met_c r rr o or l rs _ (hx.ex e1) (hy.ex e1) h9 hlr) ?_)
    rintro v2 st2 ⟨q2, rfl, hf2⟩ e2
    refine sra rfl ?_
    have e12 := e1.tr e2
    have hn12 := e12.n
    have hb2 := hf2.bd
    have hn2 := e1.n
    refine c_rs (by kernel_rfl) ?_   -- region 4
    refine sr 1 rfl ?_
    refine s_op rfl (o_call rfl (Sort_c st.n q2 _ _ (hf2.le e1.n) (by omega)) (fun i hi h => absurd hi (by have := hb2 i h; omega)) (.inl rfl) ?_)
    rintro v3 st3 ⟨rfl, hf3, e3⟩ _
    refine s_end ?_
    refine crr (by kernel_rfl) rfl ?_   -- region 5
    exact c_ret (fr rfl ⟨q2, by rw [srt_len], hf3⟩)
end Go.Proofs.YtmphklmhhcmbnaaW.Ax
