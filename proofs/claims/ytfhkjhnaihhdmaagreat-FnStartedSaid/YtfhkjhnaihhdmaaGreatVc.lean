/- What can be reached, in order. -/
import Derived.Test.YtfhkjhnaihhdmaaGreatQ6
import Derived.Test.YtfhkjhnaihhdmaaGreatZj
import Derived.Test.YtfhkjhnaihhdmaaGreatZq
import Derived.Test.YtfhkjhnaihhdmaaGreatSr
import Derived.Test.YtfhkjhnaihhdmaaGreatXV
namespace Go.Proofs.YtfhkjhnaihhdmaaGreatW.Ax
open Go Go.RowKit Go.Proofs Go.Proofs.YtfhkjhnaihhdmaaGreat.Pure
set_option linter.unusedVariables false
set_option maxRecDepth 100000

theorem insA_pw {b : List Int} (x : Int) (h : b.Pairwise (· ≤ ·)) : (insA b x).Pairwise (· ≤ ·) := by
  have hp := pos_le b x
  unfold insA insL
  have h0 := h
  rw [← List.take_append_drop (posL b x) b, List.pairwise_append] at h0
  obtain ⟨h1, h2, h3⟩ := h0
  have ht : ∀ y ∈ b.take (posL b x), y ≤ x := fun y hy => by
    obtain ⟨j, hj, rfl⟩ := List.getElem_of_mem hy
    rw [List.length_take] at hj
    have := pos_lt b x j (by omega)
    rw [List.getElem_take]
    have e : b.getD j 0 = b[j] := by simp [List.getD, show j < b.length by omega]
    rw [e] at this; omega
  have hd : ∀ y ∈ b.drop (posL b x), x ≤ y := fun y hy => by
    obtain ⟨j, hj, rfl⟩ := List.getElem_of_mem hy
    rw [List.length_drop] at hj
    have h4 := pos_ge b x (by omega)
    have e : b.getD (posL b x) 0 = b[posL b x] := by simp [List.getD, show posL b x < b.length by omega]
    rw [e] at h4
    rw [List.getElem_drop]
    rcases Nat.eq_zero_or_pos j with e0 | e0
    · subst e0; simpa using h4
    · have h5 := List.pairwise_iff_getElem.1 h (posL b x) (posL b x + j) (by omega) (by omega) (by omega)
      omega
  rw [List.pairwise_append]
  refine ⟨h1, List.pairwise_cons.2 ⟨hd, h2⟩, fun y hy z hz => ?_⟩
  rcases List.mem_cons.1 hz with e | hz
  · subst e; exact ht y hy
  · exact h3 y hy z hz
/-- A list in order, each put into its place. -/
def sortB (xs : List Int) : List Int := xs.foldl insA []
theorem fold_srt : ∀ (xs b : List Int), b.Pairwise (· ≤ ·) → (xs.foldl insA b).Pairwise (· ≤ ·) ∧ (xs.foldl insA b).Perm (b ++ xs)
  | [], b, h => ⟨h, by simp⟩
  | x :: xs, b, h => by
    obtain ⟨h1, h2⟩ := fold_srt xs (insA b x) (insA_pw x h)
    refine ⟨h1, h2.trans ?_⟩
    refine (((insA_perm b x).symm).append_right xs).trans ?_
    exact List.perm_middle.symm
theorem sortB_eq (xs : List Int) : sortB xs = srtL xs := by
  obtain ⟨h1, h2⟩ := fold_srt xs [] List.Pairwise.nil
  refine List.Perm.eq_of_pairwise (le := (· ≤ ·)) (fun a b _ _ h h' => by omega) h1 ?_ (h2.trans ?_)
  · have := List.pairwise_mergeSort (le := fun x y : Int => decide (x ≤ y)) (fun a b c h h' => by simp at *; omega) (fun a b => by simp; omega) xs
    exact this.imp fun h => by simpa using h
  · exact (List.mergeSort_perm xs _).symm
theorem fold_app (xs : List Int) (x : Int) : sortB (xs ++ [x]) = insA (sortB xs) x := by
  unfold sortB; rw [List.foldl_append]; rfl
theorem sortB_len (xs : List Int) : (sortB xs).length = xs.length := by rw [sortB_eq, srt_len]
noncomputable def reL (l rs : List Int) : List Int := cond (bd (Rts l rs)) (srtL (ordL l rs)) []
theorem ord_len {l rs : List Int} (h : Rts l rs) : (ordL l rs).length ≤ 2000 := (ord_ok h).len
theorem reL_len (l rs : List Int) : (reL l rs).length ≤ 2000 := by
  unfold reL
  cases h : bd (Rts l rs) with
  | false => simp
  | true => rw [cond_true, srt_len]; exact ord_len (bdt.1 h)
theorem iReach_c (r rr : Option Nat) (o or : Nat) (l rs : List Int) (st : St) (hx : At st r o l) (hy : At st rr or rs) (hl : l.length ≤ 1048576) (hlr : rs.length ≤ 1048576) : ACalls Tryz.prog 31 [.agg [.sl r o l.length], .sl rr or rs.length] st No (Rn st (reL l rs)) := by
  refine ent (N := 16) Tryz.func31 rfl (by decide) rfl rfl rfl ?_
  refine crr (by kernel_rfl) rfl ?_   -- region 0
  refine c_seq ?_
  refine c_rs (by kernel_rfl) ?_   -- region 1
  refine sr 2 rfl ?_
  refine s_op rfl (o_ex loud_n rfl (iRootsOk_c r rr o or l rs _ hx hy hl hlr) ?_)
  rintro v1 st1 rfl e1
  refine sra rfl ?_
  refine c_if rfl (fun h9 => ?_) (fun h9 => ?_)
  · -- then
    have h9 := nbt h9
    have e0 : reL l rs = [] := by unfold reL; rw [bdf.2 h9]; rfl
    rw [e0]
    refine crr (by kernel_rfl) rfl ?_   -- region 2
    exact c_ret (fr rfl ⟨none, rfl, .inl ⟨rfl, rfl⟩⟩)
  · -- else
    have h9 := nbf h9
    have e0 : reL l rs = srtL (ordL l rs) := by unfold reL; rw [bdt.2 h9]; rfl
    have hol := ord_len h9
    rw [e0]
    refine c_skip ?_
    refine c_rs (by kernel_rfl) ?_   -- region 3
    refine sr 2 rfl ?_
    refine s_op rfl (o_ex loud_n rfl (met_c r rr o or l rs _ (hx.ex e1) (hy.ex e1) h9 hlr) ?_)
    rintro v2 st2 ⟨q2, rfl, hf2⟩ e2
    refine sra rfl ?_
    have e12 := e1.tr e2
    have hn12 := e12.n
    have hb2 := hf2.bd
    have hn2 := e1.n
    refine c_rs (by kernel_rfl) ?_   -- region 4
    refine sr 1 rfl ?_
    refine s_op rfl (o_call rfl (Sort_c st.n q2 _ _ (hf2.le e1.n) (by omega)) (fun i hi h => absurd hi (by have := hb2 i h; omega)) (.inl rfl) ?_)
    rintro v3 st3 ⟨rfl, hf3, e3⟩ _
    refine s_end ?_
    refine crr (by kernel_rfl) rfl ?_   -- region 5
    exact c_ret (fr rfl ⟨q2, by rw [srt_len], hf3⟩)
end Go.Proofs.YtfhkjhnaihhdmaaGreatW.Ax
