/- Marking, told plainly: it ends, comes to the same in steps as at once, and to what can be reached. No program in sight. -/
import Derived.Test.YtfhkjhnaihhdmaaGreatZr
namespace Go.Proofs.YtfhkjhnaihhdmaaGreatW.Ax
open Go Go.RowKit Go.Proofs Go.Proofs.YtfhkjhnaihhdmaaGreat.Pure
set_option linter.unusedVariables false

theorem stp_mem {l : List Int} (hp : Heap l) {a : Int} {g b : List Int} (h : Mem l (a :: g) b) : Mem l (stpG l (insA b a) a g) (insA b a) := h.step.fold _ (heap_wb hp (h.blk.1 a (List.mem_cons_self ..)))
theorem runM_cons (l : List Int) (n : Nat) (a : Int) (g b : List Int) : runM l (n + 1) (a :: g, b) = runM l n (stpG l (insA b a) a g, insA b a) := rfl
theorem runM_end {l : List Int} (hp : Heap l) : ∀ (n : Nat) (g b : List Int), Mem l g b → 2000 ≤ n + b.length → (runM l n (g, b)).1 = []
  | 0, g, b, hm, h => by
    have := hm.1.len
    rw [List.length_append] at this
    exact List.eq_nil_of_length_eq_zero (show g.length = 0 by omega)
  | n + 1, [], b, hm, h => by rw [runM_nil]
  | n + 1, a :: g, b, hm, h => by
    rw [runM_cons]
    exact runM_end hp n _ _ (stp_mem hp hm) (by rw [insA_len]; omega)
theorem runM_zero (l : List Int) (s : List Int × List Int) : runM l 0 s = s := rfl
theorem runM_add (l : List Int) : ∀ (n m : Nat) (g b : List Int), runM l m (runM l n (g, b)) = runM l (n + m) (g, b)
  | 0, m, g, b => by rw [Nat.zero_add]; rfl
  | n + 1, m, [], b => by rw [runM_nil, runM_nil, runM_nil]
  | n + 1, m, a :: g, b => by
    rw [show n + 1 + m = (n + m) + 1 by omega, runM_cons, runM_cons]
    exact runM_add l n m _ _
theorem runM_fix {l : List Int} {s : List Int × List Int} (h : s.1 = []) (n : Nat) : runM l n s = s := by
  obtain ⟨g, b⟩ := s
  obtain rfl : g = [] := h
  exact runM_nil l n b
/-- Step by step it comes to the same as at once. -/
theorem runM_same {l : List Int} (hp : Heap l) {g b : List Int} (hm : Mem l g b) (n : Nat) : runM l 2000 (runM l n (g, b)) = runM l 2000 (g, b) := by
  have e : (runM l 2000 (g, b)).1 = [] := runM_end hp _ _ _ hm (by omega)
  rw [runM_add, show n + 2000 = 2000 + n by omega, ← runM_add, runM_fix e]
theorem shd_mem {g b : List Int} {v : Int} (h : 4 ≤ v % 8) : v / 8 ∈ shd 1 g b v ∨ v / 8 ∈ b := by
  unfold shd
  by_cases h1 : v / 8 ∈ g
  · left; split <;> simp [h1]
  · by_cases h2 : v / 8 ∈ b
    · exact .inr h2
    · rw [if_pos ⟨rfl, h, h1, h2⟩]; simp
theorem shd_sub (p : Int) {g b : List Int} {v x : Int} (h : x ∈ g) : x ∈ shd p g b v := by
  unfold shd; split <;> simp [h]
theorem fold_sub {b : List Int} {x : Int} : ∀ (vs : List Int) {g : List Int}, x ∈ g → x ∈ vs.foldl (fun g v => shd 1 g b v) g
  | [], g, h => h
  | v :: vs, g, h => fold_sub vs (shd_sub 1 h)
theorem fold_in {b : List Int} {v : Int} (h4 : 4 ≤ v % 8) : ∀ (vs : List Int) {g : List Int}, v ∈ vs → v / 8 ∈ vs.foldl (fun g v => shd 1 g b v) g ∨ v / 8 ∈ b
  | w :: vs, g, h => by
    rcases List.mem_cons.1 h with rfl | h
    · exact (shd_mem (g := g) h4).imp (fold_sub vs) id
    · exact fold_in h4 vs h
theorem insA_mem {b : List Int} {x y : Int} : y ∈ insA b x ↔ y = x ∨ y ∈ b := by rw [← (insA_perm b x).mem_iff, List.mem_cons]
/-- No black block leads to one that was not met: so it stays. -/
theorem stp_tri {l : List Int} {a : Int} {g b : List Int} (h : ∀ c ∈ b, TriB l (a :: g) b c) : ∀ c ∈ insA b a, TriB l (stpG l (insA b a) a g) (insA b a) c := by
  intro c hc x hx h4
  rcases insA_mem.1 hc with rfl | hc
  · exact fold_in h4 _ (List.mem_map.2 ⟨x, hx, rfl⟩)
  · rcases h c hc x hx h4 with h1 | h1
    · rcases List.mem_cons.1 h1 with h1 | h1
      · exact .inr (insA_mem.2 (.inl h1))
      · exact .inl (fold_sub _ h1)
    · exact .inr (insA_mem.2 (.inr h1))
theorem runM_tri {l : List Int} : ∀ (n : Nat) (g b : List Int), (∀ c ∈ b, TriB l g b c) → ∀ c ∈ (runM l n (g, b)).2, TriB l (runM l n (g, b)).1 (runM l n (g, b)).2 c
  | 0, g, b, h => h
  | n + 1, [], b, h => by rw [runM_nil]; exact h
  | n + 1, a :: g, b, h => by rw [runM_cons]; exact runM_tri n _ _ (stp_tri h)
theorem zero_block {l : List Int} (h : okB l = true) : (0 : Int) = l.length ∨ (0 : Int) ∈ blocks l := by
  by_cases h0 : l.length = 0
  · left; omega
  · right
    obtain ⟨h1, r, h2, h3⟩ := walk_cons (blocks_of h).2 (show 0 < l.length by omega)
    rw [h2]; simp
/-- A marker that has gone on is right. -/
theorem run_ok {l : List Int} {g b : List Int} (hp : Heap l) (hm : Mem l g b) (ht : ∀ c ∈ b, TriB l g b c) (n : Nat) :
    MkOk l (phL (runM l n (g, b)).1) (runM l n (g, b)).1 (runM l n (g, b)).2 0 := by
  have hm1 := runM_mem hp n g b hm
  have ht1 := runM_tri n g b ht
  refine ⟨hp.1, hm1, ?_⟩
  unfold phL
  split
  · rename_i hg
    rw [hg] at ht1
    refine .inr (.inr ⟨rfl, hg, zero_block hp.1, fun a ha h0 _ => ?_, fun a ha => ⟨hp.2 a (hm1.blk.2 a ha), fun x hx h4 => (ht1 a ha x hx h4).elim (fun h => by simp at h) id⟩⟩)
    have := (block_at ha).1
    omega
  · exact .inr (.inl ⟨rfl, hp, rfl⟩)
/-- What is met, in the order in which it is met: marking goes the same way. -/
theorem take_mem_drop {out : List Int} {k : Nat} {x : Int} : x ∈ out ↔ x ∈ out.drop k ∨ x ∈ out.take k := by
  have h : x ∈ out.take k ++ out.drop k ↔ x ∈ out.take k ∨ x ∈ out.drop k := List.mem_append
  rw [List.take_append_drop] at h
  rw [h]; exact Or.comm
theorem shd_drop {out b : List Int} {k : Nat} {v : Int} (hk : k ≤ out.length) (hb : ∀ x, x ∈ b ↔ x ∈ out.take k) : shd 1 (out.drop k) b v = (ad out v).drop k := by
  unfold shd ad
  have e : (v / 8 ∉ out.drop k ∧ v / 8 ∉ b) ↔ v / 8 ∉ out := by rw [hb, take_mem_drop (k := k) (out := out)]; exact not_or.symm
  by_cases hc : 4 ≤ v % 8 ∧ v / 8 ∉ out
  · rw [if_pos hc, if_pos ⟨rfl, hc.1, e.2 hc.2⟩, List.drop_append_of_le_length hk]
  · rw [if_neg hc, if_neg (fun h => hc ⟨h.2.1, e.1 h.2.2⟩)]
theorem fold_drop {b : List Int} {k : Nat} : ∀ (vs : List Int) {out : List Int}, k ≤ out.length → (∀ x, x ∈ b ↔ x ∈ out.take k) → vs.foldl (fun g v => shd 1 g b v) (out.drop k) = (vs.foldl ad out).drop k
  | [], out, hk, hb => rfl
  | v :: vs, out, hk, hb => by
    rw [List.foldl_cons, List.foldl_cons, shd_drop hk hb]
    obtain ⟨r, hr⟩ := ad_pre out v
    refine fold_drop vs ?_ ?_
    · rw [hr, List.length_append]; omega
    · rw [hr, List.take_append_of_le_length hk]; exact hb
/-- A list in order, each put into its place. -/
def sortA (xs : List Int) : List Int := xs.foldl insA []
theorem foldA_mem : ∀ (xs b : List Int) (x : Int), x ∈ xs.foldl insA b ↔ x ∈ b ∨ x ∈ xs
  | [], b, x => by simp
  | y :: xs, b, x => by
    rw [List.foldl_cons, foldA_mem xs, insA_mem, List.mem_cons]
    constructor
    · rintro ((h | h) | h)
      · exact .inr (.inl h)
      · exact .inl h
      · exact .inr (.inr h)
    · rintro (h | h | h)
      · exact .inl (.inr h)
      · exact .inl (.inl h)
      · exact .inr h
theorem sortA_mem (xs : List Int) (x : Int) : x ∈ sortA xs ↔ x ∈ xs := by
  unfold sortA; rw [foldA_mem]; simp
theorem sortA_app (xs : List Int) (x : Int) : sortA (xs ++ [x]) = insA (sortA xs) x := by
  unfold sortA; rw [List.foldl_append]; rfl
theorem run_bfs {l : List Int} : ∀ (f k : Nat) (out : List Int), k ≤ out.length → (runM l f (out.drop k, sortA (out.take k))).1 = [] → (runM l f (out.drop k, sortA (out.take k))).2 = sortA (bfs l f k out)
  | 0, k, out, hk, h => by
    have h : out.drop k = [] := h
    have hk2 : out.length ≤ k := by
      have := congrArg List.length h
      simp at this; omega
    show sortA (out.take k) = sortA out
    rw [List.take_of_length_le hk2]
  | f + 1, k, out, hk, h => by
    by_cases hlt : k < out.length
    · have e1 : out.drop k = rd out k :: out.drop (k + 1) := by
        rw [List.drop_eq_getElem_cons hlt, rd_nat]; simp [List.getD, hlt]
      have e2 : out.take (k + 1) = out.take k ++ [rd out k] := by
        rw [List.take_succ_eq_append_getElem hlt, rd_nat]; simp [List.getD, hlt]
      have e3 : insA (sortA (out.take k)) (rd out k) = sortA (out.take (k + 1)) := by rw [e2, sortA_app]
      obtain ⟨r, hr⟩ := ads_pre (words l (slotsL l (rd out k))) out
      have e4 : stpG l (sortA (out.take (k + 1))) (rd out k) (out.drop (k + 1)) = ((words l (slotsL l (rd out k))).foldl ad out).drop (k + 1) := fold_drop _ (by omega) fun x => sortA_mem _ _
      have e5 : ((words l (slotsL l (rd out k))).foldl ad out).take (k + 1) = out.take (k + 1) := by rw [hr, List.take_append_of_le_length (by omega)]
      have e6 : runM l (f + 1) (out.drop k, sortA (out.take k)) = runM l f (((words l (slotsL l (rd out k))).foldl ad out).drop (k + 1), sortA (((words l (slotsL l (rd out k))).foldl ad out).take (k + 1))) := by
        rw [e1, runM_cons, e3, e4, e5]
      rw [e6] at h ⊢
      unfold bfs
      rw [if_pos hlt]
      refine run_bfs f (k + 1) _ ?_ h
      rw [hr, List.length_append]; omega
    · have e : out.drop k = [] := List.drop_eq_nil_of_le (by omega)
      rw [e, runM_nil, bfs_end l _ _ _ (by omega), List.take_of_length_le (by omega)]
theorem mem_start {l rs : List Int} (h : Rts l rs) : Mem l (rs.foldl ad []) [] := ⟨by rw [List.append_nil]; exact (ord_nil l).all (rts_vb h), fun i hi => by simp at hi⟩
/-- Marking that starts with what values lead to ends with what can be reached, in order. -/
theorem run_reach {l rs : List Int} (h : Rts l rs) : (runM l 2000 (rs.foldl ad [], [])).2 = sortA (ordL l rs) ∧ (runM l 2000 (rs.foldl ad [], [])).1 = [] := by
  have hm := mem_start h
  have e0 : (runM l 2000 (rs.foldl ad [], [])).1 = [] := runM_end h.1 _ _ _ hm (by omega)
  have e1 : runM l 2001 (rs.foldl ad [], []) = runM l 2000 (rs.foldl ad [], []) := by
    rw [show (2001 : Nat) = 2000 + 1 by rfl, ← runM_add, runM_fix e0]
  refine ⟨?_, e0⟩
  rw [← e1]
  exact run_bfs (l := l) 2001 0 (rs.foldl ad []) (Nat.zero_le _) (by rw [List.drop_zero]; show (runM l 2001 (rs.foldl ad [], [])).1 = []; rw [e1]; exact e0)
theorem start_sub {l rs : List Int} {x : Int} (h : x ∈ rs.foldl ad []) : x ∈ ordL l rs := by
  have key : ∀ f k out, x ∈ out → x ∈ bfs l f k out := by
    intro f
    induction f with
    | zero => intro k out h; exact h
    | succ f ih =>
      intro k out h
      unfold bfs
      split
      · obtain ⟨r, hr⟩ := ads_pre (words l (slotsL l (rd out k))) out
        exact ih _ _ (by rw [hr]; exact List.mem_append_left _ h)
      · exact h
  exact key _ _ _ h
/-- A marker that starts is right, and no block is black. -/
theorem start_tri {l rs : List Int} (h : Rts l rs) : Tri l 1 (rs.foldl ad []) [] 0 := ⟨⟨h.1.1, mem_start h, .inr (.inl ⟨rfl, h.1, rfl⟩)⟩, fun _ a ha => by simp at ha⟩
end Go.Proofs.YtfhkjhnaihhdmaaGreatW.Ax
