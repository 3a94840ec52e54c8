/- What the program's and the reference's Take make of a slab: the same. -/
import Derived.Test.YtnjlodjehneonaaPs1
import Derived.Test.YtnjlodjehneonaaF2
import Derived.Test.YtnjlodjehneonaaF3
import Derived.Test.YtnjlodjehneonaaF4
namespace Go.Proofs.Ytnjlodjehneonaa.Pure
open Go.RowKit Go.Proofs.Ytnjlodjehneonaa.F Go.Proofs.YtnjlodjehneonaaW.PrintWords Go.Proofs.YtnjlodjehneonaaW.PrintLast Go.Proofs.YtnjlodjehneonaaW.PrintMore Go.Proofs.YtnjlodjehneonaaW.Hand

theorem wf_i64 {x : Int} (h : (Lit.int .i64 x).wf = true) : -9223372036854775808 ≤ x ∧ x ≤ 9223372036854775807 := by
  have e1 : IntKind.i64.min = -9223372036854775808 := by rfl
  have e2 : IntKind.i64.max = 9223372036854775807 := by rfl
  simp only [Lit.wf, e1, e2, Bool.and_eq_true, decide_eq_true_eq] at h
  omega

theorem l2Copy_eq (l : List Int) (hl : l.length ≤ Lim) : spec_l2Copy.f l = some l := by
  unfold Lim at hl
  unfold spec_l2Copy.f
  simp
  omega
theorem copyInts_eq (l : List Int) (hl : l.length ≤ Lim) : impl_copyInts.f l = some l := by
  unfold Lim at hl
  unfold impl_copyInts.f
  rw [if_pos (by omega)]
theorem copySlab_eq (l : List Int) (hl : l.length ≤ Lim) : impl_copySlab.f l = some l := by
  unfold impl_copySlab.f
  rw [copyInts_eq l hl]
  rfl

theorem cleared_set (m : Nat) : ∀ (xs : List Int) (lo i : Nat) (v : Int), i < lo → (cleared xs lo m).set i v = cleared (xs.set i v) lo m := by
  induction m with
  | zero => intro xs lo i v _; rfl
  | succ m ih =>
    intro xs lo i v h
    rw [cleared_succ, cleared_succ, ih _ _ _ _ (by omega), List.set_comm _ _ (by omega)]

/-- The slab with a block of so many words (and of this kind) at a place: its other words are 0. -/
def laid (l : List Int) (b own : Nat) (kind : Int) : List Int := cleared (l.set b (8 * own + kind)) (b + 1) (own - 1)
theorem laid_clear (l : List Int) (b own : Nat) (kind : Int) (h : 0 < own) : (cleared l b own).set b (8 * own + kind) = laid l b own kind := by
  unfold laid
  obtain ⟨m, rfl⟩ : ∃ m, own = m + 1 := ⟨own - 1, by omega⟩
  rw [cleared_succ, cleared_set _ _ _ _ _ (by omega), List.set_set]
  rfl

/-- What is taken of a block of that many words. -/
def takeAt (l : List Int) (b : Nat) (kind n : Int) : List Int :=
  if n + 2 ≤ size l b then laid (l.set (b + n.toNat) (8 * (size l b - n))) b n.toNat kind else laid l b (size l b) kind
/-- The first of some blocks that is free and great enough. -/
def takeIn (l : List Int) (kind n : Int) : List Int → List Int × Int × Bool
  | [] => (l, 0, false)
  | b :: r => if kindOf l b.toNat = 0 ∧ n ≤ size l b.toNat then (takeAt l b.toNat kind n, b, true) else takeIn l kind n r
def take (l : List Int) (kind n : Int) : List Int × Int × Bool :=
  if okB l = true then (if (1 ≤ kind ∧ kind ≤ 5) ∧ 2 ≤ n then takeIn l kind n (blocks l) else (l, 0, false)) else ([], 0, false)

theorem laid_length (l : List Int) (b own : Nat) (kind : Int) : (laid l b own kind).length = l.length := by simp [laid, cleared_length]
theorem takeAt_length (l : List Int) (b : Nat) (kind n : Int) : (takeAt l b kind n).length = l.length := by
  unfold takeAt
  split <;> simp [laid_length]
theorem takeIn_length (l : List Int) (kind n : Int) (r : List Int) : (takeIn l kind n r).1.length = l.length := by
  induction r with
  | nil => rfl
  | cons b r ih =>
    unfold takeIn
    split
    · exact takeAt_length _ _ _ _
    · exact ih
theorem take_length (l : List Int) (kind n : Int) (hl : l.length ≤ Lim) : (take l kind n).1.length ≤ 1048576 := by
  unfold Lim at hl
  unfold take
  split
  · split
    · rw [takeIn_length]; exact hl
    · exact hl
  · simp

theorem spec_l2Take_l1 (own b : Nat) (d : Nat) : ∀ (xs : List Int) (j : Nat), xs.length ≤ 2000 → 1 ≤ j → b + own ≤ xs.length → j + d = own →
    Ev (fun k => spec_l2Take.l1 k (own : Int) (b : Int) (j : Int) xs) (cleared xs (b + j) d, (b : Int), true) := by
  induction d with
  | zero =>
    intro xs j hx hj hb hd
    refine ev_done fun k => ?_
    simp only [spec_l2Take.l1]
    rw [if_neg (by omega), cleared_zero]
  | succ d ih =>
    intro xs j hx hj hb hd
    rw [cleared_succ]
    refine ev_step (f := fun k => spec_l2Take.l1 k (own : Int) (b : Int) ((j + 1 : Nat) : Int) (xs.set (b + j) 0)) (fun k => ?_) (ih (xs.set (b + j) 0) (j + 1) (by simpa using hx) (by omega) (by simpa using hb) (by omega))
    simp only [spec_l2Take.l1]
    rw [if_pos (by omega), wrap_in (x := (b : Int) + j) (by omega) (by omega), if_pos (by omega), if_pos (by omega), wrap_in (by omega) (by omega)]
    rfl

theorem spec_l2Take_j2 (l : List Int) (hl : l.length ≤ 2000) (kind : Int) (hk : 1 ≤ kind ∧ kind ≤ 5) (b own : Nat) (h0 : 1 ≤ own) (hb : b + own ≤ l.length) :
    Ev (fun k => spec_l2Take.j2 k kind (own : Int) (b : Int) l) (laid l b own kind, (b : Int), true) := by
  unfold laid
  refine ev_step (f := fun k => spec_l2Take.l1 k (own : Int) (b : Int) ((1 : Nat) : Int) (l.set b (8 * own + kind))) (fun k => ?_) (spec_l2Take_l1 own b (own - 1) _ 1 (by simpa using hl) (by omega) (by simpa using hb) (by omega))
  simp only [spec_l2Take.j2]
  rw [if_pos (by omega), if_pos (by omega), wrap_in (x := 8 * (own : Int)) (by omega) (by omega), wrap_in (by omega) (by omega)]
  rfl

theorem spec_l2Take_l0 (l : List Int) (hl : l.length ≤ 2000) (kind n : Int) (hk : 1 ≤ kind ∧ kind ≤ 5) (hn : 2 ≤ n) (hn2 : n ≤ 9223372036854775807) (d : Nat) : ∀ (a : Nat) (r : List Int), a ≤ l.length → l.length - a ≤ d → walk l a = some r →
    Ev (fun k => spec_l2Take.l0 k kind n (a : Int) l) (takeIn l kind n r) := by
  induction d with
  | zero =>
    intro a r ha hd hr
    rw [walk_end (by omega)] at hr
    obtain rfl := Option.some.inj hr
    refine ev_done fun k => ?_
    simp only [spec_l2Take.l0]
    rw [if_neg (by omega)]
    rfl
  | succ d ih =>
    intro a r ha hd hr
    by_cases h : a < l.length
    · rw [walk_step h] at hr
      by_cases hh : headOk l a
      · have hs := size_pos hh
        rw [if_pos hh, Option.map_eq_some_iff] at hr
        obtain ⟨r', hr', rfl⟩ := hr
        have hh' := hh
        unfold headOk at hh'
        have hz : ((size l a : Nat) : Int) = l.getD a 0 / 8 := by unfold size; omega
        have hgo : Ev (fun k => spec_l2Take.j1 k kind n (a : Int) ((size l a : Nat) : Int) true l) (takeIn l kind n r') := by
          refine ev_step (f := fun k => spec_l2Take.l0 k kind n ((a + size l a : Nat) : Int) l) (fun k => ?_) (ih _ r' (by omega) (by omega) hr')
          simp only [spec_l2Take.j1, spec_l2Size.f, Option.bind_some, rd_nat]
          rw [if_true, if_pos (by omega), if_pos (by omega), wrap_in (by omega) (by omega), Int.natCast_add, hz]
        unfold takeIn
        rw [Int.toNat_natCast]
        by_cases h0 : kindOf l a = 0
        · by_cases h1 : n ≤ (size l a : Int)
          · rw [if_pos ⟨h0, h1⟩]
            refine ev_step (f := fun k => spec_l2Take.j1 k kind n (a : Int) ((size l a : Nat) : Int) false l) (fun k => ?_) ?_
            · unfold kindOf at h0
              simp only [spec_l2Take.l0, spec_l2Size.f, spec_l2Kind.f, Option.bind_some, rd_nat, and_seven]
              rw [if_pos (by omega), if_pos (by omega), if_pos h0, hz, decide_eq_false (by omega)]
            · obtain ⟨m, rfl⟩ := Int.eq_ofNat_of_zero_le (show 0 ≤ n by omega)
              unfold takeAt
              rw [Int.toNat_natCast]
              by_cases h2 : (m : Int) + 2 ≤ (size l a : Int)
              · rw [if_pos h2]
                refine ev_step (f := fun k => spec_l2Take.j2 k kind (m : Int) (a : Int) (l.set (a + m) (8 * ((size l a : Int) - m)))) (fun k => ?_) (spec_l2Take_j2 _ (by simpa using hl) kind hk a m (by omega) (by rw [List.length_set]; omega))
                simp only [spec_l2Take.j1]
                rw [if_neg (by simp), wrap_in (x := (size l a : Int) - m) (by omega) (by omega), if_neg (by omega), wrap_in (x := (a : Int) + m) (by omega) (by omega), if_pos (by omega), if_pos (by omega), wrap_in (by omega) (by omega)]
                rfl
              · rw [if_neg h2]
                refine ev_step (f := fun k => spec_l2Take.j2 k kind ((size l a : Nat) : Int) (a : Int) l) (fun k => ?_) (spec_l2Take_j2 l hl kind hk a (size l a) (by omega) (by omega))
                simp only [spec_l2Take.j1]
                rw [if_neg (by simp), wrap_in (by omega) (by omega), if_pos (by omega)]
          · rw [if_neg (fun hc => h1 hc.2)]
            refine ev_step (f := fun k => spec_l2Take.j1 k kind n (a : Int) ((size l a : Nat) : Int) true l) (fun k => ?_) hgo
            unfold kindOf at h0
            simp only [spec_l2Take.l0, spec_l2Size.f, spec_l2Kind.f, Option.bind_some, rd_nat, and_seven]
            rw [if_pos (by omega), if_pos (by omega), if_pos h0, hz, decide_eq_true (by omega)]
        · rw [if_neg (fun hc => h0 hc.1)]
          refine ev_step (f := fun k => spec_l2Take.j1 k kind n (a : Int) ((size l a : Nat) : Int) true l) (fun k => ?_) hgo
          unfold kindOf at h0
          simp only [spec_l2Take.l0, spec_l2Size.f, spec_l2Kind.f, Option.bind_some, rd_nat, and_seven]
          rw [if_pos (by omega), if_pos (by omega), if_neg h0, hz]
      · rw [if_neg hh] at hr
        cases hr
    · rw [walk_end (by omega)] at hr
      obtain rfl := Option.some.inj hr
      refine ev_done fun k => ?_
      simp only [spec_l2Take.l0]
      rw [if_neg (by omega)]
      rfl

theorem spec_l2Take_ev (l : List Int) (h : okB l = true) (kind n : Int) (hk : 1 ≤ kind ∧ kind ≤ 5) (hn : 2 ≤ n) (hn2 : n ≤ 9223372036854775807) : Ev (fun k => spec_l2Take.f k l kind n) (takeIn l kind n (blocks l)) := by
  obtain ⟨h1, h2⟩ := blocks_of h
  exact spec_l2Take_l0 l h1 kind n hk hn hn2 l.length 0 _ (by omega) (by omega) h2

theorem spec_Take_ev (l : List Int) (hl : l.length ≤ Lim) (kind n : Int) (hn : -9223372036854775808 ≤ n ∧ n ≤ 9223372036854775807) : Ev (fun k => spec_Take.f k l kind n) (take l kind n) := by
  unfold spec_Take.f take
  refine ev_bind (spec_SlabOk_ev l hl) ?_
  by_cases h : okB l = true
  · rw [if_pos h]
    refine ev_pos h ?_
    simp only [l1In_eq, Option.bind_some, decide_eq_true_eq]
    have hno : Ev (fun k => spec_Take.j0 k kind n true l) (l, 0, false) := by
      refine ev_done fun k => ?_
      simp only [spec_Take.j0, l2Copy_eq l hl, Option.bind_some, if_true]
    by_cases hk : 1 ≤ kind ∧ kind ≤ 5
    · refine ev_pos hk ?_
      by_cases h2 : 2 ≤ n
      · rw [if_pos ⟨hk, h2⟩, decide_eq_false (by omega)]
        refine ev_step (f := fun k => (spec_l2Take.f k l kind n).bind fun bt => some (bt.1, bt.2.1, bt.2.2)) (fun k => ?_) (ev_bind (spec_l2Take_ev l h kind n hk h2 hn.2) (Ev.now _))
        simp only [spec_Take.j0, l2Copy_eq l hl, Option.bind_some]
        rw [if_neg (by simp)]
      · rw [if_neg (fun hc => h2 hc.2), decide_eq_true (by omega)]
        exact hno
    · rw [if_neg (fun hc => hk hc.1)]
      exact ev_neg hk hno
  · rw [if_neg h]
    exact ev_neg h (Ev.now _)

theorem drop_cons {xs r : List Int} {b : Int} {i : Nat} (h : xs.drop i = b :: r) : i < xs.length ∧ xs.getD i 0 = b ∧ xs.drop (i + 1) = r := by
  have h1 : i < xs.length := by
    rcases Nat.lt_or_ge i xs.length with h1 | h1
    · exact h1
    · rw [List.drop_eq_nil_of_le h1] at h; cases h
  rw [List.drop_eq_getElem_cons h1] at h
  injection h with h2 h3
  exact ⟨h1, by simp [List.getD, h1, h2], h3⟩
theorem drop_nil {xs : List Int} {i : Nat} (h : xs.drop i = []) : xs.length ≤ i := List.drop_eq_nil_iff.1 h
theorem mem_of_drop {xs r : List Int} {b : Int} {i : Nat} (h : xs.drop i = b :: r) : b ∈ xs := List.mem_of_mem_drop (by rw [h]; exact List.mem_cons_self)

theorem impl_Take_l0 (l xs : List Int) (hl : l.length ≤ 2000) (hx : ∀ x ∈ xs, ∃ n : Nat, x = n ∧ n < l.length ∧ headOk l n) (hxl : xs.length ≤ 2000) (kind n : Int) (hk : 1 ≤ kind ∧ kind ≤ 5) (hn : 2 ≤ n) (hn2 : n ≤ 9223372036854775807) (r : List Int) : ∀ (i : Nat), xs.drop i = r →
    Ev (fun k => impl_Take.l0 k kind n xs (xs.length : Int) (i : Int) l l) (takeIn l kind n r) := by
  induction r with
  | nil =>
    intro i hd
    have := drop_nil hd
    refine ev_done fun k => ?_
    simp only [impl_Take.l0]
    rw [if_neg (by omega)]
    rfl
  | cons b r ih =>
    intro i hd
    obtain ⟨h2, h3, h4⟩ := drop_cons hd
    obtain ⟨a, rfl, h5, hh⟩ := hx b (mem_of_drop hd)
    have hs := size_pos hh
    have hh' := hh
    unfold headOk at hh'
    have hz : ((size l a : Nat) : Int) = l.getD a 0 / 8 := by unfold size; omega
    have hgo : Ev (fun k => impl_Take.j2 k kind n (a : Int) ((size l a : Nat) : Int) xs (xs.length : Int) (i : Int) true l l) (takeIn l kind n r) := by
      refine ev_step (f := fun k => impl_Take.l0 k kind n xs (xs.length : Int) ((i + 1 : Nat) : Int) l l) (fun k => ?_) (ih (i + 1) h4)
      simp only [impl_Take.j2]
      rw [if_true, wrap_in (by omega) (by omega)]
      rfl
    unfold takeIn
    rw [Int.toNat_natCast]
    by_cases h0 : kindOf l a = 0
    · by_cases h1 : n ≤ (size l a : Int)
      · rw [if_pos ⟨h0, h1⟩]
        refine ev_step (f := fun k => impl_Take.j2 k kind n (a : Int) ((size l a : Nat) : Int) xs (xs.length : Int) (i : Int) false l l) (fun k => ?_) ?_
        · unfold kindOf at h0
          simp only [impl_Take.l0, rd_nat, h3, and_seven]
          rw [if_pos (by omega), if_pos (by omega), if_pos (by omega), if_pos (by omega), if_pos (by omega), if_pos h0, ← hz, decide_eq_false (by omega)]
        · obtain ⟨m, rfl⟩ := Int.eq_ofNat_of_zero_le (show 0 ≤ n by omega)
          unfold takeAt
          rw [Int.toNat_natCast]
          refine ev_done fun k => ?_
          simp only [impl_Take.j2]
          rw [if_neg (by simp), wrap_in (x := (size l a : Int) - m) (by omega) (by omega)]
          by_cases h2' : (m : Int) + 2 ≤ (size l a : Int)
          · rw [if_pos h2', if_pos (by omega), wrap_in (x := (a : Int) + m) (by omega) (by omega), if_pos (by omega), if_pos (by omega), if_pos (by omega), if_pos (by omega), if_pos (by omega), if_pos (by omega), if_pos (by omega),
              wrap_in (x := 8 * ((size l a : Int) - m)) (by omega) (by omega), wrap_in (x := 8 * ((size l a : Int) - m) + 0) (by omega) (by omega), wrap_in (x := 8 * (m : Int)) (by omega) (by omega), wrap_in (x := 8 * (m : Int) + kind) (by omega) (by omega)]
            rw [show ((a : Int) + m).toNat = a + m by omega, Int.toNat_natCast, show a + m - a = m by omega, Int.add_zero, laid_clear _ a m kind (by omega)]
          · rw [if_neg h2', if_neg (by omega), wrap_in (x := (a : Int) + (size l a : Int)) (by omega) (by omega), if_pos (by omega), if_pos (by omega), if_pos (by omega), if_pos (by omega), if_pos (by omega),
              wrap_in (x := 8 * (size l a : Int)) (by omega) (by omega), wrap_in (x := 8 * (size l a : Int) + kind) (by omega) (by omega)]
            rw [show ((a : Int) + (size l a : Int)).toNat = a + size l a by omega, Int.toNat_natCast, show a + size l a - a = size l a by omega, laid_clear _ a (size l a) kind (by omega)]
      · rw [if_neg (fun hc => h1 hc.2)]
        refine ev_step (f := fun k => impl_Take.j2 k kind n (a : Int) ((size l a : Nat) : Int) xs (xs.length : Int) (i : Int) true l l) (fun k => ?_) hgo
        unfold kindOf at h0
        simp only [impl_Take.l0, rd_nat, h3, and_seven]
        rw [if_pos (by omega), if_pos (by omega), if_pos (by omega), if_pos (by omega), if_pos (by omega), if_pos h0, ← hz, decide_eq_true (by omega)]
    · rw [if_neg (fun hc => h0 hc.1)]
      refine ev_step (f := fun k => impl_Take.j2 k kind n (a : Int) ((size l a : Nat) : Int) xs (xs.length : Int) (i : Int) true l l) (fun k => ?_) hgo
      unfold kindOf at h0
      simp only [impl_Take.l0, rd_nat, h3, and_seven]
      rw [if_pos (by omega), if_pos (by omega), if_pos (by omega), if_pos (by omega), if_pos (by omega), if_neg h0, ← hz]

theorem impl_Take_ev (l : List Int) (hl : l.length ≤ Lim) (kind n : Int) (hn : -9223372036854775808 ≤ n ∧ n ≤ 9223372036854775807) : Ev (fun k => impl_Take.f k l kind n) (take l kind n) := by
  unfold impl_Take.f take
  refine ev_bind (impl_SlabOk_ev l hl) ?_
  by_cases h : okB l = true
  · rw [if_pos h]
    refine ev_pos h ?_
    simp only [copySlab_eq l hl, within_eq, Option.bind_some, decide_eq_true_eq]
    have hno : Ev (fun k => impl_Take.j0 k kind n true l l) (l, 0, false) := by
      refine ev_done fun k => ?_
      simp only [impl_Take.j0, if_true]
    by_cases hk : 1 ≤ kind ∧ kind ≤ 5
    · refine ev_pos hk ?_
      by_cases h2 : 2 ≤ n
      · rw [if_pos ⟨hk, h2⟩, decide_eq_false (by omega)]
        have hb := blocks_length l
        refine ev_step (f := fun k => (impl_Blocks.f k l).bind fun t => impl_Take.l0 k kind n t (t.length : Int) 0 l l) (fun k => ?_) (ev_bind (impl_Blocks_ev l hl) (impl_Take_l0 l (blocks l) (blocks_of h).1 (fun x hx => blocks_mem hx) hb kind n hk h2 hn.2 (blocks l) 0 rfl))
        simp only [impl_Take.j0]
        rw [if_neg (by simp)]
      · rw [if_neg (fun hc => h2 hc.2), decide_eq_true (by omega)]
        exact hno
    · rw [if_neg (fun hc => hk hc.1)]
      exact ev_neg hk hno
  · rw [if_neg h]
    exact ev_neg h (Ev.now _)

end Go.Proofs.Ytnjlodjehneonaa.Pure
