/- A marker that goes on: walked. -/
import Derived.Test.YtfhkjhnaihhdmaaGreatQ7
import Derived.Test.YtfhkjhnaihhdmaaGreatSh
namespace Go.Proofs.YtfhkjhnaihhdmaaGreatW.Ax
open Go Go.RowKit Go.Proofs Go.Proofs.YtfhkjhnaihhdmaaGreat.Pure
set_option linter.unusedVariables false
set_option maxRecDepth 100000

/-- A value that leads to a block of its kind, if it has a place. -/
def Lv (l : List Int) (v : Int) : Prop := 4 ≤ v % 8 → Ld l v
theorem Rf.lv {l : List Int} {v k b : Int} (h : Rf l v k b) (hk : (k = 4 ∧ b = 1) ∨ (k = 5 ∧ b = 2) ∨ (k = 6 ∧ b = 4) ∨ (k = 7 ∧ b = 3) ∨ (k = 7 ∧ b = 5)) : Lv l v := fun _ => by
  rcases hk with ⟨rfl, rfl⟩ | ⟨rfl, rfl⟩ | ⟨rfl, rfl⟩ | ⟨rfl, rfl⟩ | ⟨rfl, rfl⟩
  · exact .inl h
  · exact .inr (.inl h)
  · exact .inr (.inr (.inl h))
  · exact .inr (.inr (.inr (.inl h)))
  · exact .inr (.inr (.inr (.inr h)))
theorem Plain.lv {l : List Int} {v : Int} (h : Plain l v) : Lv l v := fun h4 => by
  have h5 : v % 8 = 4 ∨ v % 8 = 5 ∨ v % 8 = 6 := by have := h.1; omega
  rcases h5 with e | e | e
  · exact .inl ⟨e, h.2.2.1 e⟩
  · exact .inr (.inl ⟨e, h.2.2.2.1 e⟩)
  · exact .inr (.inr (.inl ⟨e, h.2.2.2.2.1 e⟩))
theorem Nxt.lv {l : List Int} {v b : Int} (h : Nxt l v b) (hb : b = 3 ∨ b = 5) : Lv l v := h.elim (fun e h4 => by rw [e] at h4; omega) (fun h => h.lv (by omega))
theorem slot_lv {l : List Int} {a x : Int} (hs : Shp l a) (ha : a ∈ blocks l) (hx : x ∈ slotsL l a) : Lv l (rd l x) := by
  have hb := block_at ha
  have hz := size_pos hb.2.2.1
  unfold Shp at hs
  unfold slotsL at hx
  obtain ⟨i, hi, rfl⟩ := upN_at hx
  unfold manyS at hi
  unfold fromS
  split at hi
  · rename_i h2
    rw [if_neg (by omega)]
    have h := hs.2.1 h2
    have : i = 0 ∨ i = 1 := by omega
    rcases this with rfl | rfl
    · rw [show a + 1 + ((0 : Nat) : Int) = a + 1 by omega]
      exact h.1.2.elim (fun e h4 => by rw [e] at h4; omega) (fun h => h.lv (by omega))
    · rw [show a + 1 + ((1 : Nat) : Int) = a + 2 by omega]
      exact h.2.lv (by omega)
  · split at hi
    · rename_i h3
      rw [if_neg (by omega)]
      have h := hs.2.2.1 h3
      have : i = 0 ∨ i = 1 ∨ i = 2 := by omega
      rcases this with rfl | rfl | rfl
      · rw [show a + 1 + ((0 : Nat) : Int) = a + 1 by omega]
        exact h.1.1.2.lv (by omega)
      · rw [show a + 1 + ((1 : Nat) : Int) = a + 2 by omega]
        exact h.1.2.lv
      · rw [show a + 1 + ((2 : Nat) : Int) = a + 3 by omega]
        exact h.2.lv (by omega)
    · split at hi
      · rename_i h4
        rw [if_pos h4]
        have h := hs.2.2.2.1 h4
        have : i = 0 := by omega
        subst this
        rw [show a + 2 + ((0 : Nat) : Int) = a + 2 by omega]
        exact h.2.lv (by omega)
      · split at hi
        · rename_i h5
          rw [if_neg (by omega)]
          have h := hs.2.2.2.2 h5
          by_cases h0 : i = 0
          · subst h0
            rw [show a + 1 + ((0 : Nat) : Int) = a + 1 by omega]
            exact h.1.lv (by omega)
          · rw [show a + 1 + (i : Int) = a + (i + 1) by omega]
            exact (h.2 (i + 1) (by omega) (by omega)).lv
        · omega
theorem Lv.vb {l : List Int} {v : Int} (h : Lv l v) : Vb l v := fun h4 => by
  rcases h h4 with h | h | h | h | h <;> exact (h.vb (by omega)) h4
/-- Where a number goes in a row that ascends. -/
def posL : List Int → Int → Nat
  | [], _ => 0
  | y :: l, x => if x ≤ y then 0 else posL l x + 1
theorem pos_eq : ∀ (b : List Int) (x : Int) (k : Nat), k ≤ b.length → (∀ j : Nat, j < k → b.getD j 0 < x) → (k < b.length → x ≤ b.getD k 0) → posL b x = k
  | [], x, k, hk, _, _ => by simp at hk; subst hk; rfl
  | y :: l, x, 0, hk, h1, h2 => by
    have := h2 (by simp)
    unfold posL
    rw [if_pos (by simpa using this)]
  | y :: l, x, k + 1, hk, h1, h2 => by
    have h0 := h1 0 (by omega)
    unfold posL
    rw [if_neg (by simp at h0; omega), pos_eq l x k (by simpa using hk) (fun j hj => by simpa using h1 (j + 1) (by omega)) (fun h => by simpa using h2 (by simpa using h))]
theorem pos_le : ∀ (b : List Int) (x : Int), posL b x ≤ b.length
  | [], x => Nat.le_refl _
  | y :: l, x => by
    unfold posL
    have := pos_le l x
    split <;> simp <;> omega
theorem pos_lt : ∀ (b : List Int) (x : Int) (j : Nat), j < posL b x → b.getD j 0 < x
  | [], x, j, h => by simp [posL] at h
  | y :: l, x, j, h => by
    unfold posL at h
    split at h
    · omega
    · cases j with
      | zero => simp; omega
      | succ j => simpa using pos_lt l x j (by omega)
theorem pos_ge : ∀ (b : List Int) (x : Int), posL b x < b.length → x ≤ b.getD (posL b x) 0
  | [], x, h => by simp at h
  | y :: l, x, h => by
    unfold posL at h ⊢
    split at h
    · rename_i h1; simp [h1]
    · rename_i h1
      rw [if_neg h1]
      simpa using pos_ge l x (by simpa using h)
def insA (b : List Int) (x : Int) : List Int := insL b (posL b x) x
theorem insA_len (b : List Int) (x : Int) : (insA b x).length = b.length + 1 := insL_len _ _ _
theorem insA_perm (b : List Int) (x : Int) : (x :: b).Perm (insA b x) := by
  unfold insA insL
  have h := List.perm_middle (a := x) (l₁ := b.take (posL b x)) (l₂ := b.drop (posL b x))
  rw [List.take_append_drop] at h
  exact h.symm
theorem insA_srt {b : List Int} {x : Int} (h : Srt b) : Srt (insA b x) := fun i hi => by
  rw [insA_len] at hi
  have hp := pos_le b x
  have g := insL_get b (posL b x) x hp
  have e1 : rd (insA b x) i = (insL b (posL b x) x).getD i 0 := rd_nat _ _
  have e2 : rd (insA b x) ((i : Int) + 1) = (insL b (posL b x) x).getD (i + 1) 0 := by rw [show (i : Int) + 1 = ((i + 1 : Nat) : Int) by omega, rd_nat]; rfl
  rw [e1, e2, g i (by omega), g (i + 1) (by omega)]
  have hs : ∀ j : Nat, j + 1 < b.length → b.getD j 0 ≤ b.getD (j + 1) 0 := fun j hj => by
    have := h j hj
    rwa [rd_nat, show (j : Int) + 1 = ((j + 1 : Nat) : Int) by omega, rd_nat] at this
  by_cases h1 : i + 1 < posL b x
  · rw [if_pos (by omega), if_pos h1]; exact hs i (by omega)
  · rw [if_neg h1]
    by_cases h2 : i + 1 = posL b x
    · rw [if_pos (by omega), if_pos h2]
      have := pos_lt b x i (by omega); omega
    · rw [if_neg h2, if_neg (by omega)]
      by_cases h3 : i = posL b x
      · rw [if_pos h3]
        have := pos_ge b x (by omega)
        rw [show i + 1 - 1 = posL b x by omega]; exact this
      · rw [if_neg h3]
        have := hs (i - 1) (by omega)
        rwa [show i - 1 + 1 = i + 1 - 1 by omega] at this
theorem Ord.perm {l xs ys : List Int} (h : Ord l xs) (p : xs.Perm ys) : Ord l ys := ⟨p.nodup_iff.1 h.1, fun a ha => h.2 a (p.mem_iff.2 ha)⟩
theorem Mem.step {l g b : List Int} {a : Int} (h : Mem l (a :: g) b) : Mem l g (insA b a) := by
  refine ⟨h.1.perm ?_, insA_srt h.2⟩
  have h1 : (a :: g ++ b).Perm (g ++ (a :: b)) := by
    rw [List.cons_append]
    exact List.perm_middle.symm
  exact h1.trans (List.Perm.append_left g (insA_perm b a))
theorem Mem.shd {l g b : List Int} {p v : Int} (h : Mem l g b) (hv : Vb l v) : Mem l (Ax.shd p g b v) b := by
  unfold Ax.shd
  split
  · rename_i hc
    refine ⟨Ord.perm (xs := (v / 8) :: (g ++ b)) ⟨List.nodup_cons.2 ⟨fun hm => (List.mem_append.1 hm).elim hc.2.2.1 hc.2.2.2, h.1.1⟩, fun a ha => ?_⟩ ?_, h.2⟩
    · rcases List.mem_cons.1 ha with ha | ha
      · subst ha; exact hv hc.2.1
      · exact h.1.2 a ha
    · rw [List.append_assoc]
      exact List.perm_middle.symm
  · exact h
theorem Mem.len {l g b : List Int} (h : Mem l g b) : g.length ≤ 2000 ∧ b.length ≤ 2000 := by
  have := h.1.len
  rw [List.length_append] at this
  omega
/-- One more block is gone through. -/
def stpG (l : List Int) (b : List Int) (a : Int) (g : List Int) : List Int := (words l (slotsL l a)).foldl (fun g v => shd 1 g b v) g
def runM (l : List Int) : Nat → List Int × List Int → List Int × List Int
  | 0, s => s
  | n + 1, (g, b) => match g with
    | [] => ([], b)
    | a :: g' => runM l n (stpG l (insA b a) a g', insA b a)
theorem at_none {st : St} {o : Nat} {l : List Int} (h : At st none o l) : l = [] := by
  cases l with
  | nil => rfl
  | cons x l => have := h 0 (by simp); cases this
theorem l8Insert_c (r : Option Nat) (b : List Int) (x : Int) (st : St) (hb : At st r 0 b) (hl : b.length ≤ 1073741824) : ACalls Tryz.prog 80 [.sl r 0 b.length, I x] st No (Rn st (insA b x)) := by
  refine ent (N := 35) Tryz.func80 rfl (by decide) rfl rfl rfl ?_
  refine crr (by kernel_rfl) rfl ?_   -- region 0
  refine crr (by kernel_rfl) rfl ?_   -- region 1
  refine c_seq ?_
  refine c_block ?_
  refine c_lp (α := Nat) (fun i => [(0, .sl r 0 b.length), (1, I x), (5, I i)]) (fun _ => []) (fun i st' => st = st' ∧ i ≤ b.length ∧ ∀ j : Nat, j < i → b.getD j 0 < x) (fun i => b.length - i) 0 ⟨rfl, rfl, rfl, trivial⟩ trivial ⟨rfl, Nat.zero_le _, fun j h => by omega⟩ ?_
  rintro i st1 ⟨rfl, hi, hlt⟩
  refine c_seq ?_
  refine c_sj (α := Bool) (fun t => [(0, .sl r 0 b.length), (1, I x), (5, I i), (18, .bool t)]) (fun _ => []) (fun t st' => st = st' ∧ (t = true ↔ i < b.length ∧ b.getD i 0 < x)) ?_ ?_
  · -- region 2
    refine c_region (by kernel_rfl) ?_
    refine sr 5 rfl ?_
    refine s_bool 11 rfl rfl (fun h11 => ?_) (fun h11 => ?_)
    · -- slot 11 true
      have h11 := of_decide_eq_true h11
      refine sr 2 rfl ?_
      refine s_op rfl (oidx rfl rfl rfl (by omega) (by omega) ?_)
      refine s_op rfl (old rfl rfl (hb.rd (by omega) (by omega)) ?_)
      rw [rd_nat]
      refine sra rfl ⟨_, ⟨rfl, rfl, rfl, rfl, trivial⟩, trivial, rfl, ?_⟩
      show decide (b.getD i 0 < x) = true ↔ _
      rw [decide_eq_true_eq]
      exact ⟨fun h => ⟨by omega, h⟩, fun h => h.2⟩
    · -- slot 11 false
      have h11 := of_decide_eq_false h11
      exact sra rfl ⟨false, ⟨rfl, rfl, rfl, rfl, trivial⟩, trivial, rfl, fun h => (by cases h), fun h => absurd h.1 (by omega)⟩
  rintro t st1 ⟨rfl, ht⟩
  refine c_if rfl (fun h18 => ?_) (fun h18 => ?_)
  · -- then
    obtain ⟨h1, h2⟩ := ht.1 h18
    refine c_skip ?_
    refine c_block ?_
    refine c_region (by kernel_rfl) ?_   -- region 3
    refine sr 1 rfl ?_
    refine s_op rfl (o_ar rfl rfl rfl (by omega) (by omega) ?_)
    refine sra rfl ⟨i + 1, ⟨rfl, rfl, rfl, trivial⟩, trivial, ⟨rfl, by omega, fun j hj => ?_⟩, by omega⟩
    by_cases e : j = i
    · subst e; exact h2
    · exact hlt j (by omega)
  · -- else
    have h18 : ¬ (i < b.length ∧ b.getD i 0 < x) := fun h => by have := ht.2 h; rw [h18] at this; cases this
    have hp : posL b x = i := pos_eq b x i hi hlt (fun h => by
      rcases Int.lt_or_le (b.getD i 0) x with h' | h'
      · exact absurd ⟨h, h'⟩ h18
      · exact h')
    have ei : insA b x = b.take i ++ [x] ++ b.drop i := by unfold insA insL; rw [hp]; simp
    have hcnd : cond r.isNone 0 (0 + (i : Int).toNat) = i := by
      cases r with
      | none => have := at_none hb; subst this; simp at hi; subst hi; rfl
      | some r => show 0 + (i : Int).toNat = i; omega
    have ht1 : (b.take i).length = i := by simp; omega
    have ht2 : (b.drop i).length = b.length - i := by simp
    have hc1 : At st r 0 (b.take i) := by have := hb.cut 0 i (by omega) (by omega); simpa using this
    have hc2 : At st r i (b.drop i) := by
      have := hb.cut i b.length (by omega) (by omega)
      rw [Nat.zero_add] at this
      rwa [List.take_of_length_le (by simp)] at this
    refine c_exit ?_
    refine c_rs (by kernel_rfl) ?_   -- region 4
    refine s_op rfl (obsl0 loud_n rfl ?_)
    refine sr 2 rfl ?_
    refine s_op rfl (oslE (o' := 0) (n' := (b.take i).length) rfl rfl rfl rfl (Int.le_refl _) (by omega) (by omega) (by cases r <;> rfl) (by omega) ?_)
    refine s_op rfl (oappE loud_n rfl rfl rfl hc1 (by omega) fun r1 st1 hf1 he1 => ?_)
    refine sra rfl ?_
    refine c_rs (by kernel_rfl) ?_   -- region 5
    refine sr 2 rfl ?_
    refine s_op rfl (oints [x] loud_n rfl (by decide) rfl rfl rfl fun q st2 hq e2 => ?_)
    have e12 := he1.tr e2
    have hf1' := hf1.ex e2
    refine s_op rfl (oappF rfl rfl rfl hf1' rfl hq.at_ (by simp; omega) fun r2 st3 hf3 he3 => ?_)
    refine sra rfl ?_
    have e13 := e12.own hf1' he3
    refine c_rs (by kernel_rfl) ?_   -- region 6
    refine sr 3 rfl ?_
    refine s_op rfl (oslE (o' := i) (n' := (b.drop i).length) rfl rfl rfl rfl (by omega) (by omega) (by omega) hcnd (by omega) ?_)
    refine s_op rfl (oappF rfl rfl rfl hf3 rfl (hc2.ex e13) (by simp; omega) fun r4 st5 hf5 he5 => ?_)
    refine sra rfl ?_
    rw [ei]
    exact c_ret (fr rfl ⟨r4, rfl, hf5⟩)
/-- A place has been put among Black, there. -/
def BkP (n0 bb : Nat) (p q : Int) (rg rb : Option Nat) (n : Nat) (g b : List Int) : AV → St → Prop := fun v st' => v = .tup [] ∧ ∃ rb', MkS n0 bb p q rg rb' g b st' ∧ ∀ i, rb' = some i → rb = some i ∨ n ≤ i
theorem blacken_c (n0 bb : Nat) (p q a : Int) (rg rb : Option Nat) (g b : List Int) (st : St) (h : MkS n0 bb p q rg rb g b st) (hn0 : n0 ≤ st.n) (hs : b.Pairwise (· < ·)) (hlb : b.length ≤ 1073741824) :
    ACalls Tryz.prog 156 [.ptr (some bb) 0, I a] st (fun i => i = bb ∨ rb = some i) (BkP n0 bb p q rg rb st.n g (insA b a)) := by
  obtain ⟨ap1, ap2⟩ := h.apart
  obtain ⟨⟨a1, a2, a3⟩, hg, hbl, d⟩ := h
  have c2 : cell st (some bb) 2 = some (.sl rb 0 b.length) := by rw [cell_row a2 a3]; rfl
  refine ent (N := 26) Tryz.func156 rfl (by decide) rfl rfl rfl ?_
  refine c_rs (by kernel_rfl) ?_   -- region 0
  refine sr 3 rfl ?_
  refine s_op rfl (old rfl rfl c2 ?_)
  refine sr 1 rfl ?_
  refine s_op rfl (o_ex loud_n rfl (BinarySearch_c _ _ _ _ _ hbl.at_ hs (by omega)) ?_)
  rintro v3 st3 ⟨k, rfl, hpos, rfl⟩ e3
  refine sra rfl ?_
  have hp : posL b a = k := pos_eq b a k hpos.1 hpos.2.1 (fun h => hpos.2.2 k (Nat.le_refl _) h)
  refine c_region (by kernel_rfl) ?_   -- region 1
  refine sr 4 rfl ?_
  refine s_op rfl (old rfl rfl c2 ?_)
  refine sr 2 rfl ?_
  refine s_op rfl (oints [a] loud_n rfl (by decide) rfl rfl rfl fun qv st4 hqv e4 => ?_)
  have n4 := e4.n
  have hqb := hqv.bd qv rfl
  refine s_op rfl (o_call rfl (Insert_c n0 st.n rb qv b k a st4 (by omega) (hbl.ex e4) hpos.1 hqv (fun e => by have := hbl.bd qv e; omega) hlb) (fun i hi ht => .inr ht) (.inl rfl) ?_)
  rintro v5 st5 ⟨rb', rfl, hf5, hn5⟩ e5
  have n5 := e5.n
  have ei : insL b k a = insA b a := by unfold insA; rw [hp]
  rw [ei] at hf5 ⊢
  have hb5 : st5.ob bb = .row true [I p, .sl rg 0 g.length, .sl rb 0 b.length, I q] := by rw [e5.ob bb (by omega) (fun e => ap2 _ e rfl), e4.ob bb a2 id]; exact a3
  have hg5 : Fr n0 st5 rg g := (hg.ex e4).ext e5 (fun i hi hi' => d i hi hi')
  refine sr 2 rfl ?_
  refine s_op rfl (ostP rfl rfl (by omega) (fun _ => .inl rfl) hb5 rfl rfl rfl (by simp) fun st6 n6 ob6 e6 => ?_)
  refine s_end ?_
  refine frn rfl ⟨rfl, rb', ⟨⟨a1, by omega, ob6⟩, hg5.ext e6 (fun i hi e => ap1 i hi e), hf5.ext e6 (fun i hi e => by have := hn5 i hi; omega), fun i hi hi' => ?_⟩, fun i hi => .inr (by have := hn5 i hi; omega)⟩
  have := hn5 i hi'
  have := hg.bd i hi
  omega
end Go.Proofs.YtfhkjhnaihhdmaaGreatW.Ax
