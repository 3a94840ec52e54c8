/- MarkStep: walked. -/
import Derived.Test.YtfhkjhnaihhdmaaGreatZq
namespace Go.Proofs.YtfhkjhnaihhdmaaGreatW.Ax
open Go Go.RowKit Go.Proofs Go.Proofs.YtfhkjhnaihhdmaaGreat.Pure
set_option linter.unusedVariables false
set_option maxRecDepth 100000

theorem foldl_rdf (f : List Int → Int → List Int) (vs : List Int) (out : List Int) (i : Nat) (h : i < vs.length) : (vs.take (i + 1)).foldl f out = f ((vs.take i).foldl f out) (rd vs i) := by
  have e : vs.take (i + 1) = vs.take i ++ [rd vs i] := by
    rw [List.take_add_one, rd_nat]; simp [h, List.getD]
  rw [e, List.foldl_append]; rfl
theorem words_rd (l xs : List Int) (i : Nat) (h : i < xs.length) : rd (words l xs) i = rd l (rd xs i) := by
  rw [rd_nat, rd_nat]
  simp [words, List.getD, h]
theorem words_len (l xs : List Int) : (words l xs).length = xs.length := by simp [words]
theorem Mem.fold {l b : List Int} : ∀ (vs : List Int) {g : List Int}, Mem l g b → (∀ v ∈ vs, Vb l v) → Mem l (vs.foldl (fun g v => Ax.shd 1 g b v) g) b
  | [], g, h, _ => h
  | v :: vs, g, h, hv => Mem.fold vs (h.shd (hv v (List.mem_cons_self ..))) fun w hw => hv w (List.mem_cons_of_mem _ hw)
theorem Mem.srt {l g b : List Int} (h : Mem l g b) : b.Pairwise (· < ·) := srt_lt h.2 (List.nodup_append.1 h.1.1).2.1
theorem Mem.blk {l g b : List Int} (h : Mem l g b) : (∀ a ∈ g, a ∈ blocks l) ∧ ∀ a ∈ b, a ∈ blocks l := ⟨fun a ha => (h.1.2 a (List.mem_append_left _ ha)).1, fun a ha => (h.1.2 a (List.mem_append_right _ ha)).1⟩
theorem heap_lv {l : List Int} (hp : Heap l) {a : Int} (ha : a ∈ blocks l) {x : Int} (hx : x ∈ slotsL l a) : Lv l (rd l x) := slot_lv (hp.2 a ha) ha hx
theorem heap_wb {l : List Int} (hp : Heap l) {a : Int} (ha : a ∈ blocks l) : ∀ v ∈ words l (slotsL l a), Vb l v := fun v hv => by
  obtain ⟨x, hx, rfl⟩ := List.mem_map.1 hv
  exact (heap_lv hp ha hx).vb
theorem cond_some {r : Option Nat} {st : St} {l : List Int} (h : At st r 0 l) (hl : l ≠ []) (p : Int) : cond r.isNone 0 (0 + p.toNat) = p.toNat := by
  cases r with
  | none => exact absurd (at_none h) hl
  | some r => show 0 + p.toNat = _; omega
theorem runM_nil (l : List Int) (n : Nat) (b : List Int) : runM l n ([], b) = ([], b) := by cases n <;> rfl
/-- A marker whose two rows are the call's own. -/
def MsP (n0 : Nat) (p : Int) (g b : List Int) (q : Int) : AV → St → Prop := fun v st' =>
  ∃ rg rb, v = .agg [I p, .sl rg 0 g.length, .sl rb 0 b.length, I q] ∧ Fr n0 st' rg g ∧ Fr n0 st' rb b ∧ (∀ i, rg = some i → rb ≠ some i)
def phL (g : List Int) : Int := if g = [] then 2 else 1
theorem l8Step_c (n0 : Nat) (q n : Int) (r rg rb : Option Nat) (o : Nat) (l g b : List Int) (st : St) (hx : At st r o l) (hp : Heap l) (hm : Mem l g b) (hn0 : n0 ≤ st.n) (hg : Fr n0 st rg g) (hb : Fr n0 st rb b) (hd : ∀ i, rg = some i → rb ≠ some i) (hn : W1 n) :
    ACalls Tryz.prog 90 [.agg [.sl r o l.length], .agg [I 1, .sl rg 0 g.length, .sl rb 0 b.length, I q], I n] st No (MsP n0 (phL (runM l n.toNat (g, b)).1) (runM l n.toNat (g, b)).1 (runM l n.toNat (g, b)).2 q) := by
  have hok := hp.1
  have hlen := okB_len hok
  unfold W1 at hn
  refine ent (N := 62) Tryz.func90 rfl (by decide) rfl rfl rfl ?_
  refine crr (by kernel_rfl) rfl ?_   -- region 0
  refine c_seq ?_
  refine crr (by kernel_rfl) rfl ?_   -- region 1
  refine c_block ?_
  refine c_lp (α := Nat × List Int × List Int × Option Nat × Option Nat) (fun i => [(2, I n), (7, I i.1)]) (fun i => [(3, 3, [.sl r o l.length]), (4, 4, [I 1, .sl i.2.2.2.1 0 i.2.1.length, .sl i.2.2.2.2 0 i.2.2.1.length, I q]), (6, 6, [I 0, .sl none 0 0, .sl none 0 0, I 0])])
    (fun i st' => i.1 ≤ n.toNat ∧ Ex st st' ∧ Mem l i.2.1 i.2.2.1 ∧ Fr n0 st' i.2.2.2.1 i.2.1 ∧ Fr n0 st' i.2.2.2.2 i.2.2.1 ∧ (∀ k, i.2.2.2.1 = some k → i.2.2.2.2 ≠ some k) ∧ runM l (n.toNat - i.1) (i.2.1, i.2.2.1) = runM l n.toNat (g, b)) (fun i => n.toNat - i.1) (0, g, b, rg, rb)
    ⟨rfl, rfl, trivial⟩ ⟨rfl, rfl, rfl, rfl, rfl, rfl, trivial⟩ ⟨Nat.zero_le _, Ext.refl _ _, hm, hg, hb, hd, rfl⟩ ?_
  rintro ⟨k, g1, b1, rg1, rb1⟩ st1 ⟨hk, he, hm1, hg1, hb1, hd1, hrun⟩
  dsimp only at *
  have hl1 := hm1.len
  refine c_seq ?_
  refine c_sj (α := Bool) (fun t => [(2, I n), (7, I k), (19, .bool t)]) (fun _ => [(3, 3, [.sl r o l.length]), (4, 4, [I 1, .sl rg1 0 g1.length, .sl rb1 0 b1.length, I q]), (6, 6, [I 0, .sl none 0 0, .sl none 0 0, I 0])])
    (fun t st' => st1 = st' ∧ (t = true ↔ (k : Int) < n ∧ g1 ≠ [])) ?_ ?_
  · -- region 2
    refine c_region (by kernel_rfl) ?_
    refine sr 4 rfl ?_
    refine s_bool 14 rfl rfl (fun h14 => ?_) (fun h14 => ?_)
    · -- slot 14 true
      have h14 := of_decide_eq_true h14
      refine sra rfl ⟨_, ⟨rfl, rfl, rfl, trivial⟩, ⟨rfl, rfl, rfl, rfl, rfl, rfl, trivial⟩, rfl, ?_⟩
      show decide (((g1.length : Nat) : Int) > 0) = true ↔ _
      rw [decide_eq_true_eq]
      exact ⟨fun h => ⟨h14, fun e => by rw [e] at h; simp at h⟩, fun h => by
        rcases Nat.eq_zero_or_pos g1.length with h0 | h0
        · exact absurd (List.eq_nil_of_length_eq_zero h0) h.2
        · omega⟩
    · -- slot 14 false
      have h14 := of_decide_eq_false h14
      exact sra rfl ⟨false, ⟨rfl, rfl, rfl, trivial⟩, ⟨rfl, rfl, rfl, rfl, rfl, rfl, trivial⟩, rfl, fun h => (by cases h), fun h => absurd h.1 h14⟩
  rintro t st2 ⟨rfl, ht⟩
  refine c_if rfl (fun h19 => ?_) (fun h19 => ?_)
  · -- then
    obtain ⟨hkn, hne⟩ := ht.1 h19
    obtain ⟨a, g2, rfl⟩ : ∃ a g2, g1 = a :: g2 := by
      cases g1 with
      | nil => exact absurd rfl hne
      | cons a g2 => exact ⟨a, g2, rfl⟩
    have hab : a ∈ blocks l := hm1.blk.1 a (List.mem_cons_self ..)
    have hm2 := hm1.step
    have hcd := cond_some hg1.at_ (by simp) 1
    have hcut : At st1 rg1 1 g2 := by
      have := hg1.at_.cut 1 (a :: g2).length (by simp) (Nat.le_refl _)
      simpa using this
    simp only [List.length_cons] at hl1
    have hrda : rd (a :: g2) 0 = a := rfl
    refine c_skip ?_
    refine c_seq ?_
    refine c_block ?_
    refine c_rs (by kernel_rfl) ?_   -- region 4
    refine sr 2 rfl ?_
    refine s_op rfl (oidx rfl rfl rfl (by omega) (by simp) ?_)
    refine s_op rfl (old rfl rfl (hg1.at_.rd (by omega) (by simp)) ?_)
    rw [hrda]
    refine sra rfl ?_
    refine c_rs (by kernel_rfl) ?_   -- region 5
    refine s_op rfl (obsl0 loud_n rfl ?_)
    refine sr 2 rfl ?_
    refine s_op rfl (oslE (o' := 1) (n' := g2.length) rfl rfl rfl rfl (by omega) (by simp; omega) (Int.le_refl _) hcd (by simp) ?_)
    refine s_op rfl (oappE loud_n rfl rfl rfl hcut (by omega) fun r2 st2 hf2 he2 => ?_)
    refine sra rfl ?_
    have n1 := he.n
    have n2 := he2.n
    refine c_rs (by kernel_rfl) ?_   -- region 6
    refine sr 3 rfl ?_
    refine s_op rfl (o_ex loud_n rfl (l8Insert_c _ b1 a _ (hb1.at_.ex he2) (by omega)) ?_)
    rintro v3 st3 ⟨r3, rfl, hf3⟩ e3
    refine sra rfl ?_
    have n3 := e3.n
    refine c_rs (by kernel_rfl) ?_   -- region 7
    refine sr 2 rfl ?_
    have he3 := (he.tr he2).tr e3
    refine s_op rfl (o_ex loud_n rfl (l3Slots_c _ _ _ _ _ (hx.ex he3) hab) ?_)
    rintro v4 st4 ⟨rs, rfl, hs4⟩ e4
    refine sra rfl ?_
    have he4 := he3.tr e4
    have n4 := e4.n
    have hf2' := (hf2.ex e3).ex e4
    have hf3' := hf3.ex e4
    have hrs := hs4.bd rs rfl
    have hsl := slots_len hab
    have hwl := words_len l (slotsL l a)
    refine crr (by kernel_rfl) rfl ?_   -- region 8
    refine c_block ?_
    refine c_lp (α := Nat × Option Nat) (fun i => [(2, I n), (7, I k), (9, .sl (some rs) 0 (slotsL l a).length), (10, I i.1)]) (fun i => [(3, 3, [.sl r o l.length]), (4, 4, [I 1, .sl i.2 0 (((words l (slotsL l a)).take i.1).foldl (fun g v => shd 1 g (insA b1 a) v) g2).length, .sl r3 0 (insA b1 a).length, I q]), (6, 6, [I 0, .sl none 0 0, .sl none 0 0, I 0])])
      (fun i st' => i.1 ≤ (slotsL l a).length ∧ Ex st st' ∧ Fr st1.n st' i.2 (((words l (slotsL l a)).take i.1).foldl (fun g v => shd 1 g (insA b1 a) v) g2) ∧ Fr st2.n st' r3 (insA b1 a) ∧ Fr st3.n st' (some rs) (slotsL l a) ∧ (∀ j, i.2 = some j → r3 ≠ some j ∧ j ≠ rs)) (fun i => (slotsL l a).length - i.1) (0, r2)
      ⟨rfl, rfl, rfl, rfl, trivial⟩ ⟨rfl, rfl, rfl, rfl, rfl, rfl, trivial⟩ ⟨Nat.zero_le _, he4, hf2', hf3', hs4, fun j hj => ⟨fun e => by have := hf2.bd j hj; have := hf3.bd j e; omega, by have := hf2.bd j hj; omega⟩⟩ ?_
    rintro ⟨i, r5⟩ st5 ⟨hi, he5, hf5, hb5, hs5, hd5⟩
    dsimp only at *
    have hm5 : Mem l (((words l (slotsL l a)).take i).foldl (fun g v => shd 1 g (insA b1 a) v) g2) (insA b1 a) := hm2.fold _ fun v hv => heap_wb hp hab v (List.mem_of_mem_take hv)
    have hl5 := hm5.len
    have n5 := he5.n
    refine c_seq ?_
    refine crr (by kernel_rfl) rfl ?_   -- region 9
    refine c_if rfl (fun h43 => ?_) (fun h43 => ?_)
    · -- then
      have h43 := of_decide_eq_true h43
      have hsm : rd (slotsL l a) i ∈ slotsL l a := mem_rd (by omega)
      have hsin := slots_in hab hsm
      obtain ⟨an, han, _, _⟩ := blocks_mem hab
      refine c_skip ?_
      refine c_seq ?_
      refine c_block ?_
      refine cdv1 [3, 4] [0, 1, 2, 5, 6, 7, 8, 9, 10] [.q, .q, .q, .q, .q, .q, .q, .n, .n] (by kernel_rfl) (by kernel_rfl) ?_   -- region 11
      refine sr 5 rfl ?_
      refine s_op rfl (oidx rfl rfl rfl (by omega) (by omega) ?_)
      refine s_op rfl (old rfl rfl (hs5.at_.rd (by omega) (by omega)) ?_)
      refine s_op rfl (oidx rfl rfl rfl (by omega) (by omega) ?_)
      refine s_op rfl (old rfl rfl ((hx.ex he5).rd (by omega) (by omega)) ?_)
      have hlv := heap_lv hp hab hsm
      refine s_op rfl (o_call rfl (l8Shade_c st1.n 1 q (rd l (rd (slotsL l a) i)) r5 r3 _ (insA b1 a) _ (by have := hf5.bd; have := hrs.2; have := hs5.ob.2.1; omega) hf5 hb5.at_ (fun h4 => (hlv h4).num h4) (by omega) (by omega)) (fun j hj ht => absurd hj (by have := hf5.bd j ht; omega)) (.inl rfl) ?_)
      rintro v6 st6 ⟨r6, rfl, hf6, hr6⟩ e6
      have he6 : Ex st st6 := he5.trans e6 (fun j hj e => by have := hf5.bd j e; omega)
      have hs6 : Fr st3.n st6 (some rs) (slotsL l a) := hs5.ext e6 (fun j hj e => (hd5 j e).2 (by injection hj with hj; exact hj.symm))
      have hb6 : Fr st2.n st6 r3 (insA b1 a) := hb5.ext e6 (fun j hj e => (hd5 j e).1 hj)
      rw [← words_rd _ _ _ (by omega), ← foldl_rdf (fun g v => shd 1 g (insA b1 a) v) _ _ _ (by omega)] at hf6
      refine sra rfl ?_
      refine c_region (by kernel_rfl) ?_   -- region 10
      refine sr 1 rfl ?_
      refine s_op rfl (o_ar rfl rfl rfl (by omega) (by omega) ?_)
      refine sra rfl ⟨(i + 1, r6), ⟨rfl, rfl, rfl, rfl, trivial⟩, ⟨rfl, rfl, rfl, ?_, rfl, rfl, trivial⟩, ⟨by dsimp only; omega, he6, hf6, hb6, hs6, fun j hj => ?_⟩, by dsimp only; omega⟩
      · show some _ = some _
        rw [← words_rd _ _ _ (by omega), ← foldl_rdf (fun g v => shd 1 g (insA b1 a) v) _ _ _ (by omega)]
      · rcases hr6 j hj with h | h
        · exact hd5 j h
        · exact ⟨fun e => by have := hb5.bd j e; omega, fun e => by have := hs5.bd rs rfl; omega⟩
    · -- else
      have h43 := of_decide_eq_false h43
      have hie : (words l (slotsL l a)).take i = words l (slotsL l a) := List.take_of_length_le (by omega)
      rw [hie] at hf5 hm5
      rw [hie]
      refine c_exit ?_
      refine c_region (by kernel_rfl) ?_   -- region 3
      refine sr 1 rfl ?_
      refine s_op rfl (o_ar rfl rfl rfl (by omega) (by omega) ?_)
      refine sra rfl ⟨(k + 1, stpG l (insA b1 a) a g2, insA b1 a, r5, r3), ⟨rfl, rfl, trivial⟩, ⟨rfl, rfl, rfl, rfl, rfl, rfl, trivial⟩, ⟨by dsimp only; omega, he5, hm5, hf5.le (by omega), hb5.le (by omega), fun j hj => (hd5 j hj).1, ?_⟩, by dsimp only; omega⟩
      dsimp only
      rw [← hrun, show n.toNat - k = (n.toNat - (k + 1)) + 1 by omega]
      rfl
  · -- else
    have h19 : ¬ ((k : Int) < n ∧ g1 ≠ []) := fun h => by have := ht.2 h; rw [h19] at this; cases this
    have hend : runM l n.toNat (g, b) = (g1, b1) := by
      rw [← hrun]
      by_cases hg0 : g1 = []
      · rw [hg0, runM_nil]
      · have : n.toNat - k = 0 := by
          rcases Int.lt_or_le (k : Int) n with h | h
          · exact absurd ⟨h, hg0⟩ h19
          · omega
        rw [this]; rfl
    rw [hend]
    refine c_exit ?_
    refine c_sj (α := Unit) (fun _ => []) (fun _ => [(4, 4, [I (phL g1), .sl rg1 0 g1.length, .sl rb1 0 b1.length, I q]), (6, 6, [I 0, .sl none 0 0, .sl none 0 0, I 0])]) (fun _ st' => st1 = st') ?_ ?_
    · -- ways that meet
      refine crr (by kernel_rfl) rfl ?_   -- region 12
      refine c_if rfl (fun h59 => ?_) (fun h59 => ?_)
      · -- then
        have h59 := len0.2 (of_decide_eq_true h59)
        subst h59
        refine c_region (by kernel_rfl) ?_   -- region 13
        exact sra rfl ⟨(), trivial, ⟨rfl, rfl, rfl, rfl, trivial⟩, rfl⟩
      · -- else
        have h59 : g1 ≠ [] := fun e => (of_decide_eq_false h59) (len0.1 e)
        have : phL g1 = 1 := by unfold phL; rw [if_neg h59]
        rw [this]
        refine c_skip ?_
        exact ⟨(), trivial, ⟨rfl, rfl, rfl, rfl, trivial⟩, rfl⟩
    rintro _ st2 rfl
    refine crr (by kernel_rfl) rfl ?_   -- region 14
    exact c_ret (fr rfl ⟨rg1, rb1, rfl, hg1, hb1, hd1⟩)
/-- How a marker goes on. -/
noncomputable def msG (l : List Int) (p : Int) (g b : List Int) (q n : Int) : List Int := cond (bd (MkOk l p g b q ∧ p = 1)) (runM l n.toNat (g, b)).1 g
noncomputable def msB (l : List Int) (p : Int) (g b : List Int) (q n : Int) : List Int := cond (bd (MkOk l p g b q ∧ p = 1)) (runM l n.toNat (g, b)).2 b
noncomputable def msQ (l : List Int) (p : Int) (g b : List Int) (q n : Int) : Int := cond (bd (MkOk l p g b q ∧ p = 1)) (phL (runM l n.toNat (g, b)).1) p
theorem runM_mem {l : List Int} (hp : Heap l) : ∀ (n : Nat) (g b : List Int), Mem l g b → Mem l (runM l n (g, b)).1 (runM l n (g, b)).2
  | 0, g, b, h => h
  | n + 1, [], b, h => h
  | n + 1, a :: g, b, h => runM_mem hp n _ _ (h.step.fold _ (heap_wb hp (h.blk.1 a (List.mem_cons_self ..))))
theorem ms_len (l : List Int) (p : Int) (g b : List Int) (q n : Int) : (msG l p g b q n).length ≤ g.length + 2000 ∧ (msB l p g b q n).length ≤ b.length + 2000 := by
  unfold msG msB
  cases hc : bd (MkOk l p g b q ∧ p = 1) with
  | false => exact ⟨Nat.le_add_right .., Nat.le_add_right ..⟩
  | true =>
    have h := bdt.1 hc
    have hp : Heap l := by have h1 := h.1; rw [h.2] at h1; exact h1.heap
    have := (runM_mem hp n.toNat g b h.1.2.1).len
    show (runM l n.toNat (g, b)).1.length ≤ _ ∧ (runM l n.toNat (g, b)).2.length ≤ _
    omega
theorem MkOk.q0 {l : List Int} {g b : List Int} {q : Int} (h : MkOk l 1 g b q) : q = 0 := by
  rcases h.2.2 with h | h | h
  · exact h.2.2.1
  · exact h.2.2
  · have := h.1; omega
theorem MsP.le {n0 n1 : Nat} {p q : Int} {g b : List Int} {v : AV} {st' : St} (h : MsP n0 p g b q v st') (hn : n1 ≤ n0) : MsP n1 p g b q v st' := by
  obtain ⟨rg, rb, h1, h2, h3, h4⟩ := h
  exact ⟨rg, rb, h1, h2.le hn, h3.le hn, h4⟩
theorem MarkStep_c (p q n : Int) (r rg rb : Option Nat) (o : Nat) (l g b : List Int) (st : St) (hx : At st r o l) (hl : l.length ≤ 1048576) (hg : At st rg 0 g) (hb : At st rb 0 b) (hlg : g.length ≤ 536870912) (hlb : b.length ≤ 536870912) (hn : W1 n) :
    ACalls Tryz.prog 23 [.agg [.sl r o l.length], .agg [I p, .sl rg 0 g.length, .sl rb 0 b.length, I q], I n] st No (Mr st (msQ l p g b q n) (msG l p g b q n) (msB l p g b q n) q) := by
  refine ent (N := 23) Tryz.func23 rfl (by decide) rfl rfl rfl ?_
  refine crr (by kernel_rfl) rfl ?_   -- region 0
  refine c_seq ?_
  refine c_sj (α := Bool) (fun t => [(2, I n), (15, .bool t)]) (fun _ => [(3, 3, [.sl r o l.length]), (4, 4, [I p, .sl rg 0 g.length, .sl rb 0 b.length, I q]), (6, 6, [I 0, .sl none 0 0, .sl none 0 0, I 0])])
    (fun t st' => Ex st st' ∧ (t = true ↔ ¬ (MkOk l p g b q ∧ p = 1))) ?_ ?_
  · -- region 1
    refine c_region (by kernel_rfl) ?_
    refine sr 2 rfl ?_
    refine s_op rfl (o_ex loud_n rfl (MarkerOk_c p q r rg rb o l g b _ hx hl hg hb hlg hlb) ?_)
    rintro v1 st1 rfl e1
    refine sr 2 rfl ?_
    refine s_bool 11 rfl rfl (fun h11 => ?_) (fun h11 => ?_)
    · -- slot 11 true
      have h11 := nbt h11
      exact sra rfl ⟨true, ⟨rfl, rfl, trivial⟩, ⟨rfl, rfl, rfl, rfl, rfl, rfl, trivial⟩, e1, fun _ h => h11 h.1, fun _ => rfl⟩
    · -- slot 11 false
      have h11 := nbf h11
      refine sra rfl ⟨_, ⟨rfl, rfl, trivial⟩, ⟨rfl, rfl, rfl, rfl, rfl, rfl, trivial⟩, e1, ?_⟩
      show (!decide (p = 1)) = true ↔ _
      exact ⟨fun h hh => ndt h hh.2, fun h => (by rw [decide_eq_false (fun hc => h ⟨h11, hc⟩)]; rfl)⟩
  rintro t st1 ⟨e1, ht⟩
  refine c_if rfl (fun h15 => ?_) (fun h15 => ?_)
  · -- then
    have h15 := ht.1 h15
    have es : msQ l p g b q n = p ∧ msG l p g b q n = g ∧ msB l p g b q n = b := by unfold msQ msG msB; rw [bdf.2 h15]; exact ⟨rfl, rfl, rfl⟩
    rw [es.1, es.2.1, es.2.2]
    refine c_rs (by kernel_rfl) ?_   -- region 2
    refine sr 1 rfl ?_
    refine s_op rfl (o_ex loud_n rfl (l8Copy_c p q rg rb g b _ (hg.ex e1) (hb.ex e1) (by omega) (by omega)) ?_)
    rintro v2 st2 ⟨q1, q2, rfl, hf1, hf2, hd⟩ e2
    refine sra rfl ?_
    exact c_ret (fr rfl ⟨q1, q2, rfl, hf1.le e1.n, hf2.le e1.n, hd⟩)
  · -- else
    obtain ⟨hm, hp1⟩ : MkOk l p g b q ∧ p = 1 := Classical.byContradiction fun hc => by have := ht.2 hc; rw [h15] at this; cases this
    have es : msQ l p g b q n = phL (runM l n.toNat (g, b)).1 ∧ msG l p g b q n = (runM l n.toNat (g, b)).1 ∧ msB l p g b q n = (runM l n.toNat (g, b)).2 := by unfold msQ msG msB; rw [bdt.2 ⟨hm, hp1⟩]; exact ⟨rfl, rfl, rfl⟩
    rw [es.1, es.2.1, es.2.2]
    subst hp1
    refine c_skip ?_
    refine cds [0, 1, 3, 2, 4, 5] [.q, .q, .q, .f, .f, .n] (by kernel_rfl) (by kernel_rfl) ?_   -- region 3
    refine sr 3 rfl ?_
    refine s_op rfl (o_ex loud_f rfl (l8Copy_c 1 q rg rb g b _ (hg.ex e1) (hb.ex e1) (by omega) (by omega)) ?_)
    rintro v2 st2 ⟨q1, q2, rfl, hf1, hf2, hd⟩ e2
    have n1 := e1.n
    have n2 := e2.n
    refine s_op rfl (o_ex loud_f rfl (l8Step_c st.n q n r q1 q2 o l g b _ ((hx.ex e1).ex e2) hm.heap hm.2.1 (by omega) (hf1.le n1) (hf2.le n1) hd hn) ?_)
    rintro v3 st3 ⟨q3, q4, rfl, hf3, hf4, hd3⟩ e3
    refine sra rfl ?_
    exact c_ret (fr rfl ⟨q3, q4, rfl, hf3, hf4, hd3⟩)
theorem markStep_c (q n : Int) (r rg rb : Option Nat) (o : Nat) (l g b : List Int) (st : St) (hx : At st r o l) (hp : Heap l) (hm : Mem l g b) (hq0 : q = 0) (hg : At st rg 0 g) (hb : At st rb 0 b) (hn : W1 n) :
    ACalls Tryz.prog 89 [.agg [.sl r o l.length], .agg [I 1, .sl rg 0 g.length, .sl rb 0 b.length, I q], I n] st No (MsP st.n (phL (runM l n.toNat (g, b)).1) (runM l n.toNat (g, b)).1 (runM l n.toNat (g, b)).2 q) := by
  have hok := hp.1
  have hlen := okB_len hok
  have hl0 := hm.len
  unfold W1 at hn
  refine ent (N := 62) Tryz.func89 rfl (by decide) rfl rfl rfl ?_
  refine crr (by kernel_rfl) rfl ?_   -- region 0
  refine c_rs (by kernel_rfl) ?_   -- region 1
  refine sr 1 rfl ?_
  refine s_op rfl (o_ex loud_n rfl (copyMarker_c 1 q rg rb g b _ hg hb (by omega) (by omega)) ?_)
  rintro v1 st1 ⟨q1, q2, rfl, hf1, hf2, hd⟩ e1
  have n1 := e1.n
  refine s_op rfl (oallocP loud_n rfl fun bb st2 hbe n2 ob2 e2 => ?_)
  refine s_op rfl (ostP rfl rfl (by omega) (fun h => absurd h (by omega)) ob2 rfl rfl rfl (by simp) fun st3 n3 ob3 e3 => ?_)
  refine s_end ?_
  have hb1 := hf1.bd
  have hb2 := hf2.bd
  have he3 : Ext (fun i => st.n ≤ i) st st3 := (e1.tr e2).over.over e3 (fun i e => by omega)
  have hm3 : MkS st.n bb 1 q q1 q2 g b st3 := ⟨⟨by omega, by omega, ob3⟩, (hf1.ex e2).ext e3 (fun i h e => by have := hb1 i h; omega), (hf2.ex e2).ext e3 (fun i h e => by have := hb2 i h; omega), hd⟩
  refine c_rs (by kernel_rfl) ?_   -- region 2
  refine sr 1 rfl ?_
  refine s_op rfl (o_ex loud_n rfl (kinds_c _ _ _ _ (hx.over he3) hlen) ?_)
  rintro v4 st4 ⟨kr, rfl, hk4⟩ e4
  refine sra rfl ?_
  have hkb := hk4.bd kr rfl
  have n4 := e4.n
  refine c_seq ?_
  refine crr (by kernel_rfl) rfl ?_   -- region 3
  refine c_block ?_
  refine c_lp (α := Nat × List Int × List Int × Option Nat × Option Nat) (fun i => [(2, I n), (7, .ptr (some bb) 0), (8, .sl (some kr) 0 (kindsL l).length), (9, I i.1)]) (fun _ => [(3, 3, [.sl r o l.length]), (6, 6, [I 0, .sl none 0 0, .sl none 0 0, I 0])])
    (fun i st' => i.1 ≤ n.toNat ∧ Ext (fun i => st.n ≤ i) st st' ∧ st4.n ≤ st'.n ∧ Mem l i.2.1 i.2.2.1 ∧ MkS st.n bb 1 q i.2.2.2.1 i.2.2.2.2 i.2.1 i.2.2.1 st' ∧ Fr st3.n st' (some kr) (kindsL l) ∧ (i.2.2.2.1 ≠ some kr ∧ i.2.2.2.2 ≠ some kr) ∧ runM l (n.toNat - i.1) (i.2.1, i.2.2.1) = runM l n.toNat (g, b)) (fun i => n.toNat - i.1) (0, g, b, q1, q2)
    ⟨rfl, rfl, rfl, rfl, trivial⟩ ⟨rfl, rfl, rfl, rfl, trivial⟩ ⟨Nat.zero_le _, he3.over e4 (fun i h => h.elim), Nat.le_refl _, hm, hm3.ex e4, hk4, ⟨fun e => by have := hb1 kr e; omega, fun e => by have := hb2 kr e; omega⟩, rfl⟩ ?_
  rintro ⟨k, g1, b1, rg1, rb1⟩ st5 ⟨hk, he, hn5, hm1, hM, hK, hkk, hrun⟩
  dsimp only at *
  have hl1 := hm1.len
  obtain ⟨ap1, ap2⟩ := hM.apart
  have hMb := hM.hb
  have c1 : cell st5 (some bb) 1 = some (.sl rg1 0 g1.length) := by rw [cell_row hMb.2.1 hMb.2.2]; rfl
  refine c_seq ?_
  refine c_sj (α := Bool) (fun t => [(2, I n), (7, .ptr (some bb) 0), (8, .sl (some kr) 0 (kindsL l).length), (9, I k), (25, .bool t)]) (fun _ => [(3, 3, [.sl r o l.length]), (6, 6, [I 0, .sl none 0 0, .sl none 0 0, I 0])])
    (fun t st' => st5 = st' ∧ (t = true ↔ (k : Int) < n ∧ g1 ≠ [])) ?_ ?_
  · -- region 4
    refine c_region (by kernel_rfl) ?_
    refine sr 4 rfl ?_
    refine s_bool 20 rfl rfl (fun h20 => ?_) (fun h20 => ?_)
    · -- slot 20 true
      have h20 := of_decide_eq_true h20
      refine sr 1 rfl ?_
      refine s_op rfl (old rfl rfl c1 ?_)
      refine sra rfl ⟨_, ⟨rfl, rfl, rfl, rfl, rfl, trivial⟩, ⟨rfl, rfl, rfl, rfl, trivial⟩, rfl, ?_⟩
      show decide (((g1.length : Nat) : Int) > 0) = true ↔ _
      rw [decide_eq_true_eq]
      exact ⟨fun h => ⟨h20, fun e => by rw [e] at h; simp at h⟩, fun h => by
        rcases Nat.eq_zero_or_pos g1.length with h0 | h0
        · exact absurd (List.eq_nil_of_length_eq_zero h0) h.2
        · omega⟩
    · -- slot 20 false
      have h20 := of_decide_eq_false h20
      exact sra rfl ⟨false, ⟨rfl, rfl, rfl, rfl, rfl, trivial⟩, ⟨rfl, rfl, rfl, rfl, trivial⟩, rfl, fun h => (by cases h), fun h => absurd h.1 h20⟩
  rintro t st6 ⟨rfl, ht⟩
  refine c_if rfl (fun h25 => ?_) (fun h25 => ?_)
  · -- then
    obtain ⟨hkn, hne⟩ := ht.1 h25
    obtain ⟨a, g2, rfl⟩ : ∃ a g2, g1 = a :: g2 := by
      cases g1 with
      | nil => exact absurd rfl hne
      | cons a g2 => exact ⟨a, g2, rfl⟩
    have hab : a ∈ blocks l := hm1.blk.1 a (List.mem_cons_self ..)
    have hm2 := hm1.step
    simp only [List.length_cons] at hl1
    have hrda : rd (a :: g2) 0 = a := rfl
    obtain ⟨ig, rfl⟩ := hM.hg.some_of (by simp)
    have hgb := hM.hg.bd ig rfl
    have hig := ap1 ig rfl
    refine c_skip ?_
    refine c_seq ?_
    refine c_block ?_
    refine c_rs (by kernel_rfl) ?_   -- region 6
    refine sr 1 rfl ?_
    refine s_op rfl (old rfl rfl c1 ?_)
    refine s_op rfl (oidx rfl rfl rfl (by omega) (by simp) ?_)
    refine s_op rfl (old rfl rfl (hM.hg.at_.rd (by omega) (by simp)) ?_)
    rw [hrda]
    refine sra rfl ?_
    refine c_rs (by kernel_rfl) ?_   -- region 7
    refine sr 1 rfl ?_
    refine s_op rfl (old rfl rfl c1 ?_)
    refine s_op rfl (orecut rfl rfl rfl rfl (by omega) (by simp; omega) (Int.le_refl _) (Nat.le_refl _) hM.hg (by omega) (fun h => absurd h (by omega)) fun r7 st7 hf7 hr7 e7 => ?_)
    have e2l : ((a :: g2).drop (1 : Int).toNat).take ((((a :: g2).length : Nat) : Int).toNat - (1 : Int).toNat) = g2 := by simp
    rw [e2l] at hf7 ⊢
    have n7 := e7.n
    have ob7 : st7.ob bb = .row true [I 1, .sl (some ig) 0 (a :: g2).length, .sl rb1 0 b1.length, I q] := by rw [e7.ob bb hMb.2.1 (fun e => hig e.symm)]; exact hMb.2.2
    have hbl7 : Fr st.n st7 rb1 b1 := hM.hbl.ext e7 (fun i hi e => by subst e; exact hM.d _ rfl hi)
    have hK7 : Fr st3.n st7 (some kr) (kindsL l) := hK.ext e7 (fun i hi e => by subst e; exact hkk.1 hi.symm)
    have he7 := he.over e7 (fun i e => by omega)
    refine sr 1 rfl ?_
    refine s_op rfl (ostP rfl rfl (by omega) (fun h => absurd h (by omega)) ob7 rfl rfl rfl (by simp) fun st8 n8 ob8 e8 => ?_)
    refine s_end ?_
    have he8 := he7.over e8 (fun i e => by omega)
    have hr7b := hf7.bd r7 rfl
    have hM8 : MkS st.n bb 1 q (some r7) rb1 g2 b1 st8 := ⟨⟨hMb.1, by omega, ob8⟩, hf7.ext e8 (fun i hi e => by injection hi with hi; omega), hbl7.ext e8 (fun i hi e => ap2 i hi e), fun i hi hi' => by
      injection hi with hi
      have := hM.hbl.bd i hi'
      omega⟩
    have hkb5 := hK.bd kr rfl
    have hK8 : Fr st3.n st8 (some kr) (kindsL l) := hK7.ext e8 (fun i hi e => by injection hi with hi; omega)
    refine c_rs (by kernel_rfl) ?_   -- region 8
    refine sr 1 rfl ?_
    have T8 : ∀ j, (j = bb ∨ rb1 = some j) → st.n ≤ j := fun j hj => by
      rcases hj with rfl | hj
      · omega
      · exact (hM.hbl.bd j hj).1
    refine s_op rfl (o_call rfl (blacken_c st.n bb 1 q a (some r7) rb1 g2 b1 _ hM8 (by omega) hm1.srt (by omega)) (fun j hj ht => absurd hj (by have := T8 j ht; omega)) (.inl rfl) ?_)
    rintro v9 st9 ⟨rfl, rb9, hM9, hr9⟩ e9
    have n9 := e9.n
    have he9 := he8.over e9 T8
    have hK9 : Fr st3.n st9 (some kr) (kindsL l) := hK8.ext e9 (fun j hj ht => by
      injection hj with hj
      rcases ht with ht | ht
      · omega
      · exact hkk.2 (hj ▸ ht))
    have hk9 : rb9 ≠ some kr := fun e => by
      rcases hr9 kr e with h | h
      · exact hkk.2 h
      · omega
    refine s_end ?_
    refine c_rs (by kernel_rfl) ?_   -- region 9
    refine sr 2 rfl ?_
    refine s_op rfl (o_ex loud_n rfl (slots_c _ _ _ _ _ (hx.over he9) hab) ?_)
    rintro v10 st10 ⟨rs, rfl, hs10⟩ e10
    refine sra rfl ?_
    have n10 := e10.n
    have he10 := he9.over e10 (fun i h => h.elim)
    have hsl := slots_len hab
    have hwl := words_len l (slotsL l a)
    refine c_block ?_
    refine c_lp (α := Nat × Option Nat) (fun i => [(2, I n), (7, .ptr (some bb) 0), (8, .sl (some kr) 0 (kindsL l).length), (9, I k), (40, .sl rs 0 (slotsL l a).length), (41, I (slotsL l a).length), (42, I i.1)]) (fun _ => [(3, 3, [.sl r o l.length]), (6, 6, [I 0, .sl none 0 0, .sl none 0 0, I 0])])
      (fun i st' => i.1 ≤ (slotsL l a).length ∧ Ext (fun i => st.n ≤ i) st st' ∧ st10.n ≤ st'.n ∧ MkS st.n bb 1 q i.2 rb9 (((words l (slotsL l a)).take i.1).foldl (fun g v => shd 1 g (insA b1 a) v) g2) (insA b1 a) st' ∧ Fr st3.n st' (some kr) (kindsL l) ∧ Fr st9.n st' rs (slotsL l a) ∧ (∀ j, i.2 = some j → j ≠ kr ∧ rs ≠ some j)) (fun i => (slotsL l a).length - i.1) (0, some r7)
      ⟨rfl, rfl, rfl, rfl, rfl, rfl, rfl, trivial⟩ ⟨rfl, rfl, rfl, rfl, trivial⟩ ⟨Nat.zero_le _, he10, Nat.le_refl _, hM9.ex e10, hK9.ex e10, hs10, fun j hj => by
        injection hj with hj
        subst hj
        refine ⟨by omega, fun e => ?_⟩
        have := hs10.bd _ e
        omega⟩ ?_
    rintro ⟨i, r11⟩ st11 ⟨hi, he11, hn11, hM11, hK11, hs11, hd11⟩
    dsimp only at *
    have hm5 : Mem l (((words l (slotsL l a)).take i).foldl (fun g v => shd 1 g (insA b1 a) v) g2) (insA b1 a) := hm2.fold _ fun v hv => heap_wb hp hab v (List.mem_of_mem_take hv)
    have hl5 := hm5.len
    refine crr (by kernel_rfl) rfl ?_   -- region 10
    refine c_seq ?_
    refine c_if rfl (fun h43 => ?_) (fun h43 => ?_)
    · -- then
      have h43 := of_decide_eq_true h43
      have hsm : rd (slotsL l a) i ∈ slotsL l a := mem_rd (by omega)
      have hsin := slots_in hab hsm
      obtain ⟨an, han, _, _⟩ := blocks_mem hab
      refine c_skip ?_
      refine c_seq ?_
      refine c_block ?_
      refine c_rs (by kernel_rfl) ?_   -- region 11
      refine s_op rfl (oidx rfl rfl rfl (by omega) (by omega) ?_)
      refine s_op rfl (old rfl rfl (hs11.at_.rd (by omega) (by omega)) ?_)
      refine sra rfl ?_
      refine c_region (by kernel_rfl) ?_   -- region 12
      refine sr 4 rfl ?_
      refine s_op rfl (oidx rfl rfl rfl (by omega) (by omega) ?_)
      refine s_op rfl (old rfl rfl ((hx.over he11).rd (by omega) (by omega)) ?_)
      have hlv := heap_lv hp hab hsm
      have T11 : ∀ j, (j = bb ∨ r11 = some j) → st.n ≤ j := fun j hj => by
        rcases hj with rfl | hj
        · omega
        · exact (hM11.hg.bd j hj).1
      refine s_op rfl (o_call rfl (shade_c st.n bb 1 q (rd l (rd (slotsL l a) i)) _ r11 rb9 0 _ l _ (insA b1 a) _ hK11.at_ hlen (kindsL_len l) hM11 he11.n (by omega) (by omega)) (fun j hj ht => absurd hj (by have := T11 j ht; omega)) (.inl rfl) ?_)
      rintro v12 st12 ⟨rfl, r12, hM12, hr12⟩ e12
      have n12 := e12.n
      have he12 := he11.over e12 T11
      have hkb11 := hK11.bd kr rfl
      have hK12 : Fr st3.n st12 (some kr) (kindsL l) := hK11.ext e12 (fun j hj ht => by
        injection hj with hj
        rcases ht with ht | ht
        · omega
        · exact (hd11 j ht).1 hj.symm)
      have hs12 : Fr st9.n st12 rs (slotsL l a) := hs11.ext e12 (fun j hj ht => by
        rcases ht with ht | ht
        · have := hs11.bd j hj; omega
        · exact (hd11 j ht).2 hj)
      rw [shd_ld hlv, ← words_rd _ _ _ (by omega), ← foldl_rdf (fun g v => shd 1 g (insA b1 a) v) _ _ _ (by omega)] at hM12
      refine s_end ?_
      refine c_region (by kernel_rfl) ?_   -- region 13
      refine s_op rfl (o_ar rfl rfl rfl (by omega) (by omega) ?_)
      refine sra rfl ⟨(i + 1, r12), ⟨rfl, rfl, rfl, rfl, rfl, rfl, rfl, trivial⟩, ⟨rfl, rfl, rfl, rfl, trivial⟩, ⟨by dsimp only; omega, he12, by omega, hM12, hK12, hs12, fun j hj => ?_⟩, by dsimp only; omega⟩
      rcases hr12 j hj with h | h
      · exact hd11 j h
      · exact ⟨by omega, fun e => by have := hs11.bd j e; omega⟩
    · -- else
      have h43 := of_decide_eq_false h43
      have hie : (words l (slotsL l a)).take i = words l (slotsL l a) := List.take_of_length_le (by omega)
      rw [hie] at hM11 hm5
      refine c_exit ?_
      refine c_region (by kernel_rfl) ?_   -- region 5
      refine sr 1 rfl ?_
      refine s_op rfl (o_ar rfl rfl rfl (by omega) (by omega) ?_)
      refine sra rfl ⟨(k + 1, stpG l (insA b1 a) a g2, insA b1 a, r11, rb9), ⟨rfl, rfl, rfl, rfl, trivial⟩, ⟨rfl, rfl, rfl, rfl, trivial⟩, ⟨by dsimp only; omega, he11, by omega, hm5, hM11, hK11, ⟨fun e => (hd11 kr e).1 rfl, hk9⟩, ?_⟩, by dsimp only; omega⟩
      dsimp only
      rw [← hrun, show n.toNat - k = (n.toNat - (k + 1)) + 1 by omega]
      rfl
  · -- else
    have h25 : ¬ ((k : Int) < n ∧ g1 ≠ []) := fun h => by have := ht.2 h; rw [h25] at this; cases this
    have hend : runM l n.toNat (g, b) = (g1, b1) := by
      rw [← hrun]
      by_cases hg0 : g1 = []
      · rw [hg0, runM_nil]
      · have : n.toNat - k = 0 := by
          rcases Int.lt_or_le (k : Int) n with h | h
          · exact absurd ⟨h, hg0⟩ h25
          · omega
        rw [this]; rfl
    rw [hend]
    refine c_exit ?_
    refine c_sj (α := Option Nat) (fun _ => [(7, .ptr (some bb) 0)]) (fun _ => [(6, 6, [I 0, .sl none 0 0, .sl none 0 0, I 0])]) (fun i st' => MkS st.n bb (phL g1) q i rb1 g1 b1 st') ?_ ?_
    · -- ways that meet
      refine c_rs (by kernel_rfl) ?_   -- region 14
      refine sr 1 rfl ?_
      refine s_op rfl (old rfl rfl c1 ?_)
      refine sra rfl ?_
      refine c_if rfl (fun h57 => ?_) (fun h57 => ?_)
      · -- then
        have h57 := len0.2 (of_decide_eq_true h57)
        subst h57
        refine c_region (by kernel_rfl) ?_   -- region 15
        refine sr 1 rfl ?_
        refine s_op rfl (ostP rfl rfl hMb.2.1 (fun h => absurd h (by omega)) hMb.2.2 rfl rfl rfl (by simp) fun st6 n6 ob6 e6 => ?_)
        refine sr 1 rfl ?_
        refine s_op rfl (ostP rfl rfl (by omega) (fun h => absurd h (by omega)) ob6 rfl rfl rfl (by simp) fun st7 n7 ob7 e7 => ?_)
        refine sr 1 rfl ?_
        refine s_op rfl (ostP rfl rfl (by omega) (fun h => absurd h (by omega)) ob7 rfl rfl rfl (by simp) fun st8 n8 ob8 e8 => ?_)
        refine s_end ?_
        have hbl8 : Fr st.n st8 rb1 b1 := ((hM.hbl.ext e6 (fun i hi e => ap2 i hi e)).ext e7 (fun i hi e => ap2 i hi e)).ext e8 (fun i hi e => ap2 i hi e)
        refine ⟨none, ⟨rfl, trivial⟩, ⟨rfl, rfl, trivial⟩, ⟨⟨hMb.1, by omega, ?_⟩, fr_nil _ _, hbl8, fun i h => (by cases h)⟩⟩
        rw [ob8, hq0]
        rfl
      · -- else
        have h57 : g1 ≠ [] := fun e => (of_decide_eq_false h57) (len0.1 e)
        have : phL g1 = 1 := by unfold phL; rw [if_neg h57]
        rw [this]
        refine c_skip ?_
        exact ⟨rg1, ⟨rfl, trivial⟩, ⟨rfl, rfl, trivial⟩, hM⟩
    rintro i st6 hM6
    obtain ⟨⟨x1, x2, x3⟩, hg', hbl', d'⟩ := hM6
    refine c_rs (by kernel_rfl) ?_   -- region 16
    refine s_op rfl (oldS rfl rfl rfl x2 x3 rfl ?_)
    refine sra rfl ?_
    exact c_ret (fr rfl ⟨i, rb1, rfl, hg', hbl', d'⟩)
theorem iMarkStep_c (p q n : Int) (r rg rb : Option Nat) (o : Nat) (l g b : List Int) (st : St) (hx : At st r o l) (hl : l.length ≤ 1048576) (hg : At st rg 0 g) (hb : At st rb 0 b) (hlg : g.length ≤ 536870912) (hlb : b.length ≤ 536870912) (hq : W1 q) (hn : W1 n) :
    ACalls Tryz.prog 22 [.agg [.sl r o l.length], .agg [I p, .sl rg 0 g.length, .sl rb 0 b.length, I q], I n] st No (Mr st (msQ l p g b q n) (msG l p g b q n) (msB l p g b q n) q) := by
  refine ent (N := 22) Tryz.func22 rfl (by decide) rfl rfl rfl ?_
  refine crr (by kernel_rfl) rfl ?_   -- region 0
  refine c_seq ?_
  refine c_sj (α := Bool) (fun t => [(2, I n), (15, .bool t)]) (fun _ => [(3, 3, [.sl r o l.length]), (4, 4, [I p, .sl rg 0 g.length, .sl rb 0 b.length, I q]), (6, 6, [I 0, .sl none 0 0, .sl none 0 0, I 0])])
    (fun t st' => Ex st st' ∧ (t = true ↔ ¬ (MkOk l p g b q ∧ p = 1))) ?_ ?_
  · -- region 1
    refine c_region (by kernel_rfl) ?_
    refine sr 4 rfl ?_
    refine s_bool 10 rfl rfl (fun h10 => ?_) (fun h10 => ?_)
    · -- slot 10 true
      have h10 := ndt h10
      exact sra rfl ⟨true, ⟨rfl, rfl, trivial⟩, ⟨rfl, rfl, rfl, rfl, rfl, rfl, trivial⟩, Ext.refl _ _, fun _ h => h10 h.2, fun _ => rfl⟩
    · -- slot 10 false
      have h10 := ndf h10
      refine sr 2 rfl ?_
      refine s_op rfl (o_ex loud_n rfl (iMarkerOk_c p q r rg rb o l g b _ hx hl hg hb hlg hlb hq) ?_)
      rintro v1 st1 rfl e1
      refine sra rfl ⟨_, ⟨rfl, rfl, trivial⟩, ⟨rfl, rfl, rfl, rfl, rfl, rfl, trivial⟩, e1, ?_⟩
      show (!bd (MkOk l p g b q)) = true ↔ _
      exact ⟨fun h hh => nbt h hh.1, fun h => (by rw [bdf.2 (fun hc => h ⟨hc, h10⟩)]; rfl)⟩
  rintro t st1 ⟨e1, ht⟩
  refine c_if rfl (fun h15 => ?_) (fun h15 => ?_)
  · -- then
    have h15 := ht.1 h15
    have es : msQ l p g b q n = p ∧ msG l p g b q n = g ∧ msB l p g b q n = b := by unfold msQ msG msB; rw [bdf.2 h15]; exact ⟨rfl, rfl, rfl⟩
    rw [es.1, es.2.1, es.2.2]
    refine c_rs (by kernel_rfl) ?_   -- region 2
    refine sr 1 rfl ?_
    refine s_op rfl (o_ex loud_n rfl (copyMarker_c p q rg rb g b _ (hg.ex e1) (hb.ex e1) (by omega) (by omega)) ?_)
    rintro v2 st2 ⟨q1, q2, rfl, hf1, hf2, hd⟩ e2
    refine sra rfl ?_
    exact c_ret (fr rfl ⟨q1, q2, rfl, hf1.le e1.n, hf2.le e1.n, hd⟩)
  · -- else
    obtain ⟨hm, hp1⟩ : MkOk l p g b q ∧ p = 1 := Classical.byContradiction fun hc => by have := ht.2 hc; rw [h15] at this; cases this
    have es : msQ l p g b q n = phL (runM l n.toNat (g, b)).1 ∧ msG l p g b q n = (runM l n.toNat (g, b)).1 ∧ msB l p g b q n = (runM l n.toNat (g, b)).2 := by unfold msQ msG msB; rw [bdt.2 ⟨hm, hp1⟩]; exact ⟨rfl, rfl, rfl⟩
    rw [es.1, es.2.1, es.2.2]
    subst hp1
    refine c_skip ?_
    refine c_rs (by kernel_rfl) ?_   -- region 3
    refine sr 3 rfl ?_
    refine s_op rfl (o_ex loud_n rfl (markStep_c q n r rg rb o l g b _ (hx.ex e1) hm.heap hm.2.1 hm.q0 (hg.ex e1) (hb.ex e1) hn) ?_)
    rintro v3 st3 ⟨q3, q4, rfl, hf3, hf4, hd3⟩ e3
    refine sra rfl ?_
    exact c_ret (fr rfl ⟨q3, q4, rfl, hf3.le e1.n, hf4.le e1.n, hd3⟩)
end Go.Proofs.YtfhkjhnaihhdmaaGreatW.Ax
