/- Whether a marker is right, by the reference: walked. -/
import Derived.Test.YtmphklmhhcmbnaaZm
namespace Go.Proofs.YtmphklmhhcmbnaaW.Ax
open Go Go.RowKit Go.Proofs Go.Proofs.Ytmphklmhhcmbnaa.Pure
set_option linter.unusedVariables false
set_option maxRecDepth 100000

theorem l8Places_c (r rr : Option Nat) (o : Nat) (l xs : List Int) (st : St) (hx : At st r o l) (hok : okB l = true) (hy : At st rr 0 xs) (hl : xs.length ≤ 1073741824) : ACalls Try.prog 56 [.agg [.sl r o l.length], .sl rr 0 xs.length] st No (Pure1 (.bool (bd (Ord l xs))) st) := by
  have hlen := okB_len hok
  refine ent (N := 41) Try.func56 rfl (by decide) rfl rfl rfl ?_
  refine crr (by kernel_rfl) rfl ?_   -- region 0
  refine c_seq ?_
  refine crr (by kernel_rfl) rfl ?_   -- region 1
  refine c_block ?_
  refine c_lp (α := Nat) (fun i => [(1, .sl rr 0 xs.length), (5, I i)]) (fun _ => [(2, 2, [.sl r o l.length])]) (fun i st' => st = st' ∧ i ≤ xs.length ∧ Ord l (xs.take i)) (fun i => xs.length - i) 0 ⟨rfl, rfl, trivial⟩ ⟨rfl, rfl, trivial⟩ ⟨rfl, Nat.zero_le _, ord_nil l⟩ ?_
  rintro i st1 ⟨rfl, hi, hord⟩
  refine c_seq ?_
  refine crr (by kernel_rfl) rfl ?_   -- region 2
  refine c_if rfl (fun h9 => ?_) (fun h9 => ?_)
  · -- then
    have h9 := of_decide_eq_true h9
    refine c_skip ?_
    refine c_seq ?_
    refine c_block ?_
    have hxe : rd xs (i : Int) = rd xs i := rfl
    refine c_sj (α := Bool) (fun t => [(1, .sl rr 0 xs.length), (5, I i), (40, .bool t)]) (fun _ => [(2, 2, [.sl r o l.length])])
      (fun t st' => st = st' ∧ (t = true ↔ ¬ ((rd xs i ∈ blocks l ∧ kindOf l (rd xs i).toNat ≠ 0) ∧ rd xs i ∉ xs.take i))) ?_ ?_
    · -- region 4
      refine cd1 [0, 1, 2, 3, 4, 5, 6, 7, 8, 9, 10, 11, 12, 13, 14, 15, 16, 17, 18, 19, 20, 21, 22, 23, 24, 25, 26, 27, 28] [.q, .q, .q, .q, .q, .f, .q, .q, .q, .q, .q, .q, .q, .q, .q, .q, .f, .q, .q, .q, .q, .q, .q, .q, .q, .q, .q, .f, .q] (by kernel_rfl) (by kernel_rfl) ?_
      have ht3 : (xs.take i).length = i := by simp; omega
      have rest : ∀ (b : Bool), True := fun _ => trivial
      refine sr 3 rfl ?_
      refine s_op rfl (oidx rfl rfl rfl (by omega) (by omega) ?_)
      refine s_op rfl (old rfl rfl (hy.rd (by omega) (by omega)) ?_)
      refine s_op rfl (o_pure loud_f rfl (l2Is_c _ _ _ _ _ hx hok) ?_)
      refine sr 2 rfl ?_
      refine s_bool 19 rfl rfl (fun h19 => ?_) (fun h19 => ?_)
      · -- slot 19 true
        have h19 := ndt h19
        refine sr 12 rfl ?_
        refine s_bool 31 rfl rfl (fun h31 => ?_) (fun h31 => by cases h31)
        exact sra rfl ⟨true, ⟨rfl, rfl, rfl, trivial⟩, ⟨rfl, rfl, trivial⟩, rfl, fun _ h => h19 h.1.1, fun _ => rfl⟩
      · -- slot 19 false
        have h19 := ndf h19
        obtain ⟨m, hm1, hm2, _⟩ := blocks_mem h19
        refine sr 4 rfl ?_
        refine s_op rfl (oidx rfl rfl rfl (by omega) (by omega) ?_)
        refine s_op rfl (old rfl rfl (hy.rd (by omega) (by omega)) ?_)
        refine s_op rfl (oidx rfl rfl rfl (by omega) (by omega) ?_)
        refine s_op rfl (old rfl rfl (hx.rd (by omega) (by omega)) ?_)
        refine s_op rfl (o_pure loud_f rfl (l2Kind_c ..) ?_)
        refine sr 3 rfl ?_
        refine s_bool 31 rfl rfl (fun h31 => ?_) (fun h31 => ?_)
        · -- slot 31 true
          have h31 := of_decide_eq_true h31
          exact sra rfl ⟨true, ⟨rfl, rfl, rfl, trivial⟩, ⟨rfl, rfl, trivial⟩, rfl, fun _ h => h.1.2 h31, fun _ => rfl⟩
        · -- slot 31 false
          have h31 := of_decide_eq_false h31
          refine sr 2 rfl ?_
          refine s_op rfl (oslE (o' := 0) (n' := (xs.take i).length) rfl rfl rfl rfl (Int.le_refl _) (by omega) (by omega) (by cases rr <;> rfl) (by omega) ?_)
          refine sr 2 rfl ?_
          refine s_op rfl (oidx rfl rfl rfl (by omega) (by omega) ?_)
          refine s_op rfl (old rfl rfl (hy.rd (by omega) (by omega)) ?_)
          have hcut : At st rr 0 (xs.take i) := by have := hy.cut 0 i (by omega) (by omega); simpa using this
          refine s_op rfl (o_pure loud_f rfl (l7In_c (hx := hcut) (hl := by omega) ..) ?_)
          refine sra rfl ⟨_, ⟨rfl, rfl, rfl, trivial⟩, ⟨rfl, rfl, trivial⟩, rfl, ?_⟩
          show bd (rd xs i ∈ xs.take i) = true ↔ _
          rw [bdt]
          exact ⟨fun h hh => hh.2 h, fun h => Classical.byContradiction fun hc => h ⟨⟨h19, h31⟩, hc⟩⟩
    rintro t st1 ⟨rfl, ht⟩
    refine c_if rfl (fun h40 => ?_) (fun h40 => ?_)
    · -- then
      have h40 := ht.1 h40
      refine crr (by kernel_rfl) rfl ?_   -- region 5
      refine c_ret (fr rfl ⟨?_, rfl⟩)
      rw [bdf.2 (fun h : Ord l xs => h40 (ord_not (by omega) h))]
    · -- else
      have h40 : (rd xs i ∈ blocks l ∧ kindOf l (rd xs i).toNat ≠ 0) ∧ rd xs i ∉ xs.take i := Classical.byContradiction fun hc => by have := ht.2 hc; rw [h40] at this; cases this
      refine c_skip ?_
      refine c_region (by kernel_rfl) ?_   -- region 3
      refine sr 1 rfl ?_
      refine s_op rfl (o_ar rfl rfl rfl (by omega) (by omega) ?_)
      exact sra rfl ⟨i + 1, ⟨rfl, rfl, trivial⟩, ⟨rfl, rfl, trivial⟩, ⟨rfl, by omega, ord_step (by omega) hord h40.1 h40.2⟩, by omega⟩
  · -- else
    have h9 := of_decide_eq_false h9
    have hie : xs.take i = xs := List.take_of_length_le (by omega)
    rw [hie] at hord
    refine c_exit ?_
    refine crr (by kernel_rfl) rfl ?_   -- region 6
    refine c_ret (fr rfl ⟨?_, rfl⟩)
    rw [bdt.2 hord]
theorem blk_vb {l : List Int} {v : Int} (h : Vb l v) : 0 ≤ blk v ↔ 4 ≤ v % 8 := by
  unfold blk
  constructor
  · intro h'; split at h' <;> omega
  · intro h4
    rw [if_neg (by omega)]
    obtain ⟨m, hm, _⟩ := blocks_mem (h h4).1
    omega
theorem blk_pl {v : Int} (h : 4 ≤ v % 8) : blk v = v / 8 := by unfold blk; rw [if_neg (by omega)]
theorem l8Swept_c (p q : Int) (r rg rb : Option Nat) (o : Nat) (l g b : List Int) (st : St) (hx : At st r o l) (hok : okB l = true) (hb : At st rb 0 b) (hbb : ∀ a ∈ b, a ∈ blocks l) (hlg : g.length ≤ 1073741824) (hlb : b.length ≤ 1073741824) :
    ACalls Try.prog 58 [.agg [.sl r o l.length], .agg [I p, .sl rg 0 g.length, .sl rb 0 b.length, I q]] st No (Pv (.bool (bd (Swp l g b q)))) := by
  have hlen := okB_len hok
  have hw0 := (blocks_of hok).2
  have hgl : g = [] ↔ ¬ (0 : Int) < g.length := by
    constructor
    · rintro rfl; simp
    · intro h; exact List.eq_nil_of_length_eq_zero (by omega)
  refine ent (N := 101) Try.func58 rfl (by decide) rfl rfl rfl ?_
  refine crr (by kernel_rfl) rfl ?_   -- region 0
  refine c_seq ?_
  refine c_sj (α := Bool) (fun t => [(28, .bool t)]) (fun _ => [(2, 2, [.sl r o l.length]), (3, 3, [I p, .sl rg 0 g.length, .sl rb 0 b.length, I q])])
    (fun t st' => st = st' ∧ (t = true ↔ ¬ (g = [] ∧ (q = l.length ∨ q ∈ blocks l)))) ?_ ?_
  · -- region 1
    refine c_region (by kernel_rfl) ?_
    refine sr 5 rfl ?_
    refine s_bool 14 rfl rfl (fun h14 => ?_) (fun h14 => ?_)
    · -- slot 14 true
      have h14 := of_decide_eq_true h14
      exact sra rfl ⟨true, ⟨rfl, trivial⟩, ⟨rfl, rfl, rfl, rfl, trivial⟩, rfl, fun _ h => hgl.1 h.1 h14, fun _ => rfl⟩
    · -- slot 14 false
      have h14 := hgl.2 (of_decide_eq_false h14)
      refine sr 7 rfl ?_
      refine s_bool 21 rfl rfl (fun h21 => ?_) (fun h21 => ?_)
      · -- slot 21 true
        have h21 := ndt h21
        refine sr 3 rfl ?_
        refine s_op rfl (o_pure loud_n rfl (l2Is_c _ _ _ _ _ hx hok) ?_)
        refine sra rfl ⟨_, ⟨rfl, trivial⟩, ⟨rfl, rfl, rfl, rfl, trivial⟩, rfl, ?_⟩
        show (!decide (q ∈ blocks l)) = true ↔ _
        exact ⟨fun h hh => hh.2.elim h21 (ndt h), fun h => (by rw [decide_eq_false (fun hc => h ⟨h14, .inr hc⟩)]; rfl)⟩
      · -- slot 21 false
        have h21 := ndf h21
        exact sra rfl ⟨false, ⟨rfl, trivial⟩, ⟨rfl, rfl, rfl, rfl, trivial⟩, rfl, fun h => (by cases h), fun h => absurd ⟨h14, .inl h21⟩ h⟩
  rintro t st1 ⟨rfl, ht⟩
  refine c_if rfl (fun h28 => ?_) (fun h28 => ?_)
  · -- then
    have h28 := ht.1 h28
    refine crr (by kernel_rfl) rfl ?_   -- region 2
    refine c_ret (fr rfl ?_)
    rw [bdf.2 (fun h : Swp l g b q => h28 ⟨h.1, h.2.1⟩)]
    rfl
  · -- else
    have h43 : g = [] ∧ (q = l.length ∨ q ∈ blocks l) := Classical.byContradiction fun hc => by have := ht.2 hc; rw [h28] at this; cases this
    have hq0 : 0 ≤ q ∧ q ≤ l.length := by
      rcases h43.2 with h | h
      · omega
      · obtain ⟨m, hm1, hm2, _⟩ := blocks_mem h; omega
    refine c_skip ?_
    refine c_seq ?_
    refine crr (by kernel_rfl) rfl ?_   -- region 3
    refine c_block ?_
    refine c_lp (α := Nat × List Int) (fun i => [(5, I i.1)]) (fun _ => [(2, 2, [.sl r o l.length]), (3, 3, [I p, .sl rg 0 g.length, .sl rb 0 b.length, I q])])
      (fun i st' => st = st' ∧ i.1 ≤ l.length ∧ walk l i.1 = some i.2 ∧ (∀ x ∈ i.2, x ∈ blocks l) ∧ ∀ a ∈ blocks l, a ∈ i.2 ∨ (kindOf l a.toNat ≠ 0 → a ∈ b)) (fun i => l.length - i.1) (0, blocks l) ⟨rfl, trivial⟩ ⟨rfl, rfl, rfl, rfl, trivial⟩ ⟨rfl, Nat.zero_le _, hw0, fun x h => h, fun a h => .inl h⟩ ?_
    rintro ⟨k, rest⟩ st1 ⟨rfl, hk, hw, hsub, hall⟩
    dsimp only at *
    refine c_seq ?_
    refine crr (by kernel_rfl) rfl ?_   -- region 4
    refine c_if rfl (fun h32 => ?_) (fun h32 => ?_)
    · -- then
      have h32 := of_decide_eq_true h32
      obtain ⟨hh, r', rfl, hw'⟩ := walk_cons hw (by omega)
      have hs := size_pos hh
      have hse := size_eq hh
      refine c_skip ?_
      refine c_seq ?_
      refine c_block ?_
      refine c_sj (α := Bool) (fun t => [(5, I k), (54, .bool t)]) (fun _ => [(2, 2, [.sl r o l.length]), (3, 3, [I p, .sl rg 0 g.length, .sl rb 0 b.length, I q])])
        (fun t st' => st = st' ∧ (t = true ↔ kindOf l k ≠ 0 ∧ (k : Int) ∉ b)) ?_ ?_
      · -- region 6
        refine c_region (by kernel_rfl) ?_
        refine sr 3 rfl ?_
        refine s_op rfl (oidx rfl rfl rfl (by omega) (by omega) ?_)
        refine s_op rfl (old rfl rfl (hx.rd (by omega) (by omega)) ?_)
        refine s_op rfl (o_pure loud_n rfl (l2Kind_c ..) ?_)
        rw [rd_kind]
        refine sr 2 rfl ?_
        refine s_bool 48 rfl rfl (fun h48 => ?_) (fun h48 => ?_)
        · -- slot 48 true
          have h48 := ndt h48
          refine sr 3 rfl ?_
          refine s_op rfl (o_pure loud_n rfl (l7In_c (hx := hb) (hl := by omega) ..) ?_)
          refine sra rfl ⟨_, ⟨rfl, rfl, trivial⟩, ⟨rfl, rfl, rfl, rfl, trivial⟩, rfl, fun h => ⟨h48, nbt h⟩, fun h => (by rw [bdf.2 h.2]; rfl)⟩
        · -- slot 48 false
          have h48 := ndf h48
          exact sra rfl ⟨false, ⟨rfl, rfl, trivial⟩, ⟨rfl, rfl, rfl, rfl, trivial⟩, rfl, fun h => (by cases h), fun h => absurd h48 h.1⟩
      rintro t st1 ⟨rfl, ht⟩
      refine c_if rfl (fun h54 => ?_) (fun h54 => ?_)
      · -- then
        have h54 := ht.1 h54
        refine crr (by kernel_rfl) rfl ?_   -- region 7
        refine c_ret (fr rfl ?_)
        rw [bdf.2 (fun h : Swp l g b q => h54.2 (h.2.2.1 k (hsub k (List.mem_cons_self ..)) h32 (by simpa using h54.1)))]
        rfl
      · -- else
        have h54 : kindOf l k ≠ 0 → (k : Int) ∈ b := fun h => Classical.byContradiction fun hc => by have := ht.2 ⟨h, hc⟩; rw [h54] at this; cases this
        refine c_skip ?_
        refine c_region (by kernel_rfl) ?_   -- region 5
        refine sr 4 rfl ?_
        refine s_op rfl (oidx rfl rfl rfl (by omega) (by omega) ?_)
        refine s_op rfl (old rfl rfl (hx.rd (by omega) (by omega)) ?_)
        refine s_op rfl (o_pure loud_n rfl (l2Size_c ..) ?_)
        refine s_op rfl (o_ar rfl rfl rfl (by omega) (by omega) ?_)
        refine sra rfl ⟨(k + size l k, r'), ⟨?_, trivial⟩, ⟨rfl, rfl, rfl, rfl, trivial⟩, ⟨rfl, by dsimp only; omega, hw', fun x h => hsub x (List.mem_cons_of_mem _ h), fun a ha => ?_⟩, by dsimp only; omega⟩
        · show AV.int .i64 _ = AV.int .i64 _
          congr 1; omega
        · rcases hall a ha with h | h
          · rcases List.mem_cons.1 h with h | h
            · subst h; exact .inr (by simpa using h54)
            · exact .inl h
          · exact .inr h
    · -- else
      have h32 := of_decide_eq_false h32
      have hsw : ∀ a ∈ blocks l, a < q → kindOf l a.toNat ≠ 0 → a ∈ b := fun a ha h1 h2 => by
        rcases hall a ha with h | h
        · obtain ⟨m, hm1, hm2, _⟩ := bl_mem l _ k rest hw a h
          omega
        · exact h h2
      refine c_exit ?_
      refine c_seq ?_
      refine crr (by kernel_rfl) rfl ?_   -- region 8
      refine c_block ?_
      refine c_lp (α := Nat) (fun j => [(6, I j)]) (fun _ => [(2, 2, [.sl r o l.length]), (3, 3, [I p, .sl rg 0 g.length, .sl rb 0 b.length, I q])])
        (fun j st' => Ex st st' ∧ j ≤ b.length ∧ ∀ a ∈ b.take j, Shp l a ∧ ∀ x ∈ slotsL l a, 4 ≤ rd l x % 8 → rd l x / 8 ∈ b) (fun j => b.length - j) 0 ⟨rfl, trivial⟩ ⟨rfl, rfl, rfl, rfl, trivial⟩ ⟨Ext.refl _ _, Nat.zero_le _, fun a h => by simp at h⟩ ?_
      rintro j st1 ⟨he, hj, hallb⟩
      refine c_seq ?_
      refine crr (by kernel_rfl) rfl ?_   -- region 9
      refine c_if rfl (fun h59 => ?_) (fun h59 => ?_)
      · -- then
        have h59 := of_decide_eq_true h59
        have hbm : rd b j ∈ b := mem_rd (by omega)
        refine c_skip ?_
        refine c_seq ?_
        refine c_block ?_
        refine c_seq ?_
        refine cds [0, 1, 2, 3, 4, 5, 6, 7] [.q, .q, .q, .q, .q, .q, .f, .q] (by kernel_rfl) (by kernel_rfl) ?_   -- region 11
        refine sr 4 rfl ?_
        refine s_op rfl (oidx rfl rfl rfl (by omega) (by omega) ?_)
        refine s_op rfl (old rfl rfl ((hb.ex he).rd (by omega) (by omega)) ?_)
        generalize hae : rd b (j : Int) = a at hbm
        refine s_op rfl (o_pure loud_f rfl (l3Shape_c _ _ _ _ _ (hx.ex he) hok (hbb a hbm)) ?_)
        refine sra rfl ?_
        refine c_if rfl (fun h69 => ?_) (fun h69 => ?_)
        · -- then
          have h69 := nbt h69
          refine crr (by kernel_rfl) rfl ?_   -- region 12
          refine c_ret (fr rfl ?_)
          rw [bdf.2 (fun h : Swp l g b q => h69 (h.2.2.2 a hbm).1)]
          rfl
        · -- else
          have h69 := nbf h69
          refine c_skip ?_
          refine cds [0, 1, 2, 3, 4, 5, 6, 7] [.q, .q, .q, .q, .q, .q, .f, .q] (by kernel_rfl) (by kernel_rfl) ?_   -- region 13
          refine sr 4 rfl ?_
          refine s_op rfl (oidx rfl rfl rfl (by omega) (by omega) ?_)
          refine s_op rfl (old rfl rfl ((hb.ex he).rd (by omega) (by omega)) ?_)
          rw [hae]
          refine s_op rfl (o_ex loud_f rfl (l3Slots_c _ _ _ _ _ (hx.ex he) (hbb a hbm)) ?_)
          rintro v4 st4 ⟨rs, rfl, hs4⟩ e4
          refine sra rfl ?_
          have he4 := he.tr e4
          refine crr (by kernel_rfl) rfl ?_   -- region 14
          refine c_block ?_
          refine c_lp (α := Nat) (fun i => [(6, I j), (7, .sl (some rs) 0 (slotsL l a).length), (8, I i)]) (fun _ => [(2, 2, [.sl r o l.length]), (3, 3, [I p, .sl rg 0 g.length, .sl rb 0 b.length, I q])])
            (fun i st' => st4 = st' ∧ i ≤ (slotsL l a).length ∧ ∀ x ∈ (slotsL l a).take i, 4 ≤ rd l x % 8 → rd l x / 8 ∈ b) (fun i => (slotsL l a).length - i) 0 ⟨rfl, rfl, rfl, trivial⟩ ⟨rfl, rfl, rfl, rfl, trivial⟩ ⟨rfl, Nat.zero_le _, fun x h => by simp at h⟩ ?_
          rintro i st5 ⟨rfl, hi, halls⟩
          have hsl := slots_len (hbb a hbm)
          refine c_seq ?_
          refine crr (by kernel_rfl) rfl ?_   -- region 15
          refine c_if rfl (fun h80 => ?_) (fun h80 => ?_)
          · -- then
            have h80 := of_decide_eq_true h80
            have hsm : rd (slotsL l a) i ∈ slotsL l a := mem_rd (by omega)
            have hsin := slots_in (hbb a hbm) hsm
            obtain ⟨an, han, _, _⟩ := blocks_mem (hbb a hbm)
            refine c_skip ?_
            refine c_seq ?_
            refine c_block ?_
            refine cds [0, 1, 2, 3, 4, 5, 6, 7, 8, 9] [.q, .q, .q, .q, .q, .q, .q, .q, .f, .q] (by kernel_rfl) (by kernel_rfl) ?_   -- region 17
            refine sr 4 rfl ?_
            refine s_op rfl (oidx rfl rfl rfl (by omega) (by omega) ?_)
            refine s_op rfl (old rfl rfl (hs4.at_.rd (by omega) (by omega)) ?_)
            generalize hxe : rd (slotsL l a) (i : Int) = x at hsm hsin
            refine s_op rfl (oidx rfl rfl rfl (by omega) (by omega) ?_)
            refine s_op rfl (old rfl rfl ((hx.ex he4).rd (by omega) (by omega)) ?_)
            have hvb := slot_vb h69 (hbb a hbm) hsm
            generalize hve : rd l x = v at hvb
            refine s_op rfl (o_pure loud_f rfl (l7Block_c ..) ?_)
            refine sra rfl ?_
            have hbv := blk_vb hvb
            refine c_sj (α := Bool) (fun t => [(6, I j), (7, .sl (some rs) 0 (slotsL l a).length), (8, I i), (100, .bool t)]) (fun _ => [(2, 2, [.sl r o l.length]), (3, 3, [I p, .sl rg 0 g.length, .sl rb 0 b.length, I q])])
              (fun t st' => st4 = st' ∧ (t = true ↔ 4 ≤ v % 8 ∧ v / 8 ∉ b)) ?_ ?_
            · -- region 18
              refine c_region (by kernel_rfl) ?_
              refine sr 3 rfl ?_
              refine s_bool 94 rfl rfl (fun h94 => ?_) (fun h94 => ?_)
              · -- slot 94 true
                have h94 := hbv.1 (of_decide_eq_true h94)
                have e5 := blk_pl h94
                refine sr 3 rfl ?_
                rw [e5]
                refine s_op rfl (o_pure loud_n rfl (l7In_c (hx := hb.ex he4) (hl := by omega) ..) ?_)
                refine sra rfl ⟨_, ⟨rfl, rfl, rfl, rfl, trivial⟩, ⟨rfl, rfl, rfl, rfl, trivial⟩, rfl, fun h => ⟨h94, nbt h⟩, fun h => (by rw [bdf.2 h.2]; rfl)⟩
              · -- slot 94 false
                have h94 := of_decide_eq_false h94
                rw [hbv] at h94
                exact sra rfl ⟨false, ⟨rfl, rfl, rfl, rfl, trivial⟩, ⟨rfl, rfl, rfl, rfl, trivial⟩, rfl, fun h => (by cases h), fun h => absurd h.1 h94⟩
            rintro t st5 ⟨rfl, ht⟩
            refine c_if rfl (fun h100 => ?_) (fun h100 => ?_)
            · -- then
              have h100 := ht.1 h100
              refine crr (by kernel_rfl) rfl ?_   -- region 19
              refine c_ret (fr rfl ?_)
              rw [bdf.2 (fun h : Swp l g b q => by
                have := (h.2.2.2 a hbm).2 x hsm
                rw [hve] at this
                exact h100.2 (this h100.1))]
              rfl
            · -- else
              have h100 : 4 ≤ v % 8 → v / 8 ∈ b := fun h => Classical.byContradiction fun hc => by have := ht.2 ⟨h, hc⟩; rw [h100] at this; cases this
              refine c_skip ?_
              refine c_region (by kernel_rfl) ?_   -- region 16
              refine sr 1 rfl ?_
              refine s_op rfl (o_ar rfl rfl rfl (by omega) (by omega) ?_)
              refine sra rfl ⟨i + 1, ⟨rfl, rfl, rfl, trivial⟩, ⟨rfl, rfl, rfl, rfl, trivial⟩, ⟨rfl, by omega, fun y hy hy4 => ?_⟩, by omega⟩
              obtain ⟨k', hk1, hk2, rfl⟩ := mem_take.1 hy
              by_cases e : k' = i
              · subst e; rw [hxe, hve] at hy4 ⊢; exact h100 hy4
              · exact halls _ (mem_take.2 ⟨k', by omega, hk2, rfl⟩) hy4
          · -- else
            have h80 := of_decide_eq_false h80
            have hie : (slotsL l a).take i = slotsL l a := List.take_of_length_le (by omega)
            rw [hie] at halls
            refine c_exit ?_
            refine c_region (by kernel_rfl) ?_   -- region 10
            refine sr 1 rfl ?_
            refine s_op rfl (o_ar rfl rfl rfl (by omega) (by omega) ?_)
            refine sra rfl ⟨j + 1, ⟨rfl, trivial⟩, ⟨rfl, rfl, rfl, rfl, trivial⟩, ⟨he4, by omega, fun a' ha' => ?_⟩, by omega⟩
            obtain ⟨k', hk1, hk2, rfl⟩ := mem_take.1 ha'
            by_cases e : k' = j
            · subst e; rw [hae]; exact ⟨h69, halls⟩
            · exact hallb _ (mem_take.2 ⟨k', by omega, hk2, rfl⟩)
      · -- else
        have h59 := of_decide_eq_false h59
        have hie : b.take j = b := List.take_of_length_le (by omega)
        rw [hie] at hallb
        refine c_exit ?_
        refine crr (by kernel_rfl) rfl ?_   -- region 20
        refine c_ret (fr rfl ?_)
        rw [bdt.2 (show Swp l g b q from ⟨h43.1, h43.2, hsw, hallb⟩)]
        rfl
theorem mem_iff {l g b : List Int} : Mem l g b ↔ Ord l g ∧ Ord l b ∧ ∀ i : Nat, i < b.length → rd b i ∉ g ∧ (0 < i → rd b ((i : Int) - 1) ≤ rd b i) := by
  constructor
  · rintro ⟨h1, h2⟩
    have hn := List.nodup_append.1 h1.1
    refine ⟨⟨hn.1, fun a ha => h1.2 a (List.mem_append_left _ ha)⟩, ⟨hn.2.1, fun a ha => h1.2 a (List.mem_append_right _ ha)⟩, fun i hi => ⟨fun hm => hn.2.2 _ hm _ (mem_rd hi) rfl, fun h0 => ?_⟩⟩
    have := h2 (i - 1) (by omega)
    rw [show (((i - 1 : Nat) : Int)) = (i : Int) - 1 by omega, show (i : Int) - 1 + 1 = i by omega] at this
    exact this
  · rintro ⟨h1, h2, h3⟩
    refine ⟨⟨List.nodup_append.2 ⟨h1.1, h2.1, fun a ha a' ha' e => ?_⟩, fun a ha => (List.mem_append.1 ha).elim (h1.2 a) (h2.2 a)⟩, fun i hi => ?_⟩
    · subst e
      obtain ⟨j, hj, rfl⟩ := rd_mem ha'
      exact (h3 j hj).1 ha
    · have := (h3 (i + 1) hi).2 (by omega)
      rw [show ((i + 1 : Nat) : Int) - 1 = i by omega] at this
      exact this
theorem MarkerOk_c (p q : Int) (r rg rb : Option Nat) (o : Nat) (l g b : List Int) (st : St) (hx : At st r o l) (hl : l.length ≤ 1048576) (hg : At st rg 0 g) (hb : At st rb 0 b) (hlg : g.length ≤ 536870912) (hlb : b.length ≤ 536870912) :
    ACalls Try.prog 26 [.agg [.sl r o l.length], .agg [I p, .sl rg 0 g.length, .sl rb 0 b.length, I q]] st No (Pv (.bool (bd (MkOk l p g b q)))) := by
  refine ent (N := 95) Try.func26 rfl (by decide) rfl rfl rfl ?_
  refine crr (by kernel_rfl) rfl ?_   -- region 0
  refine c_seq ?_
  refine c_sj (α := Bool) (fun t => [(28, .bool t)]) (fun _ => [(2, 2, [.sl r o l.length]), (3, 3, [I p, .sl rg 0 g.length, .sl rb 0 b.length, I q])])
    (fun t st' => st = st' ∧ (t = true ↔ ¬ (okB l = true ∧ (0 ≤ p ∧ p ≤ 2) ∧ Ord l g ∧ Ord l b))) ?_ ?_
  · -- region 1
    refine c_region (by kernel_rfl) ?_
    refine sr 1 rfl ?_
    refine s_op rfl (o_pure loud_n rfl (SlabOk_c _ _ _ _ hx hl) ?_)
    refine sr 2 rfl ?_
    refine s_bool 9 rfl rfl (fun h9 => ?_) (fun h9 => ?_)
    · -- slot 9 true
      have h9 : ¬ okB l = true := by simpa using h9
      refine sr 6 rfl ?_
      refine s_bool 15 rfl rfl (fun h15 => ?_) (fun h15 => by cases h15)
      refine sr 7 rfl ?_
      refine s_bool 22 rfl rfl (fun h22 => ?_) (fun h22 => by cases h22)
      exact sra rfl ⟨true, ⟨rfl, trivial⟩, ⟨rfl, rfl, rfl, rfl, trivial⟩, rfl, fun _ h => h9 h.1, fun _ => rfl⟩
    · -- slot 9 false
      have h9 : okB l = true := by simpa using h9
      refine sr 2 rfl ?_
      refine s_op rfl (o_pure loud_n rfl (l1In_c ..) ?_)
      refine sr 3 rfl ?_
      refine s_bool 15 rfl rfl (fun h15 => ?_) (fun h15 => ?_)
      · -- slot 15 true
        have h15 := ndt h15
        refine sr 7 rfl ?_
        refine s_bool 22 rfl rfl (fun h22 => ?_) (fun h22 => by cases h22)
        exact sra rfl ⟨true, ⟨rfl, trivial⟩, ⟨rfl, rfl, rfl, rfl, trivial⟩, rfl, fun _ h => h15 h.2.1, fun _ => rfl⟩
      · -- slot 15 false
        have h15 := ndf h15
        refine sr 3 rfl ?_
        refine s_op rfl (o_pure loud_n rfl (l8Places_c _ _ _ _ _ _ hx h9 hg (by omega)) ?_)
        refine sr 3 rfl ?_
        refine s_bool 22 rfl rfl (fun h22 => ?_) (fun h22 => ?_)
        · -- slot 22 true
          have h22 := nbt h22
          exact sra rfl ⟨true, ⟨rfl, trivial⟩, ⟨rfl, rfl, rfl, rfl, trivial⟩, rfl, fun _ h => h22 h.2.2.1, fun _ => rfl⟩
        · -- slot 22 false
          have h22 := nbf h22
          refine sr 3 rfl ?_
          refine s_op rfl (o_pure loud_n rfl (l8Places_c _ _ _ _ _ _ hx h9 hb (by omega)) ?_)
          refine sra rfl ⟨_, ⟨rfl, trivial⟩, ⟨rfl, rfl, rfl, rfl, trivial⟩, rfl, ?_⟩
          show (!bd (Ord l b)) = true ↔ _
          exact ⟨fun h hh => nbt h hh.2.2.2, fun h => (by rw [bdf.2 (fun hc => h ⟨h9, h15, h22, hc⟩)]; rfl)⟩
  rintro t st1 ⟨rfl, ht⟩
  refine c_if rfl (fun h28 => ?_) (fun h28 => ?_)
  · -- then
    have h28 := ht.1 h28
    refine crr (by kernel_rfl) rfl ?_   -- region 2
    refine c_ret (fr rfl ?_)
    rw [bdf.2 (fun h : MkOk l p g b q => h28 ⟨h.1, by rcases h.2.2 with h | h | h <;> (have := h.1; omega), (mem_iff.1 h.2.1).1, (mem_iff.1 h.2.1).2.1⟩)]
    rfl
  · -- else
    obtain ⟨hok, hp, hog, hob⟩ : okB l = true ∧ (0 ≤ p ∧ p ≤ 2) ∧ Ord l g ∧ Ord l b := Classical.byContradiction fun hc => by have := ht.2 hc; rw [h28] at this; cases this
    have hlen := okB_len hok
    refine c_skip ?_
    refine c_seq ?_
    refine crr (by kernel_rfl) rfl ?_   -- region 3
    refine c_block ?_
    refine c_lp (α := Nat) (fun i => [(5, I i)]) (fun _ => [(2, 2, [.sl r o l.length]), (3, 3, [I p, .sl rg 0 g.length, .sl rb 0 b.length, I q])])
      (fun i st' => st = st' ∧ i ≤ b.length ∧ ∀ j : Nat, j < i → rd b j ∉ g ∧ (0 < j → rd b ((j : Int) - 1) ≤ rd b j)) (fun i => b.length - i) 0 ⟨rfl, trivial⟩ ⟨rfl, rfl, rfl, rfl, trivial⟩ ⟨rfl, Nat.zero_le _, fun j h => by omega⟩ ?_
    rintro i st1 ⟨rfl, hi, hall⟩
    refine c_seq ?_
    refine crr (by kernel_rfl) rfl ?_   -- region 4
    refine c_if rfl (fun h33 => ?_) (fun h33 => ?_)
    · -- then
      have h33 := of_decide_eq_true h33
      refine c_skip ?_
      refine c_seq ?_
      refine c_block ?_
      refine c_sj (α := Bool) (fun t => [(5, I i), (61, .bool t)]) (fun _ => [(2, 2, [.sl r o l.length]), (3, 3, [I p, .sl rg 0 g.length, .sl rb 0 b.length, I q])])
        (fun t st' => st = st' ∧ (t = true ↔ ¬ (rd b i ∉ g ∧ (0 < i → rd b ((i : Int) - 1) ≤ rd b i)))) ?_ ?_
      · -- region 6
        refine cd1 [0, 1, 2, 3, 4, 5, 6, 7, 8, 9, 10, 11, 12, 13, 14, 15, 16, 17, 18, 19, 20, 21, 22, 23, 24, 25] [.q, .q, .q, .q, .q, .q, .q, .f, .q, .q, .q, .q, .q, .q, .q, .q, .q, .q, .q, .q, .q, .q, .q, .q, .q, .q] (by kernel_rfl) (by kernel_rfl) ?_
        refine sr 5 rfl ?_
        refine s_op rfl (oidx rfl rfl rfl (by omega) (by omega) ?_)
        refine s_op rfl (old rfl rfl (hb.rd (by omega) (by omega)) ?_)
        refine s_op rfl (o_pure loud_f rfl (l7In_c (hx := hg) (hl := by omega) ..) ?_)
        refine sr 1 rfl ?_
        refine s_bool 44 rfl rfl (fun h44 => ?_) (fun h44 => ?_)
        · -- slot 44 true
          have h44 := bdt.1 h44
          refine sr 3 rfl ?_
          refine sra rfl ⟨true, ⟨rfl, rfl, trivial⟩, ⟨rfl, rfl, rfl, rfl, trivial⟩, rfl, fun _ h => h.1 h44, fun _ => rfl⟩
        · -- slot 44 false
          have h44 := bdf.1 h44
          refine sr 3 rfl ?_
          refine s_bool 47 rfl rfl (fun h47 => ?_) (fun h47 => ?_)
          · -- slot 47 true
            have h47 := of_decide_eq_true h47
            refine sr 3 rfl ?_
            refine s_op rfl (o_ar rfl rfl rfl (by omega) (by omega) ?_)
            refine s_op rfl (oidx rfl rfl rfl (by omega) (by omega) ?_)
            refine s_op rfl (old rfl rfl (hb.rd (by omega) (by omega)) ?_)
            refine sr 3 rfl ?_
            refine s_op rfl (oidx rfl rfl rfl (by omega) (by omega) ?_)
            refine s_op rfl (old rfl rfl (hb.rd (by omega) (by omega)) ?_)
            refine sra rfl ⟨_, ⟨rfl, rfl, trivial⟩, ⟨rfl, rfl, rfl, rfl, trivial⟩, rfl, ?_⟩
            show decide (rd b ((i : Int) - 1) > rd b i) = true ↔ _
            rw [decide_eq_true_eq]
            exact ⟨fun h hh => by have := hh.2 (by omega); omega, fun h => Classical.byContradiction fun hc => h ⟨h44, fun _ => by omega⟩⟩
          · -- slot 47 false
            have h47 := of_decide_eq_false h47
            exact sra rfl ⟨false, ⟨rfl, rfl, trivial⟩, ⟨rfl, rfl, rfl, rfl, trivial⟩, rfl, fun h => (by cases h), fun h => absurd ⟨h44, fun h0 => absurd (by omega) h47⟩ h⟩
      rintro t st1 ⟨rfl, ht2⟩
      refine c_if rfl (fun h61 => ?_) (fun h61 => ?_)
      · -- then
        have h61 := ht2.1 h61
        refine crr (by kernel_rfl) rfl ?_   -- region 7
        refine c_ret (fr rfl ?_)
        rw [bdf.2 (fun h : MkOk l p g b q => h61 ((mem_iff.1 h.2.1).2.2 i (by omega)))]
        rfl
      · -- else
        have h61 : rd b i ∉ g ∧ (0 < i → rd b ((i : Int) - 1) ≤ rd b i) := Classical.byContradiction fun hc => by have := ht2.2 hc; rw [h61] at this; cases this
        refine c_skip ?_
        refine c_region (by kernel_rfl) ?_   -- region 5
        refine sr 1 rfl ?_
        refine s_op rfl (o_ar rfl rfl rfl (by omega) (by omega) ?_)
        refine sra rfl ⟨i + 1, ⟨rfl, trivial⟩, ⟨rfl, rfl, rfl, rfl, trivial⟩, ⟨rfl, by omega, fun j hj => ?_⟩, by omega⟩
        by_cases e : j = i
        · subst e; exact h61
        · exact hall j (by omega)
    · -- else
      have h33 := of_decide_eq_false h33
      have hm : Mem l g b := mem_iff.2 ⟨hog, hob, fun j hj => hall j (by omega)⟩
      refine c_exit ?_
      refine c_seq ?_
      refine crr (by kernel_rfl) rfl ?_   -- region 8
      refine c_block ?_
      refine crr (by kernel_rfl) rfl ?_   -- region 9
      refine c_if rfl (fun h64 => ?_) (fun h64 => ?_)
      · -- then
        have h64 := of_decide_eq_true h64
        refine c_sj (α := Bool) (fun t => [(4, .bool t)]) (fun _ => []) (fun t _ => (t = true ↔ MkOk l p g b q)) ?_ ?_
        · -- region 10
          refine c_region (by kernel_rfl) ?_
          refine sr 6 rfl ?_
          refine s_op rfl (o_ar rfl rfl rfl (by omega) (by omega) ?_)
          refine sr 2 rfl ?_
          refine s_bool 74 rfl rfl (fun h74 => ?_) (fun h74 => ?_)
          · -- slot 74 true
            have h74 := of_decide_eq_true h74
            refine sr 5 rfl ?_
            refine s_bool 79 rfl rfl (fun h79 => ?_) (fun h79 => ?_)
            · -- slot 79 true
              have h79 := of_decide_eq_true h79
              refine sr 1 rfl ?_
              refine s_op rfl (o_ex loud_n rfl (HeapOk_c _ _ _ _ hx hl) ?_)
              rintro v3 st3 rfl e3
              refine sra rfl ⟨_, ⟨rfl, trivial⟩, trivial, ?_⟩
              show bd (Heap l) = true ↔ _
              rw [bdt]
              exact ⟨fun h => ⟨hok, hm, .inl ⟨h64, h, h79, len0.2 (by omega), len0.2 (by omega)⟩⟩, fun h => by
                rcases h.2.2 with h | h | h
                · exact h.2.1
                · have := h.1; omega
                · have := h.1; omega⟩
            · -- slot 79 false
              have h79 := of_decide_eq_false h79
              refine sra rfl ⟨false, ⟨rfl, trivial⟩, trivial, fun h => (by cases h), fun h => ?_⟩
              exfalso
              rcases h.2.2 with h | h | h
              · exact h79 h.2.2.1
              · have := h.1; omega
              · have := h.1; omega
          · -- slot 74 false
            have h74 := of_decide_eq_false h74
            refine sr 5 rfl ?_
            refine s_bool 79 rfl rfl (fun h79 => by cases h79) (fun h79 => ?_)
            refine sra rfl ⟨false, ⟨rfl, trivial⟩, trivial, fun h => (by cases h), fun h => ?_⟩
            exfalso
            rcases h.2.2 with h | h | h
            · have h1 := len0.1 h.2.2.2.1
              have h2 := len0.1 h.2.2.2.2
              omega
            · have := h.1; omega
            · have := h.1; omega
        rintro t st3 ht
        exact c_ret (fr rfl (abd ht))
      · -- else
        have h64 := of_decide_eq_false h64
        refine crr (by kernel_rfl) rfl ?_   -- region 11
        refine c_if rfl (fun h83 => ?_) (fun h83 => ?_)
        · -- then
          have h83 := of_decide_eq_true h83
          refine c_sj (α := Bool) (fun t => [(4, .bool t)]) (fun _ => []) (fun t _ => (t = true ↔ MkOk l p g b q)) ?_ ?_
          · -- region 12
            refine c_region (by kernel_rfl) ?_
            refine sr 4 rfl ?_
            refine s_bool 88 rfl rfl (fun h88 => ?_) (fun h88 => ?_)
            · -- slot 88 true
              have h88 := of_decide_eq_true h88
              refine sr 1 rfl ?_
              refine s_op rfl (o_ex loud_n rfl (HeapOk_c _ _ _ _ hx hl) ?_)
              rintro v3 st3 rfl e3
              refine sra rfl ⟨_, ⟨rfl, trivial⟩, trivial, ?_⟩
              show bd (Heap l) = true ↔ _
              rw [bdt]
              exact ⟨fun h => ⟨hok, hm, .inr (.inl ⟨h83, h, h88⟩)⟩, fun h => by
                rcases h.2.2 with h | h | h
                · exact h.2.1
                · exact h.2.1
                · have := h.1; omega⟩
            · -- slot 88 false
              have h88 := of_decide_eq_false h88
              refine sra rfl ⟨false, ⟨rfl, trivial⟩, trivial, fun h => (by cases h), fun h => ?_⟩
              exfalso
              rcases h.2.2 with h | h | h
              · exact h64 h.1
              · exact h88 h.2.2
              · have := h.1; omega
          rintro t st3 ht
          exact c_ret (fr rfl (abd ht))
        · -- else
          have h83 := of_decide_eq_false h83
          refine c_skip ?_
          refine c_rs (by kernel_rfl) ?_   -- region 13
          refine sr 2 rfl ?_
          refine s_op rfl (o_ex loud_n rfl (l8Swept_c p q r rg rb o l g b _ hx hok hb (fun a ha => (hob.2 a ha).1) (by omega) (by omega)) ?_)
          rintro v3 st3 rfl e3
          refine sra rfl ?_
          refine c_ret (fr rfl ?_)
          show AV.bool (bd _) = AV.bool (bd _)
          rw [bd_eq (P := Swp l g b q) (Q := MkOk l p g b q) ⟨fun h => ⟨hok, hm, .inr (.inr ⟨by omega, h⟩)⟩, fun h => by
            rcases h.2.2 with h | h | h
            · exact absurd h.1 h64
            · exact absurd h.1 h83
            · exact h.2⟩]
end Go.Proofs.YtmphklmhhcmbnaaW.Ax
