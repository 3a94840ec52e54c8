/- No black block leads to one that was not met: walked. -/
import Derived.Test.YtmphklmhhcmbnaaZn
namespace Go.Proofs.YtmphklmhhcmbnaaW.Ax
open Go Go.RowKit Go.Proofs Go.Proofs.Ytmphklmhhcmbnaa.Pure
set_option linter.unusedVariables false
set_option maxRecDepth 100000

def TriB (l g b : List Int) (a : Int) : Prop := ∀ x ∈ slotsL l a, 4 ≤ rd l x % 8 → rd l x / 8 ∈ g ∨ rd l x / 8 ∈ b
def Tri (l : List Int) (p : Int) (g b : List Int) (q : Int) : Prop := MkOk l p g b q ∧ (p = 1 → ∀ a ∈ b, TriB l g b a)
theorem MkOk.black {l : List Int} {p : Int} {g b : List Int} {q : Int} (h : MkOk l p g b q) : ∀ a ∈ b, a ∈ blocks l := fun a ha => (h.2.1.1.2 a (List.mem_append_right _ ha)).1
theorem MkOk.grey {l : List Int} {p : Int} {g b : List Int} {q : Int} (h : MkOk l p g b q) : ∀ a ∈ g, a ∈ blocks l := fun a ha => (h.2.1.1.2 a (List.mem_append_left _ ha)).1
theorem MkOk.asc {l : List Int} {p : Int} {g b : List Int} {q : Int} (h : MkOk l p g b q) : b.Pairwise (· < ·) := srt_lt h.2.1.2 (List.nodup_append.1 h.2.1.1.1).2.1
theorem MkOk.heap {l : List Int} {g b : List Int} {q : Int} (h : MkOk l 1 g b q) : Heap l := by
  rcases h.2.2 with h | h | h
  · exact h.2.1
  · exact h.2.1
  · have := h.1; omega
theorem iTriOk_c (p q : Int) (r rg rb : Option Nat) (o : Nat) (l g b : List Int) (st : St) (hx : At st r o l) (hl : l.length ≤ 1048576) (hg : At st rg 0 g) (hb : At st rb 0 b) (hlg : g.length ≤ 536870912) (hlb : b.length ≤ 536870912) (hq : W1 q) :
    ACalls Try.prog 30 [.agg [.sl r o l.length], .agg [I p, .sl rg 0 g.length, .sl rb 0 b.length, I q]] st No (Pv (.bool (bd (Tri l p g b q)))) := by
  refine ent (N := 56) Try.func30 rfl (by decide) rfl rfl rfl ?_
  refine crr (by kernel_rfl) rfl ?_   -- region 0
  refine c_seq ?_
  refine c_rs (by kernel_rfl) ?_   -- region 1
  refine sr 2 rfl ?_
  refine s_op rfl (o_ex loud_n rfl (iMarkerOk_c p q r rg rb o l g b _ hx hl hg hb hlg hlb hq) ?_)
  rintro v1 st1 rfl e1
  refine sra rfl ?_
  refine c_if rfl (fun h13 => ?_) (fun h13 => ?_)
  · -- then
    have h13 := nbt h13
    refine crr (by kernel_rfl) rfl ?_   -- region 2
    refine c_ret (fr rfl ?_)
    rw [bdf.2 (fun h : Tri l p g b q => h13 h.1)]
    rfl
  · -- else
    have h13 := nbf h13
    have hok := h13.1
    have hlen := okB_len hok
    have hbb := h13.black
    have hbs := h13.asc
    refine c_skip ?_
    refine c_seq ?_
    refine crr (by kernel_rfl) rfl ?_   -- region 3
    refine c_if rfl (fun h16 => ?_) (fun h16 => ?_)
    · -- then
      have h16 := ndt h16
      refine crr (by kernel_rfl) rfl ?_   -- region 4
      refine c_ret (fr rfl ?_)
      rw [bdt.2 (show Tri l p g b q from ⟨h13, fun h => absurd h h16⟩)]
      rfl
    · -- else
      have h16 := ndf h16
      refine c_skip ?_
      refine c_seq ?_
      refine crr (by kernel_rfl) rfl ?_   -- region 5
      refine c_block ?_
      refine c_lp (α := Nat) (fun j => [(18, .sl rb 0 b.length), (19, I b.length), (20, I j)]) (fun _ => [(2, 2, [.sl r o l.length]), (3, 3, [I p, .sl rg 0 g.length, .sl rb 0 b.length, I q])])
        (fun j st' => Ex st st' ∧ j ≤ b.length ∧ ∀ a ∈ b.take j, TriB l g b a) (fun j => b.length - j) 0 ⟨rfl, rfl, rfl, trivial⟩ ⟨rfl, rfl, rfl, rfl, trivial⟩ ⟨e1, Nat.zero_le _, fun a h => by simp at h⟩ ?_
      rintro j st2 ⟨he, hj, hallb⟩
      refine crr (by kernel_rfl) rfl ?_   -- region 6
      refine c_seq ?_
      refine c_if rfl (fun h21 => ?_) (fun h21 => ?_)
      · -- then
        have h21 := of_decide_eq_true h21
        have hbm : rd b j ∈ b := mem_rd (by omega)
        refine c_skip ?_
        refine c_seq ?_
        refine c_block ?_
        refine c_rs (by kernel_rfl) ?_   -- region 7
        refine s_op rfl (oidx rfl rfl rfl (by omega) (by omega) ?_)
        refine s_op rfl (old rfl rfl ((hb.ex he).rd (by omega) (by omega)) ?_)
        refine sra rfl ?_
        generalize hae : rd b (j : Int) = a at hbm
        refine c_rs (by kernel_rfl) ?_   -- region 8
        refine sr 2 rfl ?_
        refine s_op rfl (o_ex loud_n rfl (slots_c _ _ _ _ _ (hx.ex he) (hbb a hbm)) ?_)
        rintro v4 st4 ⟨rs, rfl, hs4⟩ e4
        refine sra rfl ?_
        have he4 := he.tr e4
        refine c_block ?_
        refine c_lp (α := Nat) (fun i => [(18, .sl rb 0 b.length), (19, I b.length), (20, I j), (26, .sl rs 0 (slotsL l a).length), (27, I (slotsL l a).length), (28, I i)]) (fun _ => [(2, 2, [.sl r o l.length]), (3, 3, [I p, .sl rg 0 g.length, .sl rb 0 b.length, I q])])
          (fun i st' => st4 = st' ∧ i ≤ (slotsL l a).length ∧ ∀ x ∈ (slotsL l a).take i, 4 ≤ rd l x % 8 → rd l x / 8 ∈ g ∨ rd l x / 8 ∈ b) (fun i => (slotsL l a).length - i) 0 ⟨rfl, rfl, rfl, rfl, rfl, rfl, trivial⟩ ⟨rfl, rfl, rfl, rfl, trivial⟩ ⟨rfl, Nat.zero_le _, fun x h => by simp at h⟩ ?_
        rintro i st5 ⟨rfl, hi, halls⟩
        have hsl := slots_len (hbb a hbm)
        refine crr (by kernel_rfl) rfl ?_   -- region 9
        refine c_seq ?_
        refine c_if rfl (fun h29 => ?_) (fun h29 => ?_)
        · -- then
          have h29 := of_decide_eq_true h29
          have hsm : rd (slotsL l a) i ∈ slotsL l a := mem_rd (by omega)
          have hsin := slots_in (hbb a hbm) hsm
          obtain ⟨an, han, _, _⟩ := blocks_mem (hbb a hbm)
          refine c_skip ?_
          refine c_seq ?_
          refine c_block ?_
          refine c_rs (by kernel_rfl) ?_   -- region 10
          refine s_op rfl (oidx rfl rfl rfl (by omega) (by omega) ?_)
          refine s_op rfl (old rfl rfl (hs4.at_.rd (by omega) (by omega)) ?_)
          refine sra rfl ?_
          generalize hxe : rd (slotsL l a) (i : Int) = x at hsm hsin
          refine c_rs (by kernel_rfl) ?_   -- region 11
          refine sr 3 rfl ?_
          refine s_op rfl (oidx rfl rfl rfl (by omega) (by omega) ?_)
          refine s_op rfl (old rfl rfl ((hx.ex he4).rd (by omega) (by omega)) ?_)
          refine sra rfl ?_
          generalize hve : rd l x = v
          refine c_sj (α := Bool) (fun t => [(18, .sl rb 0 b.length), (19, I b.length), (20, I j), (26, .sl rs 0 (slotsL l a).length), (27, I (slotsL l a).length), (28, I i), (53, .bool t)]) (fun _ => [(2, 2, [.sl r o l.length]), (3, 3, [I p, .sl rg 0 g.length, .sl rb 0 b.length, I q])])
            (fun t st' => st4 = st' ∧ (t = true ↔ 4 ≤ v % 8 ∧ v / 8 ∉ g ∧ v / 8 ∉ b)) ?_ ?_
          · -- region 12
            refine cd1 [0, 1, 2, 3, 4, 5, 6, 7, 8, 9, 10, 11, 12, 13, 14, 15, 16] [.q, .f, .q, .q, .q, .q, .f, .f, .q, .q, .q, .q, .q, .f, .f, .q, .q] (by kernel_rfl) (by kernel_rfl) ?_
            refine sr 1 rfl ?_
            refine s_op rfl (o_pure loud_f rfl (hasPlace_c ..) ?_)
            refine sr 1 rfl ?_
            refine s_bool 39 rfl rfl (fun h39 => ?_) (fun h39 => ?_)
            · -- slot 39 true
              have h39 := of_decide_eq_true h39
              refine sr 3 rfl ?_
              refine s_op rfl (o_pure loud_f rfl (iNum_c ..) ?_)
              refine s_op rfl (o_pure loud_f rfl (Contains_c (hx := hg.ex he4) (hl := by omega) ..) ?_)
              refine sr 3 rfl ?_
              refine s_bool 47 rfl rfl (fun h47 => ?_) (fun h47 => ?_)
              · -- slot 47 true
                have h47 := nbt h47
                refine sr 2 rfl ?_
                refine s_op rfl (o_pure loud_f rfl (iNum_c ..) ?_)
                refine s_op rfl (o_pure loud_f rfl (isBlack_c (hb := hb.ex he4) (hs := hbs) (hl := by omega) ..) ?_)
                refine sra rfl ⟨_, ⟨rfl, rfl, rfl, rfl, rfl, rfl, rfl, trivial⟩, ⟨rfl, rfl, rfl, rfl, trivial⟩, rfl, fun h => ⟨h39, h47, nbt h⟩, fun h => (by rw [bdf.2 h.2.2]; rfl)⟩
              · -- slot 47 false
                have h47 := nbf h47
                exact sra rfl ⟨false, ⟨rfl, rfl, rfl, rfl, rfl, rfl, rfl, trivial⟩, ⟨rfl, rfl, rfl, rfl, trivial⟩, rfl, fun h => (by cases h), fun h => absurd h47 h.2.1⟩
            · -- slot 39 false
              have h39 := of_decide_eq_false h39
              refine sr 8 rfl ?_
              refine s_bool 47 rfl rfl (fun h47 => by cases h47) (fun h47 => ?_)
              exact sra rfl ⟨false, ⟨rfl, rfl, rfl, rfl, rfl, rfl, rfl, trivial⟩, ⟨rfl, rfl, rfl, rfl, trivial⟩, rfl, fun h => (by cases h), fun h => absurd h.1 h39⟩
          rintro t st5 ⟨rfl, ht⟩
          refine c_if rfl (fun h53 => ?_) (fun h53 => ?_)
          · -- then
            have h53 := ht.1 h53
            refine crr (by kernel_rfl) rfl ?_   -- region 13
            refine c_ret (fr rfl ?_)
            rw [bdf.2 (fun h : Tri l p g b q => by
              have := h.2 h16 a hbm x hsm
              rw [hve] at this
              exact (this h53.1).elim h53.2.1 h53.2.2)]
            rfl
          · -- else
            have h53 : 4 ≤ v % 8 → v / 8 ∈ g ∨ v / 8 ∈ b := fun h => Classical.byContradiction fun hc => by have := ht.2 ⟨h, fun h => hc (.inl h), fun h => hc (.inr h)⟩; rw [h53] at this; cases this
            refine c_skip ?_
            refine c_region (by kernel_rfl) ?_   -- region 14
            refine s_op rfl (o_ar rfl rfl rfl (by omega) (by omega) ?_)
            refine sra rfl ⟨i + 1, ⟨rfl, rfl, rfl, rfl, rfl, rfl, trivial⟩, ⟨rfl, rfl, rfl, rfl, trivial⟩, ⟨rfl, by omega, fun y hy hy4 => ?_⟩, by omega⟩
            obtain ⟨k, hk1, hk2, rfl⟩ := mem_take.1 hy
            by_cases e : k = i
            · subst e; rw [hxe, hve] at hy4 ⊢; exact h53 hy4
            · exact halls _ (mem_take.2 ⟨k, by omega, hk2, rfl⟩) hy4
        · -- else
          have h29 := of_decide_eq_false h29
          have hie : (slotsL l a).take i = slotsL l a := List.take_of_length_le (by omega)
          rw [hie] at halls
          refine c_exit ?_
          refine c_region (by kernel_rfl) ?_   -- region 15
          refine s_op rfl (o_ar rfl rfl rfl (by omega) (by omega) ?_)
          refine sra rfl ⟨j + 1, ⟨rfl, rfl, rfl, trivial⟩, ⟨rfl, rfl, rfl, rfl, trivial⟩, ⟨he4, by omega, fun a' ha' => ?_⟩, by omega⟩
          obtain ⟨k, hk1, hk2, rfl⟩ := mem_take.1 ha'
          by_cases e : k = j
          · subst e; rw [hae]; exact halls
          · exact hallb _ (mem_take.2 ⟨k, by omega, hk2, rfl⟩)
      · -- else
        have h21 := of_decide_eq_false h21
        have hie : b.take j = b := List.take_of_length_le (by omega)
        rw [hie] at hallb
        refine c_exit ?_
        refine crr (by kernel_rfl) rfl ?_   -- region 16
        refine c_ret (fr rfl ?_)
        rw [bdt.2 (show Tri l p g b q from ⟨h13, fun _ => hallb⟩)]
        rfl
theorem TriOk_c (p q : Int) (r rg rb : Option Nat) (o : Nat) (l g b : List Int) (st : St) (hx : At st r o l) (hl : l.length ≤ 1048576) (hg : At st rg 0 g) (hb : At st rb 0 b) (hlg : g.length ≤ 536870912) (hlb : b.length ≤ 536870912) :
    ACalls Try.prog 29 [.agg [.sl r o l.length], .agg [I p, .sl rg 0 g.length, .sl rb 0 b.length, I q]] st No (Pv (.bool (bd (Tri l p g b q)))) := by
  refine ent (N := 63) Try.func29 rfl (by decide) rfl rfl rfl ?_
  refine crr (by kernel_rfl) rfl ?_   -- region 0
  refine c_seq ?_
  refine c_rs (by kernel_rfl) ?_   -- region 1
  refine sr 2 rfl ?_
  refine s_op rfl (o_ex loud_n rfl (MarkerOk_c p q r rg rb o l g b _ hx hl hg hb hlg hlb) ?_)
  rintro v1 st1 rfl e1
  refine sra rfl ?_
  refine c_if rfl (fun h12 => ?_) (fun h12 => ?_)
  · -- then
    have h12 := nbt h12
    refine crr (by kernel_rfl) rfl ?_   -- region 2
    refine c_ret (fr rfl ?_)
    rw [bdf.2 (fun h : Tri l p g b q => h12 h.1)]
    rfl
  · -- else
    have h12 := nbf h12
    have hok := h12.1
    have hlen := okB_len hok
    have hbb := h12.black
    refine c_skip ?_
    refine c_seq ?_
    refine crr (by kernel_rfl) rfl ?_   -- region 3
    refine c_block ?_
    refine c_lp (α := Nat) (fun j => [(5, I j)]) (fun _ => [(2, 2, [.sl r o l.length]), (3, 3, [I p, .sl rg 0 g.length, .sl rb 0 b.length, I q])])
      (fun j st' => Ex st st' ∧ j ≤ b.length ∧ ∀ a ∈ b.take j, TriB l g b a) (fun j => b.length - j) 0 ⟨rfl, trivial⟩ ⟨rfl, rfl, rfl, rfl, trivial⟩ ⟨e1, Nat.zero_le _, fun a h => by simp at h⟩ ?_
    rintro j st2 ⟨he, hj, hallb⟩
    refine c_seq ?_
    refine c_sj (α := Bool) (fun t => [(5, I j), (22, .bool t)]) (fun _ => [(2, 2, [.sl r o l.length]), (3, 3, [I p, .sl rg 0 g.length, .sl rb 0 b.length, I q])])
      (fun t st' => st2 = st' ∧ (t = true ↔ j < b.length ∧ p = 1)) ?_ ?_
    · -- region 4
      refine c_region (by kernel_rfl) ?_
      refine sr 6 rfl ?_
      refine s_bool 18 rfl rfl (fun h18 => ?_) (fun h18 => ?_)
      · -- slot 18 true
        have h18 := of_decide_eq_true h18
        refine sra rfl ⟨_, ⟨rfl, rfl, trivial⟩, ⟨rfl, rfl, rfl, rfl, trivial⟩, rfl, ?_⟩
        show decide (p = 1) = true ↔ _
        rw [decide_eq_true_eq]
        exact ⟨fun h => ⟨by omega, h⟩, fun h => h.2⟩
      · -- slot 18 false
        have h18 := of_decide_eq_false h18
        exact sra rfl ⟨false, ⟨rfl, rfl, trivial⟩, ⟨rfl, rfl, rfl, rfl, trivial⟩, rfl, fun h => (by cases h), fun h => absurd h.1 (by omega)⟩
    rintro t st3 ⟨rfl, ht⟩
    refine c_if rfl (fun h22 => ?_) (fun h22 => ?_)
    · -- then
      obtain ⟨h22, hp1⟩ := ht.1 h22
      have hheap : Heap l := by rw [hp1] at h12; exact h12.heap
      have hbm : rd b j ∈ b := mem_rd (by omega)
      refine c_skip ?_
      refine c_seq ?_
      refine c_block ?_
      refine cds [0, 1, 2, 3, 4, 5, 6, 7] [.q, .q, .q, .q, .q, .q, .f, .q] (by kernel_rfl) (by kernel_rfl) ?_   -- region 6
      refine sr 4 rfl ?_
      refine s_op rfl (oidx rfl rfl rfl (by omega) (by omega) ?_)
      refine s_op rfl (old rfl rfl ((hb.ex he).rd (by omega) (by omega)) ?_)
      generalize hae : rd b (j : Int) = a at hbm
      refine s_op rfl (o_ex loud_f rfl (l3Slots_c _ _ _ _ _ (hx.ex he) (hbb a hbm)) ?_)
      rintro v4 st4 ⟨rs, rfl, hs4⟩ e4
      refine sra rfl ?_
      have he4 := he.tr e4
      refine crr (by kernel_rfl) rfl ?_   -- region 7
      refine c_block ?_
      refine c_lp (α := Nat) (fun i => [(5, I j), (6, .sl (some rs) 0 (slotsL l a).length), (7, I i)]) (fun _ => [(2, 2, [.sl r o l.length]), (3, 3, [I p, .sl rg 0 g.length, .sl rb 0 b.length, I q])])
        (fun i st' => st4 = st' ∧ i ≤ (slotsL l a).length ∧ ∀ x ∈ (slotsL l a).take i, 4 ≤ rd l x % 8 → rd l x / 8 ∈ g ∨ rd l x / 8 ∈ b) (fun i => (slotsL l a).length - i) 0 ⟨rfl, rfl, rfl, trivial⟩ ⟨rfl, rfl, rfl, rfl, trivial⟩ ⟨rfl, Nat.zero_le _, fun x h => by simp at h⟩ ?_
      rintro i st5 ⟨rfl, hi, halls⟩
      have hsl := slots_len (hbb a hbm)
      refine c_seq ?_
      refine crr (by kernel_rfl) rfl ?_   -- region 8
      refine c_if rfl (fun h35 => ?_) (fun h35 => ?_)
      · -- then
        have h35 := of_decide_eq_true h35
        have hsm : rd (slotsL l a) i ∈ slotsL l a := mem_rd (by omega)
        have hsin := slots_in (hbb a hbm) hsm
        obtain ⟨an, han, _, _⟩ := blocks_mem (hbb a hbm)
        refine c_skip ?_
        refine c_seq ?_
        refine c_block ?_
        refine cds [0, 1, 2, 3, 4, 5, 6, 7, 8, 9] [.q, .q, .q, .q, .q, .q, .q, .q, .f, .q] (by kernel_rfl) (by kernel_rfl) ?_   -- region 10
        refine sr 4 rfl ?_
        refine s_op rfl (oidx rfl rfl rfl (by omega) (by omega) ?_)
        refine s_op rfl (old rfl rfl (hs4.at_.rd (by omega) (by omega)) ?_)
        generalize hxe : rd (slotsL l a) (i : Int) = x at hsm hsin
        refine s_op rfl (oidx rfl rfl rfl (by omega) (by omega) ?_)
        refine s_op rfl (old rfl rfl ((hx.ex he4).rd (by omega) (by omega)) ?_)
        have hvb := slot_vb (hheap.2 a (hbb a hbm)) (hbb a hbm) hsm
        generalize hve : rd l x = v at hvb
        refine s_op rfl (o_pure loud_f rfl (l7Block_c ..) ?_)
        refine sra rfl ?_
        have hbv := blk_vb hvb
        refine c_sj (α := Bool) (fun t => [(5, I j), (6, .sl (some rs) 0 (slotsL l a).length), (7, I i), (62, .bool t)]) (fun _ => [(2, 2, [.sl r o l.length]), (3, 3, [I p, .sl rg 0 g.length, .sl rb 0 b.length, I q])])
          (fun t st' => st4 = st' ∧ (t = true ↔ 4 ≤ v % 8 ∧ v / 8 ∉ g ∧ v / 8 ∉ b)) ?_ ?_
        · -- region 11
          refine c_region (by kernel_rfl) ?_
          refine sr 3 rfl ?_
          refine s_bool 49 rfl rfl (fun h49 => ?_) (fun h49 => ?_)
          · -- slot 49 true
            have h49 := hbv.1 (of_decide_eq_true h49)
            have e5 := blk_pl h49
            refine sr 3 rfl ?_
            rw [e5]
            refine s_op rfl (o_pure loud_n rfl (l7In_c (hx := hg.ex he4) (hl := by omega) ..) ?_)
            refine sr 3 rfl ?_
            refine s_bool 56 rfl rfl (fun h56 => ?_) (fun h56 => ?_)
            · -- slot 56 true
              have h56 := nbt h56
              refine sr 3 rfl ?_
              refine s_op rfl (o_pure loud_n rfl (l7In_c (hx := hb.ex he4) (hl := by omega) ..) ?_)
              refine sra rfl ⟨_, ⟨rfl, rfl, rfl, rfl, trivial⟩, ⟨rfl, rfl, rfl, rfl, trivial⟩, rfl, fun h => ⟨h49, h56, nbt h⟩, fun h => (by rw [bdf.2 h.2.2]; rfl)⟩
            · -- slot 56 false
              have h56 := nbf h56
              exact sra rfl ⟨false, ⟨rfl, rfl, rfl, rfl, trivial⟩, ⟨rfl, rfl, rfl, rfl, trivial⟩, rfl, fun h => (by cases h), fun h => absurd h56 h.2.1⟩
          · -- slot 49 false
            have h49 := of_decide_eq_false h49
            rw [hbv] at h49
            refine sr 7 rfl ?_
            refine s_bool 56 rfl rfl (fun h56 => by cases h56) (fun h56 => ?_)
            exact sra rfl ⟨false, ⟨rfl, rfl, rfl, rfl, trivial⟩, ⟨rfl, rfl, rfl, rfl, trivial⟩, rfl, fun h => (by cases h), fun h => absurd h.1 h49⟩
        rintro t st5 ⟨rfl, ht2⟩
        refine c_if rfl (fun h62 => ?_) (fun h62 => ?_)
        · -- then
          have h62 := ht2.1 h62
          refine crr (by kernel_rfl) rfl ?_   -- region 12
          refine c_ret (fr rfl ?_)
          rw [bdf.2 (fun h : Tri l p g b q => by
            have := h.2 hp1 a hbm x hsm
            rw [hve] at this
            exact (this h62.1).elim h62.2.1 h62.2.2)]
          rfl
        · -- else
          have h62 : 4 ≤ v % 8 → v / 8 ∈ g ∨ v / 8 ∈ b := fun h => Classical.byContradiction fun hc => by have := ht2.2 ⟨h, fun h => hc (.inl h), fun h => hc (.inr h)⟩; rw [h62] at this; cases this
          refine c_skip ?_
          refine c_region (by kernel_rfl) ?_   -- region 9
          refine sr 1 rfl ?_
          refine s_op rfl (o_ar rfl rfl rfl (by omega) (by omega) ?_)
          refine sra rfl ⟨i + 1, ⟨rfl, rfl, rfl, trivial⟩, ⟨rfl, rfl, rfl, rfl, trivial⟩, ⟨rfl, by omega, fun y hy hy4 => ?_⟩, by omega⟩
          obtain ⟨k, hk1, hk2, rfl⟩ := mem_take.1 hy
          by_cases e : k = i
          · subst e; rw [hxe, hve] at hy4 ⊢; exact h62 hy4
          · exact halls _ (mem_take.2 ⟨k, by omega, hk2, rfl⟩) hy4
      · -- else
        have h35 := of_decide_eq_false h35
        have hie : (slotsL l a).take i = slotsL l a := List.take_of_length_le (by omega)
        rw [hie] at halls
        refine c_exit ?_
        refine c_region (by kernel_rfl) ?_   -- region 5
        refine sr 1 rfl ?_
        refine s_op rfl (o_ar rfl rfl rfl (by omega) (by omega) ?_)
        refine sra rfl ⟨j + 1, ⟨rfl, trivial⟩, ⟨rfl, rfl, rfl, rfl, trivial⟩, ⟨he4, by omega, fun a' ha' => ?_⟩, by omega⟩
        obtain ⟨k, hk1, hk2, rfl⟩ := mem_take.1 ha'
        by_cases e : k = j
        · subst e; rw [hae]; exact halls
        · exact hallb _ (mem_take.2 ⟨k, by omega, hk2, rfl⟩)
    · -- else
      refine c_exit ?_
      refine crr (by kernel_rfl) rfl ?_   -- region 13
      refine c_ret (fr rfl ?_)
      have hno : ¬ (j < b.length ∧ p = 1) := fun h => by have := ht.2 h; rw [h22] at this; cases this
      rw [bdt.2 (show Tri l p g b q from ⟨h12, fun hp a ha => hallb a (by
        rw [List.take_of_length_le (by
          rcases Nat.lt_or_ge j b.length with h | h
          · exact absurd ⟨h, hp⟩ hno
          · exact h)]; exact ha)⟩)]
      rfl
end Go.Proofs.YtmphklmhhcmbnaaW.Ax
