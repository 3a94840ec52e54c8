/- Whether a marker is right, by the program: walked. -/
import Derived.Test.YtmphklmhhcmbnaaZl
namespace Go.Proofs.YtmphklmhhcmbnaaW.Ax
open Go Go.RowKit Go.Proofs Go.Proofs.Ytmphklmhhcmbnaa.Pure
set_option linter.unusedVariables false
set_option maxRecDepth 100000

theorem kindOf_nn (l : List Int) (n : Nat) : 0 ≤ kindOf l n := by unfold kindOf; omega
theorem kat_pos {l : List Int} {a : Int} : 0 < kat l a ↔ a ∈ blocks l ∧ kindOf l a.toNat ≠ 0 := by
  unfold kat
  have := kindOf_nn l a.toNat
  split
  · rename_i h
    exact ⟨fun h' => ⟨h, by omega⟩, fun h' => by omega⟩
  · rename_i h
    exact ⟨fun h' => by omega, fun h' => absurd h'.1 h⟩
theorem kat_nn {l : List Int} {a : Int} : 0 ≤ kat l a ↔ a ∈ blocks l := by
  unfold kat
  have := kindOf_nn l a.toNat
  split
  · rename_i h; exact ⟨fun _ => h, fun _ => by omega⟩
  · rename_i h; exact ⟨fun h' => by omega, fun h' => absurd h' h⟩
theorem srt_lt {b : List Int} (hs : Srt b) (hn : b.Nodup) : b.Pairwise (· < ·) := by
  have key : ∀ j i : Nat, i < j → j < b.length → b.getD i 0 ≤ b.getD j 0 := by
    intro j
    induction j with
    | zero => intro i h; omega
    | succ j ih =>
      intro i hi hj
      have h1 := hs j hj
      rw [rd_nat, show (j : Int) + 1 = ((j + 1 : Nat) : Int) by omega, rd_nat] at h1
      by_cases e : i = j
      · subst e; exact h1
      · exact Int.le_trans (ih i (by omega) (by omega)) h1
  refine List.pairwise_iff_getElem.2 fun i j hi hj hij => ?_
  have h1 := key j i hij hj
  simp only [List.getD, List.getElem?_eq_getElem hi, List.getElem?_eq_getElem hj, Option.getD_some] at h1
  have h2 : b[i] ≠ b[j] := List.pairwise_iff_getElem.1 hn i j hi hj hij
  omega
theorem isBlack_c (p q x : Int) (rg rb : Option Nat) (og ng : Nat) (b : List Int) (st : St) (hb : At st rb 0 b) (hs : b.Pairwise (· < ·)) (hl : b.length ≤ 1099511627776) :
    ACalls Try.prog 69 [.agg [I p, .sl rg og ng, .sl rb 0 b.length, I q], I x] st No (Pure1 (.bool (bd (x ∈ b))) st) := by
  refine ent (N := 15) Try.func69 rfl (by decide) rfl rfl rfl ?_
  refine crr (by kernel_rfl) rfl ?_   -- region 0
  refine c_rs (by kernel_rfl) ?_   -- region 1
  refine sr 3 rfl ?_
  refine s_op rfl (o_ex loud_n rfl (BinarySearch_c _ _ _ _ _ hb hs hl) ?_)
  rintro v3 st3 ⟨k, rfl, _, rfl⟩ e3
  refine sra rfl ?_
  refine crr (by kernel_rfl) rfl ?_   -- region 2
  refine c_ret (fr rfl ⟨?_, rfl⟩)
  rw [← bd_dec]
/-- Places of blocks that are not free, none twice; Black ascends. -/
def Mem (l g b : List Int) : Prop := Ord l (g ++ b) ∧ Srt b
theorem mem_take {l : List Int} {i : Nat} {x : Int} : x ∈ l.take i ↔ ∃ j : Nat, j < i ∧ j < l.length ∧ rd l j = x := by
  constructor
  · intro h
    obtain ⟨j, hj, e⟩ := List.getElem_of_mem h
    rw [List.length_take] at hj
    refine ⟨j, by omega, by omega, ?_⟩
    rw [rd_nat, ← e]
    simp [List.getD, show j < l.length by omega]
  · rintro ⟨j, h1, h2, rfl⟩
    rw [rd_nat]
    have : (l.take i)[j]? = some (l.getD j 0) := by rw [List.getElem?_take, if_pos h1]; simp [List.getD, h2]
    exact List.mem_of_getElem? this
theorem ord_step {l xs : List Int} {i : Nat} (hi : i < xs.length) (h : Ord l (xs.take i)) (h1 : rd xs i ∈ blocks l ∧ kindOf l (rd xs i).toNat ≠ 0) (h2 : rd xs i ∉ xs.take i) : Ord l (xs.take (i + 1)) := by
  have e : xs.take (i + 1) = xs.take i ++ [rd xs i] := by
    rw [List.take_add_one, rd_nat]; simp [hi, List.getD]
  rw [e]
  refine ⟨List.nodup_append.2 ⟨h.1, by simp, fun a ha b hb e => ?_⟩, fun a ha => ?_⟩
  · rw [List.mem_singleton] at hb; subst hb; subst e; exact h2 ha
  · rcases List.mem_append.1 ha with ha | ha
    · exact h.2 a ha
    · rw [List.mem_singleton] at ha; subst ha; exact h1
theorem ord_not {l xs : List Int} {i : Nat} (hi : i < xs.length) (h : Ord l xs) : (rd xs i ∈ blocks l ∧ kindOf l (rd xs i).toNat ≠ 0) ∧ rd xs i ∉ xs.take i := by
  refine ⟨h.2 _ (mem_rd hi), fun hm => ?_⟩
  obtain ⟨j, h1, h2, e⟩ := mem_take.1 hm
  rw [rd_nat, rd_nat] at e
  simp only [List.getD, List.getElem?_eq_getElem hi, List.getElem?_eq_getElem h2, Option.getD_some] at e
  exact List.pairwise_iff_getElem.1 h.1 j i h2 hi h1 e
theorem membersOk_c (p q : Int) (r rg rb : Option Nat) (o n : Nat) (l g b : List Int) (st : St) (hx : At st r o (kindsL l)) (hn : n = l.length) (hl : l.length ≤ 2000) (hg : At st rg 0 g) (hb : At st rb 0 b) (hlg : g.length ≤ 1073741824) (hlb : b.length ≤ 1073741824) (hgb : (g ++ b).length ≤ 1073741824) :
    ACalls Try.prog 60 [.sl r o n, .agg [I p, .sl rg 0 g.length, .sl rb 0 b.length, I q]] st No (Pv (.bool (bd (Mem l g b)))) := by
  refine ent (N := 44) Try.func60 rfl (by decide) rfl rfl rfl ?_
  refine crr (by kernel_rfl) rfl ?_   -- region 0
  refine c_rs (by kernel_rfl) ?_   -- region 1
  refine s_op rfl (o_makeMap loud_n ?_)
  have e1 := ex_push st (.map [])
  have ob1 := push_ob st (.map [])
  have n1 : (st.push (.map [])).n = st.n + 1 := rfl
  generalize st.push (.map []) = st1 at e1 ob1 n1 ⊢
  refine sra rfl ?_
  refine c_seq ?_
  refine c_rs (by kernel_rfl) ?_   -- region 2
  refine sr 4 rfl ?_
  refine s_op rfl (oblk [.sl rg 0 g.length, .sl rb 0 b.length] loud_n rfl (by decide) rfl rfl fun qb st2 hc2 e2 => ?_)
  have hX : Rows st2 qb [g, b] := fun i hi => by
    match i, hi with
    | 0, _ => exact ⟨rg, hc2 0, (hg.ex e1).ex e2⟩
    | 1, _ => exact ⟨rb, hc2 1, (hb.ex e1).ex e2⟩
  refine s_op rfl (o_ex loud_n rfl (Concat_c qb [g, b] st2 hX (by simp) (by simpa using hgb)) ?_)
  have eX : [g, b].flatten = g ++ b := by simp
  rw [eX]
  rintro v3 st3 ⟨rx, rfl, hf⟩ e3
  refine sra rfl ?_
  have e123 := (e1.tr e2).tr e3
  have n3 := e123.n
  have ob3 : st3.ob st.n = .map [] := by
    have := e2.n
    rw [e3.ob st.n (by omega) id, e2.ob st.n (by omega) id]; exact ob1
  have hrx : ∀ i, rx = some i → i ≠ st.n := fun i hi e => by
    have := hf.bd i hi
    have := e2.n
    omega
  have hlt3 : st.n < st3.n := by have := e2.n; have := e3.n; omega
  generalize hxs : g ++ b = xs at hf hgb ⊢
  have hxs' : (xs.take 0) = [] := rfl
  refine c_block ?_
  refine c_lp (α := Nat) (fun i => [(0, .sl r o n), (5, .map st.n), (14, .sl rx 0 xs.length), (15, I xs.length), (16, I i)]) (fun _ => [(3, 3, [I p, .sl rg 0 g.length, .sl rb 0 b.length, I q])])
    (fun i st' => i ≤ xs.length ∧ Ext (fun i => st.n ≤ i) st st' ∧ Fr st2.n st' rx xs ∧ (st.n < st'.n ∧ ∃ es, st'.ob st.n = .map es ∧ ∀ j, (mget es j).getD (.bool false) = .bool (decide (j ∈ xs.take i))) ∧ Ord l (xs.take i)) (fun i => xs.length - i) 0
    ⟨rfl, rfl, rfl, rfl, rfl, trivial⟩ ⟨rfl, rfl, trivial⟩ ⟨Nat.zero_le _, e123.over, hf, ⟨hlt3, [], ob3, fun j => rfl⟩, ord_nil l⟩ ?_
  rintro i st4 ⟨hi, he, hf4, ⟨hlt, es, hm, hget⟩, hord⟩
  refine crr (by kernel_rfl) rfl ?_   -- region 3
  refine c_seq ?_
  refine c_if rfl (fun h17 => ?_) (fun h17 => ?_)
  · -- then
    have h17 := of_decide_eq_true h17
    refine c_skip ?_
    refine c_seq ?_
    refine c_block ?_
    refine c_rs (by kernel_rfl) ?_   -- region 4
    refine s_op rfl (oidx rfl rfl rfl (by omega) (by omega) ?_)
    refine s_op rfl (old rfl rfl (hf4.at_.rd (by omega) (by omega)) ?_)
    refine sra rfl ?_
    generalize hxe : rd xs (i : Int) = x
    refine c_seq ?_
    refine c_sj (α := Bool) (fun t => [(0, .sl r o n), (5, .map st.n), (7, I x), (14, .sl rx 0 xs.length), (15, I xs.length), (16, I i), (37, .bool t)]) (fun _ => [(3, 3, [I p, .sl rg 0 g.length, .sl rb 0 b.length, I q])])
      (fun t st' => st4 = st' ∧ (t = true ↔ ¬ ((x ∈ blocks l ∧ kindOf l x.toNat ≠ 0) ∧ x ∉ xs.take i))) ?_ ?_
    · -- region 5
      refine c_region (by kernel_rfl) ?_
      refine sr 3 rfl ?_
      refine s_op rfl (o_ar rfl rfl rfl (by omega) (by omega) ?_)
      refine s_op rfl (o_pure loud_n rfl (within_c ..) ?_)
      refine sr 2 rfl ?_
      refine s_bool 26 rfl rfl (fun h26 => ?_) (fun h26 => ?_)
      · -- slot 26 true
        have h26 := ndt h26
        refine sr 7 rfl ?_
        refine s_bool 33 rfl rfl (fun h33 => ?_) (fun h33 => by cases h33)
        refine sra rfl ⟨true, ⟨rfl, rfl, rfl, rfl, rfl, rfl, rfl, trivial⟩, ⟨rfl, rfl, trivial⟩, rfl, fun _ h => ?_, fun _ => rfl⟩
        obtain ⟨m, hm1, hm2, _⟩ := blocks_mem h.1.1
        exact h26 ⟨by omega, by omega⟩
      · -- slot 26 false
        have h26 := ndf h26
        refine sr 2 rfl ?_
        refine s_op rfl (oidx rfl rfl rfl (by omega) (by omega) ?_)
        refine s_op rfl (old rfl rfl ((hx.over he).rd (by omega) (by rw [kindsL_len]; omega)) ?_)
        rw [kindsL_rd _ _ (by omega) (by omega)]
        refine sr 3 rfl ?_
        refine s_bool 33 rfl rfl (fun h33 => ?_) (fun h33 => ?_)
        · -- slot 33 true
          have h33 := of_decide_eq_true h33
          refine sra rfl ⟨true, ⟨rfl, rfl, rfl, rfl, rfl, rfl, rfl, trivial⟩, ⟨rfl, rfl, trivial⟩, rfl, fun _ h => ?_, fun _ => rfl⟩
          have := kat_pos.2 h.1
          omega
        · -- slot 33 false
          have h33 := of_decide_eq_false h33
          have hk := kat_pos.1 (show 0 < kat l x by omega)
          refine sr 2 rfl ?_
          refine s_op rfl (omget (.bool false) (.bool false) rfl rfl rfl rfl (by kernel_rfl) (fun _ _ => rfl) rfl rfl hlt hm _ (hget _) ?_)
          refine sra rfl ⟨_, ⟨rfl, rfl, rfl, rfl, rfl, rfl, rfl, trivial⟩, ⟨rfl, rfl, trivial⟩, rfl, ?_⟩
          show decide (x ∈ xs.take i) = true ↔ _
          rw [decide_eq_true_eq]
          exact ⟨fun h hh => hh.2 h, fun h => Classical.byContradiction fun hc => h ⟨hk, hc⟩⟩
    rintro t st5 ⟨rfl, ht⟩
    refine c_if rfl (fun h37 => ?_) (fun h37 => ?_)
    · -- then
      have h37 := ht.1 h37
      refine crr (by kernel_rfl) rfl ?_   -- region 6
      refine c_ret (fr rfl ?_)
      have : ¬ Mem l g b := fun h => by
        have h := h.1
        rw [hxs] at h
        have := ord_not (show i < xs.length by omega) h
        rw [hxe] at this
        exact h37 this
      rw [bdf.2 this]
      rfl
    · -- else
      have h37 : (x ∈ blocks l ∧ kindOf l x.toNat ≠ 0) ∧ x ∉ xs.take i := Classical.byContradiction fun hc => by have := ht.2 hc; rw [h37] at this; cases this
      refine c_skip ?_
      refine c_region (by kernel_rfl) ?_   -- region 7
      refine sr 2 rfl ?_
      refine s_op rfl (omput (v := .bool true) rfl rfl rfl rfl rfl rfl hlt (fun h => absurd h (by omega)) hm rfl ?_)
      have e5 := ext_set st4 st.n (.map (mput es x (.bool true)))
      have m5 : (st4.set st.n (.map (mput es x (.bool true)))).ob st.n = .map (mput es x (.bool true)) := set_ob _ _ _
      have n5 : (st4.set st.n (.map (mput es x (.bool true)))).n = st4.n := rfl
      generalize st4.set st.n (.map (mput es x (.bool true))) = st5 at e5 m5 n5 ⊢
      refine s_end ?_
      refine c_region (by kernel_rfl) ?_   -- region 8
      refine s_op rfl (o_ar rfl rfl rfl (by omega) (by omega) ?_)
      have eT : xs.take (i + 1) = xs.take i ++ [x] := by
        rw [List.take_add_one, ← hxe, rd_nat]; simp [show i < xs.length by omega, List.getD]
      refine sra rfl ⟨i + 1, ⟨rfl, rfl, rfl, rfl, rfl, trivial⟩, ⟨rfl, rfl, trivial⟩, ⟨by omega, he.over e5 (fun k hk => by omega), hf4.ext e5 (fun k hk e => hrx k hk e), ⟨by omega, _, m5, fun j => ?_⟩, ord_step (by omega) hord (by rw [hxe]; exact h37.1) (by rw [hxe]; exact h37.2)⟩, by omega⟩
      rw [mget_put, eT]
      by_cases hj : j = x
      · rw [if_pos hj, decide_eq_true (by rw [hj]; simp)]; rfl
      · rw [if_neg hj, hget j]
        congr 1
        exact decide_eq_decide.2 ⟨fun h => by simp [h], fun h => by
          rcases List.mem_append.1 h with h | h
          · exact h
          · exact absurd (List.mem_singleton.1 h) hj⟩
  · -- else
    have h17 := of_decide_eq_false h17
    have hie : xs.take i = xs := List.take_of_length_le (by omega)
    rw [hie, ← hxs] at hord
    refine c_exit ?_
    refine c_rs (by kernel_rfl) ?_   -- region 9
    refine sr 2 rfl ?_
    refine s_op rfl (o_pure loud_n rfl (IsSorted_c (hx := hb.over he) (hl := by omega) ..) ?_)
    refine sra rfl ?_
    refine c_ret (fr rfl ?_)
    show AV.bool (bd _) = AV.bool (bd _)
    rw [bd_eq (P := Srt b) (Q := Mem l g b) ⟨fun h => ⟨hord, h⟩, fun h => h.2⟩]
/-- Whether a marker that sweeps is right. -/
def Swp (l g b : List Int) (q : Int) : Prop := g = [] ∧ (q = l.length ∨ q ∈ blocks l) ∧ (∀ a ∈ blocks l, a < q → kindOf l a.toNat ≠ 0 → a ∈ b) ∧ ∀ a ∈ b, Shp l a ∧ ∀ x ∈ slotsL l a, 4 ≤ rd l x % 8 → rd l x / 8 ∈ b
theorem sweepOk_c (p q : Int) (r rg rb : Option Nat) (ra : Nat) (o : Nat) (l g b : List Int) (st : St) (hx : At st r o l) (hk : At st (some ra) 0 (kindsL l)) (hok : okB l = true) (hb : At st rb 0 b) (hm : Mem l g b) (hlg : g.length ≤ 1073741824) (hlb : b.length ≤ 1073741824) (hq : W1 q) :
    ACalls Try.prog 62 [.agg [.sl r o l.length], .sl (some ra) 0 l.length, .agg [I p, .sl rg 0 g.length, .sl rb 0 b.length, I q]] st No (Pv (.bool (bd (Swp l g b q)))) := by
  have hlen := okB_len hok
  have hkl := kindsL_len l
  have hbn : b.Nodup := (List.nodup_append.1 hm.1.1).2.1
  have hbs := srt_lt hm.2 hbn
  have hbb : ∀ a ∈ b, a ∈ blocks l := fun a ha => (hm.1.2 a (List.mem_append_right _ ha)).1
  have hgl : g = [] ↔ ¬ (0 : Int) < g.length := by
    constructor
    · rintro rfl; simp
    · intro h; exact List.eq_nil_of_length_eq_zero (by omega)
  refine ent (N := 99) Try.func62 rfl (by decide) rfl rfl rfl ?_
  refine crr (by kernel_rfl) rfl ?_   -- region 0
  refine c_seq ?_
  refine c_sj (α := Bool) (fun t => [(1, .sl (some ra) 0 l.length), (43, .bool t)]) (fun _ => [(3, 3, [.sl r o l.length]), (5, 5, [I p, .sl rg 0 g.length, .sl rb 0 b.length, I q])])
    (fun t st' => st = st' ∧ (t = true ↔ ¬ (g = [] ∧ (q = l.length ∨ q ∈ blocks l)))) ?_ ?_
  · -- region 1
    refine c_region (by kernel_rfl) ?_
    refine sr 5 rfl ?_
    refine s_bool 18 rfl rfl (fun h18 => ?_) (fun h18 => ?_)
    · -- slot 18 true
      have h18 := of_decide_eq_true h18
      exact sra rfl ⟨true, ⟨rfl, rfl, trivial⟩, ⟨rfl, rfl, rfl, rfl, trivial⟩, rfl, fun _ h => hgl.1 h.1 h18, fun _ => rfl⟩
    · -- slot 18 false
      have h18 := hgl.2 (of_decide_eq_false h18)
      refine sr 7 rfl ?_
      refine s_bool 25 rfl rfl (fun h25 => ?_) (fun h25 => ?_)
      · -- slot 25 true
        have h25 := ndt h25
        refine sr 5 rfl ?_
        refine s_op rfl (o_ar rfl rfl rfl (by omega) (by omega) ?_)
        refine s_op rfl (o_pure loud_n rfl (within_c ..) ?_)
        refine sr 2 rfl ?_
        refine s_bool 34 rfl rfl (fun h34 => ?_) (fun h34 => ?_)
        · -- slot 34 true
          have h34 := ndt h34
          refine sra rfl ⟨true, ⟨rfl, rfl, trivial⟩, ⟨rfl, rfl, rfl, rfl, trivial⟩, rfl, fun _ h => ?_, fun _ => rfl⟩
          rcases h.2 with h | h
          · exact h25 h
          · obtain ⟨m, hm1, hm2, _⟩ := blocks_mem h
            exact h34 ⟨by omega, by omega⟩
        · -- slot 34 false
          have h34 := ndf h34
          refine sr 3 rfl ?_
          refine s_op rfl (oidx rfl rfl rfl (by omega) (by omega) ?_)
          refine s_op rfl (old rfl rfl (hk.rd (by omega) (by rw [hkl]; omega)) ?_)
          rw [kindsL_rd _ _ (by omega) (by omega)]
          refine sra rfl ⟨_, ⟨rfl, rfl, trivial⟩, ⟨rfl, rfl, rfl, rfl, trivial⟩, rfl, ?_⟩
          show decide (kat l q < 0) = true ↔ _
          rw [decide_eq_true_eq]
          exact ⟨fun h hh => hh.2.elim h25 fun hb' => by have := kat_nn.2 hb'; omega, fun h => Classical.byContradiction fun hc => h ⟨h18, .inr (kat_nn.1 (by omega))⟩⟩
      · -- slot 25 false
        have h25 := ndf h25
        exact sra rfl ⟨false, ⟨rfl, rfl, trivial⟩, ⟨rfl, rfl, rfl, rfl, trivial⟩, rfl, fun h => (by cases h), fun h => absurd ⟨h18, .inl h25⟩ h⟩
  rintro t st1 ⟨rfl, ht⟩
  refine c_if rfl (fun h43 => ?_) (fun h43 => ?_)
  · -- then
    have h43 := ht.1 h43
    refine crr (by kernel_rfl) rfl ?_   -- region 2
    refine c_ret (fr rfl ?_)
    rw [bdf.2 (fun h : Swp l g b q => h43 ⟨h.1, h.2.1⟩)]
    rfl
  · -- else
    have h43 : g = [] ∧ (q = l.length ∨ q ∈ blocks l) := Classical.byContradiction fun hc => by have := ht.2 hc; rw [h43] at this; cases this
    have hq0 : 0 ≤ q ∧ q ≤ l.length := by
      rcases h43.2 with h | h
      · omega
      · obtain ⟨m, hm1, hm2, _⟩ := blocks_mem h; omega
    obtain ⟨qn, rfl⟩ : ∃ qn : Nat, q = qn := ⟨q.toNat, by omega⟩
    refine c_skip ?_
    refine c_seq ?_
    refine c_rs (by kernel_rfl) ?_   -- region 3
    refine sr 3 rfl ?_
    refine s_op rfl (oslice rfl rfl rfl rfl (Int.le_refl _) (by omega) (by omega) ?_)
    refine sra rfl ?_
    refine c_block ?_
    have hkat : At st (some ra) 0 ((kindsL l).take qn) := by
      have := hk.cut 0 qn (by omega) (by omega)
      simpa using this
    have hkl2 : ((kindsL l).take qn).length = qn := by simp; omega
    refine c_lp (α := Nat) (fun i => [(1, .sl (some ra) 0 l.length), (47, .sl (some ra) 0 qn), (48, I qn), (49, I i)]) (fun _ => [(3, 3, [.sl r o l.length]), (5, 5, [I p, .sl rg 0 g.length, .sl rb 0 b.length, I qn])])
      (fun i st' => st = st' ∧ i ≤ qn ∧ ∀ j : Nat, j < i → 0 < kat l j → (j : Int) ∈ b) (fun i => qn - i) 0 ⟨rfl, rfl, rfl, rfl, trivial⟩ ⟨rfl, rfl, rfl, rfl, trivial⟩ ⟨rfl, Nat.zero_le _, fun j h => by omega⟩ ?_
    rintro i st1 ⟨rfl, hi, hall⟩
    refine crr (by kernel_rfl) rfl ?_   -- region 4
    refine c_seq ?_
    refine c_if rfl (fun h50 => ?_) (fun h50 => ?_)
    · -- then
      have h50 := of_decide_eq_true h50
      refine c_skip ?_
      refine c_seq ?_
      refine c_block ?_
      refine c_rs (by kernel_rfl) ?_   -- region 5
      refine sr 1 rfl ?_
      refine s_op rfl (oidx rfl rfl rfl (by omega) (by omega) ?_)
      refine s_op rfl (old rfl rfl (hk.rd (by omega) (by omega)) ?_)
      rw [kindsL_rd _ _ (by omega) (by omega)]
      refine sra rfl ?_
      refine c_sj (α := Bool) (fun t => [(1, .sl (some ra) 0 l.length), (47, .sl (some ra) 0 qn), (48, I qn), (49, I i), (61, .bool t)]) (fun _ => [(3, 3, [.sl r o l.length]), (5, 5, [I p, .sl rg 0 g.length, .sl rb 0 b.length, I qn])])
        (fun t st' => st = st' ∧ (t = true ↔ 0 < kat l i ∧ (i : Int) ∉ b)) ?_ ?_
      · -- region 6
        refine c_region (by kernel_rfl) ?_
        refine sr 3 rfl ?_
        refine s_bool 56 rfl rfl (fun h56 => ?_) (fun h56 => ?_)
        · -- slot 56 true
          have h56 := of_decide_eq_true h56
          refine sr 2 rfl ?_
          refine s_op rfl (o_pure loud_n rfl (isBlack_c (hb := hb) (hs := hbs) (hl := by omega) ..) ?_)
          refine sra rfl ⟨_, ⟨rfl, rfl, rfl, rfl, rfl, trivial⟩, ⟨rfl, rfl, rfl, rfl, trivial⟩, rfl, fun h => ⟨h56, nbt h⟩, fun h => (by rw [bdf.2 h.2]; rfl)⟩
        · -- slot 56 false
          have h56 := of_decide_eq_false h56
          refine sra rfl ⟨false, ⟨rfl, rfl, rfl, rfl, rfl, trivial⟩, ⟨rfl, rfl, rfl, rfl, trivial⟩, rfl, fun h => (by cases h), fun h => absurd h.1 h56⟩
      rintro t st1 ⟨rfl, ht⟩
      refine c_if rfl (fun h61 => ?_) (fun h61 => ?_)
      · -- then
        have h61 := ht.1 h61
        refine crr (by kernel_rfl) rfl ?_   -- region 7
        refine c_ret (fr rfl ?_)
        rw [bdf.2 (fun h : Swp l g b qn => h61.2 (h.2.2.1 i (kat_pos.1 h61.1).1 (by omega) (kat_pos.1 h61.1).2))]
        rfl
      · -- else
        have h61 : 0 < kat l i → (i : Int) ∈ b := fun h => Classical.byContradiction fun hc => by have := ht.2 ⟨h, hc⟩; rw [h61] at this; cases this
        refine c_skip ?_
        refine c_region (by kernel_rfl) ?_   -- region 8
        refine s_op rfl (o_ar rfl rfl rfl (by omega) (by omega) ?_)
        refine sra rfl ⟨i + 1, ⟨rfl, rfl, rfl, rfl, trivial⟩, ⟨rfl, rfl, rfl, rfl, trivial⟩, ⟨rfl, by omega, fun j hj h => ?_⟩, by omega⟩
        by_cases e : j = i
        · subst e; exact h61 h
        · exact hall j (by omega) h
    · -- else
      have h50 := of_decide_eq_false h50
      have hsw : ∀ a ∈ blocks l, a < (qn : Int) → kindOf l a.toNat ≠ 0 → a ∈ b := fun a ha h1 h2 => by
        obtain ⟨m, rfl, hm2, _⟩ := blocks_mem ha
        exact hall m (by omega) (kat_pos.2 ⟨ha, h2⟩)
      refine c_exit ?_
      refine c_seq ?_
      refine crr (by kernel_rfl) rfl ?_   -- region 9
      refine c_block ?_
      refine c_lp (α := Nat) (fun j => [(1, .sl (some ra) 0 l.length), (64, .sl rb 0 b.length), (65, I b.length), (66, I j)]) (fun _ => [(3, 3, [.sl r o l.length]), (5, 5, [I p, .sl rg 0 g.length, .sl rb 0 b.length, I qn])])
        (fun j st' => Ex st st' ∧ j ≤ b.length ∧ ∀ a ∈ b.take j, Shp l a ∧ ∀ x ∈ slotsL l a, 4 ≤ rd l x % 8 → rd l x / 8 ∈ b) (fun j => b.length - j) 0 ⟨rfl, rfl, rfl, rfl, trivial⟩ ⟨rfl, rfl, rfl, rfl, trivial⟩ ⟨Ext.refl _ _, Nat.zero_le _, fun a h => by simp at h⟩ ?_
      rintro j st1 ⟨he, hj, hallb⟩
      refine crr (by kernel_rfl) rfl ?_   -- region 10
      refine c_seq ?_
      refine c_if rfl (fun h67 => ?_) (fun h67 => ?_)
      · -- then
        have h67 := of_decide_eq_true h67
        have hbm : rd b j ∈ b := mem_rd (by omega)
        refine c_skip ?_
        refine c_seq ?_
        refine c_block ?_
        refine c_rs (by kernel_rfl) ?_   -- region 11
        refine s_op rfl (oidx rfl rfl rfl (by omega) (by omega) ?_)
        refine s_op rfl (old rfl rfl ((hb.ex he).rd (by omega) (by omega)) ?_)
        refine sra rfl ?_
        generalize hae : rd b (j : Int) = a at hbm
        refine c_seq ?_
        refine c_rs (by kernel_rfl) ?_   -- region 12
        refine sr 3 rfl ?_
        refine s_op rfl (o_ex loud_n rfl (shapeOk_c _ _ _ _ _ _ _ (hx.ex he) (hk.ex he) hok (hbb a hbm)) ?_)
        rintro v3 st3 rfl e3
        refine sra rfl ?_
        have he3 := he.tr e3
        refine c_if rfl (fun h74 => ?_) (fun h74 => ?_)
        · -- then
          have h74 := nbt h74
          refine crr (by kernel_rfl) rfl ?_   -- region 13
          refine c_ret (fr rfl ?_)
          rw [bdf.2 (fun h : Swp l g b qn => h74 (h.2.2.2 a hbm).1)]
          rfl
        · -- else
          have h74 := nbf h74
          refine c_skip ?_
          refine c_rs (by kernel_rfl) ?_   -- region 14
          refine sr 2 rfl ?_
          refine s_op rfl (o_ex loud_n rfl (slots_c _ _ _ _ _ (hx.ex he3) (hbb a hbm)) ?_)
          rintro v4 st4 ⟨rs, rfl, hs4⟩ e4
          refine sra rfl ?_
          have he4 := he3.tr e4
          refine c_block ?_
          refine c_lp (α := Nat) (fun i => [(1, .sl (some ra) 0 l.length), (64, .sl rb 0 b.length), (65, I b.length), (66, I j), (77, .sl rs 0 (slotsL l a).length), (78, I (slotsL l a).length), (79, I i)]) (fun _ => [(3, 3, [.sl r o l.length]), (5, 5, [I p, .sl rg 0 g.length, .sl rb 0 b.length, I qn])])
            (fun i st' => st4 = st' ∧ i ≤ (slotsL l a).length ∧ ∀ x ∈ (slotsL l a).take i, 4 ≤ rd l x % 8 → rd l x / 8 ∈ b) (fun i => (slotsL l a).length - i) 0 ⟨rfl, rfl, rfl, rfl, rfl, rfl, rfl, trivial⟩ ⟨rfl, rfl, rfl, rfl, trivial⟩ ⟨rfl, Nat.zero_le _, fun x h => by simp at h⟩ ?_
          rintro i st5 ⟨rfl, hi, halls⟩
          have hsl := slots_len (hbb a hbm)
          refine crr (by kernel_rfl) rfl ?_   -- region 15
          refine c_seq ?_
          refine c_if rfl (fun h80 => ?_) (fun h80 => ?_)
          · -- then
            have h80 := of_decide_eq_true h80
            have hsm : rd (slotsL l a) i ∈ slotsL l a := mem_rd (by omega)
            have hsin := slots_in (hbb a hbm) hsm
            obtain ⟨an, han, _, _⟩ := blocks_mem (hbb a hbm)
            refine c_skip ?_
            refine c_seq ?_
            refine c_block ?_
            refine c_rs (by kernel_rfl) ?_   -- region 16
            refine s_op rfl (oidx rfl rfl rfl (by omega) (by omega) ?_)
            refine s_op rfl (old rfl rfl (hs4.at_.rd (by omega) (by omega)) ?_)
            refine sra rfl ?_
            generalize hxe : rd (slotsL l a) (i : Int) = x at hsm hsin
            refine c_rs (by kernel_rfl) ?_   -- region 17
            refine sr 3 rfl ?_
            refine s_op rfl (oidx rfl rfl rfl (by omega) (by omega) ?_)
            refine s_op rfl (old rfl rfl ((hx.ex he4).rd (by omega) (by omega)) ?_)
            refine sra rfl ?_
            generalize hve : rd l x = v
            refine c_sj (α := Bool) (fun t => [(1, .sl (some ra) 0 l.length), (64, .sl rb 0 b.length), (65, I b.length), (66, I j), (77, .sl rs 0 (slotsL l a).length), (78, I (slotsL l a).length), (79, I i), (96, .bool t)]) (fun _ => [(3, 3, [.sl r o l.length]), (5, 5, [I p, .sl rg 0 g.length, .sl rb 0 b.length, I qn])])
              (fun t st' => st4 = st' ∧ (t = true ↔ 4 ≤ v % 8 ∧ v / 8 ∉ b)) ?_ ?_
            · -- region 18
              refine cd1 [0, 1, 2, 3, 4, 5, 6, 7, 8] [.q, .f, .q, .q, .q, .f, .f, .q, .q] (by kernel_rfl) (by kernel_rfl) ?_
              refine sr 1 rfl ?_
              refine s_op rfl (o_pure loud_f rfl (hasPlace_c ..) ?_)
              refine sr 1 rfl ?_
              refine s_bool 90 rfl rfl (fun h90 => ?_) (fun h90 => ?_)
              · -- slot 90 true
                have h90 := of_decide_eq_true h90
                refine sr 2 rfl ?_
                refine s_op rfl (o_pure loud_f rfl (iNum_c ..) ?_)
                refine s_op rfl (o_pure loud_f rfl (isBlack_c (hb := hb.ex he4) (hs := hbs) (hl := by omega) ..) ?_)
                refine sra rfl ⟨_, ⟨rfl, rfl, rfl, rfl, rfl, rfl, rfl, rfl, trivial⟩, ⟨rfl, rfl, rfl, rfl, trivial⟩, rfl, fun h => ⟨h90, nbt h⟩, fun h => (by rw [bdf.2 h.2]; rfl)⟩
              · -- slot 90 false
                have h90 := of_decide_eq_false h90
                refine sra rfl ⟨false, ⟨rfl, rfl, rfl, rfl, rfl, rfl, rfl, rfl, trivial⟩, ⟨rfl, rfl, rfl, rfl, trivial⟩, rfl, fun h => (by cases h), fun h => absurd h.1 h90⟩
            rintro t st5 ⟨rfl, ht⟩
            refine c_if rfl (fun h96 => ?_) (fun h96 => ?_)
            · -- then
              have h96 := ht.1 h96
              refine crr (by kernel_rfl) rfl ?_   -- region 19
              refine c_ret (fr rfl ?_)
              rw [bdf.2 (fun h : Swp l g b qn => by
                have := (h.2.2.2 a hbm).2 x hsm
                rw [hve] at this
                exact h96.2 (this h96.1))]
              rfl
            · -- else
              have h96 : 4 ≤ v % 8 → v / 8 ∈ b := fun h => Classical.byContradiction fun hc => by have := ht.2 ⟨h, hc⟩; rw [h96] at this; cases this
              refine c_skip ?_
              refine c_region (by kernel_rfl) ?_   -- region 20
              refine s_op rfl (o_ar rfl rfl rfl (by omega) (by omega) ?_)
              refine sra rfl ⟨i + 1, ⟨rfl, rfl, rfl, rfl, rfl, rfl, rfl, trivial⟩, ⟨rfl, rfl, rfl, rfl, trivial⟩, ⟨rfl, by omega, fun y hy hy4 => ?_⟩, by omega⟩
              obtain ⟨k, hk1, hk2, rfl⟩ := mem_take.1 hy
              by_cases e : k = i
              · subst e; rw [hxe, hve] at hy4 ⊢; exact h96 hy4
              · exact halls _ (mem_take.2 ⟨k, by omega, hk2, rfl⟩) hy4
          · -- else
            have h80 := of_decide_eq_false h80
            have hie : (slotsL l a).take i = slotsL l a := List.take_of_length_le (by omega)
            rw [hie] at halls
            refine c_exit ?_
            refine c_region (by kernel_rfl) ?_   -- region 21
            refine s_op rfl (o_ar rfl rfl rfl (by omega) (by omega) ?_)
            refine sra rfl ⟨j + 1, ⟨rfl, rfl, rfl, rfl, trivial⟩, ⟨rfl, rfl, rfl, rfl, trivial⟩, ⟨he4, by omega, fun a' ha' => ?_⟩, by omega⟩
            obtain ⟨k, hk1, hk2, rfl⟩ := mem_take.1 ha'
            by_cases e : k = j
            · subst e; rw [hae]; exact ⟨h74, halls⟩
            · exact hallb _ (mem_take.2 ⟨k, by omega, hk2, rfl⟩)
      · -- else
        have h67 := of_decide_eq_false h67
        have hie : b.take j = b := List.take_of_length_le (by omega)
        rw [hie] at hallb
        refine c_exit ?_
        refine crr (by kernel_rfl) rfl ?_   -- region 22
        refine c_ret (fr rfl ?_)
        rw [bdt.2 (show Swp l g b qn from ⟨h43.1, h43.2, hsw, hallb⟩)]
        rfl
/-- Whether a marker is right. -/
def MkOk (l : List Int) (p : Int) (g b : List Int) (q : Int) : Prop := okB l = true ∧ Mem l g b ∧ ((p = 0 ∧ Heap l ∧ q = 0 ∧ g = [] ∧ b = []) ∨ (p = 1 ∧ Heap l ∧ q = 0) ∨ (p = 2 ∧ Swp l g b q))
theorem len0 {b : List Int} : b = [] ↔ ((b.length : Nat) : Int) = 0 := by
  constructor
  · rintro rfl; simp
  · intro h; exact List.eq_nil_of_length_eq_zero (by omega)
theorem iMarkerOk_c (p q : Int) (r rg rb : Option Nat) (o : Nat) (l g b : List Int) (st : St) (hx : At st r o l) (hl : l.length ≤ 1048576) (hg : At st rg 0 g) (hb : At st rb 0 b) (hlg : g.length ≤ 536870912) (hlb : b.length ≤ 536870912) (hq : W1 q) :
    ACalls Try.prog 28 [.agg [.sl r o l.length], .agg [I p, .sl rg 0 g.length, .sl rb 0 b.length, I q]] st No (Pv (.bool (bd (MkOk l p g b q)))) := by
  refine ent (N := 55) Try.func28 rfl (by decide) rfl rfl rfl ?_
  refine crr (by kernel_rfl) rfl ?_   -- region 0
  refine c_rs (by kernel_rfl) ?_   -- region 1
  refine sr 1 rfl ?_
  refine s_op rfl (o_ex loud_n rfl (kindsB_c _ _ _ _ hx hl) ?_)
  rintro v1 st1 ⟨ra, rfl, hk⟩ e1
  refine sra rfl ?_
  have hkl := kindsL_len l
  refine c_seq ?_
  refine c_sj (α := Bool) (fun t => [(5, .sl (some ra) 0 (kindsL l).length), (16, .bool t)]) (fun _ => [(2, 2, [.sl r o l.length]), (3, 3, [I p, .sl rg 0 g.length, .sl rb 0 b.length, I q])])
    (fun t st' => Ex st1 st' ∧ (t = true ↔ ¬ (okB l = true ∧ Mem l g b))) ?_ ?_
  · -- region 2
    refine c_region (by kernel_rfl) ?_
    refine sr 1 rfl ?_
    refine s_op rfl (o_ex loud_n rfl (jSlabOk_c _ _ _ _ (hx.ex e1)) ?_)
    rintro v2 st2 rfl e2
    refine sr 2 rfl ?_
    refine s_bool 11 rfl rfl (fun h11 => ?_) (fun h11 => ?_)
    · -- slot 11 true
      have h11 : ¬ okB l = true := by simpa using h11
      exact sra rfl ⟨true, ⟨rfl, rfl, trivial⟩, ⟨rfl, rfl, rfl, rfl, trivial⟩, e2, fun _ h => h11 h.1, fun _ => rfl⟩
    · -- slot 11 false
      have h11 : okB l = true := by simpa using h11
      have hlen := okB_len h11
      refine sr 2 rfl ?_
      refine s_op rfl (o_ex loud_n rfl (membersOk_c p q _ rg rb _ _ l g b _ (hk.at_.ex e2) hkl hlen ((hg.ex e1).ex e2) ((hb.ex e1).ex e2) (by omega) (by omega) (by rw [List.length_append]; omega)) ?_)
      rintro v3 st3 rfl e3
      refine sra rfl ⟨_, ⟨rfl, rfl, trivial⟩, ⟨rfl, rfl, rfl, rfl, trivial⟩, e2.tr e3, ?_⟩
      show (!bd (Mem l g b)) = true ↔ _
      exact ⟨fun h hh => nbt h hh.2, fun h => (by rw [bdf.2 (fun hm => h ⟨h11, hm⟩)]; rfl)⟩
  rintro t st2 ⟨e2, ht⟩
  have e12 := e1.tr e2
  refine c_if rfl (fun h16 => ?_) (fun h16 => ?_)
  · -- then
    have h16 := ht.1 h16
    refine crr (by kernel_rfl) rfl ?_   -- region 3
    refine c_ret (fr rfl ?_)
    rw [bdf.2 (fun h : MkOk l p g b q => h16 ⟨h.1, h.2.1⟩)]
    rfl
  · -- else
    obtain ⟨hok, hm⟩ : okB l = true ∧ Mem l g b := Classical.byContradiction fun hc => by have := ht.2 hc; rw [h16] at this; cases this
    refine c_skip ?_
    refine c_seq ?_
    refine crr (by kernel_rfl) rfl ?_   -- region 4
    refine c_block ?_
    refine crr (by kernel_rfl) rfl ?_   -- region 5
    refine c_if rfl (fun h19 => ?_) (fun h19 => ?_)
    · -- then
      have h19 := of_decide_eq_true h19
      refine c_sj (α := Bool) (fun t => [(4, .bool t)]) (fun _ => []) (fun t _ => (t = true ↔ MkOk l p g b q)) ?_ ?_
      · -- region 6
        refine c_region (by kernel_rfl) ?_
        refine sr 1 rfl ?_
        refine s_op rfl (o_ex loud_n rfl (iHeapOk_c _ _ _ _ (hx.ex e12)) ?_)
        rintro v3 st3 rfl e3
        refine sr 1 rfl ?_
        refine s_bool 23 rfl rfl (fun h23 => ?_) (fun h23 => ?_)
        · -- slot 23 true
          have h23 := bdt.1 h23
          refine sr 5 rfl ?_
          refine s_bool 28 rfl rfl (fun h28 => ?_) (fun h28 => ?_)
          · -- slot 28 true
            have h28 := of_decide_eq_true h28
            refine sr 6 rfl ?_
            refine s_bool 34 rfl rfl (fun h34 => ?_) (fun h34 => ?_)
            · -- slot 34 true
              have h34 := of_decide_eq_true h34
              refine sra rfl ⟨_, ⟨rfl, trivial⟩, trivial, ?_⟩
              show decide (((b.length : Nat) : Int) = 0) = true ↔ _
              rw [decide_eq_true_eq, ← len0]
              exact ⟨fun h => ⟨hok, hm, .inl ⟨h19, h23, h28, len0.2 h34, h⟩⟩, fun h => by
                rcases h.2.2 with h | h | h
                · exact h.2.2.2.2
                · have := h.1; omega
                · have := h.1; omega⟩
            · -- slot 34 false
              have h34 := of_decide_eq_false h34
              refine sra rfl ⟨false, ⟨rfl, trivial⟩, trivial, fun h => (by cases h), fun h => ?_⟩
              exfalso
              rcases h.2.2 with h | h | h
              · exact h34 (len0.1 h.2.2.2.1)
              · have := h.1; omega
              · have := h.1; omega
          · -- slot 28 false
            have h28 := of_decide_eq_false h28
            refine sr 6 rfl ?_
            refine s_bool 34 rfl rfl (fun h34 => by cases h34) (fun h34 => ?_)
            refine sra rfl ⟨false, ⟨rfl, trivial⟩, trivial, fun h => (by cases h), fun h => ?_⟩
            exfalso
            rcases h.2.2 with h | h | h
            · exact h28 h.2.2.1
            · have := h.1; omega
            · have := h.1; omega
        · -- slot 23 false
          have h23 := bdf.1 h23
          refine sr 5 rfl ?_
          refine s_bool 28 rfl rfl (fun h28 => by cases h28) (fun h28 => ?_)
          refine sr 6 rfl ?_
          refine s_bool 34 rfl rfl (fun h34 => by cases h34) (fun h34 => ?_)
          refine sra rfl ⟨false, ⟨rfl, trivial⟩, trivial, fun h => (by cases h), fun h => ?_⟩
          exfalso
          rcases h.2.2 with h | h | h
          · exact h23 h.2.1
          · have := h.1; omega
          · have := h.1; omega
      rintro t st3 ht
      exact c_ret (fr rfl (abd ht))
    · -- else
      have h19 := of_decide_eq_false h19
      refine crr (by kernel_rfl) rfl ?_   -- region 7
      refine c_if rfl (fun h40 => ?_) (fun h40 => ?_)
      · -- then
        have h40 := of_decide_eq_true h40
        refine c_sj (α := Bool) (fun t => [(4, .bool t)]) (fun _ => []) (fun t _ => (t = true ↔ MkOk l p g b q)) ?_ ?_
        · -- region 8
          refine c_region (by kernel_rfl) ?_
          refine sr 1 rfl ?_
          refine s_op rfl (o_ex loud_n rfl (iHeapOk_c _ _ _ _ (hx.ex e12)) ?_)
          rintro v3 st3 rfl e3
          refine sr 1 rfl ?_
          refine s_bool 44 rfl rfl (fun h44 => ?_) (fun h44 => ?_)
          · -- slot 44 true
            have h44 := bdt.1 h44
            refine sra rfl ⟨_, ⟨rfl, trivial⟩, trivial, ?_⟩
            show decide (q = 0) = true ↔ _
            rw [decide_eq_true_eq]
            exact ⟨fun h => ⟨hok, hm, .inr (.inl ⟨h40, h44, h⟩)⟩, fun h => by
              rcases h.2.2 with h | h | h
              · exact h.2.2.1
              · exact h.2.2
              · have := h.1; omega⟩
          · -- slot 44 false
            have h44 := bdf.1 h44
            refine sra rfl ⟨false, ⟨rfl, trivial⟩, trivial, fun h => (by cases h), fun h => ?_⟩
            exfalso
            rcases h.2.2 with h | h | h
            · exact h19 h.1
            · exact h44 h.2.1
            · have := h.1; omega
        rintro t st3 ht
        exact c_ret (fr rfl (abd ht))
      · -- else
        have h40 := of_decide_eq_false h40
        refine crr (by kernel_rfl) rfl ?_   -- region 9
        refine c_if rfl (fun h49 => ?_) (fun h49 => ?_)
        · -- then
          have h49 := of_decide_eq_true h49
          rw [hkl]
          refine c_rs (by kernel_rfl) ?_   -- region 10
          refine sr 3 rfl ?_
          refine s_op rfl (o_ex loud_n rfl (sweepOk_c p q r rg rb ra o l g b _ (hx.ex e12) (hk.at_.ex e2) hok (hb.ex e12) hm (by omega) (by omega) hq) ?_)
          rintro v3 st3 rfl e3
          refine sra rfl ?_
          refine c_ret (fr rfl ?_)
          show AV.bool (bd _) = AV.bool (bd _)
          rw [bd_eq (P := Swp l g b q) (Q := MkOk l p g b q) ⟨fun h => ⟨hok, hm, .inr (.inr ⟨h49, h⟩)⟩, fun h => by
            rcases h.2.2 with h | h | h
            · exact absurd h.1 h19
            · exact absurd h.1 h40
            · exact h.2⟩]
        · -- else
          have h49 := of_decide_eq_false h49
          refine c_skip ?_
          refine crr (by kernel_rfl) rfl ?_   -- region 11
          refine c_ret (fr rfl ?_)
          rw [bdf.2 (fun h : MkOk l p g b q => by
            rcases h.2.2 with h | h | h
            · exact h19 h.1
            · exact h40 h.1
            · exact h49 h.1)]
          rfl
end Go.Proofs.YtmphklmhhcmbnaaW.Ax
