/- What is met, by the program: walked. -/
import Derived.Test.YtmphklmhhcmbnaaZh
namespace Go.Proofs.YtmphklmhhcmbnaaW.Ax
open Go Go.RowKit Go.Proofs Go.Proofs.Ytmphklmhhcmbnaa.Pure
set_option linter.unusedVariables false
set_option maxRecDepth 100000

theorem cell_lt {st : St} {r : Option Nat} {j i : Nat} {v : AV} (h : cell st r j = some v) (hr : r = some i) : i < st.n := by
  subst hr
  unfold cell at h
  simp only at h
  split at h
  · assumption
  · cases h
/-- What was there when the call began stays. -/
theorem At.over {st0 st1 : St} {r : Option Nat} {o : Nat} {xs : List Int} (h : At st0 r o xs) (he : Ext (fun i => st0.n ≤ i) st0 st1) : At st1 r o xs := fun j hj => cell_ext he (h j hj) fun i hi hn => by
  have := cell_lt (h j hj) hi
  omega
theorem Ex.over {st0 st1 : St} (h : Ex st0 st1) : Ext (fun i => st0.n ≤ i) st0 st1 := ⟨h.n, fun i hi _ => h.ob i hi id⟩
theorem Ext.over {T : Nat → Prop} {st0 st1 st2 : St} (h : Ext (fun i => st0.n ≤ i) st0 st1) (k : Ext T st1 st2) (hT : ∀ i, T i → st0.n ≤ i) : Ext (fun i => st0.n ≤ i) st0 st2 := h.trans k fun i _ ht => hT i ht

/-- The store while blocks are met: the map of those that are seen, their list. -/
structure MetS (n0 b1 b2 r : Nat) (q : Option Nat) (out : List Int) (st : St) : Prop where
  h1 : n0 ≤ b1 ∧ b1 < st.n ∧ st.ob b1 = .row true [.map r]
  hr : ∃ es, n0 ≤ r ∧ r < st.n ∧ st.ob r = .map es ∧ ∀ j, (mget es j).getD (.bool false) = .bool (decide (j ∈ out))
  h2 : n0 ≤ b2 ∧ b2 < st.n ∧ st.ob b2 = .row true [.sl q 0 out.length]
  hq : Fr n0 st q out
  b12 : b1 ≠ b2
theorem MetS.ex {n0 b1 b2 r : Nat} {q : Option Nat} {out : List Int} {st st' : St} (h : MetS n0 b1 b2 r q out st) (he : Ex st st') : MetS n0 b1 b2 r q out st' := by
  obtain ⟨⟨a1, a2, a3⟩, ⟨es, c1, c2, c3, c4⟩, ⟨d1, d2, d3⟩, hq, b12⟩ := h
  have := he.n
  exact ⟨⟨a1, by omega, by rw [he.ob b1 a2 id]; exact a3⟩, ⟨es, c1, by omega, by rw [he.ob r c2 id]; exact c3, c4⟩, ⟨d1, by omega, by rw [he.ob b2 d2 id]; exact d3⟩, hq.ex he, b12⟩
/-- One more value is met. -/
def MetP (n0 b1 b2 r : Nat) (q : Option Nat) (n : Nat) (out : List Int) : AV → St → Prop := fun v st' => v = .tup [] ∧ ∃ q', MetS n0 b1 b2 r q' out st' ∧ ∀ i, q' = some i → q = some i ∨ n ≤ i
theorem met1_c (n0 b1 b2 r : Nat) (q : Option Nat) (out : List Int) (v : Int) (st : St) (h : MetS n0 b1 b2 r q out st) (ho : out.length ≤ 2000) : ACalls Try.prog 87 [I v, .ptr (some b1) 0, .ptr (some b2) 0] st (fun i => i = r ∨ i = b2 ∨ q = some i) (MetP n0 b1 b2 r q st.n (ad out v)) := by
  obtain ⟨⟨a1, a2, a3⟩, ⟨es, c1, c2, c3, c4⟩, ⟨d1, d2, d3⟩, hq, b12⟩ := h
  have hrb1 : r ≠ b1 := fun e => by rw [e, a3] at c3; cases c3
  have hrb2 : r ≠ b2 := fun e => by rw [e, d3] at c3; cases c3
  have hqr : ∀ i, q = some i → i ≠ r := fun i hi e => by
    subst hi; subst e
    have := hq.ob.2.2; rw [c3] at this; cases this
  have hqb2 : ∀ i, q = some i → i ≠ b2 := fun i hi e => by
    subst hi; subst e
    have := hq.ob.2.2; rw [d3] at this
    injection this with _ this
    cases out with
    | nil => cases this
    | cons x out => injection this with this _; cases this
  have hqb1 : ∀ i, q = some i → i ≠ b1 := fun i hi e => by
    subst hi; subst e
    have := hq.ob.2.2; rw [a3] at this
    injection this with _ this
    cases out with
    | nil => cases this
    | cons x out => injection this with this _; cases this
  have hc1 : cell st (some b1) 0 = some (.map r) := by rw [cell_row a2 a3]; rfl
  have hc2 : cell st (some b2) 0 = some (.sl q 0 out.length) := by rw [cell_row d2 d3]; rfl
  refine ent (N := 21) Try.func87 rfl (by decide) rfl rfl rfl ?_
  refine c_sj (α := Bool) (fun b => [(0, I v), (1, .ptr (some b1) 0), (2, .ptr (some b2) 0), (12, .bool b)]) (fun _ => []) (fun b st' => st = st' ∧ (b = true ↔ 4 ≤ v % 8 ∧ v / 8 ∉ out)) ?_ ?_
  · refine cd1 [0, 1, 2, 3, 4, 5, 6, 7, 8] [.q, .f, .q, .q, .q, .f, .q, .q, .q] (by kernel_rfl) (by kernel_rfl) ?_   -- region 0
    refine sr 1 rfl ?_
    refine s_op rfl (o_pure loud_f rfl (hasPlace_c ..) ?_)
    refine sr 1 rfl ?_
    refine s_bool 6 rfl rfl (fun h6 => ?_) (fun h6 => ?_)
    · have h6 := of_decide_eq_true h6
      refine s_op rfl (old rfl rfl hc1 ?_)
      refine sr 1 rfl ?_
      refine s_op rfl (o_pure loud_f rfl (iNum_c ..) ?_)
      refine s_op rfl (omget (.bool false) (.bool false) rfl rfl rfl rfl (by kernel_rfl) (fun _ _ => rfl) rfl rfl c2 c3 _ (c4 _) ?_)
      refine sra rfl ⟨_, ⟨rfl, rfl, rfl, rfl, trivial⟩, trivial, rfl, ?_⟩
      exact ⟨fun h => ⟨h6, ndt h⟩, fun h => (by rw [decide_eq_false h.2]; rfl)⟩
    · have h6 := of_decide_eq_false h6
      refine sra rfl ⟨false, ⟨rfl, rfl, rfl, rfl, trivial⟩, trivial, rfl, ⟨fun h => (by cases h), fun h => absurd h.1 h6⟩⟩
  rintro b st1 ⟨rfl, hb⟩
  refine c_if rfl (fun h12 => ?_) (fun h12 => ?_)
  · have h12 := hb.1 h12
    have ea : ad out v = out ++ [v / 8] := by rw [ad, if_pos h12]
    refine cds [0, 1, 2, 3] [.q, .q, .f, .n] (by kernel_rfl) (by kernel_rfl) ?_   -- region 1
    refine s_op rfl (old rfl rfl hc1 ?_)
    refine sr 1 rfl ?_
    refine s_op rfl (o_pure loud_f rfl (iNum_c ..) ?_)
    refine s_op rfl (omput (v := .bool true) rfl rfl rfl rfl rfl rfl c2 (fun _ => .inl rfl) c3 rfl ?_)
    have e1 := ext_set st r (.map (mput es (v / 8) (.bool true)))
    have m1 : (st.set r (.map (mput es (v / 8) (.bool true)))).ob r = .map (mput es (v / 8) (.bool true)) := set_ob _ _ _
    have n1 : (st.set r (.map (mput es (v / 8) (.bool true)))).n = st.n := rfl
    have hc2' : cell (st.set r (.map (mput es (v / 8) (.bool true)))) (some b2) 0 = some (.sl q 0 out.length) := cell_ext e1 hc2 (fun i hi e => hrb2 (by injection hi with hi; omega))
    have hq1 : Fr n0 (st.set r (.map (mput es (v / 8) (.bool true)))) q out := hq.ext e1 (fun i hi e => hqr i hi e)
    have b1o : (st.set r (.map (mput es (v / 8) (.bool true)))).ob b1 = .row true [.map r] := by rw [set_ne _ _ _ (Ne.symm hrb1)]; exact a3
    generalize st.set r (.map (mput es (v / 8) (.bool true))) = st2 at e1 m1 n1 hc2' hq1 b1o ⊢
    refine s_end ?_
    refine cdt1 [0, 1, 2, 3, 4, 5] [.q, .q, .f, .f, .n, .n] (by kernel_rfl) (by kernel_rfl) ?_   -- region 2
    refine s_op rfl (old rfl rfl hc2' ?_)
    refine sr 1 rfl ?_
    refine s_op rfl (o_pure loud_f rfl (iNum_c ..) ?_)
    refine s_op rfl (oints [v / 8] loud_f rfl (by decide) rfl rfl rfl fun p st3 hp e3 => ?_)
    have hq3 := hq1.ex e3
    have hpb := hp.bd p rfl
    refine s_op rfl (oappT (fun i hi _ => .inr (.inr hi)) (by have := e3.n; omega) rfl rfl rfl hq3 rfl hp.at_ (by simp; omega) fun q2 st4 hq4 hn4 e4 => ?_)
    have e34 := e3.n
    have e45 := e4.n
    have r4 : st4.ob r = .map (mput es (v / 8) (.bool true)) := by rw [e4.ob r (by omega) (fun e => hqr _ e rfl), e3.ob r (by omega) id]; exact m1
    have b14 : st4.ob b1 = .row true [.map r] := by rw [e4.ob b1 (by omega) (fun e => hqb1 _ e rfl), e3.ob b1 (by omega) id]; exact b1o
    have b24 : st4.ob b2 = .row true [.sl q 0 out.length] := by
      rw [e4.ob b2 (by omega) (fun e => hqb2 _ e rfl), e3.ob b2 (by omega) id, e1.ob b2 d2 (fun e => hrb2 e.symm)]; exact d3
    refine s_op rfl (ost1 rfl rfl (by omega) (fun _ => .inr (.inl rfl)) b24 rfl rfl rfl ?_)
    refine s_end ?_
    refine frn rfl ⟨rfl, q2, ⟨⟨a1, ?_, ?_⟩, ⟨mput es (v / 8) (.bool true), c1, ?_, ?_, fun j => ?_⟩, ⟨d1, ?_, ?_⟩, ?_, b12⟩, fun i hi => ?_⟩
    · show b1 < st4.n; omega
    · rw [set_ne _ _ _ b12]; exact b14
    · show r < st4.n; omega
    · rw [set_ne _ _ _ hrb2]; exact r4
    · rw [mget_put, ea]
      by_cases hj : j = v / 8
      · rw [if_pos hj, decide_eq_true (by rw [hj]; simp)]; rfl
      · rw [if_neg hj, c4 j]
        congr 1
        exact decide_eq_decide.2 ⟨fun h => by simp [h], fun h => by
          rcases List.mem_append.1 h with h | h
          · exact h
          · exact absurd (List.mem_singleton.1 h) hj⟩
    · show b2 < st4.n; omega
    · rw [set_ob, ea]; rfl
    · rw [ea]
      exact hq4.ext (ext_set st4 b2 _) (fun i hi e => by have := hn4 i hi; omega)
    · right; have := hn4 i hi; omega
  · have h12 : ¬ (4 ≤ v % 8 ∧ v / 8 ∉ out) := fun h => by rw [hb.2 h] at h12; cases h12
    have ea : ad out v = out := by rw [ad, if_neg h12]
    refine c_skip ?_
    refine frn rfl ⟨rfl, q, ?_, fun i hi => .inl hi⟩
    rw [ea]
    exact ⟨⟨a1, a2, a3⟩, ⟨es, c1, c2, c3, c4⟩, ⟨d1, d2, d3⟩, hq, b12⟩
theorem met_c (r rr : Option Nat) (o or : Nat) (l rs : List Int) (st : St) (hx : At st r o l) (hy : At st rr or rs) (h : Rts l rs) (hlr : rs.length ≤ 1048576) : ACalls Try.prog 53 [.agg [.sl r o l.length], .sl rr or rs.length] st No (Rn st (ordL l rs)) := by
  have hp := h.1
  have hlen := okB_len hp.1
  refine ent (N := 51) Try.func53 rfl (by decide) rfl rfl rfl ?_
  refine crr (by kernel_rfl) rfl ?_   -- region 0
  refine c_rs (by kernel_rfl) ?_   -- region 1
  refine s_op rfl (oalloc1 loud_n rfl ?_)
  refine s_end ?_
  refine c_rs (by kernel_rfl) ?_   -- region 2
  refine s_op rfl (o_makeMap loud_n ?_)
  refine s_op rfl (oalloc1 loud_n rfl ?_)
  refine s_op rfl (ost1 rfl rfl (Nat.lt_succ_self _) (fun h => absurd h (by show ¬ (st.n + 1 + 1 < st.n); omega)) (push_ob _ _) rfl rfl rfl ?_)
  refine s_end ?_
  have hm0 : MetS st.n (st.n + 2) st.n (st.n + 1) none [] ((((st.push (.row true [Z.nil.av])).push (.map [])).push (.row true [Z.junk.av])).set (st.n + 1 + 1) (.row true [.map (st.n + 1)])) := by
    have hne1 : st.n + 1 ≠ st.n + 1 + 1 := by omega
    have hne0 : st.n ≠ st.n + 1 + 1 := by omega
    refine ⟨⟨by omega, Nat.lt_succ_self _, set_ob _ _ _⟩, ⟨[], by omega, ?_, ?_, fun j => rfl⟩, ⟨Nat.le_refl _, ?_, ?_⟩, fr_nil _ _, by omega⟩
    · show st.n + 1 < st.n + 1 + 1 + 1; omega
    · rw [set_ne _ _ _ hne1, push_old _ _ (show st.n + 1 < st.n + 1 + 1 by omega)]
      exact push_ob (st.push (.row true [Z.nil.av])) (.map [])
    · show st.n < st.n + 1 + 1 + 1; omega
    · rw [set_ne _ _ _ hne0, push_old _ _ (show st.n < st.n + 1 + 1 by omega), push_old _ _ (show st.n < st.n + 1 by omega)]
      exact push_ob st _
  have he0 : Ext (fun i => st.n ≤ i) st ((((st.push (.row true [Z.nil.av])).push (.map [])).push (.row true [Z.junk.av])).set (st.n + 1 + 1) (.row true [.map (st.n + 1)])) := by
    have h1 : Ext (fun i => st.n ≤ i) st (((st.push (.row true [Z.nil.av])).push (.map [])).push (.row true [Z.junk.av])) := ((ex_push st (.row true [Z.nil.av])).tr ((ex_push _ (.map [])).tr (ex_push _ _))).over
    exact h1.over (ext_set _ (st.n + 1 + 1) (.row true [.map (st.n + 1)])) (fun i e => by omega)
  refine crr (by kernel_rfl) rfl ?_   -- region 3
  refine c_seq ?_
  refine crr (by kernel_rfl) rfl ?_   -- region 4
  refine c_block ?_
  refine c_lp (α := Nat × Option Nat) (fun i => [(5, .ptr (some st.n) 0), (7, .fn 87 [.ptr (some (st.n + 1 + 1)) 0, .ptr (some st.n) 0]), (15, .sl rr or rs.length), (16, I rs.length), (17, I i.1)]) (fun _ => [(2, 2, [.sl r o l.length])])
    (fun i st' => i.1 ≤ rs.length ∧ Ext (fun i => st.n ≤ i) st st' ∧ MetS st.n (st.n + 2) st.n (st.n + 1) i.2 ((rs.take i.1).foldl ad []) st') (fun i => rs.length - i.1) (0, none) ⟨rfl, rfl, rfl, rfl, rfl, trivial⟩ ⟨rfl, rfl, trivial⟩ ⟨Nat.zero_le _, he0, hm0⟩ ?_
  rintro ⟨i, q⟩ st2 ⟨hi, he, hm⟩
  dsimp only at *
  have hol : ((rs.take i).foldl ad []).length ≤ 2000 := ((ord_nil l).all fun v hv => rts_vb h v (List.mem_of_mem_take hv)).len
  refine crr (by kernel_rfl) rfl ?_   -- region 5
  refine c_seq ?_
  refine c_if rfl (fun h18 => ?_) (fun h18 => ?_)
  · have h18 := of_decide_eq_true h18
    refine c_skip ?_
    refine c_seq ?_
    refine c_block ?_
    refine c_rs (by kernel_rfl) ?_   -- region 6
    refine s_op rfl (oidx rfl rfl rfl (by omega) (by omega) ?_)
    refine s_op rfl (old rfl rfl ((hy.over he).rd (by omega) (by omega)) ?_)
    refine sra rfl ?_
    refine c_region (by kernel_rfl) ?_   -- region 7
    refine sr 2 rfl ?_
    refine s_op rfl (o_call rfl (met1_c _ _ _ _ _ _ (rd rs i) _ hm hol) (fun j hj ht => absurd hj (by
      rcases ht with rfl | rfl | ht
      · omega
      · omega
      · have := hm.hq.bd j ht; omega)) (.inl rfl) ?_)
    rintro v3 st3 ⟨rfl, q3, hm3, hq3⟩ e3
    have he3 := he.over e3 (fun j ht => by
      rcases ht with rfl | rfl | ht
      · omega
      · omega
      · have := hm.hq.bd j ht; omega)
    refine s_end ?_
    refine c_region (by kernel_rfl) ?_   -- region 8
    refine s_op rfl (o_ar rfl rfl rfl (by omega) (by omega) ?_)
    rw [← foldl_rd _ _ _ (by omega)] at hm3
    exact sra rfl ⟨(i + 1, q3), ⟨rfl, rfl, rfl, rfl, rfl, trivial⟩, ⟨rfl, rfl, trivial⟩, ⟨by dsimp only; omega, he3, hm3⟩, by dsimp only; omega⟩
  · have h18 := of_decide_eq_false h18
    have hie : rs.take i = rs := List.take_of_length_le (by omega)
    rw [hie] at hm
    refine c_exit ?_
    refine c_seq ?_
    refine crr (by kernel_rfl) rfl ?_   -- region 9
    refine c_block ?_
    refine c_lp (α := Nat × Option Nat × List Int × Nat) (fun i => [(5, .ptr (some st.n) 0), (7, .fn 87 [.ptr (some (st.n + 1 + 1)) 0, .ptr (some st.n) 0]), (10, I i.1)]) (fun _ => [(2, 2, [.sl r o l.length])])
      (fun i st' => i.1 ≤ i.2.2.1.length ∧ Ext (fun i => st.n ≤ i) st st' ∧ MetS st.n (st.n + 2) st.n (st.n + 1) i.2.1 i.2.2.1 st' ∧ Bf l (ordL l rs) i.2.2.2 i.1 i.2.2.1) (fun i => i.2.2.2) (0, q, rs.foldl ad [], 2001) ⟨rfl, rfl, rfl, trivial⟩ ⟨rfl, rfl, trivial⟩ ⟨Nat.zero_le _, he, hm, bf_start h⟩ ?_
    rintro ⟨k, q, out, f⟩ st3 ⟨hk, he, hm, hbf⟩
    dsimp only at *
    obtain ⟨f, rfl⟩ := hbf.fuel hk
    have hol := hbf.ord.len
    have hcb : cell st3 (some st.n) 0 = some (.sl q 0 out.length) := by rw [cell_row hm.h2.2.1 hm.h2.2.2]; rfl
    refine c_seq ?_
    refine c_rs (by kernel_rfl) ?_   -- region 10
    refine sr 1 rfl ?_
    refine s_op rfl (old rfl rfl hcb ?_)
    refine sra rfl ?_
    refine c_if rfl (fun h28 => ?_) (fun h28 => ?_)
    · have h28 := of_decide_eq_true h28
      have hka := (hbf.ord.2 _ (mem_rd (show k < out.length by omega))).1
      have hsl := slots_len hka
      have hwl : (words l (slotsL l (rd out k))).length = (slotsL l (rd out k)).length := List.length_map _
      have hsv := slots_vb hp hka
      have hx3 := hx.over he
      refine c_skip ?_
      refine c_seq ?_
      refine c_block ?_
      refine cds [0, 1, 2, 3, 4, 7, 5, 6] [.q, .q, .q, .q, .q, .q, .f, .q] (by kernel_rfl) (by kernel_rfl) ?_   -- region 12
      refine sr 1 rfl ?_
      refine s_op rfl (old rfl rfl hcb ?_)
      refine sr 1 rfl ?_
      refine s_op rfl (oidx rfl rfl rfl (by omega) (by omega) ?_)
      refine s_op rfl (old rfl rfl (hm.hq.at_.rd (by omega) (by omega)) ?_)
      refine sr 1 rfl ?_
      refine s_op rfl (o_ex loud_f rfl (slots_c _ _ _ _ _ hx3 hka) ?_)
      rintro v4 st4 ⟨p, rfl, hps⟩ e4
      have he4 := he.over e4 (fun i h => h.elim)
      have hm4 := hm.ex e4
      refine sra rfl ?_
      refine c_block ?_
      refine c_lp (α := Nat × Option Nat) (fun i => [(5, .ptr (some st.n) 0), (7, .fn 87 [.ptr (some (st.n + 1 + 1)) 0, .ptr (some st.n) 0]), (10, I k), (36, .sl p 0 (slotsL l (rd out k)).length), (37, I (slotsL l (rd out k)).length), (38, I i.1)]) (fun _ => [(2, 2, [.sl r o l.length])])
        (fun i st' => i.1 ≤ (slotsL l (rd out k)).length ∧ Ext (fun i => st.n ≤ i) st st' ∧ MetS st.n (st.n + 2) st.n (st.n + 1) i.2 (((words l (slotsL l (rd out k))).take i.1).foldl ad out) st' ∧ Fr st3.n st' p (slotsL l (rd out k)) ∧ ∀ j, p = some j → i.2 ≠ some j) (fun i => (slotsL l (rd out k)).length - i.1) (0, q) ⟨rfl, rfl, rfl, rfl, rfl, rfl, trivial⟩ ⟨rfl, rfl, trivial⟩
        ⟨Nat.zero_le _, he4, hm4, hps, fun j hj e => by have := (hps.bd j hj).1; have := hm.hq.bd j e; omega⟩ ?_
      rintro ⟨i, q⟩ st5 ⟨hi, he, hm5, hps5, hpq⟩
      dsimp only at *
      have hol2 : (((words l (slotsL l (rd out k))).take i).foldl ad out).length ≤ 2000 := (hbf.ord.all fun v hv => hsv v (List.mem_of_mem_take hv)).len
      refine crr (by kernel_rfl) rfl ?_   -- region 13
      refine c_seq ?_
      refine c_if rfl (fun h39 => ?_) (fun h39 => ?_)
      · have h39 := of_decide_eq_true h39
        have hxm : rd (slotsL l (rd out k)) i ∈ slotsL l (rd out k) := mem_rd (by omega)
        have hin := slots_in hka hxm
        have hkb := block_at hka
        have hwr : rd (words l (slotsL l (rd out k))) i = rd l (rd (slotsL l (rd out k)) i) := by
          have : i < (slotsL l (rd out k)).length := by omega
          generalize slotsL l (rd out k) = sl at this
          simp [words, rd, List.getD, this]
        refine c_skip ?_
        refine c_seq ?_
        refine c_block ?_
        refine c_rs (by kernel_rfl) ?_   -- region 14
        refine s_op rfl (oidx rfl rfl rfl (by omega) (by omega) ?_)
        refine s_op rfl (old rfl rfl (hps5.at_.rd (by omega) (by omega)) ?_)
        refine sra rfl ?_
        refine c_region (by kernel_rfl) ?_   -- region 15
        refine sr 4 rfl ?_
        refine s_op rfl (oidx rfl rfl rfl (by omega) (by omega) ?_)
        refine s_op rfl (old rfl rfl ((hx.over he).rd (by omega) (by omega)) ?_)
        rw [← hwr]
        refine s_op rfl (o_call rfl (met1_c _ _ _ _ _ _ (rd (words l (slotsL l (rd out k))) i) _ hm5 hol2) (fun j hj ht => absurd hj (by
          rcases ht with rfl | rfl | ht
          · omega
          · omega
          · have := hm5.hq.bd j ht; omega)) (.inl rfl) ?_)
        rintro v6 st6 ⟨rfl, q6, hm6, hq6⟩ e6
        have he6 := he.over e6 (fun j ht => by
          rcases ht with rfl | rfl | ht
          · omega
          · omega
          · have := hm5.hq.bd j ht; omega)
        have hst3 := hm.hr
        have hps6 : Fr st3.n st6 p (slotsL l (rd out k)) := hps5.ext e6 (fun j hj ht => by
          have h3 := (hps5.bd j hj).1
          obtain ⟨_, _, hrn, _⟩ := hm.hr
          have h2n := hm.h2.2.1
          rcases ht with rfl | rfl | ht
          · omega
          · omega
          · exact hpq j hj ht)
        refine s_end ?_
        refine c_region (by kernel_rfl) ?_   -- region 16
        refine s_op rfl (o_ar rfl rfl rfl (by omega) (by omega) ?_)
        rw [← foldl_rd _ _ _ (by omega)] at hm6
        refine sra rfl ⟨(i + 1, q6), ⟨rfl, rfl, rfl, rfl, rfl, rfl, trivial⟩, ⟨rfl, rfl, trivial⟩, ⟨by dsimp only; omega, he6, hm6, hps6, fun j hj e => ?_⟩, by dsimp only; omega⟩
        rcases hq6 j e with h1 | h1
        · exact hpq j hj h1
        · have := (hps5.bd j hj).2; omega
      · have h39 := of_decide_eq_false h39
        have hie : (words l (slotsL l (rd out k))).take i = words l (slotsL l (rd out k)) := List.take_of_length_le (by omega)
        rw [hie] at hm5
        have hpre := ads_pre (words l (slotsL l (rd out k))) out
        refine c_exit ?_
        refine c_region (by kernel_rfl) ?_   -- region 11
        refine sr 1 rfl ?_
        refine s_op rfl (o_ar rfl rfl rfl (by omega) (by omega) ?_)
        refine sra rfl ⟨(k + 1, q, (words l (slotsL l (rd out k))).foldl ad out, f), ⟨rfl, rfl, rfl, trivial⟩, ⟨rfl, rfl, trivial⟩, ⟨?_, he, hm5, hbf.next hp (by omega)⟩, by dsimp only; omega⟩
        obtain ⟨r', hr'⟩ := hpre
        dsimp only
        rw [hr', List.length_append]; omega
    · have h28 := of_decide_eq_false h28
      have e : ordL l rs = out := by rw [← hbf.run]; exact bfs_end _ _ _ _ (by omega)
      refine c_exit ?_
      refine c_rs (by kernel_rfl) ?_   -- region 17
      refine s_op rfl (old rfl rfl hcb ?_)
      refine sra rfl ?_
      exact c_ret (fr rfl ⟨q, by rw [e], by rw [e]; exact hm.hq⟩)
end Go.Proofs.YtmphklmhhcmbnaaW.Ax
