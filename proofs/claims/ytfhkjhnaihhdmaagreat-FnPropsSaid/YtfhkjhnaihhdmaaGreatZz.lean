/- A cell that is new, an object that is new; names: what comes of them. No program in sight. -/
import Derived.Test.YtfhkjhnaihhdmaaGreatZy
namespace Go.Proofs.YtfhkjhnaihhdmaaGreatW.Ax
open Go Go.RowKit Go.Proofs Go.Proofs.YtfhkjhnaihhdmaaGreat.Pure
set_option linter.unusedVariables false

/-- The names of an object. -/
def nmsL (l : List Int) (obj : Int) : List ByteArray := (cellsR l obj).1.map fun v => txt l (rd l (v / 8 + 1) / 8)
theorem cells_pth {l : List Int} {obj : Int} (hc : (cellsR l obj).2 = false) : Pth (nxC l) (rd l (obj / 8 + 2)) (cellsR l obj).1 ∧ (cellsR l obj).1.Nodup := by
  have h : chain (nxC l) stC (l.length + 1) (rd l (obj / 8 + 2)) [] = ((cellsR l obj).1, false) := by rw [← hc]; rfl
  obtain ⟨xs, h1, h2, _, h4⟩ := chain_pth _ _ _ _ h
  rw [List.nil_append] at h1
  rw [h1]; exact ⟨h2, h4⟩
theorem cells_of {l : List Int} {obj : Int} {xs : List Int} (h : Pth (nxC l) (rd l (obj / 8 + 2)) xs) (hn : xs.Nodup) (hl : xs.length ≤ l.length) : cellsR l obj = (xs, false) := by
  have := pth_chain xs (l.length + 1) (rd l (obj / 8 + 2)) [] h hn (fun x _ hx => by simp at hx) (by omega)
  rwa [List.nil_append] at this
theorem cells_lt {l : List Int} {obj : Int} (h : ObjIn l obj) : (cellsR l obj).1.length < l.length := by
  have := places_len h
  unfold places at this
  rwa [List.length_map] at this
/-- What comes of a new cell. -/
structure NcIn (l m : List Int) (obj name v c : Int) : Prop where
  heap : Heap m
  keep : Keeps l m
  cells : cellsR m obj = ((cellsR l obj).1 ++ [c], false)
  nm : ∀ x ∈ (cellsR l obj).1, rd m (x / 8 + 1) = rd l (x / 8 + 1)
  nmc : rd m (c / 8 + 1) = name
  vc : rd m (c / 8 + 2) = v
  txt : ∀ x ∈ blocks l, kindOf l x.toNat = 1 → Ax.txt m x = Ax.txt l x
theorem nc_in {l : List Int} {obj name v : Int} (h : ObjIn l obj) (hname : Rf l name 4 1) (hv : Plain l v) (hnc : (cellsR l obj).2 = false) (htk : tkO l 4 = true) : NcIn l (ncL l obj name v) obj name v (8 * tkA l 4 + 7) := by
  have hp := h.1
  obtain ⟨hpth, hnd⟩ := cells_pth hnc
  have hrf := cells_rf hp h.2
  generalize hxs : (cellsR l obj).1 = xs at hpth hnd hrf
  unfold tkO at htk
  obtain ⟨b0, hb0⟩ := Option.isSome_iff_exists.1 htk
  have hat := slot_at hb0
  obtain ⟨b, rfl⟩ : ∃ b : Nat, b0 = b := ⟨b0.toNat, by omega⟩
  have hA : tkA l 4 = b := by unfold tkA; rw [show ((4 : Nat) : Int) = 4 by rfl] at *; rw [hb0]; rfl
  obtain ⟨p, r, e, o1, o2, hget, s1, s2, h5, h6, s3⟩ := tk_all hp.1 (show 2 ≤ 4 by omega) (show (0 : Int) ≤ 3 ∧ (3 : Int) ≤ 5 by omega) hb0
  have hs := size_pos s3
  have how : ownN (size l b) 4 ≤ size l b ∧ 4 ≤ ownN (size l b) 4 ∧ ownN (size l b) 4 ≤ 5 := by unfold ownN; split <;> omega
  have hT : (tkL l 3 4).length = l.length := tkL_len l 3 4
  obtain ⟨T, hTd⟩ : ∃ T, T = ((tkL l 3 4).set (b + 1) name).set (b + 2) v := ⟨_, rfl⟩
  have hTl : T.length = l.length := by rw [hTd, List.length_set, List.length_set, hT]
  have hTget : ∀ j : Nat, T.getD j 0 = if j = b + 2 then v else if j = b + 1 then name else (tkL l 3 4).getD j 0 := fun j => by
    rw [hTd, getD_set_I _ _ _ _ (by rw [List.length_set]; omega), getD_set_I _ _ _ _ (by omega)]
  obtain ⟨q1, hk, q2, q3, q4, q5, q6, q7, q8, q9, q10, hall, hheap, _⟩ := take_heap hp (show 2 ≤ 4 by omega) (show (1 : Int) ≤ 3 ∧ (3 : Int) ≤ 5 by omega) hb0 hTl fun j hj => by
    rw [hTget, if_neg (by omega), if_neg (by omega)]
  have t1 : rd T ((b : Int) + 1) = name := by unfold rd; rw [show ((b : Int) + 1).toNat = b + 1 by omega, hTget, if_neg (by omega), if_pos rfl]
  have t2 : rd T ((b : Int) + 2) = v := by unfold rd; rw [show ((b : Int) + 2).toNat = b + 2 by omega, hTget, if_pos rfl]
  have t3 : rd T ((b : Int) + 3) = 0 := by unfold rd; rw [show ((b : Int) + 3).toNat = b + 3 by omega, hTget, if_neg (by omega), if_neg (by omega), hget, if_neg (by omega), if_pos (by omega)]
  have t4 : ownN (size l b) 4 = 5 → rd T ((b : Int) + 4) = 0 := fun e5 => by unfold rd; rw [show ((b : Int) + 4).toNat = b + 4 by omega, hTget, if_neg (by omega), if_neg (by omega), hget, if_neg (by omega), if_pos (by omega)]
  have hTh : Heap T := hheap (by
    unfold Shp
    rw [Int.toNat_natCast, q4, q5]
    refine ⟨fun h => by omega, fun h => by omega, fun _ => ⟨⟨⟨?_, by rw [t1]; exact hname.keep hk (by omega)⟩, by rw [t2]; exact hv.keep hk⟩, .inl t3⟩, fun h => by omega, fun h => by omega⟩
    unfold Spl
    rcases (show ownN (size l b) 4 = 4 ∨ ownN (size l b) 4 = 5 by omega) with e4 | e5
    · left; omega
    · right; exact ⟨by omega, t4 e5⟩)
  have hcr : Rf T (8 * (b : Int) + 7) 7 3 := ⟨by omega, (kat_of (by omega)).2 ⟨by rw [show (8 * (b : Int) + 7) / 8 = b by omega]; exact q3, by rw [show (8 * (b : Int) + 7) / 8 = b by omega, Int.toNat_natCast]; exact q4⟩⟩
  -- the link
  have hob := at_of h.2 (by omega)
  have hos := (rf_size hp h.2 (by omega) (by omega)).2 rfl
  have hcell : ∀ x ∈ xs, x % 8 = 7 ∧ x / 8 ∈ blocks l ∧ kindOf l (x / 8).toNat = 3 ∧ 4 ≤ size l (x / 8).toNat ∧ 0 ≤ x / 8 := fun x hx => by
    have h1 := at_of (hrf x hx) (by omega)
    exact ⟨(hrf x hx).1, h1.1, h1.2.2.2.2.1, (rf_size hp (hrf x hx) (by omega) (by omega)).1 rfl, h1.2.1⟩
  have hlk : (xs.getLast? = none ∧ lkP l obj = obj / 8 + 2) ∨ ∃ y, xs.getLast? = some y ∧ y ∈ xs ∧ lkP l obj = y / 8 + 3 := by
    unfold lkP
    rw [hxs]
    cases hy : xs.getLast? with
    | none => exact .inl ⟨rfl, rfl⟩
    | some y => exact .inr ⟨y, rfl, List.mem_of_getLast? hy, rfl⟩
  have hm : ncL l obj name v = T.set (lkP l obj).toNat (8 * (b : Int) + 7) := by
    unfold ncL
    rw [hA, hTd, show ((b : Int) + 1).toNat = b + 1 by omega, show ((b : Int) + 2).toNat = b + 2 by omega]
  have hset : ∃ a, SetOk T (ncL l obj name v) a ∧ ∀ i : Int, 0 ≤ i → rd (ncL l obj name v) i = if i = lkP l obj then 8 * (b : Int) + 7 else rd T i := by
    rw [hm]
    rcases hlk with ⟨_, e1⟩ | ⟨y, _, hy, e1⟩
    · rw [e1]; exact ⟨_, set_obj2 hTh (h.2.keep hk (by omega)) (.inr hcr)⟩
    · rw [e1]; exact ⟨_, set_cell3 hTh ((hrf y hy).keep hk (by omega)) (.inr hcr)⟩
  obtain ⟨a, hS, hr⟩ := hset
  have hlkin : ∃ c d : Int, lkP l obj = c + d ∧ c ∈ blocks l ∧ (0 ≤ d ∧ d < size l c.toNat) ∧ kindOf l c.toNat ≠ 0 ∧ (kindOf l c.toNat = 3 → d = 3) ∧ (kindOf l c.toNat = 2 → d = 2) := by
    rcases hlk with ⟨_, e1⟩ | ⟨y, _, hy, e1⟩
    · exact ⟨obj / 8, 2, e1, hob.1, by omega, by omega, by omega, fun _ => rfl⟩
    · have := hcell y hy
      exact ⟨y / 8, 3, e1, this.2.1, by omega, by omega, fun _ => rfl, by omega⟩
  obtain ⟨lc, ld, hl1, hl2, hl3, hl4, hl5, hl6⟩ := hlkin
  have hbm : (b : Int) ∈ blocks l := q6
  have hTx : ∀ x ∈ blocks l, x ≠ (b : Int) → ∀ d : Int, 0 ≤ d → d < size l x.toNat → rd T (x + d) = rd l (x + d) := fun x hx hne d hd1 hd2 => (hall x hx hne).2.2 _ (by omega) (by omega)
  have hxb : ∀ x ∈ xs, x / 8 ≠ (b : Int) := fun x hx e => by
    have := (hcell x hx).2.2.1
    rw [e, Int.toNat_natCast] at this; omega
  -- what is read of old cells
  have hold : ∀ x ∈ xs, ∀ d : Int, 0 ≤ d → d < 3 → rd (ncL l obj name v) (x / 8 + d) = rd l (x / 8 + d) := fun x hx d hd1 hd2 => by
    have hc := hcell x hx
    rw [hr _ (by omega), if_neg, hTx _ hc.2.1 (hxb x hx) d hd1 (by omega)]
    intro e
    have := same_block hp.1 hc.2.1 hl2 (i := d) (j := ld) (by omega) hl3 (by omega)
    have h3 := hl5 (by rw [← this]; exact hc.2.2.1)
    omega
  have hbn : ∀ d : Int, 0 ≤ d → d < 4 → rd (ncL l obj name v) ((b : Int) + d) = rd T ((b : Int) + d) := fun d hd1 hd2 => by
    rw [hr _ (by omega), if_neg]
    intro e
    have := same_block hp.1 hbm hl2 (i := d) (j := ld) (by rw [Int.toNat_natCast]; omega) hl3 (by omega)
    rw [← this, Int.toNat_natCast] at hl4
    exact hl4 h5
  have hnx : ∀ x ∈ xs, nxC (ncL l obj name v) x = if nxC l x = 0 then 8 * (b : Int) + 7 else nxC l x := fun x hx => by
    have hc := hcell x hx
    have h0 := pth_last hpth hnd hx
    have hl : lkP l obj = x / 8 + 3 ↔ nxC l x = 0 := by
      rw [h0]
      rcases hlk with ⟨e0, _⟩ | ⟨y, e0, hy, e1⟩
      · rw [List.getLast?_eq_none_iff] at e0
        rw [e0] at hx; simp at hx
      · rw [e0, e1]
        have := (hcell y hy).1
        constructor
        · intro e; congr 1; omega
        · intro e; obtain rfl := Option.some.inj e; rfl
    have e1 : nxC (ncL l obj name v) x = rd (ncL l obj name v) (x / 8 + 3) := rfl
    have e2 : nxC l x = rd l (x / 8 + 3) := rfl
    rw [e1, hr _ (by omega)]
    by_cases hz : nxC l x = 0
    · rw [if_pos hz, if_pos (hl.2 hz).symm]
    · rw [if_neg hz, if_neg (fun e => hz (hl.1 e.symm)), e2, hTx _ hc.2.1 (hxb x hx) 3 (by omega) (by omega)]
  have hnc' : nxC (ncL l obj name v) (8 * (b : Int) + 7) = 0 := by
    have e1 : nxC (ncL l obj name v) (8 * (b : Int) + 7) = rd (ncL l obj name v) ((8 * (b : Int) + 7) / 8 + 3) := rfl
    rw [e1, show (8 * (b : Int) + 7) / 8 = b by omega, hbn 3 (by omega) (by omega), t3]
  have hobne : obj / 8 ≠ (b : Int) := fun e => by
    have := hob.2.2.2.2.1
    rw [e, Int.toNat_natCast] at this; omega
  have hst : rd (ncL l obj name v) (obj / 8 + 2) = if rd l (obj / 8 + 2) = 0 then 8 * (b : Int) + 7 else rd l (obj / 8 + 2) := by
    have hl : lkP l obj = obj / 8 + 2 ↔ rd l (obj / 8 + 2) = 0 := by
      rw [pth_nil hpth]
      rcases hlk with ⟨e0, e1⟩ | ⟨y, e0, hy, e1⟩
      · rw [List.getLast?_eq_none_iff] at e0
        exact ⟨fun _ => e0, fun _ => e1⟩
      · constructor
        · intro e
          have hc := hcell y hy
          have := same_block hp.1 hc.2.1 hob.1 (i := 3) (j := 2) (by omega) (by omega) (by omega)
          have h3 := hc.2.2.1
          rw [this] at h3; omega
        · intro e; rw [e] at hy; simp at hy
    rw [hr _ (by omega)]
    by_cases hz : rd l (obj / 8 + 2) = 0
    · rw [if_pos hz, if_pos (hl.2 hz).symm]
    · rw [if_neg hz, if_neg (fun e => hz (hl.1 e.symm)), hTx _ hob.1 hobne 2 (by omega) (by omega)]
  have hcells : cellsR (ncL l obj name v) obj = (xs ++ [8 * (b : Int) + 7], false) := by
    refine cells_of ?_ ?_ ?_
    · rw [hst]; exact pth_snoc (by omega) hnc' hpth hnx
    · rw [List.nodup_append]
      refine ⟨hnd, by simp, fun x hx y hy e => ?_⟩
      obtain rfl : y = 8 * (b : Int) + 7 := by simpa using hy
      exact hxb x hx (by rw [e]; omega)
    · have := cells_lt h
      rw [hxs] at this
      rw [ncL_len, List.length_append]; simp; omega
  rw [hA]
  refine ⟨hS.heap, hk.trans hS.keep, by rw [hcells, hxs], fun x hx => hold x (by rwa [hxs] at hx) 1 (by omega) (by omega), ?_, ?_, fun x hx hkx => ?_⟩
  · rw [show (8 * (b : Int) + 7) / 8 = b by omega, hbn 1 (by omega) (by omega), t1]
  · rw [show (8 * (b : Int) + 7) / 8 = b by omega, hbn 2 (by omega) (by omega), t2]
  · have hne : x ≠ (b : Int) := fun e => by rw [e, Int.toNat_natCast, h5] at hkx; omega
    obtain ⟨a1, a2, a3⟩ := hall x hx hne
    have ht := txt_of hp hx hkx
    rw [hS.txt x (by exact a1) (by rw [(at_congr a2).1]; exact hkx)]
    exact txt_keep ht.1 (by omega) ht.2.2.2.2.1 a3
/-- An object that is new has no cells. -/
theorem on_in {l : List Int} {w : Int} (hp : Heap l) (hw : w = 1 ∨ Rf l w 5 2) (htk : tkO l 3 = true) : Heap (nwL l 2 3 w) ∧ Rf (nwL l 2 3 w) (nwV l 3 5) 5 2 ∧ rd (nwL l 2 3 w) (nwV l 3 5 / 8 + 2) = 0 := by
  have htk' := htk
  unfold tkO at htk
  obtain ⟨b0, hb0⟩ := Option.isSome_iff_exists.1 htk
  have hat := slot_at hb0
  obtain ⟨b, rfl⟩ : ∃ b : Nat, b0 = b := ⟨b0.toNat, by omega⟩
  have hA : tkA l 3 = b := by unfold tkA; rw [hb0]; rfl
  obtain ⟨p, r, e, o1, o2, hget, s1, s2, h5, h6, s3⟩ := tk_all hp.1 (show 2 ≤ 3 by omega) (show (0 : Int) ≤ 2 ∧ (2 : Int) ≤ 5 by omega) hb0
  have hs := size_pos s3
  have how : ownN (size l b) 3 ≤ size l b ∧ 3 ≤ ownN (size l b) 3 ∧ ownN (size l b) 3 ≤ 4 := by unfold ownN; split <;> omega
  have hT : (tkL l 2 3).length = l.length := tkL_len l 2 3
  have hm : nwL l 2 3 w = (tkL l 2 3).set (b + 1) w := by
    unfold nwL
    rw [htk', hA, show ((b : Int) + 1).toNat = b + 1 by omega]; rfl
  have hv : nwV l 3 5 = 8 * (b : Int) + 5 := by
    unfold nwV
    rw [htk', hA]; rfl
  rw [hm, hv]
  have hTget : ∀ j : Nat, ((tkL l 2 3).set (b + 1) w).getD j 0 = if j = b + 1 then w else (tkL l 2 3).getD j 0 := fun j => getD_set_I _ _ _ _ (by omega)
  obtain ⟨q1, hk, q2, q3, q4, q5, q6, q7, q8, q9, q10, hall, hheap, _⟩ := take_heap hp (show 2 ≤ 3 by omega) (show (1 : Int) ≤ 2 ∧ (2 : Int) ≤ 5 by omega) hb0 (m := (tkL l 2 3).set (b + 1) w) (by rw [List.length_set, hT]) fun j hj => by
    rw [hTget, if_neg (by omega)]
  have t1 : rd ((tkL l 2 3).set (b + 1) w) ((b : Int) + 1) = w := by unfold rd; rw [show ((b : Int) + 1).toNat = b + 1 by omega, hTget, if_pos rfl]
  have t2 : rd ((tkL l 2 3).set (b + 1) w) ((b : Int) + 2) = 0 := by unfold rd; rw [show ((b : Int) + 2).toNat = b + 2 by omega, hTget, if_neg (by omega), hget, if_neg (by omega), if_pos (by omega)]
  have t3 : ownN (size l b) 3 = 4 → rd ((tkL l 2 3).set (b + 1) w) ((b : Int) + 3) = 0 := fun e4 => by unfold rd; rw [show ((b : Int) + 3).toNat = b + 3 by omega, hTget, if_neg (by omega), hget, if_neg (by omega), if_pos (by omega)]
  refine ⟨hheap ?_, ⟨by omega, (kat_of (by omega)).2 ⟨by rw [show (8 * (b : Int) + 5) / 8 = b by omega]; exact q3, by rw [show (8 * (b : Int) + 5) / 8 = b by omega, Int.toNat_natCast]; exact q4⟩⟩, by rw [show (8 * (b : Int) + 5) / 8 = b by omega]; exact t2⟩
  unfold Shp
  rw [Int.toNat_natCast, q4, q5]
  refine ⟨fun h => by omega, fun _ => ⟨⟨?_, by rw [t1]; exact hw.imp id fun h => h.keep hk (by omega)⟩, .inl t2⟩, fun h => by omega, fun h => by omega, fun h => by omega⟩
  unfold Spl
  rcases (show ownN (size l b) 3 = 3 ∨ ownN (size l b) 3 = 4 by omega) with e3 | e4
  · left; omega
  · right; exact ⟨by omega, t3 e4⟩
theorem cells_nil {l : List Int} {obj : Int} (h : rd l (obj / 8 + 2) = 0) : cellsR l obj = ([], false) := cells_of (xs := []) h List.nodup_nil (Nat.zero_le _)
end Go.Proofs.YtfhkjhnaihhdmaaGreatW.Ax
