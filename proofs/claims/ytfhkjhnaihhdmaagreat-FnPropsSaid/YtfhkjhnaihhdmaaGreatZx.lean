/- A text that is put into a heap: the heap stays right, the text is found, and is its bytes. No program in sight. -/
import Derived.Test.YtfhkjhnaihhdmaaGreatZw
import Derived.Test.YtfhkjhnaihhdmaaGreatQ5
import Derived.Test.YtfhkjhnaihhdmaaGreatQ3
namespace Go.Proofs.YtfhkjhnaihhdmaaGreatW.Ax
open Go Go.RowKit Go.Proofs Go.Proofs.YtfhkjhnaihhdmaaGreat.Pure
set_option linter.unusedVariables false

theorem wrB_get (l : List Int) (a : Nat) (t : ByteArray) : ∀ (k j : Nat), a + 2 + k ≤ l.length → (wrB l a t k).getD j 0 = if a + 2 ≤ j ∧ j < a + 2 + k then bt t (j - (a + 2) : Nat) else l.getD j 0
  | 0, j, _ => by rw [if_neg (by omega)]; rfl
  | k + 1, j, h => by
    rw [wrB, getD_set_I _ _ _ _ (by rw [wrB_len]; omega), wrB_get l a t k j (by omega)]
    by_cases h1 : j = a + 2 + k
    · rw [if_pos h1, if_pos (by omega), show j - (a + 2) = k by omega]
    · rw [if_neg h1]
      by_cases h2 : a + 2 ≤ j ∧ j < a + 2 + k
      · rw [if_pos h2, if_pos (by omega)]
      · rw [if_neg h2, if_neg (by omega)]
theorem bstr_data (ns : List Int) : (bstr ns).data.toList = ns.map fun n => UInt8.ofNat n.toNat := by
  have key : ∀ (ns : List Int) (s : ByteArray), (ns.foldl (fun r n => r.push (UInt8.ofNat n.toNat)) s).data.toList = s.data.toList ++ ns.map fun n => UInt8.ofNat n.toNat := by
    intro ns
    induction ns with
    | nil => intro s; simp
    | cons n ns ih => intro s; rw [List.foldl_cons, ih]; simp [ByteArray.push]
  have := key ns ByteArray.empty
  unfold bstr
  rw [this]; rfl
theorem bstr_bt (t : ByteArray) : bstr ((List.range t.size).map fun i : Nat => bt t i) = t := by
  apply ByteArray.ext
  apply Array.toList_inj.1
  rw [bstr_data, List.map_map]
  have hs : t.data.toList.length = t.size := Array.length_toList
  apply List.ext_getElem
  · simp
  · intro i h1 h2
    simp only [List.length_map, List.length_range] at h1
    simp only [List.getElem_map, List.getElem_range, Function.comp]
    have e : bt t (i : Int) = ((t.data.toList[i]).toNat : Int) := by
      unfold bt
      rw [Int.toNat_natCast]
      simp only [List.getD, List.getElem?_eq_getElem h2, Option.getD_some]
    rw [e, Int.toNat_natCast, UInt8.ofNat_toNat]
theorem tfind_some {l : List Int} {t : ByteArray} {b : Int} : ∀ {r : List Int}, tfind l t r = some b → b ∈ r ∧ kindOf l b.toNat = 1 ∧ txt l b = t
  | c :: r, h => by
    rw [tfind] at h
    split at h
    · rename_i hc
      obtain rfl := Option.some.inj h
      exact ⟨List.mem_cons_self, hc⟩
    · obtain ⟨h1, h2⟩ := tfind_some h
      exact ⟨List.mem_cons_of_mem _ h1, h2⟩
theorem tfind_none {l : List Int} {t : ByteArray} : ∀ {r : List Int}, tfind l t r = none → ∀ b ∈ r, ¬ (kindOf l b.toNat = 1 ∧ txt l b = t)
  | c :: r, h, b, hb => by
    rw [tfind] at h
    split at h
    · cases h
    · rename_i hc
      rcases List.mem_cons.1 hb with rfl | hb
      · exact hc
      · exact tfind_none h b hb
/-- A text block's bytes hang on its words alone. -/
theorem txt_keep {l m : List Int} {a n : Int} (ha : 0 ≤ a) (hn : 2 ≤ n) (ht : Txt l a n) (hw : ∀ i, a ≤ i → i < a + n → rd m i = rd l i) : txt m a = txt l a := by
  unfold txt
  have e1 : rd m (a + 1) = rd l (a + 1) := hw _ (by omega) (by omega)
  rw [e1]
  congr 1
  unfold tx
  refine List.map_congr_left fun i hi => ?_
  have hi : i < (rd l (a + 1)).toNat := by simpa using hi
  have := ht.1
  exact hw _ (by omega) (by omega)
/-- What a text that is put is. -/
structure TpIn (u : List Int) (v : Int) (t : ByteArray) : Prop where
  heap : Heap u
  ex : ∃ b : Int, v = 8 * b + 4 ∧ tfind u t (blocks u) = some b ∧ b ∈ blocks u ∧ kindOf u b.toNat = 1 ∧ txt u b = t
theorem tn_in {l : List Int} {t : ByteArray} (hp : Heap l) (h : tnO l t = true) : TpIn (tnL l t) (8 * tkA l (t.size + 2) + 4) t := by
  unfold tnO at h
  simp only [Bool.and_eq_true, Bool.not_eq_true', decide_eq_true_eq] at h
  obtain ⟨hf, h30, htk⟩ := h
  have hf : tfind l t (blocks l) = none := by
    cases hh : tfind l t (blocks l) with
    | none => rfl
    | some x => rw [hh] at hf; cases hf
  unfold tkO at htk
  obtain ⟨b0, hb0⟩ := Option.isSome_iff_exists.1 htk
  have hat := slot_at hb0
  obtain ⟨b, rfl⟩ : ∃ b : Nat, b0 = b := ⟨b0.toNat, by omega⟩
  have hA : tkA l (t.size + 2) = b := by unfold tkA; rw [hb0]; rfl
  obtain ⟨p, r, e, o1, o2, hget, s1, s2, h5, h6, s3⟩ := tk_all hp.1 (show 2 ≤ t.size + 2 by omega) (show (0 : Int) ≤ 1 ∧ (1 : Int) ≤ 5 by omega) hb0
  have hs := size_pos s3
  have how : ownN (size l b) (t.size + 2) ≤ size l b ∧ t.size + 2 ≤ ownN (size l b) (t.size + 2) := by unfold ownN; split <;> omega
  have hT : (tkL l 1 (t.size + 2)).length = l.length := tkL_len l 1 _
  have hmget : ∀ j : Nat, (tnL l t).getD j 0 = if b + 2 ≤ j ∧ j < b + 2 + t.size then bt t (j - (b + 2) : Nat) else if j = b + 1 then (t.size : Int) else (tkL l 1 (t.size + 2)).getD j 0 := fun j => by
    unfold tnL
    rw [hA, Int.toNat_natCast, show ((b : Int) + 1).toNat = b + 1 by omega, wrB_get _ _ _ _ _ (by rw [List.length_set]; omega), getD_set_I _ _ _ _ (by omega)]
  obtain ⟨q1, hk, q2, q3, q4, q5, q6, q7, q8, q9, q10, hall, hheap, p', r', r'', e1, e2, e3, e4⟩ := take_heap hp (show 2 ≤ t.size + 2 by omega) (show (1 : Int) ≤ 1 ∧ (1 : Int) ≤ 5 by omega) hb0 (tnL_len l t) fun j hj => by
    rw [hmget, if_neg (by omega), if_neg (by omega)]
  have r1 : rd (tnL l t) ((b : Int) + 1) = t.size := by
    unfold rd
    rw [show ((b : Int) + 1).toNat = b + 1 by omega, hmget, if_neg (by omega), if_pos rfl]
  have rc : ∀ i : Nat, i < t.size → rd (tnL l t) ((b : Int) + 2 + i) = bt t i := fun i hi => by
    unfold rd
    rw [show ((b : Int) + 2 + i).toNat = b + 2 + i by omega, hmget, if_pos (by omega), show b + 2 + i - (b + 2) = i by omega]
  have hTx : Txt (tnL l t) b (ownN (size l b) (t.size + 2) : Nat) := by
    refine ⟨by rw [r1]; omega, fun i hi1 hi2 => ?_, fun i hi1 hi2 => ?_⟩
    · rw [r1] at hi1
      unfold rd
      rw [hmget, if_neg (by omega), if_neg (by omega), hget, if_neg (by omega), if_pos (by omega)]
    · rw [r1] at hi2
      have := rc i.toNat (by omega)
      rw [show ((i.toNat : Nat) : Int) = i by omega] at this
      rw [this]
      exact bt_le _ _
  have hH : Heap (tnL l t) := hheap (by
    unfold Shp
    rw [Int.toNat_natCast, q4, q5]
    exact ⟨fun _ => hTx, fun h => by omega, fun h => by omega, fun h => by omega, fun h => by omega⟩)
  have hX : txt (tnL l t) b = t := by
    unfold txt
    rw [r1, Int.toNat_natCast]
    have : tx (tnL l t) b t.size = (List.range t.size).map fun i : Nat => bt t i := by
      unfold tx
      exact List.map_congr_left fun i hi => rc i (by simpa using hi)
    rw [this, bstr_bt]
  refine ⟨hH, b, by rw [hA], ?_, q3, by rw [Int.toNat_natCast]; exact q4, hX⟩
  rw [e2, tfind_app, tfind, if_pos ⟨by rw [Int.toNat_natCast]; exact q4, hX⟩]
  intro x hx hc
  have hxl : x ∈ blocks l := by rw [e1]; exact List.mem_append_left _ hx
  have hlt := e3 x hx
  obtain ⟨a1, a2, a3⟩ := hall x hxl (by omega)
  have hk1 : kindOf l x.toNat = 1 := by rw [← (at_congr a2).1]; exact hc.1
  have hto := txt_of hp hxl hk1
  refine tfind_none hf x hxl ⟨hk1, ?_⟩
  rw [← txt_keep hto.1 (by omega) hto.2.2.2.2.1 a3]
  exact hc.2
theorem tp_in {l : List Int} {t : ByteArray} (hp : Heap l) (h : tpO l t = true) : TpIn (tpL l t) (tpV l t) t := by
  cases hn : tnO l t with
  | true =>
    obtain ⟨h1, h2, _⟩ := tp_new hn
    rw [h1, h2]
    exact tn_in hp hn
  | false =>
    obtain ⟨h1, h2, h3⟩ := tp_old hn
    rw [h3] at h
    obtain ⟨b, hb⟩ := Option.isSome_iff_exists.1 h
    rw [h1, h2, hb]
    have := tfind_some hb
    exact ⟨hp, b, rfl, hb, this.1, this.2.1, this.2.2⟩
end Go.Proofs.YtfhkjhnaihhdmaaGreatW.Ax
