/- Properties of drawn objects (P5): the law, walked. -/
import Derived.Test.YtfhkjhnaihhdmaaGreatLProtos
namespace Go.Proofs.YtfhkjhnaihhdmaaGreatW.Ax
open Go Go.RowKit Go.Proofs Go.Proofs.YtfhkjhnaihhdmaaGreat.Pure
set_option linter.unusedVariables false
set_option maxRecDepth 100000

theorem kat_in1 {l : List Int} {a : Int} (h : kat l a = 1) : a ∈ blocks l ∧ kindOf l a.toNat = 1 := (kat_of (by omega)).1 h
theorem find_congr {p p' : Int → Bool} : ∀ {xs : List Int}, (∀ x ∈ xs, p' x = p x) → xs.find? p' = xs.find? p
  | [], _ => rfl
  | x :: xs, h => by rw [List.find?_cons, List.find?_cons, h x List.mem_cons_self, find_congr fun y hy => h y (List.mem_cons_of_mem _ hy)]
/-- What is set of an object: its own, looked up; its names, and one more at most. -/
structure PrIn (l t : List Int) (obj name v : Int) : Prop where
  heap : Heap t
  own : OwG t obj name = .tup [I v, .bool true]
  look : LookG t obj name = .tup [I v, .bool true]
  nam : namL t obj = namL l obj ∨ ∃ x, namL t obj = namL l obj ++ [x]
theorem pr_mk {l t : List Int} {obj name v c : Int} (hok : PtOk l obj name v) (hnc : (cellsR l obj).2 = false) (hp : Heap t) (hk : Keeps l t) (hc : ownC t obj name = some c) (hv : rd t (c / 8 + 2) = v) (hcc : (cellsR t obj).2 = false)
    (hn : nmsL t obj = nmsL l obj ∨ ∃ x, nmsL t obj = nmsL l obj ++ [x]) : PrIn l t obj name v := by
  have h5 : obj % 8 = 5 := by simpa [rd] using hok.2.2.1
  have ho : Leads t obj 5 := (hok.2.2.2.2 obj (by simp)).keep hk (.inl (by omega))
  have hnm : Leads t name 5 := (hok.2.2.2.2 name (by simp)).keep hk (.inl (by omega))
  have hw : OwOk t obj name := ⟨hok.1, by simpa [rd] using h5, hp, fun x hx => by
    rcases List.mem_cons.1 hx with rfl | hx
    · exact ho
    · rcases List.mem_cons.1 hx with rfl | hx
      · exact hnm
      · cases hx⟩
  have hl := own_look h5 hc
  have n1 : NmOk l obj := ⟨⟨h5, hok.2.2.2.1, fun x hx => by
    rcases List.mem_cons.1 hx with rfl | hx
    · exact hok.2.2.2.2 x (by simp)
    · cases hx⟩, hnc⟩
  have n2 : NmOk t obj := ⟨⟨h5, hp, fun x hx => by
    rcases List.mem_cons.1 hx with rfl | hx
    · exact ho
    · cases hx⟩, hcc⟩
  refine ⟨hp, ?_, ?_, by rw [nam_t n1, nam_t n2]; exact hn⟩
  · rw [OwG, gV_t hw, gO_t hw, ownV, hc]
    show AV.tup [I (rd t (c / 8 + 2)), .bool true] = _
    rw [hv]
  · rw [LookG, gV_t hw, gO_t hw, lookV, hl]
    show AV.tup [I (rd t (c / 8 + 2)), .bool true] = _
    rw [hv]
theorem pr_nm {l t : List Int} (hp : Heap l) {x : Int} (hx : Rf l x 7 3) (hn : rd t (x / 8 + 1) = rd l (x / 8 + 1)) (ht : ∀ x ∈ blocks l, kindOf l x.toNat = 1 → Ax.txt t x = Ax.txt l x) : txt t (rd t (x / 8 + 1) / 8) = txt l (rd l (x / 8 + 1) / 8) := by
  rw [hn]
  have h1 := (cell_at hp hx).2.2.2.2.2.1
  have h2 := kat_in1 h1.2
  exact ht _ h2.1 h2.2
theorem pr_set {l : List Int} {obj name v c : Int} (hok : PtOk l obj name v) (hnc : (cellsR l obj).2 = false) (hc : ownC l obj name = some c) (hv : Plain l v) : PrIn l (l.set (c / 8 + 2).toNat v) obj name v := by
  have h := pt_in hok
  have hp := h.1
  have hob := obj_at hp h.2
  have hos := (rf_size hp h.2 (by omega) (by omega)).2 rfl
  have hrf := cells_rf hp h.2
  have hcm : c ∈ (cellsR l obj).1 := List.mem_of_find?_eq_some hc
  have hcn : rd l (c / 8 + 1) = name := by have := List.find?_some hc; exact of_decide_eq_true this
  obtain ⟨S, hrd⟩ := set_cell2 hp (hrf c hcm) hv
  have hcb := cell_at hp (hrf c hcm)
  have hcs := (rf_size hp (hrf c hcm) (by omega) (by omega)).1 rfl
  have nx : ∀ x ∈ (cellsR l obj).1, ∀ d : Int, 0 ≤ d → d < 4 → d ≠ 2 → rd (l.set (c / 8 + 2).toNat v) (x / 8 + d) = rd l (x / 8 + d) := fun x hx d h0 h4 h2 => by
    have hb := cell_at hp (hrf x hx)
    have hs := (rf_size hp (hrf x hx) (by omega) (by omega)).1 rfl
    rw [hrd _ (by omega), if_neg]
    intro e
    have := same_block hp.1 hb.2.1 hcb.2.1 (i := d) (j := 2) (by omega) (by omega) e
    omega
  have ob : rd (l.set (c / 8 + 2).toNat v) (obj / 8 + 2) = rd l (obj / 8 + 2) := by
    rw [hrd _ (by omega), if_neg]
    intro e
    have e2 := same_block hp.1 hob.2.1 hcb.2.1 (i := 2) (j := 2) (by omega) (by omega) e
    have k1 := h.2.2
    have k2 := (hrf c hcm).2
    rw [e2, k2] at k1
    omega
  obtain ⟨hpth, hnd⟩ := cells_pth hnc
  have hcl := cells_lt h
  have hcells : cellsR (l.set (c / 8 + 2).toNat v) obj = ((cellsR l obj).1, false) := by
    refine cells_of ?_ hnd (by rw [List.length_set]; omega)
    rw [ob]
    exact pth_congr hpth fun x hx => nx x hx 3 (by omega) (by omega) (by omega)
  refine pr_mk (c := c) hok hnc S.heap S.keep ?_ (by rw [hrd _ (by omega), if_pos rfl]) (by rw [hcells]) (.inl ?_)
  · unfold ownC at hc ⊢
    rw [hcells]
    rw [← hc]
    refine find_congr fun x hx => ?_
    rw [nx x hx 1 (by omega) (by omega) (by omega)]
  · unfold nmsL
    rw [hcells]
    exact List.map_congr_left fun x hx => pr_nm hp (hrf x hx) (nx x hx 1 (by omega) (by omega) (by omega)) S.txt
theorem pr_new {l : List Int} {obj name v : Int} (hok : PtOk l obj name v) (hnc : (cellsR l obj).2 = false) (hc : ownC l obj name = none) (hv : Plain l v) (htk : tkO l 4 = true) : PrIn l (ncL l obj name v) obj name v := by
  have h := pt_in hok
  have hrf := cells_rf h.1 h.2
  have hname : Rf l name 4 1 := (leads_rf (hok.2.2.2.2 name (by simp))).1 hok.1
  have N := nc_in h hname hv hnc htk
  refine pr_mk (c := 8 * tkA l 4 + 7) hok hnc N.heap N.keep ?_ N.vc (by rw [N.cells]) (.inr ⟨txt (ncL l obj name v) (rd (ncL l obj name v) ((8 * tkA l 4 + 7) / 8 + 1) / 8), ?_⟩)
  · unfold ownC at hc ⊢
    rw [N.cells]
    show List.find? _ ((cellsR l obj).1 ++ [8 * tkA l 4 + 7]) = _
    rw [List.find?_append]
    have e : (cellsR l obj).1.find? (fun w => decide (rd (ncL l obj name v) (w / 8 + 1) = name)) = none := by
      rw [← hc]
      exact find_congr fun x hx => by rw [N.nm x hx]
    rw [e, Option.none_or, List.find?_cons, decide_eq_true N.nmc]
  · unfold nmsL
    rw [N.cells]
    show List.map _ ((cellsR l obj).1 ++ [8 * tkA l 4 + 7]) = _
    rw [List.map_append]
    congr 1
    exact List.map_congr_left fun x hx => pr_nm h.1 (hrf x hx) (N.nm x hx) N.txt
theorem pq_in {l : List Int} {obj name v : Int} (h : pqO l obj name v = true) : PrIn l (pqL l obj name v) obj name v := by
  by_cases hok : PtOk l obj name v
  · unfold pqO at h
    rw [gO_t hok] at h
    have hc : (cellsR l obj).2 = false := by
      cases hc : (cellsR l obj).2 with
      | false => rfl
      | true => rw [(pset_t (name := name) (v := v) hc).2.2] at h; cases h
    obtain ⟨a1, _, a3⟩ := pset_f (name := name) (v := v) hc
    rw [a3] at h
    have e : pqL l obj name v = ptL l obj name v := by unfold pqL; rw [gL_t hok, a1]
    rw [e]
    have hv : Plain l v := ⟨hok.2.1, by
      have := hok.2.2.2.2 v (by simp)
      exact ⟨this.1, this.2.1, this.2.2.1, this.2.2.2.1, fun h7 => absurd h7 hok.2.1⟩⟩
    unfold ptL
    unfold ptO at h
    cases ho : ownC l obj name with
    | some c => exact pr_set hok hc ho hv
    | none =>
      rw [ho] at h
      have h : tkO l 4 = true := h
      show PrIn l (cond (tkO l 4) (ncL l obj name v) l) obj name v
      rw [h]
      exact pr_new hok hc ho hv h
  · unfold pqO at h; rw [gO_f hok] at h; cases h
theorem pq_no {l : List Int} {obj name v : Int} (h : pqO l obj name v = false) : pqL l obj name v = [] ∨ pqL l obj name v = l := by
  by_cases hok : PtOk l obj name v
  · unfold pqO at h
    rw [gO_t hok] at h
    unfold pqL
    rw [gL_t hok]
    cases hc : (cellsR l obj).2 with
    | true => rw [(pset_t (name := name) (v := v) hc).1]; exact .inr rfl
    | false =>
      obtain ⟨a1, _, a3⟩ := pset_f (name := name) (v := v) hc
      rw [a3] at h
      rw [a1]
      unfold ptO at h
      unfold ptL
      cases ho : ownC l obj name with
      | some c => rw [ho] at h; cases h
      | none =>
        rw [ho] at h
        have h : tkO l 4 = false := h
        show cond (tkO l 4) (ncL l obj name v) l = [] ∨ cond (tkO l 4) (ncL l obj name v) l = l
        rw [h]; exact .inr rfl
  · unfold pqL
    rw [gL_f hok]
    by_cases hz : Heap l
    · exact .inr (zl_t hz)
    · exact .inl (zl_f hz)
theorem bSn1 {s : ByteArray} : RV.v (.bool (!(s.toList == s.toList))) = .v (.bool false) := by simp
theorem sameTexts_t (r r' : Option Nat) (o o' : Nat) (l : List ByteArray) (st : St) (hx : AtT st r o l) (hy : AtT st r' o' l) (hl : l.length ≤ 1099511627776) : ACalls Tryz.prog 48 [.sl r o l.length, .sl r' o' l.length] st No (Pure1 (.bool true) st) := by
  refine ent (N := 26) Tryz.func48 rfl (by decide) rfl rfl rfl ?_
  refine crr (by kernel_rfl) rfl ?_   -- region 0
  refine c_seq ?_
  refine crr (by kernel_rfl) rfl ?_   -- region 1
  refine c_if rfl (fun h10 => ?_) (fun h10 => ?_)
  · -- then
    exact absurd h10 (by simp)
  · -- else
    refine c_skip ?_
    refine c_seq ?_
    refine crr (by kernel_rfl) rfl ?_   -- region 3
    refine c_block ?_
    refine c_lp (α := Nat) (fun i => [(0, .sl r o l.length), (1, .sl r' o' l.length), (5, I i)]) (fun i => []) (fun i st' => st = st' ∧ i ≤ l.length) (fun i => l.length - i) 0 ⟨rfl, rfl, rfl, trivial⟩ trivial ⟨rfl, by omega⟩ ?_
    rintro i st' ⟨rfl, hi⟩
    refine c_seq ?_
    refine crr (by kernel_rfl) rfl ?_   -- region 4
    refine c_if rfl (fun h14 => ?_) (fun h14 => ?_)
    · -- then
      have h14 := of_decide_eq_true h14
      refine c_skip ?_
      refine c_seq ?_
      refine c_block ?_
      refine cds [0, 1, 2, 3, 4, 5, 6, 7, 8] [.q, .q, .q, .q, .q, .q, .q, .q, .q] (by kernel_rfl) (by kernel_rfl) ?_   -- region 6
      refine sr 2 rfl ?_
      refine s_op rfl (oidx rfl rfl rfl (by omega) (by omega) ?_)   -- 19 := indexAddr 22 (tmp 17) (tmp 18)
      refine s_op rfl (old rfl rfl (hx (i : Int).toNat (by omega)) ?_)   -- 20 := load 3 (tmp 19)
      refine sr 2 rfl ?_
      refine s_op rfl (oidx rfl rfl rfl (by omega) (by omega) ?_)   -- 23 := indexAddr 22 (tmp 21) (tmp 22)
      refine s_op rfl (old rfl rfl (hy (i : Int).toNat (by omega)) ?_)   -- 24 := load 3 (tmp 23)
      refine s_op rfl (oeq rfl (.v (.bool false)) bSn1 ?_)
      refine s_end ?_
      refine c_if_f rfl ?_
      refine c_skip ?_
      refine c_region (by kernel_rfl) ?_   -- region 5
      refine sr 1 rfl ?_
      refine s_op rfl (o_ar rfl rfl rfl (by omega) (by omega) ?_)   -- 16 := binOp BinOp.add 3 (tmp 15) (const (Value.int IntKind.i64 1)) 3
      refine sra rfl ?_
      exact ⟨i + 1, ⟨rfl, rfl, rfl, trivial⟩, trivial, ⟨rfl, by omega⟩, by omega⟩
    · -- else
      refine c_exit ?_
      refine crr (by kernel_rfl) rfl ?_   -- region 8
      exact c_ret (fr rfl ⟨rfl, rfl⟩)
theorem FnProps_c (r : Option Nat) (code : List Int) (st : St) (hx : AtB st r 0 code) (h8 : U8 code) (hm : code.length ≤ 9223372036854775807) (hr : ∀ j, r = some j → j < st.n) : ACalls Tryz.prog 7 [.sl r 0 code.length] st No (Pv (.bool true)) := by
  refine ent (N := 138) Tryz.func7 rfl (by decide) rfl rfl rfl ?_
  refine crr (by kernel_rfl) rfl ?_   -- region 0
  refine c_seq ?_
  refine c_rs (by kernel_rfl) ?_   -- region 1
  refine sr 1 rfl ?_
  refine s_op rfl (o_pure loud_n rfl (big_c ..) ?_)
  refine s_end ?_
  refine c_if rfl (fun h14 => ?_) (fun h14 => ?_)
  · refine crr (by kernel_rfl) rfl ?_   -- region 2
    exact c_ret (fr rfl rfl)
  have h14 := of_decide_eq_false h14
  refine c_skip ?_
  have hl : code.length ≤ 1048576 := by omega
  refine c_rs (by kernel_rfl) ?_   -- region 3
  refine sr 1 rfl ?_
  refine s_op rfl (o_ex loud_n rfl (DrawPropSet_c r code _ hx h8 hl hr) ?_)
  rintro v1 st1 ⟨q, o, l, a, b, d, rfl, ha, hll⟩ e1
  have hpl := pqL_len l a b d
  refine sra rfl ?_
  refine c_rs (by kernel_rfl) ?_   -- region 4
  refine sr 4 rfl ?_
  refine s_op rfl (o_ex loud_n rfl (iPropSet_c q o l a b d _ ha (by omega)) ?_)
  rintro v2 st2 ⟨q2, rfl, hf2⟩ e2
  replace ha := ha.ex e2
  refine sra rfl ?_
  refine c_rs (by kernel_rfl) ?_   -- region 5
  refine sr 4 rfl ?_
  refine s_op rfl (o_ex loud_n rfl (PropSet_c q o l a b d _ ha (by omega)) ?_)
  rintro v3 st3 ⟨q3, rfl, hf3⟩ e3
  replace ha := ha.ex e3
  have ht := hf2.at_.ex e3
  clear hf2
  have hnl := nam_len l a
  refine sra rfl ?_
  refine c_seq ?_
  refine cds [0, 1, 2, 3, 4, 5, 6, 7, 8, 9, 10, 11, 12, 13, 15, 16, 14, 17, 18, 19, 20] [.q, .q, .q, .q, .q, .q, .q, .q, .f, .q, .q, .q, .q, .q, .q, .q, .f, .f, .f, .q, .q] (by kernel_rfl) (by kernel_rfl) ?_   -- region 6
  refine sr 2 rfl ?_
  refine s_op rfl (oneB rfl rfl rfl rfl ?_)
  refine sr 5 rfl ?_
  refine s_op rfl (o_pure loud_f rfl (sameInts_t _ _ _ _ _ _ ht hf3.at_ (by omega)) ?_)
  refine sr 7 rfl ?_
  refine s_op rfl (o_ex loud_f rfl (iNames_c _ _ _ a _ ha (by omega)) ?_)
  rintro v4 st4 ⟨q4, rfl, hf4⟩ e4
  replace ha := ha.ex e4
  replace ht := ht.ex e4
  refine s_op rfl (o_ex loud_f rfl (Names_c _ _ _ a _ ha (by omega)) ?_)
  rintro v5 st5 ⟨q5, rfl, hf5⟩ e5
  replace ha := ha.ex e5
  replace ht := ht.ex e5
  refine s_op rfl (o_pure loud_f rfl (sameTexts_t _ _ _ _ _ _ (hf4.at_.ex e5) hf5.at_ (by omega)) ?_)
  refine sra rfl ?_
  refine c_if_f rfl ?_
  refine c_skip ?_
  clear hf3 hf4 hf5
  refine c_seq ?_
  refine crr (by kernel_rfl) rfl ?_   -- region 8
  refine c_if rfl (fun h64 => ?_) (fun h64 => ?_)
  · -- then
    have h64 : pqO l a b d = false := by simpa using h64
    refine c_sj (α := Unit) (fun _ => [(2, .bool true)]) (fun _ => []) (fun _ st' => True) ?_ ?_
    · -- region 9
      refine c_region (by kernel_rfl) ?_
      rcases pq_no h64 with g | g
      · rw [g]
        exact sra rfl ⟨(), ⟨rfl, trivial⟩, trivial, trivial⟩
      · rw [g] at ht ⊢
        refine sr 5 rfl ?_
        refine s_bool 69 rfl rfl (fun h69 => ?_) (fun h69 => ?_)
        · exact sra rfl ⟨(), ⟨rfl, trivial⟩, trivial, trivial⟩
        · refine sr 4 rfl ?_
          refine s_op rfl (o_pure loud_n rfl (sameInts_t _ _ _ _ _ _ ht ha (by omega)) ?_)
          exact sra rfl ⟨(), ⟨rfl, trivial⟩, trivial, trivial⟩
    rintro _ _ _
    exact c_ret (fr rfl rfl)
  · -- else
    have h64 : pqO l a b d = true := by simpa using h64
    have P := pq_in h64
    have hPo := P.own
    have hPl := P.look
    have hPh := P.heap
    have hPn := P.nam
    clear P
    generalize pqL l a b d = t at *
    have hnt := nam_len t a
    refine c_skip ?_
    refine c_rs (by kernel_rfl) ?_   -- region 10
    refine sr 3 rfl ?_
    refine s_op rfl (o_ex loud_n rfl (iOwn_c _ _ _ a b _ ht (by omega)) ?_)
    rintro v6 st6 rfl e6
    rw [hPo]
    replace ha := ha.ex e6
    replace ht := ht.ex e6
    refine sra rfl ?_
    refine c_rs (by kernel_rfl) ?_   -- region 11
    refine sr 3 rfl ?_
    refine s_op rfl (o_ex loud_n rfl (iLook_c _ _ _ a b _ ht (by omega)) ?_)
    rintro v7 st7 rfl e7
    rw [hPl]
    replace ha := ha.ex e7
    replace ht := ht.ex e7
    refine sra rfl ?_
    refine c_seq ?_
    refine c_rs (by kernel_rfl) ?_   -- region 12
    refine sr 9 rfl ?_
    refine s_op rfl (oeq rfl (.v (.bool false)) (bN rfl) ?_)
    refine sr 4 rfl ?_
    refine s_op rfl (oeq rfl (.v (.bool false)) (bN rfl) ?_)
    refine sr 3 rfl ?_
    refine s_op rfl (o_ex loud_n rfl (iHeapOk_c _ _ _ _ ht) ?_)
    rintro v8 st8 rfl e8
    rw [bdt.2 hPh]
    replace ha := ha.ex e8
    replace ht := ht.ex e8
    refine sra rfl ?_
    refine c_if_f rfl ?_
    refine c_skip ?_
    refine c_rs (by kernel_rfl) ?_   -- region 14
    refine sr 2 rfl ?_
    refine s_op rfl (o_ex loud_n rfl (iNames_c _ _ _ a _ ha (by omega)) ?_)
    rintro v9 st9 ⟨q9, rfl, hf9⟩ e9
    replace ht := ht.ex e9
    refine sra rfl ?_
    refine c_rs (by kernel_rfl) ?_   -- region 15
    refine sr 2 rfl ?_
    refine s_op rfl (o_ex loud_n rfl (iNames_c _ _ _ a _ ht (by omega)) ?_)
    rintro v10 st10 ⟨q10, rfl, hf10⟩ e10
    have hw := hf9.at_.ex e10
    have hnow := hf10.at_
    have hlen : (namL l a).length ≤ (namL t a).length ∧ (namL t a).length ≤ (namL l a).length + 1 := by
      rcases hPn with e | ⟨x, e⟩ <;> rw [e] <;> simp
    have hpre : AtT st10 q10 0 (namL l a) := by
      rcases hPn with e | ⟨x, e⟩
      · rw [e] at hnow; exact hnow
      · rw [e] at hnow; exact hnow.pre
    refine sra rfl ?_
    refine c_sj (α := Unit) (fun _ => [(2, .bool true)]) (fun _ => []) (fun _ st' => True) ?_ ?_
    · -- region 16
      refine c_region (by kernel_rfl) ?_
      refine sr 4 rfl ?_
      refine s_op rfl (oeq rfl (.v (.bool true)) (bT (by omega)) ?_)
      refine sr 5 rfl ?_
      refine s_op rfl (o_ar rfl rfl rfl (by omega) (by omega) ?_)
      refine s_op rfl (oeq rfl (.v (.bool true)) (bT (by omega)) ?_)
      refine sr 5 rfl ?_
      refine s_op rfl (oslE (o' := 0) (n' := (namL l a).length) rfl rfl rfl rfl (Int.le_refl _) (by omega) (by omega) (by cases q10 <;> rfl) (by omega) ?_)
      refine sr 1 rfl ?_
      refine s_op rfl (o_pure loud_n rfl (sameTexts_t _ _ _ _ _ _ hpre hw (by omega)) ?_)
      exact sra rfl ⟨(), ⟨rfl, trivial⟩, trivial, trivial⟩
    rintro _ _ _
    exact c_ret (fr rfl rfl)
end Go.Proofs.YtfhkjhnaihhdmaaGreatW.Ax
