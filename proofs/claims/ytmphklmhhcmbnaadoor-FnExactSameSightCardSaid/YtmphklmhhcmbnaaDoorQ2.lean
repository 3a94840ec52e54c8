/- Merged: Yi Yj Yk. -/
import Derived.Test.YtmphklmhhcmbnaaDoorQ1
/- ShapeOk, HeapOk, RootsOk: the reference's and the program's, walked. -/
namespace Go.Proofs.YtmphklmhhcmbnaaDoorW.Ax
open Go Go.RowKit Go.Proofs Go.Proofs.YtmphklmhhcmbnaaDoor.Pure
set_option linter.unusedVariables false
set_option maxRecDepth 100000

theorem ok_of {l : List Int} {a : Int} (h : a ∈ blocks l) : okB l = true := by
  by_cases h' : okB l = true
  · exact h'
  · rw [blocks_not h'] at h; simp at h
/-- A slab whose blocks are all right. -/
def Heap (l : List Int) : Prop := okB l = true ∧ ∀ a ∈ blocks l, Shp l a
theorem mem_rd {l : List Int} {j : Nat} (h : j < l.length) : rd l j ∈ l := by
  rw [rd_nat]; simp only [List.getD, List.getElem?_eq_getElem h, Option.getD_some]; exact List.getElem_mem h
theorem rd_mem {l : List Int} {a : Int} (h : a ∈ l) : ∃ j : Nat, j < l.length ∧ rd l j = a := by
  obtain ⟨j, hj, e⟩ := List.getElem_of_mem h
  exact ⟨j, hj, by rw [rd_nat]; simp [List.getD, hj, e]⟩
theorem HeapOk_c (r : Option Nat) (o : Nat) (l : List Int) (st : St) (hx : At st r o l) (hl : l.length ≤ 1048576) : ACalls Tryd.prog 23 [.agg [.sl r o l.length]] st No (Pv (.bool (bd (Heap l)))) := by
  refine ent (N := 22) Tryd.func23 rfl (by decide) rfl rfl rfl ?_
  refine crr (by kernel_rfl) rfl ?_   -- region 0
  refine c_rs (by kernel_rfl) ?_   -- region 1
  refine sr 1 rfl ?_
  refine s_op rfl (o_ex loud_n rfl (Blocks_c _ _ _ _ hx hl) ?_)
  rintro v1 st1 ⟨q, rfl, hf⟩ e1
  have hx1 := hx.ex e1
  have hbl := blocks_lel l
  refine sra rfl ?_
  refine c_seq ?_
  refine crr (by kernel_rfl) rfl ?_   -- region 2
  refine c_block ?_
  refine c_lp (α := Nat) (fun i => [(3, .sl (some q) 0 (blocks l).length), (4, I i)]) (fun _ => [(1, 1, [.sl r o l.length])]) (fun i st' => st1 = st' ∧ i ≤ (blocks l).length ∧ ∀ j : Nat, j < i → Shp l (rd (blocks l) j)) (fun i => (blocks l).length - i) 0 ⟨rfl, rfl, trivial⟩ ⟨rfl, rfl, trivial⟩ ⟨rfl, by omega, fun j hj => by omega⟩ ?_
  rintro i st' ⟨rfl, hi, hs⟩
  refine c_seq ?_
  refine crr (by kernel_rfl) rfl ?_   -- region 3
  refine c_if rfl (fun h10 => ?_) (fun h10 => ?_)
  · have h10 := of_decide_eq_true h10
    have hm := mem_rd (l := blocks l) (j := i) (by omega)
    refine c_skip ?_
    refine c_seq ?_
    refine c_block ?_
    refine cds [0, 1, 2, 3, 4, 5, 6] [.q, .q, .q, .q, .q, .f, .q] (by kernel_rfl) (by kernel_rfl) ?_   -- region 5
    refine sr 3 rfl ?_
    refine s_op rfl (oidx rfl rfl rfl (by omega) (by omega) ?_)
    refine s_op rfl (old rfl rfl (hf.at_.rd (by omega) (by omega)) ?_)
    refine s_op rfl (o_pure loud_f rfl (l3Shape_c _ _ _ _ _ hx1 (ok_of hm) hm) ?_)
    refine sra rfl ?_
    refine c_if rfl (fun h19 => ?_) (fun h19 => ?_)
    · have h19 := nbt h19
      refine crr (by kernel_rfl) rfl ?_   -- region 6
      exact c_ret (fr rfl (abd ⟨fun h => (by cases h), fun h => absurd (h.2 _ hm) h19⟩))
    · have h19 := nbf h19
      refine c_skip ?_
      refine c_region (by kernel_rfl) ?_   -- region 4
      refine sr 1 rfl ?_
      refine s_op rfl (o_ar rfl rfl rfl (by omega) (by omega) ?_)
      refine sra rfl ⟨i + 1, ⟨rfl, rfl, trivial⟩, ⟨rfl, rfl, trivial⟩, ⟨rfl, by omega, fun j hj => ?_⟩, by omega⟩
      by_cases e : j = i
      · rw [e]; exact h19
      · exact hs j (by omega)
  · have h10 := of_decide_eq_false h10
    refine c_exit ?_
    refine c_rs (by kernel_rfl) ?_   -- region 7
    refine sr 1 rfl ?_
    refine s_op rfl (o_pure loud_n rfl (SlabOk_c _ _ _ _ hx1 hl) ?_)
    refine sra rfl ?_
    refine c_ret (fr rfl (abd ⟨fun h => ⟨h, fun a ha => ?_⟩, fun h => h.1⟩))
    obtain ⟨j, hj, e⟩ := rd_mem ha
    rw [← e]; exact hs j (by omega)
theorem notShape_c (b1 b2 : Nat) (r ra : Option Nat) (o oa : Nat) (l : List Int) (a : Int) (st : St) (h1 : b1 < st.n ∧ st.ob b1 = .row true [.sl r o l.length]) (hc2 : cell st (some b2) 0 = some (.sl ra oa l.length)) (hx : At st r o l) (hk : At st ra oa (kindsL l)) (ha : a ∈ blocks l) :
    ACalls Tryd.prog 51 [I a, .ptr (some b1) 0, .ptr (some b2) 0] st No (Pv (.bool (bd (¬ Shp l a)))) := by
  refine ent (N := 10) Tryd.func51 rfl (by decide) rfl rfl rfl ?_
  refine crr (by kernel_rfl) rfl ?_   -- region 0
  refine c_rs (by kernel_rfl) ?_   -- region 1
  refine s_op rfl (oldS rfl rfl rfl h1.1 h1.2 rfl ?_)
  refine s_op rfl (old rfl rfl hc2 ?_)
  refine sr 1 rfl ?_
  refine s_op rfl (o_ex loud_n rfl (shapeOk_c _ _ _ _ _ _ _ hx hk (ok_of ha) ha) ?_)
  rintro v1 st1 rfl e1
  refine sra rfl ?_
  refine c_ret (fr rfl (abd ?_))
  show (!bd _) = true ↔ _
  exact ⟨nbt, fun h => by simpa using bdf.2 h⟩
theorem iHeapOk_c (r : Option Nat) (o : Nat) (l : List Int) (st : St) (hx : At st r o l) : ACalls Tryd.prog 32 [.agg [.sl r o l.length]] st No (Pv (.bool (bd (Heap l)))) := by
  refine ent (N := 19) Tryd.func32 rfl (by decide) rfl rfl rfl ?_
  refine c_rs (by kernel_rfl) ?_   -- region 0
  refine s_op rfl (o_boxS loud_n rfl ?_)
  refine sra rfl ?_
  refine c_rs (by kernel_rfl) ?_   -- region 1
  refine s_op rfl (oldS rfl rfl rfl (Nat.lt_succ_self _) (push_ob _ _) rfl ?_)
  have e0 : Ex st (st.push (.row true [.sl r o l.length])) := ex_push _ _
  have hb0 : st.n < (st.push (.row true [.sl r o l.length])).n ∧ (st.push (.row true [.sl r o l.length])).ob st.n = .row true [.sl r o l.length] := ⟨Nat.lt_succ_self _, push_ob _ _⟩
  have hx0 := hx.ex e0
  refine s_op rfl (o_ex loud_n rfl (places_c _ _ _ _ hx0) ?_)
  rintro v1 st1 ⟨q, rfl, hf⟩ e1
  refine sra rfl ?_
  have hb1 : st.n < st1.n ∧ st1.ob st.n = .row true [.sl r o l.length] := ⟨Nat.lt_of_lt_of_le hb0.1 e1.n, by rw [e1.ob _ hb0.1 (fun h => h)]; exact hb0.2⟩
  have hx1 := hx0.ex e1
  refine c_seq ?_
  refine crr (by kernel_rfl) rfl ?_   -- region 2
  refine c_if rfl (fun h12 => ?_) (fun h12 => ?_)
  · have h12 : ¬ okB l = true := by simpa using h12
    refine crr (by kernel_rfl) rfl ?_   -- region 3
    exact c_ret (fr rfl (abd ⟨fun h => (by cases h), fun h => absurd h.1 h12⟩))
  · have h12 : okB l = true := by simpa using h12
    have hlen := okB_len h12
    refine c_skip ?_
    refine c_rs (by kernel_rfl) ?_   -- region 4
    refine s_op rfl (oldS rfl rfl rfl hb1.1 hb1.2 rfl ?_)
    refine s_op rfl (o_ex loud_n rfl (kinds_c _ _ _ _ hx1 hlen) ?_)
    rintro v2 st2 ⟨k, rfl, hk⟩ e2
    rw [kindsL_len]
    refine s_op rfl (oalloc1 loud_n rfl ?_)
    refine s_op rfl (ost1 rfl rfl (Nat.lt_succ_self _) (fun h => absurd h (by have := e1.n; have := e2.n; have : st.n < (st.push (.row true [.sl r o l.length])).n := hb0.1; omega)) (push_ob _ _) rfl rfl rfl ?_)
    refine s_end ?_
    have hE : Ex st2 ((st2.push (.row true [Z.nil.av])).set st2.n (.row true [.sl (some k) 0 l.length])) := (ex_push _ _).trans (T' := (· = st2.n)) (ext_set _ _ _) (fun i hi e => by omega)
    have hc : cell ((st2.push (.row true [Z.nil.av])).set st2.n (.row true [.sl (some k) 0 l.length])) (some st2.n) 0 = some (.sl (some k) 0 l.length) := cell_set1 (Nat.lt_succ_self _)
    have hal : st2.n < ((st2.push (.row true [Z.nil.av])).set st2.n (.row true [.sl (some k) 0 l.length])).n := Nat.lt_succ_self _
    show ACode _ _ _ _ _ _ _ ((st2.push (.row true [Z.nil.av])).set st2.n (.row true [.sl (some k) 0 l.length]))
    generalize ((st2.push (.row true [Z.nil.av])).set st2.n (.row true [.sl (some k) 0 l.length])) = S at hE hc hal ⊢
    have hbS : st.n < S.n ∧ S.ob st.n = .row true [.sl r o l.length] := by
      have h2 : st.n < st2.n := Nat.lt_of_lt_of_le hb1.1 e2.n
      exact ⟨by have := hE.n; omega, by rw [hE.ob _ h2 (fun h => h), e2.ob _ hb1.1 (fun h => h)]; exact hb1.2⟩
    have hfS := (hf.ex e2).ex hE
    have hkS := hk.at_.ex hE
    have hxS := (hx1.ex e2).ex hE
    refine c_rs (by kernel_rfl) ?_   -- region 5
    refine sr 2 rfl ?_
    refine s_op rfl (o_ex loud_n rfl (ContainsFunc_c _ _ (blocks l) _ _ (fun a => ¬ Shp l a) _ hfS.at_ (blocks_len l) (fun st' i he hi => ?_)) ?_)
    · exact notShape_c _ _ _ _ _ _ l _ _ ⟨Nat.lt_of_lt_of_le hbS.1 he.n, by rw [he.ob _ hbS.1 (fun h => h)]; exact hbS.2⟩ (cell_ext he hc (fun _ _ h => h)) (hxS.ex he) (hkS.ex he) (mem_rd hi)
    rintro v3 st3 rfl e3
    refine sra rfl ?_
    refine c_ret (fr rfl (abd ?_))
    show (!bd _) = true ↔ _
    refine ⟨fun h => ⟨h12, fun a ha => ?_⟩, fun h => ?_⟩
    · have h := nbt h
      obtain ⟨j, hj, e⟩ := rd_mem ha
      exact Classical.byContradiction fun hc => h ⟨j, hj, by rw [e]; exact hc⟩
    · have : ¬ Any (blocks l) fun a => ¬ Shp l a := fun ⟨j, hj, hc⟩ => hc (h.2 _ (mem_rd hj))
      rw [bdf.2 this]; rfl
end Go.Proofs.YtmphklmhhcmbnaaDoorW.Ax

/- RootsOk: the reference's and the program's, walked. -/
namespace Go.Proofs.YtmphklmhhcmbnaaDoorW.Ax
open Go Go.RowKit Go.Proofs Go.Proofs.YtmphklmhhcmbnaaDoor.Pure
set_option linter.unusedVariables false
set_option maxRecDepth 100000

/-- Values that are right, of a slab that is. -/
def Rts (l rs : List Int) : Prop := Heap l ∧ ∀ v ∈ rs, Leads l v 5
theorem leads5 {l : List Int} {v : Int} : Leads l v 5 ↔ Plain l v ∨ Rf l v 7 5 := by
  constructor
  · rintro ⟨a1, a2, a3, a4, a5⟩
    by_cases h : v % 8 = 7
    · exact .inr ⟨h, a5 h⟩
    · exact .inl ⟨h, a1, a2, a3, a4, fun h' => absurd h' h⟩
  · rintro (⟨h, a1, a2, a3, a4, a5⟩ | h)
    · exact ⟨a1, a2, a3, a4, fun h' => absurd h' h⟩
    · exact h.leads (by omega)
theorem rootOk_c (r : Option Nat) (o n : Nat) (l : List Int) (v : Int) (st : St) (hx : At st r o (kindsL l)) (hl : l.length ≤ 2000) (hn : n = l.length) : ACalls Tryd.prog 36 [.sl r o n, I v] st No (Pure1 (.bool (bd (Leads l v 5))) st) := by
  refine ent (N := 13) Tryd.func36 rfl (by decide) rfl rfl rfl ?_
  refine crr (by kernel_rfl) rfl ?_   -- region 0
  refine c_rs (by kernel_rfl) ?_   -- region 1
  refine sr 2 rfl ?_
  refine s_op rfl (o_pure loud_n rfl (plainOk_c _ _ _ _ _ _ hx hl hn) ?_)
  refine sr 1 rfl ?_
  refine s_bool 8 rfl rfl (fun h8 => ?_) (fun h8 => ?_)
  · have h8 := bdt.1 h8
    refine sra rfl ?_
    exact c_ret (fr rfl ⟨abd ⟨fun _ => leads5.2 (.inl h8), fun _ => rfl⟩, rfl⟩)
  · have h8 := bdf.1 h8
    refine sr 2 rfl ?_
    refine s_op rfl (o_pure loud_n rfl (leadsTo_c _ _ _ _ _ _ _ _ hx hl (by omega) hn) ?_)
    refine sra rfl ?_
    refine c_ret (fr rfl ⟨abd ?_, rfl⟩)
    show bd _ = true ↔ _
    rw [bdt, leads5]
    exact ⟨fun h => .inr h, fun h => h.resolve_left h8⟩
theorem notRoot_c (b : Nat) (r : Option Nat) (o : Nat) (l : List Int) (v : Int) (st : St) (hc : cell st (some b) 0 = some (.sl r o l.length)) (hx : At st r o (kindsL l)) (hl : l.length ≤ 2000) : ACalls Tryd.prog 35 [I v, .ptr (some b) 0] st No (Pv (.bool (bd (¬ Leads l v 5)))) := by
  refine ent (N := 8) Tryd.func35 rfl (by decide) rfl rfl rfl ?_
  refine crr (by kernel_rfl) rfl ?_   -- region 0
  refine c_rs (by kernel_rfl) ?_   -- region 1
  refine s_op rfl (old rfl rfl hc ?_)
  refine sr 1 rfl ?_
  refine s_op rfl (o_pure loud_n rfl (rootOk_c _ _ _ _ _ _ hx hl rfl) ?_)
  refine sra rfl ?_
  refine c_ret (fr rfl (abd ?_))
  show (!bd _) = true ↔ _
  exact ⟨nbt, fun h => by simpa using bdf.2 h⟩
theorem RootsOk_c (r rr : Option Nat) (o or : Nat) (l rs : List Int) (st : St) (hx : At st r o l) (hy : At st rr or rs) (hl : l.length ≤ 1048576) (hlr : rs.length ≤ 1048576) : ACalls Tryd.prog 15 [.agg [.sl r o l.length], .sl rr or rs.length] st No (Pv (.bool (bd (Rts l rs)))) := by
  refine ent (N := 22) Tryd.func15 rfl (by decide) rfl rfl rfl ?_
  refine crr (by kernel_rfl) rfl ?_   -- region 0
  refine c_seq ?_
  refine c_rs (by kernel_rfl) ?_   -- region 1
  refine sr 1 rfl ?_
  refine s_op rfl (o_ex loud_n rfl (HeapOk_c _ _ _ _ hx hl) ?_)
  rintro v1 st1 rfl e1
  have hx1 := hx.ex e1
  have hy1 := hy.ex e1
  refine sra rfl ?_
  refine c_if rfl (fun h8 => ?_) (fun h8 => ?_)
  · have h8 := nbt h8
    refine crr (by kernel_rfl) rfl ?_   -- region 2
    exact c_ret (fr rfl (abd ⟨fun h => (by cases h), fun h => absurd h.1 h8⟩))
  · have h8 := nbf h8
    refine c_skip ?_
    refine c_seq ?_
    refine crr (by kernel_rfl) rfl ?_   -- region 3
    refine c_block ?_
    refine c_lp (α := Nat) (fun i => [(1, .sl rr or rs.length), (5, I i)]) (fun _ => [(2, 2, [.sl r o l.length])]) (fun i st' => st1 = st' ∧ i ≤ rs.length ∧ ∀ j : Nat, j < i → Leads l (rd rs j) 5) (fun i => rs.length - i) 0 ⟨rfl, rfl, trivial⟩ ⟨rfl, rfl, trivial⟩ ⟨rfl, by omega, fun j hj => by omega⟩ ?_
    rintro i st' ⟨rfl, hi, hs⟩
    refine c_seq ?_
    refine crr (by kernel_rfl) rfl ?_   -- region 4
    refine c_if rfl (fun h12 => ?_) (fun h12 => ?_)
    · have h12 := of_decide_eq_true h12
      have hm := mem_rd (l := rs) (j := i) (by omega)
      refine c_skip ?_
      refine c_seq ?_
      refine c_block ?_
      refine cds [0, 1, 2, 3, 4, 5, 6] [.q, .q, .q, .q, .q, .f, .q] (by kernel_rfl) (by kernel_rfl) ?_   -- region 6
      refine sr 3 rfl ?_
      refine s_op rfl (oidx rfl rfl rfl (by omega) (by omega) ?_)
      refine s_op rfl (old rfl rfl (hy1.rd (by omega) (by omega)) ?_)
      refine s_op rfl (o_pure loud_f rfl (l3Leads_c _ _ _ _ _ _ hx1 h8.1 (by omega)) ?_)
      refine sra rfl ?_
      refine c_if rfl (fun h21 => ?_) (fun h21 => ?_)
      · have h21 := nbt h21
        refine crr (by kernel_rfl) rfl ?_   -- region 7
        exact c_ret (fr rfl (abd ⟨fun h => (by cases h), fun h => absurd (h.2 _ hm) h21⟩))
      · have h21 := nbf h21
        refine c_skip ?_
        refine c_region (by kernel_rfl) ?_   -- region 5
        refine sr 1 rfl ?_
        refine s_op rfl (o_ar rfl rfl rfl (by omega) (by omega) ?_)
        refine sra rfl ⟨i + 1, ⟨rfl, rfl, trivial⟩, ⟨rfl, rfl, trivial⟩, ⟨rfl, by omega, fun j hj => ?_⟩, by omega⟩
        by_cases e : j = i
        · rw [e]; exact h21
        · exact hs j (by omega)
    · have h12 := of_decide_eq_false h12
      refine c_exit ?_
      refine crr (by kernel_rfl) rfl ?_   -- region 8
      refine c_ret (fr rfl (abd ⟨fun _ => ⟨h8, fun v hv => ?_⟩, fun _ => rfl⟩))
      obtain ⟨j, hj, e⟩ := rd_mem hv
      rw [← e]; exact hs j (by omega)
theorem iRootsOk_c (r rr : Option Nat) (o or : Nat) (l rs : List Int) (st : St) (hx : At st r o l) (hy : At st rr or rs) (hl : l.length ≤ 1048576) (hlr : rs.length ≤ 1048576) : ACalls Tryd.prog 19 [.agg [.sl r o l.length], .sl rr or rs.length] st No (Pv (.bool (bd (Rts l rs)))) := by
  refine ent (N := 15) Tryd.func19 rfl (by decide) rfl rfl rfl ?_
  refine crr (by kernel_rfl) rfl ?_   -- region 0
  refine c_seq ?_
  refine c_rs (by kernel_rfl) ?_   -- region 1
  refine sr 1 rfl ?_
  refine s_op rfl (o_ex loud_n rfl (iHeapOk_c _ _ _ _ hx) ?_)
  rintro v1 st1 rfl e1
  have hx1 := hx.ex e1
  have hy1 := hy.ex e1
  refine sra rfl ?_
  refine c_if rfl (fun h8 => ?_) (fun h8 => ?_)
  · have h8 := nbt h8
    refine crr (by kernel_rfl) rfl ?_   -- region 2
    exact c_ret (fr rfl (abd ⟨fun h => (by cases h), fun h => absurd h.1 h8⟩))
  · have h8 := nbf h8
    have hlen := okB_len h8.1
    refine c_skip ?_
    refine c_rs (by kernel_rfl) ?_   -- region 3
    refine sr 1 rfl ?_
    refine s_op rfl (o_ex loud_n rfl (kinds_c _ _ _ _ hx1 hlen) ?_)
    rintro v2 st2 ⟨k, rfl, hk⟩ e2
    rw [kindsL_len]
    refine s_op rfl (oalloc1 loud_n rfl ?_)
    refine s_op rfl (ost1 rfl rfl (Nat.lt_succ_self _) (fun h => absurd h (by have := e1.n; have := e2.n; omega)) (push_ob _ _) rfl rfl rfl ?_)
    refine s_end ?_
    have hE : Ex st2 ((st2.push (.row true [Z.nil.av])).set st2.n (.row true [.sl (some k) 0 l.length])) := (ex_push _ _).trans (T' := (· = st2.n)) (ext_set _ _ _) (fun i hi e => by omega)
    have hc : cell ((st2.push (.row true [Z.nil.av])).set st2.n (.row true [.sl (some k) 0 l.length])) (some st2.n) 0 = some (.sl (some k) 0 l.length) := cell_set1 (Nat.lt_succ_self _)
    show ACode _ _ _ _ _ _ _ ((st2.push (.row true [Z.nil.av])).set st2.n (.row true [.sl (some k) 0 l.length]))
    generalize ((st2.push (.row true [Z.nil.av])).set st2.n (.row true [.sl (some k) 0 l.length])) = S at hE hc ⊢
    have hkS := hk.at_.ex hE
    have hyS := (hy1.ex e2).ex hE
    refine c_rs (by kernel_rfl) ?_   -- region 4
    refine sr 2 rfl ?_
    refine s_op rfl (o_ex loud_n rfl (ContainsFunc_c _ _ rs _ _ (fun v => ¬ Leads l v 5) _ hyS (by omega) (fun st' i he hi => ?_)) ?_)
    · exact notRoot_c _ _ _ l _ _ (cell_ext he hc (fun _ _ h => h)) (hkS.ex he) hlen
    rintro v3 st3 rfl e3
    refine sra rfl ?_
    refine c_ret (fr rfl (abd ?_))
    show (!bd _) = true ↔ _
    refine ⟨fun h => ⟨h8, fun v hv => ?_⟩, fun h => ?_⟩
    · have h := nbt h
      obtain ⟨j, hj, e⟩ := rd_mem hv
      exact Classical.byContradiction fun hc => h ⟨j, hj, by rw [e]; exact hc⟩
    · have : ¬ Any rs fun v => ¬ Leads l v 5 := fun ⟨j, hj, hc⟩ => hc (h.2 _ (mem_rd hj))
      rw [bdf.2 this]; rfl
end Go.Proofs.YtmphklmhhcmbnaaDoorW.Ax

/- slices.Contains; what is asked of arguments; FunOf: walked. -/
namespace Go.Proofs.YtmphklmhhcmbnaaDoorW.Ax
open Go Go.RowKit Go.Proofs Go.Proofs.YtmphklmhhcmbnaaDoor.Pure
set_option linter.unusedVariables false
set_option maxRecDepth 100000

def Id1 (st : St) (l : List Int) (x : Int) : AV → St → Prop := fun v st' => ∃ k : Int, v = I k ∧ (0 ≤ k ↔ x ∈ l) ∧ st = st'
/-- What is asked of arguments: each is right, and of one of its kinds. -/
def Rdy (l rs : List Int) (ks : Nat → List Int) : Prop := Rts l rs ∧ ∀ i : Nat, i < rs.length → rd rs i % 8 ∈ ks i
/-- One value, right and of a kind. -/
def Isk (l rs : List Int) (k : Int) : Prop := rd rs 0 % 8 = k ∧ Rts l rs
/-- A function's value. -/
def Fn1 (l : List Int) (v : Int) : Prop := v % 8 = 6 ∧ Rts l [v]
theorem fn_at {l : List Int} {v : Int} (h : Fn1 l v) : v / 8 ∈ blocks l ∧ 0 ≤ v / 8 ∧ v / 8 + 2 < l.length ∧ l.length ≤ 2000 := by
  have h1 := h.2.2 v (by simp)
  have h2 := h1.2.2.2.1 h.1
  have h3 := kat_in (by omega) h2
  have h4 := ((kat_of (by omega)).1 h2).2
  have h5 := h.2.1.2 _ h3.1
  have h6 := (block_at h3.1).2.2.1
  have h7 := size_pos h6
  have h8 := (h5.2.2.2.1 h4).1.1
  unfold Spl at h8
  exact ⟨h3.1, by omega, by omega, by omega⟩
noncomputable def FnR (l : List Int) (v : Int) : AV := .tup [I (cond (bd (Fn1 l v)) (rd l (v / 8 + 1)) (-1)), I (cond (bd (Fn1 l v)) (rd l (v / 8 + 2)) 0), .bool (bd (Fn1 l v))]
theorem fnR_t {l : List Int} {v : Int} (h : Fn1 l v) : FnR l v = .tup [I (rd l (v / 8 + 1)), I (rd l (v / 8 + 2)), .bool true] := by
  unfold FnR; rw [bdt.2 h]; rfl
theorem fnR_f {l : List Int} {v : Int} (h : ¬ Fn1 l v) : FnR l v = .tup [I (-1), I 0, .bool false] := by
  unfold FnR; rw [bdf.2 h]; rfl
end Go.Proofs.YtmphklmhhcmbnaaDoorW.Ax
