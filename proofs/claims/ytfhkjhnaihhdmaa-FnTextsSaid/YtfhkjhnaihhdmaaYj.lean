/- RootsOk: the reference's and the program's, walked. -/
import Derived.Test.YtfhkjhnaihhdmaaYi
namespace Go.Proofs.YtfhkjhnaihhdmaaW.Ax
open Go Go.RowKit Go.Proofs Go.Proofs.Ytfhkjhnaihhdmaa.Pure
set_option linter.unusedVariables false
set_option maxRecDepth 100000

/-- Values that are right, of a slab that is. -/
def Rts (l rs : List Int) : Prop := Heap l ∧ ∀ v ∈ rs, Leads l v 5
theorem leads5 {l : List Int} {v : Int} : Leads l v 5 ↔ Plain l v ∨ Rf l v 7 5 := by
  constructor
  · rintro ⟨a1, a2, a3, a4, a5⟩
    by_cases h : v % 8 = 7
    · exact .inr ⟨h, a5 h⟩
    · exact .inl ⟨h, a1, a2, a3, a4, fun h' => absurd h' h⟩
  · rintro (⟨h, a1, a2, a3, a4, a5⟩ | h)
    · exact ⟨a1, a2, a3, a4, fun h' => absurd h' h⟩
    · exact h.leads (by omega)
theorem rootOk_c (r : Option Nat) (o n : Nat) (l : List Int) (v : Int) (st : St) (hx : At st r o (kindsL l)) (hl : l.length ≤ 2000) (hn : n = l.length) : ACalls Try.prog 109 [.sl r o n, I v] st No (Pure1 (.bool (bd (Leads l v 5))) st) := by
  refine ent (N := 13) Try.func109 rfl (by decide) rfl rfl rfl ?_
  refine crr (by kernel_rfl) rfl ?_   -- region 0
  refine c_rs (by kernel_rfl) ?_   -- region 1
  refine sr 2 rfl ?_
  refine s_op rfl (o_pure loud_n rfl (plainOk_c _ _ _ _ _ _ hx hl hn) ?_)
  refine sr 1 rfl ?_
  refine s_bool 8 rfl rfl (fun h8 => ?_) (fun h8 => ?_)
  · have h8 := bdt.1 h8
    refine sra rfl ?_
    exact c_ret (fr rfl ⟨abd ⟨fun _ => leads5.2 (.inl h8), fun _ => rfl⟩, rfl⟩)
  · have h8 := bdf.1 h8
    refine sr 2 rfl ?_
    refine s_op rfl (o_pure loud_n rfl (leadsTo_c _ _ _ _ _ _ _ _ hx hl (by omega) hn) ?_)
    refine sra rfl ?_
    refine c_ret (fr rfl ⟨abd ?_, rfl⟩)
    show bd _ = true ↔ _
    rw [bdt, leads5]
    exact ⟨fun h => .inr h, fun h => h.resolve_left h8⟩
theorem notRoot_c (b : Nat) (r : Option Nat) (o : Nat) (l : List Int) (v : Int) (st : St) (hc : cell st (some b) 0 = some (.sl r o l.length)) (hx : At st r o (kindsL l)) (hl : l.length ≤ 2000) : ACalls Try.prog 108 [I v, .ptr (some b) 0] st No (Pv (.bool (bd (¬ Leads l v 5)))) := by
  refine ent (N := 8) Try.func108 rfl (by decide) rfl rfl rfl ?_
  refine crr (by kernel_rfl) rfl ?_   -- region 0
  refine c_rs (by kernel_rfl) ?_   -- region 1
  refine s_op rfl (old rfl rfl hc ?_)
  refine sr 1 rfl ?_
  refine s_op rfl (o_pure loud_n rfl (rootOk_c _ _ _ _ _ _ hx hl rfl) ?_)
  refine sra rfl ?_
  refine c_ret (fr rfl (abd ?_))
  show (!bd _) = true ↔ _
  exact ⟨nbt, fun h => by simpa using bdf.2 h⟩
theorem RootsOk_c (r rr : Option Nat) (o or : Nat) (l rs : List Int) (st : St) (hx : At st r o l) (hy : At st rr or rs) (hl : l.length ≤ 1048576) (hlr : rs.length ≤ 1048576) : ACalls Try.prog 59 [.agg [.sl r o l.length], .sl rr or rs.length] st No (Pv (.bool (bd (Rts l rs)))) := by
  refine ent (N := 22) Try.func59 rfl (by decide) rfl rfl rfl ?_
  refine crr (by kernel_rfl) rfl ?_   -- region 0
  refine c_seq ?_
  refine c_rs (by kernel_rfl) ?_   -- region 1
  refine sr 1 rfl ?_
  refine s_op rfl (o_ex loud_n rfl (HeapOk_c _ _ _ _ hx hl) ?_)
  rintro v1 st1 rfl e1
  have hx1 := hx.ex e1
  have hy1 := hy.ex e1
  refine sra rfl ?_
  refine c_if rfl (fun h8 => ?_) (fun h8 => ?_)
  · have h8 := nbt h8
    refine crr (by kernel_rfl) rfl ?_   -- region 2
    exact c_ret (fr rfl (abd ⟨fun h => (by cases h), fun h => absurd h.1 h8⟩))
  · have h8 := nbf h8
    refine c_skip ?_
    refine c_seq ?_
    refine crr (by kernel_rfl) rfl ?_   -- region 3
    refine c_block ?_
    refine c_lp (α := Nat) (fun i => [(1, .sl rr or rs.length), (5, I i)]) (fun _ => [(2, 2, [.sl r o l.length])]) (fun i st' => st1 = st' ∧ i ≤ rs.length ∧ ∀ j : Nat, j < i → Leads l (rd rs j) 5) (fun i => rs.length - i) 0 ⟨rfl, rfl, trivial⟩ ⟨rfl, rfl, trivial⟩ ⟨rfl, by omega, fun j hj => by omega⟩ ?_
    rintro i st' ⟨rfl, hi, hs⟩
    refine c_seq ?_
    refine crr (by kernel_rfl) rfl ?_   -- region 4
    refine c_if rfl (fun h12 => ?_) (fun h12 => ?_)
    · have h12 := of_decide_eq_true h12
      have hm := mem_rd (l := rs) (j := i) (by omega)
      refine c_skip ?_
      refine c_seq ?_
      refine c_block ?_
      refine cds [0, 1, 2, 3, 4, 5, 6] [.q, .q, .q, .q, .q, .f, .q] (by kernel_rfl) (by kernel_rfl) ?_   -- region 6
      refine sr 3 rfl ?_
      refine s_op rfl (oidx rfl rfl rfl (by omega) (by omega) ?_)
      refine s_op rfl (old rfl rfl (hy1.rd (by omega) (by omega)) ?_)
      refine s_op rfl (o_pure loud_f rfl (l3Leads_c _ _ _ _ _ _ hx1 h8.1 (by omega)) ?_)
      refine sra rfl ?_
      refine c_if rfl (fun h21 => ?_) (fun h21 => ?_)
      · have h21 := nbt h21
        refine crr (by kernel_rfl) rfl ?_   -- region 7
        exact c_ret (fr rfl (abd ⟨fun h => (by cases h), fun h => absurd (h.2 _ hm) h21⟩))
      · have h21 := nbf h21
        refine c_skip ?_
        refine c_region (by kernel_rfl) ?_   -- region 5
        refine sr 1 rfl ?_
        refine s_op rfl (o_ar rfl rfl rfl (by omega) (by omega) ?_)
        refine sra rfl ⟨i + 1, ⟨rfl, rfl, trivial⟩, ⟨rfl, rfl, trivial⟩, ⟨rfl, by omega, fun j hj => ?_⟩, by omega⟩
        by_cases e : j = i
        · rw [e]; exact h21
        · exact hs j (by omega)
    · have h12 := of_decide_eq_false h12
      refine c_exit ?_
      refine crr (by kernel_rfl) rfl ?_   -- region 8
      refine c_ret (fr rfl (abd ⟨fun _ => ⟨h8, fun v hv => ?_⟩, fun _ => rfl⟩))
      obtain ⟨j, hj, e⟩ := rd_mem hv
      rw [← e]; exact hs j (by omega)
theorem iRootsOk_c (r rr : Option Nat) (o or : Nat) (l rs : List Int) (st : St) (hx : At st r o l) (hy : At st rr or rs) (hl : l.length ≤ 1048576) (hlr : rs.length ≤ 1048576) : ACalls Try.prog 58 [.agg [.sl r o l.length], .sl rr or rs.length] st No (Pv (.bool (bd (Rts l rs)))) := by
  refine ent (N := 15) Try.func58 rfl (by decide) rfl rfl rfl ?_
  refine crr (by kernel_rfl) rfl ?_   -- region 0
  refine c_seq ?_
  refine c_rs (by kernel_rfl) ?_   -- region 1
  refine sr 1 rfl ?_
  refine s_op rfl (o_ex loud_n rfl (iHeapOk_c _ _ _ _ hx) ?_)
  rintro v1 st1 rfl e1
  have hx1 := hx.ex e1
  have hy1 := hy.ex e1
  refine sra rfl ?_
  refine c_if rfl (fun h8 => ?_) (fun h8 => ?_)
  · have h8 := nbt h8
    refine crr (by kernel_rfl) rfl ?_   -- region 2
    exact c_ret (fr rfl (abd ⟨fun h => (by cases h), fun h => absurd h.1 h8⟩))
  · have h8 := nbf h8
    have hlen := okB_len h8.1
    refine c_skip ?_
    refine c_rs (by kernel_rfl) ?_   -- region 3
    refine sr 1 rfl ?_
    refine s_op rfl (o_ex loud_n rfl (kinds_c _ _ _ _ hx1 hlen) ?_)
    rintro v2 st2 ⟨k, rfl, hk⟩ e2
    rw [kindsL_len]
    refine s_op rfl (oalloc1 loud_n rfl ?_)
    refine s_op rfl (ost1 rfl rfl (Nat.lt_succ_self _) (fun h => absurd h (by have := e1.n; have := e2.n; omega)) (push_ob _ _) rfl rfl rfl ?_)
    refine s_end ?_
    have hE : Ex st2 ((st2.push (.row true [Z.nil.av])).set st2.n (.row true [.sl (some k) 0 l.length])) := (ex_push _ _).trans (T' := (· = st2.n)) (ext_set _ _ _) (fun i hi e => by omega)
    have hc : cell ((st2.push (.row true [Z.nil.av])).set st2.n (.row true [.sl (some k) 0 l.length])) (some st2.n) 0 = some (.sl (some k) 0 l.length) := cell_set1 (Nat.lt_succ_self _)
    show ACode _ _ _ _ _ _ _ ((st2.push (.row true [Z.nil.av])).set st2.n (.row true [.sl (some k) 0 l.length]))
    generalize ((st2.push (.row true [Z.nil.av])).set st2.n (.row true [.sl (some k) 0 l.length])) = S at hE hc ⊢
    have hkS := hk.at_.ex hE
    have hyS := (hy1.ex e2).ex hE
    refine c_rs (by kernel_rfl) ?_   -- region 4
    refine sr 2 rfl ?_
    refine s_op rfl (o_ex loud_n rfl (ContainsFunc_c _ _ rs _ _ (fun v => ¬ Leads l v 5) _ hyS (by omega) (fun st' i he hi => ?_)) ?_)
    · exact notRoot_c _ _ _ l _ _ (cell_ext he hc (fun _ _ h => h)) (hkS.ex he) hlen
    rintro v3 st3 rfl e3
    refine sra rfl ?_
    refine c_ret (fr rfl (abd ?_))
    show (!bd _) = true ↔ _
    refine ⟨fun h => ⟨h8, fun v hv => ?_⟩, fun h => ?_⟩
    · have h := nbt h
      obtain ⟨j, hj, e⟩ := rd_mem hv
      exact Classical.byContradiction fun hc => h ⟨j, hj, by rw [e]; exact hc⟩
    · have : ¬ Any rs fun v => ¬ Leads l v 5 := fun ⟨j, hj, hc⟩ => hc (h.2 _ (mem_rd hj))
      rw [bdf.2 this]; rfl
end Go.Proofs.YtfhkjhnaihhdmaaW.Ax
