/- Chapters 5 and 6, walked: what is asked ahead; prototypes; what is made. -/
import Derived.Test.YtfhkjhnaihhdmaaYt
import Derived.Test.YtfhkjhnaihhdmaaYk
import Derived.Test.YtfhkjhnaihhdmaaYo
import Derived.Test.YtfhkjhnaihhdmaaXU
namespace Go.Proofs.YtfhkjhnaihhdmaaW.Ax
open Go Go.RowKit Go.Proofs Go.Proofs.Ytfhkjhnaihhdmaa.Pure
set_option linter.unusedVariables false
set_option maxRecDepth 100000

/-! ### ready, for one, two and three values -/
theorem ready1_c (r rr ro : Option Nat) (o : Nat) (q0 : Option Nat) (l k0 : List Int) (v : Int) (st : St) (hx : At st r o l) (hy : At st rr 0 [v]) (hl : l.length ≤ 1048576)
    (h0 : cell st ro 0 = some (.sl q0 0 k0.length)) (a0 : At st q0 0 k0) (n0 : k0.length ≤ 1000) :
    ACalls Try.prog 112 [.agg [.sl r o l.length], .sl rr 0 [v].length, .sl ro 0 1] st No (Pv (.bool (bd (Rts l [v] ∧ v % 8 ∈ k0)))) := by
  have e : bd (Rdy l [v] (fun _ => k0)) = bd (Rts l [v] ∧ v % 8 ∈ k0) := bd_eq ⟨fun h => ⟨h.1, by simpa [rd] using h.2 0 (by simp)⟩, fun h => ⟨h.1, fun i hi => by
    have hi0 : i = 0 := by simp at hi; exact hi
    subst hi0
    simpa [rd] using h.2⟩⟩
  rw [← e]
  exact ready_c _ _ _ _ _ _ _ l [v] (fun _ => q0) (fun _ => k0) _ hx hy hl (by simp) (by simp) (fun i hi => by
    have hi0 : i = 0 := by simp at hi; exact hi
    subst hi0
    exact ⟨h0, a0, n0⟩)
theorem ready2_c (r rr ro : Option Nat) (o : Nat) (q0 q1 : Option Nat) (l k0 k1 : List Int) (v w : Int) (st : St) (hx : At st r o l) (hy : At st rr 0 [v, w]) (hl : l.length ≤ 1048576)
    (h0 : cell st ro 0 = some (.sl q0 0 k0.length)) (a0 : At st q0 0 k0) (n0 : k0.length ≤ 1000) (h1 : cell st ro 1 = some (.sl q1 0 k1.length)) (a1 : At st q1 0 k1) (n1 : k1.length ≤ 1000) :
    ACalls Try.prog 112 [.agg [.sl r o l.length], .sl rr 0 [v, w].length, .sl ro 0 2] st No (Pv (.bool (bd (Rts l [v, w] ∧ v % 8 ∈ k0 ∧ w % 8 ∈ k1)))) := by
  have e : bd (Rdy l [v, w] (fun i => match i with | 0 => k0 | _ => k1)) = bd (Rts l [v, w] ∧ v % 8 ∈ k0 ∧ w % 8 ∈ k1) := bd_eq ⟨fun h => ⟨h.1, by simpa [rd] using h.2 0 (by simp), by simpa [rd] using h.2 1 (by simp)⟩, fun h => ⟨h.1, fun i hi => by
    match i, hi with
    | 0, _ => simpa [rd] using h.2.1
    | 1, _ => simpa [rd] using h.2.2
    | i + 2, hi => exact absurd hi (by simp)⟩⟩
  rw [← e]
  exact ready_c _ _ _ _ _ _ _ l [v, w] (fun i => match i with | 0 => q0 | _ => q1) (fun i => match i with | 0 => k0 | _ => k1) _ hx hy hl (by simp) (by simp) (fun i hi => by
    match i, hi with
    | 0, _ => exact ⟨h0, a0, n0⟩
    | 1, _ => exact ⟨h1, a1, n1⟩
    | i + 2, hi => exact absurd hi (by simp))
theorem ready3_c (r rr ro : Option Nat) (o : Nat) (q0 q1 q2 : Option Nat) (l k0 k1 k2 : List Int) (u v w : Int) (st : St) (hx : At st r o l) (hy : At st rr 0 [u, v, w]) (hl : l.length ≤ 1048576)
    (h0 : cell st ro 0 = some (.sl q0 0 k0.length)) (a0 : At st q0 0 k0) (n0 : k0.length ≤ 1000) (h1 : cell st ro 1 = some (.sl q1 0 k1.length)) (a1 : At st q1 0 k1) (n1 : k1.length ≤ 1000) (h2 : cell st ro 2 = some (.sl q2 0 k2.length)) (a2 : At st q2 0 k2) (n2 : k2.length ≤ 1000) :
    ACalls Try.prog 112 [.agg [.sl r o l.length], .sl rr 0 [u, v, w].length, .sl ro 0 3] st No (Pv (.bool (bd (Rts l [u, v, w] ∧ u % 8 ∈ k0 ∧ v % 8 ∈ k1 ∧ w % 8 ∈ k2)))) := by
  have e : bd (Rdy l [u, v, w] (fun i => match i with | 0 => k0 | 1 => k1 | _ => k2)) = bd (Rts l [u, v, w] ∧ u % 8 ∈ k0 ∧ v % 8 ∈ k1 ∧ w % 8 ∈ k2) := bd_eq ⟨fun h => ⟨h.1, by simpa [rd] using h.2 0 (by simp), by simpa [rd] using h.2 1 (by simp), by simpa [rd] using h.2 2 (by simp)⟩, fun h => ⟨h.1, fun i hi => by
    match i, hi with
    | 0, _ => simpa [rd] using h.2.1
    | 1, _ => simpa [rd] using h.2.2.1
    | 2, _ => simpa [rd] using h.2.2.2
    | i + 3, hi => exact absurd hi (by simp)⟩⟩
  rw [← e]
  exact ready_c _ _ _ _ _ _ _ l [u, v, w] (fun i => match i with | 0 => q0 | 1 => q1 | _ => q2) (fun i => match i with | 0 => k0 | 1 => k1 | _ => k2) _ hx hy hl (by simp) (by simp) (fun i hi => by
    match i, hi with
    | 0, _ => exact ⟨h0, a0, n0⟩
    | 1, _ => exact ⟨h1, a1, n1⟩
    | 2, _ => exact ⟨h2, a2, n2⟩
    | i + 3, hi => exact absurd hi (by simp))

/-! ### what is told where something is not right -/
noncomputable def zl (l : List Int) : List Int := cond (bd (Heap l)) l []
theorem zl_t {l : List Int} (h : Heap l) : zl l = l := by unfold zl; rw [bdt.2 h]; rfl
theorem zl_f {l : List Int} (h : ¬ Heap l) : zl l = [] := by unfold zl; rw [bdf.2 h]; rfl
theorem zl_len (l : List Int) : (zl l).length ≤ l.length := by unfold zl; cases bd (Heap l) <;> simp
theorem l5Zero_c (r : Option Nat) (o : Nat) (l : List Int) (st : St) (hx : At st r o l) (hl : l.length ≤ 1048576) : ACalls Try.prog 155 [.agg [.sl r o l.length]] st No (Sn st (zl l)) := by
  refine ent (N := 9) Try.func155 rfl (by decide) rfl rfl rfl ?_
  refine crr (by kernel_rfl) rfl ?_   -- region 0
  refine c_seq ?_
  refine c_rs (by kernel_rfl) ?_   -- region 1
  refine sr 1 rfl ?_
  refine s_op rfl (o_ex loud_n rfl (HeapOk_c _ _ _ _ hx hl) ?_)
  rintro v1 st1 rfl e1
  refine sra rfl ?_
  refine c_if rfl (fun h5 => ?_) (fun h5 => ?_)
  · have h5 := nbt h5
    refine crr (by kernel_rfl) rfl ?_   -- region 2
    refine c_ret (fr rfl ⟨none, ?_, ?_⟩)
    · rw [zl_f h5]; rfl
    · rw [zl_f h5]; exact fr_nil _ _
  · have h5 := nbf h5
    refine c_skip ?_
    refine c_rs (by kernel_rfl) ?_   -- region 3
    refine sr 1 rfl ?_
    refine s_op rfl (o_ex loud_n rfl (l2Copy_c _ _ _ _ (hx.ex e1) hl) ?_)
    rintro v2 st2 ⟨q, rfl, hf⟩ e2
    refine sra rfl ?_
    refine c_ret (fr rfl ⟨q, ?_, ?_⟩)
    · rw [zl_t h5]
    · rw [zl_t h5]; exact hf.le e1.n
def Pok (v : Int) : Prop := v = 1 ∨ v % 8 = 5
theorem l5ProtoOk_c (v : Int) (st : St) : ACalls Try.prog 154 [I v] st No (Pure1 (.bool (bd (Pok v))) st) := by
  refine ent (N := 10) Try.func154 rfl (by decide) rfl rfl rfl ?_
  refine crr (by kernel_rfl) rfl ?_   -- region 0
  refine c_rs (by kernel_rfl) ?_   -- region 1
  refine sr 3 rfl ?_
  refine s_bool 5 rfl rfl (fun h5 => ?_) (fun h5 => ?_)
  · have h5 := of_decide_eq_true h5
    refine sra rfl ?_
    exact c_ret (fr rfl ⟨abd ⟨fun _ => .inl h5, fun _ => rfl⟩, rfl⟩)
  · have h5 := of_decide_eq_false h5
    refine sr 1 rfl ?_
    refine s_op rfl (o_pure loud_n rfl (Kind_c ..) ?_)
    refine sra rfl ?_
    exact c_ret (fr rfl ⟨abd ⟨fun h => .inr (of_decide_eq_true h), fun h => decide_eq_true (h.resolve_left h5)⟩, rfl⟩)
/-- A slab that is new, whether it went. -/
def Ns (st : St) (l : List Int) (b : Bool) : AV → St → Prop := fun v st' => ∃ r, v = .tup [.agg [.sl r 0 l.length], .bool b] ∧ Fr st.n st' r l
theorem vok1 {l : List Int} {v : Int} (h : Leads l v 5) (h1 : v % 8 = 1) : v = 1 := by have := h.1.2.1 h1; omega
theorem vok0 {l : List Int} {v : Int} (h : Leads l v 5) (h1 : v % 8 = 0) : v = 0 := by have := h.1.1 h1; omega

end Go.Proofs.YtfhkjhnaihhdmaaW.Ax
