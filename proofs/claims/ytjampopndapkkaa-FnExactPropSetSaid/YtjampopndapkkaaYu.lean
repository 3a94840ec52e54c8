/- Chapters 5 and 6, walked: what is asked ahead; prototypes; what is made. -/
import Derived.Test.YtjampopndapkkaaYt
import Derived.Test.YtjampopndapkkaaYk
import Derived.Test.YtjampopndapkkaaYo
import Derived.Test.YtjampopndapkkaaXv
namespace Go.Proofs.YtjampopndapkkaaW.Ax
open Go Go.RowKit Go.Proofs Go.Proofs.Ytjampopndapkkaa.Pure
set_option linter.unusedVariables false
set_option maxRecDepth 100000

/-! ### ready, for one, two and three values -/
theorem ready1_c (r rr ro : Option Nat) (o : Nat) (q0 : Option Nat) (l k0 : List Int) (v : Int) (st : St) (hx : At st r o l) (hy : At st rr 0 [v]) (hl : l.length ≤ 1048576)
    (h0 : cell st ro 0 = some (.sl q0 0 k0.length)) (a0 : At st q0 0 k0) (n0 : k0.length ≤ 1000) :
    ACalls Try.prog 52 [.agg [.sl r o l.length], .sl rr 0 [v].length, .sl ro 0 1] st No (Pv (.bool (bd (Rts l [v] ∧ v % 8 ∈ k0)))) := by
  have e : bd (Rdy l [v] (fun _ => k0)) = bd (Rts l [v] ∧ v % 8 ∈ k0) := bd_eq ⟨fun h => ⟨h.1, by simpa [rd] using h.2 0 (by simp)⟩, fun h => ⟨h.1, fun i hi => by
    have hi0 : i = 0 := by simp at hi; exact hi
    subst hi0
    simpa [rd] using h.2⟩⟩
  rw [← e]
  exact ready_c _ _ _ _ _ _ _ l [v] (fun _ => q0) (fun _ => k0) _ hx hy hl (by simp) (by simp) (fun i hi => by
    have hi0 : i = 0 := by simp at hi; exact hi
    subst hi0
    exact ⟨h0, a0, n0⟩)
theorem ready2_c (r rr ro : Option Nat) (o : Nat) (q0 q1 : Option Nat) (l k0 k1 : List Int) (v w : Int) (st : St) (hx : At st r o l) (hy : At st rr 0 [v, w]) (hl : l.length ≤ 1048576)
    (h0 : cell st ro 0 = some (.sl q0 0 k0.length)) (a0 : At st q0 0 k0) (n0 : k0.length ≤ 1000) (h1 : cell st ro 1 = some (.sl q1 0 k1.length)) (a1 : At st q1 0 k1) (n1 : k1.length ≤ 1000) :
    ACalls Try.prog 52 [.agg [.sl r o l.length], .sl rr 0 [v, w].length, .sl ro 0 2] st No (Pv (.bool (bd (Rts l [v, w] ∧ v % 8 ∈ k0 ∧ w % 8 ∈ k1)))) := by
  have e : bd (Rdy l [v, w] (fun i => match i with | 0 => k0 | _ => k1)) = bd (Rts l [v, w] ∧ v % 8 ∈ k0 ∧ w % 8 ∈ k1) := bd_eq ⟨fun h => ⟨h.1, by simpa [rd] using h.2 0 (by simp), by simpa [rd] using h.2 1 (by simp)⟩, fun h => ⟨h.1, fun i hi => by
    match i, hi with
    | 0, _ => simpa [rd] using h.2.1
    | 1, _ => simpa [rd] using h.2.2
    | i + 2, hi => exact absurd hi (by simp)⟩⟩
  rw [← e]
  exact ready_c _ _ _ _ _ _ _ l [v, w] (fun i => match i with | 0 => q0 | _ => q1) (fun i => match i with | 0 => k0 | _ => k1) _ hx hy hl (by simp) (by simp) (fun i hi => by
    match i, hi with
    | 0, _ => exact ⟨h0, a0, n0⟩
    | 1, _ => exact ⟨h1, a1, n1⟩
    | i + 2, hi => exact absurd hi (by simp))
theorem ready3_c (r rr ro : Option Nat) (o : Nat) (q0 q1 q2 : Option Nat) (l k0 k1 k2 : List Int) (u v w : Int) (st : St) (hx : At st r o l) (hy : At st rr 0 [u, v, w]) (hl : l.length ≤ 1048576)
    (h0 : cell st ro 0 = some (.sl q0 0 k0.length)) (a0 : At st q0 0 k0) (n0 : k0.length ≤ 1000) (h1 : cell st ro 1 = some (.sl q1 0 k1.length)) (a1 : At st q1 0 k1) (n1 : k1.length ≤ 1000) (h2 : cell st ro 2 = some (.sl q2 0 k2.length)) (a2 : At st q2 0 k2) (n2 : k2.length ≤ 1000) :
    ACalls Try.prog 52 [.agg [.sl r o l.length], .sl rr 0 [u, v, w].length, .sl ro 0 3] st No (Pv (.bool (bd (Rts l [u, v, w] ∧ u % 8 ∈ k0 ∧ v % 8 ∈ k1 ∧ w % 8 ∈ k2)))) := by
  have e : bd (Rdy l [u, v, w] (fun i => match i with | 0 => k0 | 1 => k1 | _ => k2)) = bd (Rts l [u, v, w] ∧ u % 8 ∈ k0 ∧ v % 8 ∈ k1 ∧ w % 8 ∈ k2) := bd_eq ⟨fun h => ⟨h.1, by simpa [rd] using h.2 0 (by simp), by simpa [rd] using h.2 1 (by simp), by simpa [rd] using h.2 2 (by simp)⟩, fun h => ⟨h.1, fun i hi => by
    match i, hi with
    | 0, _ => simpa [rd] using h.2.1
    | 1, _ => simpa [rd] using h.2.2.1
    | 2, _ => simpa [rd] using h.2.2.2
    | i + 3, hi => exact absurd hi (by simp)⟩⟩
  rw [← e]
  exact ready_c _ _ _ _ _ _ _ l [u, v, w] (fun i => match i with | 0 => q0 | 1 => q1 | _ => q2) (fun i => match i with | 0 => k0 | 1 => k1 | _ => k2) _ hx hy hl (by simp) (by simp) (fun i hi => by
    match i, hi with
    | 0, _ => exact ⟨h0, a0, n0⟩
    | 1, _ => exact ⟨h1, a1, n1⟩
    | 2, _ => exact ⟨h2, a2, n2⟩
    | i + 3, hi => exact absurd hi (by simp))

/-! ### what is told where something is not right -/
noncomputable def zl (l : List Int) : List Int := cond (bd (Heap l)) l []
theorem zl_t {l : List Int} (h : Heap l) : zl l = l := by unfold zl; rw [bdt.2 h]; rfl
theorem zl_f {l : List Int} (h : ¬ Heap l) : zl l = [] := by unfold zl; rw [bdf.2 h]; rfl
theorem zl_len (l : List Int) : (zl l).length ≤ l.length := by unfold zl; cases bd (Heap l) <;> simp
theorem l5Zero_c (r : Option Nat) (o : Nat) (l : List Int) (st : St) (hx : At st r o l) (hl : l.length ≤ 1048576) : ACalls Try.prog 59 [.agg [.sl r o l.length]] st No (Sn st (zl l)) := by
  refine ent (N := 9) Try.func59 rfl (by decide) rfl rfl rfl ?_
  refine crr (by kernel_rfl) rfl ?_   -- region 0
  refine c_seq ?_
  refine c_rs (by kernel_rfl) ?_   -- region 1
  refine sr 1 rfl ?_
  refine s_op rfl (o_ex loud_n rfl (HeapOk_c _ _ _ _ hx hl) ?_)
  rintro v1 st1 rfl e1
  refine sra rfl ?_
  refine c_if rfl (fun h5 => ?_) (fun h5 => ?_)
  · have h5 := nbt h5
    refine crr (by kernel_rfl) rfl ?_   -- region 2
    refine c_ret (fr rfl ⟨none, ?_, ?_⟩)
    · rw [zl_f h5]; rfl
    · rw [zl_f h5]; exact fr_nil _ _
  · have h5 := nbf h5
    refine c_skip ?_
    refine c_rs (by kernel_rfl) ?_   -- region 3
    refine sr 1 rfl ?_
    refine s_op rfl (o_ex loud_n rfl (l2Copy_c _ _ _ _ (hx.ex e1) hl) ?_)
    rintro v2 st2 ⟨q, rfl, hf⟩ e2
    refine sra rfl ?_
    refine c_ret (fr rfl ⟨q, ?_, ?_⟩)
    · rw [zl_t h5]
    · rw [zl_t h5]; exact hf.le e1.n
theorem asItWas_c (r : Option Nat) (o : Nat) (l : List Int) (st : St) (hx : At st r o l) (hl : l.length ≤ 1048576) : ACalls Try.prog 62 [.agg [.sl r o l.length]] st No (Sn st (zl l)) := by
  refine ent (N := 9) Try.func62 rfl (by decide) rfl rfl rfl ?_
  refine crr (by kernel_rfl) rfl ?_   -- region 0
  refine c_seq ?_
  refine c_rs (by kernel_rfl) ?_   -- region 1
  refine sr 1 rfl ?_
  refine s_op rfl (o_ex loud_n rfl (iHeapOk_c _ _ _ _ hx) ?_)
  rintro v1 st1 rfl e1
  refine sra rfl ?_
  refine c_if rfl (fun h5 => ?_) (fun h5 => ?_)
  · have h5 := nbt h5
    refine crr (by kernel_rfl) rfl ?_   -- region 2
    refine c_ret (fr rfl ⟨none, ?_, ?_⟩)
    · rw [zl_f h5]; rfl
    · rw [zl_f h5]; exact fr_nil _ _
  · have h5 := nbf h5
    refine c_skip ?_
    refine c_rs (by kernel_rfl) ?_   -- region 3
    refine sr 1 rfl ?_
    refine s_op rfl (o_ex loud_n rfl (copySlab_c _ _ _ _ (hx.ex e1) (by omega)) ?_)
    rintro v2 st2 ⟨q, rfl, hf⟩ e2
    refine sra rfl ?_
    refine c_ret (fr rfl ⟨q, ?_, ?_⟩)
    · rw [zl_t h5]
    · rw [zl_t h5]; exact hf.le e1.n
def Pok (v : Int) : Prop := v = 1 ∨ v % 8 = 5
theorem l5ProtoOk_c (v : Int) (st : St) : ACalls Try.prog 58 [I v] st No (Pure1 (.bool (bd (Pok v))) st) := by
  refine ent (N := 10) Try.func58 rfl (by decide) rfl rfl rfl ?_
  refine crr (by kernel_rfl) rfl ?_   -- region 0
  refine c_rs (by kernel_rfl) ?_   -- region 1
  refine sr 3 rfl ?_
  refine s_bool 5 rfl rfl (fun h5 => ?_) (fun h5 => ?_)
  · have h5 := of_decide_eq_true h5
    refine sra rfl ?_
    exact c_ret (fr rfl ⟨abd ⟨fun _ => .inl h5, fun _ => rfl⟩, rfl⟩)
  · have h5 := of_decide_eq_false h5
    refine sr 1 rfl ?_
    refine s_op rfl (o_pure loud_n rfl (Kind_c ..) ?_)
    refine sra rfl ?_
    exact c_ret (fr rfl ⟨abd ⟨fun h => .inr (of_decide_eq_true h), fun h => decide_eq_true (h.resolve_left h5)⟩, rfl⟩)
/-- A slab that is new, whether it went. -/
def Ns (st : St) (l : List Int) (b : Bool) : AV → St → Prop := fun v st' => ∃ r, v = .tup [.agg [.sl r 0 l.length], .bool b] ∧ Fr st.n st' r l
theorem vok1 {l : List Int} {v : Int} (h : Leads l v 5) (h1 : v % 8 = 1) : v = 1 := by have := h.1.2.1 h1; omega
theorem vok0 {l : List Int} {v : Int} (h : Leads l v 5) (h1 : v % 8 = 0) : v = 0 := by have := h.1.1 h1; omega

/-! ### ProtoSet -/
def PsOk (l : List Int) (obj proto : Int) : Prop := Pok proto ∧ Isk l [obj, proto] 5
theorem ps_at {l : List Int} {obj proto : Int} (h : PsOk l obj proto) : Heap l ∧ Rf l obj 5 2 := by
  have h1 : obj % 8 = 5 := by simpa [rd] using h.2.1
  exact ⟨h.2.2.1, (leads_rf (h.2.2.2 obj (by simp))).2.1 h1⟩
noncomputable def psL (l : List Int) (obj proto : Int) : List Int := cond (bd (PsOk l obj proto)) (l.set (obj / 8 + 1).toNat proto) (zl l)
theorem psL_t {l : List Int} {obj proto : Int} (h : PsOk l obj proto) : psL l obj proto = l.set (obj / 8 + 1).toNat proto := by unfold psL; rw [bdt.2 h]; rfl
theorem psL_f {l : List Int} {obj proto : Int} (h : ¬ PsOk l obj proto) : psL l obj proto = zl l := by unfold psL; rw [bdf.2 h]; rfl
theorem psL_len (l : List Int) (obj proto : Int) : (psL l obj proto).length ≤ l.length := by
  unfold psL
  have := zl_len l
  cases bd (PsOk l obj proto)
  · exact this
  · simp
theorem ProtoSet_c (r : Option Nat) (o : Nat) (l : List Int) (obj proto : Int) (st : St) (hx : At st r o l) (hl : l.length ≤ 1048576) : ACalls Try.prog 22 [.agg [.sl r o l.length], I obj, I proto] st No (Ns st (psL l obj proto) (bd (PsOk l obj proto))) := by
  refine ent (N := 32) Try.func22 rfl (by decide) rfl rfl rfl ?_
  refine crr (by kernel_rfl) rfl ?_   -- region 0
  refine c_seq ?_
  refine c_sj (α := Bool) (fun b => [(1, I obj), (2, I proto), (19, .bool b)]) (fun _ => [(3, 3, [.sl r o l.length]), (6, 6, [.sl none 0 0])]) (fun b st' => Ex st st' ∧ (b = true ↔ ¬ PsOk l obj proto)) ?_ ?_
  · -- region 1
    refine c_region (by kernel_rfl) ?_
    refine sr 1 rfl ?_
    refine s_op rfl (o_pure loud_n rfl (l5ProtoOk_c ..) ?_)
    refine sr 2 rfl ?_
    refine s_bool 12 rfl rfl (fun h12 => ?_) (fun h12 => ?_)
    · have h12 := nbt h12
      refine sra rfl ⟨true, ⟨rfl, rfl, rfl, trivial⟩, ⟨rfl, rfl, rfl, rfl, trivial⟩, Ext.refl _ _, ⟨fun _ h => h12 h.1, fun _ => rfl⟩⟩
    · have h12 := nbf h12
      refine sr 3 rfl ?_
      refine s_op rfl (oints [obj, proto] loud_n rfl (by decide) rfl rfl rfl fun q st1 hq e1 => ?_)
      refine s_op rfl (o_ex loud_n rfl (l5Is_c _ _ _ _ _ _ _ _ (hx.ex e1) hq.at_ hl (by simp) (by simp)) ?_)
      rintro v2 st2 rfl e2
      refine sra rfl ⟨_, ⟨rfl, rfl, rfl, trivial⟩, ⟨rfl, rfl, rfl, rfl, trivial⟩, e1.tr e2, ?_⟩
      exact ⟨fun h k => nbt h k.2, fun h => (by rw [bdf.2 fun k => h ⟨h12, k⟩]; rfl)⟩
  rintro b st1 ⟨e1, hb⟩
  refine c_if rfl (fun h19 => ?_) (fun h19 => ?_)
  · have h19 := hb.1 h19
    refine c_rs (by kernel_rfl) ?_   -- region 2
    refine sr 1 rfl ?_
    refine s_op rfl (o_ex loud_n rfl (l5Zero_c _ _ _ _ (hx.ex e1) hl) ?_)
    rintro v2 st2 ⟨q, rfl, hf⟩ e2
    refine sra rfl ?_
    refine c_ret (fr rfl ⟨q, ?_, ?_⟩)
    · rw [psL_f h19, bdf.2 h19]
    · rw [psL_f h19]; exact hf.le e1.n
  · have h19 : PsOk l obj proto := Classical.byContradiction fun h => by rw [hb.2 h] at h19; cases h19
    obtain ⟨hp, ho⟩ := ps_at h19
    have hb := obj_at hp ho
    refine c_skip ?_
    refine c_rs (by kernel_rfl) ?_   -- region 3
    refine sr 1 rfl ?_
    refine s_op rfl (o_ex loud_n rfl (l2Copy_c _ _ _ _ (hx.ex e1) hl) ?_)
    rintro v2 st2 ⟨q, rfl, hf⟩ e2
    have hf := hf.le e1.n
    refine sra rfl ?_
    refine cds [0, 1, 2, 5, 3, 4, 6, 7] [.q, .q, .q, .q, .f, .q, .q, .n] (by kernel_rfl) (by kernel_rfl) ?_   -- region 4
    refine sr 4 rfl ?_
    refine s_op rfl (o_pure loud_f rfl (Num_c ..) ?_)
    refine s_op rfl (o_ar rfl rfl rfl (by omega) (by omega) ?_)
    refine s_op rfl (oidx rfl rfl rfl (by omega) (by omega) ?_)
    refine s_op rfl (ostF rfl rfl hf rfl rfl (by omega) fun st3 hf3 e3 => ?_)
    refine s_end ?_
    refine crr (by kernel_rfl) rfl ?_   -- region 5
    refine c_ret (fr rfl ⟨q, ?_, ?_⟩)
    · rw [psL_t h19, bdt.2 h19, List.length_set]
    · rw [psL_t h19]; simpa using hf3
theorem iProtoSet_c (r : Option Nat) (o : Nat) (l : List Int) (obj proto : Int) (st : St) (hx : At st r o l) (hl : l.length ≤ 1048576) : ACalls Try.prog 23 [.agg [.sl r o l.length], I obj, I proto] st No (Ns st (psL l obj proto) (bd (PsOk l obj proto))) := by
  have hR : (Rts l [obj, proto] ∧ obj % 8 ∈ ([5] : List Int) ∧ proto % 8 ∈ ([1, 5] : List Int)) ↔ PsOk l obj proto := by
    unfold PsOk Isk Pok
    have e : rd [obj, proto] 0 = obj := rfl
    rw [e]
    refine ⟨fun h => ⟨?_, by simpa using h.2.1, h.1⟩, fun h => ⟨h.2.2, by simpa using h.2.1, ?_⟩⟩
    · have h3 : proto % 8 = 1 ∨ proto % 8 = 5 := by simpa using h.2.2
      exact h3.imp (vok1 (h.1.2 proto (by simp))) id
    · have : proto % 8 = 1 ∨ proto % 8 = 5 := h.1.imp (fun e => by omega) id
      simpa using this
  refine ent (N := 30) Try.func23 rfl (by decide) rfl rfl rfl ?_
  refine crr (by kernel_rfl) rfl ?_   -- region 0
  refine c_seq ?_
  refine c_rs (by kernel_rfl) ?_   -- region 1
  refine sr 3 rfl ?_
  refine s_op rfl (oints [obj, proto] loud_n rfl (by decide) rfl rfl rfl fun q st1 hq e1 => ?_)
  refine s_op rfl (oints [5] loud_n rfl (by decide) rfl rfl rfl fun q1 st2 hq1 e2 => ?_)
  refine s_op rfl (oints [1, 5] loud_n rfl (by decide) rfl rfl rfl fun q2 st3 hq2 e3 => ?_)
  refine s_op rfl (oblk [.sl (some q1) 0 1, .sl (some q2) 0 2] loud_n rfl (by decide) rfl rfl fun q3 st4 hq3 e4 => ?_)
  have e24 := (e2.tr e3).tr e4
  refine s_op rfl (o_ex loud_n rfl (ready2_c _ _ _ _ _ _ l [5] [1, 5] obj proto _ (hx.ex (e1.tr e24)) (hq.at_.ex e24) hl (hq3 0) (hq1.at_.ex (e3.tr e4)) (by decide) (hq3 1) (hq2.at_.ex e4) (by decide)) ?_)
  rintro v5 st5 rfl e5
  have e15 := (e1.tr e24).tr e5
  refine sra rfl ?_
  refine c_if rfl (fun h17 => ?_) (fun h17 => ?_)
  · have h17 : ¬ PsOk l obj proto := fun h => nbt h17 (hR.2 h)
    refine c_rs (by kernel_rfl) ?_   -- region 2
    refine sr 1 rfl ?_
    refine s_op rfl (o_ex loud_n rfl (asItWas_c _ _ _ _ (hx.ex e15) hl) ?_)
    rintro v2 st2 ⟨q, rfl, hf⟩ e2
    refine sra rfl ?_
    refine c_ret (fr rfl ⟨q, ?_, ?_⟩)
    · rw [psL_f h17, bdf.2 h17]
    · rw [psL_f h17]; exact hf.le e15.n
  · have h17 : PsOk l obj proto := hR.1 (nbf h17)
    obtain ⟨hp, ho⟩ := ps_at h17
    have hb := obj_at hp ho
    refine c_skip ?_
    refine c_rs (by kernel_rfl) ?_   -- region 3
    refine sr 1 rfl ?_
    refine s_op rfl (o_ex loud_n rfl (copySlab_c _ _ _ _ (hx.ex e15) (by omega)) ?_)
    rintro v2 st2 ⟨q, rfl, hf⟩ e2
    have hf := hf.le e15.n
    refine sra rfl ?_
    refine cds [0, 1, 2, 5, 3, 4, 6, 7] [.q, .q, .q, .q, .f, .q, .q, .n] (by kernel_rfl) (by kernel_rfl) ?_   -- region 4
    refine sr 4 rfl ?_
    refine s_op rfl (o_pure loud_f rfl (iNum_c ..) ?_)
    refine s_op rfl (o_ar rfl rfl rfl (by omega) (by omega) ?_)
    refine s_op rfl (oidx rfl rfl rfl (by omega) (by omega) ?_)
    refine s_op rfl (ostF rfl rfl hf rfl rfl (by omega) fun st3 hf3 e3 => ?_)
    refine s_end ?_
    refine crr (by kernel_rfl) rfl ?_   -- region 5
    refine c_ret (fr rfl ⟨q, ?_, ?_⟩)
    · rw [psL_t h17, bdt.2 h17, List.length_set]
    · rw [psL_t h17]; simpa using hf3
end Go.Proofs.YtjampopndapkkaaW.Ax
