/- Merged: Yt Yu Yv Yw Yx Yy. -/
import Derived.Test.YtfnfiapacbeemaaQ3
import Derived.Test.YtfnfiapacbeemaaQ2
import Derived.Test.YtfnfiapacbeemaaXU
/- What is taken of a slab: walked. -/
namespace Go.Proofs.YtfnfiapacbeemaaW.Ax
open Go Go.RowKit Go.Proofs Go.Proofs.Ytfnfiapacbeemaa.Pure
set_option linter.unusedVariables false
set_option maxRecDepth 100000

end Go.Proofs.YtfnfiapacbeemaaW.Ax

/- Chapters 5 and 6, walked: what is asked ahead; prototypes; what is made. -/
namespace Go.Proofs.YtfnfiapacbeemaaW.Ax
open Go Go.RowKit Go.Proofs Go.Proofs.Ytfnfiapacbeemaa.Pure
set_option linter.unusedVariables false
set_option maxRecDepth 100000

/-! ### ready, for one, two and three values -/
theorem ready1_c (r rr ro : Option Nat) (o : Nat) (q0 : Option Nat) (l k0 : List Int) (v : Int) (st : St) (hx : At st r o l) (hy : At st rr 0 [v]) (hl : l.length ≤ 1048576)
    (h0 : cell st ro 0 = some (.sl q0 0 k0.length)) (a0 : At st q0 0 k0) (n0 : k0.length ≤ 1000) :
    ACalls Try.prog 19 [.agg [.sl r o l.length], .sl rr 0 [v].length, .sl ro 0 1] st No (Pv (.bool (bd (Rts l [v] ∧ v % 8 ∈ k0)))) := by
  have e : bd (Rdy l [v] (fun _ => k0)) = bd (Rts l [v] ∧ v % 8 ∈ k0) := bd_eq ⟨fun h => ⟨h.1, by simpa [rd] using h.2 0 (by simp)⟩, fun h => ⟨h.1, fun i hi => by
    have hi0 : i = 0 := by simp at hi; exact hi
    subst hi0
    simpa [rd] using h.2⟩⟩
  rw [← e]
  exact ready_c _ _ _ _ _ _ _ l [v] (fun _ => q0) (fun _ => k0) _ hx hy hl (by simp) (by simp) (fun i hi => by
    have hi0 : i = 0 := by simp at hi; exact hi
    subst hi0
    exact ⟨h0, a0, n0⟩)
theorem ready2_c (r rr ro : Option Nat) (o : Nat) (q0 q1 : Option Nat) (l k0 k1 : List Int) (v w : Int) (st : St) (hx : At st r o l) (hy : At st rr 0 [v, w]) (hl : l.length ≤ 1048576)
    (h0 : cell st ro 0 = some (.sl q0 0 k0.length)) (a0 : At st q0 0 k0) (n0 : k0.length ≤ 1000) (h1 : cell st ro 1 = some (.sl q1 0 k1.length)) (a1 : At st q1 0 k1) (n1 : k1.length ≤ 1000) :
    ACalls Try.prog 19 [.agg [.sl r o l.length], .sl rr 0 [v, w].length, .sl ro 0 2] st No (Pv (.bool (bd (Rts l [v, w] ∧ v % 8 ∈ k0 ∧ w % 8 ∈ k1)))) := by
  have e : bd (Rdy l [v, w] (fun i => match i with | 0 => k0 | _ => k1)) = bd (Rts l [v, w] ∧ v % 8 ∈ k0 ∧ w % 8 ∈ k1) := bd_eq ⟨fun h => ⟨h.1, by simpa [rd] using h.2 0 (by simp), by simpa [rd] using h.2 1 (by simp)⟩, fun h => ⟨h.1, fun i hi => by
    match i, hi with
    | 0, _ => simpa [rd] using h.2.1
    | 1, _ => simpa [rd] using h.2.2
    | i + 2, hi => exact absurd hi (by simp)⟩⟩
  rw [← e]
  exact ready_c _ _ _ _ _ _ _ l [v, w] (fun i => match i with | 0 => q0 | _ => q1) (fun i => match i with | 0 => k0 | _ => k1) _ hx hy hl (by simp) (by simp) (fun i hi => by
    match i, hi with
    | 0, _ => exact ⟨h0, a0, n0⟩
    | 1, _ => exact ⟨h1, a1, n1⟩
    | i + 2, hi => exact absurd hi (by simp))
theorem ready3_c (r rr ro : Option Nat) (o : Nat) (q0 q1 q2 : Option Nat) (l k0 k1 k2 : List Int) (u v w : Int) (st : St) (hx : At st r o l) (hy : At st rr 0 [u, v, w]) (hl : l.length ≤ 1048576)
    (h0 : cell st ro 0 = some (.sl q0 0 k0.length)) (a0 : At st q0 0 k0) (n0 : k0.length ≤ 1000) (h1 : cell st ro 1 = some (.sl q1 0 k1.length)) (a1 : At st q1 0 k1) (n1 : k1.length ≤ 1000) (h2 : cell st ro 2 = some (.sl q2 0 k2.length)) (a2 : At st q2 0 k2) (n2 : k2.length ≤ 1000) :
    ACalls Try.prog 19 [.agg [.sl r o l.length], .sl rr 0 [u, v, w].length, .sl ro 0 3] st No (Pv (.bool (bd (Rts l [u, v, w] ∧ u % 8 ∈ k0 ∧ v % 8 ∈ k1 ∧ w % 8 ∈ k2)))) := by
  have e : bd (Rdy l [u, v, w] (fun i => match i with | 0 => k0 | 1 => k1 | _ => k2)) = bd (Rts l [u, v, w] ∧ u % 8 ∈ k0 ∧ v % 8 ∈ k1 ∧ w % 8 ∈ k2) := bd_eq ⟨fun h => ⟨h.1, by simpa [rd] using h.2 0 (by simp), by simpa [rd] using h.2 1 (by simp), by simpa [rd] using h.2 2 (by simp)⟩, fun h => ⟨h.1, fun i hi => by
    match i, hi with
    | 0, _ => simpa [rd] using h.2.1
    | 1, _ => simpa [rd] using h.2.2.1
    | 2, _ => simpa [rd] using h.2.2.2
    | i + 3, hi => exact absurd hi (by simp)⟩⟩
  rw [← e]
  exact ready_c _ _ _ _ _ _ _ l [u, v, w] (fun i => match i with | 0 => q0 | 1 => q1 | _ => q2) (fun i => match i with | 0 => k0 | 1 => k1 | _ => k2) _ hx hy hl (by simp) (by simp) (fun i hi => by
    match i, hi with
    | 0, _ => exact ⟨h0, a0, n0⟩
    | 1, _ => exact ⟨h1, a1, n1⟩
    | 2, _ => exact ⟨h2, a2, n2⟩
    | i + 3, hi => exact absurd hi (by simp))

/-! ### what is told where something is not right -/
noncomputable def zl (l : List Int) : List Int := cond (bd (Heap l)) l []
theorem zl_t {l : List Int} (h : Heap l) : zl l = l := by unfold zl; rw [bdt.2 h]; rfl
theorem zl_f {l : List Int} (h : ¬ Heap l) : zl l = [] := by unfold zl; rw [bdf.2 h]; rfl
theorem zl_len (l : List Int) : (zl l).length ≤ l.length := by unfold zl; cases bd (Heap l) <;> simp
def Pok (v : Int) : Prop := v = 1 ∨ v % 8 = 5
/-- A slab that is new, whether it went. -/
def Ns (st : St) (l : List Int) (b : Bool) : AV → St → Prop := fun v st' => ∃ r, v = .tup [.agg [.sl r 0 l.length], .bool b] ∧ Fr st.n st' r l
theorem vok1 {l : List Int} {v : Int} (h : Leads l v 5) (h1 : v % 8 = 1) : v = 1 := by have := h.1.2.1 h1; omega
theorem vok0 {l : List Int} {v : Int} (h : Leads l v 5) (h1 : v % 8 = 0) : v = 0 := by have := h.1.1 h1; omega

end Go.Proofs.YtfnfiapacbeemaaW.Ax

/- Objects and scopes that are made: walked. -/
namespace Go.Proofs.YtfnfiapacbeemaaW.Ax
open Go Go.RowKit Go.Proofs Go.Proofs.Ytfnfiapacbeemaa.Pure
set_option linter.unusedVariables false
set_option maxRecDepth 100000

/-- A block that is taken, its first word behind the head given. -/
def nwL (l : List Int) (k : Int) (n : Nat) (w : Int) : List Int := cond (tkO l n) ((tkL l k n).set (tkA l n + 1).toNat w) l
def nwV (l : List Int) (n : Nat) (K : Int) : Int := cond (tkO l n) (8 * tkA l n + K) 0
theorem nwL_len (l : List Int) (k : Int) (n : Nat) (w : Int) : (nwL l k n w).length = l.length := by
  unfold nwL
  cases tkO l n
  · rfl
  · show ((tkL l k n).set _ w).length = _
    rw [List.length_set, tkL_len]
end Go.Proofs.YtfnfiapacbeemaaW.Ax

/- ObjNew, ScopeNew: walked. -/
namespace Go.Proofs.YtfnfiapacbeemaaW.Ax
open Go Go.RowKit Go.Proofs Go.Proofs.Ytfnfiapacbeemaa.Pure
set_option linter.unusedVariables false
set_option maxRecDepth 100000

noncomputable def gL (P : Prop) (L l : List Int) : List Int := cond (bd P) L (zl l)
noncomputable def gV (P : Prop) (x : Int) : Int := cond (bd P) x 0
noncomputable def gO (P : Prop) (b : Bool) : Bool := cond (bd P) b false
theorem gL_t {P : Prop} {L l : List Int} (h : P) : gL P L l = L := by unfold gL; rw [bdt.2 h]; rfl
theorem gL_f {P : Prop} {L l : List Int} (h : ¬ P) : gL P L l = zl l := by unfold gL; rw [bdf.2 h]; rfl
theorem gV_t {P : Prop} {x : Int} (h : P) : gV P x = x := by unfold gV; rw [bdt.2 h]; rfl
theorem gV_f {P : Prop} {x : Int} (h : ¬ P) : gV P x = 0 := by unfold gV; rw [bdf.2 h]; rfl
theorem gO_t {P : Prop} {x : Bool} (h : P) : gO P x = x := by unfold gO; rw [bdt.2 h]; rfl
theorem gO_f {P : Prop} {x : Bool} (h : ¬ P) : gO P x = false := by unfold gO; rw [bdf.2 h]; rfl
theorem gL_len {P : Prop} {L l : List Int} (h : L.length ≤ l.length) : (gL P L l).length ≤ l.length := by
  by_cases hp : P
  · rw [gL_t hp]; exact h
  · rw [gL_f hp]; exact zl_len l

end Go.Proofs.YtfnfiapacbeemaaW.Ax

/- The cells of an object: walked. -/
namespace Go.Proofs.YtfnfiapacbeemaaW.Ax
open Go Go.RowKit Go.Proofs Go.Proofs.Ytfnfiapacbeemaa.Pure
set_option linter.unusedVariables false
set_option maxRecDepth 100000

theorem find_at {p : Int → Bool} : ∀ {l : List Int} {i : Nat}, i < l.length → (∀ j : Nat, j < i → p (l.getD j 0) = false) → p (l.getD i 0) = true → l.find? p = some (l.getD i 0)
  | [], i, h, _, _ => by simp at h
  | a :: l, 0, _, _, hi => by
    have hi : p a = true := by simpa using hi
    simp [List.find?, hi]
  | a :: l, i + 1, h, hn, hi => by
    have h0 : p a = false := by simpa using hn 0 (by omega)
    have := find_at (p := p) (l := l) (i := i) (by simpa using h) (fun j hj => by simpa using hn (j + 1) (by omega)) (by simpa using hi)
    simp [List.find?, h0, this]
theorem find_no {p : Int → Bool} : ∀ {l : List Int}, (∀ j : Nat, j < l.length → p (l.getD j 0) = false) → l.find? p = none
  | [], _ => rfl
  | a :: l, hn => by
    have h0 : p a = false := by simpa using hn 0 (by simp)
    have := find_no (p := p) (l := l) (fun j hj => by simpa using hn (j + 1) (by simpa using hj))
    simp [List.find?, h0, this]
theorem find_mem {p : Int → Bool} {l : List Int} (h : ∀ x ∈ l, p x = false) : l.find? p = none := find_no fun j hj => h _ (by simp [List.getD, hj])
theorem find_app {p : Int → Bool} {l m : List Int} {v : Int} (h : ∀ x ∈ l, p x = false) (hv : p v = true) : (l ++ v :: m).find? p = some v := by
  rw [List.find?_append, find_mem h]
  simp [List.find?, hv]
theorem rd_map8 (l : List Int) (j : Nat) : rd (l.map (· / 8)) j = rd l j / 8 := by
  by_cases h : j < l.length
  · simp [rd, List.getD, h]
  · simp [rd, List.getD, h]
/-- An object's value whose prototype and cells are looked at. -/
def ObjIn (l : List Int) (obj : Int) : Prop := Heap l ∧ Rf l obj 5 2
def lastD (out : List Int) : Int := match out.getLast? with | some v => v / 8 | none => -1
theorem lastD_app (out : List Int) (v : Int) : lastD (out ++ [v]) = v / 8 := by simp [lastD]
def cA (x : Option Int) : Int := match x with | some v => v / 8 | none => -1
def Cl (st : St) (l : List Int) (obj : Int) : AV → St → Prop := fun v st' => ∃ q, v = .tup [.sl q 0 (places l obj).length, .bool (cellsR l obj).2] ∧ Fr st.n st' q (places l obj)
theorem places_len {l : List Int} {obj : Int} (h : ObjIn l obj) : (places l obj).length < l.length := by
  have hb := obj_at h.1 h.2
  have key : ∀ (d : Nat) (v : Int) (out : List Int), Way l (cellsR l obj) d v out → (cellsR l obj).1.length < l.length := by
    intro d
    induction d with
    | zero => intro v out hw; obtain ⟨_, e, he⟩ := hw.len hb.2.1; cases he
    | succ d ih =>
      intro v out hw
      have hl := (hw.len hb.2.1).1
      by_cases hv : v = 0
      · rw [hw.on.stop_ (decide_eq_true hv)]; exact hl
      · by_cases hm : v ∈ out
        · rw [(hw.on.circle (decide_eq_false hv) hm).1]; exact hl
        · exact ih _ _ (hw.step h.1 hv hm)
  unfold places
  rw [List.length_map]
  exact key _ _ _ (way_start h.1 h.2)

theorem cells_c (r : Option Nat) (o : Nat) (l : List Int) (obj : Int) (st : St) (hx : At st r o l) (h : ObjIn l obj) : ACalls Try.prog 20 [.agg [.sl r o l.length], I obj] st No (Cl st l obj) := by
  obtain ⟨hp, ho⟩ := h
  have hb := obj_at hp ho
  refine ent (N := 35) Try.func20 rfl (by decide) rfl rfl rfl ?_
  refine crr (by kernel_rfl) rfl ?_   -- region 0
  refine crr (by kernel_rfl) rfl ?_   -- region 1
  refine c_seq ?_
  refine cds [0, 1, 2, 3, 4, 5, 6, 7] [.q, .q, .q, .f, .q, .q, .q, .q] (by kernel_rfl) (by kernel_rfl) ?_   -- region 2
  refine sr 3 rfl ?_
  refine s_op rfl (o_pure loud_f rfl (iNum_c ..) ?_)
  refine s_op rfl (o_ar rfl rfl rfl (by omega) (by omega) ?_)
  refine s_op rfl (oidx rfl rfl rfl (by omega) (by omega) ?_)
  refine s_op rfl (old rfl rfl (hx.rd (by omega) (by omega)) ?_)
  refine sra rfl ?_
  refine c_block ?_
  refine c_lp (α := Int × List Int × Nat × Option Nat) (fun i => [(6, .sl i.2.2.2 0 (i.2.1.map (· / 8)).length), (7, I i.1)]) (fun _ => [(2, 2, [.sl r o l.length])])
    (fun i st' => Way l (cellsR l obj) i.2.2.1 i.1 i.2.1 ∧ Ex st st' ∧ Fr st.n st' i.2.2.2 (i.2.1.map (· / 8))) (fun i => i.2.2.1) (rd l (obj / 8 + 2), [], l.length + 1, none) ⟨rfl, rfl, trivial⟩ ⟨rfl, rfl, trivial⟩ ⟨way_start hp ho, Ext.refl _ _, fr_nil _ _⟩ ?_
  rintro ⟨v, out, d, q⟩ st1 ⟨hw, he, hf⟩
  dsimp only at *
  obtain ⟨hol, d, rfl⟩ := hw.len hb.2.1
  have hml : (out.map (· / 8)).length = out.length := List.length_map _
  refine c_seq ?_
  refine crr (by kernel_rfl) rfl ?_   -- region 3
  refine c_if rfl (fun h16 => ?_) (fun h16 => ?_)
  · -- then
    have h16 := ndt h16
    have hc := cell_at hp (hw.nx.resolve_left h16)
    refine c_skip ?_
    refine c_seq ?_
    refine c_block ?_
    refine c_seq ?_
    refine c_rs (by kernel_rfl) ?_   -- region 5
    refine sr 2 rfl ?_
    refine s_op rfl (o_pure loud_n rfl (iNum_c ..) ?_)
    refine s_op rfl (o_pure loud_n rfl (Contains_c _ _ _ _ _ hf.at_ (by omega)) ?_)
    refine s_end ?_
    refine c_if rfl (fun h27 => ?_) (fun h27 => ?_)
    · -- then
      have h27 := (hw.mem h16).1 (bdt.1 h27)
      have hC := (hw.on.circle (decide_eq_false h16) h27).1
      refine crr (by kernel_rfl) rfl ?_   -- region 6
      refine c_ret (fr rfl ⟨q, ?_, ?_⟩)
      · unfold places; rw [hC]
      · unfold places; rw [hC]; exact hf
    · -- else
      have h27 : v ∉ out := fun h => bdf.1 h27 ((hw.mem h16).2 h)
      refine c_skip ?_
      refine c_region (by kernel_rfl) ?_   -- region 7
      refine sr 2 rfl ?_
      refine s_op rfl (o_pure loud_n rfl (iNum_c ..) ?_)
      refine s_op rfl (oone loud_n rfl rfl ?_)
      refine s_op rfl (oappF rfl rfl rfl (hf.ex (ex_push _ _)) rfl (at_row (Nat.lt_succ_self _) (push_ob _ _)) (by simp; omega) fun q2 st2 hf2 he2 => ?_)
      have he3 : Ex st st2 := (he.tr (ex_push _ _)).own (hf.ex (ex_push _ _)) he2
      refine sra rfl ?_
      refine cd1 [0, 1, 2, 3, 4, 5, 6, 7] [.q, .q, .q, .f, .q, .q, .q, .q] (by kernel_rfl) (by kernel_rfl) ?_   -- region 4
      refine sr 3 rfl ?_
      refine s_op rfl (o_pure loud_f rfl (iNum_c ..) ?_)
      refine s_op rfl (o_ar rfl rfl rfl (by omega) (by omega) ?_)
      refine s_op rfl (oidx rfl rfl rfl (by omega) (by omega) ?_)
      refine s_op rfl (old rfl rfl ((hx.ex he3).rd (by omega) (by omega)) ?_)
      have em : (out ++ [v]).map (· / 8) = out.map (· / 8) ++ [v / 8] := by simp
      refine sra rfl ⟨(nxC l v, out ++ [v], d, q2), ⟨?_, rfl, trivial⟩, ⟨rfl, rfl, trivial⟩, ⟨hw.step hp h16 h27, he3, ?_⟩, by dsimp only; omega⟩
      · dsimp only; rw [em]; rfl
      · dsimp only; rw [em]; exact hf2
  · -- else
    have h16 := ndf h16
    have hC := hw.on.stop_ (decide_eq_true h16)
    refine c_exit ?_
    refine crr (by kernel_rfl) rfl ?_   -- region 8
    refine c_ret (fr rfl ⟨q, ?_, ?_⟩)
    · unfold places; rw [hC]
    · unfold places; rw [hC]; exact hf
end Go.Proofs.YtfnfiapacbeemaaW.Ax

/- Own, Look: walked. -/
namespace Go.Proofs.YtfnfiapacbeemaaW.Ax
open Go Go.RowKit Go.Proofs Go.Proofs.Ytfnfiapacbeemaa.Pure
set_option linter.unusedVariables false
set_option maxRecDepth 100000

/-- An object and a name, right. -/
def OwOk (l : List Int) (obj name : Int) : Prop := name % 8 = 4 ∧ Isk l [obj, name] 5
theorem ow_in {l : List Int} {obj name : Int} (h : OwOk l obj name) : ObjIn l obj := by
  have h1 : obj % 8 = 5 := by simpa [rd] using h.2.1
  exact ⟨h.2.2.1, (leads_rf (h.2.2.2 obj (by simp))).2.1 h1⟩
theorem ow_iff (l : List Int) (obj name : Int) : (Rts l [obj, name] ∧ obj % 8 ∈ ([5] : List Int) ∧ name % 8 ∈ ([4] : List Int)) ↔ OwOk l obj name := by
  unfold OwOk Isk
  have e : rd [obj, name] 0 = obj := rfl
  rw [e]
  exact ⟨fun h => ⟨by simpa using h.2.2, by simpa using h.2.1, h.1⟩, fun h => ⟨h.2.2, by simpa using h.2.1, by simpa using h.1⟩⟩
theorem cA_some {l : List Int} {obj name v : Int} (h : ObjIn l obj) (e : ownC l obj name = some v) : v ∈ (cellsR l obj).1 ∧ 0 ≤ v / 8 ∧ v / 8 + 4 ≤ l.length ∧ l.length ≤ 2000 := by
  have hm := List.mem_of_find?_eq_some e
  have hc := cell_at h.1 (cells_rf h.1 h.2 _ hm)
  exact ⟨hm, hc.2.2.1, hc.2.2.2.1, hc.2.2.2.2.1⟩

end Go.Proofs.YtfnfiapacbeemaaW.Ax
