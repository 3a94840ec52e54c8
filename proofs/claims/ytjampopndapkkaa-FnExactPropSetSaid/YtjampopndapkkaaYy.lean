/- Own, Look: walked. -/
import Derived.Test.YtjampopndapkkaaYx
import Derived.Test.YtjampopndapkkaaYw
namespace Go.Proofs.YtjampopndapkkaaW.Ax
open Go Go.RowKit Go.Proofs Go.Proofs.Ytjampopndapkkaa.Pure
set_option linter.unusedVariables false
set_option maxRecDepth 100000

/-- An object and a name, right. -/
def OwOk (l : List Int) (obj name : Int) : Prop := name % 8 = 4 ∧ Isk l [obj, name] 5
theorem ow_in {l : List Int} {obj name : Int} (h : OwOk l obj name) : ObjIn l obj := by
  have h1 : obj % 8 = 5 := by simpa [rd] using h.2.1
  exact ⟨h.2.2.1, (leads_rf (h.2.2.2 obj (by simp))).2.1 h1⟩
theorem ow_iff (l : List Int) (obj name : Int) : (Rts l [obj, name] ∧ obj % 8 ∈ ([5] : List Int) ∧ name % 8 ∈ ([4] : List Int)) ↔ OwOk l obj name := by
  unfold OwOk Isk
  have e : rd [obj, name] 0 = obj := rfl
  rw [e]
  exact ⟨fun h => ⟨by simpa using h.2.2, by simpa using h.2.1, h.1⟩, fun h => ⟨h.2.2, by simpa using h.2.1, by simpa using h.1⟩⟩
theorem cA_some {l : List Int} {obj name v : Int} (h : ObjIn l obj) (e : ownC l obj name = some v) : v ∈ (cellsR l obj).1 ∧ 0 ≤ v / 8 ∧ v / 8 + 4 ≤ l.length ∧ l.length ≤ 2000 := by
  have hm := List.mem_of_find?_eq_some e
  have hc := cell_at h.1 (cells_rf h.1 h.2 _ hm)
  exact ⟨hm, hc.2.2.1, hc.2.2.2.1, hc.2.2.2.2.1⟩

noncomputable def OwG (l : List Int) (obj name : Int) : AV := .tup [I (gV (OwOk l obj name) (ownV l obj name)), .bool (gO (OwOk l obj name) (ownC l obj name).isSome)]
theorem Own_c (r : Option Nat) (o : Nat) (l : List Int) (obj name : Int) (st : St) (hx : At st r o l) (hl : l.length ≤ 1048576) : ACalls Try.prog 20 [.agg [.sl r o l.length], I obj, I name] st No (Pv (OwG l obj name)) := by
  refine ent (N := 36) Try.func20 rfl (by decide) rfl rfl rfl ?_
  refine crr (by kernel_rfl) rfl ?_   -- region 0
  refine c_seq ?_
  refine c_sj (α := Bool) (fun b => [(1, I obj), (2, I name), (20, .bool b)]) (fun _ => [(3, 3, [.sl r o l.length])]) (fun b st' => Ex st st' ∧ (b = true ↔ ¬ OwOk l obj name)) ?_ ?_
  · -- region 1
    refine c_region (by kernel_rfl) ?_
    refine sr 1 rfl ?_
    refine s_op rfl (o_pure loud_n rfl (Kind_c ..) ?_)
    refine sr 2 rfl ?_
    refine s_bool 13 rfl rfl (fun h13 => ?_) (fun h13 => ?_)
    · have h13 := ndt h13
      refine sra rfl ⟨true, ⟨rfl, rfl, rfl, trivial⟩, ⟨rfl, rfl, trivial⟩, Ext.refl _ _, ⟨fun _ h => h13 h.1, fun _ => rfl⟩⟩
    · have h13 := ndf h13
      refine sr 3 rfl ?_
      refine s_op rfl (oints [obj, name] loud_n rfl (by decide) rfl rfl rfl fun q st1 hq e1 => ?_)
      refine s_op rfl (o_ex loud_n rfl (l5Is_c _ _ _ _ _ _ _ _ (hx.ex e1) hq.at_ hl (by simp) (by simp)) ?_)
      rintro v2 st2 rfl e2
      refine sra rfl ⟨_, ⟨rfl, rfl, rfl, trivial⟩, ⟨rfl, rfl, trivial⟩, e1.tr e2, ?_⟩
      exact ⟨fun h k => nbt h k.2, fun h => (by rw [bdf.2 fun k => h ⟨h13, k⟩]; rfl)⟩
  rintro b st1 ⟨e1, hb⟩
  refine c_if rfl (fun h20 => ?_) (fun h20 => ?_)
  · have h20 := hb.1 h20
    refine crr (by kernel_rfl) rfl ?_   -- region 2
    refine c_ret (fr rfl ?_)
    show _ = OwG l obj name
    rw [OwG, gV_f h20, gO_f h20]
  · have h20 : OwOk l obj name := Classical.byContradiction fun h => by rw [hb.2 h] at h20; cases h20
    have hin := ow_in h20
    refine c_skip ?_
    refine c_rs (by kernel_rfl) ?_   -- region 3
    refine sr 3 rfl ?_
    refine s_op rfl (o_ex loud_n rfl (l5Cell_c _ _ _ obj name _ (hx.ex e1) hin) ?_)
    rintro v3 st3 ⟨b3, rfl, _, rfl⟩ e3
    refine sra rfl ?_
    refine c_seq ?_
    refine crr (by kernel_rfl) rfl ?_   -- region 4
    refine c_if rfl (fun h29 => ?_) (fun h29 => ?_)
    · have h29 := of_decide_eq_true h29
      have e : ownC l obj name = none := by
        cases e : ownC l obj name with
        | none => rfl
        | some v => rw [e] at h29; have := (cA_some hin e).2.1; exact absurd h29 (by show ¬ v / 8 < 0; omega)
      refine crr (by kernel_rfl) rfl ?_   -- region 5
      refine c_ret (fr rfl ?_)
      show _ = OwG l obj name
      rw [OwG, gV_t h20, gO_t h20, ownV, e]; rfl
    · have h29 := of_decide_eq_false h29
      obtain ⟨v, e⟩ : ∃ v, ownC l obj name = some v := by
        cases e : ownC l obj name with
        | none => rw [e] at h29; exact absurd (by decide) h29
        | some v => exact ⟨v, rfl⟩
      have hc := cA_some hin e
      have hcA : cA (ownC l obj name) = v / 8 := by rw [e]; rfl
      rw [hcA]
      refine c_skip ?_
      refine c_rs (by kernel_rfl) ?_   -- region 6
      refine sr 3 rfl ?_
      refine s_op rfl (o_ar rfl rfl rfl (by omega) (by omega) ?_)
      refine s_op rfl (oidx rfl rfl rfl (by omega) (by omega) ?_)
      refine s_op rfl (old rfl rfl ((hx.ex e1).rd (by omega) (by omega)) ?_)
      refine sra rfl ?_
      refine c_ret (fr rfl ?_)
      show _ = OwG l obj name
      rw [OwG, gV_t h20, gO_t h20, ownV, e]; rfl
theorem iOwn_c (r : Option Nat) (o : Nat) (l : List Int) (obj name : Int) (st : St) (hx : At st r o l) (hl : l.length ≤ 1048576) : ACalls Try.prog 21 [.agg [.sl r o l.length], I obj, I name] st No (Pv (OwG l obj name)) := by
  have hR := ow_iff l obj name
  refine ent (N := 23) Try.func21 rfl (by decide) rfl rfl rfl ?_
  refine crr (by kernel_rfl) rfl ?_   -- region 0
  refine c_seq ?_
  refine c_rs (by kernel_rfl) ?_   -- region 1
  refine sr 3 rfl ?_
  refine s_op rfl (oints [obj, name] loud_n rfl (by decide) rfl rfl rfl fun q st1 hq e1 => ?_)
  refine s_op rfl (oints [5] loud_n rfl (by decide) rfl rfl rfl fun q1 st2 hq1 e2 => ?_)
  refine s_op rfl (oints [4] loud_n rfl (by decide) rfl rfl rfl fun q2 st3 hq2 e3 => ?_)
  refine s_op rfl (oblk [.sl (some q1) 0 1, .sl (some q2) 0 1] loud_n rfl (by decide) rfl rfl fun q3 st4 hq3 e4 => ?_)
  have e24 := (e2.tr e3).tr e4
  refine s_op rfl (o_ex loud_n rfl (ready2_c _ _ _ _ _ _ l [5] [4] obj name _ (hx.ex (e1.tr e24)) (hq.at_.ex e24) hl (hq3 0) (hq1.at_.ex (e3.tr e4)) (by decide) (hq3 1) (hq2.at_.ex e4) (by decide)) ?_)
  rintro v5 st5 rfl e5
  have e15 := (e1.tr e24).tr e5
  refine sra rfl ?_
  refine c_if rfl (fun h16 => ?_) (fun h16 => ?_)
  · have h16 : ¬ OwOk l obj name := fun h => nbt h16 (hR.2 h)
    refine crr (by kernel_rfl) rfl ?_   -- region 2
    refine c_ret (fr rfl ?_)
    show _ = OwG l obj name
    rw [OwG, gV_f h16, gO_f h16]
  · have h16 : OwOk l obj name := hR.1 (nbf h16)
    refine c_skip ?_
    refine c_rs (by kernel_rfl) ?_   -- region 3
    refine sr 3 rfl ?_
    refine s_op rfl (o_ex loud_n rfl (own_c _ _ _ obj name _ (hx.ex e15) (ow_in h16)) ?_)
    rintro v3 st3 rfl e3
    refine sra rfl ?_
    refine c_ret (fr rfl ?_)
    show _ = OwG l obj name
    rw [OwG, gV_t h16, gO_t h16]
/-! ### Look -/
def nxP (l : List Int) (v : Int) : Int := rd l (v / 8 + 1)
def stP (v : Int) : Bool := decide (¬ v % 8 = 5)
/-- An object and its prototypes, each once. -/
def protoR (l : List Int) (obj : Int) : List Int × Bool := chain (nxP l) stP (l.length + 1) obj []
def lookC (l : List Int) (obj name : Int) : Option Int := (protoR l obj).1.findSome? fun v => ownC l v name
def lookV (l : List Int) (obj name : Int) : Int := match lookC l obj name with | some v => rd l (v / 8 + 2) | none => 0
def LookR (l : List Int) (obj name : Int) : AV := .tup [I (lookV l obj name), .bool (lookC l obj name).isSome]
theorem findS_mem {f : Int → Option Int} : ∀ {l : List Int}, (∀ x ∈ l, f x = none) → l.findSome? f = none
  | [], _ => rfl
  | a :: l, h => by simp [List.findSome?, h a List.mem_cons_self, findS_mem fun x hx => h x (List.mem_cons_of_mem _ hx)]
theorem findS_app {f : Int → Option Int} {l m : List Int} {v c : Int} (h : ∀ x ∈ l, f x = none) (hv : f v = some c) : (l ++ v :: m).findSome? f = some c := by
  rw [List.findSome?_append, findS_mem h]
  simp [List.findSome?, hv]
structure WayP (l : List Int) (C : List Int × Bool) (d : Nat) (v : Int) (out : List Int) : Prop where
  on : On (nxP l) stP C d v out
  d : d + out.length = l.length + 1
  rf : ∀ x ∈ out, Rf l x 5 2
  nx : v = 1 ∨ Rf l v 5 2
theorem WayP.len {l : List Int} {C : List Int × Bool} {d : Nat} {v : Int} {out : List Int} (h : WayP l C d v out) {a : Int} (ha : a ∈ blocks l) : out.length < l.length ∧ ∃ e, d = e + 1 := by
  have := chain_len (k := 5) h.on.nd (fun x hx => ⟨(h.rf x hx).1, (at_of (h.rf x hx) (by omega)).1⟩) ha
  have := h.d
  exact ⟨by omega, d - 1, by omega⟩
theorem wayP_start {l : List Int} {obj : Int} (h : ObjIn l obj) : WayP l (protoR l obj) (l.length + 1) obj [] := ⟨on_start .., by simp, fun x hx => by simp at hx, .inr h.2⟩
theorem WayP.obj {l : List Int} {C : List Int × Bool} {d : Nat} {v : Int} {out : List Int} (h : WayP l C d v out) (hv : v % 8 = 5) : Rf l v 5 2 := h.nx.resolve_left (by omega)
theorem WayP.step {l : List Int} (hp : Heap l) {C : List Int × Bool} {d : Nat} {v : Int} {out : List Int} (h : WayP l C (d + 1) v out) (hv : v % 8 = 5) (hn : v ∉ out) : WayP l C d (nxP l v) (out ++ [v]) where
  on := h.on.step (decide_eq_false (by simpa using hv)) hn
  d := by have := h.d; simp; omega
  rf := fun x hx => by
    rcases List.mem_append.1 hx with hx | hx
    · exact h.rf x hx
    · rw [List.mem_singleton.1 hx]; exact h.obj hv
  nx := (obj_at hp (h.obj hv)).2.2.2.2.2.1
theorem protos_rf {l : List Int} {obj : Int} (h : ObjIn l obj) : ∀ x ∈ (protoR l obj).1, Rf l x 5 2 := by
  have hb := obj_at h.1 h.2
  have key : ∀ (d : Nat) (v : Int) (out : List Int), WayP l (protoR l obj) d v out → ∀ x ∈ (protoR l obj).1, Rf l x 5 2 := by
    intro d
    induction d with
    | zero => intro v out hw; obtain ⟨_, e, he⟩ := hw.len hb.2.1; cases he
    | succ d ih =>
      intro v out hw
      by_cases hv : v % 8 = 5
      · by_cases hm : v ∈ out
        · rw [(hw.on.circle (decide_eq_false (by simpa using hv)) hm).1]; exact hw.rf
        · exact ih _ _ (hw.step h.1 hv hm)
      · rw [hw.on.stop_ (decide_eq_true hv)]; exact hw.rf
  exact key _ _ _ (wayP_start h)
theorem l5Look_c (r : Option Nat) (o : Nat) (l : List Int) (obj name : Int) (st : St) (hx : At st r o l) (h : ObjIn l obj) : ACalls Try.prog 69 [.agg [.sl r o l.length], I obj, I name] st No (Pv (LookR l obj name)) := by
  have hp := h.1
  have hb := obj_at h.1 h.2
  have hcr := protos_rf h
  refine ent (N := 45) Try.func69 rfl (by decide) rfl rfl rfl ?_
  refine crr (by kernel_rfl) rfl ?_   -- region 0
  refine c_seq ?_
  refine crr (by kernel_rfl) rfl ?_   -- region 1
  refine c_block ?_
  refine c_lp (α := Nat × Int) (fun i => [(1, I i.2), (2, I name), (8, I i.1)]) (fun _ => [(3, 3, [.sl r o l.length])])
    (fun i st' => st = st' ∧ i.1 ≤ l.length ∧ ((∃ d out, WayP l (protoR l obj) d i.2 out ∧ out.length = i.1 ∧ ∀ x ∈ out, ownC l x name = none) ∨
      ((∀ x ∈ (protoR l obj).1, ownC l x name = none) ∧ i.2 ∈ (protoR l obj).1 ∧ ∀ x ∈ (protoR l obj).1, nxP l x ∈ (protoR l obj).1))) (fun i => l.length - i.1) (0, obj) ⟨rfl, rfl, rfl, trivial⟩ ⟨rfl, rfl, trivial⟩
    ⟨rfl, by omega, .inl ⟨_, [], wayP_start h, rfl, fun x hx => by simp at hx⟩⟩ ?_
  rintro ⟨n, v⟩ st' ⟨rfl, hn, hI⟩
  dsimp only at *
  have hnx : v = 1 ∨ Rf l v 5 2 := by
    rcases hI with ⟨d, out, hw, _⟩ | ⟨_, hm, _⟩
    · exact hw.nx
    · exact .inr (hcr v hm)
  refine c_seq ?_
  refine c_rj [(1, I v), (2, I name), (8, I n), (20, .bool (decide (v % 8 = 5 ∧ n < l.length)))] [(3, 3, [.sl r o l.length])] (by kernel_rfl) ?_ ?_
  · -- region 2
    refine sr 1 rfl ?_
    refine s_op rfl (o_pure loud_n rfl (Kind_c ..) ?_)
    refine sr 2 rfl ?_
    refine s_bool 14 rfl rfl (fun h14 => ?_) (fun h14 => ?_)
    · have h14 := of_decide_eq_true h14
      refine sra rfl ⟨⟨rfl, rfl, rfl, ?_, trivial⟩, ⟨rfl, rfl, trivial⟩, rfl⟩
      show AV.bool (decide _) = AV.bool (decide _)
      congr 1
      exact decide_eq_decide.2 ⟨fun h => ⟨h14, by omega⟩, fun h => by omega⟩
    · have h14 := of_decide_eq_false h14
      refine sra rfl ⟨⟨rfl, rfl, rfl, ?_, trivial⟩, ⟨rfl, rfl, trivial⟩, rfl⟩
      show AV.bool false = AV.bool (decide _)
      rw [decide_eq_false fun h => h14 h.1]
  refine c_if rfl (fun h20 => ?_) (fun h20 => ?_)
  · -- then
    obtain ⟨hv, hnl⟩ := of_decide_eq_true h20
    have hrf : Rf l v 5 2 := hnx.resolve_left (by omega)
    have hvi : ObjIn l v := ⟨hp, hrf⟩
    have hc := obj_at hp hrf
    refine c_skip ?_
    refine c_seq ?_
    refine c_block ?_
    refine c_rs (by kernel_rfl) ?_   -- region 4
    refine sr 3 rfl ?_
    refine s_op rfl (o_ex loud_n rfl (l5Cell_c _ _ _ v name _ hx hvi) ?_)
    rintro v3 st3 ⟨b3, rfl, _, rfl⟩ e3
    refine sra rfl ?_
    refine c_seq ?_
    refine crr (by kernel_rfl) rfl ?_   -- region 5
    refine c_if rfl (fun h31 => ?_) (fun h31 => ?_)
    · have h31 := of_decide_eq_true h31
      obtain ⟨c, e⟩ : ∃ c, ownC l v name = some c := by
        cases e : ownC l v name with
        | none => rw [e] at h31; exact absurd h31 (by decide)
        | some c => exact ⟨c, rfl⟩
      have hc := cA_some hvi e
      have hcA : cA (ownC l v name) = c / 8 := by rw [e]; rfl
      rw [hcA]
      have eL : lookC l obj name = some c := by
        rcases hI with ⟨d, out, hw, _, hno⟩ | ⟨hno, hm, _⟩
        · obtain ⟨_, d, rfl⟩ := hw.len hb.2.1
          have hvo : v ∉ out := fun h => by rw [hno v h] at e; cases e
          obtain ⟨r', hr'⟩ := hw.on.pre1 (decide_eq_false (by simpa using hv)) hvo
          unfold lookC
          rw [hr']
          exact findS_app hno e
        · rw [hno v hm] at e; cases e
      refine c_rs (by kernel_rfl) ?_   -- region 6
      refine sr 3 rfl ?_
      refine s_op rfl (o_ar rfl rfl rfl (by omega) (by omega) ?_)
      refine s_op rfl (oidx rfl rfl rfl (by omega) (by omega) ?_)
      refine s_op rfl (old rfl rfl (hx.rd (by omega) (by omega)) ?_)
      refine sra rfl ?_
      refine c_ret (fr rfl ?_)
      show _ = LookR l obj name
      rw [LookR, lookV, eL]; rfl
    · have h31 := of_decide_eq_false h31
      have e : ownC l v name = none := by
        cases e : ownC l v name with
        | none => rfl
        | some c => rw [e] at h31; have := (cA_some hvi e).2.1; exact absurd (show (0 : Int) ≤ c / 8 from this) h31
      refine c_skip ?_
      refine cd1 [0, 1, 2, 3, 4, 5, 6, 7] [.q, .q, .q, .f, .q, .q, .q, .q] (by kernel_rfl) (by kernel_rfl) ?_   -- region 7
      refine sr 3 rfl ?_
      refine s_op rfl (o_pure loud_f rfl (Num_c ..) ?_)
      refine s_op rfl (o_ar rfl rfl rfl (by omega) (by omega) ?_)
      refine s_op rfl (oidx rfl rfl rfl (by omega) (by omega) ?_)
      refine s_op rfl (old rfl rfl (hx.rd (by omega) (by omega)) ?_)
      refine sra rfl ?_
      refine c_region (by kernel_rfl) ?_   -- region 3
      refine sr 1 rfl ?_
      refine s_op rfl (o_ar rfl rfl rfl (by omega) (by omega) ?_)
      refine sra rfl ⟨(n + 1, nxP l v), ⟨rfl, rfl, rfl, trivial⟩, ⟨rfl, rfl, trivial⟩, ⟨rfl, by dsimp only; omega, ?_⟩, by dsimp only; omega⟩
      dsimp only
      rcases hI with ⟨d, out, hw, hlo, hno⟩ | ⟨hno, hm, hcl⟩
      · obtain ⟨_, d, rfl⟩ := hw.len hb.2.1
        by_cases hvo : v ∈ out
        · obtain ⟨hC, hcl⟩ := hw.on.circle (decide_eq_false (by simpa using hv)) hvo
          refine .inr ?_
          rw [hC]
          exact ⟨hno, hcl v hvo, hcl⟩
        · refine .inl ⟨d, out ++ [v], hw.step hp hv hvo, by simp [hlo], fun x hx => ?_⟩
          rcases List.mem_append.1 hx with hx | hx
          · exact hno x hx
          · rw [List.mem_singleton.1 hx]; exact e
      · exact .inr ⟨hno, hcl v hm, hcl⟩
  · -- else
    have h20 := of_decide_eq_false h20
    have eL : lookC l obj name = none := by
      rcases hI with ⟨d, out, hw, hlo, hno⟩ | ⟨hno, hm, hcl⟩
      · obtain ⟨hol, d, rfl⟩ := hw.len hb.2.1
        have hv : ¬ v % 8 = 5 := fun h => h20 ⟨h, by omega⟩
        have hC := hw.on.stop_ (decide_eq_true hv)
        unfold lookC; rw [hC]; exact findS_mem hno
      · exact findS_mem hno
    refine c_exit ?_
    refine crr (by kernel_rfl) rfl ?_   -- region 8
    refine c_ret (fr rfl ?_)
    show _ = LookR l obj name
    rw [LookR, lookV, eL]; rfl
theorem look_c (r : Option Nat) (o : Nat) (l : List Int) (obj name : Int) (st : St) (hx : At st r o l) (h : ObjIn l obj) : ACalls Try.prog 70 [.agg [.sl r o l.length], I obj, I name] st No (Pv (LookR l obj name)) := by
  have hp := h.1
  have hb := obj_at h.1 h.2
  refine ent (N := 40) Try.func70 rfl (by decide) rfl rfl rfl ?_
  refine crr (by kernel_rfl) rfl ?_   -- region 0
  refine crr (by kernel_rfl) rfl ?_   -- region 1
  refine c_seq ?_
  refine c_block ?_
  refine c_lp (α := Int × List Int × Nat × Option Nat) (fun i => [(1, I i.1), (2, I name), (8, .sl i.2.2.2 0 i.2.1.length)]) (fun _ => [(3, 3, [.sl r o l.length])])
    (fun i st' => WayP l (protoR l obj) i.2.2.1 i.1 i.2.1 ∧ Ex st st' ∧ Fr st.n st' i.2.2.2 i.2.1 ∧ ∀ x ∈ i.2.1, ownC l x name = none) (fun i => i.2.2.1) (obj, [], l.length + 1, none) ⟨rfl, rfl, rfl, trivial⟩ ⟨rfl, rfl, trivial⟩ ⟨wayP_start h, Ext.refl _ _, fr_nil _ _, fun x hx => by simp at hx⟩ ?_
  rintro ⟨v, out, d, q⟩ st1 ⟨hw, he, hf, hno⟩
  dsimp only at *
  obtain ⟨hol, d, rfl⟩ := hw.len hb.2.1
  refine c_seq ?_
  refine c_sj (α := Bool) (fun b => [(1, I v), (2, I name), (8, .sl q 0 out.length), (19, .bool b)]) (fun _ => [(3, 3, [.sl r o l.length])]) (fun b st' => st1 = st' ∧ (b = true ↔ v % 8 = 5 ∧ v ∉ out)) ?_ ?_
  · -- region 2
    refine c_region (by kernel_rfl) ?_
    refine sr 1 rfl ?_
    refine s_op rfl (o_pure loud_n rfl (iKind_c ..) ?_)
    refine sr 2 rfl ?_
    refine s_bool 14 rfl rfl (fun h14 => ?_) (fun h14 => ?_)
    · have h14 := of_decide_eq_true h14
      refine sr 2 rfl ?_
      refine s_op rfl (o_pure loud_n rfl (Contains_c _ _ _ _ _ hf.at_ (by omega)) ?_)
      refine sra rfl ⟨_, ⟨rfl, rfl, rfl, rfl, trivial⟩, ⟨rfl, rfl, trivial⟩, rfl, ?_⟩
      exact ⟨fun h => ⟨h14, nbt h⟩, fun h => (by rw [bdf.2 h.2]; rfl)⟩
    · have h14 := of_decide_eq_false h14
      refine sra rfl ⟨false, ⟨rfl, rfl, rfl, rfl, trivial⟩, ⟨rfl, rfl, trivial⟩, rfl, ⟨fun h => (by cases h), fun h => absurd h.1 h14⟩⟩
  rintro b st2 ⟨rfl, hbb⟩
  refine c_if rfl (fun h19 => ?_) (fun h19 => ?_)
  · -- then
    obtain ⟨hv, hvo⟩ := hbb.1 h19
    have hrf := hw.obj hv
    have hc := obj_at hp hrf
    refine c_skip ?_
    refine c_seq ?_
    refine c_block ?_
    refine c_rs (by kernel_rfl) ?_   -- region 4
    refine sr 2 rfl ?_
    refine s_op rfl (oone loud_n rfl rfl ?_)
    refine s_op rfl (oappF rfl rfl rfl (hf.ex (ex_push _ _)) rfl (at_row (Nat.lt_succ_self _) (push_ob _ _)) (by simp; omega) fun q2 st2 hf2 he2 => ?_)
    have he3 : Ex st st2 := (he.tr (ex_push _ _)).own (hf.ex (ex_push _ _)) he2
    refine sra rfl ?_
    refine c_rs (by kernel_rfl) ?_   -- region 5
    refine sr 3 rfl ?_
    refine s_op rfl (o_ex loud_n rfl (own_c _ _ _ v name _ (hx.ex he3) ⟨hp, hrf⟩) ?_)
    rintro v3 st3 rfl e3
    refine sra rfl ?_
    refine crr (by kernel_rfl) rfl ?_   -- region 6
    refine c_if rfl (fun h38 => ?_) (fun h38 => ?_)
    · obtain ⟨c, e⟩ := Option.isSome_iff_exists.1 h38
      obtain ⟨r', hr'⟩ := hw.on.pre1 (decide_eq_false (by simpa using hv)) hvo
      have eL : lookC l obj name = some c := by unfold lookC; rw [hr']; exact findS_app hno e
      refine crr (by kernel_rfl) rfl ?_   -- region 7
      refine c_ret (fr rfl ?_)
      show _ = LookR l obj name
      rw [LookR, lookV, eL, ownV, e]; rfl
    · have e : ownC l v name = none := by simpa using h38
      have he4 := he3.tr e3
      refine c_skip ?_
      refine cd1 [0, 1, 2, 3, 4, 5, 6, 7] [.q, .q, .q, .f, .q, .q, .q, .q] (by kernel_rfl) (by kernel_rfl) ?_   -- region 3
      refine sr 3 rfl ?_
      refine s_op rfl (o_pure loud_f rfl (iNum_c ..) ?_)
      refine s_op rfl (o_ar rfl rfl rfl (by omega) (by omega) ?_)
      refine s_op rfl (oidx rfl rfl rfl (by omega) (by omega) ?_)
      refine s_op rfl (old rfl rfl ((hx.ex he4).rd (by omega) (by omega)) ?_)
      refine sra rfl ⟨(nxP l v, out ++ [v], d, q2), ⟨rfl, rfl, rfl, trivial⟩, ⟨rfl, rfl, trivial⟩, ⟨hw.step hp hv hvo, he4, hf2.ex e3, fun x hx => ?_⟩, by dsimp only; omega⟩
      rcases List.mem_append.1 hx with hx | hx
      · exact hno x hx
      · rw [List.mem_singleton.1 hx]; exact e
  · -- else
    have h19 : ¬ (v % 8 = 5 ∧ v ∉ out) := fun h => by rw [hbb.2 h] at h19; cases h19
    have eL : lookC l obj name = none := by
      by_cases hv : v % 8 = 5
      · have hvo : v ∈ out := Classical.byContradiction fun h => h19 ⟨hv, h⟩
        unfold lookC; rw [(hw.on.circle (decide_eq_false (by simpa using hv)) hvo).1]; exact findS_mem hno
      · unfold lookC; rw [hw.on.stop_ (decide_eq_true hv)]; exact findS_mem hno
    refine c_exit ?_
    refine crr (by kernel_rfl) rfl ?_   -- region 8
    refine c_ret (fr rfl ?_)
    show _ = LookR l obj name
    rw [LookR, lookV, eL]; rfl
end Go.Proofs.YtjampopndapkkaaW.Ax
