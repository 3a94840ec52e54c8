/- The laws' helpers for markers, walked. -/
import Derived.Test.YtmphklmhhcmbnaaYl
namespace Go.Proofs.YtmphklmhhcmbnaaW.Ax
open Go Go.RowKit Go.Proofs Go.Proofs.Ytmphklmhhcmbnaa.Pure
set_option linter.unusedVariables false
set_option maxRecDepth 100000

/-- A marker: two rows of the call's own, and not the same. -/
def Mr (st : St) (p : Int) (g b : List Int) (q : Int) : AV → St → Prop := fun v st' =>
  ∃ rg rb, v = .agg [I p, .sl rg 0 g.length, .sl rb 0 b.length, I q] ∧ Fr st.n st' rg g ∧ Fr st.n st' rb b ∧ (∀ i, rg = some i → rb ≠ some i)
theorem Fr.off2 {n0 : Nat} {st st' : St} {r r1 r2 : Option Nat} {l : List Int} {p q p' q' : Nat} (h : Fr n0 st r l) (he : Ext (fun i => r1 = some i ∨ r2 = some i) st st') (hb : ∀ i, r = some i → p ≤ i ∧ i < q)
    (hb1 : ∀ i, r1 = some i → p' ≤ i ∧ i < q') (hb2 : ∀ i, r2 = some i → p' ≤ i ∧ i < q') (hd : q ≤ p' ∨ q' ≤ p) : Fr n0 st' r l :=
  h.ext he fun i e e' => by
    have := hb i e
    rcases e' with e' | e'
    · have := hb1 i e'; omega
    · have := hb2 i e'; omega
theorem At.off2 {st0 st st' : St} {r r1 r2 : Option Nat} {o : Nat} {l : List Int} {p' q' : Nat} (h : At st r o l) (he : Ext (fun i => r1 = some i ∨ r2 = some i) st st') (hb : ∀ i, r = some i → i < st0.n)
    (hb1 : ∀ i, r1 = some i → p' ≤ i ∧ i < q') (hb2 : ∀ i, r2 = some i → p' ≤ i ∧ i < q') (hd : st0.n ≤ p') : At st' r o l :=
  h.ext he fun i e e' => by
    have := hb i e
    rcases e' with e' | e'
    · have := hb1 i e'; omega
    · have := hb2 i e'; omega
def Mk2 (n0 : Nat) (st : St) (r1 r2 : Option Nat) (k : Int) (n1 n2 : Nat) : AV → St → Prop := fun v st' =>
  v = I (k + n1 + n2) ∧ Fr n0 st' r1 (upN k n1) ∧ Fr n0 st' r2 (upN (k + n1) n2)

theorem szMarker_c (p q : Int) (r1 r2 : Option Nat) (o1 n1 o2 n2 : Nat) (left : Int) (st : St) (h0 : 0 ≤ left) (h1 : left ≤ 1048576) (hn1 : n1 ≤ 9223372036854775807) (hn2 : n2 ≤ 9223372036854775807) :
    ACalls Try.prog 25 [.agg [I p, .sl r1 o1 n1, .sl r2 o2 n2, I q], I left] st No (Sz st left (n1 + n2)) := by
  refine ent (N := 18) Try.func25 rfl (by decide) rfl rfl rfl ?_
  refine crr (by kernel_rfl) rfl ?_   -- region 0
  refine c_rs (by kernel_rfl) ?_   -- region 1
  refine sr 3 rfl ?_
  refine s_op rfl (o_ex loud_n rfl (szIntS_c _ _ _ _ _ h0 h1 hn1) ?_)
  rintro v1 st1 ⟨x, rfl, ha, hb, rfl⟩ e1
  refine sra rfl ?_
  refine c_seq ?_
  refine crr (by kernel_rfl) rfl ?_   -- region 2
  refine c_if rfl (fun h10 => ?_) (fun h10 => ?_)
  · -- then
    refine crr (by kernel_rfl) rfl ?_   -- region 3
    have h10 := of_decide_eq_true h10
    exact c_ret (fr rfl ⟨-1, rfl, fun _ => rfl, fun h => by have := hb (by omega); omega, rfl⟩)
  · -- else
    have h10 := of_decide_eq_false h10
    refine c_skip ?_
    refine c_rs (by kernel_rfl) ?_   -- region 4
    refine sr 3 rfl ?_
    refine s_op rfl (o_ex loud_n rfl (szIntS_c _ _ _ x _ (by omega) (by omega) hn2) ?_)
    rintro v2 st2 ⟨y, rfl, hc, hd, rfl⟩ e2
    refine sra rfl ?_
    refine c_seq ?_
    refine crr (by kernel_rfl) rfl ?_   -- region 5
    refine c_if rfl (fun h16 => ?_) (fun h16 => ?_)
    · -- then
      refine crr (by kernel_rfl) rfl ?_   -- region 6
      have h16 := of_decide_eq_true h16
      exact c_ret (fr rfl ⟨-1, rfl, fun _ => rfl, fun h => by have := hb (by omega); have := hd (by omega); omega, rfl⟩)
    · -- else
      have h16 := of_decide_eq_false h16
      refine c_skip ?_
      refine crr (by kernel_rfl) rfl ?_   -- region 7
      exact c_ret (fr rfl ⟨y, rfl, fun h => by have := hb (by omega); have := hc (by omega); omega, fun h => by have := hb (by omega); have := hd (by omega); omega, rfl⟩)
theorem toMarker_c (p q : Int) (r1 r2 : Option Nat) (o1 o2 : Nat) (l1 l2 : List Int) (st : St) (hx1 : At st r1 o1 l1) (hx2 : At st r2 o2 l2) (hl1 : l1.length ≤ 1048576) (hl2 : l2.length ≤ 1048576) :
    ACalls Try.prog 27 [.agg [I p, .sl r1 o1 l1.length, .sl r2 o2 l2.length, I q]] st No (Mr st p l1 l2 q) := by
  refine ent (N := 19) Try.func27 rfl (by decide) rfl rfl rfl ?_
  refine crr (by kernel_rfl) rfl ?_   -- region 0
  refine crr (by kernel_rfl) rfl ?_   -- region 1
  refine crr (by kernel_rfl) rfl ?_   -- region 2
  refine c_rs (by kernel_rfl) ?_   -- region 3
  refine sr 2 rfl ?_
  refine s_op rfl (o_ex loud_n rfl (toIntS_c _ _ _ _ hx1 hl1) ?_)
  rintro v1 st1 ⟨rg, rfl, fg⟩ e1
  refine sra rfl ?_
  refine c_rs (by kernel_rfl) ?_   -- region 4
  refine sr 2 rfl ?_
  refine s_op rfl (o_ex loud_n rfl (toIntS_c _ _ _ _ (hx2.ex e1) hl2) ?_)
  rintro v2 st2 ⟨rb, rfl, fb⟩ e2
  refine sra rfl ?_
  refine crr (by kernel_rfl) rfl ?_   -- region 5
  refine crr (by kernel_rfl) rfl ?_   -- region 6
  refine c_ret (fr rfl ⟨some rg, some rb, rfl, fg.ex e2, fb.le e1.n, fun i h h' => ?_⟩)
  have := fg.bd i h
  have := fb.bd i h'
  omega
theorem eqMarker_t (p q : Int) (r1 r2 r1' r2' : Option Nat) (o1 o2 o1' o2' : Nat) (l1 l2 : List Int) (st : St) (hx1 : At st r1 o1 l1) (hx2 : At st r2 o2 l2) (hy1 : At st r1' o1' l1) (hy2 : At st r2' o2' l2)
    (hl1 : l1.length ≤ 1099511627776) (hl2 : l2.length ≤ 1099511627776) :
    ACalls Try.prog 16 [.agg [I p, .sl r1 o1 l1.length, .sl r2 o2 l2.length, I q], .agg [I p, .sl r1' o1' l1.length, .sl r2' o2' l2.length, I q]] st No (Pure1 (.bool true) st) := by
  refine ent (N := 27) Try.func16 rfl (by decide) rfl rfl rfl ?_
  refine crr (by kernel_rfl) rfl ?_   -- region 0
  refine c_seq ?_
  refine crr (by kernel_rfl) rfl ?_   -- region 1
  refine c_if rfl (fun h9 => by simp at h9) (fun h9 => ?_)
  refine c_skip ?_
  refine c_seq ?_
  refine c_rs (by kernel_rfl) ?_   -- region 3
  refine sr 4 rfl ?_
  refine s_op rfl (o_pure loud_n rfl (eqIntS_t _ _ _ _ _ _ hx1 hy1 hl1) ?_)
  refine sra rfl ?_
  refine c_if_f rfl ?_
  refine c_skip ?_
  refine c_seq ?_
  refine c_rs (by kernel_rfl) ?_   -- region 5
  refine sr 4 rfl ?_
  refine s_op rfl (o_pure loud_n rfl (eqIntS_t _ _ _ _ _ _ hx2 hy2 hl2) ?_)
  refine sra rfl ?_
  refine c_if_f rfl ?_
  refine c_skip ?_
  refine c_seq ?_
  refine crr (by kernel_rfl) rfl ?_   -- region 7
  refine c_if rfl (fun h26 => by simp at h26) (fun h26 => ?_)
  refine c_skip ?_
  refine crr (by kernel_rfl) rfl ?_   -- region 9
  exact c_ret (fr rfl ⟨rfl, rfl⟩)
theorem markMarker_c (n0 : Nat) (p q : Int) (r1 r2 : Option Nat) (l1 l2 : List Int) (k : Int) (st : St) (hf1 : Fr n0 st r1 l1) (hf2 : Fr n0 st r2 l2) (hd : ∀ i, r1 = some i → r2 ≠ some i)
    (hl1 : l1.length ≤ 1073741824) (hl2 : l2.length ≤ 1073741824) (h0 : 0 ≤ k) (h1 : k ≤ 1073741824) :
    ACalls Try.prog 21 [.agg [I p, .sl r1 0 l1.length, .sl r2 0 l2.length, I q], I k] st (fun i => r1 = some i ∨ r2 = some i) (Mk2 n0 st r1 r2 k l1.length l2.length) := by
  refine ent (N := 14) Try.func21 rfl (by decide) rfl rfl rfl ?_
  refine crr (by kernel_rfl) rfl ?_   -- region 0
  refine c_rs (by kernel_rfl) ?_   -- region 1
  refine sr 3 rfl ?_
  refine s_op rfl (o_call rfl (markIntS_c n0 r1 l1 k st hf1 (by omega) h0 (by omega)) (fun _ _ h => .inl h) (.inl rfl) ?_)
  rintro v1 st1 ⟨rfl, h2, h3⟩ e1
  refine sra rfl ?_
  refine c_rs (by kernel_rfl) ?_   -- region 2
  refine sr 3 rfl ?_
  have hf2' := hf2.ext e1 (fun i h h' => hd i h' h)
  refine s_op rfl (o_call rfl (markIntS_c n0 r2 l2 _ st1 hf2' (by omega) (by omega) (by omega)) (fun _ _ h => .inr h) (.inl rfl) ?_)
  rintro v2 st2 ⟨rfl, h4, h5⟩ e2
  refine sra rfl ?_
  refine crr (by kernel_rfl) rfl ?_   -- region 3
  exact c_ret (fr rfl ⟨rfl, h2.ext e2 (fun i h h' => hd i h h'), h4⟩)
theorem heldMarker_c (p q : Int) (r1 r2 : Option Nat) (n1 n2 : Nat) (k : Int) (st : St) (hx1 : At st r1 0 (upN k n1)) (hx2 : At st r2 0 (upN (k + n1) n2)) (hl1 : n1 ≤ 1073741824) (hl2 : n2 ≤ 1073741824) (h0 : 0 ≤ k) (h1 : k ≤ 1073741824) :
    ACalls Try.prog 22 [.agg [I p, .sl r1 0 n1, .sl r2 0 n2, I q], I k] st No (Pure1 (I (k + n1 + n2)) st) := by
  refine ent (N := 18) Try.func22 rfl (by decide) rfl rfl rfl ?_
  refine crr (by kernel_rfl) rfl ?_   -- region 0
  refine c_rs (by kernel_rfl) ?_   -- region 1
  refine sr 3 rfl ?_
  refine s_op rfl (o_pure loud_n rfl (heldIntS_c r1 n1 k st hx1 (by omega) h0 (by omega)) ?_)
  refine sra rfl ?_
  refine c_seq ?_
  refine crr (by kernel_rfl) rfl ?_   -- region 2
  refine c_if rfl (fun h10 => ?_) (fun h10 => ?_)
  · have h10 := of_decide_eq_true h10
    omega
  · refine c_skip ?_
    refine c_rs (by kernel_rfl) ?_   -- region 4
    refine sr 3 rfl ?_
    refine s_op rfl (o_pure loud_n rfl (heldIntS_c r2 n2 _ st hx2 (by omega) (by omega) (by omega)) ?_)
    refine sra rfl ?_
    refine c_seq ?_
    refine crr (by kernel_rfl) rfl ?_   -- region 5
    refine c_if rfl (fun h16 => ?_) (fun h16 => ?_)
    · have h16 := of_decide_eq_true h16
      omega
    · refine c_skip ?_
      refine crr (by kernel_rfl) rfl ?_   -- region 7
      exact c_ret (fr rfl ⟨rfl, rfl⟩)
end Go.Proofs.YtmphklmhhcmbnaaW.Ax
