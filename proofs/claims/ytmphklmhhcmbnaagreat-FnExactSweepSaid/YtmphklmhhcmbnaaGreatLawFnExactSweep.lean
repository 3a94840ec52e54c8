/- For every input the program's Sweep answers as the reference's (FnExactSweep). No condition. -/
import Derived.Test.YtmphklmhhcmbnaaGreatRows
import Derived.Test.YtmphklmhhcmbnaaGreatXw
import Derived.Test.YtmphklmhhcmbnaaGreatVb
namespace Go.Proofs.YtmphklmhhcmbnaaGreatW.Ax
open Go Go.RowKit Go.Proofs Go.Proofs.YtmphklmhhcmbnaaGreat.Pure
set_option linter.unusedVariables false
set_option maxRecDepth 100000 in
theorem FnExactSweep_c (r0 : Option Nat) (l0 : List Int) (p1 : Int) (r1g : Option Nat) (l1g : List Int) (r1b : Option Nat) (l1b : List Int) (q1 : Int) (st : St) (hx0 : At st r0 0 l0) (hr0 : ∀ i, r0 = some i → i < st.n) (hw0 : W64 l0) (hm0 : l0.length ≤ 9223372036854775807) (hx1g : At st r1g 0 l1g) (hr1g : ∀ i, r1g = some i → i < st.n) (hw1g : W64 l1g) (hm1g : l1g.length ≤ 9223372036854775807) (hx1b : At st r1b 0 l1b) (hr1b : ∀ i, r1b = some i → i < st.n) (hw1b : W64 l1b) (hm1b : l1b.length ≤ 9223372036854775807) (wp1 : W1 p1) (wq1 : W1 q1) : ACalls Tryz.prog 3 [.agg [.sl r0 0 l0.length], .agg [I p1, .sl r1g 0 l1g.length, .sl r1b 0 l1b.length, I q1]] st No (Pv (.bool true)) := by
  refine ent (N := 135) Tryz.func3 rfl (by decide) rfl rfl rfl ?_
  refine crr (by kernel_rfl) rfl ?_
  refine crr (by kernel_rfl) rfl ?_
  refine c_rs (by kernel_rfl) ?_
  refine sr 2 rfl ?_
  refine s_op rfl (o_ex loud_n rfl (szSlab_c (h0 := by omega) (h1 := by omega) (hn := by omega) ..) ?_)
  rintro v st' ⟨x1, rfl, hax1, hbx1, rfl⟩ _
  refine sra rfl ?_
  refine c_seq ?_
  refine c_rs (by kernel_rfl) ?_
  refine sra rfl ?_
  refine c_if rfl (fun h => ?_) (fun h => ?_)
  · refine crr (by kernel_rfl) rfl ?_
    exact c_ret (fr rfl rfl)
  have hh4 := of_decide_eq_false h
  clear h
  refine c_skip ?_
  refine c_rs (by kernel_rfl) ?_
  refine sr 2 rfl ?_
  refine s_op rfl (o_ex loud_n rfl (szMarker_c (h0 := by omega) (h1 := by omega) (hn1 := by omega) (hn2 := by omega) ..) ?_)
  rintro v st' ⟨x2, rfl, hax2, hbx2, rfl⟩ _
  refine sra rfl ?_
  refine c_seq ?_
  refine c_rs (by kernel_rfl) ?_
  refine sra rfl ?_
  refine c_if rfl (fun h => ?_) (fun h => ?_)
  · refine crr (by kernel_rfl) rfl ?_
    exact c_ret (fr rfl rfl)
  have hh7 := of_decide_eq_false h
  clear h
  refine c_skip ?_
  refine cdx [2, 3] [8, 9] [0, 2, 1, 3, 4, 5, 6, 7] [false, false, true, true, true, false, false, false] [10, 11] [.n, .n] (by kernel_rfl) (by kernel_rfl) ?_
  refine yr 2 rfl ?_
  refine y_b rfl rfl (b_call rfl (toSlab_c (hx := hx0) (hl := by omega) ..) no_T ?_)
  rintro v st1 ⟨rv1, rfl, fv1⟩ e1
  have n1 := e1.n
  replace hx0 := hx0.ex e1
  replace hx1g := hx1g.ex e1
  replace hx1b := hx1b.ex e1
  have bv1 := fv1.bd
  refine y_b rfl rfl (b_call rfl (toMarker_c (hx1 := hx1g) (hx2 := hx1b) (hl1 := by omega) (hl2 := by omega) ..) no_T ?_)
  rintro v st2 ⟨rv2g, rv2b, rfl, fv2g, fv2b, dv2⟩ e2
  have n2 := e2.n
  replace hx0 := hx0.ex e2
  replace hx1g := hx1g.ex e2
  replace hx1b := hx1b.ex e2
  replace fv1 := fv1.ex e2
  have bv2g := fv2g.bd
  have bv2b := fv2b.bd
  refine y_b rfl rfl (b_call rfl (Sweep_c (hx := fv1.at_) (hl := by omega) (hg := fv2g.at_) (hb := fv2b.at_) (hlg := by omega) (hlb := by omega) (hq := wq1) ..) no_T ?_)
  rintro v st3 ⟨rv3s, rv3g, rv3b, rfl, fv3s, fv3g, fv3b, dv3, ddv3⟩ e3
  have nv3 := e3.n
  replace hx0 := hx0.ex e3
  replace hx1g := hx1g.ex e3
  replace hx1b := hx1b.ex e3
  replace fv1 := fv1.ex e3
  replace fv2g := fv2g.ex e3
  replace fv2b := fv2b.ex e3
  have bv3s := fv3s.bd
  have bv3g := fv3g.bd
  have bv3b := fv3b.bd
  have := sp_len l0 p1 l1g l1b q1
  refine yr 3 rfl ?_
  refine y_end ?_
  refine sra rfl ?_
  refine c_rs (by kernel_rfl) ?_
  refine sr 1 rfl ?_
  refine s_op rfl (o_ex loud_n rfl (toSlab_c (hx := hx0) (hl := by omega) ..) ?_)
  rintro v st4 ⟨rv4, rfl, fv4⟩ e4
  have n4 := e4.n
  replace hx0 := hx0.ex e4
  replace hx1g := hx1g.ex e4
  replace hx1b := hx1b.ex e4
  replace fv1 := fv1.ex e4
  replace fv2g := fv2g.ex e4
  replace fv2b := fv2b.ex e4
  replace fv3s := fv3s.ex e4
  replace fv3g := fv3g.ex e4
  replace fv3b := fv3b.ex e4
  have bv4 := fv4.bd
  refine sra rfl ?_
  refine c_rs (by kernel_rfl) ?_
  refine sr 1 rfl ?_
  refine s_op rfl (o_ex loud_n rfl (toMarker_c (hx1 := hx1g) (hx2 := hx1b) (hl1 := by omega) (hl2 := by omega) ..) ?_)
  rintro v st5 ⟨rv5g, rv5b, rfl, fv5g, fv5b, dv5⟩ e5
  have n5 := e5.n
  replace hx0 := hx0.ex e5
  replace hx1g := hx1g.ex e5
  replace hx1b := hx1b.ex e5
  replace fv1 := fv1.ex e5
  replace fv2g := fv2g.ex e5
  replace fv2b := fv2b.ex e5
  replace fv3s := fv3s.ex e5
  replace fv3g := fv3g.ex e5
  replace fv3b := fv3b.ex e5
  replace fv4 := fv4.ex e5
  have bv5g := fv5g.bd
  have bv5b := fv5b.bd
  refine sra rfl ?_
  refine c_rs (by kernel_rfl) ?_
  refine sr 2 rfl ?_
  refine s_op rfl (o_ex loud_n rfl (iSweep_c (hx := fv4.at_) (hl := by omega) (hg := fv5g.at_) (hb := fv5b.at_) (hlg := by omega) (hlb := by omega) (hq := wq1) ..) ?_)
  rintro v st6 ⟨rv6s, rv6g, rv6b, rfl, fv6s, fv6g, fv6b, dv6, ddv6⟩ e6
  have nv6 := e6.n
  replace hx0 := hx0.ex e6
  replace hx1g := hx1g.ex e6
  replace hx1b := hx1b.ex e6
  replace fv1 := fv1.ex e6
  replace fv2g := fv2g.ex e6
  replace fv2b := fv2b.ex e6
  replace fv3s := fv3s.ex e6
  replace fv3g := fv3g.ex e6
  replace fv3b := fv3b.ex e6
  replace fv4 := fv4.ex e6
  replace fv5g := fv5g.ex e6
  replace fv5b := fv5b.ex e6
  have bv6s := fv6s.bd
  have bv6g := fv6g.bd
  have bv6b := fv6b.bd
  have := sp_len l0 p1 l1g l1b q1
  refine sra rfl ?_
  refine c_seq ?_
  refine c_rs (by kernel_rfl) ?_
  refine sr 2 rfl ?_
  refine s_op rfl (o_pure loud_n rfl (eqSlab_t (hx := fv6s.at_) (hy := fv3s.at_) (hl := by omega) ..) ?_)
  refine sr 4 rfl ?_
  refine s_op rfl (o_pure loud_n rfl (eqMarker_t (hx1 := fv6g.at_) (hx2 := fv6b.at_) (hy1 := fv3g.at_) (hy2 := fv3b.at_) (hl1 := by first | omega | simp) (hl2 := by first | omega | simp) ..) ?_)
  refine sra rfl ?_
  refine c_if_f rfl ?_
  refine c_skip ?_
  refine c_seq ?_
  refine cds [0, 1, 2, 3, 4] [.q, .q, .f, .f, .q] (by kernel_rfl) (by kernel_rfl) ?_
  refine sr 2 rfl ?_
  refine s_op rfl (o_ex loud_f rfl (toSlab_c (hx := hx0) (hl := by omega) ..) ?_)
  rintro v st7 ⟨rv7, rfl, fv7⟩ e7
  have n7 := e7.n
  replace hx0 := hx0.ex e7
  replace hx1g := hx1g.ex e7
  replace hx1b := hx1b.ex e7
  replace fv1 := fv1.ex e7
  replace fv2g := fv2g.ex e7
  replace fv2b := fv2b.ex e7
  replace fv3s := fv3s.ex e7
  replace fv3g := fv3g.ex e7
  replace fv3b := fv3b.ex e7
  replace fv4 := fv4.ex e7
  replace fv5g := fv5g.ex e7
  replace fv5b := fv5b.ex e7
  replace fv6s := fv6s.ex e7
  replace fv6g := fv6g.ex e7
  replace fv6b := fv6b.ex e7
  have bv7 := fv7.bd
  refine s_op rfl (o_pure loud_f rfl (eqSlab_t (hx := fv4.at_) (hy := fv7.at_) (hl := by omega) ..) ?_)
  refine sra rfl ?_
  refine c_if_f rfl ?_
  refine c_skip ?_
  refine c_seq ?_
  refine cds [0, 1, 2, 3, 4] [.q, .q, .f, .f, .q] (by kernel_rfl) (by kernel_rfl) ?_
  refine sr 2 rfl ?_
  refine s_op rfl (o_ex loud_f rfl (toMarker_c (hx1 := hx1g) (hx2 := hx1b) (hl1 := by omega) (hl2 := by omega) ..) ?_)
  rintro v st8 ⟨rv8g, rv8b, rfl, fv8g, fv8b, dv8⟩ e8
  have n8 := e8.n
  replace hx0 := hx0.ex e8
  replace hx1g := hx1g.ex e8
  replace hx1b := hx1b.ex e8
  replace fv1 := fv1.ex e8
  replace fv2g := fv2g.ex e8
  replace fv2b := fv2b.ex e8
  replace fv3s := fv3s.ex e8
  replace fv3g := fv3g.ex e8
  replace fv3b := fv3b.ex e8
  replace fv4 := fv4.ex e8
  replace fv5g := fv5g.ex e8
  replace fv5b := fv5b.ex e8
  replace fv6s := fv6s.ex e8
  replace fv6g := fv6g.ex e8
  replace fv6b := fv6b.ex e8
  replace fv7 := fv7.ex e8
  have bv8g := fv8g.bd
  have bv8b := fv8b.bd
  refine s_op rfl (o_pure loud_f rfl (eqMarker_t (hx1 := fv5g.at_) (hx2 := fv5b.at_) (hy1 := fv8g.at_) (hy2 := fv8b.at_) (hl1 := by first | omega | simp) (hl2 := by first | omega | simp) ..) ?_)
  refine sra rfl ?_
  refine c_if_f rfl ?_
  refine c_skip ?_
  refine crr (by kernel_rfl) rfl ?_
  refine c_rs (by kernel_rfl) ?_
  refine sr 2 rfl ?_
  refine s_op rfl (o_call rfl (markSlab_c (hf := fv4) (hl := by omega) (h0 := by omega) (h1 := by omega) ..) (fun i hi h => absurd hi (by have := bv4 i h; omega)) (.inl rfl) ?_)
  rintro v st9 ⟨rfl, gv4, _⟩ e9
  have n9 := e9.n
  replace hx0 := hx0.off e9 hr0 bv4 (by omega)
  replace hx1g := hx1g.off e9 hr1g bv4 (by omega)
  replace hx1b := hx1b.off e9 hr1b bv4 (by omega)
  replace fv1 := fv1.off e9 bv1 bv4 (by omega)
  replace fv2g := fv2g.off e9 bv2g bv4 (by omega)
  replace fv2b := fv2b.off e9 bv2b bv4 (by omega)
  replace fv3s := fv3s.off e9 bv3s bv4 (by omega)
  replace fv3g := fv3g.off e9 bv3g bv4 (by omega)
  replace fv3b := fv3b.off e9 bv3b bv4 (by omega)
  replace fv5g := fv5g.off e9 bv5g bv4 (by omega)
  replace fv5b := fv5b.off e9 bv5b bv4 (by omega)
  replace fv6s := fv6s.off e9 bv6s bv4 (by omega)
  replace fv6g := fv6g.off e9 bv6g bv4 (by omega)
  replace fv6b := fv6b.off e9 bv6b bv4 (by omega)
  replace fv7 := fv7.off e9 bv7 bv4 (by omega)
  replace fv8g := fv8g.off e9 bv8g bv4 (by omega)
  replace fv8b := fv8b.off e9 bv8b bv4 (by omega)
  replace fv4 := gv4
  refine sra rfl ?_
  refine c_rs (by kernel_rfl) ?_
  refine sr 2 rfl ?_
  refine s_op rfl (o_call rfl (markMarker_c (hf1 := fv5g) (hf2 := fv5b) (hd := dv5) (hl1 := by first | omega | simp) (hl2 := by first | omega | simp) (h0 := by omega) (h1 := by omega) ..) (fun i hi h => absurd hi (by rcases h with h | h <;> first | (have := bv5g i h; omega) | (have := bv5b i h; omega))) (.inl rfl) ?_)
  rintro v st10 ⟨rfl, gv5g, gv5b⟩ e10
  have n10 := e10.n
  replace hx0 := hx0.off2 e10 hr0 bv5g bv5b (by omega)
  replace hx1g := hx1g.off2 e10 hr1g bv5g bv5b (by omega)
  replace hx1b := hx1b.off2 e10 hr1b bv5g bv5b (by omega)
  replace fv1 := fv1.off2 e10 bv1 bv5g bv5b (by omega)
  replace fv2g := fv2g.off2 e10 bv2g bv5g bv5b (by omega)
  replace fv2b := fv2b.off2 e10 bv2b bv5g bv5b (by omega)
  replace fv3s := fv3s.off2 e10 bv3s bv5g bv5b (by omega)
  replace fv3g := fv3g.off2 e10 bv3g bv5g bv5b (by omega)
  replace fv3b := fv3b.off2 e10 bv3b bv5g bv5b (by omega)
  replace fv4 := fv4.off2 e10 bv4 bv5g bv5b (by omega)
  replace fv6s := fv6s.off2 e10 bv6s bv5g bv5b (by omega)
  replace fv6g := fv6g.off2 e10 bv6g bv5g bv5b (by omega)
  replace fv6b := fv6b.off2 e10 bv6b bv5g bv5b (by omega)
  replace fv7 := fv7.off2 e10 bv7 bv5g bv5b (by omega)
  replace fv8g := fv8g.off2 e10 bv8g bv5g bv5b (by omega)
  replace fv8b := fv8b.off2 e10 bv8b bv5g bv5b (by omega)
  replace fv5g := gv5g
  replace fv5b := gv5b
  refine sra rfl ?_
  refine c_seq ?_
  refine c_rs (by kernel_rfl) ?_
  refine sr 1 rfl ?_
  refine s_op rfl (oeq rfl (.v (.bool false)) (bF (by omega)) ?_)
  refine sr 3 rfl ?_
  refine s_op rfl (o_pure loud_n rfl (eqSlab_t (hx := fv6s.at_) (hy := fv3s.at_) (hl := by omega) ..) ?_)
  refine sr 5 rfl ?_
  refine s_op rfl (o_pure loud_n rfl (eqMarker_t (hx1 := fv6g.at_) (hx2 := fv6b.at_) (hy1 := fv3g.at_) (hy2 := fv3b.at_) (hl1 := by first | omega | simp) (hl2 := by first | omega | simp) ..) ?_)
  refine sra rfl ?_
  refine c_if_f rfl ?_
  refine c_skip ?_
  refine crr (by kernel_rfl) rfl ?_
  refine c_rs (by kernel_rfl) ?_
  refine sr 2 rfl ?_
  refine s_op rfl (o_call rfl (markSlab_c (hf := fv6s) (hl := by omega) (h0 := by omega) (h1 := by omega) ..) (fun i hi h => absurd hi (by have := bv6s i h; omega)) (.inl rfl) ?_)
  rintro v st11 ⟨rfl, gv6s, _⟩ e11
  have n11 := e11.n
  replace hx0 := hx0.off e11 hr0 bv6s (by omega)
  replace hx1g := hx1g.off e11 hr1g bv6s (by omega)
  replace hx1b := hx1b.off e11 hr1b bv6s (by omega)
  replace fv1 := fv1.off e11 bv1 bv6s (by omega)
  replace fv2g := fv2g.off e11 bv2g bv6s (by omega)
  replace fv2b := fv2b.off e11 bv2b bv6s (by omega)
  replace fv3s := fv3s.off e11 bv3s bv6s (by omega)
  replace fv3g := fv3g.off e11 bv3g bv6s (by omega)
  replace fv3b := fv3b.off e11 bv3b bv6s (by omega)
  replace fv4 := fv4.off e11 bv4 bv6s (by omega)
  replace fv5g := fv5g.off e11 bv5g bv6s (by omega)
  replace fv5b := fv5b.off e11 bv5b bv6s (by omega)
  replace fv6g := fv6g.ext e11 (fun i h h' => (ddv6 i h').1 h)
  replace fv6b := fv6b.ext e11 (fun i h h' => (ddv6 i h').2 h)
  replace fv7 := fv7.off e11 bv7 bv6s (by omega)
  replace fv8g := fv8g.off e11 bv8g bv6s (by omega)
  replace fv8b := fv8b.off e11 bv8b bv6s (by omega)
  replace fv6s := gv6s
  refine sra rfl ?_
  refine c_rs (by kernel_rfl) ?_
  refine sr 2 rfl ?_
  refine s_op rfl (o_call rfl (markMarker_c (hf1 := fv6g) (hf2 := fv6b) (hd := dv6) (hl1 := by first | omega | simp) (hl2 := by first | omega | simp) (h0 := by omega) (h1 := by omega) ..) (fun i hi h => absurd hi (by rcases h with h | h <;> first | (have := bv6g i h; omega) | (have := bv6b i h; omega))) (.inl rfl) ?_)
  rintro v st12 ⟨rfl, gv6g, gv6b⟩ e12
  have n12 := e12.n
  replace hx0 := hx0.off2 e12 hr0 bv6g bv6b (by omega)
  replace hx1g := hx1g.off2 e12 hr1g bv6g bv6b (by omega)
  replace hx1b := hx1b.off2 e12 hr1b bv6g bv6b (by omega)
  replace fv1 := fv1.off2 e12 bv1 bv6g bv6b (by omega)
  replace fv2g := fv2g.off2 e12 bv2g bv6g bv6b (by omega)
  replace fv2b := fv2b.off2 e12 bv2b bv6g bv6b (by omega)
  replace fv3s := fv3s.off2 e12 bv3s bv6g bv6b (by omega)
  replace fv3g := fv3g.off2 e12 bv3g bv6g bv6b (by omega)
  replace fv3b := fv3b.off2 e12 bv3b bv6g bv6b (by omega)
  replace fv4 := fv4.off2 e12 bv4 bv6g bv6b (by omega)
  replace fv5g := fv5g.off2 e12 bv5g bv6g bv6b (by omega)
  replace fv5b := fv5b.off2 e12 bv5b bv6g bv6b (by omega)
  replace fv6s := fv6s.ext e12 (fun i h h' => h'.elim (ddv6 i h).1 (ddv6 i h).2)
  replace fv7 := fv7.off2 e12 bv7 bv6g bv6b (by omega)
  replace fv8g := fv8g.off2 e12 bv8g bv6g bv6b (by omega)
  replace fv8b := fv8b.off2 e12 bv8b bv6g bv6b (by omega)
  replace fv6g := gv6g
  replace fv6b := gv6b
  refine sra rfl ?_
  refine crr (by kernel_rfl) rfl ?_
  refine c_rs (by kernel_rfl) ?_
  refine sr 2 rfl ?_
  refine s_op rfl (o_pure loud_n rfl (heldSlab_c (hx := fv6s.at_) (hl := by omega) (h0 := by omega) (h1 := by omega) ..) ?_)
  refine sra rfl ?_
  refine c_seq ?_
  refine c_rs (by kernel_rfl) ?_
  refine sr 1 rfl ?_
  refine s_op rfl (oeq rfl (.v (.bool false)) (bF (by omega)) ?_)
  refine s_end ?_
  refine c_if_f rfl ?_
  refine c_skip ?_
  refine c_rs (by kernel_rfl) ?_
  refine sr 2 rfl ?_
  refine s_op rfl (o_pure loud_n rfl (heldMarker_c (hx1 := fv6g.at_) (hx2 := fv6b.at_) (hl1 := by first | omega | simp) (hl2 := by first | omega | simp) (h0 := by omega) (h1 := by omega) ..) ?_)
  refine sra rfl ?_
  refine c_seq ?_
  refine c_rs (by kernel_rfl) ?_
  refine sr 1 rfl ?_
  refine s_op rfl (oeq rfl (.v (.bool false)) (bF (by omega)) ?_)
  refine s_end ?_
  refine c_if_f rfl ?_
  refine c_skip ?_
  refine c_seq ?_
  refine c_rs (by kernel_rfl) ?_
  refine sr 2 rfl ?_
  refine s_op rfl (oeq rfl (.v (.bool false)) (bN rfl) ?_)
  refine s_end ?_
  refine c_if_f rfl ?_
  refine c_skip ?_
  refine cdx [2, 3] [8, 9] [0, 2, 1, 3, 4, 5, 6, 7] [false, false, true, true, true, false, false, false] [10, 11] [.n, .n] (by kernel_rfl) (by kernel_rfl) ?_
  refine yr 2 rfl ?_
  refine y_b rfl rfl (b_call rfl (toSlab_c (hx := hx0) (hl := by omega) ..) no_T ?_)
  rintro v st13 ⟨rv13, rfl, fv13⟩ e13
  have n13 := e13.n
  replace hx0 := hx0.ex e13
  replace hx1g := hx1g.ex e13
  replace hx1b := hx1b.ex e13
  replace fv1 := fv1.ex e13
  replace fv2g := fv2g.ex e13
  replace fv2b := fv2b.ex e13
  replace fv3s := fv3s.ex e13
  replace fv3g := fv3g.ex e13
  replace fv3b := fv3b.ex e13
  replace fv4 := fv4.ex e13
  replace fv5g := fv5g.ex e13
  replace fv5b := fv5b.ex e13
  replace fv6s := fv6s.ex e13
  replace fv6g := fv6g.ex e13
  replace fv6b := fv6b.ex e13
  replace fv7 := fv7.ex e13
  replace fv8g := fv8g.ex e13
  replace fv8b := fv8b.ex e13
  have bv13 := fv13.bd
  refine y_b rfl rfl (b_call rfl (toMarker_c (hx1 := hx1g) (hx2 := hx1b) (hl1 := by omega) (hl2 := by omega) ..) no_T ?_)
  rintro v st14 ⟨rv14g, rv14b, rfl, fv14g, fv14b, dv14⟩ e14
  have n14 := e14.n
  replace hx0 := hx0.ex e14
  replace hx1g := hx1g.ex e14
  replace hx1b := hx1b.ex e14
  replace fv1 := fv1.ex e14
  replace fv2g := fv2g.ex e14
  replace fv2b := fv2b.ex e14
  replace fv3s := fv3s.ex e14
  replace fv3g := fv3g.ex e14
  replace fv3b := fv3b.ex e14
  replace fv4 := fv4.ex e14
  replace fv5g := fv5g.ex e14
  replace fv5b := fv5b.ex e14
  replace fv6s := fv6s.ex e14
  replace fv6g := fv6g.ex e14
  replace fv6b := fv6b.ex e14
  replace fv7 := fv7.ex e14
  replace fv8g := fv8g.ex e14
  replace fv8b := fv8b.ex e14
  replace fv13 := fv13.ex e14
  have bv14g := fv14g.bd
  have bv14b := fv14b.bd
  refine y_b rfl rfl (b_call rfl (iSweep_c (hx := fv13.at_) (hl := by omega) (hg := fv14g.at_) (hb := fv14b.at_) (hlg := by omega) (hlb := by omega) (hq := wq1) ..) no_T ?_)
  rintro v st15 ⟨rv15s, rv15g, rv15b, rfl, fv15s, fv15g, fv15b, dv15, ddv15⟩ e15
  have nv15 := e15.n
  replace hx0 := hx0.ex e15
  replace hx1g := hx1g.ex e15
  replace hx1b := hx1b.ex e15
  replace fv1 := fv1.ex e15
  replace fv2g := fv2g.ex e15
  replace fv2b := fv2b.ex e15
  replace fv3s := fv3s.ex e15
  replace fv3g := fv3g.ex e15
  replace fv3b := fv3b.ex e15
  replace fv4 := fv4.ex e15
  replace fv5g := fv5g.ex e15
  replace fv5b := fv5b.ex e15
  replace fv6s := fv6s.ex e15
  replace fv6g := fv6g.ex e15
  replace fv6b := fv6b.ex e15
  replace fv7 := fv7.ex e15
  replace fv8g := fv8g.ex e15
  replace fv8b := fv8b.ex e15
  replace fv13 := fv13.ex e15
  replace fv14g := fv14g.ex e15
  replace fv14b := fv14b.ex e15
  have bv15s := fv15s.bd
  have bv15g := fv15g.bd
  have bv15b := fv15b.bd
  have := sp_len l0 p1 l1g l1b q1
  refine yr 3 rfl ?_
  refine y_end ?_
  refine sra rfl ?_
  refine c_seq ?_
  refine c_rs (by kernel_rfl) ?_
  refine sr 2 rfl ?_
  refine s_op rfl (o_pure loud_n rfl (eqSlab_t (hx := fv15s.at_) (hy := fv3s.at_) (hl := by omega) ..) ?_)
  refine sr 4 rfl ?_
  refine s_op rfl (o_pure loud_n rfl (eqMarker_t (hx1 := fv15g.at_) (hx2 := fv15b.at_) (hy1 := fv3g.at_) (hy2 := fv3b.at_) (hl1 := by first | omega | simp) (hl2 := by first | omega | simp) ..) ?_)
  refine sra rfl ?_
  refine c_if_f rfl ?_
  refine c_skip ?_
  refine crr (by kernel_rfl) rfl ?_
  refine c_rs (by kernel_rfl) ?_
  refine sr 2 rfl ?_
  refine s_op rfl (o_pure loud_n rfl (heldSlab_c (hx := fv6s.at_) (hl := by omega) (h0 := by omega) (h1 := by omega) ..) ?_)
  refine sra rfl ?_
  refine c_seq ?_
  refine c_rs (by kernel_rfl) ?_
  refine sr 1 rfl ?_
  refine s_op rfl (oeq rfl (.v (.bool false)) (bF (by omega)) ?_)
  refine s_end ?_
  refine c_if_f rfl ?_
  refine c_skip ?_
  refine c_rs (by kernel_rfl) ?_
  refine sr 2 rfl ?_
  refine s_op rfl (o_pure loud_n rfl (heldMarker_c (hx1 := fv6g.at_) (hx2 := fv6b.at_) (hl1 := by first | omega | simp) (hl2 := by first | omega | simp) (h0 := by omega) (h1 := by omega) ..) ?_)
  refine sra rfl ?_
  refine c_seq ?_
  refine c_rs (by kernel_rfl) ?_
  refine sr 1 rfl ?_
  refine s_op rfl (oeq rfl (.v (.bool false)) (bF (by omega)) ?_)
  refine s_end ?_
  refine c_if_f rfl ?_
  refine c_skip ?_
  refine c_seq ?_
  refine c_rs (by kernel_rfl) ?_
  refine sr 2 rfl ?_
  refine s_op rfl (oeq rfl (.v (.bool false)) (bN rfl) ?_)
  refine s_end ?_
  refine c_if_f rfl ?_
  refine c_skip ?_
  refine crr (by kernel_rfl) rfl ?_
  exact c_ret (fr rfl rfl)
end Go.Proofs.YtmphklmhhcmbnaaGreatW.Ax
namespace Go.Proofs.YtmphklmhhcmbnaaGreat.fnExactSweep
open Go Go.Proofs.YtmphklmhhcmbnaaGreatW.Ax
open Go.ChangeShapes Go.WideShapes Go.ChangeAt Go.RowKit Go.Joins
open Go.ChangeMaps (open_string shut_string)
set_option linter.unusedVariables false
theorem own : ownKnob Tryz.prog.godebug = none := by kernel_rfl
theorem laidOut : laidOutB Tryz.prog = true := by kernel_rfl
set_option maxRecDepth 100000 in
theorem lifted (os : Os) (started : os.Started) (H : Type) (enc : TypeId × Value → H) :
    ReturnsInHanded {} Tryz.checked os 3 .any (Rows.fnExactSweepSpec.pre6 enc Tryz.prog Tryz.f3 Rows.fnExactSweepRow.domain false) (Rows.fnExactSweepSpec.post enc Tryz.prog Tryz.f3 false true false false) := by
  refine returnsInHanded_of_change_sized (C := Tryz.checked) own started (by kernel_rfl) Tryz.func3
    (ChangeSpec.witness6 (enc := enc) (C := Tryz.checked) false ⟨#[], #[.agg #[.slice none 0 0], .agg #[.int .i64 0, .slice none 0 0, .slice none 0 0, .int .i64 0]], []⟩ 8 (by kernel_rfl) (by kernel_rfl) (by kernel_rfl) (by kernel_rfl)) ?_
  intro W base args ds gs before hval0 hW hcnd hsz0 _
  have hval : ∀ (j : Nat) t v, Tryz.f3.params[j]? = some t → args[j]? = some v → Value.okWide Tryz.prog W .any base t v := hval0
  have hW' := hW
  obtain ⟨p, q, hA0, hV, rfl, hfz, hnd⟩ := hW
  have hA : DataW.TrodAll enc Tryz.prog W 0 (fun _ => true) true Tryz.f3.params.toList args.toList ds p := hA0
  rw [Tryz.params3] at hA hval
  obtain ⟨v0, vs0, d0, ds0, p0, q0, hargs, rfl, rfl, h0, r0⟩ := trodAll_cons hA
  obtain ⟨v1, vs1, d1, ds1, p1, q1, rfl, rfl, rfl, h1, r1⟩ := trodAll_cons r0
  obtain ⟨rfl, rfl, rfl⟩ := trodAll_nil r1
  obtain rfl : args = #[v0, v1] := by cases args; simp_all
  obtain ⟨rfl, rfl⟩ := trodVars_none hV
  have k0 := h0
  have lt0 : ∀ x ∈ p0, x.block < W.heap.size := by obtain ⟨m, hm⟩ := k0; exact DataW.trod_lt m _ _ _ hm
  obtain ⟨w0_0, y0_0, n0, rfl, rfl, rfl, h0_0⟩ := open_agg1 Tryz.underlying24 (by kernel_rfl) (by kernel_rfl) (hval 0 24 v0 rfl rfl) h0
  obtain ⟨b0, L0, o0, l0, m0⟩ := came_of_trod Tryz.underlying22 Tryz.underlying3 (by kernel_rfl) h0_0
  have k1 := h1
  have lt1 : ∀ x ∈ p1, x.block < W.heap.size := by obtain ⟨m, hm⟩ := k1; exact DataW.trod_lt m _ _ _ hm
  obtain ⟨w1_0, w1_1, w1_2, w1_3, y1_0, y1_1, y1_2, y1_3, n1, rfl, rfl, rfl, h1_0, h1_1, h1_2, h1_3⟩ := Joins.open_agg4 Tryz.underlying26 (by kernel_rfl) (by kernel_rfl) (hval 1 26 v1 rfl rfl) h1
  obtain ⟨p1, e1_0, _, wfp1⟩ := DataW.trod_int Tryz.underlying3 h1_0
  injection e1_0 with e1_0 _
  subst e1_0
  obtain ⟨q1, e1_3, _, wfq1⟩ := DataW.trod_int Tryz.underlying3 h1_3
  injection e1_3 with e1_3 _
  subst e1_3
  obtain ⟨b1g, L1g, o1g, l1g, m1g⟩ := came_of_trod Tryz.underlying22 Tryz.underlying3 (by kernel_rfl) h1_1
  obtain ⟨b1b, L1b, o1b, l1b, m1b⟩ := came_of_trod Tryz.underlying22 Tryz.underlying3 (by kernel_rfl) h1_2
  clear hA0 hval0 hsz0
  refine (run_law (FnExactSweep_c (cond b0 (some 0) none) l0 p1 (cond b1g (some 1) none) l1g (cond b1b (some 2) none) l1b q1 ⟨3, fun i => match i with | 0 => o0 | 1 => o1g | 2 => o1b | _ => .dead⟩ (m0.at_ _ 0 (show (0 : Nat) < 3 by omega) rfl) (cond_lt (show (0 : Nat) < 3 by omega)) m0.w64 m0.len (m1g.at_ _ 1 (show (1 : Nat) < 3 by omega) rfl) (cond_lt (show (1 : Nat) < 3 by omega)) m1g.w64 m1g.len (m1b.at_ _ 2 (show (2 : Nat) < 3 by omega) rfl) (cond_lt (show (2 : Nat) < 3 by omega)) m1b.w64 m1b.len (w1_of wfp1) (w1_of wfq1)) (μ := fun i => match i with | 0 => L0 | 1 => L1g | 2 => L1b | _ => ⟨0, 0, 0⟩) (W := W) ?_ (vrl_cons (vr_agg (vrl_cons (m0.vr _ _ 0 (show (0 : Nat) < 3 by omega) rfl) (vrl_nil _ _))) (vrl_cons (vr_agg (vrl_cons (vr_int _ _ p1) (vrl_cons (m1g.vr _ _ 1 (show (1 : Nat) < 3 by omega) rfl) (vrl_cons (m1b.vr _ _ 2 (show (2 : Nat) < 3 by omega) rfl) (vrl_cons (vr_int _ _ q1) (vrl_nil _ _)))))) (vrl_nil _ _)))).mono fun e W' ⟨he, bel⟩ => ?_
  · refine rel_rows fun i hi => ?_
    match i, hi with
    | 0, _ => exact ⟨m0.obr _ _, m0.own⟩
    | 1, _ => exact ⟨m1g.obr _ _, m1g.own⟩
    | 2, _ => exact ⟨m1b.obr _ _, m1b.own⟩
    | i + 3, hi => exact absurd hi (by show ¬ (i + 3 < 3); omega)
  subst he
  exact ⟨_, rfl, _, _, _, [], _, [], hW', trodAll_mk1 (shut_bool Tryz.underlying4 _), (trodAll_cons_mk (Below.trod laidOut (by kernel_rfl) (of_decide_eq_true (by kernel_rfl)) k0 bel lt0) (trodAll_cons_mk (Below.trod laidOut (by kernel_rfl) (of_decide_eq_true (by kernel_rfl)) k1 bel lt1) trodAll_mk0)), rfl, bel.frame _, fun h => by cases h⟩
theorem over : Rows.fnExactSweepRow.holds Tryz.pinned (OpenSpec.ofChange Rows.fnExactSweepSpec) :=
  OpenClaim.holds_of_wide 3 Tryz.f3 rfl rfl rfl rfl rfl rfl rfl ⟨rfl, rfl, rfl, rfl, rfl⟩ rfl rfl rfl rfl rfl (by kernel_rfl) Tryz.func3 (by kernel_rfl)
    (of_decide_eq_true (by kernel_rfl)) (by unfold Func.isWrapper; first | (rw [if_pos (by decide +kernel)]; kernel_rfl) | (rw [if_neg (by decide +kernel)]; exact ⟨rfl, rfl⟩))
    (fun os started H enc _ => lifted os started H enc)
theorem proved : Rows.FnExactSweepSaid := over
#print axioms proved
end Go.Proofs.YtmphklmhhcmbnaaGreat.fnExactSweep
namespace Go.Proofs.YtmphklmhhcmbnaaGreat
/-- The row, under a short name, for the claim. -/
theorem fnExactSweep_holds : Rows.FnExactSweepSaid := fnExactSweep.proved
end Go.Proofs.YtmphklmhhcmbnaaGreat
