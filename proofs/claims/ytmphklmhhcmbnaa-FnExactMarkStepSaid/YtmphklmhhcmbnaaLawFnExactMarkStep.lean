/- For every input the program's MarkStep answers as the reference's (FnExactMarkStep). No condition. -/
import Derived.Test.YtmphklmhhcmbnaaRows
import Derived.Test.YtmphklmhhcmbnaaXw
import Derived.Test.YtmphklmhhcmbnaaYm
import Derived.Test.YtmphklmhhcmbnaaZr
namespace Go.Proofs.YtmphklmhhcmbnaaW.Ax
open Go Go.RowKit Go.Proofs Go.Proofs.Ytmphklmhhcmbnaa.Pure
set_option linter.unusedVariables false
set_option maxRecDepth 100000 in
theorem FnExactMarkStep_c (r0 : Option Nat) (l0 : List Int) (p1 : Int) (r1g : Option Nat) (l1g : List Int) (r1b : Option Nat) (l1b : List Int) (q1 : Int) (a2 : Int) (st : St) (hx0 : At st r0 0 l0) (hr0 : ∀ i, r0 = some i → i < st.n) (hw0 : W64 l0) (hm0 : l0.length ≤ 9223372036854775807) (hx1g : At st r1g 0 l1g) (hr1g : ∀ i, r1g = some i → i < st.n) (hw1g : W64 l1g) (hm1g : l1g.length ≤ 9223372036854775807) (hx1b : At st r1b 0 l1b) (hr1b : ∀ i, r1b = some i → i < st.n) (hw1b : W64 l1b) (hm1b : l1b.length ≤ 9223372036854775807) (wp1 : W1 p1) (wq1 : W1 q1) (wf2 : W1 a2) : ACalls Try.prog 10 [.agg [.sl r0 0 l0.length], .agg [I p1, .sl r1g 0 l1g.length, .sl r1b 0 l1b.length, I q1], I a2] st No (Pv (.bool true)) := by
  refine ent (N := 97) Try.func10 rfl (by decide) rfl rfl rfl ?_
  refine crr (by kernel_rfl) rfl ?_
  refine crr (by kernel_rfl) rfl ?_
  refine c_rs (by kernel_rfl) ?_
  refine sr 2 rfl ?_
  refine s_op rfl (o_ex loud_n rfl (szSlab_c (h0 := by omega) (h1 := by omega) (hn := by omega) ..) ?_)
  rintro v st' ⟨x1, rfl, hax1, hbx1, rfl⟩ _
  refine sra rfl ?_
  refine c_seq ?_
  refine c_rs (by kernel_rfl) ?_
  refine sra rfl ?_
  refine c_if rfl (fun h => ?_) (fun h => ?_)
  · refine crr (by kernel_rfl) rfl ?_
    exact c_ret (fr rfl rfl)
  have hh4 := of_decide_eq_false h
  clear h
  refine c_skip ?_
  refine c_rs (by kernel_rfl) ?_
  refine sr 2 rfl ?_
  refine s_op rfl (o_ex loud_n rfl (szMarker_c (h0 := by omega) (h1 := by omega) (hn1 := by omega) (hn2 := by omega) ..) ?_)
  rintro v st' ⟨x2, rfl, hax2, hbx2, rfl⟩ _
  refine sra rfl ?_
  refine c_seq ?_
  refine c_rs (by kernel_rfl) ?_
  refine sra rfl ?_
  refine c_if rfl (fun h => ?_) (fun h => ?_)
  · refine crr (by kernel_rfl) rfl ?_
    exact c_ret (fr rfl rfl)
  have hh7 := of_decide_eq_false h
  clear h
  refine c_skip ?_
  refine c_sj (α := Option Nat × Option Nat) (fun i => [(2, I (a2))]) (fun i => [(3, 3, [.sl r0 0 (l0).length]), (4, 4, [I (p1), .sl r1g 0 (l1g).length, .sl r1b 0 (l1b).length, I (q1)]), (8, 8, [I (msQ l0 p1 l1g l1b q1 a2), .sl i.1 0 (msG l0 p1 l1g l1b q1 a2).length, .sl i.2 0 (msB l0 p1 l1g l1b q1 a2).length, I (q1)])])
    (fun i st' => Ex st st' ∧ Fr st.n st' i.1 (msG l0 p1 l1g l1b q1 a2) ∧ Fr st.n st' i.2 (msB l0 p1 l1g l1b q1 a2) ∧ ∀ k, i.1 = some k → i.2 ≠ some k) ?_ ?_
  · refine c_tr1 [0, 2, 4] [0, 1, 2, 3, 4, 5, 6] 5 (.node [(1, .node [(3, .node [(5, .node [(6, .node [(7, .leaf)])]), (6, .node [(5, .node [(7, .leaf)])])]), (6, .node [(3, .node [(5, .node [(7, .leaf)])])])]), (6, .node [(1, .node [(3, .node [(5, .node [(7, .leaf)])])])])]) (by kernel_rfl) (by kernel_rfl) ?_
    refine sr 3 rfl ?_
    refine s_end ?_
    refine ⟨⟨_, rfl, rfl, ?_⟩, ⟨_, rfl, rfl, ?_⟩, trivial⟩
    ·
      refine o_ex loud_f rfl (toSlab_c (hx := hx0) (hl := by omega) ..) ?_
      rintro v sw1 ⟨rw1, rfl, fw1⟩ ew1
      refine ⟨⟨_, rfl, rfl, ?_⟩, ⟨_, rfl, rfl, ?_⟩, trivial⟩
      ·
        refine o_ex loud_f rfl (toMarker_c (hx1 := (hx1g.ex ew1)) (hx2 := (hx1b.ex ew1)) (hl1 := by omega) (hl2 := by omega) ..) ?_
        rintro v sw2 ⟨rw2g, rw2b, rfl, fw2g, fw2b, dw2⟩ ew2
        refine ⟨⟨_, rfl, rfl, ?_⟩, ⟨_, rfl, rfl, ?_⟩, trivial⟩
        ·
          refine o_ex loud_f rfl (MarkStep_c (hx := (fw1.ex ew2).at_) (hl := by omega) (hg := (fw2g).at_) (hb := (fw2b).at_) (hlg := by omega) (hlb := by omega) (hn := wf2) ..) ?_
          rintro v sw3 ⟨rw3g, rw3b, rfl, fw3g, fw3b, dw3⟩ ew3
          refine ⟨⟨_, rfl, rfl, ?_⟩, trivial⟩
          refine run2_ok rfl ?_
          refine ⟨⟨_, rfl, rfl, ?_⟩, trivial⟩
          refine run2_ok rfl ?_
          exact ⟨(rw3g, rw3b), ⟨rfl, trivial⟩, ⟨rfl, rfl, rfl, rfl, rfl, rfl, trivial⟩, ((ew1.tr ew2).tr ew3), fw3g.le (ew1.tr ew2).n, fw3b.le (ew1.tr ew2).n, dw3⟩
        ·
          refine run2_ok rfl ?_
          refine ⟨⟨_, rfl, rfl, ?_⟩, trivial⟩
          refine o_ex loud_f rfl (MarkStep_c (hx := (fw1.ex ew2).at_) (hl := by omega) (hg := (fw2g).at_) (hb := (fw2b).at_) (hlg := by omega) (hlb := by omega) (hn := wf2) ..) ?_
          rintro v sw4 ⟨rw4g, rw4b, rfl, fw4g, fw4b, dw4⟩ ew4
          refine ⟨⟨_, rfl, rfl, ?_⟩, trivial⟩
          refine run2_ok rfl ?_
          exact ⟨(rw4g, rw4b), ⟨rfl, trivial⟩, ⟨rfl, rfl, rfl, rfl, rfl, rfl, trivial⟩, ((ew1.tr ew2).tr ew4), fw4g.le (ew1.tr ew2).n, fw4b.le (ew1.tr ew2).n, dw4⟩
      ·
        refine run2_ok rfl ?_
        refine ⟨⟨_, rfl, rfl, ?_⟩, trivial⟩
        refine o_ex loud_f rfl (toMarker_c (hx1 := (hx1g.ex ew1)) (hx2 := (hx1b.ex ew1)) (hl1 := by omega) (hl2 := by omega) ..) ?_
        rintro v sw5 ⟨rw5g, rw5b, rfl, fw5g, fw5b, dw5⟩ ew5
        refine ⟨⟨_, rfl, rfl, ?_⟩, trivial⟩
        refine o_ex loud_f rfl (MarkStep_c (hx := (fw1.ex ew5).at_) (hl := by omega) (hg := (fw5g).at_) (hb := (fw5b).at_) (hlg := by omega) (hlb := by omega) (hn := wf2) ..) ?_
        rintro v sw6 ⟨rw6g, rw6b, rfl, fw6g, fw6b, dw6⟩ ew6
        refine ⟨⟨_, rfl, rfl, ?_⟩, trivial⟩
        refine run2_ok rfl ?_
        exact ⟨(rw6g, rw6b), ⟨rfl, trivial⟩, ⟨rfl, rfl, rfl, rfl, rfl, rfl, trivial⟩, ((ew1.tr ew5).tr ew6), fw6g.le (ew1.tr ew5).n, fw6b.le (ew1.tr ew5).n, dw6⟩
    ·
      refine run2_ok rfl ?_
      refine ⟨⟨_, rfl, rfl, ?_⟩, trivial⟩
      refine o_ex loud_f rfl (toSlab_c (hx := hx0) (hl := by omega) ..) ?_
      rintro v sw7 ⟨rw7, rfl, fw7⟩ ew7
      refine ⟨⟨_, rfl, rfl, ?_⟩, trivial⟩
      refine o_ex loud_f rfl (toMarker_c (hx1 := (hx1g.ex ew7)) (hx2 := (hx1b.ex ew7)) (hl1 := by omega) (hl2 := by omega) ..) ?_
      rintro v sw8 ⟨rw8g, rw8b, rfl, fw8g, fw8b, dw8⟩ ew8
      refine ⟨⟨_, rfl, rfl, ?_⟩, trivial⟩
      refine o_ex loud_f rfl (MarkStep_c (hx := (fw7.ex ew8).at_) (hl := by omega) (hg := (fw8g).at_) (hb := (fw8b).at_) (hlg := by omega) (hlb := by omega) (hn := wf2) ..) ?_
      rintro v sw9 ⟨rw9g, rw9b, rfl, fw9g, fw9b, dw9⟩ ew9
      refine ⟨⟨_, rfl, rfl, ?_⟩, trivial⟩
      refine run2_ok rfl ?_
      exact ⟨(rw9g, rw9b), ⟨rfl, trivial⟩, ⟨rfl, rfl, rfl, rfl, rfl, rfl, trivial⟩, ((ew7.tr ew8).tr ew9), fw9g.le (ew7.tr ew8).n, fw9b.le (ew7.tr ew8).n, dw9⟩
  rintro ⟨rv1g, rv1b⟩ st1 ⟨e1, fv1g, fv1b, dv1⟩
  dsimp only at fv1g fv1b dv1
  have nv1 := e1.n
  replace hx0 := hx0.ex e1
  replace hx1g := hx1g.ex e1
  replace hx1b := hx1b.ex e1
  have bv1g := fv1g.bd
  have bv1b := fv1b.bd
  have := (ms_len l0 p1 l1g l1b q1 a2).1
  have := (ms_len l0 p1 l1g l1b q1 a2).2
  refine c_rs (by kernel_rfl) ?_
  refine sr 1 rfl ?_
  refine s_op rfl (o_ex loud_n rfl (toSlab_c (hx := hx0) (hl := by omega) ..) ?_)
  rintro v st2 ⟨rv2, rfl, fv2⟩ e2
  have n2 := e2.n
  replace hx0 := hx0.ex e2
  replace hx1g := hx1g.ex e2
  replace hx1b := hx1b.ex e2
  replace fv1g := fv1g.ex e2
  replace fv1b := fv1b.ex e2
  have bv2 := fv2.bd
  refine sra rfl ?_
  refine c_rs (by kernel_rfl) ?_
  refine sr 1 rfl ?_
  refine s_op rfl (o_ex loud_n rfl (toMarker_c (hx1 := hx1g) (hx2 := hx1b) (hl1 := by omega) (hl2 := by omega) ..) ?_)
  rintro v st3 ⟨rv3g, rv3b, rfl, fv3g, fv3b, dv3⟩ e3
  have n3 := e3.n
  replace hx0 := hx0.ex e3
  replace hx1g := hx1g.ex e3
  replace hx1b := hx1b.ex e3
  replace fv1g := fv1g.ex e3
  replace fv1b := fv1b.ex e3
  replace fv2 := fv2.ex e3
  have bv3g := fv3g.bd
  have bv3b := fv3b.bd
  refine sra rfl ?_
  refine c_rs (by kernel_rfl) ?_
  refine sr 3 rfl ?_
  refine s_op rfl (o_ex loud_n rfl (iMarkStep_c (hx := fv2.at_) (hl := by omega) (hg := fv3g.at_) (hb := fv3b.at_) (hlg := by omega) (hlb := by omega) (hq := wq1) (hn := wf2) ..) ?_)
  rintro v st4 ⟨rv4g, rv4b, rfl, fv4g, fv4b, dv4⟩ e4
  have nv4 := e4.n
  replace hx0 := hx0.ex e4
  replace hx1g := hx1g.ex e4
  replace hx1b := hx1b.ex e4
  replace fv1g := fv1g.ex e4
  replace fv1b := fv1b.ex e4
  replace fv2 := fv2.ex e4
  replace fv3g := fv3g.ex e4
  replace fv3b := fv3b.ex e4
  have bv4g := fv4g.bd
  have bv4b := fv4b.bd
  refine sra rfl ?_
  refine c_seq ?_
  refine c_rs (by kernel_rfl) ?_
  refine sr 2 rfl ?_
  refine s_op rfl (o_pure loud_n rfl (eqMarker_t (hx1 := fv4g.at_) (hx2 := fv4b.at_) (hy1 := fv1g.at_) (hy2 := fv1b.at_) (hl1 := by first | omega | simp) (hl2 := by first | omega | simp) ..) ?_)
  refine sra rfl ?_
  refine c_if_f rfl ?_
  refine c_skip ?_
  refine c_seq ?_
  refine cds [0, 1, 2, 3, 4] [.q, .q, .f, .f, .q] (by kernel_rfl) (by kernel_rfl) ?_
  refine sr 2 rfl ?_
  refine s_op rfl (o_ex loud_f rfl (toSlab_c (hx := hx0) (hl := by omega) ..) ?_)
  rintro v st5 ⟨rv5, rfl, fv5⟩ e5
  have n5 := e5.n
  replace hx0 := hx0.ex e5
  replace hx1g := hx1g.ex e5
  replace hx1b := hx1b.ex e5
  replace fv1g := fv1g.ex e5
  replace fv1b := fv1b.ex e5
  replace fv2 := fv2.ex e5
  replace fv3g := fv3g.ex e5
  replace fv3b := fv3b.ex e5
  replace fv4g := fv4g.ex e5
  replace fv4b := fv4b.ex e5
  have bv5 := fv5.bd
  refine s_op rfl (o_pure loud_f rfl (eqSlab_t (hx := fv2.at_) (hy := fv5.at_) (hl := by omega) ..) ?_)
  refine sra rfl ?_
  refine c_if_f rfl ?_
  refine c_skip ?_
  refine c_seq ?_
  refine cds [0, 1, 2, 3, 4] [.q, .q, .f, .f, .q] (by kernel_rfl) (by kernel_rfl) ?_
  refine sr 2 rfl ?_
  refine s_op rfl (o_ex loud_f rfl (toMarker_c (hx1 := hx1g) (hx2 := hx1b) (hl1 := by omega) (hl2 := by omega) ..) ?_)
  rintro v st6 ⟨rv6g, rv6b, rfl, fv6g, fv6b, dv6⟩ e6
  have n6 := e6.n
  replace hx0 := hx0.ex e6
  replace hx1g := hx1g.ex e6
  replace hx1b := hx1b.ex e6
  replace fv1g := fv1g.ex e6
  replace fv1b := fv1b.ex e6
  replace fv2 := fv2.ex e6
  replace fv3g := fv3g.ex e6
  replace fv3b := fv3b.ex e6
  replace fv4g := fv4g.ex e6
  replace fv4b := fv4b.ex e6
  replace fv5 := fv5.ex e6
  have bv6g := fv6g.bd
  have bv6b := fv6b.bd
  refine s_op rfl (o_pure loud_f rfl (eqMarker_t (hx1 := fv3g.at_) (hx2 := fv3b.at_) (hy1 := fv6g.at_) (hy2 := fv6b.at_) (hl1 := by first | omega | simp) (hl2 := by first | omega | simp) ..) ?_)
  refine sra rfl ?_
  refine c_if_f rfl ?_
  refine c_skip ?_
  refine crr (by kernel_rfl) rfl ?_
  refine c_rs (by kernel_rfl) ?_
  refine sr 2 rfl ?_
  refine s_op rfl (o_call rfl (markSlab_c (hf := fv2) (hl := by omega) (h0 := by omega) (h1 := by omega) ..) (fun i hi h => absurd hi (by have := bv2 i h; omega)) (.inl rfl) ?_)
  rintro v st7 ⟨rfl, gv2, _⟩ e7
  have n7 := e7.n
  replace hx0 := hx0.off e7 hr0 bv2 (by omega)
  replace hx1g := hx1g.off e7 hr1g bv2 (by omega)
  replace hx1b := hx1b.off e7 hr1b bv2 (by omega)
  replace fv1g := fv1g.off e7 bv1g bv2 (by omega)
  replace fv1b := fv1b.off e7 bv1b bv2 (by omega)
  replace fv3g := fv3g.off e7 bv3g bv2 (by omega)
  replace fv3b := fv3b.off e7 bv3b bv2 (by omega)
  replace fv4g := fv4g.off e7 bv4g bv2 (by omega)
  replace fv4b := fv4b.off e7 bv4b bv2 (by omega)
  replace fv5 := fv5.off e7 bv5 bv2 (by omega)
  replace fv6g := fv6g.off e7 bv6g bv2 (by omega)
  replace fv6b := fv6b.off e7 bv6b bv2 (by omega)
  replace fv2 := gv2
  refine sra rfl ?_
  refine c_rs (by kernel_rfl) ?_
  refine sr 2 rfl ?_
  refine s_op rfl (o_call rfl (markMarker_c (hf1 := fv3g) (hf2 := fv3b) (hd := dv3) (hl1 := by first | omega | simp) (hl2 := by first | omega | simp) (h0 := by omega) (h1 := by omega) ..) (fun i hi h => absurd hi (by rcases h with h | h <;> first | (have := bv3g i h; omega) | (have := bv3b i h; omega))) (.inl rfl) ?_)
  rintro v st8 ⟨rfl, gv3g, gv3b⟩ e8
  have n8 := e8.n
  replace hx0 := hx0.off2 e8 hr0 bv3g bv3b (by omega)
  replace hx1g := hx1g.off2 e8 hr1g bv3g bv3b (by omega)
  replace hx1b := hx1b.off2 e8 hr1b bv3g bv3b (by omega)
  replace fv1g := fv1g.off2 e8 bv1g bv3g bv3b (by omega)
  replace fv1b := fv1b.off2 e8 bv1b bv3g bv3b (by omega)
  replace fv2 := fv2.off2 e8 bv2 bv3g bv3b (by omega)
  replace fv4g := fv4g.off2 e8 bv4g bv3g bv3b (by omega)
  replace fv4b := fv4b.off2 e8 bv4b bv3g bv3b (by omega)
  replace fv5 := fv5.off2 e8 bv5 bv3g bv3b (by omega)
  replace fv6g := fv6g.off2 e8 bv6g bv3g bv3b (by omega)
  replace fv6b := fv6b.off2 e8 bv6b bv3g bv3b (by omega)
  replace fv3g := gv3g
  replace fv3b := gv3b
  refine sra rfl ?_
  refine c_seq ?_
  refine c_rs (by kernel_rfl) ?_
  refine sr 1 rfl ?_
  refine s_op rfl (oeq rfl (.v (.bool false)) (bF (by omega)) ?_)
  refine sr 3 rfl ?_
  refine s_op rfl (o_pure loud_n rfl (eqMarker_t (hx1 := fv4g.at_) (hx2 := fv4b.at_) (hy1 := fv1g.at_) (hy2 := fv1b.at_) (hl1 := by first | omega | simp) (hl2 := by first | omega | simp) ..) ?_)
  refine sra rfl ?_
  refine c_if_f rfl ?_
  refine c_skip ?_
  refine crr (by kernel_rfl) rfl ?_
  refine c_rs (by kernel_rfl) ?_
  refine sr 2 rfl ?_
  refine s_op rfl (o_call rfl (markMarker_c (hf1 := fv4g) (hf2 := fv4b) (hd := dv4) (hl1 := by first | omega | simp) (hl2 := by first | omega | simp) (h0 := by omega) (h1 := by omega) ..) (fun i hi h => absurd hi (by rcases h with h | h <;> first | (have := bv4g i h; omega) | (have := bv4b i h; omega))) (.inl rfl) ?_)
  rintro v st9 ⟨rfl, gv4g, gv4b⟩ e9
  have n9 := e9.n
  replace hx0 := hx0.off2 e9 hr0 bv4g bv4b (by omega)
  replace hx1g := hx1g.off2 e9 hr1g bv4g bv4b (by omega)
  replace hx1b := hx1b.off2 e9 hr1b bv4g bv4b (by omega)
  replace fv1g := fv1g.off2 e9 bv1g bv4g bv4b (by omega)
  replace fv1b := fv1b.off2 e9 bv1b bv4g bv4b (by omega)
  replace fv2 := fv2.off2 e9 bv2 bv4g bv4b (by omega)
  replace fv3g := fv3g.off2 e9 bv3g bv4g bv4b (by omega)
  replace fv3b := fv3b.off2 e9 bv3b bv4g bv4b (by omega)
  replace fv5 := fv5.off2 e9 bv5 bv4g bv4b (by omega)
  replace fv6g := fv6g.off2 e9 bv6g bv4g bv4b (by omega)
  replace fv6b := fv6b.off2 e9 bv6b bv4g bv4b (by omega)
  replace fv4g := gv4g
  replace fv4b := gv4b
  refine sra rfl ?_
  refine crr (by kernel_rfl) rfl ?_
  refine c_rs (by kernel_rfl) ?_
  refine sr 2 rfl ?_
  refine s_op rfl (o_pure loud_n rfl (heldMarker_c (hx1 := fv4g.at_) (hx2 := fv4b.at_) (hl1 := by first | omega | simp) (hl2 := by first | omega | simp) (h0 := by omega) (h1 := by omega) ..) ?_)
  refine sra rfl ?_
  refine c_seq ?_
  refine c_rs (by kernel_rfl) ?_
  refine sr 1 rfl ?_
  refine s_op rfl (oeq rfl (.v (.bool false)) (bF (by omega)) ?_)
  refine s_end ?_
  refine c_if_f rfl ?_
  refine c_skip ?_
  refine c_seq ?_
  refine c_rs (by kernel_rfl) ?_
  refine sr 2 rfl ?_
  refine s_op rfl (oeq rfl (.v (.bool false)) (bN rfl) ?_)
  refine s_end ?_
  refine c_if_f rfl ?_
  refine c_skip ?_
  refine c_sj (α := Option Nat × Option Nat) (fun i => [(13, I ((1 + ((msG l0 p1 l1g l1b q1 a2).length : Nat) + ((msB l0 p1 l1g l1b q1 a2).length : Nat)))), (14, I ((1 + ((msG l0 p1 l1g l1b q1 a2).length : Nat) + ((msB l0 p1 l1g l1b q1 a2).length : Nat))))]) (fun i => [(8, 8, [I (msQ l0 p1 l1g l1b q1 a2), .sl rv1g 0 (msG l0 p1 l1g l1b q1 a2).length, .sl rv1b 0 (msB l0 p1 l1g l1b q1 a2).length, I (q1)]), (11, 11, [I (msQ l0 p1 l1g l1b q1 a2), .sl rv4g 0 (msG l0 p1 l1g l1b q1 a2).length, .sl rv4b 0 (msB l0 p1 l1g l1b q1 a2).length, I (q1)]), (15, 15, [I (msQ l0 p1 l1g l1b q1 a2), .sl i.1 0 (msG l0 p1 l1g l1b q1 a2).length, .sl i.2 0 (msB l0 p1 l1g l1b q1 a2).length, I (q1)])])
    (fun i st' => Ex st9 st' ∧ Fr st9.n st' i.1 (msG l0 p1 l1g l1b q1 a2) ∧ Fr st9.n st' i.2 (msB l0 p1 l1g l1b q1 a2) ∧ ∀ k, i.1 = some k → i.2 ≠ some k) ?_ ?_
  · refine c_tr1 [0, 2, 4] [0, 1, 2, 3, 4, 5, 6] 5 (.node [(1, .node [(3, .node [(5, .node [(6, .node [(7, .leaf)])]), (6, .node [(5, .node [(7, .leaf)])])]), (6, .node [(3, .node [(5, .node [(7, .leaf)])])])]), (6, .node [(1, .node [(3, .node [(5, .node [(7, .leaf)])])])])]) (by kernel_rfl) (by kernel_rfl) ?_
    refine sr 3 rfl ?_
    refine s_end ?_
    refine ⟨⟨_, rfl, rfl, ?_⟩, ⟨_, rfl, rfl, ?_⟩, trivial⟩
    ·
      refine o_ex loud_f rfl (toSlab_c (hx := hx0) (hl := by omega) ..) ?_
      rintro v sw1 ⟨rw1, rfl, fw1⟩ ew1
      refine ⟨⟨_, rfl, rfl, ?_⟩, ⟨_, rfl, rfl, ?_⟩, trivial⟩
      ·
        refine o_ex loud_f rfl (toMarker_c (hx1 := (hx1g.ex ew1)) (hx2 := (hx1b.ex ew1)) (hl1 := by omega) (hl2 := by omega) ..) ?_
        rintro v sw2 ⟨rw2g, rw2b, rfl, fw2g, fw2b, dw2⟩ ew2
        refine ⟨⟨_, rfl, rfl, ?_⟩, ⟨_, rfl, rfl, ?_⟩, trivial⟩
        ·
          refine o_ex loud_f rfl (iMarkStep_c (hx := (fw1.ex ew2).at_) (hl := by omega) (hg := (fw2g).at_) (hb := (fw2b).at_) (hlg := by omega) (hlb := by omega) (hq := wq1) (hn := wf2) ..) ?_
          rintro v sw3 ⟨rw3g, rw3b, rfl, fw3g, fw3b, dw3⟩ ew3
          refine ⟨⟨_, rfl, rfl, ?_⟩, trivial⟩
          refine run2_ok rfl ?_
          refine ⟨⟨_, rfl, rfl, ?_⟩, trivial⟩
          refine run2_ok rfl ?_
          exact ⟨(rw3g, rw3b), ⟨rfl, rfl, trivial⟩, ⟨rfl, rfl, rfl, rfl, rfl, rfl, trivial⟩, ((ew1.tr ew2).tr ew3), fw3g.le (ew1.tr ew2).n, fw3b.le (ew1.tr ew2).n, dw3⟩
        ·
          refine run2_ok rfl ?_
          refine ⟨⟨_, rfl, rfl, ?_⟩, trivial⟩
          refine o_ex loud_f rfl (iMarkStep_c (hx := (fw1.ex ew2).at_) (hl := by omega) (hg := (fw2g).at_) (hb := (fw2b).at_) (hlg := by omega) (hlb := by omega) (hq := wq1) (hn := wf2) ..) ?_
          rintro v sw4 ⟨rw4g, rw4b, rfl, fw4g, fw4b, dw4⟩ ew4
          refine ⟨⟨_, rfl, rfl, ?_⟩, trivial⟩
          refine run2_ok rfl ?_
          exact ⟨(rw4g, rw4b), ⟨rfl, rfl, trivial⟩, ⟨rfl, rfl, rfl, rfl, rfl, rfl, trivial⟩, ((ew1.tr ew2).tr ew4), fw4g.le (ew1.tr ew2).n, fw4b.le (ew1.tr ew2).n, dw4⟩
      ·
        refine run2_ok rfl ?_
        refine ⟨⟨_, rfl, rfl, ?_⟩, trivial⟩
        refine o_ex loud_f rfl (toMarker_c (hx1 := (hx1g.ex ew1)) (hx2 := (hx1b.ex ew1)) (hl1 := by omega) (hl2 := by omega) ..) ?_
        rintro v sw5 ⟨rw5g, rw5b, rfl, fw5g, fw5b, dw5⟩ ew5
        refine ⟨⟨_, rfl, rfl, ?_⟩, trivial⟩
        refine o_ex loud_f rfl (iMarkStep_c (hx := (fw1.ex ew5).at_) (hl := by omega) (hg := (fw5g).at_) (hb := (fw5b).at_) (hlg := by omega) (hlb := by omega) (hq := wq1) (hn := wf2) ..) ?_
        rintro v sw6 ⟨rw6g, rw6b, rfl, fw6g, fw6b, dw6⟩ ew6
        refine ⟨⟨_, rfl, rfl, ?_⟩, trivial⟩
        refine run2_ok rfl ?_
        exact ⟨(rw6g, rw6b), ⟨rfl, rfl, trivial⟩, ⟨rfl, rfl, rfl, rfl, rfl, rfl, trivial⟩, ((ew1.tr ew5).tr ew6), fw6g.le (ew1.tr ew5).n, fw6b.le (ew1.tr ew5).n, dw6⟩
    ·
      refine run2_ok rfl ?_
      refine ⟨⟨_, rfl, rfl, ?_⟩, trivial⟩
      refine o_ex loud_f rfl (toSlab_c (hx := hx0) (hl := by omega) ..) ?_
      rintro v sw7 ⟨rw7, rfl, fw7⟩ ew7
      refine ⟨⟨_, rfl, rfl, ?_⟩, trivial⟩
      refine o_ex loud_f rfl (toMarker_c (hx1 := (hx1g.ex ew7)) (hx2 := (hx1b.ex ew7)) (hl1 := by omega) (hl2 := by omega) ..) ?_
      rintro v sw8 ⟨rw8g, rw8b, rfl, fw8g, fw8b, dw8⟩ ew8
      refine ⟨⟨_, rfl, rfl, ?_⟩, trivial⟩
      refine o_ex loud_f rfl (iMarkStep_c (hx := (fw7.ex ew8).at_) (hl := by omega) (hg := (fw8g).at_) (hb := (fw8b).at_) (hlg := by omega) (hlb := by omega) (hq := wq1) (hn := wf2) ..) ?_
      rintro v sw9 ⟨rw9g, rw9b, rfl, fw9g, fw9b, dw9⟩ ew9
      refine ⟨⟨_, rfl, rfl, ?_⟩, trivial⟩
      refine run2_ok rfl ?_
      exact ⟨(rw9g, rw9b), ⟨rfl, rfl, trivial⟩, ⟨rfl, rfl, rfl, rfl, rfl, rfl, trivial⟩, ((ew7.tr ew8).tr ew9), fw9g.le (ew7.tr ew8).n, fw9b.le (ew7.tr ew8).n, dw9⟩
  rintro ⟨rv10g, rv10b⟩ st10 ⟨e10, fv10g, fv10b, dv10⟩
  dsimp only at fv10g fv10b dv10
  have nv10 := e10.n
  replace hx0 := hx0.ex e10
  replace hx1g := hx1g.ex e10
  replace hx1b := hx1b.ex e10
  replace fv1g := fv1g.ex e10
  replace fv1b := fv1b.ex e10
  replace fv2 := fv2.ex e10
  replace fv3g := fv3g.ex e10
  replace fv3b := fv3b.ex e10
  replace fv4g := fv4g.ex e10
  replace fv4b := fv4b.ex e10
  replace fv5 := fv5.ex e10
  replace fv6g := fv6g.ex e10
  replace fv6b := fv6b.ex e10
  have bv10g := fv10g.bd
  have bv10b := fv10b.bd
  refine c_seq ?_
  refine c_rs (by kernel_rfl) ?_
  refine sr 2 rfl ?_
  refine s_op rfl (o_pure loud_n rfl (eqMarker_t (hx1 := fv10g.at_) (hx2 := fv10b.at_) (hy1 := fv1g.at_) (hy2 := fv1b.at_) (hl1 := by first | omega | simp) (hl2 := by first | omega | simp) ..) ?_)
  refine sra rfl ?_
  refine c_if_f rfl ?_
  refine c_skip ?_
  refine crr (by kernel_rfl) rfl ?_
  refine c_rs (by kernel_rfl) ?_
  refine sr 2 rfl ?_
  refine s_op rfl (o_pure loud_n rfl (heldMarker_c (hx1 := fv4g.at_) (hx2 := fv4b.at_) (hl1 := by first | omega | simp) (hl2 := by first | omega | simp) (h0 := by omega) (h1 := by omega) ..) ?_)
  refine sra rfl ?_
  refine c_seq ?_
  refine c_rs (by kernel_rfl) ?_
  refine sr 1 rfl ?_
  refine s_op rfl (oeq rfl (.v (.bool false)) (bF (by omega)) ?_)
  refine s_end ?_
  refine c_if_f rfl ?_
  refine c_skip ?_
  refine c_seq ?_
  refine c_rs (by kernel_rfl) ?_
  refine sr 2 rfl ?_
  refine s_op rfl (oeq rfl (.v (.bool false)) (bN rfl) ?_)
  refine s_end ?_
  refine c_if_f rfl ?_
  refine c_skip ?_
  refine crr (by kernel_rfl) rfl ?_
  exact c_ret (fr rfl rfl)
end Go.Proofs.YtmphklmhhcmbnaaW.Ax
namespace Go.Proofs.Ytmphklmhhcmbnaa.fnExactMarkStep
open Go Go.Proofs.YtmphklmhhcmbnaaW.Ax
open Go.ChangeShapes Go.WideShapes Go.ChangeAt Go.RowKit Go.Joins
open Go.ChangeMaps (open_string shut_string)
set_option linter.unusedVariables false
theorem own : ownKnob Try.prog.godebug = none := by kernel_rfl
theorem laidOut : laidOutB Try.prog = true := by kernel_rfl
set_option maxRecDepth 100000 in
theorem lifted (os : Os) (started : os.Started) (H : Type) (enc : TypeId × Value → H) :
    ReturnsInHanded {} Try.checked os 10 .any (Rows.fnExactMarkStepSpec.pre6 enc Try.prog Try.f10 Rows.fnExactMarkStepRow.domain false) (Rows.fnExactMarkStepSpec.post enc Try.prog Try.f10 false true false false) := by
  refine returnsInHanded_of_change_sized (C := Try.checked) own started (by kernel_rfl) Try.func10
    (ChangeSpec.witness6 (enc := enc) (C := Try.checked) false ⟨#[], #[.agg #[.slice none 0 0], .agg #[.int .i64 0, .slice none 0 0, .slice none 0 0, .int .i64 0], .int .i64 0], []⟩ 8 (by kernel_rfl) (by kernel_rfl) (by kernel_rfl) (by kernel_rfl)) ?_
  intro W base args ds gs before hval0 hW hcnd hsz0 _
  have hval : ∀ (j : Nat) t v, Try.f10.params[j]? = some t → args[j]? = some v → Value.okWide Try.prog W .any base t v := hval0
  have hW' := hW
  obtain ⟨p, q, hA0, hV, rfl, hfz, hnd⟩ := hW
  have hA : DataW.TrodAll enc Try.prog W 0 (fun _ => true) true Try.f10.params.toList args.toList ds p := hA0
  rw [Try.params10] at hA hval
  obtain ⟨v0, vs0, d0, ds0, p0, q0, hargs, rfl, rfl, h0, r0⟩ := trodAll_cons hA
  obtain ⟨v1, vs1, d1, ds1, p1, q1, rfl, rfl, rfl, h1, r1⟩ := trodAll_cons r0
  obtain ⟨v2, vs2, d2, ds2, p2, q2, rfl, rfl, rfl, h2, r2⟩ := trodAll_cons r1
  obtain ⟨rfl, rfl, rfl⟩ := trodAll_nil r2
  obtain rfl : args = #[v0, v1, v2] := by cases args; simp_all
  obtain ⟨rfl, rfl⟩ := trodVars_none hV
  have k0 := h0
  have lt0 : ∀ x ∈ p0, x.block < W.heap.size := by obtain ⟨m, hm⟩ := k0; exact DataW.trod_lt m _ _ _ hm
  obtain ⟨w0_0, y0_0, n0, rfl, rfl, rfl, h0_0⟩ := open_agg1 Try.underlying24 (by kernel_rfl) (by kernel_rfl) (hval 0 24 v0 rfl rfl) h0
  obtain ⟨b0, L0, o0, l0, m0⟩ := came_of_trod Try.underlying22 Try.underlying3 (by kernel_rfl) h0_0
  have k1 := h1
  have lt1 : ∀ x ∈ p1, x.block < W.heap.size := by obtain ⟨m, hm⟩ := k1; exact DataW.trod_lt m _ _ _ hm
  obtain ⟨w1_0, w1_1, w1_2, w1_3, y1_0, y1_1, y1_2, y1_3, n1, rfl, rfl, rfl, h1_0, h1_1, h1_2, h1_3⟩ := Joins.open_agg4 Try.underlying40 (by kernel_rfl) (by kernel_rfl) (hval 1 40 v1 rfl rfl) h1
  obtain ⟨p1, e1_0, _, wfp1⟩ := DataW.trod_int Try.underlying3 h1_0
  injection e1_0 with e1_0 _
  subst e1_0
  obtain ⟨q1, e1_3, _, wfq1⟩ := DataW.trod_int Try.underlying3 h1_3
  injection e1_3 with e1_3 _
  subst e1_3
  obtain ⟨b1g, L1g, o1g, l1g, m1g⟩ := came_of_trod Try.underlying22 Try.underlying3 (by kernel_rfl) h1_1
  obtain ⟨b1b, L1b, o1b, l1b, m1b⟩ := came_of_trod Try.underlying22 Try.underlying3 (by kernel_rfl) h1_2
  obtain ⟨a2, rfl, rfl, rfl, wf2⟩ := open_int Try.underlying3 (hval 2 3 v2 rfl rfl) h2
  clear hA0 hval0 hsz0
  refine (run_law (FnExactMarkStep_c (cond b0 (some 0) none) l0 p1 (cond b1g (some 1) none) l1g (cond b1b (some 2) none) l1b q1 a2 ⟨3, fun i => match i with | 0 => o0 | 1 => o1g | 2 => o1b | _ => .dead⟩ (m0.at_ _ 0 (show (0 : Nat) < 3 by omega) rfl) (cond_lt (show (0 : Nat) < 3 by omega)) m0.w64 m0.len (m1g.at_ _ 1 (show (1 : Nat) < 3 by omega) rfl) (cond_lt (show (1 : Nat) < 3 by omega)) m1g.w64 m1g.len (m1b.at_ _ 2 (show (2 : Nat) < 3 by omega) rfl) (cond_lt (show (2 : Nat) < 3 by omega)) m1b.w64 m1b.len (w1_of wfp1) (w1_of wfq1) (w1_of wf2)) (μ := fun i => match i with | 0 => L0 | 1 => L1g | 2 => L1b | _ => ⟨0, 0, 0⟩) (W := W) ?_ (vrl_cons (vr_agg (vrl_cons (m0.vr _ _ 0 (show (0 : Nat) < 3 by omega) rfl) (vrl_nil _ _))) (vrl_cons (vr_agg (vrl_cons (vr_int _ _ p1) (vrl_cons (m1g.vr _ _ 1 (show (1 : Nat) < 3 by omega) rfl) (vrl_cons (m1b.vr _ _ 2 (show (2 : Nat) < 3 by omega) rfl) (vrl_cons (vr_int _ _ q1) (vrl_nil _ _)))))) (vrl_cons (vr_int _ _ a2) (vrl_nil _ _))))).mono fun e W' ⟨he, bel⟩ => ?_
  · refine rel_rows fun i hi => ?_
    match i, hi with
    | 0, _ => exact ⟨m0.obr _ _, m0.own⟩
    | 1, _ => exact ⟨m1g.obr _ _, m1g.own⟩
    | 2, _ => exact ⟨m1b.obr _ _, m1b.own⟩
    | i + 3, hi => exact absurd hi (by show ¬ (i + 3 < 3); omega)
  subst he
  exact ⟨_, rfl, _, _, _, [], _, [], hW', trodAll_mk1 (shut_bool Try.underlying4 _), (trodAll_cons_mk (Below.trod laidOut (by kernel_rfl) (of_decide_eq_true (by kernel_rfl)) k0 bel lt0) (trodAll_cons_mk (Below.trod laidOut (by kernel_rfl) (of_decide_eq_true (by kernel_rfl)) k1 bel lt1) (trodAll_cons_mk (shut_int Try.underlying3 wf2) trodAll_mk0))), rfl, bel.frame _, fun h => by cases h⟩
theorem over : Rows.fnExactMarkStepRow.holds Try.pinned (OpenSpec.ofChange Rows.fnExactMarkStepSpec) :=
  OpenClaim.holds_of_wide 10 Try.f10 rfl rfl rfl rfl rfl rfl rfl ⟨rfl, rfl, rfl, rfl, rfl⟩ rfl rfl rfl rfl rfl (by kernel_rfl) Try.func10 (by kernel_rfl)
    (of_decide_eq_true (by kernel_rfl)) (by unfold Func.isWrapper; first | (rw [if_pos (by decide +kernel)]; kernel_rfl) | (rw [if_neg (by decide +kernel)]; exact ⟨rfl, rfl⟩))
    (fun os started H enc _ => lifted os started H enc)
theorem proved : Rows.FnExactMarkStepSaid := over
#print axioms proved
end Go.Proofs.Ytmphklmhhcmbnaa.fnExactMarkStep
namespace Go.Proofs.Ytmphklmhhcmbnaa
/-- The row, under a short name, for the claim. -/
theorem fnExactMarkStep_holds : Rows.FnExactMarkStepSaid := fnExactMarkStep.proved
end Go.Proofs.Ytmphklmhhcmbnaa
