/- What the marking laws draw. -/
import Derived.Test.YtfhkjhnaihhdmaaGreatGl
namespace Go.Proofs.YtfhkjhnaihhdmaaGreatW.Ax
open Go Go.RowKit Go.Proofs Go.Proofs.YtfhkjhnaihhdmaaGreat.Pure
set_option linter.unusedVariables false
set_option maxRecDepth 100000

/-- A slab and a marker that can be read. -/
structure MkO (q : Option Nat) (o : Nat) (l : List Int) (rg : Option Nat) (G : List Int) (rb : Option Nat) (B : List Int) (Q : Int) (st : St) : Prop where
  at_ : At st q o l
  len : l.length ≤ 2001
  ag : At st rg 0 G
  ab : At st rb 0 B
  lG : G.length ≤ 9000
  lB : B.length ≤ 9000
  wQ : W1 Q
theorem MkO.ex {q : Option Nat} {o : Nat} {l : List Int} {rg : Option Nat} {G : List Int} {rb : Option Nat} {B : List Int} {Q : Int} {st st' : St} (h : MkO q o l rg G rb B Q st) (he : Ex st st') : MkO q o l rg G rb B Q st' :=
  { h with at_ := h.at_.ex he, ag := h.ag.ex he, ab := h.ab.ex he }
theorem MkD.rd {n1 n2 k : Nat} {q : Option Nat} {o : Nat} {l : List Int} {p : Option Nat} {R : List Int} {rg : Option Nat} {G : List Int} {rb : Option Nat} {B : List Int} {Q : Int} {st : St} (h : MkD n1 n2 k q o l p R rg G rb B Q st) : MkO q o l rg G rb B Q st :=
  ⟨h.at_, h.len, h.fg.at_, h.fb.at_, h.lG, h.lB, h.wQ⟩
def M2P : AV → St → Prop := fun v st' => ∃ q o l P rg G rb B Q, v = .tup [.agg [.sl q o l.length], .agg [I P, .sl rg 0 G.length, .sl rb 0 B.length, I Q]] ∧ MkO q o l rg G rb B Q st'
def M3P (p : Int → Prop) : AV → St → Prop := fun v st' => ∃ q o l P rg G rb B Q x, v = .tup [.agg [.sl q o l.length], .agg [I P, .sl rg 0 G.length, .sl rb 0 B.length, I Q], I x] ∧ MkO q o l rg G rb B Q st' ∧ p x
def M1P : AV → St → Prop := fun v st' => ∃ q o l P rg G rb B Q x, v = .tup [.agg [I P, .sl rg 0 G.length, .sl rb 0 B.length, I Q], I x] ∧ MkO q o l rg G rb B Q st'
section
variable (r : Option Nat) (code : List Int) (st : St) (hx : AtB st r 0 code) (h8 : U8 code) (hl : code.length ≤ 1048576) (hr : ∀ j, r = some j → j < st.n)
include hx h8 hl hr
theorem DrawTriOk_c : ACalls Tryz.prog 24 [.sl r 0 code.length] st No M2P := by
  refine ent (N := 16) Tryz.func24 rfl (by decide) rfl rfl rfl ?_
  refine crr (by kernel_rfl) rfl ?_   -- region 0
  refine c_rs (by kernel_rfl) ?_   -- region 1
  refine sr 1 rfl ?_
  refine s_op rfl (o_ex loud_n rfl (l1New_c st.n r code _ hx h8 hl (Nat.le_refl _) hr) ?_)
  rintro v1 st1 ⟨k, rfl, hk, hc1⟩ e1
  refine s_op rfl (o_call rfl (l8Draw_c st.n k r code _ hc1) (fun i hi e => absurd hi (by omega)) (.inl rfl) ?_)
  rintro v2 st2 ⟨n2, q, o, l, p, R, P, rg, G, rb, B, Q, rfl, M2, hc2⟩ e2
  refine sra rfl ?_
  refine c_sj (α := Unit) (fun _ => []) (fun _ => [(2, 2, [.sl q o l.length]), (3, 3, [I P, .sl rg 0 G.length, .sl rb 0 B.length, I Q])]) (fun _ st'' => st2 = st'') ?_ ?_
  · -- region 2
    refine c_tr1 [0] [0, 1] 3 (.node [(1, .node [(2, .node [(3, .leaf)])]), (2, .node [(1, .node [(3, .leaf)])])]) (by kernel_rfl) (by kernel_rfl) ?_   -- region 2
    refine sr 1 rfl ?_
    refine s_end ?_
    refine ⟨⟨_, rfl, rfl, ?_⟩, ⟨_, rfl, rfl, ?_⟩, trivial⟩
    · refine run2_ok rfl ?_
      refine ⟨⟨_, rfl, rfl, ?_⟩, trivial⟩
      refine run2_ok rfl ?_
      refine ⟨⟨_, rfl, rfl, ?_⟩, trivial⟩
      refine run2_ok rfl ?_
      exact ⟨(), trivial, ⟨rfl, rfl, rfl, rfl, trivial⟩, rfl⟩
    · refine run2_ok rfl ?_
      refine ⟨⟨_, rfl, rfl, ?_⟩, trivial⟩
      refine run2_ok rfl ?_
      refine ⟨⟨_, rfl, rfl, ?_⟩, trivial⟩
      refine run2_ok rfl ?_
      exact ⟨(), trivial, ⟨rfl, rfl, rfl, rfl, trivial⟩, rfl⟩
  rintro _ _ rfl
  exact c_ret (fr rfl ⟨q, o, l, P, rg, G, rb, B, Q, rfl, M2.rd⟩)
theorem DrawMarkStep_c : ACalls Tryz.prog 21 [.sl r 0 code.length] st No (M3P W1) := by
  refine ent (N := 22) Tryz.func21 rfl (by decide) rfl rfl rfl ?_
  refine crr (by kernel_rfl) rfl ?_   -- region 0
  refine c_rs (by kernel_rfl) ?_   -- region 1
  refine sr 1 rfl ?_
  refine s_op rfl (o_ex loud_n rfl (l1New_c st.n r code _ hx h8 hl (Nat.le_refl _) hr) ?_)
  rintro v1 st1 ⟨k, rfl, hk, hc1⟩ e1
  refine sra rfl ?_
  refine c_rs (by kernel_rfl) ?_   -- region 2
  refine sr 1 rfl ?_
  refine s_op rfl (o_call rfl (l8Draw_c st.n k r code _ hc1) (fun i hi e => absurd hi (by omega)) (.inl rfl) ?_)
  rintro v2 st2 ⟨n2, q, o, l, p, R, P, rg, G, rb, B, Q, rfl, M2, hc2⟩ e2
  refine sra rfl ?_
  refine c_sj (α := Int) (fun x => [(4, I x)]) (fun _ => [(2, 2, [.sl q o l.length]), (3, 3, [I P, .sl rg 0 G.length, .sl rb 0 B.length, I Q])]) (fun x st'' => Ext (fun j => j = k) st2 st'' ∧ -1 ≤ x ∧ x ≤ 4) ?_ ?_
  · -- region 3
    refine c_tr1 [2] [0, 1, 2, 4, 7] 7 (.node [(0, .node [(1, .node [(3, .node [(4, .node [(5, .node [(6, .node [(7, .leaf)])])]), (5, .node [(4, .node [(6, .node [(7, .leaf)])]), (6, .node [(4, .node [(7, .leaf)])])])])]), (3, .node [(1, .node [(4, .node [(5, .node [(6, .node [(7, .leaf)])])]), (5, .node [(4, .node [(6, .node [(7, .leaf)])]), (6, .node [(4, .node [(7, .leaf)])])])]), (4, .node [(1, .node [(5, .node [(6, .node [(7, .leaf)])])]), (5, .node [(1, .node [(6, .node [(7, .leaf)])])])]), (5, .node [(1, .node [(4, .node [(6, .node [(7, .leaf)])]), (6, .node [(4, .node [(7, .leaf)])])]), (4, .node [(1, .node [(6, .node [(7, .leaf)])])])])])]), (1, .node [(0, .node [(3, .node [(4, .node [(5, .node [(6, .node [(7, .leaf)])])]), (5, .node [(4, .node [(6, .node [(7, .leaf)])]), (6, .node [(4, .node [(7, .leaf)])])])])]), (3, .node [(0, .node [(4, .node [(5, .node [(6, .node [(7, .leaf)])])]), (5, .node [(4, .node [(6, .node [(7, .leaf)])]), (6, .node [(4, .node [(7, .leaf)])])])]), (4, .node [(0, .node [(5, .node [(6, .node [(7, .leaf)])])])])])]), (3, .node [(0, .node [(1, .node [(4, .node [(5, .node [(6, .node [(7, .leaf)])])]), (5, .node [(4, .node [(6, .node [(7, .leaf)])]), (6, .node [(4, .node [(7, .leaf)])])])]), (4, .node [(1, .node [(5, .node [(6, .node [(7, .leaf)])])]), (5, .node [(1, .node [(6, .node [(7, .leaf)])])])]), (5, .node [(1, .node [(4, .node [(6, .node [(7, .leaf)])]), (6, .node [(4, .node [(7, .leaf)])])]), (4, .node [(1, .node [(6, .node [(7, .leaf)])])])])]), (1, .node [(0, .node [(4, .node [(5, .node [(6, .node [(7, .leaf)])])]), (5, .node [(4, .node [(6, .node [(7, .leaf)])]), (6, .node [(4, .node [(7, .leaf)])])])]), (4, .node [(0, .node [(5, .node [(6, .node [(7, .leaf)])])])])]), (4, .node [(0, .node [(1, .node [(5, .node [(6, .node [(7, .leaf)])])]), (5, .node [(1, .node [(6, .node [(7, .leaf)])])])]), (1, .node [(0, .node [(5, .node [(6, .node [(7, .leaf)])])])])])])]) (by kernel_rfl) (by kernel_rfl) ?_   -- region 3
    refine sr 1 rfl ?_
    refine s_end ?_
    refine ⟨⟨_, rfl, rfl, ?_⟩, ⟨_, rfl, rfl, ?_⟩, ⟨_, rfl, rfl, ?_⟩, trivial⟩
    · refine run2_ok rfl ?_
      refine ⟨⟨_, rfl, rfl, ?_⟩, ⟨_, rfl, rfl, ?_⟩, trivial⟩
      · refine run2_ok rfl ?_
        refine ⟨⟨_, rfl, rfl, ?_⟩, trivial⟩
        refine o_call rfl (l1Below_c st.n k r code 6 _ hc2 (by decide)) (fun i hi e => absurd hi (by omega)) (.inl rfl) ?_
        rintro v3 st3 ⟨x, rfl, hx, hc3⟩ e3
        have hx := hx.1 (by decide)
        refine ⟨⟨_, rfl, rfl, ?_⟩, ⟨_, rfl, rfl, ?_⟩, trivial⟩
        · refine o_ar rfl rfl rfl (by omega) (by omega) ?_
          refine ⟨⟨_, rfl, rfl, ?_⟩, trivial⟩
          refine run2_ok rfl ?_
          refine ⟨⟨_, rfl, rfl, ?_⟩, trivial⟩
          refine run2_ok rfl ?_
          refine ⟨⟨_, rfl, rfl, ?_⟩, trivial⟩
          refine run2_ok rfl ?_
          exact ⟨x - 1, ⟨rfl, trivial⟩, ⟨rfl, rfl, rfl, rfl, trivial⟩, e3, by omega⟩
        · refine run2_ok rfl ?_
          refine ⟨⟨_, rfl, rfl, ?_⟩, ⟨_, rfl, rfl, ?_⟩, trivial⟩
          · refine o_ar rfl rfl rfl (by omega) (by omega) ?_
            refine ⟨⟨_, rfl, rfl, ?_⟩, trivial⟩
            refine run2_ok rfl ?_
            refine ⟨⟨_, rfl, rfl, ?_⟩, trivial⟩
            refine run2_ok rfl ?_
            exact ⟨x - 1, ⟨rfl, trivial⟩, ⟨rfl, rfl, rfl, rfl, trivial⟩, e3, by omega⟩
          · refine run2_ok rfl ?_
            refine ⟨⟨_, rfl, rfl, ?_⟩, trivial⟩
            refine o_ar rfl rfl rfl (by omega) (by omega) ?_
            refine ⟨⟨_, rfl, rfl, ?_⟩, trivial⟩
            refine run2_ok rfl ?_
            exact ⟨x - 1, ⟨rfl, trivial⟩, ⟨rfl, rfl, rfl, rfl, trivial⟩, e3, by omega⟩
      · refine o_call rfl (l1Below_c st.n k r code 6 _ hc2 (by decide)) (fun i hi e => absurd hi (by omega)) (.inl rfl) ?_
        rintro v3 st3 ⟨x, rfl, hx, hc3⟩ e3
        have hx := hx.1 (by decide)
        refine ⟨⟨_, rfl, rfl, ?_⟩, ⟨_, rfl, rfl, ?_⟩, ⟨_, rfl, rfl, ?_⟩, trivial⟩
        · refine run2_ok rfl ?_
          refine ⟨⟨_, rfl, rfl, ?_⟩, ⟨_, rfl, rfl, ?_⟩, trivial⟩
          · refine o_ar rfl rfl rfl (by omega) (by omega) ?_
            refine ⟨⟨_, rfl, rfl, ?_⟩, trivial⟩
            refine run2_ok rfl ?_
            refine ⟨⟨_, rfl, rfl, ?_⟩, trivial⟩
            refine run2_ok rfl ?_
            refine ⟨⟨_, rfl, rfl, ?_⟩, trivial⟩
            refine run2_ok rfl ?_
            exact ⟨x - 1, ⟨rfl, trivial⟩, ⟨rfl, rfl, rfl, rfl, trivial⟩, e3, by omega⟩
          · refine run2_ok rfl ?_
            refine ⟨⟨_, rfl, rfl, ?_⟩, ⟨_, rfl, rfl, ?_⟩, trivial⟩
            · refine o_ar rfl rfl rfl (by omega) (by omega) ?_
              refine ⟨⟨_, rfl, rfl, ?_⟩, trivial⟩
              refine run2_ok rfl ?_
              refine ⟨⟨_, rfl, rfl, ?_⟩, trivial⟩
              refine run2_ok rfl ?_
              exact ⟨x - 1, ⟨rfl, trivial⟩, ⟨rfl, rfl, rfl, rfl, trivial⟩, e3, by omega⟩
            · refine run2_ok rfl ?_
              refine ⟨⟨_, rfl, rfl, ?_⟩, trivial⟩
              refine o_ar rfl rfl rfl (by omega) (by omega) ?_
              refine ⟨⟨_, rfl, rfl, ?_⟩, trivial⟩
              refine run2_ok rfl ?_
              exact ⟨x - 1, ⟨rfl, trivial⟩, ⟨rfl, rfl, rfl, rfl, trivial⟩, e3, by omega⟩
        · refine o_ar rfl rfl rfl (by omega) (by omega) ?_
          refine ⟨⟨_, rfl, rfl, ?_⟩, ⟨_, rfl, rfl, ?_⟩, trivial⟩
          · refine run2_ok rfl ?_
            refine ⟨⟨_, rfl, rfl, ?_⟩, trivial⟩
            refine run2_ok rfl ?_
            refine ⟨⟨_, rfl, rfl, ?_⟩, trivial⟩
            refine run2_ok rfl ?_
            refine ⟨⟨_, rfl, rfl, ?_⟩, trivial⟩
            refine run2_ok rfl ?_
            exact ⟨x - 1, ⟨rfl, trivial⟩, ⟨rfl, rfl, rfl, rfl, trivial⟩, e3, by omega⟩
          · refine run2_ok rfl ?_
            refine ⟨⟨_, rfl, rfl, ?_⟩, trivial⟩
            refine run2_ok rfl ?_
            refine ⟨⟨_, rfl, rfl, ?_⟩, trivial⟩
            refine run2_ok rfl ?_
            refine ⟨⟨_, rfl, rfl, ?_⟩, trivial⟩
            refine run2_ok rfl ?_
            exact ⟨x - 1, ⟨rfl, trivial⟩, ⟨rfl, rfl, rfl, rfl, trivial⟩, e3, by omega⟩
        · refine run2_ok rfl ?_
          refine ⟨⟨_, rfl, rfl, ?_⟩, ⟨_, rfl, rfl, ?_⟩, trivial⟩
          · refine run2_ok rfl ?_
            refine ⟨⟨_, rfl, rfl, ?_⟩, ⟨_, rfl, rfl, ?_⟩, trivial⟩
            · refine o_ar rfl rfl rfl (by omega) (by omega) ?_
              refine ⟨⟨_, rfl, rfl, ?_⟩, trivial⟩
              refine run2_ok rfl ?_
              refine ⟨⟨_, rfl, rfl, ?_⟩, trivial⟩
              refine run2_ok rfl ?_
              exact ⟨x - 1, ⟨rfl, trivial⟩, ⟨rfl, rfl, rfl, rfl, trivial⟩, e3, by omega⟩
            · refine run2_ok rfl ?_
              refine ⟨⟨_, rfl, rfl, ?_⟩, trivial⟩
              refine o_ar rfl rfl rfl (by omega) (by omega) ?_
              refine ⟨⟨_, rfl, rfl, ?_⟩, trivial⟩
              refine run2_ok rfl ?_
              exact ⟨x - 1, ⟨rfl, trivial⟩, ⟨rfl, rfl, rfl, rfl, trivial⟩, e3, by omega⟩
          · refine o_ar rfl rfl rfl (by omega) (by omega) ?_
            refine ⟨⟨_, rfl, rfl, ?_⟩, trivial⟩
            refine run2_ok rfl ?_
            refine ⟨⟨_, rfl, rfl, ?_⟩, trivial⟩
            refine run2_ok rfl ?_
            refine ⟨⟨_, rfl, rfl, ?_⟩, trivial⟩
            refine run2_ok rfl ?_
            exact ⟨x - 1, ⟨rfl, trivial⟩, ⟨rfl, rfl, rfl, rfl, trivial⟩, e3, by omega⟩
    · refine run2_ok rfl ?_
      refine ⟨⟨_, rfl, rfl, ?_⟩, ⟨_, rfl, rfl, ?_⟩, trivial⟩
      · refine run2_ok rfl ?_
        refine ⟨⟨_, rfl, rfl, ?_⟩, trivial⟩
        refine o_call rfl (l1Below_c st.n k r code 6 _ hc2 (by decide)) (fun i hi e => absurd hi (by omega)) (.inl rfl) ?_
        rintro v3 st3 ⟨x, rfl, hx, hc3⟩ e3
        have hx := hx.1 (by decide)
        refine ⟨⟨_, rfl, rfl, ?_⟩, ⟨_, rfl, rfl, ?_⟩, trivial⟩
        · refine o_ar rfl rfl rfl (by omega) (by omega) ?_
          refine ⟨⟨_, rfl, rfl, ?_⟩, trivial⟩
          refine run2_ok rfl ?_
          refine ⟨⟨_, rfl, rfl, ?_⟩, trivial⟩
          refine run2_ok rfl ?_
          refine ⟨⟨_, rfl, rfl, ?_⟩, trivial⟩
          refine run2_ok rfl ?_
          exact ⟨x - 1, ⟨rfl, trivial⟩, ⟨rfl, rfl, rfl, rfl, trivial⟩, e3, by omega⟩
        · refine run2_ok rfl ?_
          refine ⟨⟨_, rfl, rfl, ?_⟩, ⟨_, rfl, rfl, ?_⟩, trivial⟩
          · refine o_ar rfl rfl rfl (by omega) (by omega) ?_
            refine ⟨⟨_, rfl, rfl, ?_⟩, trivial⟩
            refine run2_ok rfl ?_
            refine ⟨⟨_, rfl, rfl, ?_⟩, trivial⟩
            refine run2_ok rfl ?_
            exact ⟨x - 1, ⟨rfl, trivial⟩, ⟨rfl, rfl, rfl, rfl, trivial⟩, e3, by omega⟩
          · refine run2_ok rfl ?_
            refine ⟨⟨_, rfl, rfl, ?_⟩, trivial⟩
            refine o_ar rfl rfl rfl (by omega) (by omega) ?_
            refine ⟨⟨_, rfl, rfl, ?_⟩, trivial⟩
            refine run2_ok rfl ?_
            exact ⟨x - 1, ⟨rfl, trivial⟩, ⟨rfl, rfl, rfl, rfl, trivial⟩, e3, by omega⟩
      · refine o_call rfl (l1Below_c st.n k r code 6 _ hc2 (by decide)) (fun i hi e => absurd hi (by omega)) (.inl rfl) ?_
        rintro v3 st3 ⟨x, rfl, hx, hc3⟩ e3
        have hx := hx.1 (by decide)
        refine ⟨⟨_, rfl, rfl, ?_⟩, ⟨_, rfl, rfl, ?_⟩, trivial⟩
        · refine run2_ok rfl ?_
          refine ⟨⟨_, rfl, rfl, ?_⟩, ⟨_, rfl, rfl, ?_⟩, trivial⟩
          · refine o_ar rfl rfl rfl (by omega) (by omega) ?_
            refine ⟨⟨_, rfl, rfl, ?_⟩, trivial⟩
            refine run2_ok rfl ?_
            refine ⟨⟨_, rfl, rfl, ?_⟩, trivial⟩
            refine run2_ok rfl ?_
            refine ⟨⟨_, rfl, rfl, ?_⟩, trivial⟩
            refine run2_ok rfl ?_
            exact ⟨x - 1, ⟨rfl, trivial⟩, ⟨rfl, rfl, rfl, rfl, trivial⟩, e3, by omega⟩
          · refine run2_ok rfl ?_
            refine ⟨⟨_, rfl, rfl, ?_⟩, ⟨_, rfl, rfl, ?_⟩, trivial⟩
            · refine o_ar rfl rfl rfl (by omega) (by omega) ?_
              refine ⟨⟨_, rfl, rfl, ?_⟩, trivial⟩
              refine run2_ok rfl ?_
              refine ⟨⟨_, rfl, rfl, ?_⟩, trivial⟩
              refine run2_ok rfl ?_
              exact ⟨x - 1, ⟨rfl, trivial⟩, ⟨rfl, rfl, rfl, rfl, trivial⟩, e3, by omega⟩
            · refine run2_ok rfl ?_
              refine ⟨⟨_, rfl, rfl, ?_⟩, trivial⟩
              refine o_ar rfl rfl rfl (by omega) (by omega) ?_
              refine ⟨⟨_, rfl, rfl, ?_⟩, trivial⟩
              refine run2_ok rfl ?_
              exact ⟨x - 1, ⟨rfl, trivial⟩, ⟨rfl, rfl, rfl, rfl, trivial⟩, e3, by omega⟩
        · refine o_ar rfl rfl rfl (by omega) (by omega) ?_
          refine ⟨⟨_, rfl, rfl, ?_⟩, trivial⟩
          refine run2_ok rfl ?_
          refine ⟨⟨_, rfl, rfl, ?_⟩, trivial⟩
          refine run2_ok rfl ?_
          refine ⟨⟨_, rfl, rfl, ?_⟩, trivial⟩
          refine run2_ok rfl ?_
          refine ⟨⟨_, rfl, rfl, ?_⟩, trivial⟩
          refine run2_ok rfl ?_
          exact ⟨x - 1, ⟨rfl, trivial⟩, ⟨rfl, rfl, rfl, rfl, trivial⟩, e3, by omega⟩
    · refine o_call rfl (l1Below_c st.n k r code 6 _ hc2 (by decide)) (fun i hi e => absurd hi (by omega)) (.inl rfl) ?_
      rintro v3 st3 ⟨x, rfl, hx, hc3⟩ e3
      have hx := hx.1 (by decide)
      refine ⟨⟨_, rfl, rfl, ?_⟩, ⟨_, rfl, rfl, ?_⟩, ⟨_, rfl, rfl, ?_⟩, trivial⟩
      · refine run2_ok rfl ?_
        refine ⟨⟨_, rfl, rfl, ?_⟩, ⟨_, rfl, rfl, ?_⟩, ⟨_, rfl, rfl, ?_⟩, trivial⟩
        · refine run2_ok rfl ?_
          refine ⟨⟨_, rfl, rfl, ?_⟩, ⟨_, rfl, rfl, ?_⟩, trivial⟩
          · refine o_ar rfl rfl rfl (by omega) (by omega) ?_
            refine ⟨⟨_, rfl, rfl, ?_⟩, trivial⟩
            refine run2_ok rfl ?_
            refine ⟨⟨_, rfl, rfl, ?_⟩, trivial⟩
            refine run2_ok rfl ?_
            refine ⟨⟨_, rfl, rfl, ?_⟩, trivial⟩
            refine run2_ok rfl ?_
            exact ⟨x - 1, ⟨rfl, trivial⟩, ⟨rfl, rfl, rfl, rfl, trivial⟩, e3, by omega⟩
          · refine run2_ok rfl ?_
            refine ⟨⟨_, rfl, rfl, ?_⟩, ⟨_, rfl, rfl, ?_⟩, trivial⟩
            · refine o_ar rfl rfl rfl (by omega) (by omega) ?_
              refine ⟨⟨_, rfl, rfl, ?_⟩, trivial⟩
              refine run2_ok rfl ?_
              refine ⟨⟨_, rfl, rfl, ?_⟩, trivial⟩
              refine run2_ok rfl ?_
              exact ⟨x - 1, ⟨rfl, trivial⟩, ⟨rfl, rfl, rfl, rfl, trivial⟩, e3, by omega⟩
            · refine run2_ok rfl ?_
              refine ⟨⟨_, rfl, rfl, ?_⟩, trivial⟩
              refine o_ar rfl rfl rfl (by omega) (by omega) ?_
              refine ⟨⟨_, rfl, rfl, ?_⟩, trivial⟩
              refine run2_ok rfl ?_
              exact ⟨x - 1, ⟨rfl, trivial⟩, ⟨rfl, rfl, rfl, rfl, trivial⟩, e3, by omega⟩
        · refine o_ar rfl rfl rfl (by omega) (by omega) ?_
          refine ⟨⟨_, rfl, rfl, ?_⟩, ⟨_, rfl, rfl, ?_⟩, trivial⟩
          · refine run2_ok rfl ?_
            refine ⟨⟨_, rfl, rfl, ?_⟩, trivial⟩
            refine run2_ok rfl ?_
            refine ⟨⟨_, rfl, rfl, ?_⟩, trivial⟩
            refine run2_ok rfl ?_
            refine ⟨⟨_, rfl, rfl, ?_⟩, trivial⟩
            refine run2_ok rfl ?_
            exact ⟨x - 1, ⟨rfl, trivial⟩, ⟨rfl, rfl, rfl, rfl, trivial⟩, e3, by omega⟩
          · refine run2_ok rfl ?_
            refine ⟨⟨_, rfl, rfl, ?_⟩, trivial⟩
            refine run2_ok rfl ?_
            refine ⟨⟨_, rfl, rfl, ?_⟩, trivial⟩
            refine run2_ok rfl ?_
            refine ⟨⟨_, rfl, rfl, ?_⟩, trivial⟩
            refine run2_ok rfl ?_
            exact ⟨x - 1, ⟨rfl, trivial⟩, ⟨rfl, rfl, rfl, rfl, trivial⟩, e3, by omega⟩
        · refine run2_ok rfl ?_
          refine ⟨⟨_, rfl, rfl, ?_⟩, ⟨_, rfl, rfl, ?_⟩, trivial⟩
          · refine run2_ok rfl ?_
            refine ⟨⟨_, rfl, rfl, ?_⟩, ⟨_, rfl, rfl, ?_⟩, trivial⟩
            · refine o_ar rfl rfl rfl (by omega) (by omega) ?_
              refine ⟨⟨_, rfl, rfl, ?_⟩, trivial⟩
              refine run2_ok rfl ?_
              refine ⟨⟨_, rfl, rfl, ?_⟩, trivial⟩
              refine run2_ok rfl ?_
              exact ⟨x - 1, ⟨rfl, trivial⟩, ⟨rfl, rfl, rfl, rfl, trivial⟩, e3, by omega⟩
            · refine run2_ok rfl ?_
              refine ⟨⟨_, rfl, rfl, ?_⟩, trivial⟩
              refine o_ar rfl rfl rfl (by omega) (by omega) ?_
              refine ⟨⟨_, rfl, rfl, ?_⟩, trivial⟩
              refine run2_ok rfl ?_
              exact ⟨x - 1, ⟨rfl, trivial⟩, ⟨rfl, rfl, rfl, rfl, trivial⟩, e3, by omega⟩
          · refine o_ar rfl rfl rfl (by omega) (by omega) ?_
            refine ⟨⟨_, rfl, rfl, ?_⟩, trivial⟩
            refine run2_ok rfl ?_
            refine ⟨⟨_, rfl, rfl, ?_⟩, trivial⟩
            refine run2_ok rfl ?_
            refine ⟨⟨_, rfl, rfl, ?_⟩, trivial⟩
            refine run2_ok rfl ?_
            exact ⟨x - 1, ⟨rfl, trivial⟩, ⟨rfl, rfl, rfl, rfl, trivial⟩, e3, by omega⟩
      · refine run2_ok rfl ?_
        refine ⟨⟨_, rfl, rfl, ?_⟩, ⟨_, rfl, rfl, ?_⟩, trivial⟩
        · refine run2_ok rfl ?_
          refine ⟨⟨_, rfl, rfl, ?_⟩, ⟨_, rfl, rfl, ?_⟩, trivial⟩
          · refine o_ar rfl rfl rfl (by omega) (by omega) ?_
            refine ⟨⟨_, rfl, rfl, ?_⟩, trivial⟩
            refine run2_ok rfl ?_
            refine ⟨⟨_, rfl, rfl, ?_⟩, trivial⟩
            refine run2_ok rfl ?_
            refine ⟨⟨_, rfl, rfl, ?_⟩, trivial⟩
            refine run2_ok rfl ?_
            exact ⟨x - 1, ⟨rfl, trivial⟩, ⟨rfl, rfl, rfl, rfl, trivial⟩, e3, by omega⟩
          · refine run2_ok rfl ?_
            refine ⟨⟨_, rfl, rfl, ?_⟩, ⟨_, rfl, rfl, ?_⟩, trivial⟩
            · refine o_ar rfl rfl rfl (by omega) (by omega) ?_
              refine ⟨⟨_, rfl, rfl, ?_⟩, trivial⟩
              refine run2_ok rfl ?_
              refine ⟨⟨_, rfl, rfl, ?_⟩, trivial⟩
              refine run2_ok rfl ?_
              exact ⟨x - 1, ⟨rfl, trivial⟩, ⟨rfl, rfl, rfl, rfl, trivial⟩, e3, by omega⟩
            · refine run2_ok rfl ?_
              refine ⟨⟨_, rfl, rfl, ?_⟩, trivial⟩
              refine o_ar rfl rfl rfl (by omega) (by omega) ?_
              refine ⟨⟨_, rfl, rfl, ?_⟩, trivial⟩
              refine run2_ok rfl ?_
              exact ⟨x - 1, ⟨rfl, trivial⟩, ⟨rfl, rfl, rfl, rfl, trivial⟩, e3, by omega⟩
        · refine o_ar rfl rfl rfl (by omega) (by omega) ?_
          refine ⟨⟨_, rfl, rfl, ?_⟩, trivial⟩
          refine run2_ok rfl ?_
          refine ⟨⟨_, rfl, rfl, ?_⟩, trivial⟩
          refine run2_ok rfl ?_
          refine ⟨⟨_, rfl, rfl, ?_⟩, trivial⟩
          refine run2_ok rfl ?_
          refine ⟨⟨_, rfl, rfl, ?_⟩, trivial⟩
          refine run2_ok rfl ?_
          exact ⟨x - 1, ⟨rfl, trivial⟩, ⟨rfl, rfl, rfl, rfl, trivial⟩, e3, by omega⟩
      · refine o_ar rfl rfl rfl (by omega) (by omega) ?_
        refine ⟨⟨_, rfl, rfl, ?_⟩, ⟨_, rfl, rfl, ?_⟩, trivial⟩
        · refine run2_ok rfl ?_
          refine ⟨⟨_, rfl, rfl, ?_⟩, ⟨_, rfl, rfl, ?_⟩, trivial⟩
          · refine run2_ok rfl ?_
            refine ⟨⟨_, rfl, rfl, ?_⟩, trivial⟩
            refine run2_ok rfl ?_
            refine ⟨⟨_, rfl, rfl, ?_⟩, trivial⟩
            refine run2_ok rfl ?_
            refine ⟨⟨_, rfl, rfl, ?_⟩, trivial⟩
            refine run2_ok rfl ?_
            exact ⟨x - 1, ⟨rfl, trivial⟩, ⟨rfl, rfl, rfl, rfl, trivial⟩, e3, by omega⟩
          · refine run2_ok rfl ?_
            refine ⟨⟨_, rfl, rfl, ?_⟩, trivial⟩
            refine run2_ok rfl ?_
            refine ⟨⟨_, rfl, rfl, ?_⟩, trivial⟩
            refine run2_ok rfl ?_
            refine ⟨⟨_, rfl, rfl, ?_⟩, trivial⟩
            refine run2_ok rfl ?_
            exact ⟨x - 1, ⟨rfl, trivial⟩, ⟨rfl, rfl, rfl, rfl, trivial⟩, e3, by omega⟩
        · refine run2_ok rfl ?_
          refine ⟨⟨_, rfl, rfl, ?_⟩, trivial⟩
          refine run2_ok rfl ?_
          refine ⟨⟨_, rfl, rfl, ?_⟩, trivial⟩
          refine run2_ok rfl ?_
          refine ⟨⟨_, rfl, rfl, ?_⟩, trivial⟩
          refine run2_ok rfl ?_
          refine ⟨⟨_, rfl, rfl, ?_⟩, trivial⟩
          refine run2_ok rfl ?_
          exact ⟨x - 1, ⟨rfl, trivial⟩, ⟨rfl, rfl, rfl, rfl, trivial⟩, e3, by omega⟩
  rintro x st3 ⟨e3, hx3⟩
  exact c_ret (fr rfl ⟨q, o, l, P, rg, G, rb, B, Q, x, rfl, (M2.cur e3).rd, by unfold W1; omega⟩)
theorem DrawFresh_c : ACalls Tryz.prog 14 [.sl r 0 code.length] st No M1P := by
  refine ent (N := 20) Tryz.func14 rfl (by decide) rfl rfl rfl ?_
  refine crr (by kernel_rfl) rfl ?_   -- region 0
  refine c_rs (by kernel_rfl) ?_   -- region 1
  refine sr 1 rfl ?_
  refine s_op rfl (o_ex loud_n rfl (l1New_c st.n r code _ hx h8 hl (Nat.le_refl _) hr) ?_)
  rintro v1 st1 ⟨k, rfl, hk, hc1⟩ e1
  refine sra rfl ?_
  refine c_rs (by kernel_rfl) ?_   -- region 2
  refine sr 1 rfl ?_
  refine s_op rfl (o_call rfl (l8Draw_c st.n k r code _ hc1) (fun i hi e => absurd hi (by omega)) (.inl rfl) ?_)
  rintro v2 st2 ⟨n2, q, o, l, p, R, P, rg, G, rb, B, Q, rfl, M2, hc2⟩ e2
  have hlen := M2.len
  refine sra rfl ?_
  refine cdx [5, 7] [] [0, 1, 2, 3] [false, false, false, true] [4, 5] [.n, .q] (by kernel_rfl) (by kernel_rfl) ?_   -- region 3
  refine yr 3 rfl ?_
  refine y_b rfl rfl (b_call rfl (l2DrawAt_c st.n k r q code o l _ hc2 M2.at_ (fun j hj => by have := M2.bq j hj; have := M2.old; omega) (by omega)) (fun i hi e => absurd hi (by omega)) ?_)
  rintro v3 st3 ⟨x, rfl, hx3, hc3⟩ e3
  refine y_end ?_
  refine sra rfl ?_
  exact c_ret (fr rfl ⟨q, o, l, P, rg, G, rb, B, Q, x, rfl, (M2.cur e3).rd⟩)
theorem DrawShade_c : ACalls Tryz.prog 10 [.sl r 0 code.length] st No (M3P fun _ => True) := by
  refine ent (N := 33) Tryz.func10 rfl (by decide) rfl rfl rfl ?_
  refine crr (by kernel_rfl) rfl ?_   -- region 0
  refine c_rs (by kernel_rfl) ?_   -- region 1
  refine sr 1 rfl ?_
  refine s_op rfl (o_ex loud_n rfl (l1New_c st.n r code _ hx h8 hl (Nat.le_refl _) hr) ?_)
  rintro v1 st1 ⟨k, rfl, hk, hc1⟩ e1
  refine sra rfl ?_
  refine c_rs (by kernel_rfl) ?_   -- region 2
  refine sr 1 rfl ?_
  refine s_op rfl (o_call rfl (l8Draw_c st.n k r code _ hc1) (fun i hi e => absurd hi (by omega)) (.inl rfl) ?_)
  rintro v2 st2 ⟨n2, q, o, l, p, R, P, rg, G, rb, B, Q, rfl, M2, hc2⟩ e2
  have hlen := M2.len
  have hR2 := M2.R2
  refine sra rfl ?_
  refine c_rs (by kernel_rfl) ?_   -- region 3
  refine sr 2 rfl ?_
  refine s_op rfl (o_call rfl (l3DrawValue_c st.n k r code p R _ hc2 M2.aR (fun j hj => by have := M2.bp j hj; have := M2.old; omega) (by omega)) (fun i hi e => absurd hi (by omega)) (.inl rfl) ?_)
  rintro v3 st3 ⟨x, rfl, _, hc3⟩ e3
  have M3 := M2.cur e3
  refine sra rfl ?_
  refine c_sj (α := Int) (fun y => [(9, I y)]) (fun _ => [(2, 2, [.sl none 0 0]), (3, 3, [I 0, .sl none 0 0, .sl none 0 0, I 0]), (6, 6, [.sl q o l.length]), (8, 8, [I P, .sl rg 0 G.length, .sl rb 0 B.length, I Q])]) (fun _ st'' => MkO q o l rg G rb B Q st'') ?_ ?_
  · -- ways that meet
    refine c_rs (by kernel_rfl) ?_   -- region 4
    refine sr 1 rfl ?_
    refine s_op rfl (o_call rfl (l1Once_c st.n k r code 2 _ hc3 (by decide)) (fun i hi e => absurd hi (by omega)) (.inl rfl) ?_)
    rintro v4 st4 ⟨b4, rfl, hc4⟩ e4
    have M4 := M3.cur e4
    refine s_end ?_
    refine c_if rfl (fun h22 => ?_) (fun h22 => ?_)
    · -- then
      refine cdx1 [6] [] [0, 3, 4, 1, 2, 5, 6] [false, false, false, true, false, true, true] [7] [.q] (by kernel_rfl) (by kernel_rfl) ?_   -- region 5
      refine yr 3 rfl ?_
      refine y_b rfl rfl (b_call rfl (l1Below_c st.n k r code 4 _ hc4 (by decide)) (fun i hi e => absurd hi (by omega)) ?_)
      rintro v5 st5 ⟨y, rfl, hy, hc5⟩ e5
      have hy := hy.1 (by decide)
      have M5 := M4.cur e5
      refine y_op rfl rfl rfl (x_ar rfl rfl rfl (by omega) (by omega)) ?_
      refine y_b rfl rfl (b_call rfl (l2DrawAt_c st.n k r q code o l _ hc5 M5.at_ (fun j hj => by have := M5.bq j hj; have := M5.old; omega) (by omega)) (fun i hi e => absurd hi (by omega)) ?_)
      rintro v6 st6 ⟨z, rfl, hz, hc6⟩ e6
      have M6 := M5.cur e6
      refine y_b rfl rfl (b_call rfl (RefOfG_c (4 + y) z _) no_T ?_)
      rintro v7 st7 ⟨rfl, rfl⟩ e7
      refine y_end ?_
      exact sra rfl ⟨rfV (4 + y) z, ⟨rfl, trivial⟩, ⟨rfl, rfl, rfl, rfl, rfl, rfl, rfl, rfl, trivial⟩, M6.rd⟩
    · -- else
      refine c_skip ?_
      exact ⟨x, ⟨rfl, trivial⟩, ⟨rfl, rfl, rfl, rfl, rfl, rfl, rfl, rfl, trivial⟩, M4.rd⟩
  rintro y st4 M4
  refine c_sj (α := Unit) (fun _ => [(4, I y)]) (fun _ => [(2, 2, [.sl q o l.length]), (3, 3, [I P, .sl rg 0 G.length, .sl rb 0 B.length, I Q])]) (fun _ st'' => st4 = st'') ?_ ?_
  · -- region 6
    refine c_tr1 [0] [0, 1, 2, 5] 5 (.node [(1, .node [(2, .node [(3, .node [(4, .node [(5, .leaf)])])]), (3, .node [(2, .node [(4, .node [(5, .leaf)])]), (4, .node [(2, .node [(5, .leaf)])])])]), (2, .node [(1, .node [(3, .node [(4, .node [(5, .leaf)])])]), (3, .node [(1, .node [(4, .node [(5, .leaf)])])])]), (3, .node [(1, .node [(2, .node [(4, .node [(5, .leaf)])]), (4, .node [(2, .node [(5, .leaf)])])]), (2, .node [(1, .node [(4, .node [(5, .leaf)])])])])]) (by kernel_rfl) (by kernel_rfl) ?_   -- region 6
    refine sr 1 rfl ?_
    refine s_end ?_
    refine ⟨⟨_, rfl, rfl, ?_⟩, ⟨_, rfl, rfl, ?_⟩, ⟨_, rfl, rfl, ?_⟩, trivial⟩
    · refine run2_ok rfl ?_
      refine ⟨⟨_, rfl, rfl, ?_⟩, ⟨_, rfl, rfl, ?_⟩, trivial⟩
      · refine run2_ok rfl ?_
        refine ⟨⟨_, rfl, rfl, ?_⟩, trivial⟩
        refine run2_ok rfl ?_
        refine ⟨⟨_, rfl, rfl, ?_⟩, trivial⟩
        refine run2_ok rfl ?_
        refine ⟨⟨_, rfl, rfl, ?_⟩, trivial⟩
        refine run2_ok rfl ?_
        exact ⟨(), ⟨rfl, trivial⟩, ⟨rfl, rfl, rfl, rfl, trivial⟩, rfl⟩
      · refine run2_ok rfl ?_
        refine ⟨⟨_, rfl, rfl, ?_⟩, ⟨_, rfl, rfl, ?_⟩, trivial⟩
        · refine run2_ok rfl ?_
          refine ⟨⟨_, rfl, rfl, ?_⟩, trivial⟩
          refine run2_ok rfl ?_
          refine ⟨⟨_, rfl, rfl, ?_⟩, trivial⟩
          refine run2_ok rfl ?_
          exact ⟨(), ⟨rfl, trivial⟩, ⟨rfl, rfl, rfl, rfl, trivial⟩, rfl⟩
        · refine run2_ok rfl ?_
          refine ⟨⟨_, rfl, rfl, ?_⟩, trivial⟩
          refine run2_ok rfl ?_
          refine ⟨⟨_, rfl, rfl, ?_⟩, trivial⟩
          refine run2_ok rfl ?_
          exact ⟨(), ⟨rfl, trivial⟩, ⟨rfl, rfl, rfl, rfl, trivial⟩, rfl⟩
    · refine run2_ok rfl ?_
      refine ⟨⟨_, rfl, rfl, ?_⟩, ⟨_, rfl, rfl, ?_⟩, trivial⟩
      · refine run2_ok rfl ?_
        refine ⟨⟨_, rfl, rfl, ?_⟩, trivial⟩
        refine run2_ok rfl ?_
        refine ⟨⟨_, rfl, rfl, ?_⟩, trivial⟩
        refine run2_ok rfl ?_
        refine ⟨⟨_, rfl, rfl, ?_⟩, trivial⟩
        refine run2_ok rfl ?_
        exact ⟨(), ⟨rfl, trivial⟩, ⟨rfl, rfl, rfl, rfl, trivial⟩, rfl⟩
      · refine run2_ok rfl ?_
        refine ⟨⟨_, rfl, rfl, ?_⟩, trivial⟩
        refine run2_ok rfl ?_
        refine ⟨⟨_, rfl, rfl, ?_⟩, trivial⟩
        refine run2_ok rfl ?_
        refine ⟨⟨_, rfl, rfl, ?_⟩, trivial⟩
        refine run2_ok rfl ?_
        exact ⟨(), ⟨rfl, trivial⟩, ⟨rfl, rfl, rfl, rfl, trivial⟩, rfl⟩
    · refine run2_ok rfl ?_
      refine ⟨⟨_, rfl, rfl, ?_⟩, ⟨_, rfl, rfl, ?_⟩, trivial⟩
      · refine run2_ok rfl ?_
        refine ⟨⟨_, rfl, rfl, ?_⟩, ⟨_, rfl, rfl, ?_⟩, trivial⟩
        · refine run2_ok rfl ?_
          refine ⟨⟨_, rfl, rfl, ?_⟩, trivial⟩
          refine run2_ok rfl ?_
          refine ⟨⟨_, rfl, rfl, ?_⟩, trivial⟩
          refine run2_ok rfl ?_
          exact ⟨(), ⟨rfl, trivial⟩, ⟨rfl, rfl, rfl, rfl, trivial⟩, rfl⟩
        · refine run2_ok rfl ?_
          refine ⟨⟨_, rfl, rfl, ?_⟩, trivial⟩
          refine run2_ok rfl ?_
          refine ⟨⟨_, rfl, rfl, ?_⟩, trivial⟩
          refine run2_ok rfl ?_
          exact ⟨(), ⟨rfl, trivial⟩, ⟨rfl, rfl, rfl, rfl, trivial⟩, rfl⟩
      · refine run2_ok rfl ?_
        refine ⟨⟨_, rfl, rfl, ?_⟩, trivial⟩
        refine run2_ok rfl ?_
        refine ⟨⟨_, rfl, rfl, ?_⟩, trivial⟩
        refine run2_ok rfl ?_
        refine ⟨⟨_, rfl, rfl, ?_⟩, trivial⟩
        refine run2_ok rfl ?_
        exact ⟨(), ⟨rfl, trivial⟩, ⟨rfl, rfl, rfl, rfl, trivial⟩, rfl⟩
  rintro _ _ rfl
  exact c_ret (fr rfl ⟨q, o, l, P, rg, G, rb, B, Q, y, rfl, M4, trivial⟩)
end
end Go.Proofs.YtfhkjhnaihhdmaaGreatW.Ax
