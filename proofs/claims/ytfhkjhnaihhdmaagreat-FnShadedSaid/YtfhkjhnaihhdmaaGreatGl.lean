/- Markers that are drawn. -/
import Derived.Test.YtfhkjhnaihhdmaaGreatGk
import Derived.Test.YtfhkjhnaihhdmaaGreatZr
namespace Go.Proofs.YtfhkjhnaihhdmaaGreatW.Ax
open Go Go.RowKit Go.Proofs Go.Proofs.YtfhkjhnaihhdmaaGreat.Pure
set_option linter.unusedVariables false
set_option maxRecDepth 100000

theorem Fr.hi {n0 n1 : Nat} {st : St} {r : Option Nat} {l : List Int} (h : Fr n0 st r l) (hi : ∀ i, r = some i → n1 ≤ i) : Fr n1 st r l := by
  rcases h with h | ⟨i, h1, h2, h3⟩
  · exact .inl h
  · exact .inr ⟨i, h1, hi i h1, h3⟩
/-- A slab, some values and a marker that are drawn. -/
structure MkD (n1 n2 k : Nat) (q : Option Nat) (o : Nat) (l : List Int) (p : Option Nat) (R : List Int) (rg : Option Nat) (G : List Int) (rb : Option Nat) (B : List Int) (Q : Int) (st : St) : Prop where
  at_ : At st q o l
  len : l.length ≤ 2001
  bq : ∀ j, q = some j → n1 ≤ j ∧ j < n2
  aR : At st p 0 R
  bp : ∀ j, p = some j → n1 ≤ j ∧ j < n2
  R2 : R.length ≤ 4
  fg : Fr n2 st rg G
  fb : Fr n2 st rb B
  d : ∀ i, rg = some i → rb ≠ some i
  lG : G.length ≤ 9000
  lB : B.length ≤ 9000
  wQ : W1 Q
  n : n2 ≤ st.n
  n12 : n1 ≤ n2
  old : k < n1
section
variable {n0 n1 n2 k : Nat} {r : Option Nat} {code : List Int} {q : Option Nat} {o : Nat} {l : List Int} {p : Option Nat} {R : List Int} {rg : Option Nat} {G : List Int} {rb : Option Nat} {B : List Int} {Q : Int} {st st' : St}
theorem MkD.cur (h : MkD n1 n2 k q o l p R rg G rb B Q st) (he : Ext (fun j => j = k) st st') : MkD n1 n2 k q o l p R rg G rb B Q st' :=
  { h with at_ := h.at_.cu (fun j hj => by have := h.bq j hj; have := h.old; omega) he, aR := h.aR.cu (fun j hj => by have := h.bp j hj; have := h.old; omega) he, fg := h.fg.cu (by have := h.old; have := h.n12; omega) he, fb := h.fb.cu (by have := h.old; have := h.n12; omega) he, n := Nat.le_trans h.n he.n }
theorem MkD.ex (h : MkD n1 n2 k q o l p R rg G rb B Q st) (he : Ex st st') : MkD n1 n2 k q o l p R rg G rb B Q st' :=
  { h with at_ := h.at_.ex he, aR := h.aR.ex he, fg := h.fg.ex he, fb := h.fb.ex he, n := Nat.le_trans h.n he.n }
theorem MkD.mark {rg' rb' : Option Nat} {G' B' : List Int} {Q' : Int} (h : MkD n1 n2 k q o l p R rg G rb B Q st) (he : Ex st st') (hg : Fr st.n st' rg' G') (hb : Fr st.n st' rb' B') (hd : ∀ i, rg' = some i → rb' ≠ some i) (hG : G'.length ≤ 9000) (hB : B'.length ≤ 9000) (hQ : W1 Q') : MkD n1 n2 k q o l p R rg' G' rb' B' Q' st' :=
  { h with at_ := h.at_.ex he, aR := h.aR.ex he, fg := hg.le h.n, fb := hb.le h.n, d := hd, lG := hG, lB := hB, wQ := hQ, n := Nat.le_trans h.n he.n }
theorem MkD.black {rb' : Option Nat} {B' : List Int} (h : MkD n1 n2 k q o l p R rg G rb B Q st) (he : Ext (fun i => rb = some i) st st') (hb : Fr n2 st' rb' B') (hn : ∀ i, rb' = some i → st.n ≤ i) (hB : B'.length ≤ 9000) : MkD n1 n2 k q o l p R rg G rb' B' Q st' :=
  { h with at_ := h.at_.ext he (fun j hj e => by have := h.bq j hj; have := h.fb.bd j e; omega), aR := h.aR.ext he (fun j hj e => by have := h.bp j hj; have := h.fb.bd j e; omega), fg := h.fg.ext he (fun i hi e => h.d i hi e), fb := hb, d := fun i hi e => by have := h.fg.bd i hi; have := hn i e; omega, lB := hB, n := Nat.le_trans h.n he.n }
theorem MkD.gray {rg' : Option Nat} {G' : List Int} (h : MkD n1 n2 k q o l p R rg G rb B Q st) (he : Ext (fun i => rg = some i) st st') (hg : Fr n2 st' rg' G') (hn : ∀ i, rg' = some i → st.n ≤ i) (hG : G'.length ≤ 9000) : MkD n1 n2 k q o l p R rg' G' rb B Q st' :=
  { h with at_ := h.at_.ext he (fun j hj e => by have := h.bq j hj; have := h.fg.bd j e; omega), aR := h.aR.ext he (fun j hj e => by have := h.bp j hj; have := h.fg.bd j e; omega), fb := h.fb.ext he (fun i hi e => h.d i e hi), fg := hg, d := fun i hi e => by have := h.fb.bd i e; have := hn i hi; omega, lG := hG, n := Nat.le_trans h.n he.n }
theorem CuE.row {rb : Option Nat} {n : Nat} (hc : CuE n0 k r code st) (he : Ext (fun i => rb = some i) st st') (hb : ∀ i, rb = some i → n ≤ i) (hk : k < n) : CuE n0 k r code st' :=
  hc.ext he (fun e => by have := hb k e; omega) (fun j e => by have := hb j e; have := hc.bd; omega)
end
def M8P (n0 n1 k : Nat) (r : Option Nat) (code : List Int) : AV → St → Prop := fun v st' => ∃ n2 q o l p R P rg G rb B Q, v = .tup [.agg [.sl q o l.length], .sl p 0 R.length, .agg [I P, .sl rg 0 G.length, .sl rb 0 B.length, I Q]] ∧ MkD n1 n2 k q o l p R rg G rb B Q st' ∧ CuE n0 k r code st'
theorem l8Draw_c (n0 k : Nat) (r : Option Nat) (code : List Int) (st : St) (hc : CuE n0 k r code st) : ACalls Tryz.prog 63 [.ptr (some k) 0] st (fun j => j = k) (M8P n0 st.n k r code) := by
  have hk := hc.bd
  refine ent (N := 72) Tryz.func63 rfl (by decide) rfl rfl rfl ?_
  refine crr (by kernel_rfl) rfl ?_   -- region 0
  refine c_rs (by kernel_rfl) ?_   -- region 1
  refine sr 1 rfl ?_
  refine s_op rfl (o_call rfl (l3Draw_c n0 k r code _ hc) (fun _ _ h => h) (.inl rfl) ?_)
  rintro v1 st1 ⟨q, o, l, p0, R0, rfl, S, hc1⟩ e1
  have hlen := S.len
  have hR0 := S.R2
  have hn1 := e1.n
  refine sra rfl ?_
  refine c_rs (by kernel_rfl) ?_   -- region 2
  refine sr 2 rfl ?_
  refine s_op rfl (o_call rfl (l7DrawSome_c n0 k r code p0 R0 _ hc1 S.fR.at_ (fun j hj => by have := S.fR.bd j hj; omega) (by omega)) (fun _ _ h => h) (.inl rfl) ?_)
  rintro v2 st2 ⟨p, R, rfl, hfR, hlR, hc2⟩ e2
  have hn2 := e2.n
  have S2 := S.cur hk.2 e2
  have hbR := hfR.bd
  refine sra rfl ?_
  refine c_rs (by kernel_rfl) ?_   -- region 3
  refine sr 2 rfl ?_
  refine s_op rfl (o_ex loud_n rfl (Start_c q p o 0 l R _ S2.at_ hfR.at_ (by omega) (by omega)) ?_)
  rintro v3 st3 ⟨g3, b3, rfl, hg3, hb3, hd3⟩ e3
  have hgl := stG_len l R
  have hn3 := e3.n
  refine sra rfl ?_
  have M3 : MkD st.n st2.n k q o l p R g3 (stG l R) b3 [] 0 st3 :=
    ⟨S2.at_.ex e3, hlen, fun j hj => S2.bd j hj, hfR.at_.ex e3, fun j hj => by have := hbR j hj; omega, hlR, hg3, hb3, hd3, by omega, by simp, by unfold W1; omega, by omega, by omega, hk.2⟩
  have hc3 := hc2.ex e3
  clear hc1 hc2 S S2 hg3 hb3 hd3 hfR
  refine c_seq ?_
  refine crr (by kernel_rfl) rfl ?_   -- region 4
  refine c_block ?_
  generalize hgG : stG l R = G3 at M3 hgl
  refine c_lp (α := Nat × (Int × (Option Nat × List Int) × (Option Nat × List Int))) (fun i => [(0, .ptr (some k) 0), (7, .sl p 0 R.length), (9, I i.1)]) (fun i => [(2, 2, [.sl none 0 0]), (4, 4, [I 0, .sl none 0 0, .sl none 0 0, I 0]), (5, 5, [.sl q o l.length]), (8, 8, [I i.2.1, .sl i.2.2.1.1 0 i.2.2.1.2.length, .sl i.2.2.2.1 0 i.2.2.2.2.length, I 0])])
    (fun i st' => CuE n0 k r code st' ∧ MkD st.n st2.n k q o l p R i.2.2.1.1 i.2.2.1.2 i.2.2.2.1 i.2.2.2.2 0 st' ∧ i.1 ≤ 3 ∧ i.2.2.1.2.length ≤ 2000 + 2000 * i.1 ∧ i.2.2.2.2.length ≤ 2000 * i.1) (fun i => 4 - i.1) (0, (stP l R, (g3, G3), (b3, []))) ⟨rfl, rfl, rfl, trivial⟩ ⟨rfl, rfl, rfl, rfl, rfl, rfl, rfl, rfl, trivial⟩ ⟨hc3, M3, Nat.zero_le _, by dsimp only; omega, by simp⟩ ?_
  rintro ⟨i, P, ⟨rg, G⟩, ⟨rb, B⟩⟩ st4 ⟨hc4, M4, hi, hG4, hB4⟩
  dsimp only at *
  clear hc3 M3 e1 e2 e3
  refine c_seq ?_
  refine c_rs (by kernel_rfl) ?_   -- region 5
  refine sr 2 rfl ?_
  refine s_op rfl (o_call rfl (l1Below_c n0 k r code 4 _ hc4 (by decide)) (fun _ _ h => h) (.inl rfl) ?_)
  rintro v5 st5 ⟨x, rfl, hx, hc5⟩ e5
  have hx := hx.1 (by decide)
  have M5 := M4.cur e5
  refine sra rfl ?_
  refine c_if rfl (fun h24 => ?_) (fun h24 => ?_)
  · -- then
    have h24 := of_decide_eq_true h24
    refine c_skip ?_
    refine c_seq ?_
    refine c_block ?_
    refine cdx1 [5, 8] [] [0, 1, 2, 3, 4] [false, false, false, true, true] [5] [.n] (by kernel_rfl) (by kernel_rfl) ?_   -- region 7
    refine yr 3 rfl ?_
    refine y_b rfl rfl (b_call rfl (l1Below_c n0 k r code 4 _ hc5 (by decide)) (fun _ _ h => h) ?_)
    rintro v6 st6 ⟨y, rfl, hy, hc6⟩ e6
    have hy := hy.1 (by decide)
    have M6 := M5.cur e6
    have hml := ms_len l P G B 0 y
    refine y_b rfl rfl (b_call rfl (MarkStep_c P 0 y q rg rb o l G B _ M6.at_ (by omega) M6.fg.at_ M6.fb.at_ (by omega) (by omega) (by unfold W1; omega)) no_T ?_)
    rintro v7 st7 ⟨g7, b7, rfl, hg7, hb7, hd7⟩ e7
    have M7 := M6.mark (G' := msG l P G B 0 y) (B' := msB l P G B 0 y) (Q' := 0) e7 hg7 hb7 hd7 (by omega) (by omega) (by unfold W1; omega)
    refine y_end ?_
    refine sra rfl ?_
    refine c_region (by kernel_rfl) ?_   -- region 6
    refine sr 1 rfl ?_
    refine s_op rfl (o_ar rfl rfl rfl (by omega) (by omega) ?_)   -- 26 := binOp BinOp.add 3 (tmp 25) (const (Value.int IntKind.i64 1)) 3
    refine sra rfl ?_
    exact ⟨(i + 1, (msQ l P G B 0 y, (g7, msG l P G B 0 y), (b7, msB l P G B 0 y))), ⟨rfl, rfl, rfl, trivial⟩, ⟨rfl, rfl, rfl, rfl, rfl, rfl, rfl, rfl, trivial⟩, ⟨hc6.ex e7, M7, by dsimp only; omega, by dsimp only; omega, by dsimp only; omega⟩, by dsimp only; omega⟩   -- round ends
  · -- else
    refine c_exit ?_
    have hlG : G.length ≤ 8000 := by omega
    have hlB : B.length ≤ 8000 := by omega
    clear hc4 M4 hG4 hB4
    refine c_sj (α := (Int × Int) × (Option Nat × List Int) × (Option Nat × List Int)) (fun j => [(7, .sl p 0 R.length)]) (fun j => [(2, 2, [.sl none 0 0]), (4, 4, [I 0, .sl none 0 0, .sl none 0 0, I 0]), (5, 5, [.sl q o l.length]), (8, 8, [I j.1.1, .sl j.2.1.1 0 j.2.1.2.length, .sl j.2.2.1 0 j.2.2.2.length, I j.1.2])])
      (fun j st' => CuE n0 k r code st' ∧ MkD st.n st2.n k q o l p R j.2.1.1 j.2.1.2 j.2.2.1 j.2.2.2 j.1.2 st') ?_ ?_
    · -- ways that meet
      refine c_rs (by kernel_rfl) ?_   -- region 8
      refine sr 1 rfl ?_
      refine s_op rfl (o_call rfl (l1Below_c n0 k r code 15 _ hc5 (by decide)) (fun _ _ h => h) (.inl rfl) ?_)
      rintro v6 st6 ⟨y, rfl, _, hc6⟩ e6
      have M6 := M5.cur e6
      clear hc5 M5
      refine s_end ?_
      refine c_block ?_
      refine crr (by kernel_rfl) rfl ?_   -- region 9
      refine c_if rfl (fun h34 => ?_) (fun h34 => ?_)
      · -- then
        refine c_region (by kernel_rfl) ?_   -- region 10
        refine sr 1 rfl ?_
        refine s_op rfl (o_call rfl (l1Below_c n0 k r code 5 _ hc6 (by decide)) (fun _ _ h => h) (.inl rfl) ?_)
        rintro v7 st7 ⟨z, rfl, hz, hc7⟩ e7
        have hz := hz.1 (by decide)
        refine s_op rfl (o_ar rfl rfl rfl (by omega) (by omega) ?_)   -- 38 := binOp BinOp.sub 3 (tmp 37) (const (Value.int IntKind.i64 1)) 3
        exact sra rfl ⟨((z - 1, 0), (rg, G), (rb, B)), ⟨rfl, trivial⟩, ⟨rfl, rfl, rfl, rfl, rfl, rfl, rfl, rfl, trivial⟩, hc7, M6.cur e7⟩
      · -- else
        refine crr (by kernel_rfl) rfl ?_   -- region 11
        refine c_if rfl (fun h40 => ?_) (fun h40 => ?_)
        · -- then
          refine c_region (by kernel_rfl) ?_   -- region 12
          refine sr 1 rfl ?_
          refine s_op rfl (oints [-1, 0, 2, 9999] loud_n rfl (by decide) rfl rfl rfl fun q7 st7 hq7 e7 => ?_)
          have M7 := M6.ex e7
          refine s_op rfl (o_call rfl (l1PickInt_c n0 k r (some q7) code 0 _ _ (hc6.ex e7) hq7.at_ (fun j hj => by have := hq7.bd j hj; have := hc6.bd; omega) (by decide) (by decide)) (fun _ _ h => h) (.inl rfl) ?_)
          rintro v8 st8 ⟨z, rfl, hz, hc8⟩ e8
          have M8 := M7.cur e8
          have hz : W1 z := by
            simp only [List.mem_cons, List.not_mem_nil, or_false] at hz
            unfold W1; omega
          exact sra rfl ⟨((P, z), (rg, G), (rb, B)), ⟨rfl, trivial⟩, ⟨rfl, rfl, rfl, rfl, rfl, rfl, rfl, rfl, trivial⟩, hc8, { M8 with wQ := hz }⟩
        · -- else
          refine crr (by kernel_rfl) rfl ?_   -- region 13
          refine c_if rfl (fun h46 => ?_) (fun h46 => ?_)
          · -- then
            refine cdx1 [5, 8] [] [0, 1, 2, 3, 4, 5] [false, false, false, false, true, true] [6, 7, 8] [.n, .q, .n] (by kernel_rfl) (by kernel_rfl) ?_   -- region 14
            refine yr 4 rfl ?_
            refine y_b rfl rfl (b_call rfl (l2DrawAt_c n0 k r q code o l _ hc6 M6.at_ (fun j hj => by have := M6.bq j hj; have := M6.old; omega) (by omega)) (fun _ _ h => h) ?_)
            rintro v7 st7 ⟨z, rfl, hz, hc7⟩ e7
            have M7 := M6.cur e7
            refine y_b rfl rfl (bints [z] rfl (by decide) rfl rfl rfl fun q8 st8 hq8 e8 => ?_)
            have M8 := M7.ex e8
            refine y_end ?_
            refine s_op rfl (oappG (by have := M8.n; omega) rfl rfl rfl (M8.fb.le (by omega)) rfl hq8.at_ (by simp; omega) fun r2 st9 hf9 hn9 he9 => ?_)
            have hf9' : Fr st2.n st9 r2 (B ++ [z]) := hf9.hi fun i hi => by have := hn9 i hi; have := M8.n; omega
            exact sra rfl ⟨((P, 0), (rg, G), (r2, B ++ [z])), ⟨rfl, trivial⟩, ⟨rfl, rfl, rfl, rfl, rfl, rfl, rfl, rfl, trivial⟩, (hc7.ex e8).row (n := st2.n) he9 (fun i hi => (M8.fb.bd i hi).1) (by omega), M8.black he9 hf9' hn9 (by simp; omega)⟩
          · -- else
            refine crr (by kernel_rfl) rfl ?_   -- region 15
            refine c_if rfl (fun h56 => ?_) (fun h56 => ?_)
            · -- then
              refine cdx1 [5, 8] [] [0, 1, 2, 3, 4, 5] [false, false, false, false, true, true] [6, 7, 8] [.n, .q, .n] (by kernel_rfl) (by kernel_rfl) ?_   -- region 16
              refine yr 4 rfl ?_
              refine y_b rfl rfl (b_call rfl (l2DrawAt_c n0 k r q code o l _ hc6 M6.at_ (fun j hj => by have := M6.bq j hj; have := M6.old; omega) (by omega)) (fun _ _ h => h) ?_)
              rintro v7 st7 ⟨z, rfl, hz, hc7⟩ e7
              have M7 := M6.cur e7
              refine y_b rfl rfl (bints [z] rfl (by decide) rfl rfl rfl fun q8 st8 hq8 e8 => ?_)
              have M8 := M7.ex e8
              refine y_end ?_
              refine s_op rfl (oappG (by have := M8.n; omega) rfl rfl rfl (M8.fg.le (by omega)) rfl hq8.at_ (by simp; omega) fun r2 st9 hf9 hn9 he9 => ?_)
              have hf9' : Fr st2.n st9 r2 (G ++ [z]) := hf9.hi fun i hi => by have := hn9 i hi; have := M8.n; omega
              exact sra rfl ⟨((P, 0), (r2, G ++ [z]), (rb, B)), ⟨rfl, trivial⟩, ⟨rfl, rfl, rfl, rfl, rfl, rfl, rfl, rfl, trivial⟩, (hc7.ex e8).row (n := st2.n) he9 (fun i hi => (M8.fg.bd i hi).1) (by omega), M8.gray he9 hf9' hn9 (by simp; omega)⟩
            · -- else
              refine crr (by kernel_rfl) rfl ?_   -- region 17
              refine c_if rfl (fun h66 => ?_) (fun h66 => ?_)
              · -- then
                refine c_region (by kernel_rfl) ?_   -- region 18
                exact sra rfl ⟨((0, 0), (none, []), (none, [])), ⟨rfl, trivial⟩, ⟨rfl, rfl, rfl, rfl, rfl, rfl, rfl, rfl, trivial⟩, hc6, { M6 with fg := .inl ⟨rfl, rfl⟩, fb := .inl ⟨rfl, rfl⟩, d := (fun i h => by cases h), lG := (by simp), lB := (by simp) }⟩
              · -- else
                refine c_skip ?_
                exact ⟨((P, 0), (rg, G), (rb, B)), ⟨rfl, trivial⟩, ⟨rfl, rfl, rfl, rfl, rfl, rfl, rfl, rfl, trivial⟩, hc6, M6⟩   -- meet
    rintro ⟨⟨P', Q'⟩, ⟨rg', G'⟩, ⟨rb', B'⟩⟩ st6 ⟨hc6, M6⟩
    dsimp only at *
    refine c_sj (α := Unit) (fun _ => [(3, .sl p 0 R.length)]) (fun _ => [(2, 2, [.sl q o l.length]), (4, 4, [I P', .sl rg' 0 G'.length, .sl rb' 0 B'.length, I Q'])]) (fun _ st'' => st6 = st'') ?_ ?_
    · -- region 19
      refine c_tr1 [0] [0, 1, 2, 4] 5 (.node [(1, .node [(2, .node [(3, .node [(4, .node [(5, .leaf)])])]), (3, .node [(2, .node [(4, .node [(5, .leaf)])]), (4, .node [(2, .node [(5, .leaf)])])])]), (2, .node [(1, .node [(3, .node [(4, .node [(5, .leaf)])])]), (3, .node [(1, .node [(4, .node [(5, .leaf)])])])]), (3, .node [(1, .node [(2, .node [(4, .node [(5, .leaf)])]), (4, .node [(2, .node [(5, .leaf)])])]), (2, .node [(1, .node [(4, .node [(5, .leaf)])])])])]) (by kernel_rfl) (by kernel_rfl) ?_   -- region 19
      refine sr 1 rfl ?_
      refine s_end ?_
      refine ⟨⟨_, rfl, rfl, ?_⟩, ⟨_, rfl, rfl, ?_⟩, ⟨_, rfl, rfl, ?_⟩, trivial⟩
      · refine run2_ok rfl ?_
        refine ⟨⟨_, rfl, rfl, ?_⟩, ⟨_, rfl, rfl, ?_⟩, trivial⟩
        · refine run2_ok rfl ?_
          refine ⟨⟨_, rfl, rfl, ?_⟩, trivial⟩
          refine run2_ok rfl ?_
          refine ⟨⟨_, rfl, rfl, ?_⟩, trivial⟩
          refine run2_ok rfl ?_
          refine ⟨⟨_, rfl, rfl, ?_⟩, trivial⟩
          refine run2_ok rfl ?_
          exact ⟨(), ⟨rfl, trivial⟩, ⟨rfl, rfl, rfl, rfl, trivial⟩, rfl⟩
        · refine run2_ok rfl ?_
          refine ⟨⟨_, rfl, rfl, ?_⟩, ⟨_, rfl, rfl, ?_⟩, trivial⟩
          · refine run2_ok rfl ?_
            refine ⟨⟨_, rfl, rfl, ?_⟩, trivial⟩
            refine run2_ok rfl ?_
            refine ⟨⟨_, rfl, rfl, ?_⟩, trivial⟩
            refine run2_ok rfl ?_
            exact ⟨(), ⟨rfl, trivial⟩, ⟨rfl, rfl, rfl, rfl, trivial⟩, rfl⟩
          · refine run2_ok rfl ?_
            refine ⟨⟨_, rfl, rfl, ?_⟩, trivial⟩
            refine run2_ok rfl ?_
            refine ⟨⟨_, rfl, rfl, ?_⟩, trivial⟩
            refine run2_ok rfl ?_
            exact ⟨(), ⟨rfl, trivial⟩, ⟨rfl, rfl, rfl, rfl, trivial⟩, rfl⟩
      · refine run2_ok rfl ?_
        refine ⟨⟨_, rfl, rfl, ?_⟩, ⟨_, rfl, rfl, ?_⟩, trivial⟩
        · refine run2_ok rfl ?_
          refine ⟨⟨_, rfl, rfl, ?_⟩, trivial⟩
          refine run2_ok rfl ?_
          refine ⟨⟨_, rfl, rfl, ?_⟩, trivial⟩
          refine run2_ok rfl ?_
          refine ⟨⟨_, rfl, rfl, ?_⟩, trivial⟩
          refine run2_ok rfl ?_
          exact ⟨(), ⟨rfl, trivial⟩, ⟨rfl, rfl, rfl, rfl, trivial⟩, rfl⟩
        · refine run2_ok rfl ?_
          refine ⟨⟨_, rfl, rfl, ?_⟩, trivial⟩
          refine run2_ok rfl ?_
          refine ⟨⟨_, rfl, rfl, ?_⟩, trivial⟩
          refine run2_ok rfl ?_
          refine ⟨⟨_, rfl, rfl, ?_⟩, trivial⟩
          refine run2_ok rfl ?_
          exact ⟨(), ⟨rfl, trivial⟩, ⟨rfl, rfl, rfl, rfl, trivial⟩, rfl⟩
      · refine run2_ok rfl ?_
        refine ⟨⟨_, rfl, rfl, ?_⟩, ⟨_, rfl, rfl, ?_⟩, trivial⟩
        · refine run2_ok rfl ?_
          refine ⟨⟨_, rfl, rfl, ?_⟩, ⟨_, rfl, rfl, ?_⟩, trivial⟩
          · refine run2_ok rfl ?_
            refine ⟨⟨_, rfl, rfl, ?_⟩, trivial⟩
            refine run2_ok rfl ?_
            refine ⟨⟨_, rfl, rfl, ?_⟩, trivial⟩
            refine run2_ok rfl ?_
            exact ⟨(), ⟨rfl, trivial⟩, ⟨rfl, rfl, rfl, rfl, trivial⟩, rfl⟩
          · refine run2_ok rfl ?_
            refine ⟨⟨_, rfl, rfl, ?_⟩, trivial⟩
            refine run2_ok rfl ?_
            refine ⟨⟨_, rfl, rfl, ?_⟩, trivial⟩
            refine run2_ok rfl ?_
            exact ⟨(), ⟨rfl, trivial⟩, ⟨rfl, rfl, rfl, rfl, trivial⟩, rfl⟩
        · refine run2_ok rfl ?_
          refine ⟨⟨_, rfl, rfl, ?_⟩, trivial⟩
          refine run2_ok rfl ?_
          refine ⟨⟨_, rfl, rfl, ?_⟩, trivial⟩
          refine run2_ok rfl ?_
          refine ⟨⟨_, rfl, rfl, ?_⟩, trivial⟩
          refine run2_ok rfl ?_
          exact ⟨(), ⟨rfl, trivial⟩, ⟨rfl, rfl, rfl, rfl, trivial⟩, rfl⟩
    rintro _ _ rfl
    exact c_ret (fr rfl ⟨st2.n, q, o, l, p, R, P', rg', G', rb', B', Q', rfl, M6, hc6⟩)
end Go.Proofs.YtfhkjhnaihhdmaaGreatW.Ax
