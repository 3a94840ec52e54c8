/- Rows of texts; the names of an object. -/
import Derived.Test.YtfnfiapacbeemaaGz
import Derived.Test.YtfnfiapacbeemaaQ5
import Derived.Test.YtfnfiapacbeemaaXV
namespace Go.Proofs.YtfnfiapacbeemaaW.Ax
open Go Go.RowKit Go.Proofs Go.Proofs.Ytfnfiapacbeemaa.Pure
set_option linter.unusedVariables false
set_option maxRecDepth 100000

/-- Texts that can be read. -/
def AtT (st : St) (r : Option Nat) (o : Nat) (xs : List ByteArray) : Prop := ∀ j, j < xs.length → cell st r (o + j) = some (.str (xs.getD j ByteArray.empty))
theorem AtT.ext {st : St} {T' : Nat → Prop} {st' : St} {r : Option Nat} {o : Nat} {xs : List ByteArray} (h : AtT st r o xs) (he : Ext T' st st') (hn : ∀ i, r = some i → ¬ T' i) : AtT st' r o xs := fun j hj => cell_ext he (h j hj) hn
theorem AtT.ex {st st' : St} {r : Option Nat} {o : Nat} {xs : List ByteArray} (h : AtT st r o xs) (he : Ex st st') : AtT st' r o xs := h.ext he fun _ _ h => h
theorem AtT.pre {st : St} {r : Option Nat} {o : Nat} {xs ys : List ByteArray} (h : AtT st r o (xs ++ ys)) : AtT st r o xs := fun j hj => by
  have := h j (by simp; omega)
  rw [this]
  simp [List.getD, List.getElem?_append, hj]
/-- A row of texts of the call's own. -/
def Ft (n0 : Nat) (st : St) (r : Option Nat) (xs : List ByteArray) : Prop := (r = none ∧ xs = []) ∨ ∃ i, r = some i ∧ n0 ≤ i ∧ i < st.n ∧ st.ob i = .row true (xs.map AV.str)
section
variable {n0 n1 : Nat} {st st' : St} {r : Option Nat} {xs : List ByteArray}
theorem Ft.at_ (h : Ft n0 st r xs) : AtT st r 0 xs := by
  rcases h with ⟨rfl, rfl⟩ | ⟨i, rfl, h1, h2, h3⟩
  · intro j hj; simp at hj
  · intro j hj
    rw [Nat.zero_add, cell_row h2 h3]
    simp [List.getD, hj]
theorem Ft.bd (h : Ft n0 st r xs) : ∀ i, r = some i → n0 ≤ i ∧ i < st.n := fun i hi => by
  rcases h with ⟨rfl, _⟩ | ⟨j, rfl, h1, h2, _⟩
  · cases hi
  · injection hi with hi; subst hi; exact ⟨h1, h2⟩
theorem Ft.ex (h : Ft n0 st r xs) (he : Ex st st') : Ft n0 st' r xs := by
  rcases h with h | ⟨i, h0, h1, h2, h3⟩
  · exact .inl h
  · exact .inr ⟨i, h0, h1, Nat.lt_of_lt_of_le h2 he.n, (he.ob i h2 id).trans h3⟩
theorem Ft.le (h : Ft n0 st r xs) (hn : n1 ≤ n0) : Ft n1 st r xs := by
  rcases h with h | ⟨i, h0, h1, h2, h3⟩
  · exact .inl h
  · exact .inr ⟨i, h0, Nat.le_trans hn h1, h2, h3⟩
theorem Ft.hi (h : Ft n0 st r xs) (hn : ∀ i, r = some i → n1 ≤ i) : Ft n1 st r xs := by
  rcases h with h | ⟨i, h0, h1, h2, h3⟩
  · exact .inl h
  · exact .inr ⟨i, h0, hn i h0, h2, h3⟩
theorem Ext.ownt {st0 : St} (h : Ex st0 st) (hf : Ft st0.n st r xs) (he : Ext (fun i => r = some i) st st') : Ex st0 st' :=
  h.trans he fun k hk e => by have := hf.bd k e; omega
end
theorem all_str (ys : List ByteArray) : (ys.map AV.str).all oneA = true := by induction ys with | nil => rfl | cons y ys ih => exact ih
section
variable {P : Program} {tb : Tb} [TbOk P tb] {st0 : St} {N : Nat} {a : Aa} {st : St} {m : Md} {R : Aa → St → Prop} {dst : Option Nat} {ty : Nat} {pos : String} {aft : Array Edge} {gd : Option (Nat × Bool)}
theorem o_appS {s x : Operand} {t : Nat} {e b : Nat} {z : Z} {r r' : Option Nat} {o n : Nat} {l ys : List ByteArray} (ht : elem1 tb t = some (e, z, b)) (hb : b ≤ 16) (hsv : av a s = .sl r 0 n) (hn : n = l.length) (hv : Ft st0.n st r l) (hx : av a x = .sl r' o ys.length) (hy : AtT st r' o ys) (hbig : l.length + ys.length ≤ 1099511627776)
    (hle : st0.n ≤ st.n) (hR : ∀ r2 st', Ft st0.n st' r2 (l ++ ys) → (∀ i, r2 = some i → st.n ≤ i) → Ext (fun i => r = some i) st st' → R (a.put dst (.v (.sl r2 0 (l ++ ys).length))) st') : ALeaf P No st0 N ⟨dst, .call ⟨.builtin .append, #[s, x], #[t, t]⟩, ty, pos, aft, gd⟩ .n R a st := by
  subst hn
  refine o_appendN (l := l.map AV.str) (ys := ys.map AV.str) ht hb hsv ?_ ⟨r', o, by rw [hx, List.length_map], fun j hj => ?_⟩ (all_str ys) (by simp; omega) (fun v' st' ho hnew he => ?_)
  · rcases hv with ⟨rfl, rfl⟩ | ⟨i, rfl, h1, h2, h3⟩
    · exact .inl ⟨rfl, rfl⟩
    · exact .inr ⟨i, by rw [List.length_map], h2, fun h => absurd h (by omega), h3⟩
  · rw [List.length_map] at hj
    rw [hy j hj]; simp [List.getD, hj]
  · rw [← List.map_append] at ho
    rcases ho with ⟨rfl, h⟩ | ⟨i, rfl, h1, h2, h3⟩
    · have h : l ++ ys = [] := by simpa using h
      have := hR none st' (.inl ⟨rfl, h⟩) (fun i h => by cases h) ⟨he.n, fun i hi hn => he.ob i hi fun ⟨o, n, e⟩ => hn (by injection e)⟩
      rw [h] at this; exact this
    · have hni : st.n ≤ i := hnew i _ _ rfl
      have := hR (some i) st' (.inr ⟨i, rfl, by omega, h1, h3⟩) (fun j h => by injection h with h; omega) ⟨he.n, fun i hi hn => he.ob i hi fun ⟨o, n, e⟩ => hn (by injection e)⟩
      rw [List.length_map]; exact this
end
abbrev oappS := @o_appS Go.Proofs.Try.prog Tys tysOk
/-- What can be asked for its names. -/
def NmOk (l : List Int) (obj : Int) : Prop := (obj % 8 = 5 ∧ Rts l [obj]) ∧ (cellsR l obj).2 = false
theorem nm_in {l : List Int} {obj : Int} (h : obj % 8 = 5 ∧ Rts l [obj]) : ObjIn l obj := ⟨h.2.1, (leads_rf (h.2.2 obj (by simp))).2.1 h.1⟩
noncomputable def namL (l : List Int) (obj : Int) : List ByteArray := cond (bd (NmOk l obj)) (nmsL l obj) []
theorem nam_t {l : List Int} {obj : Int} (h : NmOk l obj) : namL l obj = nmsL l obj := by unfold namL; rw [bdt.2 h]; rfl
theorem nam_f {l : List Int} {obj : Int} (h : ¬ NmOk l obj) : namL l obj = [] := by unfold namL; rw [bdf.2 h]; rfl
theorem nam_len (l : List Int) (obj : Int) : (namL l obj).length ≤ 2000 := by
  by_cases h : NmOk l obj
  · rw [nam_t h]
    have h1 := cells_lt (nm_in h.1)
    have h2 := (obj_at (nm_in h.1).1 (nm_in h.1).2).2.2.2.2.1
    unfold nmsL; rw [List.length_map]; omega
  · rw [nam_f h]; simp
def NmP (st : St) (xs : List ByteArray) : AV → St → Prop := fun v st' => ∃ r, v = .sl r 0 xs.length ∧ Ft st.n st' r xs
theorem nm_cell {l : List Int} {v : Int} (hp : Heap l) (h : Rf l v 7 3) : (0 ≤ v / 8 ∧ v / 8 + 4 ≤ l.length ∧ l.length ≤ 2000) ∧ 0 ≤ rd l (v / 8 + 1) / 8 ∧ 2 ≤ size l (rd l (v / 8 + 1) / 8).toNat ∧ rd l (v / 8 + 1) / 8 + (size l (rd l (v / 8 + 1) / 8).toNat : Int) ≤ l.length ∧ Txt l (rd l (v / 8 + 1) / 8) (size l (rd l (v / 8 + 1) / 8).toNat) := by
  have h1 := cell_at hp h
  have h2 := text_at hp h1.2.2.2.2.2.1
  exact ⟨⟨h1.2.2.1, h1.2.2.2.1, h1.2.2.2.2.1⟩, h2.2.2.1, h2.2.2.2.2.2.1, h2.2.2.2.1, h2.2.2.2.2.2.2⟩
theorem at_one {st : St} {q : Nat} {t : ByteArray} (h : ∀ j, cell st (some q) j = ([AV.str t])[j]?) : AtT st (some q) 0 [t] := fun j hj => by
  have hj : j = 0 := by simp at hj; exact hj
  subst hj
  rw [h]; rfl
theorem Names_c (r : Option Nat) (o : Nat) (l : List Int) (obj : Int) (st : St) (hx : At st r o l) (hl : l.length ≤ 1048576) : ACalls Try.prog 5 [.agg [.sl r o l.length], I obj] st No (NmP st (namL l obj)) := by
  refine ent (N := 49) Try.func5 rfl (by decide) rfl rfl rfl ?_
  refine crr (by kernel_rfl) rfl ?_   -- region 0
  refine c_rs (by kernel_rfl) ?_   -- region 1
  refine s_op rfl (obsl0 loud_n rfl ?_)
  refine sra rfl ?_
  refine c_seq ?_
  refine c_sj (α := Bool) (fun b => [(1, I obj), (5, .sl none 0 0), (17, .bool b)]) (fun _ => [(2, 2, [.sl r o l.length])]) (fun b st' => Ex st st' ∧ (b = true ↔ ¬ NmOk l obj)) ?_ ?_
  · -- region 2
    refine c_region (by kernel_rfl) ?_
    refine sr 2 rfl ?_
    refine s_op rfl (oints [obj] loud_n rfl (by decide) rfl rfl rfl fun q st1 hq e1 => ?_)
    refine s_op rfl (o_ex loud_n rfl (l5Is_c _ _ _ _ _ _ _ _ (hx.ex e1) hq.at_ hl (by simp) (by simp)) ?_)
    rintro v2 st2 rfl e2
    have hI : Isk l [obj] 5 ↔ (obj % 8 = 5 ∧ Rts l [obj]) := by unfold Isk; simp [rd]
    refine sr 2 rfl ?_
    refine s_bool 13 rfl rfl (fun h13 => ?_) (fun h13 => ?_)
    · -- slot 13 true
      have h13 := nbt h13
      exact sra rfl ⟨true, ⟨rfl, rfl, rfl, trivial⟩, ⟨rfl, rfl, trivial⟩, e1.tr e2, fun _ h => h13 (hI.2 h.1), fun _ => rfl⟩
    · -- slot 13 false
      have h13 := hI.1 (nbf h13)
      refine sr 2 rfl ?_
      refine s_op rfl (o_pure loud_n rfl (l5Round_c _ _ _ obj _ (hx.ex (e1.tr e2)) (nm_in h13)) ?_)
      refine sra rfl ⟨_, ⟨rfl, rfl, rfl, trivial⟩, ⟨rfl, rfl, trivial⟩, e1.tr e2, ?_⟩
      show (cellsR l obj).2 = true ↔ _
      refine ⟨fun h k => (by rw [k.2] at h; cases h), fun h => ?_⟩
      cases hc : (cellsR l obj).2 with
      | true => rfl
      | false => exact absurd ⟨h13, hc⟩ h
  rintro b st1 ⟨e1, hb1⟩
  refine c_if rfl (fun h17 => ?_) (fun h17 => ?_)
  · -- then
    rw [nam_f (hb1.1 h17)]
    refine crr (by kernel_rfl) rfl ?_   -- region 3
    exact c_ret (fr rfl ⟨none, rfl, .inl ⟨rfl, rfl⟩⟩)
  · -- else
    have h17 : NmOk l obj := Classical.byContradiction fun h => by rw [hb1.2 h] at h17; cases h17
    obtain ⟨hp, ho⟩ := nm_in h17.1
    have hb := obj_at hp ho
    rw [nam_t h17]
    have hx1 := hx.ex e1
    refine c_skip ?_
    refine c_seq ?_
    refine cds [0, 1, 2, 3, 4, 5, 6, 7] [.q, .q, .q, .f, .q, .q, .q, .q] (by kernel_rfl) (by kernel_rfl) ?_   -- region 4
    refine sr 3 rfl ?_
    refine s_op rfl (o_pure loud_f rfl (Num_c ..) ?_)
    refine s_op rfl (o_ar rfl rfl rfl (by omega) (by omega) ?_)   -- 23 := binOp BinOp.add 3 (tmp 22) (const (Value.int IntKind.i64 2)) 3
    refine s_op rfl (oidx rfl rfl rfl (by omega) (by omega) ?_)   -- 24 := indexAddr 24 (tmp 20) (tmp 23)
    refine s_op rfl (old rfl rfl (hx1.rd (by omega) (by omega)) ?_)   -- 25 := load 3 (tmp 24)
    refine sra rfl ?_
    refine c_block ?_
    refine c_lp (α := Int × List Int × Nat × Option Nat) (fun i => [(5, .sl i.2.2.2 0 (i.2.1.map fun v => txt l (rd l (v / 8 + 1) / 8)).length), (6, I i.1)]) (fun _ => [(2, 2, [.sl r o l.length])])
      (fun i st' => Way l (cellsR l obj) i.2.2.1 i.1 i.2.1 ∧ Ex st st' ∧ Ft st.n st' i.2.2.2 (i.2.1.map fun v => txt l (rd l (v / 8 + 1) / 8))) (fun i => i.2.2.1) (rd l (obj / 8 + 2), [], l.length + 1, none) ⟨rfl, rfl, trivial⟩ ⟨rfl, rfl, trivial⟩ ⟨way_start hp ho, e1, .inl ⟨rfl, rfl⟩⟩ ?_
    rintro ⟨v, out, d, q⟩ st2 ⟨hw, he, hf⟩
    dsimp only at *
    obtain ⟨hol, d, rfl⟩ := hw.len hb.2.1
    have hx2 := hx.ex he
    refine c_seq ?_
    refine crr (by kernel_rfl) rfl ?_   -- region 5
    refine c_if rfl (fun h27 => ?_) (fun h27 => ?_)
    · -- then
      have hv : v ≠ 0 := ndt h27
      have hvo : v ∉ out := fun hm => by
        have := (hw.on.circle (decide_eq_false hv) hm).1
        have h2 := h17.2
        rw [this] at h2; cases h2
      have hrf := hw.nx.resolve_left hv
      obtain ⟨c1, c2, c3, c4, c5⟩ := nm_cell hp hrf
      refine c_skip ?_
      refine c_seq ?_
      refine c_block ?_
      refine cdx1 [2] [] [0, 1, 2, 3, 4, 5, 6] [false, false, false, false, false, true, false] [7, 8, 9, 10, 11, 12, 13] [.q, .q, .f, .f, .f, .n, .q] (by kernel_rfl) (by kernel_rfl) ?_   -- region 7
      refine yr 5 rfl ?_
      refine y_b rfl rfl (b_call rfl (Num_c v _) no_T ?_)
      rintro vn stn ⟨rfl, rfl⟩ _
      refine y_op rfl rfl rfl (x_ar rfl rfl rfl (by omega) (by omega)) ?_
      refine y_end ?_
      refine s_op rfl (oidx rfl rfl rfl (by omega) (by omega) ?_)   -- 42 := indexAddr 24 (tmp 38) (tmp 41)
      refine s_op rfl (old rfl rfl (hx2.rd (by omega) (by omega)) ?_)   -- 43 := load 3 (tmp 42)
      refine s_op rfl (o_pure loud_f rfl (Num_c ..) ?_)
      refine s_op rfl (o_ex loud_f rfl (l4Bytes_c _ _ l (rd l (v / 8 + 1) / 8) (size l (rd l (v / 8 + 1) / 8).toNat) _ hx2 c2 (by omega) c4 c1.2.2 c5) ?_)
      rintro v3 st3 rfl e3
      refine s_op rfl (oblk [.str (txt l (rd l (v / 8 + 1) / 8))] loud_f rfl (by decide) rfl rfl fun q4 st4 hce e4 => ?_)
      refine s_op rfl (oappS rfl (by decide) rfl rfl ((hf.ex e3).ex e4) rfl (at_one hce) (by simp; omega) (by have := he.n; have := e3.n; have := e4.n; omega) fun r2 st5 hf5 hn5 he5 => ?_)
      refine sra rfl ?_
      have e5 := Ext.ownt ((he.tr e3).tr e4) ((hf.ex e3).ex e4) he5
      have hx5 := hx.ex e5
      rw [show (out.map fun v => txt l (rd l (v / 8 + 1) / 8)) ++ [txt l (rd l (v / 8 + 1) / 8)] = (out ++ [v]).map fun v => txt l (rd l (v / 8 + 1) / 8) by simp] at hf5 ⊢
      refine cd1 [0, 1, 2, 3, 4, 5, 6, 7] [.q, .q, .q, .f, .q, .q, .q, .q] (by kernel_rfl) (by kernel_rfl) ?_   -- region 6
      refine sr 3 rfl ?_
      refine s_op rfl (o_pure loud_f rfl (Num_c ..) ?_)
      refine s_op rfl (o_ar rfl rfl rfl (by omega) (by omega) ?_)   -- 32 := binOp BinOp.add 3 (tmp 31) (const (Value.int IntKind.i64 3)) 3
      refine s_op rfl (oidx rfl rfl rfl (by omega) (by omega) ?_)   -- 33 := indexAddr 24 (tmp 29) (tmp 32)
      refine s_op rfl (old rfl rfl (hx5.rd (by omega) (by omega)) ?_)   -- 34 := load 3 (tmp 33)
      refine sra rfl ?_
      exact ⟨(nxC l v, out ++ [v], d, r2), ⟨rfl, rfl, trivial⟩, ⟨rfl, rfl, trivial⟩, ⟨hw.step hp hv hvo, e5, hf5⟩, by dsimp only; omega⟩   -- round ends
    · -- else
      have hv : v = 0 := ndf h27
      have hC := hw.on.stop_ (decide_eq_true hv)
      refine c_exit ?_
      refine crr (by kernel_rfl) rfl ?_   -- region 8
      refine c_ret (fr rfl ⟨q, ?_, ?_⟩)
      · unfold nmsL; rw [hC]
      · unfold nmsL; rw [hC]; exact hf
theorem iNames_c (r : Option Nat) (o : Nat) (l : List Int) (obj : Int) (st : St) (hx : At st r o l) (hl : l.length ≤ 1048576) : ACalls Try.prog 7 [.agg [.sl r o l.length], I obj] st No (NmP st (namL l obj)) := by
  refine ent (N := 44) Try.func7 rfl (by decide) rfl rfl rfl ?_
  refine crr (by kernel_rfl) rfl ?_   -- region 0
  refine c_seq ?_
  refine c_rs (by kernel_rfl) ?_   -- region 1
  refine sr 2 rfl ?_
  refine s_op rfl (oints [obj] loud_n rfl (by decide) rfl rfl rfl fun q st1 hq e1 => ?_)
  refine s_op rfl (oints [5] loud_n rfl (by decide) rfl rfl rfl fun q1 st2 hq1 e2 => ?_)
  refine s_op rfl (oblk [.sl (some q1) 0 1] loud_n rfl (by decide) rfl rfl fun q3 st3 hq3 e3 => ?_)
  refine s_op rfl (o_ex loud_n rfl (ready1_c _ _ _ _ _ l [5] obj _ (hx.ex (e1.tr (e2.tr e3))) (hq.at_.ex (e2.tr e3)) hl (hq3 0) (hq1.at_.ex e3) (by decide)) ?_)
  rintro v4 st4 rfl e4
  have e14 := (e1.tr (e2.tr e3)).tr e4
  have hx4 := hx.ex e14
  refine sra rfl ?_
  refine c_if rfl (fun h16 => ?_) (fun h16 => ?_)
  · -- then
    have h16 := nbt h16
    rw [nam_f (fun h => h16 ⟨h.1.2, by simp [h.1.1]⟩)]
    refine crr (by kernel_rfl) rfl ?_   -- region 2
    exact c_ret (fr rfl ⟨none, rfl, .inl ⟨rfl, rfl⟩⟩)
  · -- else
    have h16 := nbf h16
    have h16 : obj % 8 = 5 ∧ Rts l [obj] := ⟨by simpa using h16.2, h16.1⟩
    obtain ⟨hp, ho⟩ := nm_in h16
    refine c_skip ?_
    refine c_rs (by kernel_rfl) ?_   -- region 3
    refine sr 2 rfl ?_
    refine s_op rfl (o_ex loud_n rfl (cells_c _ _ _ obj _ hx4 ⟨hp, ho⟩) ?_)
    rintro v5 st5 ⟨q5, rfl, hf5⟩ e5
    have hx5 := hx4.ex e5
    refine sra rfl ?_
    refine c_seq ?_
    refine crr (by kernel_rfl) rfl ?_   -- region 4
    refine c_if rfl (fun h23 => ?_) (fun h23 => ?_)
    · -- then
      have h23 : (cellsR l obj).2 = true := h23
      rw [nam_f (fun h => by rw [h.2] at h23; cases h23)]
      refine crr (by kernel_rfl) rfl ?_   -- region 5
      exact c_ret (fr rfl ⟨none, rfl, .inl ⟨rfl, rfl⟩⟩)
    · -- else
      have h23 : (cellsR l obj).2 = false := h23
      rw [nam_t ⟨h16, h23⟩]
      have hrf := cells_rf hp ho
      have hcl := cells_lt ⟨hp, ho⟩
      have hb := obj_at hp ho
      have hpl : (places l obj).length = (cellsR l obj).1.length := by unfold places; rw [List.length_map]
      refine c_skip ?_
      refine crr (by kernel_rfl) rfl ?_   -- region 6
      refine c_seq ?_
      refine crr (by kernel_rfl) rfl ?_   -- region 7
      refine c_block ?_
      refine c_lp (α := Nat × Option Nat) (fun i => [(7, .sl i.2 0 i.1), (24, .sl q5 0 (places l obj).length), (25, I (places l obj).length), (26, I i.1)]) (fun _ => [(2, 2, [.sl r o l.length])])
        (fun i st' => Ex st5 st' ∧ i.1 ≤ (places l obj).length ∧ Ft st5.n st' i.2 ((nmsL l obj).take i.1)) (fun i => (places l obj).length - i.1) (0, none) ⟨rfl, rfl, rfl, rfl, trivial⟩ ⟨rfl, rfl, trivial⟩ ⟨Ext.refl _ _, Nat.zero_le _, .inl ⟨rfl, rfl⟩⟩ ?_
      rintro ⟨i, q⟩ st6 ⟨he, hi, hf⟩
      dsimp only at *
      have hx6 := hx5.ex he
      have hf6 := hf5.ex he
      have hnl : (nmsL l obj).length = (cellsR l obj).1.length := by unfold nmsL; rw [List.length_map]
      have hn5 : st.n ≤ st5.n := by have := e14.n; have := e5.n; omega
      refine crr (by kernel_rfl) rfl ?_   -- region 8
      refine c_seq ?_
      refine c_if rfl (fun h27 => ?_) (fun h27 => ?_)
      · -- then
        have h27 := of_decide_eq_true h27
        have hic : i < (cellsR l obj).1.length := by omega
        have hvm : (cellsR l obj).1[i] ∈ (cellsR l obj).1 := List.getElem_mem hic
        have hrv := hrf _ hvm
        obtain ⟨c1, c2, c3, c4, c5⟩ := nm_cell hp hrv
        have hpi : rd (places l obj) i = (cellsR l obj).1[i] / 8 := by
          rw [rd_nat]; unfold places; simp [List.getD, hic]
        have hni : (nmsL l obj).take (i + 1) = (nmsL l obj).take i ++ [txt l (rd l ((cellsR l obj).1[i] / 8 + 1) / 8)] := by
          rw [List.take_succ_eq_append_getElem (by omega)]
          unfold nmsL; simp
        generalize (cellsR l obj).1[i] = v at *
        refine c_skip ?_
        refine c_seq ?_
        refine c_block ?_
        refine c_rs (by kernel_rfl) ?_   -- region 9
        refine s_op rfl (oidx rfl rfl rfl (by omega) (by omega) ?_)   -- 28 := indexAddr 24 (tmp 24) (tmp 26)
        refine s_op rfl (old rfl rfl (hf6.at_.rd (by omega) (by omega)) ?_)   -- 29 := load 3 (tmp 28)
        rw [hpi]
        refine sra rfl ?_
        refine cdx1 [2] [] [0, 1, 2, 3, 4, 5] [false, false, false, false, false, false] [6, 7, 8, 9, 10, 11, 12] [.q, .q, .f, .f, .f, .n, .q] (by kernel_rfl) (by kernel_rfl) ?_   -- region 10
        refine yr 5 rfl ?_
        refine y_op rfl rfl rfl (x_ar rfl rfl rfl (by omega) (by omega)) ?_
        refine y_end ?_
        refine s_op rfl (oidx rfl rfl rfl (by omega) (by omega) ?_)   -- 36 := indexAddr 24 (tmp 33) (tmp 35)
        refine s_op rfl (old rfl rfl (hx6.rd (by omega) (by omega)) ?_)   -- 37 := load 3 (tmp 36)
        refine s_op rfl (o_pure loud_f rfl (iNum_c ..) ?_)
        refine s_op rfl (o_ex loud_f rfl (textAt_c _ _ l (rd l (v / 8 + 1) / 8) (size l (rd l (v / 8 + 1) / 8).toNat) _ hx6 c2 (by omega) c4 c1.2.2 c5) ?_)
        rintro v7 st7 rfl e7
        refine s_op rfl (oblk [.str (txt l (rd l (v / 8 + 1) / 8))] loud_f rfl (by decide) rfl rfl fun q8 st8 hce e8 => ?_)
        refine s_op rfl (oappS rfl (by decide) rfl (by rw [List.length_take]; omega) (((hf.ex e7).ex e8).le hn5) rfl (at_one hce) (by simp; omega) (by have := he.n; have := e7.n; have := e8.n; omega) fun r2 st9 hf9 hn9 he9 => ?_)
        have e9 := Ext.ownt ((he.tr e7).tr e8) ((hf.ex e7).ex e8) he9
        rw [← hni] at hf9
        have hf9' : Ft st5.n st9 r2 ((nmsL l obj).take (i + 1)) := hf9.hi fun j hj => by have := hn9 j hj; have := he.n; have := e7.n; have := e8.n; omega
        refine sra rfl ?_
        refine c_region (by kernel_rfl) ?_   -- region 11
        refine s_op rfl (o_ar rfl rfl rfl (by omega) (by omega) ?_)   -- 42 := binOp BinOp.add 3 (tmp 26) (const (Value.int IntKind.i64 1)) 3
        refine sra rfl ?_
        exact ⟨(i + 1, r2), ⟨congrArg (AV.sl r2 0) (by simp; omega), rfl, rfl, rfl, trivial⟩, ⟨rfl, rfl, trivial⟩, ⟨e9, by dsimp only; omega, hf9'⟩, by dsimp only; omega⟩   -- round ends
      · -- else
        have h27 := of_decide_eq_false h27
        have hie : i = (places l obj).length := by omega
        subst hie
        rw [List.take_of_length_le (by omega)] at hf
        refine c_exit ?_
        refine crr (by kernel_rfl) rfl ?_   -- region 12
        refine c_ret (fr rfl ⟨q, by rw [hnl, ← hpl], hf.le hn5⟩)
end Go.Proofs.YtfnfiapacbeemaaW.Ax
