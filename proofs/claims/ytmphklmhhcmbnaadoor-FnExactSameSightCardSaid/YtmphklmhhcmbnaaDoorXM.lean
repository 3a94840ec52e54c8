/- Rows of bytes whose row may bear a mark behind its end: made of a string, appended to, and turned back into a string. -/
import Derived.Test.YtmphklmhhcmbnaaDoorXU
import Derived.Lib.AppendStr
namespace Go.Proofs.YtmphklmhhcmbnaaDoorW.Ax
open Go Go.RowKit
set_option linter.unusedVariables false
set_option linter.unusedSimpArgs false

theorem run_storeCells_atE (P : Program) (g o : Nat) (t : TypeId) (fz : Nat × Nat) : ∀ (vs : List Value) (i : Nat) (cur : Array Value) (w : World), w.heap[g]? = some (.cells cur t fz) → (fz = (0, 0) ∨ cur.size ≤ fz.1) → o + i + vs.length ≤ cur.size → (∀ v ∈ vs, v.oneCell' = true) →
    (storeCells ⟨g, o, none⟩ vs i).run P w = .ok () (w.setRow g (cur.toList.take (o + i) ++ vs ++ cur.toList.drop (o + i + vs.length)).toArray)
  | [], i, cur, w, hg, _, _, _ => by
    simp only [storeCells, List.append_nil, List.length_nil, Nat.add_zero, List.take_append_drop, Array.toArray_toList]
    rw [setRow_self w g cur t fz hg]
    rfl
  | v :: rest, i, cur, w, hg, hfz, hl, h1 => by
    have hi : o + i < cur.size := by simp at hl; omega
    have hadd : (⟨g, o, none⟩ : Addr).add i = ⟨g, o + i, none⟩ := by unfold Addr.add; split <;> simp_all
    have hcell : w.cell? ⟨g, o + i, none⟩ = some cur[o + i] := by simp [World.cell?, hg, hi]
    have hfro : w.frozen? ⟨g, o + i, none⟩ = false := by
      obtain ⟨lo, hi'⟩ := fz
      simp only [World.frozen?, hg, Bool.and_eq_false_iff, decide_eq_false_iff_not]
      rcases hfz with hfz | hfz
      · injection hfz with e1 e2
        right; omega
      · left
        simp only at hfz
        omega
    have hst : (store ((⟨g, o, none⟩ : Addr).add i) v).run P w = .ok () (w.setRow g (cur.setIfInBounds (o + i) v)) := by
      rw [hadd, run_store P w _ v _ (h1 v (by simp)), hcell]
      simp [hfro, setCell_eq_setRow w g (o + i) cur t fz v hg]
    have ih := run_storeCells_atE P g o t fz rest (i + 1) (cur.setIfInBounds (o + i) v) (w.setRow g (cur.setIfInBounds (o + i) v)) (setRow_heap w g cur _ t _ hg) (by simpa using hfz) (by simp at hl ⊢; omega) (fun x hx => h1 x (by simp [hx]))
    simp only [storeCells, Sem.run_bind, hst, Result.andThen_ok, ih, setRow_setRow]
    congr 3
    have e := list_seg_step cur.toList (o + i) v rest (by simp at hl ⊢; omega)
    simpa [Array.toList_setIfInBounds, Nat.add_assoc] using e

section
variable {P : Program}
theorem run_app_roomE {w : World} {t u ty e : Nat} {du : TypeDesc} (ht : P.underlying t = some (.slice e)) (hu : P.underlying u = some du) (hdu : ∀ k, du ≠ .int k) {inf : TypeInfo} (hi : P.info? e = some inf) (h1 : inf.size = 1) {x : Value} {k : Nat} {news : List Value} (hs : Src P w x k news) (hone : ∀ v ∈ news, v.oneCell' = true)
    {g o n c E : Nat} {fz : Nat × Nat} {cur : Array Value} (hg : w.heap[g]? = some (.cells cur E fz)) (hfz : fz = (0, 0) ∨ cur.size ≤ fz.1) (hroom : n + k ≤ c) (hfit : o + n + k ≤ cur.size) :
    (Builtin.append_ #[t, u] ty #[.slice (some ⟨g, o, none⟩) n c, x]).run P w = .ok (.slice (some ⟨g, o, none⟩) (n + k) c) (w.setRow g (cur.toList.take (o + n) ++ news ++ cur.toList.drop (o + n + k)).toArray) := by
  have hz : (Builtin.firstCells 1 k x).run P w = .ok news.toArray w := hs.cells w rfl
  have hnot : (match du with | .int _ => true | _ => false) = false := by cases du <;> first | rfl | exact absurd rfl (hdu _)
  have hst := run_storeCells_atE P g (o + n) E fz news 0 cur w hg hfz (by rw [hs.n]; omega) hone
  rw [hs.n, Nat.add_zero] at hst
  simp [Builtin.append_, underlying, ht, hu, hnot, sizeOf, typeInfo, hi, h1, hs.len, hz, hroom, Addr.add_lit, hst]
end

section
variable {P : Program} {tb : Tb} [TbOk P tb] {st0 : St} {N : Nat} {a : Aa} {st : St} {R : Aa → St → Prop} {m : Md}
variable {dst : Option Nat} {ty : Nat} {pos : String} {aft : Array Edge} {gd : Option (Nat × Bool)}

/-- A row of bytes that is the call's own, made of a string. -/
def Fm (n0 : Nat) (st : St) (r : Nat) (s : ByteArray) : Prop := n0 ≤ r ∧ r < st.n ∧ st.ob r = .mrow s
theorem Fm.ex {n0 : Nat} {st st' : St} {r : Nat} {s : ByteArray} (h : Fm n0 st r s) (he : Ex st st') : Fm n0 st' r s := ⟨h.1, Nat.lt_of_lt_of_le h.2.1 he.n, (he.ob r h.2.1 fun h => h).trans h.2.2⟩
/-- What is made since is turned: what was there before is not. -/
theorem Ext.ownm {st0 st st' : St} {r : Nat} {s : ByteArray} (h : Ex st0 st) (hf : Fm st0.n st r s) (he : Ext (· = r) st st') : Ex st0 st' :=
  h.trans he fun k hk e => by have := hf.1; have e : k = r := e; omega

theorem strC_get (s : ByteArray) (j : Nat) (h : j < s.size) : (Lib.strCells s).getD j undef = .int .u8 (s.data.toList.getD j 0).toNat := by
  have h' : j < s.data.toList.length := by simpa using h
  unfold Lib.strCells
  simp only [List.getD]
  rw [List.getElem?_map, List.getElem?_eq_getElem h']
  rfl

/-- Bytes that the call has made, turned into bytes: the row is marked behind its end. -/
theorem o_cvM {T : Nat → Prop} {s : Nat} {x : Operand} {e r n : Nat} {l : List Int} {b : ByteArray} (hmay : May T st0 r) (ht : elem1 tb s = some (e, .int .u8, 1)) (he : ∃ i, look tb e = some i ∧ i.k = .int .u8) (hx : av a x = .sl (some r) 0 n) (hn0 : 0 < n) (hr : r < st.n) (ho : st.ob r = .row true (l.map B8)) (hl : l = b.data.toList.map fun y => (y.toNat : Int))
    (hR : R (a.put dst (.v (.sl (some r) 0 n))) (st.set r (.mrow b))) : ALeaf P T st0 N ⟨dst, .convert s s x, ty, pos, aft, gd⟩ .n R a st := by
  have hown : (st.ob r).own = true := by rw [ho]; rfl
  refine leaf_val (T' := (· = r)) _ (st.set r (.mrow b)) (fun i hi e => by subst e; exact hmay hi) (.inl rfl) (fun μ0 w0 β μ w ca hi => ?_) hR
  obtain ⟨hu, _⟩ := elem1_ok (P := P) ht
  obtain ⟨i, hi', hik⟩ := he
  have hue := (tyR (P := P) hi').und_of.1 _ hik
  have hxv := av_vr hi x
  rw [hx] at hxv
  have hxv0 := hxv
  simp only [VR] at hxv
  obtain ⟨_, A, c, hcv, hlc, hA⟩ := hxv
  have hobr := hi.rel.obj r hr
  rw [ho] at hobr
  obtain ⟨cs, E, fz, g1, g2, g3, g4, g5⟩ := hobr
  have hfz := g2 rfl
  subst hfz
  have hbl : b.data.toList.length = b.size := by simp
  have hll : (l.map B8).length = b.size := by rw [List.length_map, hl, List.length_map, hbl]
  rw [hll] at g3 g5
  rcases hA with hA | ⟨hA, hz⟩
  · omega
  · have hw1 : (w.freeze ⟨(μ r).b, cs.size, none⟩ 1).heap[(μ r).b]? = some (.cells cs E (cs.size, cs.size + 1)) := by
      have hlt : (μ r).b < w.heap.size := (Array.getElem?_eq_some_iff.1 g1).1
      unfold World.freeze
      rw [if_neg (by decide)]
      simp only [Array.getElem?_modify, if_true, g1, Option.map_some]
      rfl
    have hw2 : ∀ k, k ≠ (μ r).b → (w.freeze ⟨(μ r).b, cs.size, none⟩ 1).heap[k]? = w.heap[k]? := fun k hk => by
      unfold World.freeze
      rw [if_neg (by decide)]
      simp only [Array.getElem?_modify]
      rw [if_neg (Ne.symm hk)]
    obtain ⟨r1, r2⟩ := set_ok hi.rel hr hown (o := .mrow b) (w' := w.freeze ⟨(μ r).b, cs.size, none⟩ 1) (by unfold World.freeze; rw [if_neg (by decide)]; simp) hw2
      (by unfold World.freeze; rw [if_neg (by decide)]) (by unfold World.freeze; rw [if_neg (by decide)]) (by unfold World.freeze; rw [if_neg (by decide)])
      ⟨cs, E, _, hw1, .inr (Nat.le_refl _), g3, g4, fun j hj => by
        have h1 := g5 j hj
        have hj' : j < b.data.toList.length := by omega
        have e2 : (l.map B8).getD j .junk = B8 (b.data.toList.getD j 0).toNat := by
          rw [hl]
          simp only [List.getD, List.getElem?_map, List.getElem?_eq_getElem hj', Option.map_some, Option.getD_some]
        rw [e2] at h1
        exact h1⟩
    refine ⟨ca.eval x, μ, _, ?_, hxv0, r1, r2⟩
    have hsh : w.shape? (μ r).b = some (E, cs.size) := by unfold World.shape?; rw [g1]
    have hAb : A.block = (μ r).b := by rw [hA]
    simp [execOp, hcv, convert, run_underlying hu, run_underlying hue, markStringish, hAb, hsh]

/-- append to such a row. -/
theorem o_appX {T : Nat → Prop} {s x : Operand} {t u : Nat} {e : Nat} {r n : Nat} {b y : ByteArray} {du : TypeDesc} (hmay : May T st0 r) (hu : P.underlying u = some du) (hdu : ∀ k, du ≠ .int k) (ht : elem1 tb t = some (e, .int .u8, 1)) (hsv : av a s = .sl (some r) 0 n) (hn : n = b.size) (hr : r < st.n) (ho : st.ob r = .mrow b)
    (hx : ∀ μ0 w0 β μ w ca, Inv T μ0 st0 w0 N β a μ st w ca → Src P w (ca.eval x) y.size (Lib.strCells y)) (hbig : b.size + y.size ≤ 1099511627776)
    (hR : ∀ q st', st.n ≤ q → q < st'.n → st'.ob q = .mrow (b ++ y) → Ext (· = r) st st' → R (a.put dst (.v (.sl (some q) 0 (b ++ y).size))) st') : ALeaf P T st0 N ⟨dst, .call ⟨.builtin .append, #[s, x], #[t, u]⟩, ty, pos, aft, gd⟩ .n R a st := by
  subst hn
  have hown : (st.ob r).own = true := by rw [ho]; rfl
  refine leaf_val (T' := (· = r)) _ (st.app r (.mrow (b ++ y))) (fun i hi e => by subst e; exact hmay hi) (.inl rfl) (fun μ0 w0 β μ w ca hi => ?_) (hR st.n (st.app r (.mrow (b ++ y))) (Nat.le_refl _) (Nat.lt_succ_self _) (app_ob _ _ _) (ext_app _ _ _))
  obtain ⟨hut, hz1⟩ := elem1_ok (P := P) ht
  obtain ⟨inf, zv, e1, e2, e3, e4, e5, e6⟩ := one1_info (P := P) hz1
  have hsrc := hx μ0 w0 β μ w ca hi
  have hsvv := av_vr hi s
  rw [hsv] at hsvv
  simp only [VR] at hsvv
  obtain ⟨_, A, c, hse, hlc, hA⟩ := hsvv
  have hobr := hi.rel.obj r hr
  rw [ho] at hobr
  obtain ⟨cs, E, fz, g1, g2, g4, g5, g6⟩ := hobr
  have hbs : (b ++ y).size = b.size + y.size := ByteArray.size_append
  have hexec : ∀ cv w', (Builtin.append_ #[t, u] ty #[ca.eval s, ca.eval x]).run P w = .ok cv w' → (execOp ca.eval ⟨dst, .call ⟨.builtin .append, #[s, x], #[t, u]⟩, ty, pos, aft, gd⟩).run P w = .ok (.value cv) w' := fun cv w' h => by
    simp [execOp, resolve, invoke, builtin, h]
  have hby : ∀ j, j < (b ++ y).size → (Value.int .u8 ((b ++ y).data.toList.getD j 0).toNat : Value) = if j < b.size then .int .u8 (b.data.toList.getD j 0).toNat else .int .u8 (y.data.toList.getD (j - b.size) 0).toNat := fun j hj => by
    have hd : (b ++ y).data.toList = b.data.toList ++ y.data.toList := by rw [ByteArray.data_append]; simp
    have hbl : b.data.toList.length = b.size := by simp
    rw [hd]
    split
    · rename_i h; simp only [List.getD]; rw [List.getElem?_append_left (by omega)]
    · rename_i h; simp only [List.getD]; rw [List.getElem?_append_right (by omega), hbl]
  by_cases hroom : b.size + y.size ≤ c
  · by_cases hc0 : c = 0
    · have hb0 : b.size = 0 := by omega
      have hy0 : y.size = 0 := by omega
      have hs0 : (b ++ y).size = 0 := by omega
      obtain ⟨r1, r2⟩ := app_ok hi.rel hr hown (o := .mrow (b ++ y)) (L := μ r) (w' := w) (.inl rfl) (Nat.le_refl _) (fun _ _ _ => rfl) rfl rfl rfl ⟨cs, E, fz, g1, g2, by omega, g5, fun j hj => by omega⟩
      refine ⟨.slice (some A) 0 0, _, w, hexec _ _ ?_, ?_, r1, r2⟩
      · have hsrc' : Src P w (ca.eval x) 0 (Lib.strCells y) := by rw [hy0] at hsrc; exact hsrc
        have h0 := run_app_room0 (P := P) (w := w) (ty := ty) hut hu hdu e1 e2 hsrc' (A := A) (n := 0) (c := 0) (Nat.le_refl _)
        rw [hse, hb0, hc0]; exact h0
      · rw [hs0]
        simp only [VR]
        exact ⟨Nat.lt_succ_self _, A, 0, rfl, Nat.le_refl _, .inl rfl⟩
    · rcases hA with hA | ⟨hA, hz⟩
      · exact absurd hA hc0
      · rw [Nat.add_zero] at hA hz
        have hrun := run_app_roomE (P := P) (w := w) (ty := ty) hut hu hdu e1 e2 hsrc (Lib.strCells_oneCell y) (g := (μ r).b) (o := (μ r).s) (n := b.size) (c := c) g1 g2 hroom (by omega)
        have hnn := hsrc.n
        have hcl := Array.length_toList (xs := cs)
        obtain ⟨r1, r2⟩ := app_ok hi.rel hr hown (o := .mrow (b ++ y)) (L := μ r) (w' := w.setRow (μ r).b (cs.toList.take ((μ r).s + b.size) ++ Lib.strCells y ++ cs.toList.drop ((μ r).s + b.size + y.size)).toArray) (.inl rfl) (by simp [World.setRow]) (fun b' _ hb => setRow_other w _ b' _ hb) rfl rfl rfl
          ⟨_, E, fz, setRow_heap w _ cs _ E fz g1, by
              rcases g2 with g2 | g2
              · exact .inl g2
              · right; simp; omega, by omega, by simp; omega, fun j hj => by
            rw [hby j hj]
            have e7 : (cs.toList.take ((μ r).s + b.size) ++ Lib.strCells y ++ cs.toList.drop ((μ r).s + b.size + y.size)).toArray.getD ((μ r).s + j) undef = (cs.toList.take ((μ r).s + b.size) ++ Lib.strCells y ++ cs.toList.drop ((μ r).s + b.size + (Lib.strCells y).length)).getD ((μ r).s + j) undef := by
              rw [hnn]; simp [List.getD]
            rw [e7, splice_get cs.toList (Lib.strCells y) ((μ r).s + b.size) ((μ r).s + j) undef (by omega)]
            by_cases c1 : j < b.size
            · rw [if_neg (by omega), if_pos c1]
              have := g6 j c1
              simpa [List.getD] using this
            · rw [if_pos (by omega), if_neg c1, show (μ r).s + j - ((μ r).s + b.size) = j - b.size by omega]
              exact strC_get y _ (by omega)⟩
        refine ⟨_, _, _, hexec _ _ (by rw [hse, hA]; exact hrun), ?_, r1, r2⟩
        rw [hbs]
        simp only [VR]
        refine ⟨Nat.lt_succ_self _, _, _, rfl, hroom, .inr ?_⟩
        rw [upd_same]
        exact ⟨rfl, by omega, hz.2⟩
  · have hcl : b.data.toList.length = b.size := by simp
    have hstr := Lib.strCells_length b
    have hold : ∀ w', w'.heap = w.heap → (Builtin.firstCells 1 b.size (.slice (some A) b.size c)).run P w' = .ok (Lib.strCells b).toArray w' := fun w' hw' => by
      by_cases hb0 : b.size = 0
      · have hnil : Lib.strCells b = [] := List.eq_nil_of_length_eq_zero (by omega)
        rw [hnil, hb0]
        exact run_firstCells_some w' 1 0 A _ c [] (by simp) (fun j u hu => by simp at hu)
      · rcases hA with hA | ⟨hA, hz⟩
        · omega
        · rw [hA]
          refine run_firstCells_some w' 1 b.size _ _ c _ (by rw [hstr]; omega) (fun j v hu => ?_)
          have hj : j < b.size := by
            have := (List.getElem?_eq_some_iff.1 hu).1
            omega
          have hv : v = .int .u8 (b.data.toList.getD j 0).toNat := by
            rw [← strC_get b j hj]
            simp [List.getD, hu]
          rw [Addr.add_lit, cell_of_row w' _ _ cs E fz (by rw [hw']; exact g1), hv, ← g6 j hj]
          have : (μ r).s + j < cs.size := by omega
          rw [Array.getD_eq_getD_getElem?, show (μ r).s + 0 + j = (μ r).s + j by omega, Array.getElem?_eq_getElem this]
          rfl
    have hfit : (b.size + y.size) * inf.bytes ≤ 140737488355328 := by rw [e3]; omega
    have hrun := run_app_grow (P := P) (w := w) (ty := ty) hut hu hdu e1 e2 e4 hsrc hold (by omega) hfit hbig
    have hzl : ∀ n : Nat, Builtin.zeroCells zv.cells n = ((Builtin.zeroCells zv.cells n).toList).toArray := fun n => by simp
    rw [hzl] at hrun
    have hge := grownCap_ge w (b.size + y.size) c e
    have hys := Lib.strCells_length y
    obtain ⟨r1, r2⟩ := app_ok hi.rel hr hown (o := .mrow (b ++ y)) (L := ⟨w.heap.size, 0, ((Lib.strCells b).toArray ++ (Lib.strCells y).toArray ++ ((Builtin.zeroCells zv.cells (grownCap w (b.size + y.size) c e - (b.size + y.size))).toList).toArray).size⟩) (.inr (Nat.le_refl _)) (pre_drew_alloc w _).size
      (fun b' hb _ => (pre_drew_alloc w _).blk b' hb) rfl rfl rfl ⟨_, e, (0, 0), heap_alloc_new w.drew _, .inl rfl, by simp [hstr, hys], Nat.le_refl _, fun j hj => by
        rw [hby j hj, Nat.zero_add]
        rw [Array.getD_eq_getD_getElem?, ← Array.getElem?_toList]
        simp only [Array.toList_append]
        by_cases c1 : j < b.size
        · rw [if_pos c1, ← strC_get b j c1]
          simp only [List.getD]
          rw [List.getElem?_append_left (by simp; omega), List.getElem?_append_left (by omega)]
        · rw [if_neg c1, ← strC_get y (j - b.size) (by omega)]
          simp only [List.getD]
          rw [List.getElem?_append_left (by simp; omega), List.getElem?_append_right (by omega), hstr]⟩
    refine ⟨_, _, _, hexec _ _ (by rw [hse]; exact hrun), ?_, r1, r2⟩
    rw [hbs]
    simp only [VR]
    refine ⟨Nat.lt_succ_self _, _, _, rfl, hge, .inr ?_⟩
    rw [upd_same]
    refine ⟨rfl, ?_, gcl _ _ _ _ (by omega)⟩
    simp [size_zeroCells, e5, hstr, hys]
    omega

/-- append of a string. -/
theorem o_appSt {s x : Operand} {t u : Nat} {e : Nat} {r n : Nat} {b y : ByteArray} {j : TyI} (ht : elem1 tb t = some (e, .int .u8, 1)) (hu : look tb u = some j) (hj : j.k = .str) (hsv : av a s = .sl (some r) 0 n) (hn : n = b.size) (hf : Fm st0.n st r b) (hx : av a x = .str y) (hbig : b.size + y.size ≤ 1099511627776)
    (hR : ∀ q st', st.n ≤ q → q < st'.n → st'.ob q = .mrow (b ++ y) → Ext (· = r) st st' → R (a.put dst (.v (.sl (some q) 0 (b ++ y).size))) st') : ALeaf P No st0 N ⟨dst, .call ⟨.builtin .append, #[s, x], #[t, u]⟩, ty, pos, aft, gd⟩ .n R a st := by
  refine o_appX (fun h => by have := hf.1; omega) ((tyR (P := P) hu).und_of.2.2.1 hj) (fun k h => by cases h) ht hsv hn hf.2.1 hf.2.2 (fun μ0 w0 β μ w ca hi => ?_) hbig hR
  have hxv := av_vr hi x
  rw [hx] at hxv
  have hxv : ca.eval x = .string y := hxv
  rw [hxv]
  exact ⟨fun _ => rfl, fun w' _ => Lib.run_firstCells_string w' 1 y, Lib.strCells_length y, Lib.strCells_oneCell y⟩

/-- append of one byte. -/
theorem o_appBy {s x : Operand} {t : Nat} {e : Nat} {r n : Nat} {b : ByteArray} {q : Nat} (y : UInt8) (ht : elem1 tb t = some (e, .int .u8, 1)) (hsv : av a s = .sl (some r) 0 n) (hn : n = b.size) (hf : Fm st0.n st r b) (hx : av a x = .sl (some q) 0 1) (hy : cell st (some q) 0 = some (B8 y.toNat)) (hbig : b.size + 1 ≤ 1099511627776)
    (hR : ∀ q st', st.n ≤ q → q < st'.n → st'.ob q = .mrow (b ++ ⟨#[y]⟩) → Ext (· = r) st st' → R (a.put dst (.v (.sl (some q) 0 (b ++ ⟨#[y]⟩).size))) st') : ALeaf P No st0 N ⟨dst, .call ⟨.builtin .append, #[s, x], #[t, t]⟩, ty, pos, aft, gd⟩ .n R a st := by
  refine o_appX (y := ⟨#[y]⟩) (fun h => by have := hf.1; omega) (elem1_ok (P := P) ht).1 (fun k h => by cases h) ht hsv hn hf.2.1 hf.2.2 (fun μ0 w0 β μ w ca hi => ?_) hbig hR
  have hrd : Rd st (av a x) ([(y.toNat : Int)].map B8) := ⟨some q, 0, by rw [hx]; rfl, fun j hj => by
    have : j = 0 := by simpa using hj
    subst this
    exact hy⟩
  obtain ⟨news, h1, h2⟩ := src_of_rd (P := P) hi hrd (av_vr hi x) rfl
  have h3 := vrl_bytes h2
  rw [h3] at h1
  exact h1

/-- Such a row, as a string. -/
theorem o_mstr {T : Nat → Prop} {s d : Nat} {x : Operand} {e : Nat} {r n : Nat} {b : ByteArray} {j : TyI} (hs : elem1 tb s = some (e, .int .u8, 1)) (he : ∃ i, look tb e = some i ∧ i.k = .int .u8) (hd : look tb d = some j) (hj : j.k = .str) (hx : av a x = .sl (some r) 0 n) (hn : n = b.size) (hr : r < st.n) (ho : st.ob r = .mrow b)
    (hR : R (a.put dst (.v (.str b))) st) : ALeaf P T st0 N ⟨dst, .convert s d x, ty, pos, aft, gd⟩ m R a st := by
  subst hn
  refine leaf_q (.v (.str b)) (fun μ0 w0 β μ w ca hinv => ?_) hR
  obtain ⟨hu, _⟩ := elem1_ok (P := P) hs
  obtain ⟨i, hi, hik⟩ := he
  have hue := (tyR (P := P) hi).und_of.1 _ hik
  have hud := (tyR (P := P) hd).und_of.2.2.1 hj
  have hxv := av_vr hinv x
  rw [hx] at hxv
  simp only [VR] at hxv
  obtain ⟨_, A, c, hcv, hlc, hA⟩ := hxv
  have hobr := hinv.rel.obj r hr
  rw [ho] at hobr
  obtain ⟨cs, E, fz, g1, g2, g4, g5, g6⟩ := hobr
  have hbl : b.data.toList.length = b.size := by simp
  refine ⟨.string b, rfl, fun w' hp => ?_⟩
  have hlt : (μ r).b < w.heap.size := (Array.getElem?_eq_some_iff.1 g1).1
  have hg' := (hp.blk _ hlt).trans g1
  have hlen : (b.data.toList.map fun x => (x.toNat : Int)).length = b.size := by rw [List.length_map]; exact hbl
  have hcv' : (execOp ca.eval ⟨dst, .convert s d x, ty, pos, aft, gd⟩).run P w' = ((Conv.bytesToString (.slice (some A) b.size c)).run P w').andThen fun v w' => .ok (.value v) w' := by
    simp [execOp, hcv, run_convert_bytes_string w' s d e (some A) b.size c hu hue hud]
  rw [hcv']
  have hl := run_loadCells_list (P := P) w' A ((b.data.toList.map fun x => (x.toNat : Int)).map (Value.int .u8)) (fun j v hu' => by
    have hj : j < b.size := by
      have := (List.getElem?_eq_some_iff.1 hu').1
      simpa using this
    rcases hA with hA | ⟨hA, hz⟩
    · omega
    · have hv : v = .int .u8 (b.data.toList.getD j 0).toNat := by
        have hj' : j < b.data.toList.length := by omega
        simp [List.getElem?_map, List.getElem?_eq_getElem hj'] at hu'
        simp [List.getD, List.getElem?_eq_getElem hj', ← hu']
      rw [hA, Addr.add_lit, cell_of_row w' _ _ cs E fz hg', hv, ← g6 j hj]
      have : (μ r).s + j < cs.size := by omega
      rw [Array.getD_eq_getD_getElem?, show (μ r).s + 0 + j = (μ r).s + j by omega, Array.getElem?_eq_getElem this]
      rfl)
  rw [List.length_map, hlen] at hl
  rw [← hlen, run_bytesToString w' A _ c _ (by rw [hlen]; exact hl)]
  have hfold : (b.data.toList.map fun x => (x.toNat : Int)).foldl (fun r n => r.push (UInt8.ofNat n.toNat)) ByteArray.empty = b := by
    rw [foldl_push_byteCells]
    cases b
    simp [ByteArray.empty, ByteArray.emptyWithCapacity]
    try rfl
  simp only [Result.andThen_ok]
  rw [hfold]
/-- Rules once more, with what is known of the store behind them. -/
theorem o_mapP {T : Nat → Prop} {t : Nat} (hm : m.loud) (hR : ∀ q st', q = st.n → st'.n = st.n + 1 → st'.ob q = .map [] → Ex st st' → R (a.put dst (.v (.map q))) st') : ALeaf P T st0 N ⟨dst, .makeMap t none, ty, pos, aft, gd⟩ m R a st :=
  o_makeMap hm (hR st.n _ rfl rfl (push_ob _ _) (ex_push _ _))
theorem o_bsP {T : Nat → Prop} {t len : Nat} {parts : Array (Nat × Operand)} {e : Nat} {z : Z} {b : Nat} (l : List AV) (hm : m.loud) (ht : elem1 tb t = some (e, z, b)) (hlen : len ≤ 16777216) (hl : setA (List.replicate len z.av) (partsA a parts.toList) = some l) (hone : ((partsA a parts.toList).all fun p => oneA p.2) = true)
    (hR : ∀ q st', q = st.n → st'.n = st.n + 1 → st'.ob q = .row true l → Ex st st' → R (a.put dst (.v (.sl (some q) 0 len))) st') : ALeaf P T st0 N ⟨dst, .buildSlice t len parts, ty, pos, aft, gd⟩ m R a st :=
  o_bslice hm ht hlen hl hone (hR st.n _ rfl rfl (push_ob _ _) (ex_push _ _))
theorem o_cvP {T : Nat → Prop} {s : Nat} {x : Operand} {e r n : Nat} {l : List Int} (b : ByteArray) (hmay : May T st0 r) (ht : elem1 tb s = some (e, .int .u8, 1)) (he : ∃ i, look tb e = some i ∧ i.k = .int .u8) (hx : av a x = .sl (some r) 0 n) (hn0 : 0 < n) (hr : r < st.n) (ho : st.ob r = .row true (l.map B8)) (hl : l = b.data.toList.map fun y => (y.toNat : Int))
    (hR : ∀ st', st'.ob r = .mrow b → st'.n = st.n → Ext (· = r) st st' → R (a.put dst (.v (.sl (some r) 0 n))) st') : ALeaf P T st0 N ⟨dst, .convert s s x, ty, pos, aft, gd⟩ .n R a st :=
  o_cvM hmay ht he hx hn0 hr ho hl (hR _ (set_ob _ _ _) rfl (ext_set _ _ _))
theorem o_mputP {T : Nat → Prop} {t : Nat} {x ix vx : Operand} {r : Nat} {j : Int} {i ik : TyI} {kt et : Nat} {es : List (Int × AV)} {v : AV} (ht : look tb t = some i) (hk : i.k = .map kt et) (hkt : look tb kt = some ik) (hki : ik.k = .int .i64)
    (hx : av a x = .map r) (hix : av a ix = I j) (hr : r < st.n) (hmay : May T st0 r) (ho : st.ob r = .map es) (hv : av a vx = v) (hR : ∀ st', st'.ob r = .map (mput es j v) → st'.n = st.n → Ext (· = r) st st' → R (a.put dst (.v .junk)) st') : ALeaf P T st0 N ⟨dst, .mapUpdate t x ix vx, ty, pos, aft, gd⟩ .n R a st :=
  o_mput ht hk hkt hki hx hix hr hmay ho hv (hR _ (set_ob _ _ _) rfl (ext_set _ _ _))
theorem Fm.le {n0 n1 : Nat} {st : St} {r : Nat} {s : ByteArray} (h : Fm n1 st r s) (hn : n0 ≤ n1) : Fm n0 st r s := ⟨Nat.le_trans hn h.1, h.2⟩
end
noncomputable section
abbrev omapP := @o_mapP Go.Proofs.Tryd.prog
abbrev obsP := @o_bsP Go.Proofs.Tryd.prog Tys tysOk
abbrev ocvP := @o_cvP Go.Proofs.Tryd.prog Tys tysOk
abbrev omputP := @o_mputP Go.Proofs.Tryd.prog Tys tysOk
abbrev ocvM := @o_cvM Go.Proofs.Tryd.prog Tys tysOk
abbrev oappSt := @o_appSt Go.Proofs.Tryd.prog Tys tysOk
abbrev oappBy := @o_appBy Go.Proofs.Tryd.prog Tys tysOk
abbrev omstr := @o_mstr Go.Proofs.Tryd.prog Tys tysOk
end
end Go.Proofs.YtmphklmhhcmbnaaDoorW.Ax
