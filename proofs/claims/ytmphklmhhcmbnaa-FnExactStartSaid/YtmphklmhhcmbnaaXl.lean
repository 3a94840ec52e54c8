/- append, clear. -/
import Derived.Test.YtmphklmhhcmbnaaXk
namespace Go.Proofs.YtmphklmhhcmbnaaW.Ax
open Go Go.RowKit
set_option linter.unusedVariables false
set_option linter.unusedSimpArgs false

section
variable {P : Program}
/-- What is appended: so many cells. -/
structure Src (P : Program) (w : World) (x : Value) (k : Nat) (news : List Value) : Prop where
  len : ∀ w', (Builtin.lenOf x).run P w' = .ok k w'
  cells : ∀ w', w'.heap = w.heap → (Builtin.firstCells 1 k x).run P w' = .ok news.toArray w'
  n : news.length = k
  one : ∀ u ∈ news, u.oneCell' = true

theorem run_app_nil0 {w : World} {t u ty e : Nat} {du : TypeDesc} (ht : P.underlying t = some (.slice e)) (hu : P.underlying u = some du) (hdu : ∀ k, du ≠ .int k) {inf : TypeInfo} (hi : P.info? e = some inf) (h1 : inf.size = 1) {x : Value} {news : List Value} (hs : Src P w x 0 news) :
    (Builtin.append_ #[t, u] ty #[.slice none 0 0, x]).run P w = .ok (.slice none 0 0) w := by
  have hz : (Builtin.firstCells 1 0 x).run P w = .ok news.toArray w := hs.cells w rfl
  have hnot : (match du with | .int _ => true | _ => false) = false := by cases du <;> first | rfl | exact absurd rfl (hdu _)
  simp [Builtin.append_, underlying, ht, hu, hnot, sizeOf, typeInfo, hi, h1, hs.len, hz]

theorem run_app_room {w : World} {t u ty e : Nat} {du : TypeDesc} (ht : P.underlying t = some (.slice e)) (hu : P.underlying u = some du) (hdu : ∀ k, du ≠ .int k) {inf : TypeInfo} (hi : P.info? e = some inf) (h1 : inf.size = 1) {x : Value} {k : Nat} {news : List Value} (hs : Src P w x k news)
    {g o n c E : Nat} {cur : Array Value} (hg : w.heap[g]? = some (.cells cur E (0, 0))) (hroom : n + k ≤ c) (hfit : o + n + k ≤ cur.size) :
    (Builtin.append_ #[t, u] ty #[.slice (some ⟨g, o, none⟩) n c, x]).run P w = .ok (.slice (some ⟨g, o, none⟩) (n + k) c) (w.setRow g (cur.toList.take (o + n) ++ news ++ cur.toList.drop (o + n + k)).toArray) := by
  have hz : (Builtin.firstCells 1 k x).run P w = .ok news.toArray w := hs.cells w rfl
  have hnot : (match du with | .int _ => true | _ => false) = false := by cases du <;> first | rfl | exact absurd rfl (hdu _)
  have hst := run_storeCells_at P g (o + n) E news 0 cur w hg (by rw [hs.n]; omega) hs.one
  rw [hs.n, Nat.add_zero] at hst
  simp [Builtin.append_, underlying, ht, hu, hnot, sizeOf, typeInfo, hi, h1, hs.len, hz, hroom, Addr.add_lit, hst]
theorem run_app_room0 {w : World} {t u ty e : Nat} {du : TypeDesc} (ht : P.underlying t = some (.slice e)) (hu : P.underlying u = some du) (hdu : ∀ k, du ≠ .int k) {inf : TypeInfo} (hi : P.info? e = some inf) (h1 : inf.size = 1) {x : Value} {news : List Value} (hs : Src P w x 0 news) {A : Addr} {n c : Nat} (hc : n ≤ c) :
    (Builtin.append_ #[t, u] ty #[.slice (some A) n c, x]).run P w = .ok (.slice (some A) n c) w := by
  have hz : (Builtin.firstCells 1 0 x).run P w = .ok news.toArray w := hs.cells w rfl
  have hn : news = [] := List.eq_nil_of_length_eq_zero hs.n
  subst hn
  have hnot : (match du with | .int _ => true | _ => false) = false := by cases du <;> first | rfl | exact absurd rfl (hdu _)
  simp [Builtin.append_, underlying, ht, hu, hnot, sizeOf, typeInfo, hi, h1, hs.len, hz, hc, storeCells]
theorem run_app_grow {w : World} {t u ty e : Nat} {du : TypeDesc} (ht : P.underlying t = some (.slice e)) (hu : P.underlying u = some du) (hdu : ∀ k, du ≠ .int k) {inf : TypeInfo} (hi : P.info? e = some inf) (h1 : inf.size = 1) {z : Value} (hz0 : inf.zero = some z) {x : Value} {k : Nat} {news : List Value} (hs : Src P w x k news)
    {A : Option Addr} {n c : Nat} {olds : List Value} (hold : ∀ w', w'.heap = w.heap → (Builtin.firstCells 1 n (.slice A n c)).run P w' = .ok olds.toArray w') (hgrow : c < n + k) (hfit : (n + k) * inf.bytes ≤ 140737488355328) (h63 : n + k ≤ 1099511627776) :
    (Builtin.append_ #[t, u] ty #[.slice A n c, x]).run P w = .ok (.slice (some ⟨w.heap.size, 0, none⟩) (n + k) (grownCap w (n + k) c e)) (w.drew.alloc (.cells (olds.toArray ++ news.toArray ++ Builtin.zeroCells z.cells (grownCap w (n + k) c e - (n + k))) e)) := by
  have hz : (Builtin.firstCells 1 k x).run P w.drew = .ok news.toArray w.drew := hs.cells _ rfl
  have hnot : (match du with | .int _ => true | _ => false) = false := by cases du <;> first | rfl | exact absurd rfl (hdu _)
  have hn : ¬ (n + k ≤ c) := by omega
  have h63' : ¬ (9223372036854775807 < ((n : Int) + (k : Int))) := by omega
  have h48' : ¬ (281474976710656 < Builtin.nextslicecap (n + k) c * inf.bytes) := by have := growslice_fits (bytes := inf.bytes) hgrow hfit; omega
  have ho := hold w.drew rfl
  simp [Builtin.append_, underlying, ht, hu, hnot, sizeOf, typeInfo, zeroValue, hi, h1, hz0, hs.len, hn, h63', h48', Question.forced, ho, hz, newRow, grownCap]
  have e9 : ∀ Z : Array Value, olds.toArray ++ (news.toArray ++ Z) = (olds ++ news).toArray ++ Z := fun Z => by rw [← Array.append_assoc]; simp
  rw [e9]
end

section
variable {P : Program} {tb : Tb} [TbOk P tb] {T : Nat → Prop} {st0 : St} {N : Nat} {a : Aa} {st : St} {R : Aa → St → Prop} {m : Md}
variable {dst : Option Nat} {ty : Nat} {pos : String} {aft : Array Edge} {gd : Option (Nat × Bool)}

/-- What is read of a slice: its elements. -/
def Rd (st : St) (v : AV) (l : List AV) : Prop := ∃ r o, v = .sl r o l.length ∧ ∀ j, j < l.length → cell st r (o + j) = some (l.getD j .junk)
/-- A slice that the call may append to: nil, or a row that it may touch. -/
def Out (T : Nat → Prop) (st0 st : St) (v : AV) (l : List AV) : Prop := (v = .sl none 0 0 ∧ l = []) ∨ ∃ r, v = .sl (some r) 0 l.length ∧ r < st.n ∧ May T st0 r ∧ st.ob r = .row true l

omit [TbOk P tb] in
theorem rd_cells {μ0 : Nat → Loc} {w0 : World} {β : Nat → Nat} {μ : Nat → Loc} {w : World} {ca : Act} (hi : Inv T μ0 st0 w0 N β a μ st w ca) {v : AV} {l : List AV} {cv : Value} (h : Rd st v l) (hv : VR st.n μ v cv) :
    ∃ (A : Option Addr) (c : Nat) (cl : List Value), cv = .slice A l.length c ∧ VRL st.n μ l cl ∧ (∀ ad, A = some ad → ∀ j u, cl[j]? = some u → w.cell? (ad.add j) = some u) ∧ (A = none → cl = []) := by
  obtain ⟨r, o, rfl, hc⟩ := h
  cases r with
  | none =>
    simp only [VR] at hv
    obtain ⟨_, hl, rfl⟩ := hv
    have : l = [] := List.eq_nil_of_length_eq_zero hl
    subst this
    exact ⟨none, 0, [], rfl, rfl, (fun ad h => by cases h), fun _ => rfl⟩
  | some r =>
    simp only [VR] at hv
    obtain ⟨hr, A, c, rfl, hlc, hA⟩ := hv
    by_cases hl0 : l = []
    · subst hl0
      exact ⟨some A, c, [], rfl, rfl, (fun ad h j u hu => by simp at hu), fun _ => rfl⟩
    · have hlen : 0 < l.length := List.length_pos_iff.2 hl0
      obtain ⟨q, e, _, cs, E, fz, _, hg, _⟩ := cell_w hi (hc 0 hlen)
      injection e with e
      subst e
      rcases hA with hA | ⟨hA, hz⟩
      · omega
      · have hcell : ∀ j, j < l.length → VR st.n μ (l.getD j .junk) (cs.getD ((μ r).s + (o + j)) undef) ∧ (μ r).s + (o + j) < cs.size := fun j hj => by
          obtain ⟨q, e, _, cs', E', fz', cv, hg', hcv, hvv, hb⟩ := cell_w hi (hc j hj)
          injection e with e
          subst e
          rw [hg] at hg'
          injection hg' with hg'
          injection hg' with e1 e2 e3
          subst e1
          exact ⟨by rw [Array.getD_eq_getD_getElem?, hcv]; exact hvv, hb⟩
        refine ⟨some A, c, (List.range l.length).map fun j => cs.getD ((μ r).s + (o + j)) undef, rfl, VRL.of_get (by simp) (fun j hj => ?_), fun ad h j u hu => ?_, fun h => by cases h⟩
        · have : ((List.range l.length).map fun j => cs.getD ((μ r).s + (o + j)) undef).getD j undef = cs.getD ((μ r).s + (o + j)) undef := by
            simp [List.getD, hj]
          rw [this]
          exact (hcell j hj).1
        · injection h with h
          subst h
          have hj : j < l.length := by
            have := (List.getElem?_eq_some_iff.1 hu).1
            simpa using this
          simp only [List.getElem?_map, List.getElem?_range hj, Option.map_some] at hu
          injection hu with hu
          rw [hA, Addr.add_lit, cell_of_row w _ _ cs E fz hg, Nat.add_assoc, ← hu]
          have := (hcell j hj).2
          rw [Array.getD_eq_getD_getElem?, Array.getElem?_eq_getElem this]
          rfl

omit [TbOk P tb] in
theorem src_of_rd {μ0 : Nat → Loc} {w0 : World} {β : Nat → Nat} {μ : Nat → Loc} {w : World} {ca : Act} (hi : Inv T μ0 st0 w0 N β a μ st w ca) {v : AV} {l : List AV} {cv : Value} (h : Rd st v l) (hv : VR st.n μ v cv) (hone : l.all oneA = true) :
    ∃ news, Src P w cv l.length news ∧ VRL st.n μ l news := by
  obtain ⟨A, c, cl, rfl, hvl, hcell, hnil⟩ := rd_cells hi h hv
  refine ⟨cl, ⟨fun w' => rfl, fun w' hw' => ?_, hvl.length, VRL.ones hvl hone⟩, hvl⟩
  cases A with
  | none =>
    have := hnil rfl
    subst this
    simp [Builtin.firstCells]
  | some ad =>
    have hc' : ∀ j u, cl[j]? = some u → w'.cell? (ad.add j) = some u := fun j u hu => by
      have := hcell ad rfl j u hu
      simpa [World.cell?, hw'] using this
    exact run_firstCells_some w' 1 l.length ad _ c cl (by rw [hvl.length]; omega) hc'

omit [TbOk P tb] in
theorem getD_app {l : List AV} {cs1 cs2 cs3 : List Value} {n : Nat} {μ : Nat → Loc} {l2 : List AV} (h1 : VRL n μ l cs1) (h2 : VRL n μ l2 cs2) (j : Nat) (hj : j < (l ++ l2).length) : VR n μ ((l ++ l2).getD j .junk) ((cs1.toArray ++ cs2.toArray ++ cs3.toArray).getD j undef) := by
  have h := (h1.append h2).get j
  have e : (cs1.toArray ++ cs2.toArray ++ cs3.toArray).getD j undef = (cs1 ++ cs2).getD j undef := by
    have hlen := (h1.append h2).length
    have hj' : j < (cs1 ++ cs2).length := by omega
    rw [Array.getD_eq_getD_getElem?, ← Array.getElem?_toList]
    simp only [Array.toList_append, List.getD]
    rw [List.getElem?_append_left hj']
  rw [e]
  exact h

/-- append, of a slice of the call's own, of what is read of another slice. -/
theorem o_append {s x : Operand} {t : Nat} {e : Nat} {z : Z} {b : Nat} {v : AV} {l ys : List AV} (ht : elem1 tb t = some (e, z, b)) (hb : b ≤ 16) (hsv : av a s = v) (hv : Out T st0 st v l) (hx : Rd st (av a x) ys) (hone : ys.all oneA = true) (hbig : l.length + ys.length ≤ 1099511627776)
    (hR : ∀ v' st', Out T st0 st' v' (l ++ ys) → Ext (fun i => ∃ o n, v = .sl (some i) o n) st st' → R (a.put dst (.v v')) st') : ALeaf P T st0 N ⟨dst, .call ⟨.builtin .append, #[s, x], #[t, t]⟩, ty, pos, aft, gd⟩ .n R a st := by
  intro hd μ0 w0 β μ w ca hi Q'
  obtain ⟨hu, hz1⟩ := elem1_ok (P := P) ht
  obtain ⟨inf, zv, e1, e2, e3, e4, e5, e6⟩ := one1_info (P := P) hz1
  have hsvv := av_vr hi s
  rw [hsv] at hsvv
  obtain ⟨news, hsrc, hnews⟩ := src_of_rd (P := P) hi hx (av_vr hi x) hone
  have hexec : ∀ cv w', (Builtin.append_ #[t, t] ty #[ca.eval s, ca.eval x]).run P w = .ok cv w' → (execOp ca.eval ⟨dst, .call ⟨.builtin .append, #[s, x], #[t, t]⟩, ty, pos, aft, gd⟩).run P w = .ok (.value cv) w' := fun cv w' h => by
    simp [execOp, resolve, invoke, builtin, h]
  have hfit : ∀ n, n ≤ 1099511627776 → n * inf.bytes ≤ 140737488355328 := fun n hn => by
    rw [e3]
    have := Nat.mul_le_mul hn hb
    omega
  have fin : ∀ (cv : Value) (v' : AV) (μ' : Nat → Loc) (st' : St) (w' : World) (T' : Nat → Prop), (Builtin.append_ #[t, t] ty #[ca.eval s, ca.eval x]).run P w = .ok cv w' → VR st'.n μ' v' cv → Rel μ' st' w' → Stp T' μ st w μ' st' w' → (∀ i, i < st0.n → T' i → T i) → (∀ i, T' i → ∃ o n, v = .sl (some i) o n) → Out T st0 st' v' (l ++ ys) →
      (execOp ca.eval ⟨dst, .call ⟨.builtin .append, #[s, x], #[t, t]⟩, ty, pos, aft, gd⟩).run P w = .ok (.value cv) w' ∧ Good T μ0 st0 w0 N R (ca.put dst cv) w' := fun cv v' μ' st' w' T' hrun hvr hrel hstp hT hTv hout =>
    ⟨hexec cv w' hrun, β, _, μ', st', (hi.step hrel hstp hT).put (r := .v v') hd hvr, hR v' st' hout ⟨hstp.n, fun i hi hn => hstp.ob i hi fun ht => hn (hTv i ht)⟩⟩
  suffices h : ∃ cv w', (execOp ca.eval ⟨dst, .call ⟨.builtin .append, #[s, x], #[t, t]⟩, ty, pos, aft, gd⟩).run P w = .ok (.value cv) w' ∧ Good T μ0 st0 w0 N R (ca.put dst cv) w' by
    obtain ⟨cv, w', h1, h2⟩ := h
    unfold Oper.wp
    rw [h1]
    exact ⟨(fun hh => by cases hh), h2⟩
  have hzl : ∀ n : Nat, Builtin.zeroCells zv.cells n = ((Builtin.zeroCells zv.cells n).toList).toArray := fun n => by simp
  rcases hv with ⟨hvn, hln⟩ | ⟨r, hvr, hr, hmay, hob⟩
  · -- nil
    rw [hvn] at hsvv
    subst hln
    simp only [VR] at hsvv
    by_cases hk : ys = []
    · subst hk
      refine ⟨.slice none 0 0, w, fin _ (.sl none 0 0) μ st w No ?_ (by simp [VR]) hi.rel (Stp.refl _ _ _ _) (fun _ _ h => h.elim) (fun _ h => h.elim) (.inl ⟨rfl, rfl⟩)⟩
      rw [hsvv.2.2]
      exact run_app_nil0 hu hu (fun k h => by cases h) e1 e2 hsrc
    · have hpos : 0 < ys.length := List.length_pos_iff.2 hk
      have hrun := run_app_grow (P := P) (w := w) (ty := ty) hu hu (fun k h => by cases h) e1 e2 e4 hsrc (A := none) (n := 0) (c := 0) (olds := []) (fun w' _ => by simp [Builtin.firstCells]) (by omega) (hfit _ (by omega)) (by omega)
      rw [hzl] at hrun
      have hge := grownCap_ge w (0 + ys.length) 0 e
      have hge' := grownCap_ge w ys.length 0 e
      obtain ⟨r1, r2⟩ := push_row hi.rel (Pre.drew w) rfl (l := ys) (cs := #[] ++ news.toArray ++ ((Builtin.zeroCells zv.cells (grownCap w (0 + ys.length) 0 e - (0 + ys.length))).toList).toArray) (E := e)
        (by have := hsrc.n; simp; omega) (fun j hj => getD_app (l := []) (cs1 := []) rfl hnews j hj)
      refine ⟨_, _, fin _ (.sl (some st.n) 0 ys.length) _ _ _ No (by rw [hsvv.2.2]; exact hrun) ?_ r1 r2 (fun _ _ h => h.elim) (fun _ h => h.elim) (.inr ⟨st.n, rfl, Nat.lt_succ_self _, fun h => ?_, push_ob _ _⟩)⟩
      · simp only [VR]
        refine ⟨Nat.lt_succ_self _, _, _, by rw [Nat.zero_add], by omega, .inr ?_⟩
        rw [upd_same]
        refine ⟨rfl, ?_⟩
        have := hsrc.n
        simp [size_zeroCells, e5]
        omega
      · have := hi.stp.n; omega
  · rw [hvr] at hsvv
    simp only [VR] at hsvv
    obtain ⟨_, A, c, hse, hlc, hA⟩ := hsvv
    have hobr := hi.rel.obj r hr
    rw [hob] at hobr
    obtain ⟨cs, E, fz, g1, g2, g3, g4, g5⟩ := hobr
    have hfz := g2 rfl
    subst hfz
    have hown : (st.ob r).own = true := by rw [hob]; rfl
    have hTr : ∀ i, i < st0.n → i = r → T i := fun i hi e => by subst e; exact hmay hi
    have hTv : ∀ i, i = r → ∃ o n, v = .sl (some i) o n := fun i e => by subst e; exact ⟨_, _, hvr⟩
    have hmay' : May T st0 st.n := fun h => by have := hi.stp.n; omega
    by_cases hroom : l.length + ys.length ≤ c
    · by_cases hc0 : c = 0
      · have hl0 : l = [] := List.eq_nil_of_length_eq_zero (by omega)
        have hy0 : ys = [] := List.eq_nil_of_length_eq_zero (by omega)
        subst hl0; subst hy0; subst hc0
        obtain ⟨r1, r2⟩ := app_ok hi.rel hr hown (o := .row true []) (L := μ r) (w' := w) (.inl rfl) (Nat.le_refl _) (fun _ _ _ => rfl) rfl rfl rfl ⟨cs, E, (0, 0), g1, fun _ => rfl, by simp at g3 ⊢; omega, g4, fun j hj => by simp at hj⟩
        refine ⟨_, _, fin _ (.sl (some st.n) 0 0) _ _ w (· = r) (by rw [hse]; exact run_app_room0 hu hu (fun k h => by cases h) e1 e2 hsrc (Nat.le_refl _)) ?_ r1 r2 hTr hTv (.inr ⟨st.n, rfl, Nat.lt_succ_self _, hmay', app_ob _ _ _⟩)⟩
        simp only [VR]
        exact ⟨Nat.lt_succ_self _, _, _, rfl, Nat.le_refl _, .inl rfl⟩
      · rcases hA with hA | ⟨hA, hz⟩
        · exact absurd hA hc0
        · rw [Nat.add_zero] at hA hz
          have hrun := run_app_room (P := P) (w := w) (ty := ty) hu hu (fun k h => by cases h) e1 e2 hsrc (g := (μ r).b) (o := (μ r).s) (n := l.length) (c := c) g1 hroom (by omega)
          have hnn := hsrc.n
          obtain ⟨r1, r2⟩ := app_ok hi.rel hr hown (o := .row true (l ++ ys)) (L := μ r) (w' := w.setRow (μ r).b (cs.toList.take ((μ r).s + l.length) ++ news ++ cs.toList.drop ((μ r).s + l.length + ys.length)).toArray) (.inl rfl) (by simp [World.setRow]) (fun b _ hb => setRow_other w _ b _ hb) rfl rfl rfl
            ⟨_, E, (0, 0), setRow_heap w _ cs _ E (0, 0) g1, fun _ => rfl, by simp; omega, by simp; omega, fun j hj => by
              have hcl := Array.length_toList (xs := cs)
              have e7 : (cs.toList.take ((μ r).s + l.length) ++ news ++ cs.toList.drop ((μ r).s + l.length + ys.length)).toArray.getD ((μ r).s + j) undef = (cs.toList.take ((μ r).s + l.length) ++ news ++ cs.toList.drop ((μ r).s + l.length + news.length)).getD ((μ r).s + j) undef := by
                rw [hnn]; simp [List.getD]
              rw [e7, splice_get cs.toList news ((μ r).s + l.length) ((μ r).s + j) undef (by omega)]
              have hj' : j < l.length + ys.length := by simpa using hj
              refine VR.mono (Nat.le_succ _) (mu_push μ st _) _ _ ?_
              by_cases c1 : j < l.length
              · rw [if_neg (by omega)]
                have := g5 j c1
                have e8 : (l ++ ys).getD j .junk = l.getD j .junk := by simp [List.getD, List.getElem?_append_left c1]
                rw [e8]
                simpa [List.getD] using this
              · rw [if_pos (by omega), show (μ r).s + j - ((μ r).s + l.length) = j - l.length by omega]
                have e8 : (l ++ ys).getD j .junk = ys.getD (j - l.length) .junk := by simp [List.getD, List.getElem?_append_right (Nat.le_of_not_lt c1)]
                rw [e8]
                exact hnews.get _⟩
          refine ⟨_, _, fin _ (.sl (some st.n) 0 (l.length + ys.length)) _ _ _ (· = r) (by rw [hse, hA]; exact hrun) ?_ r1 r2 hTr hTv (.inr ⟨st.n, by simp, Nat.lt_succ_self _, hmay', app_ob _ _ _⟩)⟩
          simp only [VR]
          refine ⟨Nat.lt_succ_self _, _, _, rfl, hroom, .inr ?_⟩
          rw [upd_same]
          exact ⟨rfl, by omega⟩
    · have hold : ∀ w', w'.heap = w.heap → (Builtin.firstCells 1 l.length (.slice (some A) l.length c)).run P w' = .ok ((List.range l.length).map fun j => cs.getD ((μ r).s + j) undef).toArray w' := fun w' hw' => by
        refine run_firstCells_some w' 1 l.length A _ c _ (by simp) (fun j u hu => ?_)
        have hj : j < l.length := by
          have := (List.getElem?_eq_some_iff.1 hu).1
          simpa using this
        simp only [List.getElem?_map, List.getElem?_range hj, Option.map_some] at hu
        injection hu with hu
        rcases hA with hA | ⟨hA, hz⟩
        · omega
        · rw [hA, Addr.add_lit, cell_of_row w' _ _ cs E (0, 0) (by rw [hw']; exact g1), ← hu, Nat.add_zero]
          have : (μ r).s + j < cs.size := by omega
          rw [Array.getD_eq_getD_getElem?, Array.getElem?_eq_getElem this]
          rfl
      have hrun := run_app_grow (P := P) (w := w) (ty := ty) hu hu (fun k h => by cases h) e1 e2 e4 hsrc hold (by omega) (hfit _ hbig) hbig
      rw [hzl] at hrun
      have hge := grownCap_ge w (l.length + ys.length) c e
      have holds : VRL st.n μ l ((List.range l.length).map fun j => cs.getD ((μ r).s + j) undef) := VRL.of_get (by simp) fun j hj => by
        have : ((List.range l.length).map fun j => cs.getD ((μ r).s + j) undef).getD j undef = cs.getD ((μ r).s + j) undef := by simp [List.getD, hj]
        rw [this]
        exact g5 j hj
      have hnn := hsrc.n
      obtain ⟨r1, r2⟩ := app_ok hi.rel hr hown (o := .row true (l ++ ys)) (L := ⟨w.heap.size, 0, (((List.range l.length).map fun j => cs.getD ((μ r).s + j) undef).toArray ++ news.toArray ++ ((Builtin.zeroCells zv.cells (grownCap w (l.length + ys.length) c e - (l.length + ys.length))).toList).toArray).size⟩) (.inr (Nat.le_refl _)) (pre_drew_alloc w _).size
        (fun b hb _ => (pre_drew_alloc w _).blk b hb) rfl rfl rfl ⟨_, e, (0, 0), heap_alloc_new w.drew _, fun _ => rfl, by simp; omega, Nat.le_refl _, fun j hj => by
          rw [Nat.zero_add]
          exact VR.mono (Nat.le_succ _) (mu_push μ st _) _ _ (getD_app holds hnews j hj)⟩
      refine ⟨_, _, fin _ (.sl (some st.n) 0 (l.length + ys.length)) _ _ _ (· = r) (by rw [hse]; exact hrun) ?_ r1 r2 hTr hTv (.inr ⟨st.n, by simp, Nat.lt_succ_self _, hmay', app_ob _ _ _⟩)⟩
      simp only [VR]
      refine ⟨Nat.lt_succ_self _, _, _, rfl, hge, .inr ?_⟩
      rw [upd_same]
      refine ⟨rfl, ?_⟩
      simp [size_zeroCells, e5]
      omega
end
end Go.Proofs.YtmphklmhhcmbnaaW.Ax
