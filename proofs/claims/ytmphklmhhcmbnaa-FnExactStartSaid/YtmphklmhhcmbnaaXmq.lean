/- Rules: the smaller of two numbers; append to a row that came in. -/
import Derived.Test.YtmphklmhhcmbnaaXmp
namespace Go.Proofs.YtmphklmhhcmbnaaW.Ax
open Go Go.RowKit
set_option linter.unusedVariables false
section
variable {P : Program} {T : Nat → Prop} {st0 : St} {N : Nat} {a : Aa} {st : St} {Q : AX → Aa → St → Prop} {id : Nat} {l : List Oper}
/-- A region that draws its order, the last of its code; what waits for a thing through others counts as well. -/
theorem c_dt1 {tb' : Tb} [TbOk P tb'] (sch : List Nat) (ms : List Md) (hd : dstsOk N l = true) (hB : drawOk2 l.toArray sch ms = true) (h : AOps P T st0 N l.toArray (Q .normal) ms (sch.filterMap (l.toArray[·]?)) a st) : ACode P T st0 N (.region id l.toArray true) Q a st :=
  c_draw2 (TbOk.mixed (tb := tb')) sch ms hd hB h
end
section
variable {P : Program} {tb : Tb} [TbOk P tb] {T : Nat → Prop} {st0 : St} {N : Nat} {a : Aa} {st : St} {R : Aa → St → Prop} {m : Md}
variable {dst : Option Nat} {ty : Nat} {pos : String} {aft : Array Edge} {gd : Option (Nat × Bool)}
omit [TbOk P tb] in
theorem o_min {x y : Operand} {t u : Nat} {p q : Int} (hx : av a x = I p) (hy : av a y = I q) (hR : R (a.put dst (.v (I (if q < p then q else p)))) st) : ALeaf P T st0 N ⟨dst, .call ⟨.builtin .min, #[x, y], #[t, u]⟩, ty, pos, aft, gd⟩ m R a st := by
  refine leaf_q (.v (I (if q < p then q else p))) (fun μ0 w0 β μ w ca hinv => ?_) hR
  have hxv := av_vr hinv x
  have hyv := av_vr hinv y
  rw [hx] at hxv
  rw [hy] at hyv
  simp only [VR] at hxv hyv
  refine ⟨.int .i64 (if q < p then q else p), rfl, fun w' _ => ?_⟩
  simp [execOp, resolve, invoke, builtin, hxv, hyv, Builtin.min_, Builtin.min2]
theorem o_appendN {s x : Operand} {t : Nat} {e : Nat} {z : Z} {b : Nat} {v : AV} {l ys : List AV} (ht : elem1 tb t = some (e, z, b)) (hb : b ≤ 16) (hsv : av a s = v) (hv : Out T st0 st v l) (hx : Rd st (av a x) ys) (hone : ys.all oneA = true) (hbig : l.length + ys.length ≤ 1099511627776)
    (hR : ∀ v' st', Out T st0 st' v' (l ++ ys) → (∀ i o n, v' = .sl (some i) o n → st.n ≤ i) → Ext (fun i => ∃ o n, v = .sl (some i) o n) st st' → R (a.put dst (.v v')) st') : ALeaf P T st0 N ⟨dst, .call ⟨.builtin .append, #[s, x], #[t, t]⟩, ty, pos, aft, gd⟩ .n R a st := by
  intro hd μ0 w0 β μ w ca hi Q'
  obtain ⟨hu, hz1⟩ := elem1_ok (P := P) ht
  obtain ⟨inf, zv, e1, e2, e3, e4, e5, e6⟩ := one1_info (P := P) hz1
  have hsvv := av_vr hi s
  rw [hsv] at hsvv
  obtain ⟨news, hsrc, hnews⟩ := src_of_rd (P := P) hi hx (av_vr hi x) hone
  have hexec : ∀ cv w', (Builtin.append_ #[t, t] ty #[ca.eval s, ca.eval x]).run P w = .ok cv w' → (execOp ca.eval ⟨dst, .call ⟨.builtin .append, #[s, x], #[t, t]⟩, ty, pos, aft, gd⟩).run P w = .ok (.value cv) w' := fun cv w' h => by
    simp [execOp, resolve, invoke, builtin, h]
  have hfit : ∀ n, n ≤ 1099511627776 → n * inf.bytes ≤ 140737488355328 := fun n hn => by
    rw [e3]
    have := Nat.mul_le_mul hn hb
    omega
  have fin : ∀ (cv : Value) (v' : AV) (μ' : Nat → Loc) (st' : St) (w' : World) (T' : Nat → Prop), (Builtin.append_ #[t, t] ty #[ca.eval s, ca.eval x]).run P w = .ok cv w' → VR st'.n μ' v' cv → Rel μ' st' w' → Stp T' μ st w μ' st' w' → (∀ i, i < st0.n → T' i → T i) → (∀ i, T' i → ∃ o n, v = .sl (some i) o n) → Out T st0 st' v' (l ++ ys) → (∀ i o n, v' = .sl (some i) o n → st.n ≤ i) →
      (execOp ca.eval ⟨dst, .call ⟨.builtin .append, #[s, x], #[t, t]⟩, ty, pos, aft, gd⟩).run P w = .ok (.value cv) w' ∧ Good T μ0 st0 w0 N R (ca.put dst cv) w' := fun cv v' μ' st' w' T' hrun hvr hrel hstp hT hTv hout hnew =>
    ⟨hexec cv w' hrun, β, _, μ', st', (hi.step hrel hstp hT).put (r := .v v') hd hvr, hR v' st' hout hnew ⟨hstp.n, fun i hi hn => hstp.ob i hi fun ht => hn (hTv i ht)⟩⟩
  suffices h : ∃ cv w', (execOp ca.eval ⟨dst, .call ⟨.builtin .append, #[s, x], #[t, t]⟩, ty, pos, aft, gd⟩).run P w = .ok (.value cv) w' ∧ Good T μ0 st0 w0 N R (ca.put dst cv) w' by
    obtain ⟨cv, w', h1, h2⟩ := h
    unfold Oper.wp
    rw [h1]
    exact ⟨(fun hh => by cases hh), h2⟩
  have hzl : ∀ n : Nat, Builtin.zeroCells zv.cells n = ((Builtin.zeroCells zv.cells n).toList).toArray := fun n => by simp
  rcases hv with ⟨hvn, hln⟩ | ⟨r, hvr, hr, hmay, hob⟩
  · -- nil
    rw [hvn] at hsvv
    subst hln
    simp only [VR] at hsvv
    by_cases hk : ys = []
    · subst hk
      refine ⟨.slice none 0 0, w, fin _ (.sl none 0 0) μ st w No ?_ (by simp [VR]) hi.rel (Stp.refl _ _ _ _) (fun _ _ h => h.elim) (fun _ h => h.elim) (.inl ⟨rfl, rfl⟩) (fun i o n h => by cases h)⟩
      rw [hsvv.2.2]
      exact run_app_nil0 hu hu (fun k h => by cases h) e1 e2 hsrc
    · have hpos : 0 < ys.length := List.length_pos_iff.2 hk
      have hrun := run_app_grow (P := P) (w := w) (ty := ty) hu hu (fun k h => by cases h) e1 e2 e4 hsrc (A := none) (n := 0) (c := 0) (olds := []) (fun w' _ => by simp [Builtin.firstCells]) (by omega) (hfit _ (by omega)) (by omega)
      rw [hzl] at hrun
      have hge := grownCap_ge w (0 + ys.length) 0 e
      have hge' := grownCap_ge w ys.length 0 e
      obtain ⟨r1, r2⟩ := push_row hi.rel (Pre.drew w) rfl (l := ys) (cs := #[] ++ news.toArray ++ ((Builtin.zeroCells zv.cells (grownCap w (0 + ys.length) 0 e - (0 + ys.length))).toList).toArray) (E := e)
        (by have := hsrc.n; simp; omega) (fun j hj => getD_app (l := []) (cs1 := []) rfl hnews j hj)
      refine ⟨_, _, fin _ (.sl (some st.n) 0 ys.length) _ _ _ No (by rw [hsvv.2.2]; exact hrun) ?_ r1 r2 (fun _ _ h => h.elim) (fun _ h => h.elim) (.inr ⟨st.n, rfl, Nat.lt_succ_self _, fun h => ?_, push_ob _ _⟩) (fun i o n h => by injection h with h; injection h with h; omega)⟩
      · simp only [VR]
        refine ⟨Nat.lt_succ_self _, _, _, by rw [Nat.zero_add], by omega, .inr ?_⟩
        rw [upd_same]
        refine ⟨rfl, ?_⟩
        have := hsrc.n
        simp [size_zeroCells, e5]
        omega
      · have := hi.stp.n; omega
  · rw [hvr] at hsvv
    simp only [VR] at hsvv
    obtain ⟨_, A, c, hse, hlc, hA⟩ := hsvv
    have hobr := hi.rel.obj r hr
    rw [hob] at hobr
    obtain ⟨cs, E, fz, g1, g2, g3, g4, g5⟩ := hobr
    have hfz := g2 rfl
    subst hfz
    have hown : (st.ob r).own = true := by rw [hob]; rfl
    have hTr : ∀ i, i < st0.n → i = r → T i := fun i hi e => by subst e; exact hmay hi
    have hTv : ∀ i, i = r → ∃ o n, v = .sl (some i) o n := fun i e => by subst e; exact ⟨_, _, hvr⟩
    have hmay' : May T st0 st.n := fun h => by have := hi.stp.n; omega
    by_cases hroom : l.length + ys.length ≤ c
    · by_cases hc0 : c = 0
      · have hl0 : l = [] := List.eq_nil_of_length_eq_zero (by omega)
        have hy0 : ys = [] := List.eq_nil_of_length_eq_zero (by omega)
        subst hl0; subst hy0; subst hc0
        obtain ⟨r1, r2⟩ := app_ok hi.rel hr hown (o := .row true []) (L := μ r) (w' := w) (.inl rfl) (Nat.le_refl _) (fun _ _ _ => rfl) rfl rfl rfl ⟨cs, E, (0, 0), g1, fun _ => rfl, by simp at g3 ⊢; omega, g4, fun j hj => by simp at hj⟩
        refine ⟨_, _, fin _ (.sl (some st.n) 0 0) _ _ w (· = r) (by rw [hse]; exact run_app_room0 hu hu (fun k h => by cases h) e1 e2 hsrc (Nat.le_refl _)) ?_ r1 r2 hTr hTv (.inr ⟨st.n, rfl, Nat.lt_succ_self _, hmay', app_ob _ _ _⟩) (fun i o n h => by injection h with h; injection h with h; omega)⟩
        simp only [VR]
        exact ⟨Nat.lt_succ_self _, _, _, rfl, Nat.le_refl _, .inl rfl⟩
      · rcases hA with hA | ⟨hA, hz⟩
        · exact absurd hA hc0
        · rw [Nat.add_zero] at hA hz
          have hrun := run_app_room (P := P) (w := w) (ty := ty) hu hu (fun k h => by cases h) e1 e2 hsrc (g := (μ r).b) (o := (μ r).s) (n := l.length) (c := c) g1 hroom (by omega)
          have hnn := hsrc.n
          obtain ⟨r1, r2⟩ := app_ok hi.rel hr hown (o := .row true (l ++ ys)) (L := μ r) (w' := w.setRow (μ r).b (cs.toList.take ((μ r).s + l.length) ++ news ++ cs.toList.drop ((μ r).s + l.length + ys.length)).toArray) (.inl rfl) (by simp [World.setRow]) (fun b _ hb => setRow_other w _ b _ hb) rfl rfl rfl
            ⟨_, E, (0, 0), setRow_heap w _ cs _ E (0, 0) g1, fun _ => rfl, by simp; omega, by simp; omega, fun j hj => by
              have hcl := Array.length_toList (xs := cs)
              have e7 : (cs.toList.take ((μ r).s + l.length) ++ news ++ cs.toList.drop ((μ r).s + l.length + ys.length)).toArray.getD ((μ r).s + j) undef = (cs.toList.take ((μ r).s + l.length) ++ news ++ cs.toList.drop ((μ r).s + l.length + news.length)).getD ((μ r).s + j) undef := by
                rw [hnn]; simp [List.getD]
              rw [e7, splice_get cs.toList news ((μ r).s + l.length) ((μ r).s + j) undef (by omega)]
              have hj' : j < l.length + ys.length := by simpa using hj
              refine VR.mono (Nat.le_succ _) (mu_push μ st _) _ _ ?_
              by_cases c1 : j < l.length
              · rw [if_neg (by omega)]
                have := g5 j c1
                have e8 : (l ++ ys).getD j .junk = l.getD j .junk := by simp [List.getD, List.getElem?_append_left c1]
                rw [e8]
                simpa [List.getD] using this
              · rw [if_pos (by omega), show (μ r).s + j - ((μ r).s + l.length) = j - l.length by omega]
                have e8 : (l ++ ys).getD j .junk = ys.getD (j - l.length) .junk := by simp [List.getD, List.getElem?_append_right (Nat.le_of_not_lt c1)]
                rw [e8]
                exact hnews.get _⟩
          refine ⟨_, _, fin _ (.sl (some st.n) 0 (l.length + ys.length)) _ _ _ (· = r) (by rw [hse, hA]; exact hrun) ?_ r1 r2 hTr hTv (.inr ⟨st.n, by simp, Nat.lt_succ_self _, hmay', app_ob _ _ _⟩) (fun i o n h => by injection h with h; injection h with h; omega)⟩
          simp only [VR]
          refine ⟨Nat.lt_succ_self _, _, _, rfl, hroom, .inr ?_⟩
          rw [upd_same]
          exact ⟨rfl, by omega⟩
    · have hold : ∀ w', w'.heap = w.heap → (Builtin.firstCells 1 l.length (.slice (some A) l.length c)).run P w' = .ok ((List.range l.length).map fun j => cs.getD ((μ r).s + j) undef).toArray w' := fun w' hw' => by
        refine run_firstCells_some w' 1 l.length A _ c _ (by simp) (fun j u hu => ?_)
        have hj : j < l.length := by
          have := (List.getElem?_eq_some_iff.1 hu).1
          simpa using this
        simp only [List.getElem?_map, List.getElem?_range hj, Option.map_some] at hu
        injection hu with hu
        rcases hA with hA | ⟨hA, hz⟩
        · omega
        · rw [hA, Addr.add_lit, cell_of_row w' _ _ cs E (0, 0) (by rw [hw']; exact g1), ← hu, Nat.add_zero]
          have : (μ r).s + j < cs.size := by omega
          rw [Array.getD_eq_getD_getElem?, Array.getElem?_eq_getElem this]
          rfl
      have hrun := run_app_grow (P := P) (w := w) (ty := ty) hu hu (fun k h => by cases h) e1 e2 e4 hsrc hold (by omega) (hfit _ hbig) hbig
      rw [hzl] at hrun
      have hge := grownCap_ge w (l.length + ys.length) c e
      have holds : VRL st.n μ l ((List.range l.length).map fun j => cs.getD ((μ r).s + j) undef) := VRL.of_get (by simp) fun j hj => by
        have : ((List.range l.length).map fun j => cs.getD ((μ r).s + j) undef).getD j undef = cs.getD ((μ r).s + j) undef := by simp [List.getD, hj]
        rw [this]
        exact g5 j hj
      have hnn := hsrc.n
      obtain ⟨r1, r2⟩ := app_ok hi.rel hr hown (o := .row true (l ++ ys)) (L := ⟨w.heap.size, 0, (((List.range l.length).map fun j => cs.getD ((μ r).s + j) undef).toArray ++ news.toArray ++ ((Builtin.zeroCells zv.cells (grownCap w (l.length + ys.length) c e - (l.length + ys.length))).toList).toArray).size⟩) (.inr (Nat.le_refl _)) (pre_drew_alloc w _).size
        (fun b hb _ => (pre_drew_alloc w _).blk b hb) rfl rfl rfl ⟨_, e, (0, 0), heap_alloc_new w.drew _, fun _ => rfl, by simp; omega, Nat.le_refl _, fun j hj => by
          rw [Nat.zero_add]
          exact VR.mono (Nat.le_succ _) (mu_push μ st _) _ _ (getD_app holds hnews j hj)⟩
      refine ⟨_, _, fin _ (.sl (some st.n) 0 (l.length + ys.length)) _ _ _ (· = r) (by rw [hse]; exact hrun) ?_ r1 r2 hTr hTv (.inr ⟨st.n, by simp, Nat.lt_succ_self _, hmay', app_ob _ _ _⟩) (fun i o n h => by injection h with h; injection h with h; omega)⟩
      simp only [VR]
      refine ⟨Nat.lt_succ_self _, _, _, rfl, hge, .inr ?_⟩
      rw [upd_same]
      refine ⟨rfl, ?_⟩
      simp [size_zeroCells, e5]
      omega
/-- append to a row that one may turn; what comes back is new. -/
theorem o_appT {n0 : Nat} {s x : Operand} {t : Nat} {e : Nat} {r r' : Option Nat} {o n : Nat} {l ys : List Int} (hT : ∀ i, r = some i → i < st0.n → T i) (hn0 : n0 ≤ st.n) (ht : elem1 tb t = some (e, .int .i64, 8)) (hsv : av a s = .sl r 0 n) (hn : n = l.length) (hv : Fr n0 st r l) (hx : av a x = .sl r' o ys.length) (hy : At st r' o ys) (hbig : l.length + ys.length ≤ 1099511627776)
    (hR : ∀ r2 st', Fr n0 st' r2 (l ++ ys) → (∀ i, r2 = some i → st.n ≤ i) → Ext (fun i => r = some i) st st' → R (a.put dst (.v (.sl r2 0 (l ++ ys).length))) st') : ALeaf P T st0 N ⟨dst, .call ⟨.builtin .append, #[s, x], #[t, t]⟩, ty, pos, aft, gd⟩ .n R a st := by
  subst hn
  refine o_appendN (l := l.map I) (ys := ys.map I) ht (by omega) hsv ?_ ⟨r', o, by rw [hx, List.length_map], fun j hj => ?_⟩ (all_one ys) (by simp; omega) (fun v' st' ho hnew he => ?_)
  · rcases hv with ⟨rfl, rfl⟩ | ⟨i, rfl, h1, h2, h3⟩
    · exact .inl ⟨rfl, rfl⟩
    · exact .inr ⟨i, by rw [List.length_map], h2, fun h => hT i rfl h, h3⟩
  · rw [List.length_map] at hj
    rw [hy j hj]; simp [List.getD, hj]
  · rw [← List.map_append] at ho
    rcases ho with ⟨rfl, h⟩ | ⟨i, rfl, h1, h2, h3⟩
    · have h : l ++ ys = [] := by simpa using h
      have := hR none st' (.inl ⟨rfl, h⟩) (fun i h => by cases h) ⟨he.n, fun i hi hn => he.ob i hi fun ⟨o, n, e⟩ => hn (by injection e)⟩
      rw [h] at this; exact this
    · have hni : st.n ≤ i := hnew i _ _ rfl
      have := hR (some i) st' (.inr ⟨i, rfl, by omega, h1, h3⟩) (fun j h => by injection h with h; omega) ⟨he.n, fun i hi hn => he.ob i hi fun ⟨o, n, e⟩ => hn (by injection e)⟩
      rw [List.length_map]; exact this
/-- append to a row of the call's own; what comes back is new. -/
theorem o_appG {s x : Operand} {t : Nat} {e : Nat} {r r' : Option Nat} {o n : Nat} {l ys : List Int} (hle : st0.n ≤ st.n) (ht : elem1 tb t = some (e, .int .i64, 8)) (hsv : av a s = .sl r 0 n) (hn : n = l.length) (hv : Fr st0.n st r l) (hx : av a x = .sl r' o ys.length) (hy : At st r' o ys) (hbig : l.length + ys.length ≤ 1099511627776)
    (hR : ∀ r2 st', Fr st0.n st' r2 (l ++ ys) → (∀ i, r2 = some i → st.n ≤ i) → Ext (fun i => r = some i) st st' → R (a.put dst (.v (.sl r2 0 (l ++ ys).length))) st') : ALeaf P T st0 N ⟨dst, .call ⟨.builtin .append, #[s, x], #[t, t]⟩, ty, pos, aft, gd⟩ .n R a st :=
  o_appT (fun i hi h => by have := hv.bd i hi; omega) hle ht hsv hn hv hx hy hbig hR
end
end Go.Proofs.YtmphklmhhcmbnaaW.Ax
