/- Rules for rows of whole numbers. -/
import Derived.Test.YtmphklmhhcmbnaaXn
namespace Go.Proofs.YtmphklmhhcmbnaaW.Ax
open Go Go.RowKit
set_option linter.unusedVariables false

/-- Whole numbers as the machine has them. -/
def W1 (x : Int) : Prop := -9223372036854775808 ≤ x ∧ x ≤ 9223372036854775807
def W64 (l : List Int) : Prop := ∀ x ∈ l, W1 x
theorem W64.rd {l : List Int} (h : W64 l) (i : Int) : W1 (rd l i) := by
  unfold Ax.rd
  by_cases hi : i.toNat < l.length
  · have : l.getD i.toNat 0 = l[i.toNat] := by simp [List.getD, hi]
    rw [this]; exact h _ (List.getElem_mem hi)
  · have : l.getD i.toNat 0 = 0 := by simp [List.getD, List.getElem?_eq_none (Nat.le_of_not_lt hi)]
    rw [this]; unfold W1; omega
/-- It returns v; the store only grows. -/
def Pv (v : AV) : AV → St → Prop := fun v' _ => v' = v
/-- A row of its own, of these numbers. -/
def Ro (st : St) (l : List Int) : AV → St → Prop := fun v st' => ∃ r, v = .sl (some r) 0 l.length ∧ Fr st.n st' (some r) l
/-- A row of its own, or nil. -/
def Rn (st : St) (l : List Int) : AV → St → Prop := fun v st' => ∃ r, v = .sl r 0 l.length ∧ Fr st.n st' r l
/-- A slab whose words are a row of its own. -/
def Sn (st : St) (l : List Int) : AV → St → Prop := fun v st' => ∃ r, v = .agg [.sl r 0 l.length] ∧ Fr st.n st' r l
theorem Fr.bd {n0 : Nat} {st : St} {r : Option Nat} {l : List Int} (h : Fr n0 st r l) : ∀ i, r = some i → n0 ≤ i ∧ i < st.n := fun i hi => by
  rcases h with ⟨h, _⟩ | ⟨k, h, h1, h2, _⟩
  · rw [h] at hi; cases hi
  · rw [h] at hi; injection hi with hi; omega
theorem bF {p : Prop} [Decidable p] (h : ¬ p) : RV.v (.bool (decide p)) = .v (.bool false) := by rw [decide_eq_false h]
theorem bN {p : Prop} [Decidable p] (h : p) : RV.v (.bool (!decide p)) = .v (.bool false) := by rw [decide_eq_true h]; rfl
theorem bT {p : Prop} [Decidable p] (h : p) : RV.v (.bool (decide p)) = .v (.bool true) := by rw [decide_eq_true h]

/-- What is not turned stays. -/
theorem Fr.off {n0 : Nat} {st st' : St} {r r' : Option Nat} {l : List Int} {p q p' q' : Nat} (h : Fr n0 st r l) (he : Ext (fun i => r' = some i) st st') (hb : ∀ i, r = some i → p ≤ i ∧ i < q) (hb' : ∀ i, r' = some i → p' ≤ i ∧ i < q') (hd : q ≤ p' ∨ q' ≤ p) : Fr n0 st' r l :=
  h.ext he fun i e e' => by have := hb i e; have := hb' i e'; omega
theorem At.off {st0 st st' : St} {r r' : Option Nat} {o : Nat} {l : List Int} {p' q' : Nat} (h : At st r o l) (he : Ext (fun i => r' = some i) st st') (hb : ∀ i, r = some i → i < st0.n) (hb' : ∀ i, r' = some i → p' ≤ i ∧ i < q') (hd : st0.n ≤ p') : At st' r o l :=
  h.ext he fun i e e' => by have := hb i e; have := hb' i e'; omega
/-- How much is left: -1 where it is too much. -/
def Sz (st : St) (left n : Int) : AV → St → Prop := fun v st' => ∃ x, v = I x ∧ (left < n → x = -1) ∧ (n ≤ left → x = left - n) ∧ st = st'
/-- A row of the call's own bears the numbers k, k + 1, ..; nothing else has turned. -/
def upN : Int → Nat → List Int
  | _, 0 => []
  | k, n + 1 => k :: upN (k + 1) n
def Mk (n0 : Nat) (st : St) (r : Option Nat) (k : Int) (n : Nat) : AV → St → Prop := fun v st' => v = I (k + n) ∧ Fr n0 st' r (upN k n) ∧ Ext (fun i => r = some i) st st'

theorem spl_I (l : List Int) (j : Nat) (v : Int) (h : j < l.length) : (l.map I).take j ++ [I v] ++ (l.map I).drop (j + 1) = (l.set j v).map I := by
  rw [List.map_set, List.set_eq_take_append_cons_drop, if_pos (by simpa using h)]
  simp
theorem at_row {st : St} {i : Nat} {own : Bool} {l : List Int} (hi : i < st.n) (ho : st.ob i = .row own (l.map I)) : At st (some i) 0 l := fun j hj => by
  rw [cell_row hi ho, Nat.zero_add, List.getElem?_map, List.getElem?_eq_getElem hj]
  simp [List.getD, hj]
theorem At.cut {st : St} {r : Option Nat} {o : Nat} {l : List Int} (h : At st r o l) (p q : Nat) (hp : p ≤ q) (hq : q ≤ l.length) : At st r (o + p) ((l.drop p).take (q - p)) := fun j hj => by
  have hj' : j < q - p := by simp at hj; omega
  have := h (p + j) (by omega)
  rw [Nat.add_assoc, this]
  simp [List.getD, hj']
theorem At.nil (st : St) (r : Option Nat) (o : Nat) : At st r o [] := fun j hj => by simp at hj
theorem fr_push (st : St) (l : List Int) : Fr st.n (st.push (.row true (l.map I))) (some st.n) l := .inr ⟨st.n, rfl, Nat.le_refl _, Nat.lt_succ_self _, push_ob _ _⟩
theorem fr_nil (n0 : Nat) (st : St) : Fr n0 st none [] := .inl ⟨rfl, rfl⟩
theorem Fr.set {n0 : Nat} {st : St} {r : Nat} {l l' : List Int} (h : Fr n0 st (some r) l) : Fr n0 (st.set r (.row true (l'.map I))) (some r) l' := by
  rcases h with ⟨h, _⟩ | ⟨i, h, h1, hi, ho⟩
  · cases h
  · injection h with h; subst h
    exact .inr ⟨r, rfl, h1, hi, set_ob _ _ _⟩
theorem Fr.ob {n0 : Nat} {st : St} {r : Nat} {l : List Int} (h : Fr n0 st (some r) l) : n0 ≤ r ∧ r < st.n ∧ st.ob r = .row true (l.map I) := by
  rcases h with ⟨h, _⟩ | ⟨i, h, h1, hi, ho⟩
  · cases h
  · injection h with h; subst h
    exact ⟨h1, hi, ho⟩
theorem Fr.some_of {n0 : Nat} {st : St} {r : Option Nat} {l : List Int} (h : Fr n0 st r l) (hl : l ≠ []) : ∃ i, r = some i := by
  rcases h with ⟨_, h⟩ | ⟨i, h, _⟩
  · exact absurd h hl
  · exact ⟨i, h⟩
/-- What was made since is turned: what was there before is not. -/
theorem Ext.own {st0 st st' : St} {r : Option Nat} {l : List Int} (h : Ex st0 st) (hf : Fr st0.n st r l) (he : Ext (fun i => r = some i) st st') : Ex st0 st' :=
  h.trans he fun k hk e => by
    rcases hf with ⟨h1, _⟩ | ⟨i, h1, h2, _⟩
    · rw [h1] at e; cases e
    · rw [h1] at e; injection e with e; omega
theorem At.own {st0 st st' : St} {r r' : Option Nat} {o : Nat} {l xs : List Int} (h : At st r' o xs) (hf : Fr st0.n st r l) (he : Ext (fun i => r = some i) st st') (hn : ∀ i, r' = some i → i < st0.n) : At st' r' o xs :=
  h.ext he fun i e e' => by
    have := hn i e
    rcases hf with ⟨h1, _⟩ | ⟨k, h1, h2, _⟩
    · rw [h1] at e'; cases e'
    · rw [h1] at e'; injection e' with e'; omega

section
variable {P : Program} {tb : Tb} [TbOk P tb] {st0 : St} {N : Nat} {a : Aa} {st : St} {R : Aa → St → Prop} {m : Md}
variable {dst : Option Nat} {ty : Nat} {pos : String} {aft : Array Edge} {gd : Option (Nat × Bool)}
theorem o_mkI {T : Nat → Prop} {t : Nat} {lx cx : Operand} {k k' : IntKind} {q : Int} {e : Nat} (hm : m.loud) (ht : elem1 tb t = some (e, .int .i64, 8)) (hl : av a lx = .int k q) (hc : av a cx = .int k' q) (h0 : 0 ≤ q) (h1 : q ≤ 1048576000)
    (hR : R (a.put dst (.v (.sl (some st.n) 0 q.toNat))) (st.push (.row true ((List.replicate q.toNat 0).map I)))) : ALeaf P T st0 N ⟨dst, .makeSlice t lx cx, ty, pos, aft, gd⟩ m R a st :=
  o_make hm ht hl hc h0 (by show q * (8 : Int) ≤ _; omega) (by omega) (by rw [List.map_replicate] at hR; exact hR)
theorem o_stI {T : Nat → Prop} {t : Nat} {x v : Operand} {r : Nat} {j : Nat} {y : Int} {l : List Int} {i : TyI} (ht : look tb t = some i) (hx : av a x = .ptr (some r) j) (hf : r < st.n ∧ st.ob r = .row true (l.map I)) (hmay : May T st0 r) (hv : av a v = I y) (h1 : i.zero.length = 1) (hj : j < l.length)
    (hR : R (a.put dst (.v .junk)) (st.set r (.row true ((l.set j y).map I)))) : ALeaf P T st0 N ⟨dst, .store t x v, ty, pos, aft, gd⟩ .n R a st :=
  o_st (vs := [I y]) ht hx hf.1 hmay hf.2 (by rw [hv]; rfl) rfl h1.symm (by simp; omega) (by
    have e := spl_I l j y hj
    show R _ (st.set r (.row true ((l.map I).take j ++ [I y] ++ (l.map I).drop (j + 1))))
    rw [e]; exact hR)
/-- A store into a row of the call's own. -/
theorem o_stF {T : Nat → Prop} {t : Nat} {x v : Operand} {r : Option Nat} {j : Nat} {y : Int} {l : List Int} {i : TyI} (ht : look tb t = some i) (hx : av a x = .ptr r j) (hf : Fr st0.n st r l) (hv : av a v = I y) (h1 : i.zero.length = 1) (hj : j < l.length)
    (hR : ∀ st', Fr st0.n st' r (l.set j y) → Ext (fun i => r = some i) st st' → R (a.put dst (.v .junk)) st') : ALeaf P T st0 N ⟨dst, .store t x v, ty, pos, aft, gd⟩ .n R a st := by
  obtain ⟨r, rfl⟩ := hf.some_of (fun e => by subst e; simp at hj)
  obtain ⟨h2, h3, h4⟩ := hf.ob
  refine o_stI ht hx ⟨h3, h4⟩ (fun h => by omega) hv h1 hj (hR _ hf.set ?_)
  have := ext_set st r (.row true ((l.set j y).map I))
  exact ⟨this.n, fun i hi hn => this.ob i hi fun e => hn (by rw [e])⟩
theorem all_one (ys : List Int) : (ys.map I).all oneA = true := by induction ys with | nil => rfl | cons y ys ih => exact ih
/-- append to a row of the call's own. -/
theorem o_appF {s x : Operand} {t : Nat} {e : Nat} {r r' : Option Nat} {o n : Nat} {l ys : List Int} (ht : elem1 tb t = some (e, .int .i64, 8)) (hsv : av a s = .sl r 0 n) (hn : n = l.length) (hv : Fr st0.n st r l) (hx : av a x = .sl r' o ys.length) (hy : At st r' o ys) (hbig : l.length + ys.length ≤ 1099511627776)
    (hR : ∀ r2 st', Fr st0.n st' r2 (l ++ ys) → Ext (fun i => r = some i) st st' → R (a.put dst (.v (.sl r2 0 (l ++ ys).length))) st') : ALeaf P No st0 N ⟨dst, .call ⟨.builtin .append, #[s, x], #[t, t]⟩, ty, pos, aft, gd⟩ .n R a st := by
  subst hn
  refine o_append (l := l.map I) (ys := ys.map I) ht (by omega) hsv ?_ ⟨r', o, by rw [hx, List.length_map], fun j hj => ?_⟩ (all_one ys) (by simp; omega) (fun v' st' ho he => ?_)
  · rcases hv with ⟨rfl, rfl⟩ | ⟨i, rfl, h1, h2, h3⟩
    · exact .inl ⟨rfl, rfl⟩
    · exact .inr ⟨i, by rw [List.length_map], h2, fun h => absurd h (by omega), h3⟩
  · rw [List.length_map] at hj
    rw [hy j hj]; simp [List.getD, hj]
  · rw [← List.map_append] at ho
    rcases ho with ⟨rfl, h⟩ | ⟨i, rfl, h1, h2, h3⟩
    · have h : l ++ ys = [] := by simpa using h
      have := hR none st' (.inl ⟨rfl, h⟩) ⟨he.n, fun i hi hn => he.ob i hi fun ⟨o, n, e⟩ => hn (by injection e)⟩
      rw [h] at this; exact this
    · have := hR (some i) st' (.inr ⟨i, rfl, Nat.le_of_not_lt fun h => h2 h, h1, h3⟩) ⟨he.n, fun i hi hn => he.ob i hi fun ⟨o, n, e⟩ => hn (by injection e)⟩
      rw [List.length_map]; exact this
/-- A slice made of one number. -/
theorem o_one {T : Nat → Prop} {t : Nat} {x : Operand} {y : Int} {e : Nat} (hm : m.loud) (ht : elem1 tb t = some (e, .int .i64, 8)) (hx : av a x = I y)
    (hR : R (a.put dst (.v (.sl (some st.n) 0 [y].length))) (st.push (.row true ([y].map I)))) : ALeaf P T st0 N ⟨dst, .buildSlice t 1 #[(0, x)], ty, pos, aft, gd⟩ m R a st :=
  o_bslice (l := [I y]) hm ht (by decide) (by simp [partsA, setA, hx]; rfl) (by simp [partsA, hx, oneA]) hR

/-- Half of an unsigned number. -/
theorem o_half {T : Nat → Prop} {t yt : Nat} {x y : Operand} {n : Int} {j : IntKind} (hx : av a x = .int .u64 n) (hy : av a y = .int j 1) (h0 : 0 ≤ n)
    (hR : R (a.put dst (.v (.int .u64 (n / 2)))) st) : ALeaf P T st0 N ⟨dst, .binOp .shr t x y yt, ty, pos, aft, gd⟩ m R a st := by
  refine leaf_q (.v (.int .u64 (n / 2))) (fun μ0 w0 β μ w ca hinv => ?_) hR
  have hxv := av_vr hinv x
  have hyv := av_vr hinv y
  rw [hx] at hxv
  rw [hy] at hyv
  simp only [VR] at hxv hyv
  refine ⟨.int .u64 (n / 2), by simp [RR, VR], fun w' _ => ?_⟩
  have he : Op.shift .shr .u64 n j 1 = (pure (.int .u64 (n / 2)) : Sem Value) := by simp [Op.shift, IntKind.bits, Int.fdiv_eq_ediv_of_nonneg]
  simp [execOp, hxv, hyv, eqGuard_int, binOp, he]

/-- Variables of one cell whose place is handed on. -/
theorem o_alloc1 {T : Nat → Prop} {t : Nat} {z : Z} {b : Nat} (hm : m.loud) (ht : one1 tb t = some (z, b)) (hR : R (a.put dst (.v (.ptr (some st.n) 0))) (st.push (.row true [z.av]))) : ALeaf P T st0 N ⟨dst, .alloc t, ty, pos, aft, gd⟩ m R a st := by
  obtain ⟨i, hi, hz, _, _⟩ := one1_ok ht
  refine o_allocS hm hi ?_
  rw [hz]; exact hR
theorem o_st1 {T : Nat → Prop} {t : Nat} {x v : Operand} {r : Nat} {v0 u : AV} {z : Z} {b : Nat} (ht : one1 tb t = some (z, b)) (hx : av a x = .ptr (some r) 0) (hr : r < st.n) (hmay : May T st0 r) (ho : st.ob r = .row true [v0]) (hv : av a v = u) (hc : cellsB u = some [u]) (hu : oneA u = true)
    (hR : R (a.put dst (.v .junk)) (st.set r (.row true [u]))) : ALeaf P T st0 N ⟨dst, .store t x v, ty, pos, aft, gd⟩ .n R a st := by
  obtain ⟨i, hi, hz, _, _⟩ := one1_ok ht
  refine o_st (vs := [u]) hi hx hr hmay ho (by rw [hv]; exact hc) (by simp [hu]) (by rw [hz]; rfl) (by simp) ?_
  simpa using hR
theorem cell_set1 {st : St} {r : Nat} {u : AV} (hr : r < st.n) : cell (st.set r (.row true [u])) (some r) 0 = some u := by
  rw [cell_row (st := st.set r (.row true [u])) (i := r) hr (set_ob _ _ _)]; rfl
theorem cell_push1 (st : St) (u : AV) : cell (st.push (.row true [u])) (some st.n) 0 = some u := by
  rw [cell_row (st := st.push (.row true [u])) (i := st.n) (Nat.lt_succ_self _) (push_ob _ _)]; rfl
/-- Bools that are the same. -/
theorem o_neB {T : Nat → Prop} {t yt : Nat} {x y : Operand} {b : Bool} {i : TyI} (ht : look tb t = some i) (hk : i.k = .bool) (hx : av a x = .bool b) (hy : av a y = .bool b)
    (hR : R (a.put dst (.v (.bool false))) st) : ALeaf P T st0 N ⟨dst, .binOp .neq t x y yt, ty, pos, aft, gd⟩ m R a st := by
  refine leaf_q (.v (.bool false)) (fun μ0 w0 β μ w ca hinv => ?_) hR
  have hxv := av_vr hinv x
  have hyv := av_vr hinv y
  rw [hx] at hxv
  rw [hy] at hyv
  simp only [VR] at hxv hyv
  refine ⟨.bool false, by simp [RR, VR], fun w' _ => ?_⟩
  have hg : (eqGuard .neq t x y (.bool b) (.bool b)).run P w' = .ok () w' := by cases b <;> rfl
  have hu := (tyR (P := P) ht).und_of.2.1 hk
  have he : (Op.equal t (.bool b) (.bool b)).run P w' = .ok true w' := by
    rw [show Op.equal t (.bool b) (.bool b) = Op.equalIn (9999 + 1) t (.bool b) (.bool b) from rfl]
    generalize 9999 = d
    simp [Op.equalIn, underlying, hu]
  simp [execOp, hxv, hyv, hg, binOp, he]

variable {T : Nat → Prop} {Q : AX → Aa → St → Prop} {id : Nat} {l : List Oper} {x y : Code}
/-- All that is left of a region. -/
theorem s_all {ops : Array Oper} {K : Aa → St → Prop} {ms ms' : List Md} {l : List Oper} {a' : Aa} (h : runN tb ops l.length ms l a = some (ms', [], a')) (hq : K a' st) : AOps P T st0 N ops K ms l a st := s_run _ h hq
omit [TbOk P tb] in
/-- Ways that meet: what stands behind is walked once. -/
theorem c_sj {α : Type} (S : α → List (Nat × AV)) (X : α → List (Nat × Nat × List AV)) (J : α → St → Prop) (h : ACode P T st0 N x (thenQ (fun a' st' => ∃ i, leS a' (S i) ∧ leX a' (X i) ∧ J i st') Q) a st) (k : ∀ i st', J i st' → ACode P T st0 N y Q (mk (S i) (X i)) st') : ACode P T st0 N (.seq x y) Q a st := by
  refine c_seq (c_mono (fun e a' st' hq => ?_) h)
  cases e with
  | normal => obtain ⟨i, h1, h2, h3⟩ := hq; exact c_mk (S i) (X i) h1 h2 (k i st' h3)
  | exit id => exact hq
  | ret => exact hq
omit [TbOk P tb] in
/-- A region whose ways meet at its end. -/
theorem c_rj (S : List (Nat × AV)) (X : List (Nat × Nat × List AV)) (hd : dstsOk N l = true) (h : AOps P T st0 N l.toArray (fun a' st' => leS a' S ∧ leX a' X ∧ st = st') [] l a st) (k : ACode P T st0 N y Q (mk S X) st) : ACode P T st0 N (.seq (.region id l.toArray false) y) Q a st := by
  refine c_seq (c_mono (Q := fun e a' st' => match e with | .normal => leS a' S ∧ leX a' X ∧ st = st' | _ => False) (fun e a' st' hq => ?_) (c_region hd h))
  cases e with
  | normal => obtain ⟨h1, h2, rfl⟩ := hq; exact c_mk S X h1 h2 k
  | exit id => exact hq.elim
  | ret => exact hq.elim
/-- A region that draws its order, the last of its code. -/
theorem c_d1 {tb' : Tb} [TbOk P tb'] (sch : List Nat) (ms : List Md) (hd : dstsOk N l = true) (hB : drawOk l.toArray sch ms = true) (h : AOps P T st0 N l.toArray (Q .normal) ms (sch.filterMap (l.toArray[·]?)) a st) : ACode P T st0 N (.region id l.toArray true) Q a st :=
  c_draw (TbOk.mixed (tb := tb')) sch ms hd hB h
/-- A region that draws its order, whose ways meet at its end. -/
theorem c_dj {tb' : Tb} [TbOk P tb'] (sch : List Nat) (ms : List Md) (S : List (Nat × AV)) (X : List (Nat × Nat × List AV)) (hd : dstsOk N l = true) (hB : drawOk l.toArray sch ms = true)
    (h : AOps P T st0 N l.toArray (fun a' st' => leS a' S ∧ leX a' X ∧ st = st') ms (sch.filterMap (l.toArray[·]?)) a st) (k : ACode P T st0 N y Q (mk S X) st) : ACode P T st0 N (.seq (.region id l.toArray true) y) Q a st := by
  refine c_seq (c_mono (Q := fun e a' st' => match e with | .normal => leS a' S ∧ leX a' X ∧ st = st' | _ => False) (fun e a' st' hq => ?_) (c_draw (TbOk.mixed (tb := tb')) sch ms hd hB h))
  cases e with
  | normal => obtain ⟨h1, h2, rfl⟩ := hq; exact c_mk S X h1 h2 k
  | exit id => exact hq.elim
  | ret => exact hq.elim
/-- clear, of a cut of a row of the call's own. -/
theorem o_clrF {t : Nat} {x : Operand} {e : Nat} {r o n : Nat} {l : List Int} (ht : elem1 tb t = some (e, .int .i64, 8)) (hx : av a x = .sl (some r) o n) (hf : Fr st0.n st (some r) l) (hn : o + n ≤ l.length)
    (hR : ∀ st', Fr st0.n st' (some r) (l.take o ++ List.replicate n 0 ++ l.drop (o + n)) → Ext (fun i => some r = some i) st st' → R (a.put dst (.v (.tup []))) st') : ALeaf P T st0 N ⟨dst, .call ⟨.builtin .clear, #[x], #[t]⟩, ty, pos, aft, gd⟩ .n R a st := by
  obtain ⟨h2, h3, h4⟩ := hf.ob
  refine o_clear ht rfl hx h3 (fun h => by omega) h4 (by simpa using hn) ?_
  have e1 : (l.map I).take o ++ List.replicate n (Z.int .i64).av ++ (l.map I).drop (o + n) = (l.take o ++ List.replicate n 0 ++ l.drop (o + n)).map I := by
    simp only [List.map_append, List.map_take, List.map_drop, List.map_replicate]; rfl
  rw [e1]
  refine hR _ hf.set ?_
  have := ext_set st r (.row true ((l.take o ++ List.replicate n 0 ++ l.drop (o + n)).map I))
  exact ⟨this.n, fun i hi hn => this.ob i hi fun e => hn (by rw [e])⟩
end
end Go.Proofs.YtmphklmhhcmbnaaW.Ax
