/- Merged: Xk Xl Xm Xn Xo Xp Xq Xr Xs Xy Xmp Xmq Xmv Xmx. -/
import Derived.Test.YtmphklmhhcmbnaaDoorXA
import Derived.Laws.Append
import Derived.Laws.AppendOwn
import Derived.Lib.SliceRun
import Derived.Laws.BytesString
import Derived.MapKept
/- Slices: made, cut, appended to, cleared. -/
namespace Go.Proofs.YtmphklmhhcmbnaaDoorW.Ax
open Go Go.RowKit
set_option linter.unusedVariables false
theorem gcl (w : World) (need old : Nat) (e : TypeId) (h : need ≤ 1099511627776) : grownCap w need old e ≤ 9223372036854775807 :=
  Nat.le_trans (grownCap_le_maxLen w need old e (by unfold maxLen; omega)) (by unfold maxLen; omega)
set_option linter.unusedSimpArgs false

section
variable {P : Program} {tb : Tb} [TbOk P tb] {T : Nat → Prop} {st0 : St} {N : Nat} {a : Aa} {st : St} {R : Aa → St → Prop} {m : Md}
variable {dst : Option Nat} {ty : Nat} {pos : String} {aft : Array Edge} {gd : Option (Nat × Bool)}

omit [TbOk P tb] in
theorem zeroRow_get (z : Array Value) (n j : Nat) (hz : z.size = 1) (hj : j < n) : ((Array.range n).map (z[· % z.size]!)).getD j undef = z.getD 0 undef := by
  simp [hj, hz, Nat.mod_one]

theorem o_make {t : Nat} {lx cx : Operand} {k k' : IntKind} {q : Int} {e : Nat} {z : Z} {b : Nat} (hm : m.loud) (ht : elem1 tb t = some (e, z, b)) (hl : av a lx = .int k q) (hc : av a cx = .int k' q) (h0 : 0 ≤ q) (h1 : q * b ≤ 281474976710656) (h2 : q ≤ 1099511627776)
    (hR : R (a.put dst (.v (.sl (some st.n) 0 q.toNat))) (st.push (.row true (List.replicate q.toNat z.av)))) : ALeaf P T st0 N ⟨dst, .makeSlice t lx cx, ty, pos, aft, gd⟩ m R a st := by
  refine leaf_val _ _ no_T (loud_no hm st) (fun μ0 w0 β μ w ca hi => ?_) hR
  obtain ⟨hu, hz1⟩ := elem1_ok (P := P) ht
  obtain ⟨inf, zv, e1, e2, e3, e4, e5, e6⟩ := one1_info (P := P) hz1
  have hlv := av_vr hi lx
  have hcv := av_vr hi cx
  rw [hl] at hlv
  rw [hc] at hcv
  simp only [VR] at hlv hcv
  have hw : IntKind.i64.wrap q = q := by rw [IntKind.wrap_i64]; omega
  have hq : (q.toNat : Int) = q := Int.toNat_of_nonneg h0
  obtain ⟨cs, hcs, hcg⟩ : ∃ cs : Array Value, (if q.toNat * 1 = 0 then #[] else zv.cells) = cs ∧ (0 < q.toNat → cs = zv.cells) := ⟨_, rfl, fun h => by rw [if_neg (by omega)]⟩
  obtain ⟨r1, r2⟩ := push_row hi.rel (Pre.refl w) rfl (l := List.replicate q.toNat z.av) (cs := (Array.range q.toNat).map (cs[· % cs.size]!)) (E := e) (by simp) (fun j hj => by
    have hj' : j < q.toNat := by simpa using hj
    have hcs' := hcg (by omega)
    rw [hcs', zeroRow_get _ _ _ e5 hj']
    have : (List.replicate q.toNat z.av).getD j .junk = z.av := by simp [List.getD, hj']
    rw [this]
    exact e6 _ _)
  refine ⟨.slice (some ⟨w.heap.size, 0, none⟩) q.toNat q.toNat, _, _, ?_, ?_, r1, r2⟩
  · have hb : ¬ (281474976710656 < (inf.bytes : Int) * q) := by rw [e3, Int.mul_comm]; omega
    have hn : ¬ q < 0 := by omega
    simp [execOp, Instr.makeSlice, hlv, hcv, asInt, asIntOf, underlying, hu, typeInfo, e1, hw, hn, hb, sizeOf, e2, newRow]
    split
    · have h3 : q.toNat = 0 := by omega
      have e0 : ∀ f : Nat → Value, (Array.range 0).map f = #[] := fun f => Array.eq_empty_of_size_eq_zero (by simp)
      rw [h3, e0, e0]
    · rw [hcg (by omega)]
      simp [zeroValue, typeInfo, e1, e4]
  · simp only [VR]
    refine ⟨Nat.lt_succ_self _, _, q.toNat, rfl, Nat.le_refl _, .inr ?_⟩
    rw [upd_same]
    exact ⟨rfl, by simp, by omega⟩

theorem o_bslice {t len : Nat} {parts : Array (Nat × Operand)} {e : Nat} {z : Z} {b : Nat} {l : List AV} (hm : m.loud) (ht : elem1 tb t = some (e, z, b)) (hlen : len ≤ 16777216) (hl : setA (List.replicate len z.av) (partsA a parts.toList) = some l) (hone : ((partsA a parts.toList).all fun p => oneA p.2) = true)
    (hR : R (a.put dst (.v (.sl (some st.n) 0 len))) (st.push (.row true l))) : ALeaf P T st0 N ⟨dst, .buildSlice t len parts, ty, pos, aft, gd⟩ m R a st := by
  refine leaf_val _ _ no_T (loud_no hm st) (fun μ0 w0 β μ w ca hi => ?_) hR
  obtain ⟨hu, hz1⟩ := elem1_ok (P := P) ht
  obtain ⟨inf, zv, e1, e2, e3, e4, e5, e6⟩ := one1_info (P := P) hz1
  obtain ⟨zc, hzc, hzg⟩ : ∃ cs : Array Value, (if len = 0 then #[] else zv.cells) = cs ∧ (0 < len → cs = zv.cells) := ⟨_, rfl, fun h => by rw [if_neg (by omega)]⟩
  have hbase : VRL st.n μ (List.replicate len z.av) ((Array.range len).map (zc[· % zc.size]!)).toList := by
    refine VRL.of_get (by simp) fun j hj => ?_
    have hj' : j < len := by simpa using hj
    have h1 := zeroRow_get zv.cells len j e5 hj'
    rw [hzg (by omega)]
    have h2 : ((Array.range len).map (zv.cells[· % zv.cells.size]!)).toList.getD j undef = ((Array.range len).map (zv.cells[· % zv.cells.size]!)).getD j undef := by rw [List.getD, Array.getD_eq_getD_getElem?, Array.getElem?_toList]
    rw [h2, h1]
    have : (List.replicate len z.av).getD j .junk = z.av := by simp [List.getD, hj']
    rw [this]
    exact e6 _ _
  obtain ⟨cs, hf, hv⟩ := setA_ok (partsA a parts.toList) (parts.map fun (p : Nat × Operand) => (p.1, ca.eval p.2)).toList (List.replicate len z.av) l ((Array.range len).map (zc[· % zc.size]!)) (fun j => some (j * 1, 1)) hl hbase
    (fun j hj => by simp) (by rw [partsA_map]; simp [List.map_map, Function.comp_def])
    (fun j p q hp hq => by
      rw [partsA_get] at hp
      have hq' : (parts.toList[j]?).map (fun (p : Nat × Operand) => (p.1, ca.eval p.2)) = some q := by simpa using hq
      cases hx : parts.toList[j]? with
      | none => rw [hx] at hp; cases hp
      | some x =>
        rw [hx] at hp hq'
        simp only [Option.map_some, Option.some.injEq] at hp hq'
        subst hp; subst hq'
        refine ⟨av_vr hi x.2, ?_⟩
        have := List.all_eq_true.1 hone (x.1, av a x.2) (List.mem_iff_getElem?.2 ⟨j, by rw [partsA_get, hx]; rfl⟩)
        exact this)
  have hvl := hv.length
  have hll : l.length = len := by
    have : ∀ (ps : List (Nat × AV)) (l s : List AV), setA l ps = some s → s.length = l.length := by
      intro ps
      induction ps with
      | nil => intro l s h; simp only [setA] at h; injection h with h; rw [h]
      | cons p ps ih =>
        obtain ⟨i, v⟩ := p
        intro l s h
        simp only [setA] at h
        cases hb : Nat.blt i l.length with
        | false => rw [hb] at h; simp at h
        | true => rw [hb] at h; simp only [cond_true] at h; rw [ih _ _ h, List.length_set]
    rw [this _ _ _ hl]; simp
  obtain ⟨r1, r2⟩ := push_row hi.rel (Pre.refl w) rfl (l := l) (cs := cs) (E := e) (by simp at hvl; omega) (fun j hj => by simpa using hv.get j)
  refine ⟨.slice (some ⟨w.heap.size, 0, none⟩) len len, _, _, ?_, ?_, r1, r2⟩
  · have hparts : (parts.map fun (x : Nat × Operand) => match x with | (i, x) => (i, ca.eval x)) = (parts.map fun (p : Nat × Operand) => (p.1, ca.eval p.2)) := rfl
    have hbig : ¬ 16777216 < len := by omega
    simp only [execOp, hparts]
    simp [-Array.toList_map, Instr.buildSlice, underlying, hu, sizeOf, typeInfo, e1, e2, hbig, newRow]
    split
    · rename_i h0
      subst h0
      have hf' := hf
      simp only [Nat.mul_one] at hf'
      have e0 : ∀ f : Nat → Value, (Array.range 0).map f = #[] := fun f => Array.eq_empty_of_size_eq_zero (by simp)
      rw [e0] at hf'
      simp [-Array.toList_map, e0, hf']
    · rename_i h0
      rw [hzg (by omega)] at hf
      simp only [Nat.mul_one] at hf
      simp [-Array.toList_map, zeroValue, typeInfo, e1, e4, hf]
  · simp only [VR]
    refine ⟨Nat.lt_succ_self _, _, len, rfl, Nat.le_refl _, .inr ?_⟩
    rw [upd_same]
    simp at hvl
    exact ⟨rfl, by simp; omega, by omega⟩

def bndA (a : Aa) (x : Option Operand) (d : Int) : Option Int :=
  match x with
  | none => some d
  | some x => match av a x with | .int _ q => some q | _ => none
omit [TbOk P tb] in
theorem bndA_ok {x : Option Operand} {d q : Int} (h : bndA a x d = some q) : (x = none ∧ q = d) ∨ ∃ y k, x = some y ∧ av a y = .int k q := by
  unfold bndA at h
  split at h
  · injection h with h; exact .inl ⟨rfl, h.symm⟩
  · rename_i y
    split at h
    · rename_i k q' hk; injection h with h; subst h; exact .inr ⟨y, k, rfl, hk⟩
    · cases h

theorem o_slice {t : Nat} {x : Operand} {lo hi : Option Operand} {r : Option Nat} {o n : Nat} {p q : Int} {e : Nat × Z × Nat} (ht : elem1 tb t = some e) (hx : av a x = .sl r o n) (hlo : bndA a lo 0 = some p) (hhi : bndA a hi n = some q) (h0 : 0 ≤ p) (h1 : p ≤ q) (h2 : q ≤ n)
    (hR : R (a.put dst (.v (.sl r (cond r.isNone 0 (o + p.toNat)) (q.toNat - p.toNat)))) st) : ALeaf P T st0 N ⟨dst, .slice t x lo hi none, ty, pos, aft, gd⟩ m R a st := by
  obtain ⟨e, z, b⟩ := e
  refine leaf_q (.v (.sl r (cond r.isNone 0 (o + p.toNat)) (q.toNat - p.toNat))) (fun μ0 w0 β μ w ca hinv => ?_) hR
  obtain ⟨hu, h1'⟩ := elem1_ok (P := P) ht
  obtain ⟨inf, v, e1, e2, _⟩ := one1_info (P := P) h1'
  have hxv := av_vr hinv x
  rw [hx] at hxv
  have hlow : (lo = none ∧ p = 0) ∨ ∃ y k, lo = some y ∧ ca.eval y = .int k p := by
    rcases bndA_ok hlo with h | ⟨y, k, h, h'⟩
    · exact .inl h
    · have := av_vr hinv y; rw [h'] at this; simp only [VR] at this; exact .inr ⟨y, k, h, this⟩
  have hhigh : (hi = none ∧ q = n) ∨ ∃ y k, hi = some y ∧ ca.eval y = .int k q := by
    rcases bndA_ok hhi with h | ⟨y, k, h, h'⟩
    · exact .inl h
    · have := av_vr hinv y; rw [h'] at this; simp only [VR] at this; exact .inr ⟨y, k, h, this⟩
  have run : ∀ (A : Option Addr) (c : Nat), n ≤ c → ca.eval x = .slice A n c → ∀ w', (execOp ca.eval ⟨dst, .slice t x lo hi none, ty, pos, aft, gd⟩).run P w' = .ok (.value (.slice (if c = p.toNat then A else A.map (·.add (p.toNat * 1))) (q.toNat - p.toNat) (c - p.toNat))) w' := by
    intro A c hc hxe w'
    have hqc : q ≤ (c : Int) := by omega
    have hpq : p ≤ (q.toNat : Int) := by omega
    have hq0 : 0 ≤ q := by omega
    have hb : (Instr.sliceBounds true n c (lo.map ca.eval) (hi.map ca.eval) none).run P w' = .ok (p.toNat, q.toNat, c) w' := by
      rcases hlow with ⟨rfl, rfl⟩ | ⟨y, k, rfl, hy⟩ <;> rcases hhigh with ⟨rfl, rfl⟩ | ⟨y', k', rfl, hy'⟩
      · simp [Instr.sliceBounds]
      · simp [Instr.sliceBounds, Instr.sliceBound, hy', asIntOf, hq0, hqc]
      · have : p ≤ (n : Int) := by omega
        simp [Instr.sliceBounds, Instr.sliceBound, hy, asIntOf, h0, this]
      · simp [Instr.sliceBounds, Instr.sliceBound, hy, hy', asIntOf, hq0, hqc, h0, h1]
        intro hh
        omega
    simp [execOp, hxe, Instr.sliceAt, Instr.slice, underlying, hu, hb, sizeOf, typeInfo, e1, e2]
  cases r with
  | none =>
    simp only [VR] at hxv
    obtain ⟨rfl, rfl, A, hxe⟩ := hxv
    have hp : p = 0 := by omega
    have hq : q = 0 := by omega
    subst hp; subst hq
    refine ⟨.slice A 0 0, by simp [RR, VR], fun w' _ => ?_⟩
    simpa using run A 0 (Nat.le_refl _) hxe w'
  | some r =>
    simp only [VR] at hxv
    obtain ⟨hr, A, c, hxe, hc, hA⟩ := hxv
    refine ⟨_, ?_, fun w' _ => run (some A) c hc hxe w'⟩
    simp only [RR, VR, Option.isNone_some, cond_false]
    by_cases hcp : c = p.toNat
    · rw [if_pos hcp]
      exact ⟨hr, A, _, rfl, by omega, .inl (by omega)⟩
    · rw [if_neg hcp]
      refine ⟨hr, A.add (p.toNat * 1), c - p.toNat, rfl, by omega, .inr ?_⟩
      rcases hA with hA | ⟨hA, hz⟩
      · omega
      · rw [hA, Addr.add_lit, Nat.mul_one]
        exact ⟨by rw [Nat.add_assoc], by omega, by omega⟩
end
end Go.Proofs.YtmphklmhhcmbnaaDoorW.Ax

/- append, clear. -/
namespace Go.Proofs.YtmphklmhhcmbnaaDoorW.Ax
open Go Go.RowKit
set_option linter.unusedVariables false
set_option linter.unusedSimpArgs false

section
variable {P : Program}
/-- What is appended: so many cells. -/
structure Src (P : Program) (w : World) (x : Value) (k : Nat) (news : List Value) : Prop where
  len : ∀ w', (Builtin.lenOf x).run P w' = .ok k w'
  cells : ∀ w', w'.heap = w.heap → (Builtin.firstCells 1 k x).run P w' = .ok news.toArray w'
  n : news.length = k
  one : ∀ u ∈ news, u.oneCell' = true

theorem run_app_nil0 {w : World} {t u ty e : Nat} {du : TypeDesc} (ht : P.underlying t = some (.slice e)) (hu : P.underlying u = some du) (hdu : ∀ k, du ≠ .int k) {inf : TypeInfo} (hi : P.info? e = some inf) (h1 : inf.size = 1) {x : Value} {news : List Value} (hs : Src P w x 0 news) :
    (Builtin.append_ #[t, u] ty #[.slice none 0 0, x]).run P w = .ok (.slice none 0 0) w := by
  have hz : (Builtin.firstCells 1 0 x).run P w = .ok news.toArray w := hs.cells w rfl
  have hnot : (match du with | .int _ => true | _ => false) = false := by cases du <;> first | rfl | exact absurd rfl (hdu _)
  simp [Builtin.append_, underlying, ht, hu, hnot, sizeOf, typeInfo, hi, h1, hs.len, hz]

theorem run_first0 (A : Option Addr) (w : World) : (Builtin.firstCells 1 0 (.slice A 0 0)).run P w = .ok ([] : List Value).toArray w := by
  cases A with
  | none => simp [Builtin.firstCells]
  | some a => exact run_firstCells_some w 1 0 a _ 0 [] (by simp) (fun j u hu => by simp at hu)
theorem run_app_room {w : World} {t u ty e : Nat} {du : TypeDesc} (ht : P.underlying t = some (.slice e)) (hu : P.underlying u = some du) (hdu : ∀ k, du ≠ .int k) {inf : TypeInfo} (hi : P.info? e = some inf) (h1 : inf.size = 1) {x : Value} {k : Nat} {news : List Value} (hs : Src P w x k news)
    {g o n c E : Nat} {cur : Array Value} (hg : w.heap[g]? = some (.cells cur E (0, 0))) (hroom : n + k ≤ c) (hfit : o + n + k ≤ cur.size) :
    (Builtin.append_ #[t, u] ty #[.slice (some ⟨g, o, none⟩) n c, x]).run P w = .ok (.slice (some ⟨g, o, none⟩) (n + k) c) (w.setRow g (cur.toList.take (o + n) ++ news ++ cur.toList.drop (o + n + k)).toArray) := by
  have hz : (Builtin.firstCells 1 k x).run P w = .ok news.toArray w := hs.cells w rfl
  have hnot : (match du with | .int _ => true | _ => false) = false := by cases du <;> first | rfl | exact absurd rfl (hdu _)
  have hst := run_storeCells_at P g (o + n) E news 0 cur w hg (by rw [hs.n]; omega) hs.one
  rw [hs.n, Nat.add_zero] at hst
  simp [Builtin.append_, underlying, ht, hu, hnot, sizeOf, typeInfo, hi, h1, hs.len, hz, hroom, Addr.add_lit, hst]
theorem run_app_room0 {w : World} {t u ty e : Nat} {du : TypeDesc} (ht : P.underlying t = some (.slice e)) (hu : P.underlying u = some du) (hdu : ∀ k, du ≠ .int k) {inf : TypeInfo} (hi : P.info? e = some inf) (h1 : inf.size = 1) {x : Value} {news : List Value} (hs : Src P w x 0 news) {A : Addr} {n c : Nat} (hc : n ≤ c) :
    (Builtin.append_ #[t, u] ty #[.slice (some A) n c, x]).run P w = .ok (.slice (some A) n c) w := by
  have hz : (Builtin.firstCells 1 0 x).run P w = .ok news.toArray w := hs.cells w rfl
  have hn : news = [] := List.eq_nil_of_length_eq_zero hs.n
  subst hn
  have hnot : (match du with | .int _ => true | _ => false) = false := by cases du <;> first | rfl | exact absurd rfl (hdu _)
  simp [Builtin.append_, underlying, ht, hu, hnot, sizeOf, typeInfo, hi, h1, hs.len, hz, hc, storeCells]
theorem run_app_grow {w : World} {t u ty e : Nat} {du : TypeDesc} (ht : P.underlying t = some (.slice e)) (hu : P.underlying u = some du) (hdu : ∀ k, du ≠ .int k) {inf : TypeInfo} (hi : P.info? e = some inf) (h1 : inf.size = 1) {z : Value} (hz0 : inf.zero = some z) {x : Value} {k : Nat} {news : List Value} (hs : Src P w x k news)
    {A : Option Addr} {n c : Nat} {olds : List Value} (hold : ∀ w', w'.heap = w.heap → (Builtin.firstCells 1 n (.slice A n c)).run P w' = .ok olds.toArray w') (hgrow : c < n + k) (hfit : (n + k) * inf.bytes ≤ 140737488355328) (h63 : n + k ≤ 1099511627776) :
    (Builtin.append_ #[t, u] ty #[.slice A n c, x]).run P w = .ok (.slice (some ⟨w.heap.size, 0, none⟩) (n + k) (grownCap w (n + k) c e)) (w.drew.alloc (.cells (olds.toArray ++ news.toArray ++ Builtin.zeroCells z.cells (grownCap w (n + k) c e - (n + k))) e)) := by
  have hz : (Builtin.firstCells 1 k x).run P w.drew = .ok news.toArray w.drew := hs.cells _ rfl
  have hnot : (match du with | .int _ => true | _ => false) = false := by cases du <;> first | rfl | exact absurd rfl (hdu _)
  have hn : ¬ (n + k ≤ c) := by omega
  have h63' : ¬ (9223372036854775807 < ((n : Int) + (k : Int))) := by omega
  have h48' : ¬ (281474976710656 < Builtin.nextslicecap (n + k) c * inf.bytes) := by have := growslice_fits (bytes := inf.bytes) hgrow hfit; omega
  have ho := hold w.drew rfl
  simp [Builtin.append_, underlying, ht, hu, hnot, sizeOf, typeInfo, zeroValue, hi, h1, hz0, hs.len, hn, h63', h48', Question.forced, ho, hz, newRow, grownCap]
  have e9 : ∀ Z : Array Value, olds.toArray ++ (news.toArray ++ Z) = (olds ++ news).toArray ++ Z := fun Z => by rw [← Array.append_assoc]; simp
  rw [e9]
end

section
variable {P : Program} {tb : Tb} [TbOk P tb] {T : Nat → Prop} {st0 : St} {N : Nat} {a : Aa} {st : St} {R : Aa → St → Prop} {m : Md}
variable {dst : Option Nat} {ty : Nat} {pos : String} {aft : Array Edge} {gd : Option (Nat × Bool)}

/-- What is read of a slice: its elements. -/
def Rd (st : St) (v : AV) (l : List AV) : Prop := ∃ r o, v = .sl r o l.length ∧ ∀ j, j < l.length → cell st r (o + j) = some (l.getD j .junk)
/-- A slice that the call may append to: nil, or a row that it may touch. -/
def Out (T : Nat → Prop) (st0 st : St) (v : AV) (l : List AV) : Prop := (v = .sl none 0 0 ∧ l = []) ∨ ∃ r, v = .sl (some r) 0 l.length ∧ r < st.n ∧ May T st0 r ∧ st.ob r = .row true l

omit [TbOk P tb] in
theorem rd_cells {μ0 : Nat → Loc} {w0 : World} {β : Nat → Nat} {μ : Nat → Loc} {w : World} {ca : Act} (hi : Inv T μ0 st0 w0 N β a μ st w ca) {v : AV} {l : List AV} {cv : Value} (h : Rd st v l) (hv : VR st.n μ v cv) :
    ∃ (A : Option Addr) (c : Nat) (cl : List Value), cv = .slice A l.length c ∧ VRL st.n μ l cl ∧ (∀ ad, A = some ad → ∀ j u, cl[j]? = some u → w.cell? (ad.add j) = some u) ∧ (A = none → cl = []) := by
  obtain ⟨r, o, rfl, hc⟩ := h
  cases r with
  | none =>
    simp only [VR] at hv
    obtain ⟨_, hl, A, rfl⟩ := hv
    have : l = [] := List.eq_nil_of_length_eq_zero hl
    subst this
    exact ⟨A, 0, [], rfl, rfl, (fun ad h j u hu => by simp at hu), fun _ => rfl⟩
  | some r =>
    simp only [VR] at hv
    obtain ⟨hr, A, c, rfl, hlc, hA⟩ := hv
    by_cases hl0 : l = []
    · subst hl0
      exact ⟨some A, c, [], rfl, rfl, (fun ad h j u hu => by simp at hu), fun _ => rfl⟩
    · have hlen : 0 < l.length := List.length_pos_iff.2 hl0
      obtain ⟨q, e, _, cs, E, fz, _, hg, _⟩ := cell_w hi (hc 0 hlen)
      injection e with e
      subst e
      rcases hA with hA | ⟨hA, hz⟩
      · omega
      · have hcell : ∀ j, j < l.length → VR st.n μ (l.getD j .junk) (cs.getD ((μ r).s + (o + j)) undef) ∧ (μ r).s + (o + j) < cs.size := fun j hj => by
          obtain ⟨q, e, _, cs', E', fz', cv, hg', hcv, hvv, hb⟩ := cell_w hi (hc j hj)
          injection e with e
          subst e
          rw [hg] at hg'
          injection hg' with hg'
          injection hg' with e1 e2 e3
          subst e1
          exact ⟨by rw [Array.getD_eq_getD_getElem?, hcv]; exact hvv, hb⟩
        refine ⟨some A, c, (List.range l.length).map fun j => cs.getD ((μ r).s + (o + j)) undef, rfl, VRL.of_get (by simp) (fun j hj => ?_), fun ad h j u hu => ?_, fun h => by cases h⟩
        · have : ((List.range l.length).map fun j => cs.getD ((μ r).s + (o + j)) undef).getD j undef = cs.getD ((μ r).s + (o + j)) undef := by
            simp [List.getD, hj]
          rw [this]
          exact (hcell j hj).1
        · injection h with h
          subst h
          have hj : j < l.length := by
            have := (List.getElem?_eq_some_iff.1 hu).1
            simpa using this
          simp only [List.getElem?_map, List.getElem?_range hj, Option.map_some] at hu
          injection hu with hu
          rw [hA, Addr.add_lit, cell_of_row w _ _ cs E fz hg, Nat.add_assoc, ← hu]
          have := (hcell j hj).2
          rw [Array.getD_eq_getD_getElem?, Array.getElem?_eq_getElem this]
          rfl

omit [TbOk P tb] in
theorem src_of_rd {μ0 : Nat → Loc} {w0 : World} {β : Nat → Nat} {μ : Nat → Loc} {w : World} {ca : Act} (hi : Inv T μ0 st0 w0 N β a μ st w ca) {v : AV} {l : List AV} {cv : Value} (h : Rd st v l) (hv : VR st.n μ v cv) (hone : l.all oneA = true) :
    ∃ news, Src P w cv l.length news ∧ VRL st.n μ l news := by
  obtain ⟨A, c, cl, rfl, hvl, hcell, hnil⟩ := rd_cells hi h hv
  refine ⟨cl, ⟨fun w' => rfl, fun w' hw' => ?_, hvl.length, VRL.ones hvl hone⟩, hvl⟩
  cases A with
  | none =>
    have := hnil rfl
    subst this
    simp [Builtin.firstCells]
  | some ad =>
    have hc' : ∀ j u, cl[j]? = some u → w'.cell? (ad.add j) = some u := fun j u hu => by
      have := hcell ad rfl j u hu
      simpa [World.cell?, hw'] using this
    exact run_firstCells_some w' 1 l.length ad _ c cl (by rw [hvl.length]; omega) hc'

omit [TbOk P tb] in
theorem getD_app {l : List AV} {cs1 cs2 cs3 : List Value} {n : Nat} {μ : Nat → Loc} {l2 : List AV} (h1 : VRL n μ l cs1) (h2 : VRL n μ l2 cs2) (j : Nat) (hj : j < (l ++ l2).length) : VR n μ ((l ++ l2).getD j .junk) ((cs1.toArray ++ cs2.toArray ++ cs3.toArray).getD j undef) := by
  have h := (h1.append h2).get j
  have e : (cs1.toArray ++ cs2.toArray ++ cs3.toArray).getD j undef = (cs1 ++ cs2).getD j undef := by
    have hlen := (h1.append h2).length
    have hj' : j < (cs1 ++ cs2).length := by omega
    rw [Array.getD_eq_getD_getElem?, ← Array.getElem?_toList]
    simp only [Array.toList_append, List.getD]
    rw [List.getElem?_append_left hj']
  rw [e]
  exact h

/-- append, of a slice of the call's own, of what is read of another slice. -/
theorem o_append {s x : Operand} {t : Nat} {e : Nat} {z : Z} {b : Nat} {v : AV} {l ys : List AV} (ht : elem1 tb t = some (e, z, b)) (hb : b ≤ 16) (hsv : av a s = v) (hv : Out T st0 st v l) (hx : Rd st (av a x) ys) (hone : ys.all oneA = true) (hbig : l.length + ys.length ≤ 1099511627776)
    (hR : ∀ v' st', Out T st0 st' v' (l ++ ys) → Ext (fun i => ∃ o n, v = .sl (some i) o n) st st' → R (a.put dst (.v v')) st') : ALeaf P T st0 N ⟨dst, .call ⟨.builtin .append, #[s, x], #[t, t]⟩, ty, pos, aft, gd⟩ .n R a st := by
  intro hd μ0 w0 β μ w ca hi Q'
  obtain ⟨hu, hz1⟩ := elem1_ok (P := P) ht
  obtain ⟨inf, zv, e1, e2, e3, e4, e5, e6⟩ := one1_info (P := P) hz1
  have hsvv := av_vr hi s
  rw [hsv] at hsvv
  obtain ⟨news, hsrc, hnews⟩ := src_of_rd (P := P) hi hx (av_vr hi x) hone
  have hexec : ∀ cv w', (Builtin.append_ #[t, t] ty #[ca.eval s, ca.eval x]).run P w = .ok cv w' → (execOp ca.eval ⟨dst, .call ⟨.builtin .append, #[s, x], #[t, t]⟩, ty, pos, aft, gd⟩).run P w = .ok (.value cv) w' := fun cv w' h => by
    simp [execOp, resolve, invoke, builtin, h]
  have hfit : ∀ n, n ≤ 1099511627776 → n * inf.bytes ≤ 140737488355328 := fun n hn => by
    rw [e3]
    have := Nat.mul_le_mul hn hb
    omega
  have fin : ∀ (cv : Value) (v' : AV) (μ' : Nat → Loc) (st' : St) (w' : World) (T' : Nat → Prop), (Builtin.append_ #[t, t] ty #[ca.eval s, ca.eval x]).run P w = .ok cv w' → VR st'.n μ' v' cv → Rel μ' st' w' → Stp T' μ st w μ' st' w' → (∀ i, i < st0.n → T' i → T i) → (∀ i, T' i → ∃ o n, v = .sl (some i) o n) → Out T st0 st' v' (l ++ ys) →
      (execOp ca.eval ⟨dst, .call ⟨.builtin .append, #[s, x], #[t, t]⟩, ty, pos, aft, gd⟩).run P w = .ok (.value cv) w' ∧ Good T μ0 st0 w0 N R (ca.put dst cv) w' := fun cv v' μ' st' w' T' hrun hvr hrel hstp hT hTv hout =>
    ⟨hexec cv w' hrun, β, _, μ', st', (hi.step hrel hstp hT).put (r := .v v') hd hvr, hR v' st' hout ⟨hstp.n, fun i hi hn => hstp.ob i hi fun ht => hn (hTv i ht)⟩⟩
  suffices h : ∃ cv w', (execOp ca.eval ⟨dst, .call ⟨.builtin .append, #[s, x], #[t, t]⟩, ty, pos, aft, gd⟩).run P w = .ok (.value cv) w' ∧ Good T μ0 st0 w0 N R (ca.put dst cv) w' by
    obtain ⟨cv, w', h1, h2⟩ := h
    unfold Oper.wp
    rw [h1]
    exact ⟨(fun hh => by cases hh), h2⟩
  have hzl : ∀ n : Nat, Builtin.zeroCells zv.cells n = ((Builtin.zeroCells zv.cells n).toList).toArray := fun n => by simp
  rcases hv with ⟨hvn, hln⟩ | ⟨r, hvr, hr, hmay, hob⟩
  · -- nil
    rw [hvn] at hsvv
    subst hln
    simp only [VR] at hsvv
    obtain ⟨_, _, A, hsvv⟩ := hsvv
    by_cases hk : ys = []
    · subst hk
      refine ⟨.slice A 0 0, w, fin _ (.sl none 0 0) μ st w No ?_ (by simp [VR]) hi.rel (Stp.refl _ _ _ _) (fun _ _ h => h.elim) (fun _ h => h.elim) (.inl ⟨rfl, rfl⟩)⟩
      rw [hsvv]
      cases A with
      | none => exact run_app_nil0 hu hu (fun k h => by cases h) e1 e2 hsrc
      | some a => exact run_app_room0 hu hu (fun k h => by cases h) e1 e2 hsrc (Nat.le_refl _)
    · have hpos : 0 < ys.length := List.length_pos_iff.2 hk
      have hrun := run_app_grow (P := P) (w := w) (ty := ty) hu hu (fun k h => by cases h) e1 e2 e4 hsrc (A := A) (n := 0) (c := 0) (olds := []) (fun w' _ => run_first0 A w') (by omega) (hfit _ (by omega)) (by omega)
      rw [hzl] at hrun
      have hge := grownCap_ge w (0 + ys.length) 0 e
      have hge' := grownCap_ge w ys.length 0 e
      obtain ⟨r1, r2⟩ := push_row hi.rel (Pre.drew w) rfl (l := ys) (cs := #[] ++ news.toArray ++ ((Builtin.zeroCells zv.cells (grownCap w (0 + ys.length) 0 e - (0 + ys.length))).toList).toArray) (E := e)
        (by have := hsrc.n; simp; omega) (fun j hj => getD_app (l := []) (cs1 := []) rfl hnews j hj)
      refine ⟨_, _, fin _ (.sl (some st.n) 0 ys.length) _ _ _ No (by rw [hsvv]; exact hrun) ?_ r1 r2 (fun _ _ h => h.elim) (fun _ h => h.elim) (.inr ⟨st.n, rfl, Nat.lt_succ_self _, fun h => ?_, push_ob _ _⟩)⟩
      · simp only [VR]
        refine ⟨Nat.lt_succ_self _, _, _, by rw [Nat.zero_add], by omega, .inr ?_⟩
        rw [upd_same]
        refine ⟨rfl, ?_, gcl _ _ _ _ (by omega)⟩
        have := hsrc.n
        simp [size_zeroCells, e5]
        omega
      · have := hi.stp.n; omega
  · rw [hvr] at hsvv
    simp only [VR] at hsvv
    obtain ⟨_, A, c, hse, hlc, hA⟩ := hsvv
    have hobr := hi.rel.obj r hr
    rw [hob] at hobr
    obtain ⟨cs, E, fz, g1, g2, g3, g4, g5⟩ := hobr
    have hfz := g2 rfl
    subst hfz
    have hown : (st.ob r).own = true := by rw [hob]; rfl
    have hTr : ∀ i, i < st0.n → i = r → T i := fun i hi e => by subst e; exact hmay hi
    have hTv : ∀ i, i = r → ∃ o n, v = .sl (some i) o n := fun i e => by subst e; exact ⟨_, _, hvr⟩
    have hmay' : May T st0 st.n := fun h => by have := hi.stp.n; omega
    by_cases hroom : l.length + ys.length ≤ c
    · by_cases hc0 : c = 0
      · have hl0 : l = [] := List.eq_nil_of_length_eq_zero (by omega)
        have hy0 : ys = [] := List.eq_nil_of_length_eq_zero (by omega)
        subst hl0; subst hy0; subst hc0
        obtain ⟨r1, r2⟩ := app_ok hi.rel hr hown (o := .row true []) (L := μ r) (w' := w) (.inl rfl) (Nat.le_refl _) (fun _ _ _ => rfl) rfl rfl rfl ⟨cs, E, (0, 0), g1, fun _ => rfl, by simp at g3 ⊢; omega, g4, fun j hj => by simp at hj⟩
        refine ⟨_, _, fin _ (.sl (some st.n) 0 0) _ _ w (· = r) (by rw [hse]; exact run_app_room0 hu hu (fun k h => by cases h) e1 e2 hsrc (Nat.le_refl _)) ?_ r1 r2 hTr hTv (.inr ⟨st.n, rfl, Nat.lt_succ_self _, hmay', app_ob _ _ _⟩)⟩
        simp only [VR]
        exact ⟨Nat.lt_succ_self _, _, _, rfl, Nat.le_refl _, .inl rfl⟩
      · rcases hA with hA | ⟨hA, hz⟩
        · exact absurd hA hc0
        · rw [Nat.add_zero] at hA hz
          have hrun := run_app_room (P := P) (w := w) (ty := ty) hu hu (fun k h => by cases h) e1 e2 hsrc (g := (μ r).b) (o := (μ r).s) (n := l.length) (c := c) g1 hroom (by omega)
          have hnn := hsrc.n
          obtain ⟨r1, r2⟩ := app_ok hi.rel hr hown (o := .row true (l ++ ys)) (L := μ r) (w' := w.setRow (μ r).b (cs.toList.take ((μ r).s + l.length) ++ news ++ cs.toList.drop ((μ r).s + l.length + ys.length)).toArray) (.inl rfl) (by simp [World.setRow]) (fun b _ hb => setRow_other w _ b _ hb) rfl rfl rfl
            ⟨_, E, (0, 0), setRow_heap w _ cs _ E (0, 0) g1, fun _ => rfl, by simp; omega, by simp; omega, fun j hj => by
              have hcl := Array.length_toList (xs := cs)
              have e7 : (cs.toList.take ((μ r).s + l.length) ++ news ++ cs.toList.drop ((μ r).s + l.length + ys.length)).toArray.getD ((μ r).s + j) undef = (cs.toList.take ((μ r).s + l.length) ++ news ++ cs.toList.drop ((μ r).s + l.length + news.length)).getD ((μ r).s + j) undef := by
                rw [hnn]; simp [List.getD]
              rw [e7, splice_get cs.toList news ((μ r).s + l.length) ((μ r).s + j) undef (by omega)]
              have hj' : j < l.length + ys.length := by simpa using hj
              refine VR.mono (Nat.le_succ _) (mu_push μ st _) _ _ ?_
              by_cases c1 : j < l.length
              · rw [if_neg (by omega)]
                have := g5 j c1
                have e8 : (l ++ ys).getD j .junk = l.getD j .junk := by simp [List.getD, List.getElem?_append_left c1]
                rw [e8]
                simpa [List.getD] using this
              · rw [if_pos (by omega), show (μ r).s + j - ((μ r).s + l.length) = j - l.length by omega]
                have e8 : (l ++ ys).getD j .junk = ys.getD (j - l.length) .junk := by simp [List.getD, List.getElem?_append_right (Nat.le_of_not_lt c1)]
                rw [e8]
                exact hnews.get _⟩
          refine ⟨_, _, fin _ (.sl (some st.n) 0 (l.length + ys.length)) _ _ _ (· = r) (by rw [hse, hA]; exact hrun) ?_ r1 r2 hTr hTv (.inr ⟨st.n, by simp, Nat.lt_succ_self _, hmay', app_ob _ _ _⟩)⟩
          simp only [VR]
          refine ⟨Nat.lt_succ_self _, _, _, rfl, hroom, .inr ?_⟩
          rw [upd_same]
          exact ⟨rfl, by omega, hz.2⟩
    · have hold : ∀ w', w'.heap = w.heap → (Builtin.firstCells 1 l.length (.slice (some A) l.length c)).run P w' = .ok ((List.range l.length).map fun j => cs.getD ((μ r).s + j) undef).toArray w' := fun w' hw' => by
        refine run_firstCells_some w' 1 l.length A _ c _ (by simp) (fun j u hu => ?_)
        have hj : j < l.length := by
          have := (List.getElem?_eq_some_iff.1 hu).1
          simpa using this
        simp only [List.getElem?_map, List.getElem?_range hj, Option.map_some] at hu
        injection hu with hu
        rcases hA with hA | ⟨hA, hz⟩
        · omega
        · rw [hA, Addr.add_lit, cell_of_row w' _ _ cs E (0, 0) (by rw [hw']; exact g1), ← hu, Nat.add_zero]
          have : (μ r).s + j < cs.size := by omega
          rw [Array.getD_eq_getD_getElem?, Array.getElem?_eq_getElem this]
          rfl
      have hrun := run_app_grow (P := P) (w := w) (ty := ty) hu hu (fun k h => by cases h) e1 e2 e4 hsrc hold (by omega) (hfit _ hbig) hbig
      rw [hzl] at hrun
      have hge := grownCap_ge w (l.length + ys.length) c e
      have holds : VRL st.n μ l ((List.range l.length).map fun j => cs.getD ((μ r).s + j) undef) := VRL.of_get (by simp) fun j hj => by
        have : ((List.range l.length).map fun j => cs.getD ((μ r).s + j) undef).getD j undef = cs.getD ((μ r).s + j) undef := by simp [List.getD, hj]
        rw [this]
        exact g5 j hj
      have hnn := hsrc.n
      obtain ⟨r1, r2⟩ := app_ok hi.rel hr hown (o := .row true (l ++ ys)) (L := ⟨w.heap.size, 0, (((List.range l.length).map fun j => cs.getD ((μ r).s + j) undef).toArray ++ news.toArray ++ ((Builtin.zeroCells zv.cells (grownCap w (l.length + ys.length) c e - (l.length + ys.length))).toList).toArray).size⟩) (.inr (Nat.le_refl _)) (pre_drew_alloc w _).size
        (fun b hb _ => (pre_drew_alloc w _).blk b hb) rfl rfl rfl ⟨_, e, (0, 0), heap_alloc_new w.drew _, fun _ => rfl, by simp; omega, Nat.le_refl _, fun j hj => by
          rw [Nat.zero_add]
          exact VR.mono (Nat.le_succ _) (mu_push μ st _) _ _ (getD_app holds hnews j hj)⟩
      refine ⟨_, _, fin _ (.sl (some st.n) 0 (l.length + ys.length)) _ _ _ (· = r) (by rw [hse]; exact hrun) ?_ r1 r2 hTr hTv (.inr ⟨st.n, by simp, Nat.lt_succ_self _, hmay', app_ob _ _ _⟩)⟩
      simp only [VR]
      refine ⟨Nat.lt_succ_self _, _, _, rfl, hge, .inr ?_⟩
      rw [upd_same]
      refine ⟨rfl, ?_, gcl _ _ _ _ (by omega)⟩
      simp [size_zeroCells, e5]
      omega
end
end Go.Proofs.YtmphklmhhcmbnaaDoorW.Ax

/- clear; strings; small rules. -/
namespace Go.Proofs.YtmphklmhhcmbnaaDoorW.Ax
open Go Go.RowKit
set_option linter.unusedVariables false
set_option linter.unusedSimpArgs false

section
variable {P : Program} {tb : Tb} [TbOk P tb] {T : Nat → Prop} {st0 : St} {N : Nat} {a : Aa} {st : St} {R : Aa → St → Prop} {m : Md}
variable {dst : Option Nat} {ty : Nat} {pos : String} {aft : Array Edge} {gd : Option (Nat × Bool)}

/-- The builtin clear, of a cut of a row of the call's own. -/
theorem o_clear {x : Operand} {t : Nat} {e : Nat} {z : Z} {b r o n : Nat} {l : List AV} (ht : elem1 tb t = some (e, z, b)) (hz : oneA z.av = true) (hx : av a x = .sl (some r) o n) (hr : r < st.n) (hmay : May T st0 r) (ho : st.ob r = .row true l) (hn : o + n ≤ l.length)
    (hR : R (a.put dst (.v (.tup []))) (st.set r (.row true (l.take o ++ List.replicate n z.av ++ l.drop (o + n))))) : ALeaf P T st0 N ⟨dst, .call ⟨.builtin .clear, #[x], #[t]⟩, ty, pos, aft, gd⟩ .n R a st := by
  refine leaf_val (T' := (· = r)) (.tup []) _ (fun k hk e => by subst e; exact hmay hk) (.inl rfl) (fun μ0 w0 β μ w ca hinv => ?_) hR
  obtain ⟨hu, hz1⟩ := elem1_ok (P := P) ht
  obtain ⟨inf, zv, e1, e2, e3, e4, e5, e6⟩ := one1_info (P := P) hz1
  have h := hinv.rel.obj r hr
  rw [ho] at h
  obtain ⟨cs, E, fz, h1, h2, h3, h4, h5⟩ := h
  have hfz := h2 rfl
  subst hfz
  have hxv := av_vr hinv x
  rw [hx] at hxv
  simp only [VR] at hxv
  obtain ⟨_, A, c, hxe, hnc, hA⟩ := hxv
  have hown : (st.ob r).own = true := by rw [ho]; rfl
  have hvr : ∀ st' μ', VR st' μ' (.tup []) (.tuple #[]) := fun st' μ' => by simp [VR, VRL]
  by_cases hn0 : n = 0
  · subst hn0
    have e0 : l.take o ++ List.replicate 0 z.av ++ l.drop (o + 0) = l := by simp
    rw [e0]
    obtain ⟨r1, r2⟩ := set_ok hinv.rel hr hown (o := .row true l) (w' := w) rfl (fun _ _ => rfl) rfl rfl rfl ⟨cs, E, (0, 0), h1, fun _ => rfl, h3, h4, h5⟩
    refine ⟨.tuple #[], μ, w, ?_, hvr _ _, r1, r2⟩
    simp [execOp, resolve, invoke, builtin, hxe, Builtin.clear_, underlying, hu]
  · rcases hA with hA | ⟨hA, hzz⟩
    · omega
    · have hzc : (Builtin.zeroCells zv.cells n).toList = List.replicate n (zv.cells.getD 0 undef) := by
        apply List.ext_getElem?
        intro j
        by_cases hj : j < n
        · have : zv.cells[0]! = zv.cells.getD 0 undef := by simp [e5]
          simp [Builtin.zeroCells, e5, Nat.mod_one, hj, this]
        · rw [List.getElem?_eq_none (by simp [size_zeroCells, e5]; omega), List.getElem?_eq_none (by simp; omega)]
      have hone : ∀ u ∈ List.replicate n (zv.cells.getD 0 undef), u.oneCell' = true := fun u hu => by
        rw [(List.mem_replicate.1 hu).2]
        exact ((e6 0 μ).one hz).1
      have hst := run_storeCells_at P (μ r).b ((μ r).s + o) E (List.replicate n (zv.cells.getD 0 undef)) 0 cs w h1 (by rw [List.length_replicate]; omega) hone
      rw [List.length_replicate, Nat.add_zero] at hst
      obtain ⟨r1, r2⟩ := set_ok hinv.rel hr hown (o := .row true (l.take o ++ List.replicate n z.av ++ l.drop (o + n))) (w' := w.setRow (μ r).b (cs.toList.take ((μ r).s + o) ++ List.replicate n (zv.cells.getD 0 undef) ++ cs.toList.drop ((μ r).s + o + n)).toArray)
        (by simp [World.setRow]) (fun b hb => setRow_other w _ b _ hb) rfl rfl rfl
        ⟨_, E, (0, 0), setRow_heap w _ cs _ E (0, 0) h1, fun _ => rfl, by simp; omega, by simp; omega, fun k hk => by
          have hcl := Array.length_toList (xs := cs)
          have hk' : k < l.length := by simp at hk; omega
          have e7 : (cs.toList.take ((μ r).s + o) ++ List.replicate n (zv.cells.getD 0 undef) ++ cs.toList.drop ((μ r).s + o + n)).toArray.getD ((μ r).s + k) undef = (cs.toList.take ((μ r).s + o) ++ List.replicate n (zv.cells.getD 0 undef) ++ cs.toList.drop ((μ r).s + o + (List.replicate n (zv.cells.getD 0 undef)).length)).getD ((μ r).s + k) undef := by
            rw [List.length_replicate]; simp [List.getD]
          have e8 : (l.take o ++ List.replicate n z.av ++ l.drop (o + n)).getD k .junk = (l.take o ++ List.replicate n z.av ++ l.drop (o + (List.replicate n z.av).length)).getD k .junk := by rw [List.length_replicate]
          rw [e7, e8, splice_get l _ o k .junk (by rw [List.length_replicate]; omega), splice_get cs.toList _ ((μ r).s + o) ((μ r).s + k) undef (by rw [List.length_replicate]; omega)]
          simp only [List.length_replicate]
          by_cases c1 : o ≤ k ∧ k < o + n
          · rw [if_pos c1, if_pos (by omega)]
            have c2 : k - o < n := by omega
            have c3 : (μ r).s + k - ((μ r).s + o) < n := by omega
            simp only [List.getD, List.getElem?_replicate, c2, c3, if_true, Option.getD_some]
            exact e6 _ _
          · rw [if_neg c1, if_neg (by omega)]
            have := h5 k hk'
            simpa [List.getD] using this⟩
      refine ⟨.tuple #[], μ, _, ?_, hvr _ _, r1, r2⟩
      have hzv : ∀ w', (zeroValue e).run P w' = .ok zv w' := fun w' => by simp [zeroValue, typeInfo, e1, e4]
      obtain ⟨n', rfl⟩ : ∃ n', n = n' + 1 := ⟨n - 1, by omega⟩
      subst hA
      generalize zv.cells.getD 0 undef = z0 at *
      simp only [execOp, resolve, invoke, builtin, Sem.run_bind, Sem.run_pure, Result.andThen_ok, List.map_toArray, List.map_cons, List.map_nil, hxe]
      simp [Builtin.clear_, underlying, hu, hzv, hzc, hst]

/-- A byte of a string. -/
def bt (s : ByteArray) (q : Int) : Int := ((s.data.toList.getD q.toNat 0).toNat : Int)
theorem o_index {t : Nat} {x ix : Operand} {s : ByteArray} {k : IntKind} {q : Int} {i : TyI} (ht : look tb t = some i) (hk : i.k = .str) (hx : av a x = .str s) (hi : av a ix = .int k q) (h0 : 0 ≤ q) (h1 : q < s.size)
    (hR : R (a.put dst (.v (.int .u8 (bt s q)))) st) : ALeaf P T st0 N ⟨dst, .index t x ix, ty, pos, aft, gd⟩ m R a st := by
  refine leaf_q (.v (.int .u8 (bt s q))) (fun μ0 w0 β μ w ca hinv => ?_) hR
  have hxv := av_vr hinv x
  have hiv := av_vr hinv ix
  rw [hx] at hxv
  rw [hi] at hiv
  simp only [VR] at hxv hiv
  refine ⟨.int .u8 (bt s q), by simp [RR, VR], fun w' _ => ?_⟩
  have hu := (tyR (P := P) ht).und_of.2.2.1 hk
  have hlt : q.toNat < s.size := by omega
  have hlt' : q.toNat < s.data.size := hlt
  have hb : s[q.toNat]? = some (s.data.toList.getD q.toNat 0) := by
    have : s[q.toNat]? = some s[q.toNat] := by simp [hlt]
    rw [this]
    simp only [List.getD, Array.getElem?_toList, ByteArray.getElem_eq_getElem_data]
    rw [Array.getElem?_eq_getElem hlt']
    rfl
  simp [execOp, hxv, hiv, Instr.index, asIntOf, underlying, hu, h0, hb, bt]

/-- Sums, differences and products that fit. -/
def arA (op : BinOp) (m n : Int) : Option Int := match op with | .add => some (m + n) | .sub => some (m - n) | .mul => some (m * n) | _ => none
theorem o_ar {op : BinOp} {t yt : Nat} {x y : Operand} {m' n' z : Int} (hx : av a x = .int .i64 m') (hy : av a y = .int .i64 n') (hz : arA op m' n' = some z) (h0 : -9223372036854775808 ≤ z) (h1 : z ≤ 9223372036854775807)
    (hR : R (a.put dst (.v (.int .i64 z))) st) : ALeaf P T st0 N ⟨dst, .binOp op t x y yt, ty, pos, aft, gd⟩ m R a st := by
  have hw : IntKind.i64.wrap z = z := by rw [IntKind.wrap_i64]; omega
  refine leaf_q (.v (.int .i64 z)) (q_binOp (tb := []) ?_) hR
  unfold arA at hz
  split at hz <;> first | (cases hz; done) | (injection hz with hz; subst hz; simp [run1, hx, hy, binA, kidx, hw])
/-- A conversion that fits. -/
theorem o_conv {s d : Nat} {x : Operand} {k k' : IntKind} {n' : Int} {i j : TyI} (hx : av a x = .int k n') (hs : look tb s = some i) (hd : look tb d = some j) (hk : j.k = .int k') (hw : k'.wrap n' = n')
    (hR : R (a.put dst (.v (.int k' n'))) st) : ALeaf P T st0 N ⟨dst, .convert s d x, ty, pos, aft, gd⟩ m R a st := by
  refine leaf_q (.v (.int k' n')) (run1_ok (tb := tb) (o := ⟨dst, .convert s d x, ty, pos, aft, gd⟩) ?_) hR
  simp [run1, hx, hs, hd, hk, hw]
/-- Whatever it yields, it is the same. -/
theorem o_eq {o : Oper} {r : RV} (h : run1 tb a o.op = some r) (r' : RV) (he : r = r') (hR : R (a.put o.dst r') st) : ALeaf P T st0 N o m R a st := by
  subst he
  exact leaf_q r (run1_ok h) hR
end
end Go.Proofs.YtmphklmhhcmbnaaDoorW.Ax

/- The rules as the walks use them. -/
namespace Go.Proofs.YtmphklmhhcmbnaaDoorW.Ax
open Go Go.RowKit
set_option linter.unusedVariables false

section
variable {P : Program} {tb : Tb} [TbOk P tb] {T : Nat → Prop} {st0 : St} {N : Nat} {Q : AX → Aa → St → Prop} {a a' : Aa} {st : St} {id : Nat} {l : List Oper} {y : Code}

def gOk (ops : Array Oper) (o : Oper) (a : Aa) : Bool :=
  match o.guard with
  | none => true
  | some (j, want) =>
    match (ops[j]?).bind (·.dst) with
    | some t => (match a.s t, want with | .bool true, true => true | .bool false, false => true | _, _ => false)
    | none => false
omit [TbOk P tb] in
theorem s_op {ops : Array Oper} {K : Aa → St → Prop} {ms : List Md} {o : Oper} (hg : gOk ops o a = true) (h : ALeaf P T st0 N o (ms.headD .n) (AOps P T st0 N ops K ms.tail l) a st) : AOps P T st0 N ops K ms (o :: l) a st := by
  unfold gOk at hg
  split at hg
  · rename_i hn; exact s_cons hn h
  · rename_i j want hn
    split at hg
    · rename_i t ht
      split at hg
      · rename_i hs; exact s_guard hn ht hs h
      · rename_i hs; exact s_guard hn ht hs h
      · cases hg
    · cases hg
omit [TbOk P tb] in
/-- A bool in a slot, decided. -/
theorem s_bool {ops : Array Oper} {K : Aa → St → Prop} {ms : List Md} (t : Nat) {b : Bool} (hs : a.s t = .bool b) (hp : a.p t = none) (h1 : b = true → AOps P T st0 N ops K ms l (a.put (some t) (.v (.bool true))) st) (h2 : b = false → AOps P T st0 N ops K ms l (a.put (some t) (.v (.bool false))) st) :
    AOps P T st0 N ops K ms l a st := by
  have key : ∀ c, b = c → a.put (some t) (.v (.bool c)) = a := fun c e => by
    subst e
    have e1 : upd a.s t (.bool b) = a.s := by
      funext i
      by_cases h : i = t
      · subst h; rw [upd_same, hs]
      · rw [upd_ne _ _ h]
    have e2 : upd a.p t none = a.p := by
      funext i
      by_cases h : i = t
      · subst h; rw [upd_same, hp]
      · rw [upd_ne _ _ h]
    show (⟨upd a.s t (.bool b), upd a.p t none, a.x⟩ : Aa) = a
    rw [e1, e2]
  cases b with
  | true => have := h1 rfl; rw [key true rfl] at this; exact this
  | false => have := h2 rfl; rw [key false rfl] at this; exact this

/-- A region whose operations all run. -/
theorem c_rr (hd : dstsOk N l = true) {ms : List Md} (h : runN tb l.toArray l.length [] l a = some (ms, [], a')) (hq : ACode P T st0 N y Q a' st) : ACode P T st0 N (.seq (.region id l.toArray false) y) Q a st :=
  c_seq (c_region hd (s_run _ h hq))
theorem c_r1 (hd : dstsOk N l = true) {ms : List Md} (h : runN tb l.toArray l.length [] l a = some (ms, [], a')) (hq : Q .normal a' st) : ACode P T st0 N (.region id l.toArray false) Q a st :=
  c_region hd (s_run _ h hq)
omit [TbOk P tb] in
theorem c_rs (hd : dstsOk N l = true) (h : AOps P T st0 N l.toArray (ACode P T st0 N y Q) [] l a st) : ACode P T st0 N (.seq (.region id l.toArray false) y) Q a st :=
  c_seq (c_region hd h)
theorem c_ds {tb' : Tb} [TbOk P tb'] (sch : List Nat) (ms : List Md) (hd : dstsOk N l = true) (hB : drawOk l.toArray sch ms = true) (h : AOps P T st0 N l.toArray (ACode P T st0 N y Q) ms (sch.filterMap (l.toArray[·]?)) a st) : ACode P T st0 N (.seq (.region id l.toArray true) y) Q a st :=
  c_seq (c_draw (TbOk.mixed (tb := tb')) sch ms hd hB h)
omit [TbOk P tb] in
theorem s_end {ops : Array Oper} {ms : List Md} {K : Aa → St → Prop} (h : K a st) : AOps P T st0 N ops K ms [] a st := h
theorem fin {rs : List ResultVar} {Post : AV → St → Prop} {v : AV} (hv : resA tb rs a = some v) (hp : Post v st) : RetQ tb rs Post .ret a st := ⟨v, hv, hp⟩
theorem fin_n {rs : List ResultVar} {Post : AV → St → Prop} {v : AV} (hv : resA tb rs a = some v) (hp : Post v st) : RetQ tb rs Post .normal a st := ⟨v, hv, hp⟩

/-- A frame of which so much is told. -/
def mk (s : List (Nat × AV)) (x : List (Nat × Nat × List AV)) : Aa :=
  ⟨fun i => match s.find? (fun p => Nat.beq p.1 i) with | some p => p.2 | none => .junk,
   fun i => match x.find? (fun p => Nat.beq p.1 i) with | some p => some (p.2.1, 0) | none => none,
   fun k => match x.find? (fun p => Nat.beq p.2.1 k) with | some p => some p.2.2 | none => none⟩
def leS (a : Aa) : List (Nat × AV) → Prop
  | [] => True
  | (i, v) :: r => a.s i = v ∧ leS a r
def leX (a : Aa) : List (Nat × Nat × List AV) → Prop
  | [] => True
  | (i, k, l) :: r => a.p i = some (k, 0) ∧ a.x k = some l ∧ leX a r
omit [TbOk P tb] in
theorem c_mk {c : Code} (s : List (Nat × AV)) (x : List (Nat × Nat × List AV)) (hs : leS a s) (hx : leX a x) (h : ACode P T st0 N c Q (mk s x) st) : ACode P T st0 N c Q a st := by
  refine c_weak (fun i => ?_) (fun i => ?_) (fun k => ?_) h
  · show (match s.find? (fun p => Nat.beq p.1 i) with | some p => p.2 | none => .junk) = a.s i ∨ (match s.find? (fun p => Nat.beq p.1 i) with | some p => p.2 | none => AV.junk) = .junk
    clear h
    induction s with
    | nil => exact .inr rfl
    | cons q s ih =>
      obtain ⟨j, v⟩ := q
      simp only [List.find?_cons]
      cases hb : Nat.beq j i with
      | true => have e := Nat.eq_of_beq_eq_true hb; subst e; exact .inl hs.1.symm
      | false => exact ih hs.2
  · show (match x.find? (fun p => Nat.beq p.1 i) with | some p => some (p.2.1, 0) | none => none) = a.p i ∨ (match x.find? (fun p => Nat.beq p.1 i) with | some p => some (p.2.1, 0) | none => none) = none
    clear h
    induction x with
    | nil => exact .inr rfl
    | cons q x ih =>
      obtain ⟨j, k, l⟩ := q
      simp only [List.find?_cons]
      cases hb : Nat.beq j i with
      | true => have e := Nat.eq_of_beq_eq_true hb; subst e; exact .inl hx.1.symm
      | false => exact ih hx.2.2
  · show (match x.find? (fun p => Nat.beq p.2.1 k) with | some p => some p.2.2 | none => none) = a.x k ∨ (match x.find? (fun p => Nat.beq p.2.1 k) with | some p => some p.2.2 | none => none) = none
    clear h
    induction x with
    | nil => exact .inr rfl
    | cons q x ih =>
      obtain ⟨j, k', l⟩ := q
      simp only [List.find?_cons]
      cases hb : Nat.beq k' k with
      | true => have e := Nat.eq_of_beq_eq_true hb; subst e; exact .inl hx.2.1.symm
      | false => exact ih hx.2.2
/-- A loop, from a frame of which so much is told. -/
theorem c_lp {c : Code} {α : Type} (s : α → List (Nat × AV)) (x : α → List (Nat × Nat × List AV)) (I : α → St → Prop) (m : α → Nat) (i : α) (hs : leS a (s i)) (hx : leX a (x i)) (hI : I i st)
    (round : ∀ i st, I i st → ACode P T st0 N c (thenQ (fun a' st' => ∃ j, leS a' (s j) ∧ leX a' (x j) ∧ I j st' ∧ m j < m i) Q) (mk (s i) (x i)) st) : ACode P T st0 N (.loop c) Q a st := by
  refine c_loop (fun n a st => ∃ i, m i = n ∧ leS a (s i) ∧ leX a (x i) ∧ I i st) (m i) ⟨i, rfl, hs, hx, hI⟩ fun n a st h => ?_
  obtain ⟨i, rfl, hs, hx, hI⟩ := h
  refine c_mk (s i) (x i) hs hx (c_mono (fun e a' st' hq => ?_) (round i st hI))
  cases e with
  | normal => obtain ⟨j, h1, h2, h3, h4⟩ := hq; exact ⟨m j, h4, j, rfl, h1, h2, h3⟩
  | exit id => exact hq
  | ret => exact hq

/-- A row of whole numbers, as it is read. -/
def At (st : St) (r : Option Nat) (o : Nat) (xs : List Int) : Prop := ∀ j, j < xs.length → cell st r (o + j) = some (I (xs.getD j 0))
def rd (xs : List Int) (i : Int) : Int := xs.getD i.toNat 0
omit [TbOk P tb] in
theorem At.rd {r : Option Nat} {o : Nat} {xs : List Int} (h : At st r o xs) {i : Int} (h0 : 0 ≤ i) (h1 : i < xs.length) : cell st r (o + i.toNat) = some (I (Ax.rd xs i)) := h i.toNat (by omega)
omit [TbOk P tb] in
theorem At.ext {T' : Nat → Prop} {st' : St} {r : Option Nat} {o : Nat} {xs : List Int} (h : At st r o xs) (he : Ext T' st st') (hn : ∀ i, r = some i → ¬ T' i) : At st' r o xs := fun j hj => cell_ext he (h j hj) hn
omit [TbOk P tb] in
/-- A call of a function that only reckons. -/
theorem o_pure {dst : Option Nat} {x : Operand} {args : Array Operand} {types : Array Nat} {ty : Nat} {pos : String} {aft : Array Edge} {gd : Option (Nat × Bool)} {m : Md} {R : Aa → St → Prop} {f : Nat} {v : AV} (hm : m.loud) (hx : av a x = .fn f [])
    (h : ACalls P f (avs a args.toList) st No (fun v' st' => v' = v ∧ st = st')) (hR : R (a.put dst (.v v)) st) : ALeaf P T st0 N ⟨dst, .call ⟨.value x, args, types⟩, ty, pos, aft, gd⟩ m R a st :=
  o_call hx (by rw [List.append_nil]; exact h) no_T (loud_no hm st) (by rintro v' st' ⟨rfl, rfl⟩ _; exact hR)
omit [TbOk P tb] in
/-- A call of a function that makes memory and turns none. -/
theorem o_ex {dst : Option Nat} {x : Operand} {args : Array Operand} {types : Array Nat} {ty : Nat} {pos : String} {aft : Array Edge} {gd : Option (Nat × Bool)} {m : Md} {R : Aa → St → Prop} {f : Nat} {Post : AV → St → Prop} (hm : m.loud) (hx : av a x = .fn f [])
    (h : ACalls P f (avs a args.toList) st No Post) (hR : ∀ v st', Post v st' → Ex st st' → R (a.put dst (.v v)) st') : ALeaf P T st0 N ⟨dst, .call ⟨.value x, args, types⟩, ty, pos, aft, gd⟩ m R a st :=
  o_call hx (by rw [List.append_nil]; exact h) no_T (loud_no hm st) hR
/-- A row of whole numbers that is the call's own: made since the store had so many blocks; or nil. -/
def Fr (n0 : Nat) (st : St) (r : Option Nat) (l : List Int) : Prop := (r = none ∧ l = []) ∨ ∃ i, r = some i ∧ n0 ≤ i ∧ i < st.n ∧ st.ob i = .row true (l.map I)
omit [TbOk P tb] in
theorem Fr.at_ {n0 : Nat} {r : Option Nat} {l : List Int} (h : Fr n0 st r l) : At st r 0 l := by
  rcases h with ⟨rfl, rfl⟩ | ⟨i, rfl, _, hi, ho⟩
  · intro j hj; simp at hj
  · intro j hj
    rw [cell_row hi ho, Nat.zero_add, List.getElem?_map, List.getElem?_eq_getElem hj]
    simp [List.getD, hj]
omit [TbOk P tb] in
theorem Fr.ext {n0 : Nat} {T' : Nat → Prop} {st' : St} {r : Option Nat} {l : List Int} (h : Fr n0 st r l) (he : Ext T' st st') (hn : ∀ i, r = some i → ¬ T' i) : Fr n0 st' r l := by
  rcases h with h | ⟨i, rfl, h1, hi, ho⟩
  · exact .inl h
  · exact .inr ⟨i, rfl, h1, Nat.lt_of_lt_of_le hi he.n, by rw [he.ob i hi (hn i rfl)]; exact ho⟩
omit [TbOk P tb] in
theorem Fr.ex {n0 : Nat} {st' : St} {r : Option Nat} {l : List Int} (h : Fr n0 st r l) (he : Ex st st') : Fr n0 st' r l := h.ext he fun _ _ h => h
omit [TbOk P tb] in
theorem Fr.le {n0 n1 : Nat} {r : Option Nat} {l : List Int} (h : Fr n0 st r l) (hn : n1 ≤ n0) : Fr n1 st r l := by
  rcases h with h | ⟨i, h1, h2, h3⟩
  · exact .inl h
  · exact .inr ⟨i, h1, Nat.le_trans hn h2, h3⟩
omit [TbOk P tb] in
theorem At.ex {st' : St} {r : Option Nat} {o : Nat} {xs : List Int} (h : At st r o xs) (he : Ex st st') : At st' r o xs := h.ext he fun _ _ h => h
end
end Go.Proofs.YtmphklmhhcmbnaaDoorW.Ax

/- Rules for rows of whole numbers. -/
namespace Go.Proofs.YtmphklmhhcmbnaaDoorW.Ax
open Go Go.RowKit
set_option linter.unusedVariables false

/-- Whole numbers as the machine has them. -/
def W1 (x : Int) : Prop := -9223372036854775808 ≤ x ∧ x ≤ 9223372036854775807
def W64 (l : List Int) : Prop := ∀ x ∈ l, W1 x
theorem W64.rd {l : List Int} (h : W64 l) (i : Int) : W1 (rd l i) := by
  unfold Ax.rd
  by_cases hi : i.toNat < l.length
  · have : l.getD i.toNat 0 = l[i.toNat] := by simp [List.getD, hi]
    rw [this]; exact h _ (List.getElem_mem hi)
  · have : l.getD i.toNat 0 = 0 := by simp [List.getD, List.getElem?_eq_none (Nat.le_of_not_lt hi)]
    rw [this]; unfold W1; omega
/-- It returns v; the store only grows. -/
def Pv (v : AV) : AV → St → Prop := fun v' _ => v' = v
/-- A row of its own, of these numbers. -/
def Ro (st : St) (l : List Int) : AV → St → Prop := fun v st' => ∃ r, v = .sl (some r) 0 l.length ∧ Fr st.n st' (some r) l
/-- A row of its own, or nil. -/
def Rn (st : St) (l : List Int) : AV → St → Prop := fun v st' => ∃ r, v = .sl r 0 l.length ∧ Fr st.n st' r l
/-- A slab whose words are a row of its own. -/
def Sn (st : St) (l : List Int) : AV → St → Prop := fun v st' => ∃ r, v = .agg [.sl r 0 l.length] ∧ Fr st.n st' r l
theorem Fr.bd {n0 : Nat} {st : St} {r : Option Nat} {l : List Int} (h : Fr n0 st r l) : ∀ i, r = some i → n0 ≤ i ∧ i < st.n := fun i hi => by
  rcases h with ⟨h, _⟩ | ⟨k, h, h1, h2, _⟩
  · rw [h] at hi; cases hi
  · rw [h] at hi; injection hi with hi; omega
theorem bF {p : Prop} [Decidable p] (h : ¬ p) : RV.v (.bool (decide p)) = .v (.bool false) := by rw [decide_eq_false h]
theorem bN {p : Prop} [Decidable p] (h : p) : RV.v (.bool (!decide p)) = .v (.bool false) := by rw [decide_eq_true h]; rfl
theorem bT {p : Prop} [Decidable p] (h : p) : RV.v (.bool (decide p)) = .v (.bool true) := by rw [decide_eq_true h]

/-- What is not turned stays. -/
theorem Fr.off {n0 : Nat} {st st' : St} {r r' : Option Nat} {l : List Int} {p q p' q' : Nat} (h : Fr n0 st r l) (he : Ext (fun i => r' = some i) st st') (hb : ∀ i, r = some i → p ≤ i ∧ i < q) (hb' : ∀ i, r' = some i → p' ≤ i ∧ i < q') (hd : q ≤ p' ∨ q' ≤ p) : Fr n0 st' r l :=
  h.ext he fun i e e' => by have := hb i e; have := hb' i e'; omega
theorem At.off {st0 st st' : St} {r r' : Option Nat} {o : Nat} {l : List Int} {p' q' : Nat} (h : At st r o l) (he : Ext (fun i => r' = some i) st st') (hb : ∀ i, r = some i → i < st0.n) (hb' : ∀ i, r' = some i → p' ≤ i ∧ i < q') (hd : st0.n ≤ p') : At st' r o l :=
  h.ext he fun i e e' => by have := hb i e; have := hb' i e'; omega
/-- How much is left: -1 where it is too much. -/
def Sz (st : St) (left n : Int) : AV → St → Prop := fun v st' => ∃ x, v = I x ∧ (left < n → x = -1) ∧ (n ≤ left → x = left - n) ∧ st = st'
/-- A row of the call's own bears the numbers k, k + 1, ..; nothing else has turned. -/
def upN : Int → Nat → List Int
  | _, 0 => []
  | k, n + 1 => k :: upN (k + 1) n
def Mk (n0 : Nat) (st : St) (r : Option Nat) (k : Int) (n : Nat) : AV → St → Prop := fun v st' => v = I (k + n) ∧ Fr n0 st' r (upN k n) ∧ Ext (fun i => r = some i) st st'

theorem spl_I (l : List Int) (j : Nat) (v : Int) (h : j < l.length) : (l.map I).take j ++ [I v] ++ (l.map I).drop (j + 1) = (l.set j v).map I := by
  rw [List.map_set, List.set_eq_take_append_cons_drop, if_pos (by simpa using h)]
  simp
theorem at_row {st : St} {i : Nat} {own : Bool} {l : List Int} (hi : i < st.n) (ho : st.ob i = .row own (l.map I)) : At st (some i) 0 l := fun j hj => by
  rw [cell_row hi ho, Nat.zero_add, List.getElem?_map, List.getElem?_eq_getElem hj]
  simp [List.getD, hj]
theorem At.cut {st : St} {r : Option Nat} {o : Nat} {l : List Int} (h : At st r o l) (p q : Nat) (hp : p ≤ q) (hq : q ≤ l.length) : At st r (o + p) ((l.drop p).take (q - p)) := fun j hj => by
  have hj' : j < q - p := by simp at hj; omega
  have := h (p + j) (by omega)
  rw [Nat.add_assoc, this]
  simp [List.getD, hj']
theorem At.nil (st : St) (r : Option Nat) (o : Nat) : At st r o [] := fun j hj => by simp at hj
theorem fr_push (st : St) (l : List Int) : Fr st.n (st.push (.row true (l.map I))) (some st.n) l := .inr ⟨st.n, rfl, Nat.le_refl _, Nat.lt_succ_self _, push_ob _ _⟩
theorem fr_nil (n0 : Nat) (st : St) : Fr n0 st none [] := .inl ⟨rfl, rfl⟩
theorem Fr.set {n0 : Nat} {st : St} {r : Nat} {l l' : List Int} (h : Fr n0 st (some r) l) : Fr n0 (st.set r (.row true (l'.map I))) (some r) l' := by
  rcases h with ⟨h, _⟩ | ⟨i, h, h1, hi, ho⟩
  · cases h
  · injection h with h; subst h
    exact .inr ⟨r, rfl, h1, hi, set_ob _ _ _⟩
theorem Fr.ob {n0 : Nat} {st : St} {r : Nat} {l : List Int} (h : Fr n0 st (some r) l) : n0 ≤ r ∧ r < st.n ∧ st.ob r = .row true (l.map I) := by
  rcases h with ⟨h, _⟩ | ⟨i, h, h1, hi, ho⟩
  · cases h
  · injection h with h; subst h
    exact ⟨h1, hi, ho⟩
theorem Fr.some_of {n0 : Nat} {st : St} {r : Option Nat} {l : List Int} (h : Fr n0 st r l) (hl : l ≠ []) : ∃ i, r = some i := by
  rcases h with ⟨_, h⟩ | ⟨i, h, _⟩
  · exact absurd h hl
  · exact ⟨i, h⟩
/-- What was made since is turned: what was there before is not. -/
theorem Ext.own {st0 st st' : St} {r : Option Nat} {l : List Int} (h : Ex st0 st) (hf : Fr st0.n st r l) (he : Ext (fun i => r = some i) st st') : Ex st0 st' :=
  h.trans he fun k hk e => by
    rcases hf with ⟨h1, _⟩ | ⟨i, h1, h2, _⟩
    · rw [h1] at e; cases e
    · rw [h1] at e; injection e with e; omega
theorem At.own {st0 st st' : St} {r r' : Option Nat} {o : Nat} {l xs : List Int} (h : At st r' o xs) (hf : Fr st0.n st r l) (he : Ext (fun i => r = some i) st st') (hn : ∀ i, r' = some i → i < st0.n) : At st' r' o xs :=
  h.ext he fun i e e' => by
    have := hn i e
    rcases hf with ⟨h1, _⟩ | ⟨k, h1, h2, _⟩
    · rw [h1] at e'; cases e'
    · rw [h1] at e'; injection e' with e'; omega

section
variable {P : Program} {tb : Tb} [TbOk P tb] {st0 : St} {N : Nat} {a : Aa} {st : St} {R : Aa → St → Prop} {m : Md}
variable {dst : Option Nat} {ty : Nat} {pos : String} {aft : Array Edge} {gd : Option (Nat × Bool)}
theorem o_mkI {T : Nat → Prop} {t : Nat} {lx cx : Operand} {k k' : IntKind} {q : Int} {e : Nat} (hm : m.loud) (ht : elem1 tb t = some (e, .int .i64, 8)) (hl : av a lx = .int k q) (hc : av a cx = .int k' q) (h0 : 0 ≤ q) (h1 : q ≤ 1048576000)
    (hR : R (a.put dst (.v (.sl (some st.n) 0 q.toNat))) (st.push (.row true ((List.replicate q.toNat 0).map I)))) : ALeaf P T st0 N ⟨dst, .makeSlice t lx cx, ty, pos, aft, gd⟩ m R a st :=
  o_make hm ht hl hc h0 (by show q * (8 : Int) ≤ _; omega) (by omega) (by rw [List.map_replicate] at hR; exact hR)
theorem o_stI {T : Nat → Prop} {t : Nat} {x v : Operand} {r : Nat} {j : Nat} {y : Int} {l : List Int} {i : TyI} (ht : look tb t = some i) (hx : av a x = .ptr (some r) j) (hf : r < st.n ∧ st.ob r = .row true (l.map I)) (hmay : May T st0 r) (hv : av a v = I y) (h1 : i.zero.length = 1) (hj : j < l.length)
    (hR : R (a.put dst (.v .junk)) (st.set r (.row true ((l.set j y).map I)))) : ALeaf P T st0 N ⟨dst, .store t x v, ty, pos, aft, gd⟩ .n R a st :=
  o_st (vs := [I y]) ht hx hf.1 hmay hf.2 (by rw [hv]; rfl) rfl h1.symm (by simp; omega) (by
    have e := spl_I l j y hj
    show R _ (st.set r (.row true ((l.map I).take j ++ [I y] ++ (l.map I).drop (j + 1))))
    rw [e]; exact hR)
/-- A store into a row of the call's own. -/
theorem o_stF {T : Nat → Prop} {t : Nat} {x v : Operand} {r : Option Nat} {j : Nat} {y : Int} {l : List Int} {i : TyI} (ht : look tb t = some i) (hx : av a x = .ptr r j) (hf : Fr st0.n st r l) (hv : av a v = I y) (h1 : i.zero.length = 1) (hj : j < l.length)
    (hR : ∀ st', Fr st0.n st' r (l.set j y) → Ext (fun i => r = some i) st st' → R (a.put dst (.v .junk)) st') : ALeaf P T st0 N ⟨dst, .store t x v, ty, pos, aft, gd⟩ .n R a st := by
  obtain ⟨r, rfl⟩ := hf.some_of (fun e => by subst e; simp at hj)
  obtain ⟨h2, h3, h4⟩ := hf.ob
  refine o_stI ht hx ⟨h3, h4⟩ (fun h => by omega) hv h1 hj (hR _ hf.set ?_)
  have := ext_set st r (.row true ((l.set j y).map I))
  exact ⟨this.n, fun i hi hn => this.ob i hi fun e => hn (by rw [e])⟩
theorem all_one (ys : List Int) : (ys.map I).all oneA = true := by induction ys with | nil => rfl | cons y ys ih => exact ih
/-- append to a row of the call's own. -/
theorem o_appF {s x : Operand} {t : Nat} {e : Nat} {r r' : Option Nat} {o n : Nat} {l ys : List Int} (ht : elem1 tb t = some (e, .int .i64, 8)) (hsv : av a s = .sl r 0 n) (hn : n = l.length) (hv : Fr st0.n st r l) (hx : av a x = .sl r' o ys.length) (hy : At st r' o ys) (hbig : l.length + ys.length ≤ 1099511627776)
    (hR : ∀ r2 st', Fr st0.n st' r2 (l ++ ys) → Ext (fun i => r = some i) st st' → R (a.put dst (.v (.sl r2 0 (l ++ ys).length))) st') : ALeaf P No st0 N ⟨dst, .call ⟨.builtin .append, #[s, x], #[t, t]⟩, ty, pos, aft, gd⟩ .n R a st := by
  subst hn
  refine o_append (l := l.map I) (ys := ys.map I) ht (by omega) hsv ?_ ⟨r', o, by rw [hx, List.length_map], fun j hj => ?_⟩ (all_one ys) (by simp; omega) (fun v' st' ho he => ?_)
  · rcases hv with ⟨rfl, rfl⟩ | ⟨i, rfl, h1, h2, h3⟩
    · exact .inl ⟨rfl, rfl⟩
    · exact .inr ⟨i, by rw [List.length_map], h2, fun h => absurd h (by omega), h3⟩
  · rw [List.length_map] at hj
    rw [hy j hj]; simp [List.getD, hj]
  · rw [← List.map_append] at ho
    rcases ho with ⟨rfl, h⟩ | ⟨i, rfl, h1, h2, h3⟩
    · have h : l ++ ys = [] := by simpa using h
      have := hR none st' (.inl ⟨rfl, h⟩) ⟨he.n, fun i hi hn => he.ob i hi fun ⟨o, n, e⟩ => hn (by injection e)⟩
      rw [h] at this; exact this
    · have := hR (some i) st' (.inr ⟨i, rfl, Nat.le_of_not_lt fun h => h2 h, h1, h3⟩) ⟨he.n, fun i hi hn => he.ob i hi fun ⟨o, n, e⟩ => hn (by injection e)⟩
      rw [List.length_map]; exact this
/-- A slice made of one number. -/
theorem o_one {T : Nat → Prop} {t : Nat} {x : Operand} {y : Int} {e : Nat} (hm : m.loud) (ht : elem1 tb t = some (e, .int .i64, 8)) (hx : av a x = I y)
    (hR : R (a.put dst (.v (.sl (some st.n) 0 [y].length))) (st.push (.row true ([y].map I)))) : ALeaf P T st0 N ⟨dst, .buildSlice t 1 #[(0, x)], ty, pos, aft, gd⟩ m R a st :=
  o_bslice (l := [I y]) hm ht (by decide) (by simp [partsA, setA, hx]; rfl) (by simp [partsA, hx, oneA]) hR

/-- Half of an unsigned number. -/
theorem o_half {T : Nat → Prop} {t yt : Nat} {x y : Operand} {n : Int} {j : IntKind} (hx : av a x = .int .u64 n) (hy : av a y = .int j 1) (h0 : 0 ≤ n)
    (hR : R (a.put dst (.v (.int .u64 (n / 2)))) st) : ALeaf P T st0 N ⟨dst, .binOp .shr t x y yt, ty, pos, aft, gd⟩ m R a st := by
  refine leaf_q (.v (.int .u64 (n / 2))) (fun μ0 w0 β μ w ca hinv => ?_) hR
  have hxv := av_vr hinv x
  have hyv := av_vr hinv y
  rw [hx] at hxv
  rw [hy] at hyv
  simp only [VR] at hxv hyv
  refine ⟨.int .u64 (n / 2), by simp [RR, VR], fun w' _ => ?_⟩
  have he : Op.shift .shr .u64 n j 1 = (pure (.int .u64 (n / 2)) : Sem Value) := by simp [Op.shift, IntKind.bits, Int.fdiv_eq_ediv_of_nonneg]
  simp [execOp, hxv, hyv, eqGuard_int, binOp, he]

/-- Variables of one cell whose place is handed on. -/
theorem o_alloc1 {T : Nat → Prop} {t : Nat} {z : Z} {b : Nat} (hm : m.loud) (ht : one1 tb t = some (z, b)) (hR : R (a.put dst (.v (.ptr (some st.n) 0))) (st.push (.row true [z.av]))) : ALeaf P T st0 N ⟨dst, .alloc t, ty, pos, aft, gd⟩ m R a st := by
  obtain ⟨i, hi, hz, _, _⟩ := one1_ok ht
  refine o_allocS hm hi ?_
  rw [hz]; exact hR
theorem o_st1 {T : Nat → Prop} {t : Nat} {x v : Operand} {r : Nat} {v0 u : AV} {z : Z} {b : Nat} (ht : one1 tb t = some (z, b)) (hx : av a x = .ptr (some r) 0) (hr : r < st.n) (hmay : May T st0 r) (ho : st.ob r = .row true [v0]) (hv : av a v = u) (hc : cellsB u = some [u]) (hu : oneA u = true)
    (hR : R (a.put dst (.v .junk)) (st.set r (.row true [u]))) : ALeaf P T st0 N ⟨dst, .store t x v, ty, pos, aft, gd⟩ .n R a st := by
  obtain ⟨i, hi, hz, _, _⟩ := one1_ok ht
  refine o_st (vs := [u]) hi hx hr hmay ho (by rw [hv]; exact hc) (by simp [hu]) (by rw [hz]; rfl) (by simp) ?_
  simpa using hR
theorem cell_set1 {st : St} {r : Nat} {u : AV} (hr : r < st.n) : cell (st.set r (.row true [u])) (some r) 0 = some u := by
  rw [cell_row (st := st.set r (.row true [u])) (i := r) hr (set_ob _ _ _)]; rfl
theorem cell_push1 (st : St) (u : AV) : cell (st.push (.row true [u])) (some st.n) 0 = some u := by
  rw [cell_row (st := st.push (.row true [u])) (i := st.n) (Nat.lt_succ_self _) (push_ob _ _)]; rfl
/-- Bools that are the same. -/
theorem o_neB {T : Nat → Prop} {t yt : Nat} {x y : Operand} {b : Bool} {i : TyI} (ht : look tb t = some i) (hk : i.k = .bool) (hx : av a x = .bool b) (hy : av a y = .bool b)
    (hR : R (a.put dst (.v (.bool false))) st) : ALeaf P T st0 N ⟨dst, .binOp .neq t x y yt, ty, pos, aft, gd⟩ m R a st := by
  refine leaf_q (.v (.bool false)) (fun μ0 w0 β μ w ca hinv => ?_) hR
  have hxv := av_vr hinv x
  have hyv := av_vr hinv y
  rw [hx] at hxv
  rw [hy] at hyv
  simp only [VR] at hxv hyv
  refine ⟨.bool false, by simp [RR, VR], fun w' _ => ?_⟩
  have hg : (eqGuard .neq t x y (.bool b) (.bool b)).run P w' = .ok () w' := by cases b <;> rfl
  have hu := (tyR (P := P) ht).und_of.2.1 hk
  have he : (Op.equal t (.bool b) (.bool b)).run P w' = .ok true w' := by
    rw [show Op.equal t (.bool b) (.bool b) = Op.equalIn (9999 + 1) t (.bool b) (.bool b) from rfl]
    generalize 9999 = d
    simp [Op.equalIn, underlying, hu]
  simp [execOp, hxv, hyv, hg, binOp, he]

variable {T : Nat → Prop} {Q : AX → Aa → St → Prop} {id : Nat} {l : List Oper} {x y : Code}
/-- All that is left of a region. -/
theorem s_all {ops : Array Oper} {K : Aa → St → Prop} {ms ms' : List Md} {l : List Oper} {a' : Aa} (h : runN tb ops l.length ms l a = some (ms', [], a')) (hq : K a' st) : AOps P T st0 N ops K ms l a st := s_run _ h hq
omit [TbOk P tb] in
/-- Ways that meet: what stands behind is walked once. -/
theorem c_sj {α : Type} (S : α → List (Nat × AV)) (X : α → List (Nat × Nat × List AV)) (J : α → St → Prop) (h : ACode P T st0 N x (thenQ (fun a' st' => ∃ i, leS a' (S i) ∧ leX a' (X i) ∧ J i st') Q) a st) (k : ∀ i st', J i st' → ACode P T st0 N y Q (mk (S i) (X i)) st') : ACode P T st0 N (.seq x y) Q a st := by
  refine c_seq (c_mono (fun e a' st' hq => ?_) h)
  cases e with
  | normal => obtain ⟨i, h1, h2, h3⟩ := hq; exact c_mk (S i) (X i) h1 h2 (k i st' h3)
  | exit id => exact hq
  | ret => exact hq
omit [TbOk P tb] in
/-- A region whose ways meet at its end. -/
theorem c_rj (S : List (Nat × AV)) (X : List (Nat × Nat × List AV)) (hd : dstsOk N l = true) (h : AOps P T st0 N l.toArray (fun a' st' => leS a' S ∧ leX a' X ∧ st = st') [] l a st) (k : ACode P T st0 N y Q (mk S X) st) : ACode P T st0 N (.seq (.region id l.toArray false) y) Q a st := by
  refine c_seq (c_mono (Q := fun e a' st' => match e with | .normal => leS a' S ∧ leX a' X ∧ st = st' | _ => False) (fun e a' st' hq => ?_) (c_region hd h))
  cases e with
  | normal => obtain ⟨h1, h2, rfl⟩ := hq; exact c_mk S X h1 h2 k
  | exit id => exact hq.elim
  | ret => exact hq.elim
/-- A region that draws its order, the last of its code. -/
theorem c_d1 {tb' : Tb} [TbOk P tb'] (sch : List Nat) (ms : List Md) (hd : dstsOk N l = true) (hB : drawOk l.toArray sch ms = true) (h : AOps P T st0 N l.toArray (Q .normal) ms (sch.filterMap (l.toArray[·]?)) a st) : ACode P T st0 N (.region id l.toArray true) Q a st :=
  c_draw (TbOk.mixed (tb := tb')) sch ms hd hB h
/-- A region that draws its order, whose ways meet at its end. -/
theorem c_dj {tb' : Tb} [TbOk P tb'] (sch : List Nat) (ms : List Md) (S : List (Nat × AV)) (X : List (Nat × Nat × List AV)) (hd : dstsOk N l = true) (hB : drawOk l.toArray sch ms = true)
    (h : AOps P T st0 N l.toArray (fun a' st' => leS a' S ∧ leX a' X ∧ st = st') ms (sch.filterMap (l.toArray[·]?)) a st) (k : ACode P T st0 N y Q (mk S X) st) : ACode P T st0 N (.seq (.region id l.toArray true) y) Q a st := by
  refine c_seq (c_mono (Q := fun e a' st' => match e with | .normal => leS a' S ∧ leX a' X ∧ st = st' | _ => False) (fun e a' st' hq => ?_) (c_draw (TbOk.mixed (tb := tb')) sch ms hd hB h))
  cases e with
  | normal => obtain ⟨h1, h2, rfl⟩ := hq; exact c_mk S X h1 h2 k
  | exit id => exact hq.elim
  | ret => exact hq.elim
/-- clear, of a cut of a row of the call's own. -/
theorem o_clrF {t : Nat} {x : Operand} {e : Nat} {r o n : Nat} {l : List Int} (ht : elem1 tb t = some (e, .int .i64, 8)) (hx : av a x = .sl (some r) o n) (hf : Fr st0.n st (some r) l) (hn : o + n ≤ l.length)
    (hR : ∀ st', Fr st0.n st' (some r) (l.take o ++ List.replicate n 0 ++ l.drop (o + n)) → Ext (fun i => some r = some i) st st' → R (a.put dst (.v (.tup []))) st') : ALeaf P T st0 N ⟨dst, .call ⟨.builtin .clear, #[x], #[t]⟩, ty, pos, aft, gd⟩ .n R a st := by
  obtain ⟨h2, h3, h4⟩ := hf.ob
  refine o_clear ht rfl hx h3 (fun h => by omega) h4 (by simpa using hn) ?_
  have e1 : (l.map I).take o ++ List.replicate n (Z.int .i64).av ++ (l.map I).drop (o + n) = (l.take o ++ List.replicate n 0 ++ l.drop (o + n)).map I := by
    simp only [List.map_append, List.map_take, List.map_drop, List.map_replicate]; rfl
  rw [e1]
  refine hR _ hf.set ?_
  have := ext_set st r (.row true ((l.take o ++ List.replicate n 0 ++ l.drop (o + n)).map I))
  exact ⟨this.n, fun i hi hn => this.ob i hi fun e => hn (by rw [e])⟩
end
end Go.Proofs.YtmphklmhhcmbnaaDoorW.Ax

/- Rules for rows of bytes, and for strings. -/
namespace Go.Proofs.YtmphklmhhcmbnaaDoorW.Ax
open Go Go.RowKit
set_option linter.unusedVariables false

abbrev B8 (n : Int) : AV := .int .u8 n
/-- A row of bytes that is the call's own; or nil. -/
def Fb (n0 : Nat) (st : St) (r : Option Nat) (l : List Int) : Prop := (r = none ∧ l = []) ∨ ∃ i, r = some i ∧ n0 ≤ i ∧ i < st.n ∧ st.ob i = .row true (l.map B8)
theorem Fb.ext {n0 : Nat} {T' : Nat → Prop} {st st' : St} {r : Option Nat} {l : List Int} (h : Fb n0 st r l) (he : Ext T' st st') (hn : ∀ i, r = some i → ¬ T' i) : Fb n0 st' r l := by
  rcases h with h | ⟨i, rfl, h1, hi, ho⟩
  · exact .inl h
  · exact .inr ⟨i, rfl, h1, Nat.lt_of_lt_of_le hi he.n, by rw [he.ob i hi (hn i rfl)]; exact ho⟩
theorem Fb.ex {n0 : Nat} {st st' : St} {r : Option Nat} {l : List Int} (h : Fb n0 st r l) (he : Ex st st') : Fb n0 st' r l := h.ext he fun _ _ h => h
theorem fb_push (st : St) (l : List Int) : Fb st.n (st.push (.row true (l.map B8))) (some st.n) l := .inr ⟨st.n, rfl, Nat.le_refl _, Nat.lt_succ_self _, push_ob _ _⟩
theorem Fb.bd {n0 : Nat} {st : St} {r : Option Nat} {l : List Int} (h : Fb n0 st r l) : ∀ i, r = some i → n0 ≤ i ∧ i < st.n := fun i hi => by
  rcases h with ⟨h, _⟩ | ⟨k, h, h1, h2, _⟩
  · rw [h] at hi; cases hi
  · rw [h] at hi; injection hi with hi; omega
theorem all_one8 (ys : List Int) : (ys.map B8).all oneA = true := by induction ys with | nil => rfl | cons y ys ih => exact ih
/-- What is made since is turned: what was there before is not. -/
theorem Ext.ownb {st0 st st' : St} {r : Option Nat} {l : List Int} (h : Ex st0 st) (hf : Fb st0.n st r l) (he : Ext (fun i => r = some i) st st') : Ex st0 st' :=
  h.trans he fun k hk e => by have := hf.bd k e; omega

section
variable {P : Program} {tb : Tb} [TbOk P tb] {st0 : St} {N : Nat} {a : Aa} {st : St} {R : Aa → St → Prop} {m : Md}
variable {dst : Option Nat} {ty : Nat} {pos : String} {aft : Array Edge} {gd : Option (Nat × Bool)}
/-- append of one byte to a row of the call's own. -/
theorem o_appB {s x : Operand} {t : Nat} {e : Nat} {r : Option Nat} {q n : Nat} {l : List Int} {y : Int} (ht : elem1 tb t = some (e, .int .u8, 1)) (hsv : av a s = .sl r 0 n) (hn : n = l.length) (hv : Fb st0.n st r l) (hx : av a x = .sl (some q) 0 1) (hy : cell st (some q) 0 = some (B8 y)) (hbig : l.length + 1 ≤ 1099511627776)
    (hR : ∀ r2 st', Fb st0.n st' r2 (l ++ [y]) → Ext (fun i => r = some i) st st' → R (a.put dst (.v (.sl r2 0 (l ++ [y]).length))) st') : ALeaf P No st0 N ⟨dst, .call ⟨.builtin .append, #[s, x], #[t, t]⟩, ty, pos, aft, gd⟩ .n R a st := by
  subst hn
  refine o_append (l := l.map B8) (ys := [y].map B8) ht (by omega) hsv ?_ ⟨some q, 0, by rw [hx]; rfl, fun j hj => ?_⟩ (all_one8 [y]) (by simpa using hbig) (fun v' st' ho he => ?_)
  · rcases hv with ⟨rfl, rfl⟩ | ⟨i, rfl, h1, h2, h3⟩
    · exact .inl ⟨rfl, rfl⟩
    · exact .inr ⟨i, by rw [List.length_map], h2, fun h => absurd h (by omega), h3⟩
  · have : j = 0 := by simpa using hj
    subst this
    exact hy
  · rw [← List.map_append] at ho
    rcases ho with ⟨rfl, h⟩ | ⟨i, rfl, h1, h2, h3⟩
    · simp at h
    · have := hR (some i) st' (.inr ⟨i, rfl, Nat.le_of_not_lt fun h => h2 h, h1, h3⟩) ⟨he.n, fun i hi hn => he.ob i hi fun ⟨o, n, e⟩ => hn (by injection e)⟩
      rw [List.length_map]; exact this
/-- The string of bytes. -/
def bstr (ns : List Int) : ByteArray := ns.foldl (fun r n => r.push (UInt8.ofNat n.toNat)) ByteArray.empty
theorem pre_cell {w w' : World} (hp : Pre w w') {ad : Addr} {u : Value} (h : w.cell? ad = some u) : w'.cell? ad = some u := by
  have hb : ad.block < w.heap.size := by
    unfold World.cell? at h
    split at h
    · rename_i hh; exact (Array.getElem?_eq_some_iff.1 hh).1
    · cases h
  unfold World.cell? at h ⊢
  rw [hp.blk _ hb]; exact h
theorem vrl_bytes {n : Nat} {μ : Nat → Loc} : ∀ {ns : List Int} {cs : List Value}, VRL n μ (ns.map B8) cs → cs = ns.map (Value.int .u8)
  | [], cs, h => h
  | x :: ns, cs, h => by
    obtain ⟨v, l', rfl, h1, h2⟩ := h
    have h1 : v = .int .u8 x := h1
    rw [h1, vrl_bytes h2]; rfl
/-- Bytes to a string. -/
theorem o_bstr {T : Nat → Prop} {s d : Nat} {x : Operand} {e : Nat} {ns : List Int} {j : TyI} (hs : elem1 tb s = some (e, .int .u8, 1)) (he : ∃ i, look tb e = some i ∧ i.k = .int .u8) (hd : look tb d = some j) (hj : j.k = .str) (hx : Rd st (av a x) (ns.map B8))
    (hR : R (a.put dst (.v (.str (bstr ns)))) st) : ALeaf P T st0 N ⟨dst, .convert s d x, ty, pos, aft, gd⟩ m R a st := by
  refine leaf_q (.v (.str (bstr ns))) (fun μ0 w0 β μ w ca hinv => ?_) hR
  obtain ⟨hu, _⟩ := elem1_ok (P := P) hs
  obtain ⟨i, hi, hik⟩ := he
  have hue := (tyR (P := P) hi).und_of.1 _ hik
  have hud := (tyR (P := P) hd).und_of.2.2.1 hj
  obtain ⟨A, c, cl, hcv, hvl, hcell, hnil⟩ := rd_cells hinv hx (av_vr hinv x)
  have hcl := vrl_bytes hvl
  refine ⟨.string (bstr ns), rfl, fun w' hp => ?_⟩
  have hcv' : (execOp ca.eval ⟨dst, .convert s d x, ty, pos, aft, gd⟩).run P w' = ((Conv.bytesToString (.slice A (ns.map B8).length c)).run P w').andThen fun v w' => .ok (.value v) w' := by
    simp [execOp, hcv, run_convert_bytes_string w' s d e A _ c hu hue hud]
  rw [hcv', List.length_map]
  cases A with
  | none =>
    have h0 := hnil rfl
    rw [hcl] at h0
    have hns : ns = [] := by simpa using h0
    subst hns
    rfl
  | some ad =>
    have hl := run_loadCells_list (P := P) w' ad (ns.map (Value.int .u8)) (fun j u hu' => by
      rw [← hcl] at hu'
      have h1 := hcell ad rfl j u hu'
      exact pre_cell hp h1)
    rw [List.length_map] at hl
    rw [run_bytesToString w' ad ns.length c ns hl]
    rfl
end
end Go.Proofs.YtmphklmhhcmbnaaDoorW.Ax

/- Rules: slices made of what is given, as new rows. -/
namespace Go.Proofs.YtmphklmhhcmbnaaDoorW.Ax
open Go Go.RowKit
set_option linter.unusedVariables false
section
variable {P : Program} {tb : Tb} [TbOk P tb] {st0 : St} {N : Nat} {a : Aa} {st : St} {R : Aa → St → Prop} {m : Md}
variable {dst : Option Nat} {ty : Nat} {pos : String} {aft : Array Edge} {gd : Option (Nat × Bool)}
/-- A slice of whole numbers. -/
theorem o_ints {T : Nat → Prop} {t len : Nat} {parts : Array (Nat × Operand)} {e : Nat} (ys : List Int) (hm : m.loud) (ht : elem1 tb t = some (e, .int .i64, 8)) (hlen : len ≤ 16777216) (hl : setA (List.replicate len (I 0)) (partsA a parts.toList) = some (ys.map I)) (hone : ((partsA a parts.toList).all fun p => oneA p.2) = true) (hn : len = ys.length)
    (hR : ∀ q st', Fr st.n st' (some q) ys → Ex st st' → R (a.put dst (.v (.sl (some q) 0 ys.length))) st') : ALeaf P T st0 N ⟨dst, .buildSlice t len parts, ty, pos, aft, gd⟩ m R a st := by
  subst hn
  exact o_bslice (l := ys.map I) hm ht hlen hl hone (hR st.n _ (fr_push st ys) (ex_push _ _))
/-- A slice of values of one cell. -/
theorem o_blk {T : Nat → Prop} {t len : Nat} {parts : Array (Nat × Operand)} {e : Nat} {z : Z} {b : Nat} (l : List AV) (hm : m.loud) (ht : elem1 tb t = some (e, z, b)) (hlen : len ≤ 16777216) (hl : setA (List.replicate len z.av) (partsA a parts.toList) = some l) (hone : ((partsA a parts.toList).all fun p => oneA p.2) = true)
    (hR : ∀ q st', (∀ j, cell st' (some q) j = l[j]?) → Ex st st' → R (a.put dst (.v (.sl (some q) 0 len))) st') : ALeaf P T st0 N ⟨dst, .buildSlice t len parts, ty, pos, aft, gd⟩ m R a st :=
  o_bslice hm ht hlen hl hone (hR st.n _ (fun j => cell_row (st := st.push (.row true l)) (i := st.n) (Nat.lt_succ_self _) (push_ob _ _) j) (ex_push _ _))
end
end Go.Proofs.YtmphklmhhcmbnaaDoorW.Ax

/- Regions that draw their order, once more: what waits for what through others; a store that may come ahead of reads of the frame's own boxes. -/
namespace Go.Proofs.YtmphklmhhcmbnaaDoorW.Ax
open Go Go.RowKit
set_option linter.unusedVariables false

section
variable {P : Program} {ops : Array Oper} {Q' : Exit → Act → World → Prop} {Pw : Nat → World → World → Prop}

def wpX (P : Program) (ops : Array Oper) (Q' : Exit → Act → World → Prop) (Pw : Nat → World → World → Prop) : Nat → Array Bool → Act → World → Prop
  | 0, listed, ca, w => Region.ready .any ops listed = [] ∧ Q' .normal ca w
  | fuel + 1, listed, ca, w => (Region.ready .any ops listed = [] → Q' .normal ca w) ∧
      ∀ i ∈ Region.ready .any ops listed, wpOp P ops Q' i (fun ca' w' => Pw i w w' ∧ wpX P ops Q' Pw fuel (listed.setIfInBounds i true) ca' w') ca w
theorem wpAny_of_wpX : ∀ (fuel : Nat) (listed : Array Bool) (ca : Act) (w : World), wpX P ops Q' Pw fuel listed ca w → wpAny P .any ops Q' fuel listed ca w
  | 0, _, _, _, h => h
  | fuel + 1, _, _, _, h => ⟨h.1, fun i hi => wpOp_mono (fun ca' w' hk => wpAny_of_wpX fuel _ ca' w' hk.2) (h.2 i hi)⟩

/-- 'o' yields 'v' here, and in every world to which 'R' leads. -/
def YX (P : Program) (ops : Array Oper) (R : World → World → Prop) (o : Oper) (v : Value) (ca : Act) (w : World) : Prop :=
  (Region.wanted o (yielded ops ca.tmps) = true ∧ ∀ w', R w w' → (execOp ca.eval o).run P w' = .ok (.value v) w') ∨ (Region.wanted o (yielded ops ca.tmps) = false ∧ v = undef)
variable {R : World → World → Prop}
theorem YX.pre (htr : ∀ a b c, R a b → R b c → R a c) {o : Oper} {v : Value} {ca : Act} {w w' : World} (h : YX P ops R o v ca w) (hp : R w w') : YX P ops R o v ca w' :=
  h.imp (fun h => ⟨h.1, fun w'' hp' => h.2 w'' (htr _ _ _ hp hp')⟩) id
theorem YX.same {o : Oper} {v : Value} {ca ca' : Act} {w : World} (h : YX P ops R o v ca w) (he : execOp ca'.eval o = execOp ca.eval o) (hw : Region.wanted o (yielded ops ca'.tmps) = Region.wanted o (yielded ops ca.tmps)) : YX P ops R o v ca' w := by
  unfold YX at *
  rw [he, hw]
  exact h
theorem YX.op (hrf : ∀ w, R w w) {i : Nat} {o : Oper} {v : Value} {ca : Act} {w : World} (hi : ops[i]? = some o) (h : YX P ops R o v ca w) {K : Act → World → Prop} (hk : K (ca.put o.dst v) w) : wpOp P ops Q' i K ca w := by
  unfold wpOp
  simp only [hi]
  rcases h with ⟨h1, h2⟩ | ⟨h1, rfl⟩
  · rw [if_pos h1]
    refine .inl ?_
    unfold Oper.wp
    rw [h2 w (hrf w)]
    exact hk
  · rw [if_neg (by simp [h1])]
    exact hk

theorem wpX_first (hrf : ∀ w, R w w) (htr : ∀ a b c, R a b → R b c → R a c) {i : Nat} {oi : Oper} {v : Value} (hi : ops[i]? = some oi) (hsel : ∀ (j : Nat) (o : Oper) cs b, ops[j]? = some o → o.op ≠ .select cs b) (hQ : ∀ e ca w, e ≠ .normal → ¬ Q' e ca w)
    (hPi : ∀ w, Pw i w w) (D : Nat → Bool) (hD : ∀ j oj, ops[j]? = some oj → D j = true → ∃ e ∈ oj.after, Region.binds .any e = true ∧ (e.on = i ∨ D e.on = true)) :
    ∀ (fuel : Nat) (listed : Array Bool) (ca : Act) (w : World), (∀ j, D j = true → listed.getD j false = false) →
      (∀ j oj, ops[j]? = some oj → j ≠ i → listed.getD j true = false → D j = false → oi.apart ops oj = true ∧ ∀ w w', Pw j w w' → R w w') →
      i ∈ Region.ready .any ops listed → YX P ops R oi v ca w → wpX P ops Q' Pw fuel (listed.setIfInBounds i true) (ca.put oi.dst v) w → wpX P ops Q' Pw (fuel + 1) listed ca w := by
  intro fuel
  induction fuel with
  | zero =>
    intro listed ca w _ _ hr hy H
    refine ⟨fun h => (by rw [h] at hr; cases hr), fun j hj => ?_⟩
    by_cases hji : j = i
    · subst hji; exact hy.op hrf hi ⟨hPi w, H⟩
    · have := ready_mono hj hji
      rw [H.1] at this
      cases this
  | succ fuel ih =>
    intro listed ca w hDl hfree hr hy H
    refine ⟨fun h => (by rw [h] at hr; cases hr), fun j hj => ?_⟩
    by_cases hji : j = i
    · subst hji; exact hy.op hrf hi ⟨hPi w, H⟩
    · have h1 := H.2 j (ready_mono hj hji)
      obtain ⟨hjun, oj, hoj, hall⟩ := mem_ready.1 hj
      have hDj : D j = false := by
        cases hd : D j with
        | false => rfl
        | true =>
          obtain ⟨e, he, hb, h2⟩ := hD j oj hoj hd
          have h3 := hall e he hb
          rcases h2 with h2 | h2
          · have h0 := (mem_ready.1 hr).1
            rw [h2] at h3
            rcases Nat.lt_or_ge i listed.size with h' | h'
            · simp [h'] at h0 h3; rw [h0] at h3; cases h3
            · simp [Array.getElem?_eq_none h'] at h3
          · rw [hDl _ h2] at h3; cases h3
      obtain ⟨hap, hfl⟩ := hfree j oj hoj hji hjun hDj
      obtain ⟨_, _, h3⟩ := Oper.apart_spec hap
      have h2 := wpOp_swap (oi := oi) (v := v) hoj hap (fun cs b => hsel j oj cs b hoj) hQ (Y := fun ca' => YX P ops R oi v ca' w)
        (fun d u => YX.same hy ((execOp_put oi (fun cs b => hsel i oi cs b hi) { ca with defers := d } oj.dst u h3).trans rfl) ((wanted_put oi { ca with defers := d } oj.dst u h3).trans rfl)) h1
      have hDl' : ∀ k, D k = true → (listed.setIfInBounds j true).getD k false = false := fun k hk => by
        have hjk : j ≠ k := fun e => by rw [e, hk] at hDj; cases hDj
        rw [getD_set_ne false hjk]; exact hDl k hk
      have hfree' : ∀ k ok, ops[k]? = some ok → k ≠ i → (listed.setIfInBounds j true).getD k true = false → D k = false → oi.apart ops ok = true ∧ ∀ w w', Pw k w w' → R w w' := fun k ok hk hki hun hno => by
        refine hfree k ok hk hki ?_ hno
        by_cases hjk : j = k
        · subst hjk; exact hjun
        · rw [getD_set_ne true hjk] at hun; exact hun
      refine wpOp_mono (fun ca' w' h3 => ?_) h2
      obtain ⟨hy', hp, hE⟩ := h3
      refine ⟨hp, ih (listed.setIfInBounds j true) ca' w' hDl' hfree' (ready_mono hr (Ne.symm hji)) (hy'.pre htr (hfl _ _ hp)) ?_⟩
      rw [Array.setIfInBounds_comm _ _ hji]
      exact hE
theorem wpX_sole {i : Nat} {fuel : Nat} {listed : Array Bool} {ca : Act} {w : World} (hr : Region.ready .any ops listed = [i])
    (h : wpOp P ops Q' i (fun ca' w' => Pw i w w' ∧ wpX P ops Q' Pw fuel (listed.setIfInBounds i true) ca' w') ca w) : wpX P ops Q' Pw (fuel + 1) listed ca w :=
  ⟨fun h => (by rw [hr] at h; cases h), fun j hj => by rw [hr, List.mem_singleton] at hj; subst hj; exact h⟩
end

/-- What waits for 'i', itself or through others. -/
def reachD (ops : Array Oper) (listed : Array Bool) (i : Nat) : Nat → List Nat → List Nat
  | 0, D => D
  | n + 1, D => reachD ops listed i n ((List.range ops.size).filter fun j => j != i && !listed.getD j true && (match ops[j]? with | some oj => oj.after.any (fun e => Region.binds .any e && (e.on == i || D.contains e.on)) | none => false))
def dOk (ops : Array Oper) (listed : Array Bool) (i : Nat) (D : List Nat) : Bool :=
  (List.range ops.size).all (fun j => !D.contains j || (match ops[j]? with | some oj => oj.after.any (fun e => Region.binds .any e && (e.on == i || D.contains e.on)) | none => false)) && D.all (fun j => !listed.getD j false && Nat.blt j ops.size)
/-- What only reads comes as soon as it may. -/
def qOk (ops : Array Oper) (okx : Nat → Bool) (listed : Array Bool) (i : Nat) : Bool :=
  (Region.ready .any ops listed).contains i && dOk ops listed i (reachD ops listed i 6 []) && (List.range ops.size).all fun j => j == i || listed.getD j true || (reachD ops listed i 6 []).contains j || (match ops[j]?, ops[i]? with
    | some oj, some oi => oi.apart ops oj && okx j
    | _, _ => true)
def schedB (ops : Array Oper) (fl : Nat → Bool) (s : Option Nat) : List Nat → List Md → Array Bool → Bool
  | [], _, listed => (Region.ready .any ops listed).isEmpty
  | i :: sch, ms, listed =>
    !(s == some i) && (match ms.headD .n with
     | .q => qOk ops fl listed i
     | .f => fl i && Region.ready .any ops listed == [i]
     | .n => !fl i && Region.ready .any ops listed == [i]) && schedB ops fl s sch ms.tail (listed.setIfInBounds i true)
def drawOk2 (ops : Array Oper) (sch : List Nat) (ms : List Md) : Bool :=
  Region.noSelect ops && sch.length == ops.size && schedB ops (flagOf sch ms) none sch ms (Array.replicate ops.size false)

/-- These blocks stay. -/
def PreB (B : Nat → Prop) (w w' : World) : Prop := w.heap.size ≤ w'.heap.size ∧ ∀ b, B b → b < w.heap.size → w'.heap[b]? = w.heap[b]?
theorem PreB.refl (B : Nat → Prop) (w : World) : PreB B w w := ⟨Nat.le_refl _, fun _ _ _ => rfl⟩
theorem PreB.trans {B : Nat → Prop} (a b c : World) (h : PreB B a b) (k : PreB B b c) : PreB B a c := ⟨Nat.le_trans h.1 k.1, fun i hi hl => (k.2 i hi (Nat.lt_of_lt_of_le hl h.1)).trans (h.2 i hi hl)⟩
theorem PreB.of {B : Nat → Prop} {w w' : World} (h : Pre w w') : PreB B w w' := ⟨h.size, fun b _ hb => h.blk b hb⟩
def PwS (fl : Nat → Bool) (s : Option Nat) (B : Nat → Prop) (j : Nat) (w w' : World) : Prop := (fl j = true → Pre w w') ∧ (s = some j → PreB B w w')
theorem PwS.refl (fl : Nat → Bool) (s : Option Nat) (B : Nat → Prop) (j : Nat) (w : World) : PwS fl s B j w w := ⟨fun _ => Pre.refl w, fun _ => PreB.refl B w⟩

section
variable {P : Program} {T : Nat → Prop} {st0 : St} {N : Nat} {ops : Array Oper} {Q : Aa → St → Prop} {μ0 : Nat → Loc} {w0 : World} {Q' : Exit → Act → World → Prop} {fl : Nat → Bool} {s : Option Nat} {B : Nat → Prop}

theorem first_of {R : World → World → Prop} {Pw : Nat → World → World → Prop} (hrf : ∀ w, R w w) (htr : ∀ a b c, R a b → R b c → R a c) (hQn : ∀ e ca w, e ≠ .normal → ¬ Q' e ca w) (hs : Region.noSelect ops = true) {okx : Nat → Bool} {listed : Array Bool} {i : Nat} {oi : Oper} {v : Value} {ca : Act} {w : World} {fuel : Nat}
    (hB : qOk ops okx listed i = true) (hoi : ops[i]? = some oi) (hPi : ∀ w, Pw i w w) (hPj : ∀ j, okx j = true → ∀ w w', Pw j w w' → R w w') (hy : YX P ops R oi v ca w) (h : wpX P ops Q' Pw fuel (listed.setIfInBounds i true) (ca.put oi.dst v) w) : wpX P ops Q' Pw (fuel + 1) listed ca w := by
  simp only [qOk, Bool.and_eq_true, List.all_eq_true, List.mem_range, List.contains_iff_mem] at hB
  obtain ⟨⟨hin, hD⟩, hall⟩ := hB
  generalize reachD ops listed i 6 [] = D at hD hall
  simp only [dOk, Bool.and_eq_true, List.all_eq_true, List.mem_range] at hD
  obtain ⟨hD1, hD2⟩ := hD
  refine wpX_first hrf htr hoi (Region.noSelect_spec hs) hQn hPi (fun j => D.contains j) (fun j oj hj hd => ?_) fuel listed ca w (fun j hj => ?_) (fun j oj hj hne hun hd => ?_) hin hy h
  · have h1 := hD1 j (Array.getElem?_eq_some_iff.1 hj).1
    simp only [hd, Bool.not_true, Bool.false_or, hj] at h1
    obtain ⟨e, he, hb⟩ := Array.any_eq_true'.1 h1
    simp only [Bool.and_eq_true, Bool.or_eq_true, beq_iff_eq] at hb
    exact ⟨e, he, hb.1, hb.2⟩
  · have h1 := hD2 j (by simpa using hj)
    simpa using h1.1
  · have h1 := hall j (Array.getElem?_eq_some_iff.1 hj).1
    have hd' : D.contains j = false := hd
    simp only [hj, hoi, Bool.or_eq_true, beq_iff_eq, hne, false_or, hun, Bool.false_eq_true, hd', Bool.and_eq_true] at h1
    exact ⟨h1.1, fun w w' hp => hPj j h1.2 w w' hp⟩

theorem wpX_of_AOps (hQ : ∀ ca w, Good T μ0 st0 w0 N Q ca w → Q' .normal ca w) (hQn : ∀ e ca w, e ≠ .normal → ¬ Q' e ca w) (hs : Region.noSelect ops = true) (hd : ∀ (i : Nat) o, ops[i]? = some o → ∀ x, o.dst = some x → x < N) :
    ∀ (sch : List Nat) (ms : List Md) (listed : Array Bool), schedB ops fl s sch ms listed = true → ∀ ca w, Good T μ0 st0 w0 N (AOps P T st0 N ops Q ms (sch.filterMap (ops[·]?))) ca w →
      wpX P ops Q' (PwS fl s B) sch.length listed ca w
  | [], _, listed, hB, ca, w, h => ⟨by simpa [schedB] using hB, hQ ca w (h.mono fun _ _ h => h)⟩
  | i :: sch, ms, listed, hB, ca, w, h => by
    obtain ⟨β, a, μ, st, hi, hr⟩ := h
    simp only [schedB, Bool.and_eq_true] at hB
    obtain ⟨⟨hsi, hB⟩, hB'⟩ := hB
    have hsi : s ≠ some i := by simpa using hsi
    have pw : ∀ w', (fl i = true → Pre w w') → PwS fl s B i w w' := fun w' h => ⟨h, fun e => absurd e hsi⟩
    have ih := fun ca w => wpX_of_AOps hQ hQn hs hd sch ms.tail (listed.setIfInBounds i true) hB' ca w
    have hin : i ∈ Region.ready .any ops listed := by
      cases hm : ms.headD .n <;> rw [hm] at hB
      · simp only [qOk, Bool.and_eq_true] at hB
        simpa using hB.1.1
      · simp only [Bool.and_eq_true, beq_iff_eq] at hB
        rw [hB.2]; simp
      · simp only [Bool.and_eq_true, beq_iff_eq] at hB
        rw [hB.2]; simp
    obtain ⟨hjun, oi, hoi, hall⟩ := mem_ready.1 hin
    have hd0 := hd i oi hoi
    simp only [List.filterMap_cons, hoi, AOps] at hr
    have key : (∃ v, (∃ r, RR st.n μ β r v ∧ AOps P T st0 N ops Q ms.tail (sch.filterMap (ops[·]?)) (a.put oi.dst r) st) ∧ YX P ops Pre oi v ca w) ∨
        (ms.headD .n ≠ .q ∧ wpOp P ops Q' i (fun ca' w' => (fl i = true → Pre w w') ∧ Good T μ0 st0 w0 N (AOps P T st0 N ops Q ms.tail (sch.filterMap (ops[·]?))) ca' w') ca w) := by
      have leaf : Region.wanted oi (yielded ops ca.tmps) = true → ALeaf P T st0 N oi (ms.headD .n) (AOps P T st0 N ops Q ms.tail (sch.filterMap (ops[·]?))) a st → _ := fun hw hl => by
        show (∃ v, (∃ r, RR st.n μ β r v ∧ AOps P T st0 N ops Q ms.tail (sch.filterMap (ops[·]?)) (a.put oi.dst r) st) ∧ YX P ops Pre oi v ca w) ∨
          (ms.headD .n ≠ .q ∧ wpOp P ops Q' i (fun ca' w' => (fl i = true → Pre w w') ∧ Good T μ0 st0 w0 N (AOps P T st0 N ops Q ms.tail (sch.filterMap (ops[·]?))) ca' w') ca w)
        cases hm : ms.headD .n with
        | q =>
          rw [hm] at hl
          obtain ⟨r, hq, hr⟩ := hl
          obtain ⟨cv, h1, h2⟩ := hq μ0 w0 β μ w ca hi
          exact .inl ⟨cv, ⟨r, h1, hr⟩, .inl ⟨hw, h2⟩⟩
        | f =>
          rw [hm] at hl
          refine .inr ⟨by simp, ?_⟩
          unfold wpOp
          simp only [hoi, hw, if_true]
          exact .inl (Oper.wp_mono (fun ca' w' hk => ⟨fun _ => hk.1 rfl, hk.2⟩) (hl hd0 _ _ _ _ _ _ hi Q'))
        | n =>
          rw [hm] at hl hB
          refine .inr ⟨by simp, ?_⟩
          unfold wpOp
          simp only [hoi, hw, if_true]
          refine .inl (Oper.wp_mono (fun ca' w' hk => ⟨fun hf => ?_, hk.2⟩) (hl hd0 _ _ _ _ _ _ hi Q'))
          simp [hf] at hB
      cases hg : oi.guard with
      | none =>
        rw [hg] at hr
        exact leaf (by simp [Region.wanted, hg]) hr
      | some jw =>
        obtain ⟨j, want⟩ := jw
        rw [hg] at hr
        obtain ⟨t, ht, ⟨hsb, hr⟩ | ⟨hsb, hr⟩⟩ := hr
        · have hy := yielded_of hi ht hsb
          exact leaf (by simp [Region.wanted, hg, hy]) hr
        · have hy := yielded_not hi ht hsb
          exact .inl ⟨undef, ⟨.v .und, by simp [RR, VR], hr⟩, .inr ⟨by simp [Region.wanted, hg, hy], rfl⟩⟩
    rcases key with ⟨v, ⟨r, hrr, hrest⟩, hy⟩ | ⟨hne, hop⟩
    · have hgood : Good T μ0 st0 w0 N (AOps P T st0 N ops Q ms.tail (sch.filterMap (ops[·]?))) (ca.put oi.dst v) w := ⟨β, _, μ, st, hi.put hd0 hrr, hrest⟩
      cases hm : ms.headD .n with
      | q =>
        rw [hm] at hB
        exact first_of (R := Pre) Pre.refl (fun a b c h k => h.trans k) hQn hs hB hoi (fun w => PwS.refl ..) (fun j hj w w' hp => hp.1 hj) hy (ih _ _ hgood)
      | f =>
        rw [hm] at hB
        simp only [Bool.and_eq_true, beq_iff_eq] at hB
        exact wpX_sole hB.2 (hy.op Pre.refl hoi ⟨PwS.refl .., ih _ _ hgood⟩)
      | n =>
        rw [hm] at hB
        simp only [Bool.and_eq_true, beq_iff_eq] at hB
        exact wpX_sole hB.2 (hy.op Pre.refl hoi ⟨PwS.refl .., ih _ _ hgood⟩)
    · have hsole : Region.ready .any ops listed = [i] := by
        cases hm : ms.headD .n <;> rw [hm] at hB hne
        · exact absurd rfl hne
        · simp only [Bool.and_eq_true, beq_iff_eq] at hB; exact hB.2
        · simp only [Bool.and_eq_true, beq_iff_eq] at hB; exact hB.2
      exact wpX_sole hsole (wpOp_mono (fun ca' w' hk => ⟨pw w' hk.1, ih ca' w' hk.2⟩) hop)
end

theorem c_draw2 {P : Program} {T : Nat → Prop} {st0 : St} {N : Nat} {Q : AX → Aa → St → Prop} {a : Aa} {st : St} {id : Nat} {l : List Oper} (hm : P.follows .mixedOrders = true) (sch : List Nat) (ms : List Md) (hd : dstsOk N l = true) (hB : drawOk2 l.toArray sch ms = true)
    (h : AOps P T st0 N l.toArray (Q .normal) ms (sch.filterMap (l.toArray[·]?)) a st) : ACode P T st0 N (.region id l.toArray true) Q a st := by
  intro μ0 w0 β μ w ca hi
  simp only [drawOk2, Bool.and_eq_true, beq_iff_eq] at hB
  obtain ⟨⟨hs, hlen⟩, hB⟩ := hB
  refine wp_mono (wp_region_any (Q := fun e ca w => e = .normal ∧ Good T μ0 st0 w0 N (Q .normal) ca w) hm (wpAny_of_wpX (Pw := PwS (flagOf sch ms) none (fun _ => False)) _ _ _ _ ?_)) fun e ca' w' hq => by obtain ⟨rfl, hq⟩ := hq; exact hq
  rw [← hlen] at hB ⊢
  exact wpX_of_AOps (fun ca w h => ⟨rfl, h⟩) (fun e ca w hne hq => hne hq.1) hs (fun i o ho x hx => dstsOk_spec hd o (by simpa using List.mem_of_getElem? (by simpa using ho)) x hx) sch ms _ hB ca _ ⟨β, a, μ, st, hi.pre (Pre.drew w), h⟩
section
variable {P : Program} {T : Nat → Prop} {st0 : St} {N : Nat} {a : Aa} {st : St} {Q : AX → Aa → St → Prop} {id : Nat} {l : List Oper} {y : Code}
/-- A region that draws its order; what waits for a thing through others counts as well. -/
theorem c_dt {tb' : Tb} [TbOk P tb'] (sch : List Nat) (ms : List Md) (hd : dstsOk N l = true) (hB : drawOk2 l.toArray sch ms = true) (h : AOps P T st0 N l.toArray (ACode P T st0 N y Q) ms (sch.filterMap (l.toArray[·]?)) a st) : ACode P T st0 N (.seq (.region id l.toArray true) y) Q a st :=
  c_seq (c_draw2 (TbOk.mixed (tb := tb')) sch ms hd hB h)
end
end Go.Proofs.YtmphklmhhcmbnaaDoorW.Ax

/- A region that draws its order, in which a store into a row may come ahead of reads of the frame's own boxes. -/
namespace Go.Proofs.YtmphklmhhcmbnaaDoorW.Ax
open Go Go.RowKit
set_option linter.unusedVariables false

/-- It yields the same in every world in which these boxes of the frame still are. -/
def AQX (P : Program) (T : Nat → Prop) (st0 : St) (N : Nat) (K : List Nat) (o : Oper) (r : RV) (a : Aa) (st : St) : Prop :=
  ∀ μ0 w0 β μ w ca, Inv T μ0 st0 w0 N β a μ st w ca → ∃ cv, RR st.n μ β r cv ∧ ∀ w', (∀ k ∈ K, a.x k ≠ none → w'.heap[β k]? = w.heap[β k]?) → (execOp ca.eval o).run P w' = .ok (.value cv) w'
/-- A list of operations that only read boxes. -/
def APre (P : Program) (T : Nat → Prop) (st0 : St) (N : Nat) (K : List Nat) (Q : Aa → St → Prop) : List Oper → Aa → St → Prop
  | [], a, st => Q a st
  | o :: rest, a, st => o.guard = none ∧ ∃ r, AQX P T st0 N K o r a st ∧ APre P T st0 N K Q rest (a.put o.dst r) st
/-- A store into a row of one's own, told so far that its effect is known. -/
def StoC (tb : Tb) (o : Oper) (a : Aa) (st : St) : Prop := ∃ dst t x v ty pos aft r j l vs i, o = ⟨dst, .store t x v, ty, pos, aft, none⟩ ∧ look tb t = some i ∧ av a x = .ptr (some r) j ∧ r < st.n ∧ st.ob r = .row true l ∧ cellsB (av a v) = some vs ∧ vs.all oneA = true ∧ vs.length = i.zero.length ∧ j + vs.length ≤ l.length

section
variable {P : Program} {tb : Tb} [TbOk P tb] {T : Nat → Prop} {st0 : St} {N : Nat} {a : Aa} {st : St} {K : List Nat}
variable {dst : Option Nat} {ty : Nat} {pos : String} {aft : Array Edge} {gd : Option (Nat × Bool)}
omit [TbOk P tb] in
theorem x_move {x : Operand} {r : RV} (h : mvA a x = some r) : AQX P T st0 N K ⟨dst, .move x, ty, pos, aft, gd⟩ r a st := by
  intro μ0 w0 β μ w ca hi
  rw [mvA_eq h]
  exact ⟨ca.eval x, rv_rr hi x, fun w' _ => by simp [execOp]⟩
theorem x_load {t : Nat} {x : Operand} {r : RV} (h : run1 tb a (.load t x) = some r) (hk : (match rv a x with | .lp k _ => K.contains k | _ => false) = true) : AQX P T st0 N K ⟨dst, .load t x, ty, pos, aft, gd⟩ r a st := by
  intro μ0 w0 β μ w ca hi
  have hx := rv_rr hi x
  simp only [run1] at h
  split at h
  · rename_i k o hkk
    rw [hkk] at hx hk
    simp only [RR] at hx
    have hk : k ∈ K := by simpa using hk
    split at h
    · rename_i l hl
      split at h
      · rename_i i ht
        obtain ⟨cs, E, hg, hv⟩ := hi.box k l hl
        have hvd := hv.drop o
        have key : ∀ cv, (if i.agg = true then i.zero.length ≤ (cs.toList.drop o).length ∧ cv = .agg ((cs.toList.drop o).take i.zero.length).toArray else (cs.toList.drop o).head? = some cv) → RR st.n μ β r cv →
            ∃ cv, RR st.n μ β r cv ∧ ∀ w', (∀ k ∈ K, a.x k ≠ none → w'.heap[β k]? = w.heap[β k]?) → (execOp ca.eval ⟨dst, .load t x, ty, pos, aft, gd⟩).run P w' = .ok (.value cv) w' := fun cv h1 h2 => by
          refine ⟨cv, h2, fun w' hp => ?_⟩
          have hg' : w'.heap[β k]? = some (.cells cs E (0, 0)) := (hp k hk (by simp [hl])).trans hg
          have := run_loadAt (P := P) ht w' (β k) o cs E (0, 0) hg' cv h1
          simp [execOp, hx, this]
        cases ha : i.agg with
        | true =>
          rw [ha] at h
          simp only [cond_true] at h
          split at h
          · rename_i s hs
            obtain ⟨h1, h2⟩ := takeA_eq _ _ _ hs
            injection h with h
            subst h
            refine key _ (by rw [ha, if_pos rfl]; exact ⟨by rw [hvd.length]; exact h2, rfl⟩) ?_
            simp only [RR, VR]
            exact ⟨_, rfl, by rw [h1]; exact hvd.take _⟩
          · cases h
        | false =>
          rw [ha] at h
          simp only [cond_false] at h
          obtain ⟨cv, cs', e1, v, e2, e3⟩ := headA_ok h hvd
          subst e2
          exact key cv (by rw [ha]; simp [e1]) e3
      · cases h
    · cases h
  · rename_i hne
    split at hk
    · rename_i k o hkk
      exact absurd hkk (hne k o)
    · cases hk
theorem x_field {t : Nat} {x : Operand} {f : Nat} {k o n : Nat} (hx : rv a x = .lp k o) (hn : structN tb t = some n) (hf : Nat.blt f n = true) : AQX P T st0 N K ⟨dst, .fieldAddr t x f, ty, pos, aft, gd⟩ (.lp k (o + f)) a st := by
  intro μ0 w0 β μ w ca hi
  have h := rv_rr hi x
  rw [hx] at h
  simp only [RR] at h
  exact ⟨_, rfl, fun w' _ => by simp [execOp, h, run_fieldAt (P := P) hn (Nat.le_of_ble_eq_true hf)]⟩
theorem x_add {t yt : Nat} {x y : Operand} {m' n' : Int} (hx : av a x = .int .i64 m') (hy : av a y = .int .i64 n') (h0 : -9223372036854775808 ≤ m' + n') (h1 : m' + n' ≤ 9223372036854775807) : AQX P T st0 N K ⟨dst, .binOp .add t x y yt, ty, pos, aft, gd⟩ (.v (.int .i64 (m' + n'))) a st := by
  intro μ0 w0 β μ w ca hi
  have hw : IntKind.i64.wrap (m' + n') = m' + n' := by rw [IntKind.wrap_i64]; omega
  have hxv := av_vr hi x
  have hyv := av_vr hi y
  rw [hx] at hxv
  rw [hy] at hyv
  simp only [VR] at hxv hyv
  obtain ⟨c, h1, h2⟩ := binA_ok (n := st.n) (μ := μ) (op := .add) (x := .int .i64 m') (y := .int .i64 n') (r := .int .i64 (m' + n')) (by simp [binA, kidx, hw]) (cx := .int .i64 m') (cy := .int .i64 n') rfl rfl
  refine ⟨c, h1, fun w' _ => ?_⟩
  have hg : (eqGuard .add t x y (.int .i64 m') (.int .i64 n')).run P w' = .ok () w' := eqGuard_int _ t x y _ _ _ w'
  simp only [execOp, hxv, hyv, Sem.run_bind, hg, Result.andThen_ok, h2, Sem.run_pure]
theorem x_idx {t : Nat} {x ix : Operand} {r : Option Nat} {o n : Nat} {k : IntKind} {q : Int} {e : Nat × Z × Nat} (ht : elem1 tb t = some e) (hx : av a x = .sl r o n) (hi : av a ix = .int k q) (h0 : 0 ≤ q) (h1 : q < n) : AQX P T st0 N K ⟨dst, .indexAddr t x ix, ty, pos, aft, gd⟩ (.v (.ptr r (o + q.toNat))) a st := by
  intro μ0 w0 β μ w ca hinv
  obtain ⟨e, z, b⟩ := e
  obtain ⟨hu, h1'⟩ := elem1_ok (P := P) ht
  obtain ⟨inf, v, e1, e2, _⟩ := one1_info (P := P) h1'
  have hxv := av_vr hinv x
  have hiv := av_vr hinv ix
  rw [hx] at hxv
  rw [hi] at hiv
  simp only [VR] at hiv
  cases r with
  | none =>
    simp only [VR] at hxv
    omega
  | some r =>
    simp only [VR] at hxv
    obtain ⟨hr, A, c, hxe, hc, hA⟩ := hxv
    rcases hA with hA | ⟨hA, _⟩
    · omega
    · refine ⟨.pointer (some ⟨(μ r).b, (μ r).s + (o + q.toNat), none⟩), ⟨hr, rfl⟩, fun w' _ => ?_⟩
      have hlt : q < (n : Int) := h1
      simp [execOp, hxe, hiv, Instr.indexAt, asIntOf, underlying, hu, h0, hlt, sizeOf, typeInfo, e1, e2, hA, Addr.add_lit, Nat.add_assoc]
/-- What a store does to the world. -/
theorem sto_run {μ0 : Nat → Loc} {w0 : World} {β : Nat → Nat} {μ : Nat → Loc} {w : World} {ca : Act} (hinv : Inv T μ0 st0 w0 N β a μ st w ca) {t : Nat} {x v : Operand} {r j : Nat} {l vs : List AV} {i : TyI} (ht : look tb t = some i) (hx : av a x = .ptr (some r) j) (hr : r < st.n) (ho : st.ob r = .row true l) (hv : cellsB (av a v) = some vs) (hone : vs.all oneA = true) (hlen : vs.length = i.zero.length) (hj : j + vs.length ≤ l.length) :
    ∃ cells, (execOp ca.eval ⟨dst, .store t x v, ty, pos, aft, gd⟩).run P w = .ok .skip (w.setRow (μ r).b cells) := by
  have h := hinv.rel.obj r hr
  rw [ho] at h
  obtain ⟨cs, E, fz, h1, h2, h3, h4, h5⟩ := h
  have hfz := h2 rfl
  subst hfz
  have hxv := av_vr hinv x
  rw [hx] at hxv
  simp only [VR] at hxv
  have hvv := (av_vr hinv v).cellsB hv
  have hvl := hvv.length
  have hones := VRL.ones hvv hone
  have hsz : (sizeOf t).run P w = .ok i.zero.length w := (tyR (P := P) ht).size w
  have hst := run_storeCells_at P (μ r).b ((μ r).s + j) E (ca.eval v).cells.toList 0 cs w h1 (by rw [hvl]; omega) hones
  have hne : (ca.eval v).cells.size = i.zero.length := by have := hvl; simp at this; omega
  refine ⟨(cs.toList.take ((μ r).s + j + 0) ++ (ca.eval v).cells.toList ++ cs.toList.drop ((μ r).s + j + 0 + (ca.eval v).cells.toList.length)).toArray, ?_⟩
  simp only [execOp, Instr.storeAt, hxv.2, Instr.sureAddr, pure_bind, storeVar, Sem.run_bind, hsz, Result.andThen_ok, hne, ne_eq, not_true_eq_false, if_false, hst, Sem.run_pure]
end

/-- What is asked: reads of boxes ahead ('pre'), a store ('s'), what is left ('post'). -/
def schedA (ops : Array Oper) (fl : Nat → Bool) (s : Nat) (post : List Nat) (ms : List Md) : List Nat → Array Bool → Bool
  | [], listed => !fl s && Region.ready .any ops listed == [s] && schedB ops fl (some s) post ms (listed.setIfInBounds s true)
  | i :: pre, listed => qOk ops (fun j => fl j || j == s) listed i && schedA ops fl s post ms pre (listed.setIfInBounds i true)
def flag3 (pre post : List Nat) (ms : List Md) (j : Nat) : Bool := pre.contains j || flagOf post ms j
def drawOk3 (ops : Array Oper) (pre : List Nat) (s : Nat) (post : List Nat) (ms : List Md) : Bool :=
  Region.noSelect ops && (pre.length + (1 + post.length) == ops.size && schedA ops (flag3 pre post ms) s post ms pre (Array.replicate ops.size false))

section
variable {P : Program} {tb : Tb} [TbOk P tb] {T : Nat → Prop} {st0 : St} {N : Nat} {ops : Array Oper} {Q : Aa → St → Prop} {μ0 : Nat → Loc} {w0 : World} {Q' : Exit → Act → World → Prop} {fl : Nat → Bool} {s : Nat} {K : List Nat}
theorem put_x (a : Aa) (d : Option Nat) (r : RV) : (a.put d r).x = a.x := by
  cases d with
  | none => rfl
  | some d => cases r <;> rfl
theorem wpX_of_APre (hQ : ∀ ca w, Good T μ0 st0 w0 N Q ca w → Q' .normal ca w) (hQn : ∀ e ca w, e ≠ .normal → ¬ Q' e ca w) (hs : Region.noSelect ops = true) (hd : ∀ (i : Nat) o, ops[i]? = some o → ∀ x, o.dst = some x → x < N) (post : List Nat) (ms : List Md) (β : Nat → Nat) (xs : Nat → Option (List AV)) :
    ∀ (pre : List Nat) (listed : Array Bool), schedA ops fl s post ms pre listed = true → ∀ (a : Aa) μ (st : St) ca w, a.x = xs → Inv T μ0 st0 w0 N β a μ st w ca →
      APre P T st0 N K (fun a' st' => (∃ os, ops[s]? = some os ∧ StoC tb os a' st') ∧ AOps P T st0 N ops Q (.n :: ms) ((s :: post).filterMap (ops[·]?)) a' st') (pre.filterMap (ops[·]?)) a st →
      wpX P ops Q' (PwS fl (some s) (fun b => ∃ k ∈ K, xs k ≠ none ∧ b = β k)) (pre.length + (1 + post.length)) listed ca w
  | [], listed, hB, a, μ, st, ca, w, hax, hi, h => by
    simp only [schedA, Bool.and_eq_true, beq_iff_eq, Bool.not_eq_true'] at hB
    obtain ⟨⟨hfl, hsole⟩, hB⟩ := hB
    simp only [List.filterMap_nil, APre] at h
    obtain ⟨⟨os, hos, hsto⟩, hops⟩ := h
    obtain ⟨dst, t, x, v, ty, pos, aft, r, j, l, vs, i, rfl, ht, hx, hr, ho, hv, hone, hlen, hj⟩ := hsto
    simp only [List.filterMap_cons, hos, AOps, List.headD_cons, List.tail_cons] at hops
    obtain ⟨cells, hrun⟩ := sto_run (P := P) (dst := dst) (ty := ty) (pos := pos) (aft := aft) (gd := none) hi ht hx hr ho hv hone hlen hj
    have hwp := hops (hd s _ hos) μ0 w0 β μ w ca hi Q'
    unfold Oper.wp at hwp
    rw [hrun] at hwp
    rw [List.length_nil, Nat.zero_add, Nat.add_comm]
    refine wpX_sole hsole ?_
    unfold wpOp
    simp only [hos]
    rw [if_pos (by simp [Region.wanted])]
    refine .inl ?_
    unfold Oper.wp
    rw [hrun]
    refine ⟨⟨fun e => ?_, fun _ => ⟨?_, fun b hb hlt => ?_⟩⟩, wpX_of_AOps hQ hQn hs hd post ms _ hB _ _ hwp.2⟩
    · rw [hfl] at e; cases e
    · simp [World.setRow]
    · obtain ⟨k, hk, hxk, rfl⟩ := hb
      have hne := hi.bst k r (by rw [hax]; exact hxk) hr (by rw [ho]; rfl)
      exact setRow_other w _ _ _ (Ne.symm hne)
  | i :: pre, listed, hB, a, μ, st, ca, w, hax, hi, h => by
    simp only [schedA, Bool.and_eq_true] at hB
    obtain ⟨hq, hB⟩ := hB
    have hin : i ∈ Region.ready .any ops listed := by
      have h' := hq
      simp only [qOk, Bool.and_eq_true] at h'
      simpa using h'.1.1
    obtain ⟨hjun, oi, hoi, hall⟩ := mem_ready.1 hin
    simp only [List.filterMap_cons, hoi, APre] at h
    obtain ⟨hg, rr, hax', hrest⟩ := h
    obtain ⟨cv, h1, h2⟩ := hax' μ0 w0 β μ w ca hi
    have hy : YX P ops (PreB fun b => ∃ k ∈ K, xs k ≠ none ∧ b = β k) oi cv ca w := .inl ⟨by simp [Region.wanted, hg], fun w' hp => h2 w' fun k hk hxk => hp.2 _ ⟨k, hk, by rw [← hax]; exact hxk, rfl⟩ (hi.blt hxk)⟩
    have ih := wpX_of_APre hQ hQn hs hd post ms β xs pre _ hB (a.put oi.dst rr) μ st (ca.put oi.dst cv) w ((put_x ..).trans hax) (hi.put (hd i oi hoi) h1) hrest
    rw [List.length_cons, show pre.length + 1 + (1 + post.length) = (pre.length + (1 + post.length)) + 1 by omega]
    refine first_of (PreB.refl _) PreB.trans hQn hs hq hoi (fun w => PwS.refl ..) (fun j hj w w' hp => ?_) hy ih
    simp only [Bool.or_eq_true, beq_iff_eq] at hj
    rcases hj with hj | rfl
    · exact PreB.of (hp.1 hj)
    · exact hp.2 rfl
end
section
variable {P : Program} {T : Nat → Prop} {st0 : St} {N : Nat} {a : Aa} {st : St} {Q : AX → Aa → St → Prop} {id : Nat} {l : List Oper} {y : Code}
/-- Two stores in one assignment: what is read of the frame's boxes for the second one may be read behind the first one. -/
theorem c_d3 {tb : Tb} [TbOk P tb] (K pre : List Nat) (s : Nat) (post : List Nat) (ms : List Md) (hd : dstsOk N l = true) (hB : drawOk3 l.toArray pre s post ms = true)
    (h : APre P T st0 N K (fun a' st' => (∃ os, l.toArray[s]? = some os ∧ StoC tb os a' st') ∧ AOps P T st0 N l.toArray (ACode P T st0 N y Q) (.n :: ms) ((s :: post).filterMap (l.toArray[·]?)) a' st') (pre.filterMap (l.toArray[·]?)) a st) : ACode P T st0 N (.seq (.region id l.toArray true) y) Q a st := by
  refine c_seq ?_
  intro μ0 w0 β μ w ca hi
  simp only [drawOk3, Bool.and_eq_true, beq_iff_eq] at hB
  obtain ⟨hs, hlen, hB⟩ := hB
  refine wp_mono (wp_region_any (Q := fun e ca w => e = .normal ∧ Good T μ0 st0 w0 N (ACode P T st0 N y Q) ca w) (TbOk.mixed (tb := tb)) (wpAny_of_wpX (Pw := PwS (flag3 pre post ms) (some s) (fun b => ∃ k ∈ K, a.x k ≠ none ∧ b = β k)) _ _ _ _ ?_)) fun e ca' w' hq => by obtain ⟨rfl, hq⟩ := hq; exact hq
  rw [← hlen] at hB ⊢
  exact wpX_of_APre (fun ca w h => ⟨rfl, h⟩) (fun e ca w hne hq => hne hq.1) hs (fun i o ho x hx => dstsOk_spec hd o (by simpa using List.mem_of_getElem? (by simpa using ho)) x hx) post ms β a.x pre _ hB a μ st ca _ rfl (hi.pre (Pre.drew w)) h
end
section
variable {P : Program} {tb : Tb} [TbOk P tb] {T : Nat → Prop} {st0 : St} {N : Nat} {K : List Nat} {Q : Aa → St → Prop}
/-- Moves, fields and loads of boxes, so many of them. -/
def runX (tb : Tb) (K : List Nat) : Nat → List Oper → Aa → Option (List Oper × Aa)
  | 0, l, a => some (l, a)
  | n + 1, l, a => match l with
    | [] => none
    | o :: l =>
      match o.guard with
      | some _ => none
      | none =>
        match o.op with
        | .move x => (match mvA a x with | some r => runX tb K n l (a.put o.dst r) | none => none)
        | .load t x => (match rv a x with
          | .lp k _ => cond (K.contains k) (match run1 tb a (.load t x) with | some r => runX tb K n l (a.put o.dst r) | none => none) none
          | _ => none)
        | .fieldAddr t x f => (match rv a x with
          | .lp k of => (match structN tb t with | some m => cond (Nat.blt f m) (runX tb K n l (a.put o.dst (.lp k (of + f)))) none | none => none)
          | _ => none)
        | _ => none
theorem p_run : ∀ (n : Nat) {l l' : List Oper} {a a' : Aa} {st : St}, runX tb K n l a = some (l', a') → APre P T st0 N K Q l' a' st → APre P T st0 N K Q l a st
  | 0, l, l', a, a', st, h, hq => by
    simp only [runX, Option.some.injEq, Prod.mk.injEq] at h
    obtain ⟨rfl, rfl⟩ := h
    exact hq
  | n + 1, [], l', a, a', st, h, hq => by simp [runX] at h
  | n + 1, ⟨dst, op, ty, pos, aft, gd⟩ :: l, l', a, a', st, h, hq => by
    simp only [runX] at h
    cases gd with
    | some g => cases h
    | none =>
      refine ⟨rfl, ?_⟩
      cases op
      case move x =>
        simp only at h
        split at h
        · rename_i r hr
          exact ⟨r, x_move hr, p_run n h hq⟩
        · cases h
      case load t x =>
        simp only at h
        split at h
        · rename_i k o hk
          cases hc : K.contains k with
          | false => rw [hc] at h; cases h
          | true =>
            rw [hc] at h
            simp only [cond_true] at h
            split at h
            · rename_i r hr
              exact ⟨r, x_load hr (by rw [hk]; exact hc), p_run n h hq⟩
            · cases h
        · cases h
      case fieldAddr t x f =>
        simp only at h
        split at h
        · rename_i k o hk
          split at h
          · rename_i m hm
            cases hc : Nat.blt f m with
            | false => rw [hc] at h; cases h
            | true =>
              rw [hc] at h
              exact ⟨_, x_field hk hm hc, p_run n h hq⟩
          · cases h
        · cases h
      all_goals (simp only at h; cases h)
theorem p_op {o : Oper} {l : List Oper} {a : Aa} {st : St} {r : RV} (hg : o.guard = none) (h : AQX P T st0 N K o r a st) (hq : APre P T st0 N K Q l (a.put o.dst r) st) : APre P T st0 N K Q (o :: l) a st := ⟨hg, r, h, hq⟩
theorem p_end {a : Aa} {st : St} (h : Q a st) : APre P T st0 N K Q [] a st := h
end
end Go.Proofs.YtmphklmhhcmbnaaDoorW.Ax

/- A region that draws its order, some operations of which make new things in any order. -/
namespace Go.Proofs.YtmphklmhhcmbnaaDoorW.Ax
open Go Go.RowKit
set_option linter.unusedVariables false

def schedQ (ops : Array Oper) (fl : Nat → Bool) (k : Array Bool → Bool) : List Nat → Array Bool → Bool
  | [], listed => k listed
  | i :: qs, listed => qOk ops fl listed i && schedQ ops fl k qs (listed.setIfInBounds i true)
def schedM (ops : Array Oper) (M : List Nat) (k : Array Bool → Bool) : Nat → Array Bool → Bool
  | 0, listed => M.all (fun i => listed.getD i false) && k listed
  | f + 1, listed => !(Region.ready .any ops listed).isEmpty && (Region.ready .any ops listed).all fun i => M.contains i && schedM ops M k f (listed.setIfInBounds i true)
def drawOkM (ops : Array Oper) (qs M post : List Nat) (ms : List Md) : Bool :=
  Region.noSelect ops && (qs.length + (M.length + post.length) == ops.size && (M.all (fun i => match ops[i]? with | some o => o.guard.isNone | none => false) &&
    schedQ ops (fun j => qs.contains j || M.contains j || flagOf post ms j) (fun li => M.all (fun i => !(li.getD i false)) && schedM ops M (schedB ops (fun j => qs.contains j || M.contains j || flagOf post ms j) none post ms) M.length li) qs (Array.replicate ops.size false)))
def allQ (n : Nat) : List Md := List.replicate n .q

section
variable {P : Program} {T : Nat → Prop} {st0 : St} {N : Nat} {ops : Array Oper} {Q : Aa → St → Prop} {μ0 : Nat → Loc} {w0 : World} {Q' : Exit → Act → World → Prop} {fl : Nat → Bool}

/-- What is known while some of the makers have gone. -/
structure JM (M : List Nat) (d : Nat → Nat) (Φ : Nat → AV → St → Prop) (a0 : Aa) (st : St) (listed : Array Bool) (a : Aa) (st' : St) : Prop where
  ex : Ex st st'
  phi : ∀ i ∈ M, listed.getD i false = true → Φ i (a.s (d i)) st'
  slot : ∀ t, t ∉ M.map d → a.s t = a0.s t ∧ a.p t = a0.p t
  box : a.x = a0.x

theorem wpX_of_M (hQ : ∀ ca w, Good T μ0 st0 w0 N Q ca w → Q' .normal ca w) (hQn : ∀ e ca w, e ≠ .normal → ¬ Q' e ca w) (hs : Region.noSelect ops = true) (hd : ∀ (i : Nat) o, ops[i]? = some o → ∀ x, o.dst = some x → x < N)
    (M : List Nat) (d : Nat → Nat) (Φ : Nat → AV → St → Prop) (hst : ∀ i v st st', Φ i v st → Ex st st' → Φ i v st') (hinj : ∀ i ∈ M, ∀ j ∈ M, d i = d j → i = j) (hg : ∀ i ∈ M, ∀ o, ops[i]? = some o → o.guard = none) (a0 : Aa) (st : St)
    (hstep : ∀ i ∈ M, ∀ o, ops[i]? = some o → ∀ a st', Ex st st' → (∀ j ∈ M, (∃ e ∈ o.after, Region.binds .any e = true ∧ e.on = j) → Φ j (a.s (d j)) st') → (∀ t, t ∉ M.map d → a.s t = a0.s t ∧ a.p t = a0.p t) → a.x = a0.x →
      ALeaf P T st0 N o .f (fun a' st'' => ∃ v, a' = a.put (some (d i)) (.v v) ∧ Φ i v st'' ∧ Ex st' st'') a st')
    (post : List Nat) (ms : List Md) (hfin : ∀ a st', JM M d Φ a0 st (Array.replicate 0 true) a st' → (∀ i ∈ M, Φ i (a.s (d i)) st') → AOps P T st0 N ops Q ms (post.filterMap (ops[·]?)) a st') :
    ∀ (f : Nat) (listed : Array Bool), schedM ops M (schedB ops fl none post ms) f listed = true → ∀ ca w, Good T μ0 st0 w0 N (JM M d Φ a0 st listed) ca w → wpX P ops Q' (PwS fl none (fun _ => False)) (f + post.length) listed ca w
  | 0, listed, hB, ca, w, h => by
    simp only [schedM, Bool.and_eq_true, List.all_eq_true] at hB
    rw [Nat.zero_add]
    refine wpX_of_AOps hQ hQn hs hd post ms listed hB.2 ca w (h.mono fun a st' hj => ?_)
    exact hfin a st' ⟨hj.ex, fun i hi hl => by simp at hl, hj.slot, hj.box⟩ fun i hi => hj.phi i hi (hB.1 i hi)
  | f + 1, listed, hB, ca, w, h => by
    simp only [schedM, Bool.and_eq_true, List.all_eq_true, Bool.not_eq_true', List.isEmpty_eq_false_iff, List.contains_iff_mem] at hB
    obtain ⟨hne, hall⟩ := hB
    rw [Nat.add_right_comm]
    refine ⟨fun e => absurd e hne, fun i hi => ?_⟩
    obtain ⟨hiM, hB'⟩ := hall i hi
    obtain ⟨hun, oi, hoi, hdep⟩ := mem_ready.1 hi
    obtain ⟨β, a, μ, st', hinv, hj⟩ := h
    have hlf := hstep i hiM oi hoi a st' hj.ex (fun j hjM ⟨e, he, hb, hej⟩ => hj.phi j hjM (hej ▸ hdep e he hb)) hj.slot hj.box
    unfold wpOp
    simp only [hoi]
    rw [if_pos (by simp [Region.wanted, hg i hiM oi hoi])]
    refine .inl (Oper.wp_mono (fun ca' w' hk => ?_) (hlf (hd i oi hoi) μ0 w0 β μ w ca hinv Q'))
    refine ⟨⟨fun _ => hk.1 rfl, fun e => by cases e⟩, wpX_of_M hQ hQn hs hd M d Φ hst hinj hg a0 st hstep post ms hfin f _ hB' ca' w' (hk.2.mono fun a' st'' hr => ?_)⟩
    obtain ⟨v, rfl, hphi, hex⟩ := hr
    have hin : i < listed.size := by
      rcases Nat.lt_or_ge i listed.size with h' | h'
      · exact h'
      · rw [Array.getD_eq_getD_getElem?, Array.getElem?_eq_none h'] at hun; cases hun
    refine ⟨hj.ex.tr hex, fun j hjM hl => ?_, fun t ht => ?_, (put_x ..).trans hj.box⟩
    · by_cases hji : j = i
      · subst hji
        show Φ j (upd a.s (d j) v (d j)) st''
        rw [upd_same]; exact hphi
      · have hne' : d j ≠ d i := fun e => hji (hinj j hjM i hiM e)
        show Φ j (upd a.s (d i) v (d j)) st''
        rw [upd_ne _ _ hne']
        rw [getD_set_ne false (Ne.symm hji)] at hl
        exact hst _ _ _ _ (hj.phi j hjM hl) hex
    · have hne' : t ≠ d i := fun e => ht (e ▸ List.mem_map.2 ⟨i, hiM, rfl⟩)
      show upd a.s (d i) v t = _ ∧ upd a.p (d i) none t = _
      rw [upd_ne _ _ hne', upd_ne _ _ hne']
      exact hj.slot t ht

theorem wpX_of_Q (hQn : ∀ e ca w, e ≠ .normal → ¬ Q' e ca w) (hs : Region.noSelect ops = true) (hd : ∀ (i : Nat) o, ops[i]? = some o → ∀ x, o.dst = some x → x < N) {s : Option Nat} {B : Nat → Prop} (k : Array Bool → Bool) (Cont : Aa → St → Prop) (fuel : Nat)
    (hk : ∀ listed, k listed = true → ∀ ca w, Good T μ0 st0 w0 N Cont ca w → wpX P ops Q' (PwS fl s B) fuel listed ca w) :
    ∀ (qs : List Nat) (listed : Array Bool), schedQ ops fl k qs listed = true → ∀ ca w, Good T μ0 st0 w0 N (AOps P T st0 N ops Cont (allQ qs.length) (qs.filterMap (ops[·]?))) ca w → wpX P ops Q' (PwS fl s B) (qs.length + fuel) listed ca w
  | [], listed, hB, ca, w, h => by
    rw [List.length_nil, Nat.zero_add]
    exact hk listed hB ca w h
  | i :: qs, listed, hB, ca, w, h => by
    simp only [schedQ, Bool.and_eq_true] at hB
    obtain ⟨hq, hB⟩ := hB
    obtain ⟨β, a, μ, st, hi, hr⟩ := h
    have hin : i ∈ Region.ready .any ops listed := by
      have h' := hq
      simp only [qOk, Bool.and_eq_true] at h'
      simpa using h'.1.1
    obtain ⟨hjun, oi, hoi, hall⟩ := mem_ready.1 hin
    simp only [List.filterMap_cons, hoi, AOps, allQ, List.length_cons, List.replicate_succ, List.headD_cons, List.tail_cons] at hr
    have key : ∃ v, (∃ r, RR st.n μ β r v ∧ AOps P T st0 N ops Cont (allQ qs.length) (qs.filterMap (ops[·]?)) (a.put oi.dst r) st) ∧ YX P ops Pre oi v ca w := by
      cases hg : oi.guard with
      | none =>
        rw [hg] at hr
        obtain ⟨r, haq, hr⟩ := hr
        obtain ⟨cv, h1, h2⟩ := haq μ0 w0 β μ w ca hi
        exact ⟨cv, ⟨r, h1, hr⟩, .inl ⟨by simp [Region.wanted, hg], h2⟩⟩
      | some jw =>
        obtain ⟨j, want⟩ := jw
        rw [hg] at hr
        obtain ⟨t, ht, ⟨hsb, hr⟩ | ⟨hsb, hr⟩⟩ := hr
        · have hy := yielded_of hi ht hsb
          obtain ⟨r, haq, hr⟩ := hr
          obtain ⟨cv, h1, h2⟩ := haq μ0 w0 β μ w ca hi
          exact ⟨cv, ⟨r, h1, hr⟩, .inl ⟨by simp [Region.wanted, hg, hy], h2⟩⟩
        · have hy := yielded_not hi ht hsb
          exact ⟨undef, ⟨.v .und, by simp [RR, VR], hr⟩, .inr ⟨by simp [Region.wanted, hg, hy], rfl⟩⟩
    obtain ⟨v, ⟨r, hrr, hrest⟩, hy⟩ := key
    have ih := wpX_of_Q hQn hs hd k Cont fuel hk qs _ hB (ca.put oi.dst v) w ⟨β, _, μ, st, hi.put (hd i oi hoi) hrr, hrest⟩
    rw [List.length_cons, show qs.length + 1 + fuel = (qs.length + fuel) + 1 by omega]
    exact first_of (R := Pre) Pre.refl (fun a b c h k => h.trans k) hQn hs hq hoi (fun w => PwS.refl ..) (fun j hj w w' hp => hp.1 hj) hy ih
end
section
variable {P : Program} {T : Nat → Prop} {st0 : St} {N : Nat} {a : Aa} {st : St} {Q : AX → Aa → St → Prop} {id : Nat} {l : List Oper} {y : Code}
/-- Reads first ('qs'), then makers in any order ('M': what each yields is told by Φ, in the slots d), then the rest. -/
theorem c_dM {tb : Tb} [TbOk P tb] (qs M post : List Nat) (ms : List Md) (d : Nat → Nat) (Φ : Nat → AV → St → Prop) (hd : dstsOk N l = true) (hB : drawOkM l.toArray qs M post ms = true) (hst : ∀ i v st st', Φ i v st → Ex st st' → Φ i v st') (hinj : (M.all fun i => M.all fun j => !(d i == d j) || i == j) = true)
    (h : AOps P T st0 N l.toArray (fun a0 st1 => st1 = st ∧ (∀ i ∈ M, ∀ o, l.toArray[i]? = some o → ∀ a st', Ex st st' → (∀ j ∈ M, (∃ e ∈ o.after, Region.binds .any e = true ∧ e.on = j) → Φ j (a.s (d j)) st') → (∀ t, t ∉ M.map d → a.s t = a0.s t ∧ a.p t = a0.p t) → a.x = a0.x →
        ALeaf P T st0 N o .f (fun a' st'' => ∃ v, a' = a.put (some (d i)) (.v v) ∧ Φ i v st'' ∧ Ex st' st'') a st') ∧
      (∀ a st', Ex st st' → (∀ i ∈ M, Φ i (a.s (d i)) st') → (∀ t, t ∉ M.map d → a.s t = a0.s t ∧ a.p t = a0.p t) → a.x = a0.x → AOps P T st0 N l.toArray (ACode P T st0 N y Q) ms (post.filterMap (l.toArray[·]?)) a st')) (allQ qs.length) (qs.filterMap (l.toArray[·]?)) a st) : ACode P T st0 N (.seq (.region id l.toArray true) y) Q a st := by
  refine c_seq ?_
  intro μ0 w0 β μ w ca hi
  simp only [drawOkM, Bool.and_eq_true, beq_iff_eq, List.all_eq_true] at hB
  obtain ⟨hs, hlen, hg, hB⟩ := hB
  simp only [List.all_eq_true, Bool.or_eq_true, Bool.not_eq_true', beq_eq_false_iff_ne, beq_iff_eq] at hinj
  have hdd : ∀ (i : Nat) o, l.toArray[i]? = some o → ∀ x, o.dst = some x → x < N := fun i o ho x hx => dstsOk_spec hd o (by simpa using List.mem_of_getElem? (by simpa using ho)) x hx
  refine wp_mono (wp_region_any (Q := fun e ca w => e = .normal ∧ Good T μ0 st0 w0 N (ACode P T st0 N y Q) ca w) (TbOk.mixed (tb := tb)) (wpAny_of_wpX (Pw := PwS (fun j => qs.contains j || M.contains j || flagOf post ms j) none (fun _ => False)) _ _ _ _ ?_)) fun e ca' w' hq => by obtain ⟨rfl, hq⟩ := hq; exact hq
  have hQ : ∀ (ca : Act) (w : World), Good T μ0 st0 w0 N (ACode P T st0 N y Q) ca w → Exit.normal = Exit.normal ∧ Good T μ0 st0 w0 N (ACode P T st0 N y Q) ca w := fun ca w h => ⟨rfl, h⟩
  have hQn : ∀ (e : Exit) (ca : Act) (w : World), e ≠ .normal → ¬ (e = .normal ∧ Good T μ0 st0 w0 N (ACode P T st0 N y Q) ca w) := fun e ca w hne hq => hne hq.1
  rw [← hlen] at hB ⊢
  refine wpX_of_Q hQn hs hdd _ _ _ (fun listed hk ca w hgood => ?_) qs _ hB ca _ ⟨β, a, μ, st, hi.pre (Pre.drew w), h⟩
  obtain ⟨β1, a0, μ1, st1, hi1, rfl, hstep, hfin⟩ := hgood
  simp only [Bool.and_eq_true, List.all_eq_true, Bool.not_eq_true'] at hk
  obtain ⟨hun, hk⟩ := hk
  refine wpX_of_M hQ hQn hs hdd M d Φ hst (fun i hi j hj e => ?_) (fun i hi o ho => ?_) a0 st1 hstep post ms (fun a st' hj hphi => hfin a st' hj.ex hphi hj.slot hj.box) M.length listed hk ca w ⟨β1, a0, μ1, st1, hi1, Ext.refl _ _, fun i hi hl => ?_, fun t _ => ⟨rfl, rfl⟩, rfl⟩
  · rcases hinj i hi j hj with h | h
    · exact absurd e h
    · exact h
  · have := hg i hi
    rw [ho] at this
    simpa using this
  · rw [hun i hi] at hl; cases hl
end
end Go.Proofs.YtmphklmhhcmbnaaDoorW.Ax

/- Rules for maps with whole numbers as keys. -/
namespace Go.Proofs.YtmphklmhhcmbnaaDoorW.Ax
open Go Go.RowKit
set_option linter.unusedVariables false

/-- What a map holds at a key. -/
def mget : List (Int × AV) → Int → Option AV
  | [], _ => none
  | (k, x) :: es, j => if k = j then some x else mget es j
def mput : List (Int × AV) → Int → AV → List (Int × AV)
  | [], j, v => [(j, v)]
  | (k, x) :: es, j, v => if k = j then (k, v) :: es else (k, x) :: mput es j v
theorem mget_put (v : AV) (j i : Int) : ∀ es, mget (mput es j v) i = if i = j then some v else mget es i
  | [] => by
    show (if j = i then some v else none) = _
    by_cases h : i = j
    · rw [if_pos h.symm, if_pos h]
    · rw [if_neg (Ne.symm h), if_neg h]; rfl
  | (k, x) :: es => by
    unfold mput
    by_cases h : k = j
    · rw [if_pos h]
      unfold mget
      by_cases hi : i = j
      · rw [if_pos hi, if_pos (h.trans hi.symm)]
      · rw [if_neg hi, if_neg (fun e => hi (e.symm.trans h))]
        rw [if_neg (fun e => hi (e.symm.trans h))]
    · rw [if_neg h]
      unfold mget
      by_cases hk : k = i
      · rw [if_pos hk, if_pos hk, if_neg (fun e => h (hk.trans e))]
      · rw [if_neg hk, if_neg hk]
        exact mget_put v j i es
theorem mput_len (v : AV) (j : Int) : ∀ es, (mput es j v).length ≤ es.length + 1
  | [] => by simp [mput]
  | (k, x) :: es => by
    unfold mput
    split
    · simp
    · have := mput_len v j es
      simp; omega

theorem erl_find {n : Nat} {μ : Nat → Loc} (j : Int) : ∀ (es : List (Int × AV)) (l : List MapEntry) (i : Nat), ERL n μ es l →
    (mget es j = none ∧ Instr.findNow (.int .i64) (.int .i64 j) l i = some none) ∨ ∃ p x m, mget es j = some x ∧ l[p]? = some m ∧ m.key = .int .i64 j ∧ VR n μ x m.val ∧ Instr.findNow (.int .i64) (.int .i64 j) l i = some (some (i + p, m.val))
  | [], l, i, h => by
    have h : l = [] := h
    subst h
    exact .inl ⟨rfl, rfl⟩
  | (k, x) :: es, l, i, h => by
    obtain ⟨m, l', rfl, h1, h2, h3⟩ := h
    by_cases hk : k = j
    · subst hk
      refine .inr ⟨0, x, m, by simp [mget], rfl, h1, h2, ?_⟩
      simp [Instr.findNow, Instr.sameNow, h1]
    · have hs : Instr.sameNow (.int .i64) (.int .i64 j) m.key = some false := by
        rw [h1]; simp [Instr.sameNow]; exact Ne.symm hk
      rcases erl_find j es l' (i + 1) h3 with ⟨h4, h5⟩ | ⟨p, y, m', h4, h5, h6, h7, h8⟩
      · exact .inl ⟨by simp [mget, hk, h4], by simp [Instr.findNow, hs, h5]⟩
      · refine .inr ⟨p + 1, y, m', by simp [mget, hk, h4], by simpa using h5, h6, h7, ?_⟩
        simp [Instr.findNow, hs, h8]
        omega
theorem erl_new {n : Nat} {μ : Nat → Loc} {j : Int} {v : AV} {m : MapEntry} (hk : m.key = .int .i64 j) (hv : VR n μ v m.val) : ∀ (es : List (Int × AV)) (l : List MapEntry), ERL n μ es l → mget es j = none → ERL n μ (mput es j v) (l ++ [m])
  | [], l, h, _ => by
    have h : l = [] := h
    subst h
    exact ⟨m, [], rfl, hk, hv, rfl⟩
  | (k, x) :: es, l, h, hg => by
    obtain ⟨m', l', rfl, h1, h2, h3⟩ := h
    unfold mget at hg
    split at hg
    · cases hg
    · rename_i hne
      unfold mput
      rw [if_neg hne]
      exact ⟨m', l' ++ [m], rfl, h1, h2, erl_new hk hv es l' h3 hg⟩
theorem erl_old {n : Nat} {μ : Nat → Loc} {j : Int} {v : AV} {cv : Value} (hv : VR n μ v cv) (f : MapEntry → MapEntry) (hf : ∀ m, (f m).key = .int .i64 j ∧ (f m).val = cv) : ∀ (es : List (Int × AV)) (l : List MapEntry) (p i : Nat) (r : Value), ERL n μ es l → Instr.findNow (.int .i64) (.int .i64 j) l i = some (some (i + p, r)) → ERL n μ (mput es j v) (l.modify p f)
  | [], l, p, i, r, h, hf' => by
    have h : l = [] := h
    subst h
    simp [Instr.findNow] at hf'
  | (k, x) :: es, l, p, i, r, h, hf' => by
    obtain ⟨m, l', rfl, h1, h2, h3⟩ := h
    unfold Instr.findNow at hf'
    by_cases hk : k = j
    · subst hk
      have hs : Instr.sameNow (.int .i64) (.int .i64 k) m.key = some true := by rw [h1]; simp [Instr.sameNow]
      rw [hs] at hf'
      simp only [Option.some.injEq, Prod.mk.injEq] at hf'
      have hp : p = 0 := by omega
      subst hp
      unfold mput
      rw [if_pos rfl]
      exact ⟨f m, l', by simp, (hf m).1, by rw [(hf m).2]; exact hv, h3⟩
    · have hs : Instr.sameNow (.int .i64) (.int .i64 j) m.key = some false := by
        rw [h1]; simp [Instr.sameNow]; exact Ne.symm hk
      rw [hs] at hf'
      simp only at hf'
      rcases erl_find j es l' (i + 1) h3 with ⟨h4, h5⟩ | ⟨p', y, m', h4, h5, h6, h7, h8⟩
      · rw [h5] at hf'; cases hf'
      · rw [h8] at hf'
        simp only [Option.some.injEq, Prod.mk.injEq] at hf'
        have hp : p = p' + 1 := by omega
        subst hp
        unfold mput
        rw [if_neg hk]
        exact ⟨m, l'.modify p' f, by simp, h1, h2, erl_old hv f hf es l' p' (i + 1) _ h3 h8⟩

section
variable {P : Program} {tb : Tb} [TbOk P tb] {T : Nat → Prop} {st0 : St} {N : Nat} {a : Aa} {st : St} {R : Aa → St → Prop} {m : Md}
variable {dst : Option Nat} {ty : Nat} {pos : String} {aft : Array Edge} {gd : Option (Nat × Bool)}
omit [TbOk P tb] in
theorem o_makeMap {t : Nat} (hm : m.loud) (hR : R (a.put dst (.v (.map st.n))) (st.push (.map []))) : ALeaf P T st0 N ⟨dst, .makeMap t none, ty, pos, aft, gd⟩ m R a st := by
  refine leaf_val (T' := No) (.map st.n) (st.push (.map [])) no_T (loud_no hm st) (fun μ0 w0 β μ w ca hinv => ?_) hR
  have hrun : (execOp ca.eval ⟨dst, .makeMap t none, ty, pos, aft, gd⟩).run P w = .ok (.value (.map (some w.heap.size))) (w.alloc (.map #[] 0)) := rfl
  have hpre := pre_alloc w (.map #[] 0)
  obtain ⟨h1, h2⟩ := push_ok hinv.rel (o := .map []) (L := ⟨w.heap.size, 0, 0⟩) hpre (Nat.le_refl _) ⟨[], 0, (MapKept.heap_alloc w (.map #[] 0)).1, rfl⟩
  refine ⟨_, _, _, hrun, ⟨Nat.lt_succ_self _, ?_⟩, h1, h2⟩
  show Value.map (some w.heap.size) = Value.map (some (upd μ st.n ⟨w.heap.size, 0, 0⟩ st.n).b)
  rw [upd_same]
/-- What a map holds at a key, or the element type's zero. -/
theorem o_mget {t : Nat} {x ix : Operand} {r : Nat} {j : Int} {i ik : TyI} {kt et : Nat} {es : List (Int × AV)} (za : AV) (zv : Value) (ht : look tb t = some i) (hk : i.k = .map kt et) (hkt : look tb kt = some ik) (hki : ik.k = .int .i64) (hz : ((P.info? et).bind (·.zero)) = some zv) (hzr : ∀ n μ, VR n μ za zv)
    (hx : av a x = .map r) (hix : av a ix = I j) (hr : r < st.n) (ho : st.ob r = .map es) (v : AV) (hv : (mget es j).getD za = v) (hR : R (a.put dst (.v v)) st) : ALeaf P T st0 N ⟨dst, .lookup t x ix false, ty, pos, aft, gd⟩ m R a st := by
  subst hv
  refine leaf_q (.v ((mget es j).getD za)) (fun μ0 w0 β μ w ca hinv => ?_) hR
  have h := hinv.rel.obj r hr
  rw [ho] at h
  obtain ⟨l, clock, hb, hl⟩ := h
  have hxv := av_vr hinv x
  have hiv := av_vr hinv ix
  rw [hx] at hxv
  rw [hix] at hiv
  simp only [VR] at hxv hiv
  have hu := (tyR (P := P) ht).und_of.2.2.2.2 kt et hk
  have hku := (tyR (P := P) hkt).und_of.1 _ hki
  have hz1 : ∀ w', (zeroValue et).run P w' = .ok zv w' := fun w' => by
    obtain ⟨inf, h1, h2⟩ := Option.bind_eq_some_iff.1 hz
    simp [zeroValue, typeInfo, h1, h2]
  have hlt : (μ r).b < w.heap.size := (Array.getElem?_eq_some_iff.1 hb).1
  have key : ∀ w', Pre w w' → w'.heap[(μ r).b]? = some (.map l.toArray clock) := fun w' hp => (hp.blk _ hlt).trans hb
  rcases erl_find j es l 0 hl with ⟨h1, h2⟩ | ⟨p, y, m', h1, h2, h3, h4, h5⟩
  · rw [h1]
    refine ⟨zv, hzr _ _, fun w' hp => ?_⟩
    simp [execOp, Instr.lookup, run_underlying hu, hxv.2, hiv, MapKept.run_getObj_map (key w' hp), MapKept.run_checkKey hku (show MapKept.IsKey (.int .i64) (.int .i64 j) from rfl), MapKept.run_findKey hku h2, hz1 w', Result.andThen]
  · rw [h1]
    refine ⟨m'.val, h4, fun w' hp => ?_⟩
    simp [execOp, Instr.lookup, run_underlying hu, hxv.2, hiv, MapKept.run_getObj_map (key w' hp), MapKept.run_checkKey hku (show MapKept.IsKey (.int .i64) (.int .i64 j) from rfl), MapKept.run_findKey hku h5, Result.andThen]
/-- A map is written. -/
theorem o_mput {t : Nat} {x ix vx : Operand} {r : Nat} {j : Int} {i ik : TyI} {kt et : Nat} {es : List (Int × AV)} {v : AV} (ht : look tb t = some i) (hk : i.k = .map kt et) (hkt : look tb kt = some ik) (hki : ik.k = .int .i64)
    (hx : av a x = .map r) (hix : av a ix = I j) (hr : r < st.n) (hmay : May T st0 r) (ho : st.ob r = .map es) (hv : av a vx = v) (hR : R (a.put dst (.v .junk)) (st.set r (.map (mput es j v)))) : ALeaf P T st0 N ⟨dst, .mapUpdate t x ix vx, ty, pos, aft, gd⟩ .n R a st := by
  refine leaf_skip (T' := (· = r)) _ (fun k hk e => by subst e; exact hmay hk) (.inl rfl) (fun μ0 w0 β μ w ca hinv => ?_) hR
  have h := hinv.rel.obj r hr
  rw [ho] at h
  obtain ⟨l, clock, hb, hl⟩ := h
  have hxv := av_vr hinv x
  have hiv := av_vr hinv ix
  have hvv := av_vr hinv vx
  rw [hx] at hxv
  rw [hix] at hiv
  rw [hv] at hvv
  simp only [VR] at hxv hiv
  have hu := (tyR (P := P) ht).und_of.2.2.2.2 kt et hk
  have hku := (tyR (P := P) hkt).und_of.1 _ hki
  have hlt : (μ r).b < w.heap.size := (Array.getElem?_eq_some_iff.1 hb).1
  have hown : (st.ob r).own = true := by rw [ho]; rfl
  have fin : ∀ (l' : List MapEntry) (clock' : Nat), ERL st.n μ (mput es j v) l' → Rel μ (st.set r (.map (mput es j v))) { w with heap := w.heap.setIfInBounds (μ r).b (.map l'.toArray clock') } ∧ Stp (· = r) μ st w μ (st.set r (.map (mput es j v))) { w with heap := w.heap.setIfInBounds (μ r).b (.map l'.toArray clock') } := fun l' clock' he =>
    set_ok hinv.rel hr hown (by simp) (fun b hne => by simp [Ne.symm hne]) rfl rfl rfl ⟨l', clock', by simp [hlt], he⟩
  rcases erl_find j es l 0 hl with ⟨h1, h2⟩ | ⟨p, y, m', h1, h2, h3, h4, h5⟩
  · refine ⟨_, ?_, fin (l ++ [⟨.int .i64 j, ca.eval vx, clock⟩]) (clock + 1) (erl_new rfl hvv es l hl h1)⟩
    simp [execOp, Instr.mapUpdate, run_underlying hu, hxv.2, hiv, MapKept.run_getObj_map hb, MapKept.run_checkKey hku (show MapKept.IsKey (.int .i64) (.int .i64 j) from rfl), MapKept.run_findKey hku h2, MapKept.run_setObj_map _ hb, Result.andThen]
  · refine ⟨_, ?_, fin (l.modify p fun e => { e with key := .int .i64 j, val := ca.eval vx }) clock (erl_old hvv _ (fun m => ⟨rfl, rfl⟩) es l p 0 _ hl (by simpa using h5))⟩
    simp [execOp, Instr.mapUpdate, run_underlying hu, hxv.2, hiv, MapKept.run_getObj_map hb, MapKept.run_checkKey hku (show MapKept.IsKey (.int .i64) (.int .i64 j) from rfl), MapKept.run_findKey hku h5, h2, h3, MapKept.run_keyThatStays (show MapKept.IsKey (.int .i64) (.int .i64 j) from rfl), MapKept.run_setObj_map _ hb, Result.andThen]
end
end Go.Proofs.YtmphklmhhcmbnaaDoorW.Ax

/- Rules: the smaller of two numbers; append to a row that came in. -/
namespace Go.Proofs.YtmphklmhhcmbnaaDoorW.Ax
open Go Go.RowKit
set_option linter.unusedVariables false
section
variable {P : Program} {T : Nat → Prop} {st0 : St} {N : Nat} {a : Aa} {st : St} {Q : AX → Aa → St → Prop} {id : Nat} {l : List Oper}
/-- A region that draws its order, the last of its code; what waits for a thing through others counts as well. -/
theorem c_dt1 {tb' : Tb} [TbOk P tb'] (sch : List Nat) (ms : List Md) (hd : dstsOk N l = true) (hB : drawOk2 l.toArray sch ms = true) (h : AOps P T st0 N l.toArray (Q .normal) ms (sch.filterMap (l.toArray[·]?)) a st) : ACode P T st0 N (.region id l.toArray true) Q a st :=
  c_draw2 (TbOk.mixed (tb := tb')) sch ms hd hB h
end
section
variable {P : Program} {tb : Tb} [TbOk P tb] {T : Nat → Prop} {st0 : St} {N : Nat} {a : Aa} {st : St} {R : Aa → St → Prop} {m : Md}
variable {dst : Option Nat} {ty : Nat} {pos : String} {aft : Array Edge} {gd : Option (Nat × Bool)}
omit [TbOk P tb] in
theorem o_min {x y : Operand} {t u : Nat} {p q : Int} (hx : av a x = I p) (hy : av a y = I q) (hR : R (a.put dst (.v (I (if q < p then q else p)))) st) : ALeaf P T st0 N ⟨dst, .call ⟨.builtin .min, #[x, y], #[t, u]⟩, ty, pos, aft, gd⟩ m R a st := by
  refine leaf_q (.v (I (if q < p then q else p))) (fun μ0 w0 β μ w ca hinv => ?_) hR
  have hxv := av_vr hinv x
  have hyv := av_vr hinv y
  rw [hx] at hxv
  rw [hy] at hyv
  simp only [VR] at hxv hyv
  refine ⟨.int .i64 (if q < p then q else p), rfl, fun w' _ => ?_⟩
  simp [execOp, resolve, invoke, builtin, hxv, hyv, Builtin.min_, Builtin.min2]
theorem o_appendN {s x : Operand} {t : Nat} {e : Nat} {z : Z} {b : Nat} {v : AV} {l ys : List AV} (ht : elem1 tb t = some (e, z, b)) (hb : b ≤ 16) (hsv : av a s = v) (hv : Out T st0 st v l) (hx : Rd st (av a x) ys) (hone : ys.all oneA = true) (hbig : l.length + ys.length ≤ 1099511627776)
    (hR : ∀ v' st', Out T st0 st' v' (l ++ ys) → (∀ i o n, v' = .sl (some i) o n → st.n ≤ i) → Ext (fun i => ∃ o n, v = .sl (some i) o n) st st' → R (a.put dst (.v v')) st') : ALeaf P T st0 N ⟨dst, .call ⟨.builtin .append, #[s, x], #[t, t]⟩, ty, pos, aft, gd⟩ .n R a st := by
  intro hd μ0 w0 β μ w ca hi Q'
  obtain ⟨hu, hz1⟩ := elem1_ok (P := P) ht
  obtain ⟨inf, zv, e1, e2, e3, e4, e5, e6⟩ := one1_info (P := P) hz1
  have hsvv := av_vr hi s
  rw [hsv] at hsvv
  obtain ⟨news, hsrc, hnews⟩ := src_of_rd (P := P) hi hx (av_vr hi x) hone
  have hexec : ∀ cv w', (Builtin.append_ #[t, t] ty #[ca.eval s, ca.eval x]).run P w = .ok cv w' → (execOp ca.eval ⟨dst, .call ⟨.builtin .append, #[s, x], #[t, t]⟩, ty, pos, aft, gd⟩).run P w = .ok (.value cv) w' := fun cv w' h => by
    simp [execOp, resolve, invoke, builtin, h]
  have hfit : ∀ n, n ≤ 1099511627776 → n * inf.bytes ≤ 140737488355328 := fun n hn => by
    rw [e3]
    have := Nat.mul_le_mul hn hb
    omega
  have fin : ∀ (cv : Value) (v' : AV) (μ' : Nat → Loc) (st' : St) (w' : World) (T' : Nat → Prop), (Builtin.append_ #[t, t] ty #[ca.eval s, ca.eval x]).run P w = .ok cv w' → VR st'.n μ' v' cv → Rel μ' st' w' → Stp T' μ st w μ' st' w' → (∀ i, i < st0.n → T' i → T i) → (∀ i, T' i → ∃ o n, v = .sl (some i) o n) → Out T st0 st' v' (l ++ ys) → (∀ i o n, v' = .sl (some i) o n → st.n ≤ i) →
      (execOp ca.eval ⟨dst, .call ⟨.builtin .append, #[s, x], #[t, t]⟩, ty, pos, aft, gd⟩).run P w = .ok (.value cv) w' ∧ Good T μ0 st0 w0 N R (ca.put dst cv) w' := fun cv v' μ' st' w' T' hrun hvr hrel hstp hT hTv hout hnew =>
    ⟨hexec cv w' hrun, β, _, μ', st', (hi.step hrel hstp hT).put (r := .v v') hd hvr, hR v' st' hout hnew ⟨hstp.n, fun i hi hn => hstp.ob i hi fun ht => hn (hTv i ht)⟩⟩
  suffices h : ∃ cv w', (execOp ca.eval ⟨dst, .call ⟨.builtin .append, #[s, x], #[t, t]⟩, ty, pos, aft, gd⟩).run P w = .ok (.value cv) w' ∧ Good T μ0 st0 w0 N R (ca.put dst cv) w' by
    obtain ⟨cv, w', h1, h2⟩ := h
    unfold Oper.wp
    rw [h1]
    exact ⟨(fun hh => by cases hh), h2⟩
  have hzl : ∀ n : Nat, Builtin.zeroCells zv.cells n = ((Builtin.zeroCells zv.cells n).toList).toArray := fun n => by simp
  rcases hv with ⟨hvn, hln⟩ | ⟨r, hvr, hr, hmay, hob⟩
  · -- nil
    rw [hvn] at hsvv
    subst hln
    simp only [VR] at hsvv
    obtain ⟨_, _, A, hsvv⟩ := hsvv
    by_cases hk : ys = []
    · subst hk
      refine ⟨.slice A 0 0, w, fin _ (.sl none 0 0) μ st w No ?_ (by simp [VR]) hi.rel (Stp.refl _ _ _ _) (fun _ _ h => h.elim) (fun _ h => h.elim) (.inl ⟨rfl, rfl⟩) (fun i o n h => by cases h)⟩
      rw [hsvv]
      cases A with
      | none => exact run_app_nil0 hu hu (fun k h => by cases h) e1 e2 hsrc
      | some a => exact run_app_room0 hu hu (fun k h => by cases h) e1 e2 hsrc (Nat.le_refl _)
    · have hpos : 0 < ys.length := List.length_pos_iff.2 hk
      have hrun := run_app_grow (P := P) (w := w) (ty := ty) hu hu (fun k h => by cases h) e1 e2 e4 hsrc (A := A) (n := 0) (c := 0) (olds := []) (fun w' _ => run_first0 A w') (by omega) (hfit _ (by omega)) (by omega)
      rw [hzl] at hrun
      have hge := grownCap_ge w (0 + ys.length) 0 e
      have hge' := grownCap_ge w ys.length 0 e
      obtain ⟨r1, r2⟩ := push_row hi.rel (Pre.drew w) rfl (l := ys) (cs := #[] ++ news.toArray ++ ((Builtin.zeroCells zv.cells (grownCap w (0 + ys.length) 0 e - (0 + ys.length))).toList).toArray) (E := e)
        (by have := hsrc.n; simp; omega) (fun j hj => getD_app (l := []) (cs1 := []) rfl hnews j hj)
      refine ⟨_, _, fin _ (.sl (some st.n) 0 ys.length) _ _ _ No (by rw [hsvv]; exact hrun) ?_ r1 r2 (fun _ _ h => h.elim) (fun _ h => h.elim) (.inr ⟨st.n, rfl, Nat.lt_succ_self _, fun h => ?_, push_ob _ _⟩) (fun i o n h => by injection h with h; injection h with h; omega)⟩
      · simp only [VR]
        refine ⟨Nat.lt_succ_self _, _, _, by rw [Nat.zero_add], by omega, .inr ?_⟩
        rw [upd_same]
        refine ⟨rfl, ?_, gcl _ _ _ _ (by omega)⟩
        have := hsrc.n
        simp [size_zeroCells, e5]
        omega
      · have := hi.stp.n; omega
  · rw [hvr] at hsvv
    simp only [VR] at hsvv
    obtain ⟨_, A, c, hse, hlc, hA⟩ := hsvv
    have hobr := hi.rel.obj r hr
    rw [hob] at hobr
    obtain ⟨cs, E, fz, g1, g2, g3, g4, g5⟩ := hobr
    have hfz := g2 rfl
    subst hfz
    have hown : (st.ob r).own = true := by rw [hob]; rfl
    have hTr : ∀ i, i < st0.n → i = r → T i := fun i hi e => by subst e; exact hmay hi
    have hTv : ∀ i, i = r → ∃ o n, v = .sl (some i) o n := fun i e => by subst e; exact ⟨_, _, hvr⟩
    have hmay' : May T st0 st.n := fun h => by have := hi.stp.n; omega
    by_cases hroom : l.length + ys.length ≤ c
    · by_cases hc0 : c = 0
      · have hl0 : l = [] := List.eq_nil_of_length_eq_zero (by omega)
        have hy0 : ys = [] := List.eq_nil_of_length_eq_zero (by omega)
        subst hl0; subst hy0; subst hc0
        obtain ⟨r1, r2⟩ := app_ok hi.rel hr hown (o := .row true []) (L := μ r) (w' := w) (.inl rfl) (Nat.le_refl _) (fun _ _ _ => rfl) rfl rfl rfl ⟨cs, E, (0, 0), g1, fun _ => rfl, by simp at g3 ⊢; omega, g4, fun j hj => by simp at hj⟩
        refine ⟨_, _, fin _ (.sl (some st.n) 0 0) _ _ w (· = r) (by rw [hse]; exact run_app_room0 hu hu (fun k h => by cases h) e1 e2 hsrc (Nat.le_refl _)) ?_ r1 r2 hTr hTv (.inr ⟨st.n, rfl, Nat.lt_succ_self _, hmay', app_ob _ _ _⟩) (fun i o n h => by injection h with h; injection h with h; omega)⟩
        simp only [VR]
        exact ⟨Nat.lt_succ_self _, _, _, rfl, Nat.le_refl _, .inl rfl⟩
      · rcases hA with hA | ⟨hA, hz⟩
        · exact absurd hA hc0
        · rw [Nat.add_zero] at hA hz
          have hrun := run_app_room (P := P) (w := w) (ty := ty) hu hu (fun k h => by cases h) e1 e2 hsrc (g := (μ r).b) (o := (μ r).s) (n := l.length) (c := c) g1 hroom (by omega)
          have hnn := hsrc.n
          obtain ⟨r1, r2⟩ := app_ok hi.rel hr hown (o := .row true (l ++ ys)) (L := μ r) (w' := w.setRow (μ r).b (cs.toList.take ((μ r).s + l.length) ++ news ++ cs.toList.drop ((μ r).s + l.length + ys.length)).toArray) (.inl rfl) (by simp [World.setRow]) (fun b _ hb => setRow_other w _ b _ hb) rfl rfl rfl
            ⟨_, E, (0, 0), setRow_heap w _ cs _ E (0, 0) g1, fun _ => rfl, by simp; omega, by simp; omega, fun j hj => by
              have hcl := Array.length_toList (xs := cs)
              have e7 : (cs.toList.take ((μ r).s + l.length) ++ news ++ cs.toList.drop ((μ r).s + l.length + ys.length)).toArray.getD ((μ r).s + j) undef = (cs.toList.take ((μ r).s + l.length) ++ news ++ cs.toList.drop ((μ r).s + l.length + news.length)).getD ((μ r).s + j) undef := by
                rw [hnn]; simp [List.getD]
              rw [e7, splice_get cs.toList news ((μ r).s + l.length) ((μ r).s + j) undef (by omega)]
              have hj' : j < l.length + ys.length := by simpa using hj
              refine VR.mono (Nat.le_succ _) (mu_push μ st _) _ _ ?_
              by_cases c1 : j < l.length
              · rw [if_neg (by omega)]
                have := g5 j c1
                have e8 : (l ++ ys).getD j .junk = l.getD j .junk := by simp [List.getD, List.getElem?_append_left c1]
                rw [e8]
                simpa [List.getD] using this
              · rw [if_pos (by omega), show (μ r).s + j - ((μ r).s + l.length) = j - l.length by omega]
                have e8 : (l ++ ys).getD j .junk = ys.getD (j - l.length) .junk := by simp [List.getD, List.getElem?_append_right (Nat.le_of_not_lt c1)]
                rw [e8]
                exact hnews.get _⟩
          refine ⟨_, _, fin _ (.sl (some st.n) 0 (l.length + ys.length)) _ _ _ (· = r) (by rw [hse, hA]; exact hrun) ?_ r1 r2 hTr hTv (.inr ⟨st.n, by simp, Nat.lt_succ_self _, hmay', app_ob _ _ _⟩) (fun i o n h => by injection h with h; injection h with h; omega)⟩
          simp only [VR]
          refine ⟨Nat.lt_succ_self _, _, _, rfl, hroom, .inr ?_⟩
          rw [upd_same]
          exact ⟨rfl, by omega, hz.2⟩
    · have hold : ∀ w', w'.heap = w.heap → (Builtin.firstCells 1 l.length (.slice (some A) l.length c)).run P w' = .ok ((List.range l.length).map fun j => cs.getD ((μ r).s + j) undef).toArray w' := fun w' hw' => by
        refine run_firstCells_some w' 1 l.length A _ c _ (by simp) (fun j u hu => ?_)
        have hj : j < l.length := by
          have := (List.getElem?_eq_some_iff.1 hu).1
          simpa using this
        simp only [List.getElem?_map, List.getElem?_range hj, Option.map_some] at hu
        injection hu with hu
        rcases hA with hA | ⟨hA, hz⟩
        · omega
        · rw [hA, Addr.add_lit, cell_of_row w' _ _ cs E (0, 0) (by rw [hw']; exact g1), ← hu, Nat.add_zero]
          have : (μ r).s + j < cs.size := by omega
          rw [Array.getD_eq_getD_getElem?, Array.getElem?_eq_getElem this]
          rfl
      have hrun := run_app_grow (P := P) (w := w) (ty := ty) hu hu (fun k h => by cases h) e1 e2 e4 hsrc hold (by omega) (hfit _ hbig) hbig
      rw [hzl] at hrun
      have hge := grownCap_ge w (l.length + ys.length) c e
      have holds : VRL st.n μ l ((List.range l.length).map fun j => cs.getD ((μ r).s + j) undef) := VRL.of_get (by simp) fun j hj => by
        have : ((List.range l.length).map fun j => cs.getD ((μ r).s + j) undef).getD j undef = cs.getD ((μ r).s + j) undef := by simp [List.getD, hj]
        rw [this]
        exact g5 j hj
      have hnn := hsrc.n
      obtain ⟨r1, r2⟩ := app_ok hi.rel hr hown (o := .row true (l ++ ys)) (L := ⟨w.heap.size, 0, (((List.range l.length).map fun j => cs.getD ((μ r).s + j) undef).toArray ++ news.toArray ++ ((Builtin.zeroCells zv.cells (grownCap w (l.length + ys.length) c e - (l.length + ys.length))).toList).toArray).size⟩) (.inr (Nat.le_refl _)) (pre_drew_alloc w _).size
        (fun b hb _ => (pre_drew_alloc w _).blk b hb) rfl rfl rfl ⟨_, e, (0, 0), heap_alloc_new w.drew _, fun _ => rfl, by simp; omega, Nat.le_refl _, fun j hj => by
          rw [Nat.zero_add]
          exact VR.mono (Nat.le_succ _) (mu_push μ st _) _ _ (getD_app holds hnews j hj)⟩
      refine ⟨_, _, fin _ (.sl (some st.n) 0 (l.length + ys.length)) _ _ _ (· = r) (by rw [hse]; exact hrun) ?_ r1 r2 hTr hTv (.inr ⟨st.n, by simp, Nat.lt_succ_self _, hmay', app_ob _ _ _⟩) (fun i o n h => by injection h with h; injection h with h; omega)⟩
      simp only [VR]
      refine ⟨Nat.lt_succ_self _, _, _, rfl, hge, .inr ?_⟩
      rw [upd_same]
      refine ⟨rfl, ?_, gcl _ _ _ _ (by omega)⟩
      simp [size_zeroCells, e5]
      omega
/-- append to a row that one may turn; what comes back is new. -/
theorem o_appT {n0 : Nat} {s x : Operand} {t : Nat} {e : Nat} {r r' : Option Nat} {o n : Nat} {l ys : List Int} (hT : ∀ i, r = some i → i < st0.n → T i) (hn0 : n0 ≤ st.n) (ht : elem1 tb t = some (e, .int .i64, 8)) (hsv : av a s = .sl r 0 n) (hn : n = l.length) (hv : Fr n0 st r l) (hx : av a x = .sl r' o ys.length) (hy : At st r' o ys) (hbig : l.length + ys.length ≤ 1099511627776)
    (hR : ∀ r2 st', Fr n0 st' r2 (l ++ ys) → (∀ i, r2 = some i → st.n ≤ i) → Ext (fun i => r = some i) st st' → R (a.put dst (.v (.sl r2 0 (l ++ ys).length))) st') : ALeaf P T st0 N ⟨dst, .call ⟨.builtin .append, #[s, x], #[t, t]⟩, ty, pos, aft, gd⟩ .n R a st := by
  subst hn
  refine o_appendN (l := l.map I) (ys := ys.map I) ht (by omega) hsv ?_ ⟨r', o, by rw [hx, List.length_map], fun j hj => ?_⟩ (all_one ys) (by simp; omega) (fun v' st' ho hnew he => ?_)
  · rcases hv with ⟨rfl, rfl⟩ | ⟨i, rfl, h1, h2, h3⟩
    · exact .inl ⟨rfl, rfl⟩
    · exact .inr ⟨i, by rw [List.length_map], h2, fun h => hT i rfl h, h3⟩
  · rw [List.length_map] at hj
    rw [hy j hj]; simp [List.getD, hj]
  · rw [← List.map_append] at ho
    rcases ho with ⟨rfl, h⟩ | ⟨i, rfl, h1, h2, h3⟩
    · have h : l ++ ys = [] := by simpa using h
      have := hR none st' (.inl ⟨rfl, h⟩) (fun i h => by cases h) ⟨he.n, fun i hi hn => he.ob i hi fun ⟨o, n, e⟩ => hn (by injection e)⟩
      rw [h] at this; exact this
    · have hni : st.n ≤ i := hnew i _ _ rfl
      have := hR (some i) st' (.inr ⟨i, rfl, by omega, h1, h3⟩) (fun j h => by injection h with h; omega) ⟨he.n, fun i hi hn => he.ob i hi fun ⟨o, n, e⟩ => hn (by injection e)⟩
      rw [List.length_map]; exact this
/-- append to a row of the call's own; what comes back is new. -/
theorem o_appG {s x : Operand} {t : Nat} {e : Nat} {r r' : Option Nat} {o n : Nat} {l ys : List Int} (hle : st0.n ≤ st.n) (ht : elem1 tb t = some (e, .int .i64, 8)) (hsv : av a s = .sl r 0 n) (hn : n = l.length) (hv : Fr st0.n st r l) (hx : av a x = .sl r' o ys.length) (hy : At st r' o ys) (hbig : l.length + ys.length ≤ 1099511627776)
    (hR : ∀ r2 st', Fr st0.n st' r2 (l ++ ys) → (∀ i, r2 = some i → st.n ≤ i) → Ext (fun i => r = some i) st st' → R (a.put dst (.v (.sl r2 0 (l ++ ys).length))) st') : ALeaf P T st0 N ⟨dst, .call ⟨.builtin .append, #[s, x], #[t, t]⟩, ty, pos, aft, gd⟩ .n R a st :=
  o_appT (fun i hi h => by have := hv.bd i hi; omega) hle ht hsv hn hv hx hy hbig hR
end
end Go.Proofs.YtmphklmhhcmbnaaDoorW.Ax

/- Regions that draw their order: plain moves that nothing binds come first. A tail of a row of one's own. -/
namespace Go.Proofs.YtmphklmhhcmbnaaDoorW.Ax
open Go Go.RowKit
set_option linter.unusedVariables false

def isMove (o : Oper) : Bool := (match o.op with | .move _ => true | .assign _ => true | _ => false) && o.guard.isNone
def schedV (ops : Array Oper) (k : Array Bool → Bool) : List Nat → Array Bool → Bool
  | [], listed => k listed
  | i :: is, listed => (match ops[i]? with | some o => isMove o | none => false) && (qOk ops (fun _ => true) listed i && schedV ops k is (listed.setIfInBounds i true))
def drawOkV (ops : Array Oper) (pre sch : List Nat) (ms : List Md) : Bool :=
  Region.noSelect ops && (pre.length + sch.length == ops.size && schedV ops (schedB ops (flagOf sch ms) none sch ms) pre (Array.replicate ops.size false))

section
variable {P : Program} {T : Nat → Prop} {st0 : St} {N : Nat} {ops : Array Oper} {Q : Aa → St → Prop} {μ0 : Nat → Loc} {w0 : World} {Q' : Exit → Act → World → Prop} {fl : Nat → Bool}
theorem wpX_of_V (hQ : ∀ ca w, Good T μ0 st0 w0 N Q ca w → Q' .normal ca w) (hQn : ∀ e ca w, e ≠ .normal → ¬ Q' e ca w) (hs : Region.noSelect ops = true) (hd : ∀ (i : Nat) o, ops[i]? = some o → ∀ x, o.dst = some x → x < N) (sch : List Nat) (ms : List Md) :
    ∀ (pre : List Nat) (listed : Array Bool), schedV ops (schedB ops fl none sch ms) pre listed = true → ∀ ca w, Good T μ0 st0 w0 N (AOps P T st0 N ops Q (allQ pre.length ++ ms) ((pre ++ sch).filterMap (ops[·]?))) ca w →
      wpX P ops Q' (PwS fl none (fun _ => False)) (pre.length + sch.length) listed ca w
  | [], listed, hB, ca, w, h => by
    rw [List.length_nil, Nat.zero_add]
    exact wpX_of_AOps hQ hQn hs hd sch ms listed hB ca w h
  | i :: pre, listed, hB, ca, w, h => by
    simp only [schedV, Bool.and_eq_true] at hB
    obtain ⟨hmv, hq, hB⟩ := hB
    obtain ⟨β, a, μ, st, hi, hr⟩ := h
    have hin : i ∈ Region.ready .any ops listed := by
      have h' := hq
      simp only [qOk, Bool.and_eq_true] at h'
      simpa using h'.1.1
    obtain ⟨hjun, oi, hoi, hall⟩ := mem_ready.1 hin
    rw [hoi] at hmv
    simp only [isMove, Bool.and_eq_true, Option.isNone_iff_eq_none] at hmv
    obtain ⟨hmv, hg⟩ := hmv
    simp only [List.cons_append, List.filterMap_cons, hoi, AOps, allQ, List.length_cons, List.replicate_succ, List.cons_append, List.headD_cons, List.tail_cons, hg] at hr
    obtain ⟨r, haq, hr⟩ := hr
    obtain ⟨cv, h1, h2⟩ := haq μ0 w0 β μ w ca hi
    have hall : ∀ w', (execOp ca.eval oi).run P w' = .ok (.value cv) w' := fun w' => by
      have h3 := h2 w (Pre.refl w)
      obtain ⟨dst, op, ty, pos, aft, gd⟩ := oi
      cases op <;> try (cases hmv)
      all_goals
        simp [execOp] at h3 ⊢
        exact h3
    have hy : YX P ops (fun _ _ => True) oi cv ca w := .inl ⟨by simp [Region.wanted, hg], fun w' _ => hall w'⟩
    have ih := wpX_of_V hQ hQn hs hd sch ms pre _ hB (ca.put oi.dst cv) w ⟨β, _, μ, st, hi.put (hd i oi hoi) h1, hr⟩
    rw [List.length_cons, show pre.length + 1 + sch.length = (pre.length + sch.length) + 1 by omega]
    exact first_of (R := fun _ _ => True) (fun _ => trivial) (fun _ _ _ _ _ => trivial) hQn hs hq hoi (fun w => PwS.refl ..) (fun j hj w w' hp => trivial) hy ih
end
section
variable {P : Program} {T : Nat → Prop} {st0 : St} {N : Nat} {a : Aa} {st : St} {Q : AX → Aa → St → Prop} {id : Nat} {l : List Oper} {y : Code}
theorem c_draw3 (hm : P.follows .mixedOrders = true) (pre sch : List Nat) (ms : List Md) (hd : dstsOk N l = true) (hB : drawOkV l.toArray pre sch ms = true)
    (h : AOps P T st0 N l.toArray (Q .normal) (allQ pre.length ++ ms) ((pre ++ sch).filterMap (l.toArray[·]?)) a st) : ACode P T st0 N (.region id l.toArray true) Q a st := by
  intro μ0 w0 β μ w ca hi
  simp only [drawOkV, Bool.and_eq_true, beq_iff_eq] at hB
  obtain ⟨hs, hlen, hB⟩ := hB
  refine wp_mono (wp_region_any (Q := fun e ca w => e = .normal ∧ Good T μ0 st0 w0 N (Q .normal) ca w) hm (wpAny_of_wpX (Pw := PwS (flagOf sch ms) none (fun _ => False)) _ _ _ _ ?_)) fun e ca' w' hq => by obtain ⟨rfl, hq⟩ := hq; exact hq
  rw [← hlen] at hB ⊢
  exact wpX_of_V (fun ca w h => ⟨rfl, h⟩) (fun e ca w hne hq => hne hq.1) hs (fun i o ho x hx => dstsOk_spec hd o (by simpa using List.mem_of_getElem? (by simpa using ho)) x hx) sch ms pre _ hB ca _ ⟨β, a, μ, st, hi.pre (Pre.drew w), h⟩
/-- A drawn region; the moves 'pre' first. -/
theorem c_dv {tb' : Tb} [TbOk P tb'] (pre sch : List Nat) (ms : List Md) (hd : dstsOk N l = true) (hB : drawOkV l.toArray pre sch ms = true) (h : AOps P T st0 N l.toArray (ACode P T st0 N y Q) (allQ pre.length ++ ms) ((pre ++ sch).filterMap (l.toArray[·]?)) a st) : ACode P T st0 N (.seq (.region id l.toArray true) y) Q a st :=
  c_seq (c_draw3 (TbOk.mixed (tb := tb')) pre sch ms hd hB h)
theorem c_dv1 {tb' : Tb} [TbOk P tb'] (pre sch : List Nat) (ms : List Md) (hd : dstsOk N l = true) (hB : drawOkV l.toArray pre sch ms = true) (h : AOps P T st0 N l.toArray (Q .normal) (allQ pre.length ++ ms) ((pre ++ sch).filterMap (l.toArray[·]?)) a st) : ACode P T st0 N (.region id l.toArray true) Q a st :=
  c_draw3 (TbOk.mixed (tb := tb')) pre sch ms hd hB h
end
section
variable {P : Program} {tb : Tb} [TbOk P tb] {T : Nat → Prop} {st0 : St} {N : Nat} {a : Aa} {st : St} {R : Aa → St → Prop} {m : Md}
variable {dst : Option Nat} {ty : Nat} {pos : String} {aft : Array Edge} {gd : Option (Nat × Bool)}
/-- A variable whose place is handed on: a block of the store. -/
theorem o_allocP {t : Nat} {i : TyI} (hm : m.loud) (ht : look tb t = some i) (hR : ∀ q st', q = st.n → st'.n = st.n + 1 → st'.ob q = .row true (i.zero.map Z.av) → Ex st st' → R (a.put dst (.v (.ptr (some q) 0))) st') : ALeaf P T st0 N ⟨dst, .alloc t, ty, pos, aft, gd⟩ m R a st :=
  o_allocS hm ht (hR st.n _ rfl rfl (push_ob _ _) (ex_push _ _))
theorem o_boxP {t : Nat} {x : Operand} {l : List AV} (hm : m.loud) (hl : cellsB (av a x) = some l) (hR : ∀ q st', q = st.n → st'.n = st.n + 1 → st'.ob q = .row true l → Ex st st' → R (a.put dst (.v (.ptr (some q) 0))) st') : ALeaf P T st0 N ⟨dst, .box t x, ty, pos, aft, gd⟩ m R a st :=
  o_boxS hm hl (hR st.n _ rfl rfl (push_ob _ _) (ex_push _ _))
/-- A store into a block of the store: what is known of it then. -/
theorem o_stP {t : Nat} {x v : Operand} {r j : Nat} {l vs : List AV} {i : TyI} (ht : look tb t = some i) (hx : av a x = .ptr (some r) j) (hr : r < st.n) (hmay : May T st0 r) (ho : st.ob r = .row true l) (hv : cellsB (av a v) = some vs) (hone : vs.all oneA = true) (hlen : vs.length = i.zero.length) (hj : j + vs.length ≤ l.length)
    (hR : ∀ st', st'.n = st.n → st'.ob r = .row true (l.take j ++ vs ++ l.drop (j + vs.length)) → Ext (· = r) st st' → R (a.put dst (.v .junk)) st') : ALeaf P T st0 N ⟨dst, .store t x v, ty, pos, aft, gd⟩ .n R a st :=
  o_st ht hx hr hmay ho hv hone hlen hj (hR _ rfl (set_ob _ _ _) (ext_set _ _ _))
end
end Go.Proofs.YtmphklmhhcmbnaaDoorW.Ax

/- cap of nil, appending zeros to nil, and a cut of a row of one's own that becomes a row by itself. -/
namespace Go.Proofs.YtmphklmhhcmbnaaDoorW.Ax
open Go Go.RowKit
set_option linter.unusedVariables false
section
variable {P : Program} {tb : Tb} [TbOk P tb] {T : Nat → Prop} {st0 : St} {N : Nat} {a : Aa} {st : St} {R : Aa → St → Prop} {m : Md}
variable {dst : Option Nat} {ty : Nat} {pos : String} {aft : Array Edge} {gd : Option (Nat × Bool)}
theorem run_cap_slice {t n c : Nat} {A : Option Addr} {i : TyI} {e : Nat} (ht : look tb t = some i) (hk : i.k = .slice e) (w : World) (ty : TypeId) : (Builtin.cap_ #[t] ty #[.slice A n c]).run P w = .ok (.int .i64 c) w := by
  have := (tyR (P := P) ht).und_of.2.2.2.1 e hk
  simp [Builtin.cap_, underlying, this, goInt]
theorem o_capN {t : Nat} {x : Operand} {i : TyI} {e : Nat} (ht : look tb t = some i) (hk : i.k = .slice e) (hx : av a x = .sl none 0 0) (hR : R (a.put dst (.v (I 0))) st) : ALeaf P T st0 N ⟨dst, .call ⟨.builtin .cap, #[x], #[t]⟩, ty, pos, aft, gd⟩ m R a st := by
  refine leaf_q (.v (I 0)) (fun μ0 w0 β μ w ca hi => ?_) hR
  have hv := av_vr hi x
  rw [hx] at hv
  simp only [VR] at hv
  obtain ⟨_, _, A, hv⟩ := hv
  exact ⟨.int .i64 0, by simp [RR, VR], fun w' _ => by simp [execOp, resolve, invoke, builtin, hv, run_cap_slice (P := P) ht hk]⟩
/-- So many zeros, appended to nil. -/
theorem o_appZ {s x : Operand} {t u : Nat} {e : Nat} {k : IntKind} {q : Int} {i : TyI} (hm : m.loud) (ht : elem1 tb t = some (e, .int .i64, 8)) (hu' : look tb u = some i) (hk : i.k = .int k) (hsv : av a s = .sl none 0 0) (hx : av a x = I q) (h0 : 0 < q) (h1 : q ≤ 1099511627776)
    (hR : R (a.put dst (.v (.sl (some st.n) 0 q.toNat))) (st.push (.row true ((List.replicate q.toNat 0).map I)))) : ALeaf P T st0 N ⟨dst, .call ⟨.builtin .append, #[s, x], #[t, u]⟩, ty, pos, aft, gd⟩ m R a st := by
  refine leaf_val _ _ no_T (loud_no hm st) (fun μ0 w0 β μ w ca hi => ?_) hR
  obtain ⟨hu, hz1⟩ := elem1_ok (P := P) ht
  obtain ⟨inf, zv, e1, e2, e3, e4, e5, e6⟩ := one1_info (P := P) hz1
  have hui := (tyR (P := P) hu').und_of.1 k hk
  have hsvv := av_vr hi s
  have hxv := av_vr hi x
  rw [hsv] at hsvv
  rw [hx] at hxv
  simp only [VR] at hsvv hxv
  obtain ⟨_, _, A, hsvv⟩ := hsvv
  have hf0 := fun w' => run_first0 (P := P) A w'
  obtain ⟨n, rfl⟩ : ∃ n : Nat, q = n := ⟨q.toNat, by omega⟩
  have hq : (n : Int).toNat = n := by omega
  rw [hq]
  have hw : IntKind.i64.wrap (n : Int) = n := by rw [IntKind.wrap_i64]; omega
  have hzc : ∀ n : Nat, (Builtin.zeroCells zv.cells n).toList = List.replicate n (zv.cells.getD 0 undef) := fun n => by
    apply List.ext_getElem?
    intro j
    by_cases hj : j < n
    · simp [Builtin.zeroCells, e5, Nat.mod_one, hj]
    · rw [List.getElem?_eq_none (by simp [size_zeroCells, e5]; omega), List.getElem?_eq_none (by simp; omega)]
  have hcs : ∀ m, Builtin.zeroCells zv.cells n ++ Builtin.zeroCells zv.cells m = (List.replicate n (zv.cells.getD 0 undef) ++ List.replicate m (zv.cells.getD 0 undef)).toArray := fun m => by
    rw [← hzc n, ← hzc m]; simp
  have hge := grownCap_ge w n 0 e
  have hneg : ¬ ((n : Int) < 0) := by omega
  have hbig : ¬ (281474976710656 < (n : Int) * inf.bytes) := by rw [e3]; omega
  have hn0 : ¬ n = 0 := by omega
  have h63 : ¬ (9223372036854775807 < (n : Int)) := by omega
  have h48 : ¬ (281474976710656 < Builtin.nextslicecap n 0 * inf.bytes) := by
    have := growslice_fits (need := n) (old := 0) (bytes := inf.bytes) (by omega) (by rw [e3]; omega); omega
  have hrun : (Builtin.append_ #[t, u] ty #[.slice A 0 0, .int .i64 n]).run P w = .ok (.slice (some ⟨w.heap.size, 0, none⟩) n (grownCap w n 0 e)) (w.drew.alloc (.cells ((Builtin.zeroCells zv.cells n) ++ Builtin.zeroCells zv.cells (grownCap w n 0 e - n)) e)) := by
    simp [Builtin.append_, underlying, hu, hui, sizeOf, typeInfo, zeroValue, e1, e2, e4, hw, hneg, hbig, hn0, asInt, asIntOf, h63, h48, Question.forced, newRow, grownCap, hf0]
  rw [hcs] at hrun
  obtain ⟨r1, r2⟩ := push_row hi.rel (Pre.drew w) rfl (l := (List.replicate n 0).map I) (cs := (List.replicate n (zv.cells.getD 0 undef) ++ List.replicate (grownCap w n 0 e - n) (zv.cells.getD 0 undef)).toArray) (E := e)
    (by simp) (fun j hj => by
      have hj' : j < n := by simpa using hj
      have e7 : ((List.replicate n (0 : Int)).map I).getD j .junk = I 0 := by simp [List.getD, hj']
      have e8 : (List.replicate n (zv.cells.getD 0 undef) ++ List.replicate (grownCap w n 0 e - n) (zv.cells.getD 0 undef)).toArray.getD j undef = zv.cells.getD 0 undef := by
        have : (List.replicate n (zv.cells.getD 0 undef) ++ List.replicate (grownCap w n 0 e - n) (zv.cells.getD 0 undef)).toArray[j]? = some (zv.cells.getD 0 undef) := by
          rw [List.getElem?_toArray, List.getElem?_append_left (by simpa using hj'), List.getElem?_replicate, if_pos hj']
        rw [Array.getD_eq_getD_getElem?, this]; rfl
      rw [e7, e8]
      exact e6 _ _)
  refine ⟨.slice (some ⟨w.heap.size, 0, none⟩) n (grownCap w n 0 e), _, _, ?_, ?_, r1, r2⟩
  · simp [execOp, resolve, invoke, builtin, hsvv, hxv, hrun]
  · simp only [VR]
    refine ⟨Nat.lt_succ_self _, _, _, rfl, by omega, .inr ?_⟩
    rw [upd_same]
    refine ⟨rfl, ?_, gcl _ _ _ _ (by omega)⟩
    simp
    omega
/-- A literal without elements. -/
theorem o_bsl0 {t : Nat} {e : Nat} {z : Z} {b : Nat} (hm : m.loud) (ht : elem1 tb t = some (e, z, b)) (hR : R (a.put dst (.v (.sl none 0 0))) st) : ALeaf P T st0 N ⟨dst, .buildSlice t 0 #[], ty, pos, aft, gd⟩ m R a st := by
  refine leaf_val _ _ no_T (loud_no hm st) (fun μ0 w0 β μ w ca hi => ?_) hR
  obtain ⟨hu, hz1⟩ := elem1_ok (P := P) ht
  obtain ⟨inf, zv, e1, e2, e3, e4, e5, e6⟩ := one1_info (P := P) hz1
  have hp := pre_alloc w (.cells #[] e)
  refine ⟨.slice (some ⟨w.heap.size, 0, none⟩) 0 0, μ, w.alloc (.cells #[] e), ?_, by simp [VR], hi.rel.pre hp, (Stp.refl _ _ _ _).pre hp⟩
  have e0 : ∀ f : Nat → Value, (Array.range 0).map f = #[] := fun f => Array.eq_empty_of_size_eq_zero (by simp)
  simp [execOp, Instr.buildSlice, underlying, hu, sizeOf, typeInfo, e1, newRow, Instr.fill, e0]
/-- What is appended to nothing is a new row. -/
theorem o_appE {s x : Operand} {t : Nat} {e : Nat} {r' : Option Nat} {o : Nat} {ys : List Int} (hm : m.loud) (ht : elem1 tb t = some (e, .int .i64, 8)) (hsv : av a s = .sl none 0 0) (hx : av a x = .sl r' o ys.length) (hy : At st r' o ys) (hbig : ys.length ≤ 1099511627776)
    (hR : ∀ r2 st', Fr st.n st' r2 ys → Ex st st' → R (a.put dst (.v (.sl r2 0 ys.length))) st') : ALeaf P T st0 N ⟨dst, .call ⟨.builtin .append, #[s, x], #[t, t]⟩, ty, pos, aft, gd⟩ m R a st := by
  by_cases hk : ys = []
  · subst hk
    refine leaf_val (.sl none 0 0) st no_T (loud_no hm st) (fun μ0 w0 β μ w ca hi => ?_) (hR none st (.inl ⟨rfl, rfl⟩) (Ext.refl _ _))
    obtain ⟨hu, hz1⟩ := elem1_ok (P := P) ht
    obtain ⟨inf, zv, e1, e2, e3, e4, e5, e6⟩ := one1_info (P := P) hz1
    have hsvv := av_vr hi s
    rw [hsv] at hsvv
    simp only [VR] at hsvv
    obtain ⟨_, _, A, hsvv⟩ := hsvv
    obtain ⟨news, hsrc, hnews⟩ := src_of_rd (P := P) (l := []) hi ⟨r', o, hx, fun j hj => by simp at hj⟩ (av_vr hi x) rfl
    refine ⟨.slice A 0 0, μ, w, ?_, by simp [VR], hi.rel, Stp.refl _ _ _ _⟩
    have hrun : (Builtin.append_ #[t, t] ty #[.slice A 0 0, ca.eval x]).run P w = .ok (.slice A 0 0) w := by
      cases A with
      | none => exact run_app_nil0 hu hu (fun k h => by cases h) e1 e2 hsrc
      | some a => exact run_app_room0 hu hu (fun k h => by cases h) e1 e2 hsrc (Nat.le_refl _)
    simp [execOp, resolve, invoke, builtin, hsvv, hrun]
  · refine leaf_val (.sl (some st.n) 0 ys.length) (st.push (.row true (ys.map I))) no_T (loud_no hm st) (fun μ0 w0 β μ w ca hi => ?_) (hR (some st.n) _ (fr_push st ys) (ex_push _ _))
    obtain ⟨hu, hz1⟩ := elem1_ok (P := P) ht
    obtain ⟨inf, zv, e1, e2, e3, e4, e5, e6⟩ := one1_info (P := P) hz1
    have hsvv := av_vr hi s
    rw [hsv] at hsvv
    simp only [VR] at hsvv
    obtain ⟨_, _, A, hsvv⟩ := hsvv
    have hzl : ∀ n : Nat, Builtin.zeroCells zv.cells n = ((Builtin.zeroCells zv.cells n).toList).toArray := fun n => by simp
    obtain ⟨news, hsrc, hnews⟩ := src_of_rd (P := P) (l := ys.map I) hi ⟨r', o, by rw [hx, List.length_map], fun j hj => by
      rw [List.length_map] at hj
      rw [hy j hj]; simp [List.getD, hj]⟩ (av_vr hi x) (all_one ys)
    rw [List.length_map] at hsrc
    have hpos : 0 < ys.length := List.length_pos_iff.2 hk
    have hfit : (0 + ys.length) * inf.bytes ≤ 140737488355328 := by rw [e3]; omega
    have hrun := run_app_grow (P := P) (w := w) (ty := ty) hu hu (fun k h => by cases h) e1 e2 e4 hsrc (A := A) (n := 0) (c := 0) (olds := []) (fun w' _ => run_first0 A w') (by omega) hfit (by omega)
    rw [hzl] at hrun
    have hge := grownCap_ge w (0 + ys.length) 0 e
    have hge' := grownCap_ge w ys.length 0 e
    have hnn := hsrc.n
    obtain ⟨r1, r2⟩ := push_row hi.rel (Pre.drew w) rfl (l := ys.map I) (cs := #[] ++ news.toArray ++ ((Builtin.zeroCells zv.cells (grownCap w (0 + ys.length) 0 e - (0 + ys.length))).toList).toArray) (E := e)
      (by simp; omega) (fun j hj => getD_app (l := []) (cs1 := []) rfl hnews j hj)
    refine ⟨.slice (some ⟨w.heap.size, 0, none⟩) (0 + ys.length) (grownCap w (0 + ys.length) 0 e), _, _, ?_, ?_, r1, r2⟩
    · simp only [execOp, resolve, invoke, builtin, Sem.run_bind, Sem.run_pure, Result.andThen_ok, List.map_toArray, List.map_cons, List.map_nil, hsvv, hrun]
      rfl
    · simp only [VR]
      refine ⟨Nat.lt_succ_self _, _, _, by rw [Nat.zero_add], by omega, .inr ?_⟩
      rw [upd_same]
      refine ⟨rfl, ?_, gcl _ _ _ _ (by omega)⟩
      simp [size_zeroCells, e5]
      omega
theorem q_slice {t : Nat} {x : Operand} {lo hi : Option Operand} {r : Option Nat} {o n : Nat} {p q : Int} {e : Nat × Z × Nat} (ht : elem1 tb t = some e) (hx : av a x = .sl r o n) (hlo : bndA a lo 0 = some p) (hhi : bndA a hi n = some q) (h0 : 0 ≤ p) (h1 : p ≤ q) (h2 : q ≤ n) :
    AQ P T st0 N ⟨dst, .slice t x lo hi none, ty, pos, aft, gd⟩ (.v (.sl r (cond r.isNone 0 (o + p.toNat)) (q.toNat - p.toNat))) a st := by
  obtain ⟨e, z, b⟩ := e
  intro μ0 w0 β μ w ca hinv
  obtain ⟨hu, h1'⟩ := elem1_ok (P := P) ht
  obtain ⟨inf, v, e1, e2, _⟩ := one1_info (P := P) h1'
  have hxv := av_vr hinv x
  rw [hx] at hxv
  have hlow : (lo = none ∧ p = 0) ∨ ∃ y k, lo = some y ∧ ca.eval y = .int k p := by
    rcases bndA_ok hlo with h | ⟨y, k, h, h'⟩
    · exact .inl h
    · have := av_vr hinv y; rw [h'] at this; simp only [VR] at this; exact .inr ⟨y, k, h, this⟩
  have hhigh : (hi = none ∧ q = n) ∨ ∃ y k, hi = some y ∧ ca.eval y = .int k q := by
    rcases bndA_ok hhi with h | ⟨y, k, h, h'⟩
    · exact .inl h
    · have := av_vr hinv y; rw [h'] at this; simp only [VR] at this; exact .inr ⟨y, k, h, this⟩
  have run : ∀ (A : Option Addr) (c : Nat), n ≤ c → ca.eval x = .slice A n c → ∀ w', (execOp ca.eval ⟨dst, .slice t x lo hi none, ty, pos, aft, gd⟩).run P w' = .ok (.value (.slice (if c = p.toNat then A else A.map (·.add (p.toNat * 1))) (q.toNat - p.toNat) (c - p.toNat))) w' := by
    intro A c hc hxe w'
    have hqc : q ≤ (c : Int) := by omega
    have hpq : p ≤ (q.toNat : Int) := by omega
    have hq0 : 0 ≤ q := by omega
    have hb : (Instr.sliceBounds true n c (lo.map ca.eval) (hi.map ca.eval) none).run P w' = .ok (p.toNat, q.toNat, c) w' := by
      rcases hlow with ⟨rfl, rfl⟩ | ⟨y, k, rfl, hy⟩ <;> rcases hhigh with ⟨rfl, rfl⟩ | ⟨y', k', rfl, hy'⟩
      · simp [Instr.sliceBounds]
      · simp [Instr.sliceBounds, Instr.sliceBound, hy', asIntOf, hq0, hqc]
      · have : p ≤ (n : Int) := by omega
        simp [Instr.sliceBounds, Instr.sliceBound, hy, asIntOf, h0, this]
      · simp [Instr.sliceBounds, Instr.sliceBound, hy, hy', asIntOf, hq0, hqc, h0]
        intro hh
        omega
    simp [execOp, hxe, Instr.sliceAt, Instr.slice, underlying, hu, hb, sizeOf, typeInfo, e1, e2]
  cases r with
  | none =>
    simp only [VR] at hxv
    obtain ⟨rfl, rfl, A, hxe⟩ := hxv
    have hp : p = 0 := by omega
    have hq : q = 0 := by omega
    subst hp; subst hq
    refine ⟨.slice A 0 0, by simp [RR, VR], fun w' _ => ?_⟩
    simpa using run A 0 (Nat.le_refl _) hxe w'
  | some r =>
    simp only [VR] at hxv
    obtain ⟨hr, A, c, hxe, hc, hA⟩ := hxv
    refine ⟨_, ?_, fun w' _ => run (some A) c hc hxe w'⟩
    simp only [RR, VR, Option.isNone_some, cond_false]
    by_cases hcp : c = p.toNat
    · rw [if_pos hcp]
      exact ⟨hr, A, _, rfl, by omega, .inl (by omega)⟩
    · rw [if_neg hcp]
      refine ⟨hr, A.add (p.toNat * 1), c - p.toNat, rfl, by omega, .inr ?_⟩
      rcases hA with hA | ⟨hA, hz⟩
      · omega
      · rw [hA, Addr.add_lit, Nat.mul_one]
        exact ⟨by rw [Nat.add_assoc], by omega, by omega⟩
theorem o_sliceE {t : Nat} {x : Operand} {lo hi : Option Operand} {r : Option Nat} {o n o' n' : Nat} {p q : Int} {e : Nat × Z × Nat} (ht : elem1 tb t = some e) (hx : av a x = .sl r o n) (hlo : bndA a lo 0 = some p) (hhi : bndA a hi n = some q) (h0 : 0 ≤ p) (h1 : p ≤ q) (h2 : q ≤ n)
    (ho : cond r.isNone 0 (o + p.toNat) = o') (hn : q.toNat - p.toNat = n') (hR : R (a.put dst (.v (.sl r o' n'))) st) : ALeaf P T st0 N ⟨dst, .slice t x lo hi none, ty, pos, aft, gd⟩ m R a st := by
  subst ho; subst hn
  exact leaf_q _ (q_slice ht hx hlo hhi h0 h1 h2) hR
omit [TbOk P tb] in
/-- A cut of a row that the call may touch becomes a row by itself; the row is given up. -/
theorem recut_of {o : Oper} {r o' n' : Nat} {l : List AV} (h : AQ P T st0 N o (.v (.sl (some r) o' n')) a st) (hr : r < st.n) (hmay : May T st0 r) (ho : st.ob r = .row true l) (hn : o' + n' ≤ l.length)
    (hR : R (a.put o.dst (.v (.sl (some st.n) 0 n'))) (st.app r (.row true ((l.drop o').take n')))) : ALeaf P T st0 N o .n R a st := by
  refine leaf_val (T' := (· = r)) _ _ (fun k hk e => by subst e; exact hmay hk) (.inl rfl) (fun μ0 w0 β μ w ca hi => ?_) hR
  obtain ⟨cv, h1, h2⟩ := h μ0 w0 β μ w ca hi
  have hob := hi.rel.obj r hr
  rw [ho] at hob
  obtain ⟨cs, E, fz, g1, g2, g3, g4, g5⟩ := hob
  have hown : (st.ob r).own = true := by rw [ho]; rfl
  obtain ⟨r1, r2⟩ := app_ok hi.rel hr hown (o := .row true ((l.drop o').take n')) (L := ⟨(μ r).b, (μ r).s + o', (μ r).z⟩) (w' := w) (.inl rfl) (Nat.le_refl _) (fun _ _ _ => rfl) rfl rfl rfl
    ⟨cs, E, fz, g1, fun _ => g2 rfl, by simp; omega, g4, fun j hj => by
      have hj' : j < n' := by simp at hj; omega
      show VR _ _ _ (cs.getD ((μ r).s + o' + j) undef)
      have e1 : ((l.drop o').take n').getD j .junk = l.getD (o' + j) .junk := by simp [List.getD, hj']
      rw [e1]
      have := g5 (o' + j) (by omega)
      rw [← Nat.add_assoc] at this
      exact VR.mono (Nat.le_succ _) (mu_push μ st _) _ _ this⟩
  refine ⟨cv, _, w, h2 w (Pre.refl w), ?_, r1, r2⟩
  simp only [RR, VR] at h1 ⊢
  obtain ⟨_, A, c, h3, h4, h5⟩ := h1
  refine ⟨Nat.lt_succ_self _, A, c, h3, h4, h5.imp id fun h => ?_⟩
  rw [upd_same]
  exact ⟨h.1, h.2⟩
theorem o_recut {n0 : Nat} {t : Nat} {x : Operand} {lo hi : Option Operand} {r n : Nat} {p q : Int} {e : Nat × Z × Nat} {l : List Int} (ht : elem1 tb t = some e) (hx : av a x = .sl (some r) 0 n) (hlo : bndA a lo 0 = some p) (hhi : bndA a hi n = some q) (h0 : 0 ≤ p) (h1 : p ≤ q) (h2 : q ≤ n)
    (hn : n ≤ l.length) (hf : Fr n0 st (some r) l) (hle : n0 ≤ st.n) (hmay : May T st0 r)
    (hR : ∀ r2 st', Fr n0 st' (some r2) ((l.drop p.toNat).take (q.toNat - p.toNat)) → st.n ≤ r2 → Ext (· = r) st st' → R (a.put dst (.v (.sl (some r2) 0 ((l.drop p.toNat).take (q.toNat - p.toNat)).length))) st') : ALeaf P T st0 N ⟨dst, .slice t x lo hi none, ty, pos, aft, gd⟩ .n R a st := by
  have hob := hf.ob
  have hq := q_slice (P := P) (T := T) (st0 := st0) (N := N) (st := st) (dst := dst) (ty := ty) (pos := pos) (aft := aft) (gd := gd) ht hx hlo hhi h0 h1 h2
  refine recut_of (l := l.map I) hq hob.2.1 hmay hob.2.2 (by simp; omega) ?_
  have he := ext_app st r (.row true (((l.map I).drop (cond (some r).isNone 0 (0 + p.toNat))).take (q.toNat - p.toNat)))
  have hb := app_ob st r (.row true (((l.map I).drop (cond (some r).isNone 0 (0 + p.toNat))).take (q.toNat - p.toNat)))
  have hl : ((l.drop p.toNat).take (q.toNat - p.toNat)).length = q.toNat - p.toNat := by simp; omega
  have := hR st.n _ (.inr ⟨st.n, rfl, hle, Nat.lt_succ_self _, by rw [hb]; simp⟩) (Nat.le_refl _) he
  rw [hl] at this
  exact this
end
end Go.Proofs.YtmphklmhhcmbnaaDoorW.Ax
