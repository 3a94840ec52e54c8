/- Slices: made, cut, appended to, cleared. -/
import Derived.Test.YtmphklmhhcmbnaaXj
import Derived.Laws.Append
import Derived.Laws.AppendOwn
import Derived.Lib.SliceRun
namespace Go.Proofs.YtmphklmhhcmbnaaW.Ax
open Go Go.RowKit
set_option linter.unusedVariables false
set_option linter.unusedSimpArgs false

section
variable {P : Program} {tb : Tb} [TbOk P tb] {T : Nat → Prop} {st0 : St} {N : Nat} {a : Aa} {st : St} {R : Aa → St → Prop} {m : Md}
variable {dst : Option Nat} {ty : Nat} {pos : String} {aft : Array Edge} {gd : Option (Nat × Bool)}

omit [TbOk P tb] in
theorem zeroRow_get (z : Array Value) (n j : Nat) (hz : z.size = 1) (hj : j < n) : ((Array.range n).map (z[· % z.size]!)).getD j undef = z.getD 0 undef := by
  simp [hj, hz, Nat.mod_one]

theorem o_make {t : Nat} {lx cx : Operand} {k k' : IntKind} {q : Int} {e : Nat} {z : Z} {b : Nat} (hm : m.loud) (ht : elem1 tb t = some (e, z, b)) (hl : av a lx = .int k q) (hc : av a cx = .int k' q) (h0 : 0 ≤ q) (h1 : q * b ≤ 281474976710656) (h2 : q ≤ 1099511627776)
    (hR : R (a.put dst (.v (.sl (some st.n) 0 q.toNat))) (st.push (.row true (List.replicate q.toNat z.av)))) : ALeaf P T st0 N ⟨dst, .makeSlice t lx cx, ty, pos, aft, gd⟩ m R a st := by
  refine leaf_val _ _ no_T (loud_no hm st) (fun μ0 w0 β μ w ca hi => ?_) hR
  obtain ⟨hu, hz1⟩ := elem1_ok (P := P) ht
  obtain ⟨inf, zv, e1, e2, e3, e4, e5, e6⟩ := one1_info (P := P) hz1
  have hlv := av_vr hi lx
  have hcv := av_vr hi cx
  rw [hl] at hlv
  rw [hc] at hcv
  simp only [VR] at hlv hcv
  have hw : IntKind.i64.wrap q = q := by rw [IntKind.wrap_i64]; omega
  have hq : (q.toNat : Int) = q := Int.toNat_of_nonneg h0
  obtain ⟨cs, hcs, hcg⟩ : ∃ cs : Array Value, (if q.toNat * 1 = 0 then #[] else zv.cells) = cs ∧ (0 < q.toNat → cs = zv.cells) := ⟨_, rfl, fun h => by rw [if_neg (by omega)]⟩
  obtain ⟨r1, r2⟩ := push_row hi.rel (Pre.refl w) rfl (l := List.replicate q.toNat z.av) (cs := (Array.range q.toNat).map (cs[· % cs.size]!)) (E := e) (by simp) (fun j hj => by
    have hj' : j < q.toNat := by simpa using hj
    have hcs' := hcg (by omega)
    rw [hcs', zeroRow_get _ _ _ e5 hj']
    have : (List.replicate q.toNat z.av).getD j .junk = z.av := by simp [List.getD, hj']
    rw [this]
    exact e6 _ _)
  refine ⟨.slice (some ⟨w.heap.size, 0, none⟩) q.toNat q.toNat, _, _, ?_, ?_, r1, r2⟩
  · have hb : ¬ (281474976710656 < (inf.bytes : Int) * q) := by rw [e3, Int.mul_comm]; omega
    have hn : ¬ q < 0 := by omega
    simp [execOp, Instr.makeSlice, hlv, hcv, asInt, asIntOf, underlying, hu, typeInfo, e1, hw, hn, hb, sizeOf, e2, newRow]
    split
    · have h3 : q.toNat = 0 := by omega
      have e0 : ∀ f : Nat → Value, (Array.range 0).map f = #[] := fun f => Array.eq_empty_of_size_eq_zero (by simp)
      rw [h3, e0, e0]
    · rw [hcg (by omega)]
      simp [zeroValue, typeInfo, e1, e4]
  · simp only [VR]
    refine ⟨Nat.lt_succ_self _, _, q.toNat, rfl, Nat.le_refl _, .inr ?_⟩
    rw [upd_same]
    exact ⟨rfl, by simp⟩

theorem o_bslice {t len : Nat} {parts : Array (Nat × Operand)} {e : Nat} {z : Z} {b : Nat} {l : List AV} (hm : m.loud) (ht : elem1 tb t = some (e, z, b)) (hlen : len ≤ 16777216) (hl : setA (List.replicate len z.av) (partsA a parts.toList) = some l) (hone : ((partsA a parts.toList).all fun p => oneA p.2) = true)
    (hR : R (a.put dst (.v (.sl (some st.n) 0 len))) (st.push (.row true l))) : ALeaf P T st0 N ⟨dst, .buildSlice t len parts, ty, pos, aft, gd⟩ m R a st := by
  refine leaf_val _ _ no_T (loud_no hm st) (fun μ0 w0 β μ w ca hi => ?_) hR
  obtain ⟨hu, hz1⟩ := elem1_ok (P := P) ht
  obtain ⟨inf, zv, e1, e2, e3, e4, e5, e6⟩ := one1_info (P := P) hz1
  obtain ⟨zc, hzc, hzg⟩ : ∃ cs : Array Value, (if len = 0 then #[] else zv.cells) = cs ∧ (0 < len → cs = zv.cells) := ⟨_, rfl, fun h => by rw [if_neg (by omega)]⟩
  have hbase : VRL st.n μ (List.replicate len z.av) ((Array.range len).map (zc[· % zc.size]!)).toList := by
    refine VRL.of_get (by simp) fun j hj => ?_
    have hj' : j < len := by simpa using hj
    have h1 := zeroRow_get zv.cells len j e5 hj'
    rw [hzg (by omega)]
    have h2 : ((Array.range len).map (zv.cells[· % zv.cells.size]!)).toList.getD j undef = ((Array.range len).map (zv.cells[· % zv.cells.size]!)).getD j undef := by rw [List.getD, Array.getD_eq_getD_getElem?, Array.getElem?_toList]
    rw [h2, h1]
    have : (List.replicate len z.av).getD j .junk = z.av := by simp [List.getD, hj']
    rw [this]
    exact e6 _ _
  obtain ⟨cs, hf, hv⟩ := setA_ok (partsA a parts.toList) (parts.map fun (p : Nat × Operand) => (p.1, ca.eval p.2)).toList (List.replicate len z.av) l ((Array.range len).map (zc[· % zc.size]!)) (fun j => some (j * 1, 1)) hl hbase
    (fun j hj => by simp) (by rw [partsA_map]; simp [List.map_map, Function.comp_def])
    (fun j p q hp hq => by
      rw [partsA_get] at hp
      have hq' : (parts.toList[j]?).map (fun (p : Nat × Operand) => (p.1, ca.eval p.2)) = some q := by simpa using hq
      cases hx : parts.toList[j]? with
      | none => rw [hx] at hp; cases hp
      | some x =>
        rw [hx] at hp hq'
        simp only [Option.map_some, Option.some.injEq] at hp hq'
        subst hp; subst hq'
        refine ⟨av_vr hi x.2, ?_⟩
        have := List.all_eq_true.1 hone (x.1, av a x.2) (List.mem_iff_getElem?.2 ⟨j, by rw [partsA_get, hx]; rfl⟩)
        exact this)
  have hvl := hv.length
  have hll : l.length = len := by
    have : ∀ (ps : List (Nat × AV)) (l s : List AV), setA l ps = some s → s.length = l.length := by
      intro ps
      induction ps with
      | nil => intro l s h; simp only [setA] at h; injection h with h; rw [h]
      | cons p ps ih =>
        obtain ⟨i, v⟩ := p
        intro l s h
        simp only [setA] at h
        cases hb : Nat.blt i l.length with
        | false => rw [hb] at h; simp at h
        | true => rw [hb] at h; simp only [cond_true] at h; rw [ih _ _ h, List.length_set]
    rw [this _ _ _ hl]; simp
  obtain ⟨r1, r2⟩ := push_row hi.rel (Pre.refl w) rfl (l := l) (cs := cs) (E := e) (by simp at hvl; omega) (fun j hj => by simpa using hv.get j)
  refine ⟨.slice (some ⟨w.heap.size, 0, none⟩) len len, _, _, ?_, ?_, r1, r2⟩
  · have hparts : (parts.map fun (x : Nat × Operand) => match x with | (i, x) => (i, ca.eval x)) = (parts.map fun (p : Nat × Operand) => (p.1, ca.eval p.2)) := rfl
    have hbig : ¬ 16777216 < len := by omega
    simp only [execOp, hparts]
    simp [-Array.toList_map, Instr.buildSlice, underlying, hu, sizeOf, typeInfo, e1, e2, hbig, newRow]
    split
    · rename_i h0
      subst h0
      have hf' := hf
      simp only [Nat.mul_one] at hf'
      have e0 : ∀ f : Nat → Value, (Array.range 0).map f = #[] := fun f => Array.eq_empty_of_size_eq_zero (by simp)
      rw [e0] at hf'
      simp [-Array.toList_map, e0, hf']
    · rename_i h0
      rw [hzg (by omega)] at hf
      simp only [Nat.mul_one] at hf
      simp [-Array.toList_map, zeroValue, typeInfo, e1, e4, hf]
  · simp only [VR]
    refine ⟨Nat.lt_succ_self _, _, len, rfl, Nat.le_refl _, .inr ?_⟩
    rw [upd_same]
    simp at hvl
    exact ⟨rfl, by simp; omega⟩

def bndA (a : Aa) (x : Option Operand) (d : Int) : Option Int :=
  match x with
  | none => some d
  | some x => match av a x with | .int _ q => some q | _ => none
omit [TbOk P tb] in
theorem bndA_ok {x : Option Operand} {d q : Int} (h : bndA a x d = some q) : (x = none ∧ q = d) ∨ ∃ y k, x = some y ∧ av a y = .int k q := by
  unfold bndA at h
  split at h
  · injection h with h; exact .inl ⟨rfl, h.symm⟩
  · rename_i y
    split at h
    · rename_i k q' hk; injection h with h; subst h; exact .inr ⟨y, k, rfl, hk⟩
    · cases h

theorem o_slice {t : Nat} {x : Operand} {lo hi : Option Operand} {r : Option Nat} {o n : Nat} {p q : Int} {e : Nat × Z × Nat} (ht : elem1 tb t = some e) (hx : av a x = .sl r o n) (hlo : bndA a lo 0 = some p) (hhi : bndA a hi n = some q) (h0 : 0 ≤ p) (h1 : p ≤ q) (h2 : q ≤ n)
    (hR : R (a.put dst (.v (.sl r (cond r.isNone 0 (o + p.toNat)) (q.toNat - p.toNat)))) st) : ALeaf P T st0 N ⟨dst, .slice t x lo hi none, ty, pos, aft, gd⟩ m R a st := by
  obtain ⟨e, z, b⟩ := e
  refine leaf_q (.v (.sl r (cond r.isNone 0 (o + p.toNat)) (q.toNat - p.toNat))) (fun μ0 w0 β μ w ca hinv => ?_) hR
  obtain ⟨hu, h1'⟩ := elem1_ok (P := P) ht
  obtain ⟨inf, v, e1, e2, _⟩ := one1_info (P := P) h1'
  have hxv := av_vr hinv x
  rw [hx] at hxv
  have hlow : (lo = none ∧ p = 0) ∨ ∃ y k, lo = some y ∧ ca.eval y = .int k p := by
    rcases bndA_ok hlo with h | ⟨y, k, h, h'⟩
    · exact .inl h
    · have := av_vr hinv y; rw [h'] at this; simp only [VR] at this; exact .inr ⟨y, k, h, this⟩
  have hhigh : (hi = none ∧ q = n) ∨ ∃ y k, hi = some y ∧ ca.eval y = .int k q := by
    rcases bndA_ok hhi with h | ⟨y, k, h, h'⟩
    · exact .inl h
    · have := av_vr hinv y; rw [h'] at this; simp only [VR] at this; exact .inr ⟨y, k, h, this⟩
  have run : ∀ (A : Option Addr) (c : Nat), n ≤ c → ca.eval x = .slice A n c → ∀ w', (execOp ca.eval ⟨dst, .slice t x lo hi none, ty, pos, aft, gd⟩).run P w' = .ok (.value (.slice (if c = p.toNat then A else A.map (·.add (p.toNat * 1))) (q.toNat - p.toNat) (c - p.toNat))) w' := by
    intro A c hc hxe w'
    have hqc : q ≤ (c : Int) := by omega
    have hpq : p ≤ (q.toNat : Int) := by omega
    have hq0 : 0 ≤ q := by omega
    have hb : (Instr.sliceBounds true n c (lo.map ca.eval) (hi.map ca.eval) none).run P w' = .ok (p.toNat, q.toNat, c) w' := by
      rcases hlow with ⟨rfl, rfl⟩ | ⟨y, k, rfl, hy⟩ <;> rcases hhigh with ⟨rfl, rfl⟩ | ⟨y', k', rfl, hy'⟩
      · simp [Instr.sliceBounds]
      · simp [Instr.sliceBounds, Instr.sliceBound, hy', asIntOf, hq0, hqc]
      · have : p ≤ (n : Int) := by omega
        simp [Instr.sliceBounds, Instr.sliceBound, hy, asIntOf, h0, this]
      · simp [Instr.sliceBounds, Instr.sliceBound, hy, hy', asIntOf, hq0, hqc, h0, h1]
        intro hh
        omega
    simp [execOp, hxe, Instr.sliceAt, Instr.slice, underlying, hu, hb, sizeOf, typeInfo, e1, e2]
  cases r with
  | none =>
    simp only [VR] at hxv
    obtain ⟨rfl, rfl, hxe⟩ := hxv
    have hp : p = 0 := by omega
    have hq : q = 0 := by omega
    subst hp; subst hq
    refine ⟨.slice none 0 0, by simp [RR, VR], fun w' _ => ?_⟩
    simpa using run none 0 (Nat.le_refl _) hxe w'
  | some r =>
    simp only [VR] at hxv
    obtain ⟨hr, A, c, hxe, hc, hA⟩ := hxv
    refine ⟨_, ?_, fun w' _ => run (some A) c hc hxe w'⟩
    simp only [RR, VR, Option.isNone_some, cond_false]
    by_cases hcp : c = p.toNat
    · rw [if_pos hcp]
      exact ⟨hr, A, _, rfl, by omega, .inl (by omega)⟩
    · rw [if_neg hcp]
      refine ⟨hr, A.add (p.toNat * 1), c - p.toNat, rfl, by omega, .inr ?_⟩
      rcases hA with hA | ⟨hA, hz⟩
      · omega
      · rw [hA, Addr.add_lit, Nat.mul_one]
        exact ⟨by rw [Nat.add_assoc], by omega⟩
end
end Go.Proofs.YtmphklmhhcmbnaaW.Ax
