/- clear; strings; small rules. -/
import Derived.Test.YtmphklmhhcmbnaaXl
namespace Go.Proofs.YtmphklmhhcmbnaaW.Ax
open Go Go.RowKit
set_option linter.unusedVariables false
set_option linter.unusedSimpArgs false

section
variable {P : Program} {tb : Tb} [TbOk P tb] {T : Nat → Prop} {st0 : St} {N : Nat} {a : Aa} {st : St} {R : Aa → St → Prop} {m : Md}
variable {dst : Option Nat} {ty : Nat} {pos : String} {aft : Array Edge} {gd : Option (Nat × Bool)}

/-- The builtin clear, of a cut of a row of the call's own. -/
theorem o_clear {x : Operand} {t : Nat} {e : Nat} {z : Z} {b r o n : Nat} {l : List AV} (ht : elem1 tb t = some (e, z, b)) (hz : oneA z.av = true) (hx : av a x = .sl (some r) o n) (hr : r < st.n) (hmay : May T st0 r) (ho : st.ob r = .row true l) (hn : o + n ≤ l.length)
    (hR : R (a.put dst (.v (.tup []))) (st.set r (.row true (l.take o ++ List.replicate n z.av ++ l.drop (o + n))))) : ALeaf P T st0 N ⟨dst, .call ⟨.builtin .clear, #[x], #[t]⟩, ty, pos, aft, gd⟩ .n R a st := by
  refine leaf_val (T' := (· = r)) (.tup []) _ (fun k hk e => by subst e; exact hmay hk) (.inl rfl) (fun μ0 w0 β μ w ca hinv => ?_) hR
  obtain ⟨hu, hz1⟩ := elem1_ok (P := P) ht
  obtain ⟨inf, zv, e1, e2, e3, e4, e5, e6⟩ := one1_info (P := P) hz1
  have h := hinv.rel.obj r hr
  rw [ho] at h
  obtain ⟨cs, E, fz, h1, h2, h3, h4, h5⟩ := h
  have hfz := h2 rfl
  subst hfz
  have hxv := av_vr hinv x
  rw [hx] at hxv
  simp only [VR] at hxv
  obtain ⟨_, A, c, hxe, hnc, hA⟩ := hxv
  have hown : (st.ob r).own = true := by rw [ho]; rfl
  have hvr : ∀ st' μ', VR st' μ' (.tup []) (.tuple #[]) := fun st' μ' => by simp [VR, VRL]
  by_cases hn0 : n = 0
  · subst hn0
    have e0 : l.take o ++ List.replicate 0 z.av ++ l.drop (o + 0) = l := by simp
    rw [e0]
    obtain ⟨r1, r2⟩ := set_ok hinv.rel hr hown (o := .row true l) (w' := w) rfl (fun _ _ => rfl) rfl rfl rfl ⟨cs, E, (0, 0), h1, fun _ => rfl, h3, h4, h5⟩
    refine ⟨.tuple #[], μ, w, ?_, hvr _ _, r1, r2⟩
    simp [execOp, resolve, invoke, builtin, hxe, Builtin.clear_, underlying, hu]
  · rcases hA with hA | ⟨hA, hzz⟩
    · omega
    · have hzc : (Builtin.zeroCells zv.cells n).toList = List.replicate n (zv.cells.getD 0 undef) := by
        apply List.ext_getElem?
        intro j
        by_cases hj : j < n
        · have : zv.cells[0]! = zv.cells.getD 0 undef := by simp [e5]
          simp [Builtin.zeroCells, e5, Nat.mod_one, hj, this]
        · rw [List.getElem?_eq_none (by simp [size_zeroCells, e5]; omega), List.getElem?_eq_none (by simp; omega)]
      have hone : ∀ u ∈ List.replicate n (zv.cells.getD 0 undef), u.oneCell' = true := fun u hu => by
        rw [(List.mem_replicate.1 hu).2]
        exact ((e6 0 μ).one hz).1
      have hst := run_storeCells_at P (μ r).b ((μ r).s + o) E (List.replicate n (zv.cells.getD 0 undef)) 0 cs w h1 (by rw [List.length_replicate]; omega) hone
      rw [List.length_replicate, Nat.add_zero] at hst
      obtain ⟨r1, r2⟩ := set_ok hinv.rel hr hown (o := .row true (l.take o ++ List.replicate n z.av ++ l.drop (o + n))) (w' := w.setRow (μ r).b (cs.toList.take ((μ r).s + o) ++ List.replicate n (zv.cells.getD 0 undef) ++ cs.toList.drop ((μ r).s + o + n)).toArray)
        (by simp [World.setRow]) (fun b hb => setRow_other w _ b _ hb) rfl rfl rfl
        ⟨_, E, (0, 0), setRow_heap w _ cs _ E (0, 0) h1, fun _ => rfl, by simp; omega, by simp; omega, fun k hk => by
          have hcl := Array.length_toList (xs := cs)
          have hk' : k < l.length := by simp at hk; omega
          have e7 : (cs.toList.take ((μ r).s + o) ++ List.replicate n (zv.cells.getD 0 undef) ++ cs.toList.drop ((μ r).s + o + n)).toArray.getD ((μ r).s + k) undef = (cs.toList.take ((μ r).s + o) ++ List.replicate n (zv.cells.getD 0 undef) ++ cs.toList.drop ((μ r).s + o + (List.replicate n (zv.cells.getD 0 undef)).length)).getD ((μ r).s + k) undef := by
            rw [List.length_replicate]; simp [List.getD]
          have e8 : (l.take o ++ List.replicate n z.av ++ l.drop (o + n)).getD k .junk = (l.take o ++ List.replicate n z.av ++ l.drop (o + (List.replicate n z.av).length)).getD k .junk := by rw [List.length_replicate]
          rw [e7, e8, splice_get l _ o k .junk (by rw [List.length_replicate]; omega), splice_get cs.toList _ ((μ r).s + o) ((μ r).s + k) undef (by rw [List.length_replicate]; omega)]
          simp only [List.length_replicate]
          by_cases c1 : o ≤ k ∧ k < o + n
          · rw [if_pos c1, if_pos (by omega)]
            have c2 : k - o < n := by omega
            have c3 : (μ r).s + k - ((μ r).s + o) < n := by omega
            simp only [List.getD, List.getElem?_replicate, c2, c3, if_true, Option.getD_some]
            exact e6 _ _
          · rw [if_neg c1, if_neg (by omega)]
            have := h5 k hk'
            simpa [List.getD] using this⟩
      refine ⟨.tuple #[], μ, _, ?_, hvr _ _, r1, r2⟩
      have hzv : ∀ w', (zeroValue e).run P w' = .ok zv w' := fun w' => by simp [zeroValue, typeInfo, e1, e4]
      obtain ⟨n', rfl⟩ : ∃ n', n = n' + 1 := ⟨n - 1, by omega⟩
      subst hA
      generalize zv.cells.getD 0 undef = z0 at *
      simp only [execOp, resolve, invoke, builtin, Sem.run_bind, Sem.run_pure, Result.andThen_ok, List.map_toArray, List.map_cons, List.map_nil, hxe]
      simp [Builtin.clear_, underlying, hu, hzv, hzc, hst]

/-- A byte of a string. -/
def bt (s : ByteArray) (q : Int) : Int := ((s.data.toList.getD q.toNat 0).toNat : Int)
theorem o_index {t : Nat} {x ix : Operand} {s : ByteArray} {k : IntKind} {q : Int} {i : TyI} (ht : look tb t = some i) (hk : i.k = .str) (hx : av a x = .str s) (hi : av a ix = .int k q) (h0 : 0 ≤ q) (h1 : q < s.size)
    (hR : R (a.put dst (.v (.int .u8 (bt s q)))) st) : ALeaf P T st0 N ⟨dst, .index t x ix, ty, pos, aft, gd⟩ m R a st := by
  refine leaf_q (.v (.int .u8 (bt s q))) (fun μ0 w0 β μ w ca hinv => ?_) hR
  have hxv := av_vr hinv x
  have hiv := av_vr hinv ix
  rw [hx] at hxv
  rw [hi] at hiv
  simp only [VR] at hxv hiv
  refine ⟨.int .u8 (bt s q), by simp [RR, VR], fun w' _ => ?_⟩
  have hu := (tyR (P := P) ht).und_of.2.2.1 hk
  have hlt : q.toNat < s.size := by omega
  have hlt' : q.toNat < s.data.size := hlt
  have hb : s[q.toNat]? = some (s.data.toList.getD q.toNat 0) := by
    have : s[q.toNat]? = some s[q.toNat] := by simp [hlt]
    rw [this]
    simp only [List.getD, Array.getElem?_toList, ByteArray.getElem_eq_getElem_data]
    rw [Array.getElem?_eq_getElem hlt']
    rfl
  simp [execOp, hxv, hiv, Instr.index, asIntOf, underlying, hu, h0, hb, bt]

/-- Sums, differences and products that fit. -/
def arA (op : BinOp) (m n : Int) : Option Int := match op with | .add => some (m + n) | .sub => some (m - n) | .mul => some (m * n) | _ => none
theorem o_ar {op : BinOp} {t yt : Nat} {x y : Operand} {m' n' z : Int} (hx : av a x = .int .i64 m') (hy : av a y = .int .i64 n') (hz : arA op m' n' = some z) (h0 : -9223372036854775808 ≤ z) (h1 : z ≤ 9223372036854775807)
    (hR : R (a.put dst (.v (.int .i64 z))) st) : ALeaf P T st0 N ⟨dst, .binOp op t x y yt, ty, pos, aft, gd⟩ m R a st := by
  have hw : IntKind.i64.wrap z = z := by rw [IntKind.wrap_i64]; omega
  refine leaf_q (.v (.int .i64 z)) (q_binOp (tb := []) ?_) hR
  unfold arA at hz
  split at hz <;> first | (cases hz; done) | (injection hz with hz; subst hz; simp [run1, hx, hy, binA, kidx, hw])
/-- A conversion that fits. -/
theorem o_conv {s d : Nat} {x : Operand} {k k' : IntKind} {n' : Int} {i j : TyI} (hx : av a x = .int k n') (hs : look tb s = some i) (hd : look tb d = some j) (hk : j.k = .int k') (hw : k'.wrap n' = n')
    (hR : R (a.put dst (.v (.int k' n'))) st) : ALeaf P T st0 N ⟨dst, .convert s d x, ty, pos, aft, gd⟩ m R a st := by
  refine leaf_q (.v (.int k' n')) (run1_ok (tb := tb) (o := ⟨dst, .convert s d x, ty, pos, aft, gd⟩) ?_) hR
  simp [run1, hx, hs, hd, hk, hw]
/-- Whatever it yields, it is the same. -/
theorem o_eq {o : Oper} {r : RV} (h : run1 tb a o.op = some r) (r' : RV) (he : r = r') (hR : R (a.put o.dst r') st) : ALeaf P T st0 N o m R a st := by
  subst he
  exact leaf_q r (run1_ok h) hR
end
end Go.Proofs.YtmphklmhhcmbnaaW.Ax
