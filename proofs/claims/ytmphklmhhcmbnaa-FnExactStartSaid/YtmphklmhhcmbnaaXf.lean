/- What the operations yield that only read a frame: each of them. -/
import Derived.Test.YtmphklmhhcmbnaaXe
namespace Go.Proofs.YtmphklmhhcmbnaaW.Ax
open Go Go.RowKit
set_option linter.unusedVariables false
set_option linter.unusedSimpArgs false

section
variable {P : Program} {tb : Tb} [TbOk P tb] {T : Nat → Prop} {st0 : St} {N : Nat} {a : Aa} {st : St} {dst : Option Nat} {ty : Nat} {pos : String} {aft : Array Edge} {gd : Option (Nat × Bool)}

omit [TbOk P tb] in
theorem AQ.mk' {op : Op} {r : RV} (h : ∀ μ0 w0 β μ w ca, Inv T μ0 st0 w0 N β a μ st w ca → ∃ cv, RR st.n μ β r cv ∧ ∀ w', Pre w w' → (execOp ca.eval ⟨dst, op, ty, pos, aft, gd⟩).run P w' = .ok (.value cv) w') : AQ P T st0 N ⟨dst, op, ty, pos, aft, gd⟩ r a st := h

omit [TbOk P tb] in
theorem q_move {x : Operand} {r : RV} (h : mvA a x = some r) : AQ P T st0 N ⟨dst, .move x, ty, pos, aft, gd⟩ r a st := by
  intro μ0 w0 β μ w ca hi
  rw [mvA_eq h]
  exact ⟨ca.eval x, rv_rr hi x, fun w' _ => by simp [execOp]⟩
omit [TbOk P tb] in
theorem q_assign {x : Operand} {r : RV} (h : mvA a x = some r) : AQ P T st0 N ⟨dst, .assign x, ty, pos, aft, gd⟩ r a st := by
  intro μ0 w0 β μ w ca hi
  rw [mvA_eq h]
  exact ⟨ca.eval x, rv_rr hi x, fun w' _ => by simp [execOp]⟩
omit [TbOk P tb] in
theorem q_pick {c x y : Operand} {r : RV} (h : run1 tb a (.pick c x y) = some r) : AQ P T st0 N ⟨dst, .pick c x y, ty, pos, aft, gd⟩ r a st := by
  intro μ0 w0 β μ w ca hi
  have hc := av_vr hi c
  have hx := av_vr hi x
  have hy := av_vr hi y
  simp only [run1] at h
  split at h
  · rename_i b hb
    rw [hb] at hc
    simp only [VR] at hc
    have fin : ∀ p : Bool, r = .v (.bool p) → (if b = true then ca.eval x else ca.eval y) = .bool p → ∃ cv, RR st.n μ β r cv ∧ ∀ w', Pre w w' → (execOp ca.eval ⟨dst, .pick c x y, ty, pos, aft, gd⟩).run P w' = .ok (.value cv) w' := fun p e1 e2 => by
      subst e1
      refine ⟨.bool p, by simp [RR, VR], fun w' _ => ?_⟩
      simp [execOp, hc, asBool, e2]
    split at h
    · rename_i p q hp hq
      rw [hp] at hx; rw [hq] at hy
      simp only [VR] at hx hy
      injection h with h
      refine fin (cond b p q) h.symm ?_
      cases b <;> simp [hx, hy]
    · rename_i p _ _ hp _
      rw [hp] at hx
      simp only [VR] at hx
      cases b with
      | true => simp only [cond_true] at h; injection h with h; exact fin _ h.symm (by simp [hx])
      | false => simp at h
    · rename_i q _ hq _
      rw [hq] at hy
      simp only [VR] at hy
      cases b with
      | true => simp at h
      | false => simp only [cond_false] at h; injection h with h; exact fin _ h.symm (by simp [hy])
    · cases h
  · cases h
omit [TbOk P tb] in
theorem q_unOp {u : UnOp} {t : Nat} {x : Operand} {r : RV} (h : run1 tb a (.unOp u t x) = some r) : AQ P T st0 N ⟨dst, .unOp u t x, ty, pos, aft, gd⟩ r a st := by
  intro μ0 w0 β μ w ca hi
  have hx := av_vr hi x
  simp only [run1] at h
  cases u <;> simp only at h <;> try (cases h; done)
  split at h
  · rename_i b hb
    rw [hb] at hx
    simp only [VR] at hx
    injection h with h
    subst h
    exact ⟨.bool (!b), by simp [RR, VR], fun w' _ => by simp [execOp, hx, Op.unary]⟩
  · cases h
omit [TbOk P tb] in
theorem eqGuard_int (op : BinOp) (t : Nat) (x y : Operand) (k : IntKind) (n : Int) (v : Value) (w : World) : (eqGuard op t x y (.int k n) v).run P w = .ok () w := by
  cases op <;> simp [eqGuard]
omit [TbOk P tb] in
theorem eqGuard_str (op : BinOp) (t : Nat) (x y : Operand) (s : ByteArray) (v : Value) (w : World) : (eqGuard op t x y (.string s) v).run P w = .ok () w := by
  cases op <;> simp [eqGuard]
omit [TbOk P tb] in
theorem q_binOp {op : BinOp} {t : Nat} {x y : Operand} {yt : Nat} {r : RV} (h : run1 tb a (.binOp op t x y yt) = some r) : AQ P T st0 N ⟨dst, .binOp op t x y yt, ty, pos, aft, gd⟩ r a st := by
  intro μ0 w0 β μ w ca hi
  have hx := av_vr hi x
  have hy := av_vr hi y
  simp only [run1] at h
  split at h
  · rename_i v hv
    injection h with h
    subst h
    obtain ⟨c, h1, h2⟩ := binA_ok hv hx hy
    refine ⟨c, h1, fun w' _ => ?_⟩
    have hg : (eqGuard op t x y (ca.eval x) (ca.eval y)).run P w' = .ok () w' := by
      have : (∃ k n, ca.eval x = .int k n) ∨ ∃ s, ca.eval x = .string s := by
        cases hxa : av a x <;> rw [hxa] at hv hx <;> simp only [binA] at hv <;> try (cases hv; done)
        · simp only [VR] at hx; exact .inl ⟨_, _, hx⟩
        · simp only [VR] at hx; exact .inr ⟨_, hx⟩
      rcases this with ⟨k, n, e⟩ | ⟨s, e⟩
      · rw [e]; exact eqGuard_int op t x y k n _ w'
      · rw [e]; exact eqGuard_str op t x y s _ w'
    simp only [execOp, Sem.run_bind, hg, Result.andThen_ok, h2, Sem.run_pure]
  · cases h
omit [TbOk P tb] in
theorem rv_lp {x : Operand} {k o : Nat} (h : rv a x = .lp k o) : ∃ t, x = .tmp t ∧ a.p t = some (k, o) := by
  cases x with
  | tmp t =>
    refine ⟨t, rfl, ?_⟩
    simp only [rv] at h
    cases hp : a.p t with
    | none => rw [hp] at h; cases h
    | some ko => obtain ⟨k', o'⟩ := ko; rw [hp] at h; simp only at h; injection h with e1 e2; rw [e1, e2]
  | const v => simp [rv] at h
  | func f => simp [rv] at h
  | global g => simp [rv] at h
theorem q_load {t : Nat} {x : Operand} {r : RV} (h : run1 tb a (.load t x) = some r) : AQ P T st0 N ⟨dst, .load t x, ty, pos, aft, gd⟩ r a st := by
  intro μ0 w0 β μ w ca hi
  have hx := rv_rr hi x
  simp only [run1] at h
  split at h
  · rename_i k o hk
    rw [hk] at hx
    simp only [RR] at hx
    split at h
    · rename_i l hl
      split at h
      · rename_i i ht
        obtain ⟨cs, E, hg, hv⟩ := hi.box k l hl
        have hb := hi.blt (k := k) (by simp [hl])
        have hvd := hv.drop o
        have key : ∀ cv, (if i.agg = true then i.zero.length ≤ (cs.toList.drop o).length ∧ cv = .agg ((cs.toList.drop o).take i.zero.length).toArray else (cs.toList.drop o).head? = some cv) → RR st.n μ β r cv →
            ∃ cv, RR st.n μ β r cv ∧ ∀ w', Pre w w' → (execOp ca.eval ⟨dst, .load t x, ty, pos, aft, gd⟩).run P w' = .ok (.value cv) w' := fun cv h1 h2 => by
          refine ⟨cv, h2, fun w' hp => ?_⟩
          have hg' : w'.heap[β k]? = some (.cells cs E (0, 0)) := (hp.blk _ hb).trans hg
          have := run_loadAt (P := P) ht w' (β k) o cs E (0, 0) hg' cv h1
          simp [execOp, hx, this]
        cases ha : i.agg with
        | true =>
          rw [ha] at h
          simp only [cond_true] at h
          split at h
          · rename_i s hs
            obtain ⟨h1, h2⟩ := takeA_eq _ _ _ hs
            injection h with h
            subst h
            refine key _ (by rw [ha, if_pos rfl]; exact ⟨by rw [hvd.length]; exact h2, rfl⟩) ?_
            simp only [RR, VR]
            exact ⟨_, rfl, by rw [h1]; exact hvd.take _⟩
          · cases h
        | false =>
          rw [ha] at h
          simp only [cond_false] at h
          obtain ⟨cv, cs', e1, v, e2, e3⟩ := headA_ok h hvd
          subst e2
          exact key cv (by rw [ha]; simp [e1]) e3
      · cases h
    · cases h
  · cases h
theorem q_fieldAddr {t : Nat} {x : Operand} {f : Nat} {r : RV} (h : run1 tb a (.fieldAddr t x f) = some r) : AQ P T st0 N ⟨dst, .fieldAddr t x f, ty, pos, aft, gd⟩ r a st := by
  intro μ0 w0 β μ w ca hi
  have hx := rv_rr hi x
  simp only [run1] at h
  split at h
  · rename_i k o hk
    rw [hk] at hx
    simp only [RR] at hx
    split at h
    · rename_i n hn
      cases hb : Nat.blt f n with
      | false => rw [hb] at h; simp at h
      | true =>
        rw [hb] at h
        simp only [cond_true] at h
        injection h with h
        subst h
        exact ⟨_, rfl, fun w' _ => by simp [execOp, hx, run_fieldAt (P := P) hn (Nat.le_of_ble_eq_true hb)]⟩
    · cases h
  · rename_i q o hk
    rw [hk] at hx
    obtain ⟨q, rfl⟩ : ∃ q', q = some q' := by
      cases q with
      | none => simp [RR, VR] at hx
      | some q => exact ⟨q, rfl⟩
    simp only [RR, VR] at hx
    obtain ⟨hq, hx⟩ := hx
    split at h
    · rename_i n hn
      cases hb : Nat.blt f n with
      | false => rw [hb] at h; simp at h
      | true =>
        rw [hb] at h
        simp only [cond_true] at h
        injection h with h
        subst h
        refine ⟨.pointer (some ⟨(μ q).b, (μ q).s + (o + f), none⟩), by simp [RR, VR, hq], fun w' _ => ?_⟩
        simp [execOp, hx, run_fieldAt (P := P) hn (Nat.le_of_ble_eq_true hb), Nat.add_assoc]
    · cases h
  · cases h
theorem q_field {t : Nat} {x : Operand} {f : Nat} {r : RV} (h : run1 tb a (.field t x f) = some r) : AQ P T st0 N ⟨dst, .field t x f, ty, pos, aft, gd⟩ r a st := by
  intro μ0 w0 β μ w ca hi
  have hx := av_vr hi x
  simp only [run1] at h
  split at h
  · rename_i l hl
    rw [hl] at hx
    simp only [VR] at hx
    obtain ⟨cs, hx, hv⟩ := hx
    split at h
    · rename_i n hn
      cases hb : Nat.blt f n with
      | false => rw [hb] at h; simp at h
      | true =>
        rw [hb] at h
        simp only [cond_true] at h
        obtain ⟨cv, cs', e1, v, e2, e3⟩ := headA_ok h (hv.drop f)
        subst e2
        refine ⟨cv, e3, fun w' _ => ?_⟩
        have hfn := Nat.le_of_ble_eq_true hb
        unfold structN at hn
        cases hlt : look tb t with
        | none => rw [hlt] at hn; cases hn
        | some i =>
          rw [hlt] at hn
          simp only at hn
          cases hk : i.k <;> rw [hk] at hn <;> simp only at hn <;> try (cases hn; done)
          injection hn with hn
          subst hn
          obtain ⟨fs, h1, h2, h3⟩ := (tyR (P := P) hlt).struct hk
          have hfl : f < fs.size := by omega
          obtain ⟨e4, _, d, e5, e6, e7⟩ := h3 f fs[f] (by simp [hfl])
          have hget : fs[f]? = some fs[f] := by simp [hfl]
          have hcs : cs[f]? = some cv := by
            have : (cs.drop f)[0]? = some cv := by rw [e1]; rfl
            simpa using this
          have hag : (isAgg fs[f].type).run P w' = .ok false w' := by
            have hr : (underlying fs[f].type).run P w' = .ok d w' := by simp [underlying, e5]
            unfold isAgg
            rw [Sem.run_bind, hr, Result.andThen_ok]
            cases d <;> first | rfl | exact absurd rfl (e6 _) | exact absurd rfl (e7 _ _)
          simp [execOp, hx, Instr.field, underlying, h1, hget, asAgg, part, hag, e4, hcs]
    · cases h
  · cases h
omit [TbOk P tb] in
theorem q_nilCheck {x : Operand} {r : RV} (h : run1 tb a (.nilCheck x) = some r) : AQ P T st0 N ⟨dst, .nilCheck x, ty, pos, aft, gd⟩ r a st := by
  intro μ0 w0 β μ w ca hi
  have hx := rv_rr hi x
  simp only [run1] at h
  split at h
  · rename_i k o hk
    rw [hk] at hx
    simp only [RR] at hx
    injection h with h
    subst h
    exact ⟨_, rfl, fun w' _ => by simp [execOp, hx]⟩
  · rename_i q o hk
    rw [hk] at hx
    obtain ⟨q, rfl⟩ : ∃ q', q = some q' := by
      cases q with
      | none => simp [RR, VR] at hx
      | some q => exact ⟨q, rfl⟩
    simp only [RR, VR] at hx
    injection h with h
    subst h
    exact ⟨_, by simp only [RR, VR]; exact ⟨hx.1, rfl⟩, fun w' _ => by simp [execOp, hx.2]⟩
  · cases h
omit [TbOk P tb] in
theorem q_extract {x : Operand} {i : Nat} {r : RV} (h : run1 tb a (.extract x i) = some r) : AQ P T st0 N ⟨dst, .extract x i, ty, pos, aft, gd⟩ r a st := by
  intro μ0 w0 β μ w ca hi
  have hx := av_vr hi x
  simp only [run1] at h
  split at h
  · rename_i l hl
    rw [hl] at hx
    simp only [VR] at hx
    obtain ⟨cs, hx, hv⟩ := hx
    obtain ⟨cv, cs', e1, v, e2, e3⟩ := headA_ok h (hv.drop i)
    subst e2
    refine ⟨cv, e3, fun w' _ => ?_⟩
    have hcs : cs[i]? = some cv := by
      have : (cs.drop i)[0]? = some cv := by rw [e1]; rfl
      simpa using this
    simp [execOp, hx, Instr.extract, hcs]
  · cases h
theorem q_convert {s d : Nat} {x : Operand} {r : RV} (h : run1 tb a (.convert s d x) = some r) : AQ P T st0 N ⟨dst, .convert s d x, ty, pos, aft, gd⟩ r a st := by
  intro μ0 w0 β μ w ca hi
  have hx := av_vr hi x
  simp only [run1] at h
  split at h
  · rename_i k n hl
    rw [hl] at hx
    simp only [VR] at hx
    split at h
    · rename_i j0 hj0
      obtain ⟨ds, hds, _⟩ := (tyR (P := P) hj0).und
      split at h
      · rename_i i ht
        split at h
        · rename_i j hk
          injection h with h
          subst h
          have hu := (tyR (P := P) ht).und_of.1 j hk
          refine ⟨.int j (j.wrap n), by simp [RR, VR], fun w' _ => ?_⟩
          simp [execOp, hx, convert, underlying, hds, hu, Conv.intToInt]
        · cases h
      · cases h
    · cases h
  · cases h
omit [TbOk P tb] in
theorem q_makeFunc {fn : Fn} {first cap : Array Operand} {r : RV} (h : run1 tb a (.makeFunc fn first cap) = some r) : AQ P T st0 N ⟨dst, .makeFunc fn first cap, ty, pos, aft, gd⟩ r a st := by
  intro μ0 w0 β μ w ca hi
  simp only [run1] at h
  split at h
  · rename_i f
    split at h
    · rename_i hf
      injection h with h
      subst h
      have hfirst : first = #[] := by
        cases first; simp at hf; simp [hf]
      refine ⟨.func (.func f) #[] (cap.toList.map ca.eval).toArray, ?_, fun w' _ => ?_⟩
      · simp only [RR, VR]
        exact ⟨_, rfl, avs_vr hi cap.toList⟩
      · simp [execOp, hfirst, Instr.makeFunc]
        cases cap; simp
    · cases h
  · cases h
omit [TbOk P tb] in
theorem partsA_map (x : List (Nat × Operand)) : (partsA a x).map (·.1) = x.map (·.1) := by
  induction x with
  | nil => rfl
  | cons p r ih => obtain ⟨i, y⟩ := p; simp [partsA, ih]
omit [TbOk P tb] in
theorem partsA_get : ∀ (x : List (Nat × Operand)) (j : Nat), (partsA a x)[j]? = (x[j]?).map fun p => (p.1, av a p.2)
  | [], j => by simp [partsA]
  | (i, y) :: r, 0 => by simp [partsA]
  | (i, y) :: r, j + 1 => by simpa [partsA] using partsA_get r j
omit [TbOk P tb] in
theorem mapM_all {α β : Type} (f : α → Sem β) (g : α → β) (w : World) : ∀ (l : List α), (∀ x ∈ l, (f x).run P w = .ok (g x) w) → (l.mapM f).run P w = .ok (l.map g) w
  | [], _ => by simp
  | x :: r, h => by
    have h0 := h x (List.mem_cons_self ..)
    have ih := mapM_all f g w r (fun y hy => h y (List.mem_cons_of_mem _ hy))
    simp [List.mapM_cons, h0, ih]
theorem q_build {t : Nat} {parts : Array (Nat × Operand)} {r : RV} (h : run1 tb a (.build t parts) = some r) : AQ P T st0 N ⟨dst, .build t parts, ty, pos, aft, gd⟩ r a st := by
  intro μ0 w0 β μ w ca hi
  simp only [run1] at h
  split at h
  · rename_i n hn
    split at h
    · rename_i i ht
      cases hone : (Nat.beq i.zero.length n && (partsA a parts.toList).all fun p => oneA p.2) with
      | false => rw [hone] at h; simp at h
      | true =>
        rw [hone] at h
        simp only [cond_true] at h
        simp only [Bool.and_eq_true] at hone
        obtain ⟨hlen, hone⟩ := hone
        have hlen := Nat.eq_of_beq_eq_true hlen
        split at h
        · rename_i s hs
          injection h with h
          subst h
          have hT := tyR (P := P) ht
          obtain ⟨z, hz, hzv, hzs⟩ := hT.zeroV st.n μ
          unfold structN at hn
          rw [ht] at hn
          simp only at hn
          cases hk : i.k <;> rw [hk] at hn <;> simp only at hn <;> try (cases hn; done)
          injection hn with hn
          subst hn
          obtain ⟨fs, h1, h2, h3⟩ := hT.struct hk
          have hplaces : ∀ w', (fs.mapM (fun (f : Field) => do pure (f.offset, ← sizeOf f.type))).run P w' = .ok (fs.map fun (f : Field) => (f.offset, 1)) w' := fun w' => by
            rw [Array.mapM_eq_mapM_toList]
            rw [Sem.run_map]
            rw [mapM_all (P := P) _ (fun (f : Field) => (f.offset, 1)) w' fs.toList (fun f hf => by
              obtain ⟨j, hj⟩ := List.mem_iff_getElem?.1 hf
              obtain ⟨_, ⟨inf, e2, e3⟩, _⟩ := h3 j f (by simpa using hj)
              simp [sizeOf, typeInfo, e2, e3])]
            simp [Array.toList_map, ← Array.toList_map]
          obtain ⟨cs', hf, hv⟩ := setA_ok (partsA a parts.toList) (parts.map fun (p : Nat × Operand) => (p.1, ca.eval p.2)).toList (i.zero.map Z.av) s z.cells (fun j => (fs.map fun (f : Field) => (f.offset, 1))[j]?) hs hzv
            (fun j hj => by
              have hj' : j < fs.size := by simp at hj; omega
              have := (h3 j fs[j] (by simp [hj'])).1
              simp [hj', this])
            (by rw [partsA_map]; simp [List.map_map, Function.comp_def])
            (fun j p q hp hq => by
              rw [partsA_get] at hp
              have hq' : (parts.toList[j]?).map (fun (p : Nat × Operand) => (p.1, ca.eval p.2)) = some q := by simpa using hq
              cases hx : parts.toList[j]? with
              | none => rw [hx] at hp; cases hp
              | some x =>
                rw [hx] at hp hq'
                simp only [Option.map_some, Option.some.injEq] at hp hq'
                subst hp; subst hq'
                refine ⟨av_vr hi x.2, ?_⟩
                have := List.all_eq_true.1 hone (x.1, av a x.2) (List.mem_iff_getElem?.2 ⟨j, by rw [partsA_get, hx]; rfl⟩)
                exact this)
          refine ⟨.agg cs', by simp only [RR, VR]; exact ⟨_, by simp, hv⟩, fun w' _ => ?_⟩
          have hu : (underlying t).run P w' = .ok (.struct fs) w' := by simp [underlying, h1]
          have hparts : (parts.map fun (x : Nat × Operand) => match x with | (i, x) => (i, ca.eval x)) = (parts.map fun (p : Nat × Operand) => (p.1, ca.eval p.2)) := rfl
          simp only [execOp, Instr.build, Sem.run_bind, hz, Result.andThen_ok, hu, hplaces]
          simp only [hparts, hf, Sem.run_pure, Result.andThen_ok, Sem.run_bind]
        · cases h
    · cases h
  · cases h
theorem q_len {c : Call} {r : RV} (h : run1 tb a (.call c) = some r) : AQ P T st0 N ⟨dst, .call c, ty, pos, aft, gd⟩ r a st := by
  intro μ0 w0 β μ w ca hi
  obtain ⟨callee, args, types⟩ := c
  simp only [run1] at h
  split at h
  · split at h
    · split at h
      · rename_i x t hx ht
        have ha : args = #[x] := by cases args; simp at hx; simp [hx]
        have hty : types = #[t] := by cases types; simp at ht; simp [ht]
        subst ha; subst hty
        have hv := av_vr hi x
        split at h
        · rename_i i hi'
          split at h
          · rename_i e _ _ n hk hn
            rw [hn] at hv
            injection h with h
            subst h
            have : ∃ A c, ca.eval x = .slice A n c := by
              rename_i r' o'
              cases r' with
              | none => simp only [VR] at hv; exact ⟨none, 0, by rw [hv.2.2, hv.2.1]⟩
              | some q => simp only [VR] at hv; obtain ⟨_, A, c, hv, _⟩ := hv; exact ⟨some A, c, hv⟩
            obtain ⟨A, c, hv⟩ := this
            exact ⟨.int .i64 n, by simp [RR, VR], fun w' _ => by simp [execOp, resolve, invoke, builtin, hv, run_len_slice (P := P) hi' hk]⟩
          · rename_i s hk hn
            rw [hn] at hv
            simp only [VR] at hv
            injection h with h
            subst h
            exact ⟨.int .i64 s.size, by simp [RR, VR], fun w' _ => by simp [execOp, resolve, invoke, builtin, hv, run_len_str (P := P) hi' hk]⟩
          · cases h
        · cases h
      · cases h
    · cases h
  · cases h
end
end Go.Proofs.YtmphklmhhcmbnaaW.Ax
