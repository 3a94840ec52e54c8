/- Rules for maps with whole numbers as keys. -/
import Derived.Test.YtmphklmhhcmbnaaXy
import Derived.MapKept
namespace Go.Proofs.YtmphklmhhcmbnaaW.Ax
open Go Go.RowKit
set_option linter.unusedVariables false

/-- What a map holds at a key. -/
def mget : List (Int × AV) → Int → Option AV
  | [], _ => none
  | (k, x) :: es, j => if k = j then some x else mget es j
def mput : List (Int × AV) → Int → AV → List (Int × AV)
  | [], j, v => [(j, v)]
  | (k, x) :: es, j, v => if k = j then (k, v) :: es else (k, x) :: mput es j v
theorem mget_put (v : AV) (j i : Int) : ∀ es, mget (mput es j v) i = if i = j then some v else mget es i
  | [] => by
    show (if j = i then some v else none) = _
    by_cases h : i = j
    · rw [if_pos h.symm, if_pos h]
    · rw [if_neg (Ne.symm h), if_neg h]; rfl
  | (k, x) :: es => by
    unfold mput
    by_cases h : k = j
    · rw [if_pos h]
      unfold mget
      by_cases hi : i = j
      · rw [if_pos hi, if_pos (h.trans hi.symm)]
      · rw [if_neg hi, if_neg (fun e => hi (e.symm.trans h))]
        rw [if_neg (fun e => hi (e.symm.trans h))]
    · rw [if_neg h]
      unfold mget
      by_cases hk : k = i
      · rw [if_pos hk, if_pos hk, if_neg (fun e => h (hk.trans e))]
      · rw [if_neg hk, if_neg hk]
        exact mget_put v j i es
theorem mput_len (v : AV) (j : Int) : ∀ es, (mput es j v).length ≤ es.length + 1
  | [] => by simp [mput]
  | (k, x) :: es => by
    unfold mput
    split
    · simp
    · have := mput_len v j es
      simp; omega

theorem erl_find {n : Nat} {μ : Nat → Loc} (j : Int) : ∀ (es : List (Int × AV)) (l : List MapEntry) (i : Nat), ERL n μ es l →
    (mget es j = none ∧ Instr.findNow (.int .i64) (.int .i64 j) l i = some none) ∨ ∃ p x m, mget es j = some x ∧ l[p]? = some m ∧ m.key = .int .i64 j ∧ VR n μ x m.val ∧ Instr.findNow (.int .i64) (.int .i64 j) l i = some (some (i + p, m.val))
  | [], l, i, h => by
    have h : l = [] := h
    subst h
    exact .inl ⟨rfl, rfl⟩
  | (k, x) :: es, l, i, h => by
    obtain ⟨m, l', rfl, h1, h2, h3⟩ := h
    by_cases hk : k = j
    · subst hk
      refine .inr ⟨0, x, m, by simp [mget], rfl, h1, h2, ?_⟩
      simp [Instr.findNow, Instr.sameNow, h1]
    · have hs : Instr.sameNow (.int .i64) (.int .i64 j) m.key = some false := by
        rw [h1]; simp [Instr.sameNow]; exact Ne.symm hk
      rcases erl_find j es l' (i + 1) h3 with ⟨h4, h5⟩ | ⟨p, y, m', h4, h5, h6, h7, h8⟩
      · exact .inl ⟨by simp [mget, hk, h4], by simp [Instr.findNow, hs, h5]⟩
      · refine .inr ⟨p + 1, y, m', by simp [mget, hk, h4], by simpa using h5, h6, h7, ?_⟩
        simp [Instr.findNow, hs, h8]
        omega
theorem erl_new {n : Nat} {μ : Nat → Loc} {j : Int} {v : AV} {m : MapEntry} (hk : m.key = .int .i64 j) (hv : VR n μ v m.val) : ∀ (es : List (Int × AV)) (l : List MapEntry), ERL n μ es l → mget es j = none → ERL n μ (mput es j v) (l ++ [m])
  | [], l, h, _ => by
    have h : l = [] := h
    subst h
    exact ⟨m, [], rfl, hk, hv, rfl⟩
  | (k, x) :: es, l, h, hg => by
    obtain ⟨m', l', rfl, h1, h2, h3⟩ := h
    unfold mget at hg
    split at hg
    · cases hg
    · rename_i hne
      unfold mput
      rw [if_neg hne]
      exact ⟨m', l' ++ [m], rfl, h1, h2, erl_new hk hv es l' h3 hg⟩
theorem erl_old {n : Nat} {μ : Nat → Loc} {j : Int} {v : AV} {cv : Value} (hv : VR n μ v cv) (f : MapEntry → MapEntry) (hf : ∀ m, (f m).key = .int .i64 j ∧ (f m).val = cv) : ∀ (es : List (Int × AV)) (l : List MapEntry) (p i : Nat) (r : Value), ERL n μ es l → Instr.findNow (.int .i64) (.int .i64 j) l i = some (some (i + p, r)) → ERL n μ (mput es j v) (l.modify p f)
  | [], l, p, i, r, h, hf' => by
    have h : l = [] := h
    subst h
    simp [Instr.findNow] at hf'
  | (k, x) :: es, l, p, i, r, h, hf' => by
    obtain ⟨m, l', rfl, h1, h2, h3⟩ := h
    unfold Instr.findNow at hf'
    by_cases hk : k = j
    · subst hk
      have hs : Instr.sameNow (.int .i64) (.int .i64 k) m.key = some true := by rw [h1]; simp [Instr.sameNow]
      rw [hs] at hf'
      simp only [Option.some.injEq, Prod.mk.injEq] at hf'
      have hp : p = 0 := by omega
      subst hp
      unfold mput
      rw [if_pos rfl]
      exact ⟨f m, l', by simp, (hf m).1, by rw [(hf m).2]; exact hv, h3⟩
    · have hs : Instr.sameNow (.int .i64) (.int .i64 j) m.key = some false := by
        rw [h1]; simp [Instr.sameNow]; exact Ne.symm hk
      rw [hs] at hf'
      simp only at hf'
      rcases erl_find j es l' (i + 1) h3 with ⟨h4, h5⟩ | ⟨p', y, m', h4, h5, h6, h7, h8⟩
      · rw [h5] at hf'; cases hf'
      · rw [h8] at hf'
        simp only [Option.some.injEq, Prod.mk.injEq] at hf'
        have hp : p = p' + 1 := by omega
        subst hp
        unfold mput
        rw [if_neg hk]
        exact ⟨m, l'.modify p' f, by simp, h1, h2, erl_old hv f hf es l' p' (i + 1) _ h3 h8⟩

section
variable {P : Program} {tb : Tb} [TbOk P tb] {T : Nat → Prop} {st0 : St} {N : Nat} {a : Aa} {st : St} {R : Aa → St → Prop} {m : Md}
variable {dst : Option Nat} {ty : Nat} {pos : String} {aft : Array Edge} {gd : Option (Nat × Bool)}
omit [TbOk P tb] in
theorem o_makeMap {t : Nat} (hm : m.loud) (hR : R (a.put dst (.v (.map st.n))) (st.push (.map []))) : ALeaf P T st0 N ⟨dst, .makeMap t none, ty, pos, aft, gd⟩ m R a st := by
  refine leaf_val (T' := No) (.map st.n) (st.push (.map [])) no_T (loud_no hm st) (fun μ0 w0 β μ w ca hinv => ?_) hR
  have hrun : (execOp ca.eval ⟨dst, .makeMap t none, ty, pos, aft, gd⟩).run P w = .ok (.value (.map (some w.heap.size))) (w.alloc (.map #[] 0)) := rfl
  have hpre := pre_alloc w (.map #[] 0)
  obtain ⟨h1, h2⟩ := push_ok hinv.rel (o := .map []) (L := ⟨w.heap.size, 0, 0⟩) hpre (Nat.le_refl _) ⟨[], 0, (MapKept.heap_alloc w (.map #[] 0)).1, rfl⟩
  refine ⟨_, _, _, hrun, ⟨Nat.lt_succ_self _, ?_⟩, h1, h2⟩
  show Value.map (some w.heap.size) = Value.map (some (upd μ st.n ⟨w.heap.size, 0, 0⟩ st.n).b)
  rw [upd_same]
/-- What a map holds at a key, or the element type's zero. -/
theorem o_mget {t : Nat} {x ix : Operand} {r : Nat} {j : Int} {i ik : TyI} {kt et : Nat} {es : List (Int × AV)} (za : AV) (zv : Value) (ht : look tb t = some i) (hk : i.k = .map kt et) (hkt : look tb kt = some ik) (hki : ik.k = .int .i64) (hz : ((P.info? et).bind (·.zero)) = some zv) (hzr : ∀ n μ, VR n μ za zv)
    (hx : av a x = .map r) (hix : av a ix = I j) (hr : r < st.n) (ho : st.ob r = .map es) (v : AV) (hv : (mget es j).getD za = v) (hR : R (a.put dst (.v v)) st) : ALeaf P T st0 N ⟨dst, .lookup t x ix false, ty, pos, aft, gd⟩ m R a st := by
  subst hv
  refine leaf_q (.v ((mget es j).getD za)) (fun μ0 w0 β μ w ca hinv => ?_) hR
  have h := hinv.rel.obj r hr
  rw [ho] at h
  obtain ⟨l, clock, hb, hl⟩ := h
  have hxv := av_vr hinv x
  have hiv := av_vr hinv ix
  rw [hx] at hxv
  rw [hix] at hiv
  simp only [VR] at hxv hiv
  have hu := (tyR (P := P) ht).und_of.2.2.2.2 kt et hk
  have hku := (tyR (P := P) hkt).und_of.1 _ hki
  have hz1 : ∀ w', (zeroValue et).run P w' = .ok zv w' := fun w' => by
    obtain ⟨inf, h1, h2⟩ := Option.bind_eq_some_iff.1 hz
    simp [zeroValue, typeInfo, h1, h2]
  have hlt : (μ r).b < w.heap.size := (Array.getElem?_eq_some_iff.1 hb).1
  have key : ∀ w', Pre w w' → w'.heap[(μ r).b]? = some (.map l.toArray clock) := fun w' hp => (hp.blk _ hlt).trans hb
  rcases erl_find j es l 0 hl with ⟨h1, h2⟩ | ⟨p, y, m', h1, h2, h3, h4, h5⟩
  · rw [h1]
    refine ⟨zv, hzr _ _, fun w' hp => ?_⟩
    simp [execOp, Instr.lookup, run_underlying hu, hxv.2, hiv, MapKept.run_getObj_map (key w' hp), MapKept.run_checkKey hku (show MapKept.IsKey (.int .i64) (.int .i64 j) from rfl), MapKept.run_findKey hku h2, hz1 w', Result.andThen]
  · rw [h1]
    refine ⟨m'.val, h4, fun w' hp => ?_⟩
    simp [execOp, Instr.lookup, run_underlying hu, hxv.2, hiv, MapKept.run_getObj_map (key w' hp), MapKept.run_checkKey hku (show MapKept.IsKey (.int .i64) (.int .i64 j) from rfl), MapKept.run_findKey hku h5, Result.andThen]
/-- A map is written. -/
theorem o_mput {t : Nat} {x ix vx : Operand} {r : Nat} {j : Int} {i ik : TyI} {kt et : Nat} {es : List (Int × AV)} {v : AV} (ht : look tb t = some i) (hk : i.k = .map kt et) (hkt : look tb kt = some ik) (hki : ik.k = .int .i64)
    (hx : av a x = .map r) (hix : av a ix = I j) (hr : r < st.n) (hmay : May T st0 r) (ho : st.ob r = .map es) (hv : av a vx = v) (hR : R (a.put dst (.v .junk)) (st.set r (.map (mput es j v)))) : ALeaf P T st0 N ⟨dst, .mapUpdate t x ix vx, ty, pos, aft, gd⟩ .n R a st := by
  refine leaf_skip (T' := (· = r)) _ (fun k hk e => by subst e; exact hmay hk) (.inl rfl) (fun μ0 w0 β μ w ca hinv => ?_) hR
  have h := hinv.rel.obj r hr
  rw [ho] at h
  obtain ⟨l, clock, hb, hl⟩ := h
  have hxv := av_vr hinv x
  have hiv := av_vr hinv ix
  have hvv := av_vr hinv vx
  rw [hx] at hxv
  rw [hix] at hiv
  rw [hv] at hvv
  simp only [VR] at hxv hiv
  have hu := (tyR (P := P) ht).und_of.2.2.2.2 kt et hk
  have hku := (tyR (P := P) hkt).und_of.1 _ hki
  have hlt : (μ r).b < w.heap.size := (Array.getElem?_eq_some_iff.1 hb).1
  have hown : (st.ob r).own = true := by rw [ho]; rfl
  have fin : ∀ (l' : List MapEntry) (clock' : Nat), ERL st.n μ (mput es j v) l' → Rel μ (st.set r (.map (mput es j v))) { w with heap := w.heap.setIfInBounds (μ r).b (.map l'.toArray clock') } ∧ Stp (· = r) μ st w μ (st.set r (.map (mput es j v))) { w with heap := w.heap.setIfInBounds (μ r).b (.map l'.toArray clock') } := fun l' clock' he =>
    set_ok hinv.rel hr hown (by simp) (fun b hne => by simp [Ne.symm hne]) rfl rfl rfl ⟨l', clock', by simp [hlt], he⟩
  rcases erl_find j es l 0 hl with ⟨h1, h2⟩ | ⟨p, y, m', h1, h2, h3, h4, h5⟩
  · refine ⟨_, ?_, fin (l ++ [⟨.int .i64 j, ca.eval vx, clock⟩]) (clock + 1) (erl_new rfl hvv es l hl h1)⟩
    simp [execOp, Instr.mapUpdate, run_underlying hu, hxv.2, hiv, MapKept.run_getObj_map hb, MapKept.run_checkKey hku (show MapKept.IsKey (.int .i64) (.int .i64 j) from rfl), MapKept.run_findKey hku h2, MapKept.run_setObj_map _ hb, Result.andThen]
  · refine ⟨_, ?_, fin (l.modify p fun e => { e with key := .int .i64 j, val := ca.eval vx }) clock (erl_old hvv _ (fun m => ⟨rfl, rfl⟩) es l p 0 _ hl (by simpa using h5))⟩
    simp [execOp, Instr.mapUpdate, run_underlying hu, hxv.2, hiv, MapKept.run_getObj_map hb, MapKept.run_checkKey hku (show MapKept.IsKey (.int .i64) (.int .i64 j) from rfl), MapKept.run_findKey hku h5, h2, h3, MapKept.run_keyThatStays (show MapKept.IsKey (.int .i64) (.int .i64 j) from rfl), MapKept.run_setObj_map _ hb, Result.andThen]
end
end Go.Proofs.YtmphklmhhcmbnaaW.Ax
