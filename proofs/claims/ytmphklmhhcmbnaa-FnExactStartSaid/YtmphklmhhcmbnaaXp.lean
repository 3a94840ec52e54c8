/- Rules for rows of bytes, and for strings. -/
import Derived.Test.YtmphklmhhcmbnaaXo
import Derived.Laws.BytesString
namespace Go.Proofs.YtmphklmhhcmbnaaW.Ax
open Go Go.RowKit
set_option linter.unusedVariables false

abbrev B8 (n : Int) : AV := .int .u8 n
/-- A row of bytes that is the call's own; or nil. -/
def Fb (n0 : Nat) (st : St) (r : Option Nat) (l : List Int) : Prop := (r = none ∧ l = []) ∨ ∃ i, r = some i ∧ n0 ≤ i ∧ i < st.n ∧ st.ob i = .row true (l.map B8)
theorem Fb.ext {n0 : Nat} {T' : Nat → Prop} {st st' : St} {r : Option Nat} {l : List Int} (h : Fb n0 st r l) (he : Ext T' st st') (hn : ∀ i, r = some i → ¬ T' i) : Fb n0 st' r l := by
  rcases h with h | ⟨i, rfl, h1, hi, ho⟩
  · exact .inl h
  · exact .inr ⟨i, rfl, h1, Nat.lt_of_lt_of_le hi he.n, by rw [he.ob i hi (hn i rfl)]; exact ho⟩
theorem Fb.ex {n0 : Nat} {st st' : St} {r : Option Nat} {l : List Int} (h : Fb n0 st r l) (he : Ex st st') : Fb n0 st' r l := h.ext he fun _ _ h => h
theorem fb_push (st : St) (l : List Int) : Fb st.n (st.push (.row true (l.map B8))) (some st.n) l := .inr ⟨st.n, rfl, Nat.le_refl _, Nat.lt_succ_self _, push_ob _ _⟩
theorem Fb.bd {n0 : Nat} {st : St} {r : Option Nat} {l : List Int} (h : Fb n0 st r l) : ∀ i, r = some i → n0 ≤ i ∧ i < st.n := fun i hi => by
  rcases h with ⟨h, _⟩ | ⟨k, h, h1, h2, _⟩
  · rw [h] at hi; cases hi
  · rw [h] at hi; injection hi with hi; omega
theorem all_one8 (ys : List Int) : (ys.map B8).all oneA = true := by induction ys with | nil => rfl | cons y ys ih => exact ih
/-- What is made since is turned: what was there before is not. -/
theorem Ext.ownb {st0 st st' : St} {r : Option Nat} {l : List Int} (h : Ex st0 st) (hf : Fb st0.n st r l) (he : Ext (fun i => r = some i) st st') : Ex st0 st' :=
  h.trans he fun k hk e => by have := hf.bd k e; omega

section
variable {P : Program} {tb : Tb} [TbOk P tb] {st0 : St} {N : Nat} {a : Aa} {st : St} {R : Aa → St → Prop} {m : Md}
variable {dst : Option Nat} {ty : Nat} {pos : String} {aft : Array Edge} {gd : Option (Nat × Bool)}
/-- append of one byte to a row of the call's own. -/
theorem o_appB {s x : Operand} {t : Nat} {e : Nat} {r : Option Nat} {q n : Nat} {l : List Int} {y : Int} (ht : elem1 tb t = some (e, .int .u8, 1)) (hsv : av a s = .sl r 0 n) (hn : n = l.length) (hv : Fb st0.n st r l) (hx : av a x = .sl (some q) 0 1) (hy : cell st (some q) 0 = some (B8 y)) (hbig : l.length + 1 ≤ 1099511627776)
    (hR : ∀ r2 st', Fb st0.n st' r2 (l ++ [y]) → Ext (fun i => r = some i) st st' → R (a.put dst (.v (.sl r2 0 (l ++ [y]).length))) st') : ALeaf P No st0 N ⟨dst, .call ⟨.builtin .append, #[s, x], #[t, t]⟩, ty, pos, aft, gd⟩ .n R a st := by
  subst hn
  refine o_append (l := l.map B8) (ys := [y].map B8) ht (by omega) hsv ?_ ⟨some q, 0, by rw [hx]; rfl, fun j hj => ?_⟩ (all_one8 [y]) (by simpa using hbig) (fun v' st' ho he => ?_)
  · rcases hv with ⟨rfl, rfl⟩ | ⟨i, rfl, h1, h2, h3⟩
    · exact .inl ⟨rfl, rfl⟩
    · exact .inr ⟨i, by rw [List.length_map], h2, fun h => absurd h (by omega), h3⟩
  · have : j = 0 := by simpa using hj
    subst this
    exact hy
  · rw [← List.map_append] at ho
    rcases ho with ⟨rfl, h⟩ | ⟨i, rfl, h1, h2, h3⟩
    · simp at h
    · have := hR (some i) st' (.inr ⟨i, rfl, Nat.le_of_not_lt fun h => h2 h, h1, h3⟩) ⟨he.n, fun i hi hn => he.ob i hi fun ⟨o, n, e⟩ => hn (by injection e)⟩
      rw [List.length_map]; exact this
/-- The string of bytes. -/
def bstr (ns : List Int) : ByteArray := ns.foldl (fun r n => r.push (UInt8.ofNat n.toNat)) ByteArray.empty
theorem pre_cell {w w' : World} (hp : Pre w w') {ad : Addr} {u : Value} (h : w.cell? ad = some u) : w'.cell? ad = some u := by
  have hb : ad.block < w.heap.size := by
    unfold World.cell? at h
    split at h
    · rename_i hh; exact (Array.getElem?_eq_some_iff.1 hh).1
    · cases h
  unfold World.cell? at h ⊢
  rw [hp.blk _ hb]; exact h
theorem vrl_bytes {n : Nat} {μ : Nat → Loc} : ∀ {ns : List Int} {cs : List Value}, VRL n μ (ns.map B8) cs → cs = ns.map (Value.int .u8)
  | [], cs, h => h
  | x :: ns, cs, h => by
    obtain ⟨v, l', rfl, h1, h2⟩ := h
    have h1 : v = .int .u8 x := h1
    rw [h1, vrl_bytes h2]; rfl
/-- Bytes to a string. -/
theorem o_bstr {T : Nat → Prop} {s d : Nat} {x : Operand} {e : Nat} {ns : List Int} {j : TyI} (hs : elem1 tb s = some (e, .int .u8, 1)) (he : ∃ i, look tb e = some i ∧ i.k = .int .u8) (hd : look tb d = some j) (hj : j.k = .str) (hx : Rd st (av a x) (ns.map B8))
    (hR : R (a.put dst (.v (.str (bstr ns)))) st) : ALeaf P T st0 N ⟨dst, .convert s d x, ty, pos, aft, gd⟩ m R a st := by
  refine leaf_q (.v (.str (bstr ns))) (fun μ0 w0 β μ w ca hinv => ?_) hR
  obtain ⟨hu, _⟩ := elem1_ok (P := P) hs
  obtain ⟨i, hi, hik⟩ := he
  have hue := (tyR (P := P) hi).und_of.1 _ hik
  have hud := (tyR (P := P) hd).und_of.2.2.1 hj
  obtain ⟨A, c, cl, hcv, hvl, hcell, hnil⟩ := rd_cells hinv hx (av_vr hinv x)
  have hcl := vrl_bytes hvl
  refine ⟨.string (bstr ns), rfl, fun w' hp => ?_⟩
  have hcv' : (execOp ca.eval ⟨dst, .convert s d x, ty, pos, aft, gd⟩).run P w' = ((Conv.bytesToString (.slice A (ns.map B8).length c)).run P w').andThen fun v w' => .ok (.value v) w' := by
    simp [execOp, hcv, run_convert_bytes_string w' s d e A _ c hu hue hud]
  rw [hcv', List.length_map]
  cases A with
  | none =>
    have h0 := hnil rfl
    rw [hcl] at h0
    have hns : ns = [] := by simpa using h0
    subst hns
    rfl
  | some ad =>
    have hl := run_loadCells_list (P := P) w' ad (ns.map (Value.int .u8)) (fun j u hu' => by
      rw [← hcl] at hu'
      have h1 := hcell ad rfl j u hu'
      exact pre_cell hp h1)
    rw [List.length_map] at hl
    rw [run_bytesToString w' ad ns.length c ns hl]
    rfl
end
end Go.Proofs.YtmphklmhhcmbnaaW.Ax
