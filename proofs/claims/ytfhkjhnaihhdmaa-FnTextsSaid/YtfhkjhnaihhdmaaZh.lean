/- What is met from some values on: walked. -/
import Derived.Test.YtfhkjhnaihhdmaaZg
namespace Go.Proofs.YtfhkjhnaihhdmaaW.Ax
open Go Go.RowKit Go.Proofs Go.Proofs.Ytfhkjhnaihhdmaa.Pure
set_option linter.unusedVariables false
set_option maxRecDepth 100000

/-! ### the order in which blocks are met -/
/-- A value that leads to a block, if it leads anywhere. -/
def Vb (l : List Int) (v : Int) : Prop := 4 ≤ v % 8 → v / 8 ∈ blocks l ∧ kindOf l (v / 8).toNat ≠ 0
def ad (out : List Int) (v : Int) : List Int := if 4 ≤ v % 8 ∧ v / 8 ∉ out then out ++ [v / 8] else out
def words (l : List Int) (xs : List Int) : List Int := xs.map fun x => rd l x
def bfs (l : List Int) : Nat → Nat → List Int → List Int
  | 0, _, out => out
  | f + 1, k, out => if k < out.length then bfs l f (k + 1) ((words l (slotsL l (rd out k))).foldl ad out) else out
def ordL (l rs : List Int) : List Int := bfs l 2001 0 (rs.foldl ad [])
theorem kat_vb {l : List Int} {v b : Int} (hb : 0 < b) (h : kat l (v / 8) = b) : v / 8 ∈ blocks l ∧ kindOf l (v / 8).toNat ≠ 0 := by
  have h1 := (kat_of (by omega)).1 h
  exact ⟨h1.1, by omega⟩
theorem Rf.vb {l : List Int} {v k b : Int} (h : Rf l v k b) (hb : 0 < b) : Vb l v := fun _ => kat_vb hb h.2
theorem Leads.vb {l : List Int} {v i : Int} (h : Leads l v i) (hi : 0 < i) : Vb l v := fun h4 => by
  have h5 : v % 8 = 4 ∨ v % 8 = 5 ∨ v % 8 = 6 ∨ v % 8 = 7 := by omega
  rcases h5 with e | e | e | e
  · exact kat_vb (by omega) (h.2.1 e)
  · exact kat_vb (by omega) (h.2.2.1 e)
  · exact kat_vb (by omega) (h.2.2.2.1 e)
  · exact kat_vb hi (h.2.2.2.2 e)
theorem Plain.vb {l : List Int} {v : Int} (h : Plain l v) : Vb l v := fun h4 => by
  have h5 : v % 8 = 4 ∨ v % 8 = 5 ∨ v % 8 = 6 := by have := h.1; omega
  rcases h5 with e | e | e
  · exact kat_vb (by omega) (h.2.2.1 e)
  · exact kat_vb (by omega) (h.2.2.2.1 e)
  · exact kat_vb (by omega) (h.2.2.2.2.1 e)
theorem Nxt.vb {l : List Int} {v b : Int} (h : Nxt l v b) (hb : 0 < b) : Vb l v := h.elim (fun e h4 => by rw [e] at h4; omega) (fun h => h.vb hb)
theorem upN_at {k : Int} {n : Nat} {x : Int} (h : x ∈ upN k n) : ∃ i : Nat, i < n ∧ x = k + i := by
  have := upN_mem h
  exact ⟨(x - k).toNat, by omega, by omega⟩
theorem slot_vb {l : List Int} {a x : Int} (hs : Shp l a) (ha : a ∈ blocks l) (hx : x ∈ slotsL l a) : Vb l (rd l x) := by
  have hb := block_at ha
  have hz := size_pos hb.2.2.1
  unfold Shp at hs
  unfold slotsL at hx
  obtain ⟨i, hi, rfl⟩ := upN_at hx
  unfold manyS at hi
  unfold fromS
  split at hi
  · rename_i h2
    rw [if_neg (by omega)]
    have h := hs.2.1 h2
    have : i = 0 ∨ i = 1 := by omega
    rcases this with rfl | rfl
    · rw [show a + 1 + ((0 : Nat) : Int) = a + 1 by omega]
      exact h.1.2.elim (fun e h4 => by rw [e] at h4; omega) (fun h => h.vb (by omega))
    · rw [show a + 1 + ((1 : Nat) : Int) = a + 2 by omega]
      exact h.2.vb (by omega)
  · split at hi
    · rename_i h3
      rw [if_neg (by omega)]
      have h := hs.2.2.1 h3
      have : i = 0 ∨ i = 1 ∨ i = 2 := by omega
      rcases this with rfl | rfl | rfl
      · rw [show a + 1 + ((0 : Nat) : Int) = a + 1 by omega]
        exact h.1.1.2.vb (by omega)
      · rw [show a + 1 + ((1 : Nat) : Int) = a + 2 by omega]
        exact h.1.2.vb
      · rw [show a + 1 + ((2 : Nat) : Int) = a + 3 by omega]
        exact h.2.vb (by omega)
    · split at hi
      · rename_i h4
        rw [if_pos h4]
        have h := hs.2.2.2.1 h4
        have : i = 0 := by omega
        subst this
        rw [show a + 2 + ((0 : Nat) : Int) = a + 2 by omega]
        exact h.2.vb (by omega)
      · split at hi
        · rename_i h5
          rw [if_neg (by omega)]
          have h := hs.2.2.2.2 h5
          by_cases h0 : i = 0
          · subst h0
            rw [show a + 1 + ((0 : Nat) : Int) = a + 1 by omega]
            exact h.1.vb (by omega)
          · rw [show a + 1 + (i : Int) = a + (i + 1) by omega]
            exact (h.2 (i + 1) (by omega) (by omega)).vb
        · omega
/-- Blocks that are met, none twice. -/
def Ord (l out : List Int) : Prop := out.Nodup ∧ ∀ a ∈ out, a ∈ blocks l ∧ kindOf l a.toNat ≠ 0
theorem Ord.len {l out : List Int} (h : Ord l out) : out.length ≤ 2000 := Nat.le_trans (nodup_len out (blocks l) h.1 fun x hx => (h.2 x hx).1) (blocks_lel l)
theorem ord_nil (l : List Int) : Ord l [] := ⟨List.nodup_nil, fun a h => by simp at h⟩
theorem Ord.ad {l out : List Int} (h : Ord l out) {v : Int} (hv : Vb l v) : Ord l (ad out v) := by
  unfold Ax.ad
  split
  · rename_i h1
    refine ⟨?_, fun a ha => ?_⟩
    · rw [List.nodup_append]
      refine ⟨h.1, by simp, fun x hx y hy e => ?_⟩
      obtain rfl : y = v / 8 := by simpa using hy
      exact h1.2 (e ▸ hx)
    · rcases List.mem_append.1 ha with ha | ha
      · exact h.2 a ha
      · rw [List.mem_singleton.1 ha]; exact hv h1.1
  · exact h
theorem Ord.all {l : List Int} {vs out : List Int} (h : Ord l out) (hv : ∀ v ∈ vs, Vb l v) : Ord l (vs.foldl Ax.ad out) := by
  induction vs generalizing out with
  | nil => exact h
  | cons v vs ih => exact ih (h.ad (hv v List.mem_cons_self)) fun w hw => hv w (List.mem_cons_of_mem _ hw)
theorem ad_pre (out : List Int) (v : Int) : ∃ r, ad out v = out ++ r := by
  unfold ad
  split
  · exact ⟨_, rfl⟩
  · exact ⟨[], by simp⟩
theorem ads_pre : ∀ (vs out : List Int), ∃ r, vs.foldl ad out = out ++ r
  | [], out => ⟨[], by simp⟩
  | v :: vs, out => by
    obtain ⟨r1, h1⟩ := ad_pre out v
    obtain ⟨r2, h2⟩ := ads_pre vs (ad out v)
    exact ⟨r1 ++ r2, by rw [List.foldl_cons, h2, h1]; simp⟩
theorem rts_vb {l rs : List Int} (h : Rts l rs) : ∀ v ∈ rs, Vb l v := fun v hv => (h.2 v hv).vb (by omega)
theorem slots_vb {l : List Int} (hp : Heap l) {a : Int} (ha : a ∈ blocks l) : ∀ v ∈ words l (slotsL l a), Vb l v := fun v hv => by
  obtain ⟨x, hx, rfl⟩ := List.mem_map.1 hv
  exact slot_vb (hp.2 a ha) ha hx
theorem foldl_rd (vs out : List Int) (i : Nat) (h : i < vs.length) : (vs.take (i + 1)).foldl ad out = ad ((vs.take i).foldl ad out) (rd vs i) := by
  have e : vs.take (i + 1) = vs.take i ++ [rd vs i] := by
    rw [List.take_succ_eq_append_getElem h]
    simp [rd, List.getD, h]
  rw [e, List.foldl_append]; rfl
theorem bfs_end (l : List Int) (f k : Nat) (out : List Int) (h : out.length ≤ k) : bfs l f k out = out := by
  cases f with
  | zero => rfl
  | succ f => unfold bfs; rw [if_neg (by omega)]
theorem ord_ok {l rs : List Int} (h : Rts l rs) : Ord l (ordL l rs) := by
  have key : ∀ f k out, Ord l out → Ord l (bfs l f k out) := by
    intro f
    induction f with
    | zero => intro k out ho; exact ho
    | succ f ih =>
      intro k out ho
      unfold bfs
      split
      · rename_i hk
        exact ih _ _ (ho.all (slots_vb h.1 (ho.2 _ (mem_rd hk)).1))
      · exact ho
  exact key _ _ _ ((ord_nil l).all (rts_vb h))
/-- A walk through the blocks that are met: k of them are done, the words of the next one up to j. -/
structure Bf (l : List Int) (O : List Int) (f k : Nat) (out : List Int) : Prop where
  ord : Ord l out
  run : bfs l f k out = O
  f : f + k = 2001
theorem Bf.fuel {l O : List Int} {f k : Nat} {out : List Int} (h : Bf l O f k out) (hk : k ≤ out.length) : ∃ g, f = g + 1 := by
  have := h.ord.len
  have := h.f
  exact ⟨f - 1, by omega⟩
theorem Bf.next {l O : List Int} (hp : Heap l) {f k : Nat} {out : List Int} (h : Bf l O (f + 1) k out) (hk : k < out.length) : Bf l O f (k + 1) ((words l (slotsL l (rd out k))).foldl Ax.ad out) where
  ord := h.ord.all (slots_vb hp (h.ord.2 _ (mem_rd hk)).1)
  run := by
    have := h.run
    unfold bfs at this
    rwa [if_pos hk] at this
  f := by have := h.f; omega
theorem bf_start {l rs : List Int} (h : Rts l rs) : Bf l (ordL l rs) 2001 0 (rs.foldl Ax.ad []) := ⟨(ord_nil l).all (rts_vb h), rfl, by omega⟩

end Go.Proofs.YtfhkjhnaihhdmaaW.Ax
