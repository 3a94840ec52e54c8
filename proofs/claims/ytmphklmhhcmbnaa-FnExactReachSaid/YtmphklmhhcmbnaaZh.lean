/- What is met from some values on: walked. -/
import Derived.Test.YtmphklmhhcmbnaaZg
namespace Go.Proofs.YtmphklmhhcmbnaaW.Ax
open Go Go.RowKit Go.Proofs Go.Proofs.Ytmphklmhhcmbnaa.Pure
set_option linter.unusedVariables false
set_option maxRecDepth 100000

/-! ### the order in which blocks are met -/
/-- A value that leads to a block, if it leads anywhere. -/
def Vb (l : List Int) (v : Int) : Prop := 4 ≤ v % 8 → v / 8 ∈ blocks l ∧ kindOf l (v / 8).toNat ≠ 0
def ad (out : List Int) (v : Int) : List Int := if 4 ≤ v % 8 ∧ v / 8 ∉ out then out ++ [v / 8] else out
def words (l : List Int) (xs : List Int) : List Int := xs.map fun x => rd l x
def bfs (l : List Int) : Nat → Nat → List Int → List Int
  | 0, _, out => out
  | f + 1, k, out => if k < out.length then bfs l f (k + 1) ((words l (slotsL l (rd out k))).foldl ad out) else out
def ordL (l rs : List Int) : List Int := bfs l 2001 0 (rs.foldl ad [])
theorem kat_vb {l : List Int} {v b : Int} (hb : 0 < b) (h : kat l (v / 8) = b) : v / 8 ∈ blocks l ∧ kindOf l (v / 8).toNat ≠ 0 := by
  have h1 := (kat_of (by omega)).1 h
  exact ⟨h1.1, by omega⟩
theorem Rf.vb {l : List Int} {v k b : Int} (h : Rf l v k b) (hb : 0 < b) : Vb l v := fun _ => kat_vb hb h.2
theorem Leads.vb {l : List Int} {v i : Int} (h : Leads l v i) (hi : 0 < i) : Vb l v := fun h4 => by
  have h5 : v % 8 = 4 ∨ v % 8 = 5 ∨ v % 8 = 6 ∨ v % 8 = 7 := by omega
  rcases h5 with e | e | e | e
  · exact kat_vb (by omega) (h.2.1 e)
  · exact kat_vb (by omega) (h.2.2.1 e)
  · exact kat_vb (by omega) (h.2.2.2.1 e)
  · exact kat_vb hi (h.2.2.2.2 e)
theorem Plain.vb {l : List Int} {v : Int} (h : Plain l v) : Vb l v := fun h4 => by
  have h5 : v % 8 = 4 ∨ v % 8 = 5 ∨ v % 8 = 6 := by have := h.1; omega
  rcases h5 with e | e | e
  · exact kat_vb (by omega) (h.2.2.1 e)
  · exact kat_vb (by omega) (h.2.2.2.1 e)
  · exact kat_vb (by omega) (h.2.2.2.2.1 e)
theorem Nxt.vb {l : List Int} {v b : Int} (h : Nxt l v b) (hb : 0 < b) : Vb l v := h.elim (fun e h4 => by rw [e] at h4; omega) (fun h => h.vb hb)
theorem upN_at {k : Int} {n : Nat} {x : Int} (h : x ∈ upN k n) : ∃ i : Nat, i < n ∧ x = k + i := by
  have := upN_mem h
  exact ⟨(x - k).toNat, by omega, by omega⟩
theorem slot_vb {l : List Int} {a x : Int} (hs : Shp l a) (ha : a ∈ blocks l) (hx : x ∈ slotsL l a) : Vb l (rd l x) := by
  have hb := block_at ha
  have hz := size_pos hb.2.2.1
  unfold Shp at hs
  unfold slotsL at hx
  obtain ⟨i, hi, rfl⟩ := upN_at hx
  unfold manyS at hi
  unfold fromS
  split at hi
  · rename_i h2
    rw [if_neg (by omega)]
    have h := hs.2.1 h2
    have : i = 0 ∨ i = 1 := by omega
    rcases this with rfl | rfl
    · rw [show a + 1 + ((0 : Nat) : Int) = a + 1 by omega]
      exact h.1.2.elim (fun e h4 => by rw [e] at h4; omega) (fun h => h.vb (by omega))
    · rw [show a + 1 + ((1 : Nat) : Int) = a + 2 by omega]
      exact h.2.vb (by omega)
  · split at hi
    · rename_i h3
      rw [if_neg (by omega)]
      have h := hs.2.2.1 h3
      have : i = 0 ∨ i = 1 ∨ i = 2 := by omega
      rcases this with rfl | rfl | rfl
      · rw [show a + 1 + ((0 : Nat) : Int) = a + 1 by omega]
        exact h.1.1.2.vb (by omega)
      · rw [show a + 1 + ((1 : Nat) : Int) = a + 2 by omega]
        exact h.1.2.vb
      · rw [show a + 1 + ((2 : Nat) : Int) = a + 3 by omega]
        exact h.2.vb (by omega)
    · split at hi
      · rename_i h4
        rw [if_pos h4]
        have h := hs.2.2.2.1 h4
        have : i = 0 := by omega
        subst this
        rw [show a + 2 + ((0 : Nat) : Int) = a + 2 by omega]
        exact h.2.vb (by omega)
      · split at hi
        · rename_i h5
          rw [if_neg (by omega)]
          have h := hs.2.2.2.2 h5
          by_cases h0 : i = 0
          · subst h0
            rw [show a + 1 + ((0 : Nat) : Int) = a + 1 by omega]
            exact h.1.vb (by omega)
          · rw [show a + 1 + (i : Int) = a + (i + 1) by omega]
            exact (h.2 (i + 1) (by omega) (by omega)).vb
        · omega
/-- Blocks that are met, none twice. -/
def Ord (l out : List Int) : Prop := out.Nodup ∧ ∀ a ∈ out, a ∈ blocks l ∧ kindOf l a.toNat ≠ 0
theorem Ord.len {l out : List Int} (h : Ord l out) : out.length ≤ 2000 := Nat.le_trans (nodup_len out (blocks l) h.1 fun x hx => (h.2 x hx).1) (blocks_lel l)
theorem ord_nil (l : List Int) : Ord l [] := ⟨List.nodup_nil, fun a h => by simp at h⟩
theorem Ord.ad {l out : List Int} (h : Ord l out) {v : Int} (hv : Vb l v) : Ord l (ad out v) := by
  unfold Ax.ad
  split
  · rename_i h1
    refine ⟨?_, fun a ha => ?_⟩
    · rw [List.nodup_append]
      refine ⟨h.1, by simp, fun x hx y hy e => ?_⟩
      obtain rfl : y = v / 8 := by simpa using hy
      exact h1.2 (e ▸ hx)
    · rcases List.mem_append.1 ha with ha | ha
      · exact h.2 a ha
      · rw [List.mem_singleton.1 ha]; exact hv h1.1
  · exact h
theorem Ord.all {l : List Int} {vs out : List Int} (h : Ord l out) (hv : ∀ v ∈ vs, Vb l v) : Ord l (vs.foldl Ax.ad out) := by
  induction vs generalizing out with
  | nil => exact h
  | cons v vs ih => exact ih (h.ad (hv v List.mem_cons_self)) fun w hw => hv w (List.mem_cons_of_mem _ hw)
theorem ad_pre (out : List Int) (v : Int) : ∃ r, ad out v = out ++ r := by
  unfold ad
  split
  · exact ⟨_, rfl⟩
  · exact ⟨[], by simp⟩
theorem ads_pre : ∀ (vs out : List Int), ∃ r, vs.foldl ad out = out ++ r
  | [], out => ⟨[], by simp⟩
  | v :: vs, out => by
    obtain ⟨r1, h1⟩ := ad_pre out v
    obtain ⟨r2, h2⟩ := ads_pre vs (ad out v)
    exact ⟨r1 ++ r2, by rw [List.foldl_cons, h2, h1]; simp⟩
theorem rts_vb {l rs : List Int} (h : Rts l rs) : ∀ v ∈ rs, Vb l v := fun v hv => (h.2 v hv).vb (by omega)
theorem slots_vb {l : List Int} (hp : Heap l) {a : Int} (ha : a ∈ blocks l) : ∀ v ∈ words l (slotsL l a), Vb l v := fun v hv => by
  obtain ⟨x, hx, rfl⟩ := List.mem_map.1 hv
  exact slot_vb (hp.2 a ha) ha hx
theorem foldl_rd (vs out : List Int) (i : Nat) (h : i < vs.length) : (vs.take (i + 1)).foldl ad out = ad ((vs.take i).foldl ad out) (rd vs i) := by
  have e : vs.take (i + 1) = vs.take i ++ [rd vs i] := by
    rw [List.take_succ_eq_append_getElem h]
    simp [rd, List.getD, h]
  rw [e, List.foldl_append]; rfl
theorem bfs_end (l : List Int) (f k : Nat) (out : List Int) (h : out.length ≤ k) : bfs l f k out = out := by
  cases f with
  | zero => rfl
  | succ f => unfold bfs; rw [if_neg (by omega)]
theorem ord_ok {l rs : List Int} (h : Rts l rs) : Ord l (ordL l rs) := by
  have key : ∀ f k out, Ord l out → Ord l (bfs l f k out) := by
    intro f
    induction f with
    | zero => intro k out ho; exact ho
    | succ f ih =>
      intro k out ho
      unfold bfs
      split
      · rename_i hk
        exact ih _ _ (ho.all (slots_vb h.1 (ho.2 _ (mem_rd hk)).1))
      · exact ho
  exact key _ _ _ ((ord_nil l).all (rts_vb h))
/-- A walk through the blocks that are met: k of them are done, the words of the next one up to j. -/
structure Bf (l : List Int) (O : List Int) (f k : Nat) (out : List Int) : Prop where
  ord : Ord l out
  run : bfs l f k out = O
  f : f + k = 2001
theorem Bf.fuel {l O : List Int} {f k : Nat} {out : List Int} (h : Bf l O f k out) (hk : k ≤ out.length) : ∃ g, f = g + 1 := by
  have := h.ord.len
  have := h.f
  exact ⟨f - 1, by omega⟩
theorem Bf.next {l O : List Int} (hp : Heap l) {f k : Nat} {out : List Int} (h : Bf l O (f + 1) k out) (hk : k < out.length) : Bf l O f (k + 1) ((words l (slotsL l (rd out k))).foldl Ax.ad out) where
  ord := h.ord.all (slots_vb hp (h.ord.2 _ (mem_rd hk)).1)
  run := by
    have := h.run
    unfold bfs at this
    rwa [if_pos hk] at this
  f := by have := h.f; omega
theorem bf_start {l rs : List Int} (h : Rts l rs) : Bf l (ordL l rs) 2001 0 (rs.foldl Ax.ad []) := ⟨(ord_nil l).all (rts_vb h), rfl, by omega⟩

theorem l7Order_c (r rr : Option Nat) (o or : Nat) (l rs : List Int) (st : St) (hx : At st r o l) (hy : At st rr or rs) (h : Rts l rs) (hlr : rs.length ≤ 1048576) : ACalls Try.prog 47 [.agg [.sl r o l.length], .sl rr or rs.length] st No (Ro st (ordL l rs)) := by
  have hp := h.1
  have hlen := okB_len hp.1
  have vb0 : ∀ v, Vb l v → ((0 ≤ blk v) ↔ 4 ≤ v % 8) ∧ (4 ≤ v % 8 → blk v = v / 8) := fun v hv => by
    unfold blk
    by_cases h4 : v % 8 < 4
    · rw [if_pos h4]; exact ⟨⟨fun h => by omega, fun h => by omega⟩, fun h => by omega⟩
    · rw [if_neg h4]
      have := (block_at (hv (by omega)).1).1
      exact ⟨⟨fun _ => by omega, fun _ => this⟩, fun _ => rfl⟩
  refine ent (N := 76) Try.func47 rfl (by decide) rfl rfl rfl ?_
  refine crr (by kernel_rfl) rfl ?_   -- region 0
  refine c_rs (by kernel_rfl) ?_   -- region 1
  refine s_op rfl (oints [] loud_n rfl (by decide) rfl rfl rfl fun q st1 hq e1 => ?_)
  refine sra rfl ?_
  refine c_seq ?_
  refine crr (by kernel_rfl) rfl ?_   -- region 2
  refine c_block ?_
  refine c_lp (α := Nat × Nat) (fun i => [(1, .sl rr or rs.length), (5, .sl (some i.2) 0 ((rs.take i.1).foldl ad []).length), (6, I i.1)]) (fun _ => [(2, 2, [.sl r o l.length])])
    (fun i st' => i.1 ≤ rs.length ∧ Ex st st' ∧ Fr st.n st' (some i.2) ((rs.take i.1).foldl ad [])) (fun i => rs.length - i.1) (0, q) ⟨rfl, rfl, rfl, trivial⟩ ⟨rfl, rfl, trivial⟩ ⟨Nat.zero_le _, e1, hq⟩ ?_
  rintro ⟨i, q⟩ st2 ⟨hi, he, hf⟩
  dsimp only at *
  have hol : ((rs.take i).foldl ad []).length ≤ 2000 := ((ord_nil l).all fun v hv => rts_vb h v (List.mem_of_mem_take hv)).len
  refine c_seq ?_
  refine crr (by kernel_rfl) rfl ?_   -- region 3
  refine c_if rfl (fun h16 => ?_) (fun h16 => ?_)
  · have h16 := of_decide_eq_true h16
    have hvb := rts_vb h _ (mem_rd (show i < rs.length by omega))
    obtain ⟨hb1, hb2⟩ := vb0 _ hvb
    refine c_skip ?_
    refine c_sj (α := Nat) (fun q' => [(1, .sl rr or rs.length), (5, .sl (some q') 0 (ad ((rs.take i).foldl ad []) (rd rs i)).length), (6, I i)]) (fun _ => [(2, 2, [.sl r o l.length])])
      (fun q' st' => Ex st st' ∧ Fr st.n st' (some q') (ad ((rs.take i).foldl ad []) (rd rs i))) ?_ ?_
    · refine c_block ?_
      refine c_rs (by kernel_rfl) ?_   -- region 5
      refine sr 2 rfl ?_
      refine s_op rfl (oidx rfl rfl rfl (by omega) (by omega) ?_)
      refine s_op rfl (old rfl rfl ((hy.ex he).rd (by omega) (by omega)) ?_)
      refine s_op rfl (o_pure loud_n rfl (l7Block_c ..) ?_)
      refine sra rfl ?_
      refine c_sj (α := Bool) (fun b => [(1, .sl rr or rs.length), (5, .sl (some q) 0 ((rs.take i).foldl ad []).length), (6, I i), (7, I (blk (rd rs i))), (31, .bool b)]) (fun _ => [(2, 2, [.sl r o l.length])]) (fun b st' => st2 = st' ∧ (b = true ↔ 4 ≤ rd rs i % 8 ∧ rd rs i / 8 ∉ (rs.take i).foldl ad [])) ?_ ?_
      · refine c_region (by kernel_rfl) ?_   -- region 6
        refine sr 3 rfl ?_
        refine s_bool 26 rfl rfl (fun h26 => ?_) (fun h26 => ?_)
        · have h26 := hb1.1 (of_decide_eq_true h26)
          refine sr 2 rfl ?_
          refine s_op rfl (o_pure loud_n rfl (l7In_c _ _ _ _ _ hf.at_ (by omega)) ?_)
          refine sra rfl ⟨_, ⟨rfl, rfl, rfl, rfl, rfl, trivial⟩, ⟨rfl, rfl, trivial⟩, rfl, ?_⟩
          rw [hb2 h26]
          exact ⟨fun h => ⟨h26, nbt h⟩, fun h => (by rw [bdf.2 h.2]; rfl)⟩
        · have h26 : ¬ 4 ≤ rd rs i % 8 := fun h => of_decide_eq_false h26 (hb1.2 h)
          refine sra rfl ⟨false, ⟨rfl, rfl, rfl, rfl, rfl, trivial⟩, ⟨rfl, rfl, trivial⟩, rfl, ⟨fun h => (by cases h), fun h => absurd h.1 h26⟩⟩
      rintro b st3 ⟨rfl, hb⟩
      refine c_if rfl (fun h31 => ?_) (fun h31 => ?_)
      · have h31 := hb.1 h31
        have ea : ad ((rs.take i).foldl ad []) (rd rs i) = (rs.take i).foldl ad [] ++ [rd rs i / 8] := by rw [ad, if_pos h31]
        rw [hb2 h31.1]
        refine c_region (by kernel_rfl) ?_   -- region 7
        refine sr 2 rfl ?_
        refine s_op rfl (oone loud_n rfl rfl ?_)
        refine s_op rfl (oappF rfl rfl rfl (hf.ex (ex_push _ _)) rfl (at_row (Nat.lt_succ_self _) (push_ob _ _)) (by simp; omega) fun q2 st3 hf3 he2 => ?_)
        have he3 : Ex st st3 := (he.tr (ex_push _ _)).own (hf.ex (ex_push _ _)) he2
        rw [← ea] at hf3 ⊢
        obtain ⟨q3, rfl⟩ := hf3.some_of (fun e => by rw [ea] at e; simp at e)
        exact sra rfl ⟨q3, ⟨rfl, rfl, rfl, trivial⟩, ⟨rfl, rfl, trivial⟩, he3, hf3⟩
      · have h31 : ¬ (4 ≤ rd rs i % 8 ∧ rd rs i / 8 ∉ (rs.take i).foldl ad []) := fun h => by rw [hb.2 h] at h31; cases h31
        have ea : ad ((rs.take i).foldl ad []) (rd rs i) = (rs.take i).foldl ad [] := by rw [ad, if_neg h31]
        rw [ea]
        exact c_skip ⟨q, ⟨rfl, rfl, rfl, trivial⟩, ⟨rfl, rfl, trivial⟩, he, hf⟩
    rintro q' st3 ⟨he3, hf3⟩
    refine c_region (by kernel_rfl) ?_   -- region 4
    refine sr 1 rfl ?_
    refine s_op rfl (o_ar rfl rfl rfl (by omega) (by omega) ?_)
    rw [← foldl_rd _ _ _ (by omega)] at hf3 ⊢
    exact sra rfl ⟨(i + 1, q'), ⟨rfl, rfl, rfl, trivial⟩, ⟨rfl, rfl, trivial⟩, ⟨by dsimp only; omega, he3, hf3⟩, by dsimp only; omega⟩
  · have h16 := of_decide_eq_false h16
    have hie : rs.take i = rs := List.take_of_length_le (by omega)
    rw [hie] at hf ⊢
    refine c_exit ?_
    refine c_seq ?_
    refine crr (by kernel_rfl) rfl ?_   -- region 8
    refine c_block ?_
    refine c_lp (α := Nat × Nat × List Int × Nat) (fun i => [(5, .sl (some i.2.1) 0 i.2.2.1.length), (8, I i.1)]) (fun _ => [(2, 2, [.sl r o l.length])])
      (fun i st' => i.1 ≤ i.2.2.1.length ∧ Ex st st' ∧ Fr st.n st' (some i.2.1) i.2.2.1 ∧ Bf l (ordL l rs) i.2.2.2 i.1 i.2.2.1) (fun i => i.2.2.2) (0, q, rs.foldl ad [], 2001) ⟨rfl, rfl, trivial⟩ ⟨rfl, rfl, trivial⟩ ⟨Nat.zero_le _, he, hf, bf_start h⟩ ?_
    rintro ⟨k, q, out, f⟩ st3 ⟨hk, he, hf, hbf⟩
    dsimp only at *
    obtain ⟨f, rfl⟩ := hbf.fuel hk
    have hol := hbf.ord.len
    refine c_seq ?_
    refine crr (by kernel_rfl) rfl ?_   -- region 9
    refine c_if rfl (fun h39 => ?_) (fun h39 => ?_)
    · have h39 := of_decide_eq_true h39
      have hka := (hbf.ord.2 _ (mem_rd (show k < out.length by omega))).1
      have hsl := slots_len hka
      have hwl : (words l (slotsL l (rd out k))).length = (slotsL l (rd out k)).length := List.length_map _
      have hsv := slots_vb hp hka
      refine c_skip ?_
      refine c_seq ?_
      refine c_block ?_
      refine cds [0, 1, 2, 3, 4, 5, 6] [.q, .q, .q, .q, .q, .f, .q] (by kernel_rfl) (by kernel_rfl) ?_   -- region 11
      refine sr 3 rfl ?_
      refine s_op rfl (oidx rfl rfl rfl (by omega) (by omega) ?_)
      refine s_op rfl (old rfl rfl (hf.at_.rd (by omega) (by omega)) ?_)
      refine s_op rfl (o_ex loud_f rfl (l3Slots_c _ _ _ _ _ (hx.ex he) hka) ?_)
      rintro v4 st4 ⟨p, rfl, hps⟩ e4
      have he4 := he.tr e4
      have hf4 := hf.ex e4
      refine sra rfl ?_
      refine crr (by kernel_rfl) rfl ?_   -- region 12
      refine c_block ?_
      refine c_lp (α := Nat × Nat) (fun i => [(5, .sl (some i.2) 0 (((words l (slotsL l (rd out k))).take i.1).foldl ad out).length), (8, I k), (9, .sl (some p) 0 (slotsL l (rd out k)).length), (10, I i.1)]) (fun _ => [(2, 2, [.sl r o l.length])])
        (fun i st' => i.1 ≤ (slotsL l (rd out k)).length ∧ Ex st st' ∧ Fr st.n st' (some i.2) (((words l (slotsL l (rd out k))).take i.1).foldl ad out) ∧ At st' (some p) 0 (slotsL l (rd out k)) ∧ p < st'.n ∧ i.2 ≠ p) (fun i => (slotsL l (rd out k)).length - i.1) (0, q) ⟨rfl, rfl, rfl, rfl, trivial⟩ ⟨rfl, rfl, trivial⟩
        ⟨Nat.zero_le _, he4, hf4, hps.at_, (hps.bd p rfl).2, fun e => by have := hf.bd q rfl; have := (hps.bd p rfl).1; omega⟩ ?_
      rintro ⟨i, q⟩ st5 ⟨hi, he, hf, hpa, hpn, hqp⟩
      dsimp only at *
      have hol2 : (((words l (slotsL l (rd out k))).take i).foldl ad out).length ≤ 2000 := (hbf.ord.all fun v hv => hsv v (List.mem_of_mem_take hv)).len
      refine c_seq ?_
      refine crr (by kernel_rfl) rfl ?_   -- region 13
      refine c_if rfl (fun h51 => ?_) (fun h51 => ?_)
      · have h51 := of_decide_eq_true h51
        have hxm : rd (slotsL l (rd out k)) i ∈ slotsL l (rd out k) := mem_rd (by omega)
        have hin := slots_in hka hxm
        have hkb := block_at hka
        have hwr : rd (words l (slotsL l (rd out k))) i = rd l (rd (slotsL l (rd out k)) i) := by
          have : i < (slotsL l (rd out k)).length := by omega
          generalize slotsL l (rd out k) = sl at this
          simp [words, rd, List.getD, this]
        have hvb := hsv _ (mem_rd (show i < (words l (slotsL l (rd out k))).length by omega))
        obtain ⟨hb1, hb2⟩ := vb0 _ hvb
        refine c_skip ?_
        refine c_sj (α := Nat) (fun q' => [(5, .sl (some q') 0 (ad (((words l (slotsL l (rd out k))).take i).foldl ad out) (rd (words l (slotsL l (rd out k))) i)).length), (8, I k), (9, .sl (some p) 0 (slotsL l (rd out k)).length), (10, I i)]) (fun _ => [(2, 2, [.sl r o l.length])])
          (fun q' st' => Ex st st' ∧ Fr st.n st' (some q') (ad (((words l (slotsL l (rd out k))).take i).foldl ad out) (rd (words l (slotsL l (rd out k))) i)) ∧ At st' (some p) 0 (slotsL l (rd out k)) ∧ p < st'.n ∧ q' ≠ p) ?_ ?_
        · refine c_block ?_
          refine cds [0, 1, 2, 3, 4, 5, 6, 7, 8, 9] [.q, .q, .q, .q, .q, .q, .q, .q, .f, .q] (by kernel_rfl) (by kernel_rfl) ?_   -- region 15
          refine sr 4 rfl ?_
          refine s_op rfl (oidx rfl rfl rfl (by omega) (by omega) ?_)
          refine s_op rfl (old rfl rfl (hpa.rd (by omega) (by omega)) ?_)
          refine s_op rfl (oidx rfl rfl rfl (by omega) (by omega) ?_)
          refine s_op rfl (old rfl rfl ((hx.ex he).rd (by omega) (by omega)) ?_)
          refine s_op rfl (o_pure loud_f rfl (l7Block_c ..) ?_)
          rw [← hwr]
          refine sra rfl ?_
          refine c_sj (α := Bool) (fun b => [(5, .sl (some q) 0 (((words l (slotsL l (rd out k))).take i).foldl ad out).length), (8, I k), (9, .sl (some p) 0 (slotsL l (rd out k)).length), (10, I i), (11, I (blk (rd (words l (slotsL l (rd out k))) i))), (70, .bool b)]) (fun _ => [(2, 2, [.sl r o l.length])]) (fun b st' => st5 = st' ∧ (b = true ↔ 4 ≤ rd (words l (slotsL l (rd out k))) i % 8 ∧ rd (words l (slotsL l (rd out k))) i / 8 ∉ ((words l (slotsL l (rd out k))).take i).foldl ad out)) ?_ ?_
          · refine c_region (by kernel_rfl) ?_   -- region 16
            refine sr 3 rfl ?_
            refine s_bool 65 rfl rfl (fun h65 => ?_) (fun h65 => ?_)
            · have h65 := hb1.1 (of_decide_eq_true h65)
              refine sr 2 rfl ?_
              refine s_op rfl (o_pure loud_n rfl (l7In_c _ _ _ _ _ hf.at_ (by omega)) ?_)
              refine sra rfl ⟨_, ⟨rfl, rfl, rfl, rfl, rfl, rfl, trivial⟩, ⟨rfl, rfl, trivial⟩, rfl, ?_⟩
              rw [hb2 h65]
              exact ⟨fun h => ⟨h65, nbt h⟩, fun h => (by rw [bdf.2 h.2]; rfl)⟩
            · have h65 : ¬ 4 ≤ rd (words l (slotsL l (rd out k))) i % 8 := fun h => of_decide_eq_false h65 (hb1.2 h)
              refine sra rfl ⟨false, ⟨rfl, rfl, rfl, rfl, rfl, rfl, trivial⟩, ⟨rfl, rfl, trivial⟩, rfl, ⟨fun h => (by cases h), fun h => absurd h.1 h65⟩⟩
          rintro b st6 ⟨rfl, hb⟩
          refine c_if rfl (fun h70 => ?_) (fun h70 => ?_)
          · have h70 := hb.1 h70
            have ea : ad (((words l (slotsL l (rd out k))).take i).foldl ad out) (rd (words l (slotsL l (rd out k))) i) = ((words l (slotsL l (rd out k))).take i).foldl ad out ++ [rd (words l (slotsL l (rd out k))) i / 8] := by rw [ad, if_pos h70]
            rw [hb2 h70.1]
            refine c_region (by kernel_rfl) ?_   -- region 17
            refine sr 2 rfl ?_
            refine s_op rfl (oone loud_n rfl rfl ?_)
            refine s_op rfl (oappG (Nat.le_trans he.n (Nat.le_succ _)) rfl rfl rfl (hf.ex (ex_push _ _)) rfl (at_row (Nat.lt_succ_self _) (push_ob _ _)) (by simp; omega) fun q2 st7 hf7 hn7 he7 => ?_)
            have he3 : Ex st st7 := (he.tr (ex_push _ _)).own (hf.ex (ex_push _ _)) he7
            have hpa7 := (hpa.ex (ex_push _ _)).ext he7 (fun j hj hq => hqp (by injection hj with hj; injection hq with hq; omega))
            have hpn7 : p < st7.n := Nat.lt_of_lt_of_le (Nat.lt_succ_of_lt hpn) he7.n
            rw [← ea] at hf7 ⊢
            obtain ⟨q3, rfl⟩ := hf7.some_of (fun e => by rw [ea] at e; simp at e)
            exact sra rfl ⟨q3, ⟨rfl, rfl, rfl, rfl, trivial⟩, ⟨rfl, rfl, trivial⟩, he3, hf7, hpa7, hpn7, fun e => by have := hn7 q3 rfl; have : st5.n + 1 ≤ q3 := this; omega⟩
          · have h70 : ¬ (4 ≤ rd (words l (slotsL l (rd out k))) i % 8 ∧ rd (words l (slotsL l (rd out k))) i / 8 ∉ ((words l (slotsL l (rd out k))).take i).foldl ad out) := fun h => by rw [hb.2 h] at h70; cases h70
            have ea : ad (((words l (slotsL l (rd out k))).take i).foldl ad out) (rd (words l (slotsL l (rd out k))) i) = ((words l (slotsL l (rd out k))).take i).foldl ad out := by rw [ad, if_neg h70]
            rw [ea]
            exact c_skip ⟨q, ⟨rfl, rfl, rfl, rfl, trivial⟩, ⟨rfl, rfl, trivial⟩, he, hf, hpa, hpn, hqp⟩
        rintro q' st6 ⟨he6, hf6, hpa6, hpn6, hqp6⟩
        refine c_region (by kernel_rfl) ?_   -- region 14
        refine sr 1 rfl ?_
        refine s_op rfl (o_ar rfl rfl rfl (by omega) (by omega) ?_)
        rw [← foldl_rd _ _ _ (by omega)] at hf6 ⊢
        exact sra rfl ⟨(i + 1, q'), ⟨rfl, rfl, rfl, rfl, trivial⟩, ⟨rfl, rfl, trivial⟩, ⟨by dsimp only; omega, he6, hf6, hpa6, hpn6, hqp6⟩, by dsimp only; omega⟩
      · have h51 := of_decide_eq_false h51
        have hie : (words l (slotsL l (rd out k))).take i = words l (slotsL l (rd out k)) := List.take_of_length_le (by omega)
        rw [hie] at hf ⊢
        have hpre := ads_pre (words l (slotsL l (rd out k))) out
        refine c_exit ?_
        refine c_region (by kernel_rfl) ?_   -- region 10
        refine sr 1 rfl ?_
        refine s_op rfl (o_ar rfl rfl rfl (by omega) (by omega) ?_)
        refine sra rfl ⟨(k + 1, q, (words l (slotsL l (rd out k))).foldl ad out, f), ⟨rfl, rfl, trivial⟩, ⟨rfl, rfl, trivial⟩, ⟨?_, he, hf, hbf.next hp (by omega)⟩, by dsimp only; omega⟩
        obtain ⟨r', hr'⟩ := hpre
        dsimp only
        rw [hr', List.length_append]; omega
    · have h39 := of_decide_eq_false h39
      have e : ordL l rs = out := by rw [← hbf.run]; exact bfs_end _ _ _ _ (by omega)
      refine c_exit ?_
      refine crr (by kernel_rfl) rfl ?_   -- region 18
      exact c_ret (fr rfl ⟨q, by rw [e], by rw [e]; exact hf⟩)
end Go.Proofs.YtmphklmhhcmbnaaW.Ax
