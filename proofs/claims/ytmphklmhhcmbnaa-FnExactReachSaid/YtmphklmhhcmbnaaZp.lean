/- A marker copied, and Shade: walked. -/
import Derived.Test.YtmphklmhhcmbnaaZo
import Derived.Test.YtmphklmhhcmbnaaXC
namespace Go.Proofs.YtmphklmhhcmbnaaW.Ax
open Go Go.RowKit Go.Proofs Go.Proofs.Ytmphklmhhcmbnaa.Pure
set_option linter.unusedVariables false
set_option maxRecDepth 100000

theorem copyMarker_c (p q : Int) (r1 r2 : Option Nat) (g b : List Int) (st : St) (hg : At st r1 0 g) (hb : At st r2 0 b) (hlg : g.length ≤ 1073741824) (hlb : b.length ≤ 1073741824) :
    ACalls Try.prog 72 [.agg [I p, .sl r1 0 g.length, .sl r2 0 b.length, I q]] st No (Mr st p g b q) := by
  refine ent (N := 12) Try.func72 rfl (by decide) rfl rfl rfl ?_
  refine crr (by kernel_rfl) rfl ?_   -- region 0
  refine cdt [0, 1, 3, 4, 2, 6, 5, 7, 8, 9] [.q, .q, .q, .q, .f, .q, .f, .n, .q, .n] (by kernel_rfl) (by kernel_rfl) ?_   -- region 1
  refine sr 4 rfl ?_
  refine s_op rfl (o_ex loud_f rfl (copyInts_c _ _ _ _ hg (by omega)) ?_)
  rintro v1 st1 ⟨q1, rfl, hf1⟩ e1
  refine sr 1 rfl ?_
  refine s_op rfl (o_ex loud_f rfl (copyInts_c _ _ _ _ (hb.ex e1) (by omega)) ?_)
  rintro v2 st2 ⟨q2, rfl, hf2⟩ e2
  refine sra rfl ?_
  refine crr (by kernel_rfl) rfl ?_   -- region 2
  refine c_ret (fr rfl ⟨q1, q2, rfl, hf1.ex e2, hf2.le e1.n, fun i h h' => ?_⟩)
  have := hf1.bd i h
  have := hf2.bd i h'
  omega
/-- What the literals and the first of the copies are. -/
def PhiC (n0 : Nat) (g : List Int) (i : Nat) (v : AV) (st : St) : Prop := match i with
  | 5 => ∃ q1, v = .sl q1 0 g.length ∧ Fr n0 st q1 g
  | _ => v = .sl none 0 0
theorem phiC_ex (n0 : Nat) (g : List Int) : ∀ i v st st', PhiC n0 g i v st → Ex st st' → PhiC n0 g i v st' := fun i v st st' h he => by
  unfold PhiC at *
  split at h
  · obtain ⟨q1, h1, h2⟩ := h
    exact ⟨q1, h1, h2.ex he⟩
  · exact h
theorem l8Copy_c (p q : Int) (r1 r2 : Option Nat) (g b : List Int) (st : St) (hg : At st r1 0 g) (hb : At st r2 0 b) (hlg : g.length ≤ 1073741824) (hlb : b.length ≤ 1073741824) :
    ACalls Try.prog 71 [.agg [I p, .sl r1 0 g.length, .sl r2 0 b.length, I q]] st No (Mr st p g b q) := by
  refine ent (N := 16) Try.func71 rfl (by decide) rfl rfl rfl ?_
  refine crr (by kernel_rfl) rfl ?_   -- region 0
  refine cdM [0, 1, 3, 4, 7, 8, 10, 11] [2, 5, 6] [9, 12, 13] [.f, .q, .n] (fun i => if i = 2 then 5 else if i = 5 then 8 else 9) (PhiC st.n g) (by kernel_rfl) (by kernel_rfl) (phiC_ex st.n g) (by decide) ?_
  refine sr 8 rfl ?_
  refine s_end ⟨rfl, fun i hi op ho a st' hex hdep hsl hbx => ?_, fun a st' hex hphi hsl hbx => ?_⟩
  · have h7 : a.s 7 = .sl r1 0 g.length := (hsl 7 (by decide)).1
    simp only [List.mem_cons, List.not_mem_nil, or_false] at hi
    rcases hi with rfl | rfl | rfl
    · obtain rfl : _ = op := Option.some.inj ho
      exact obsl0 loud_f rfl ⟨_, rfl, rfl, Ext.refl _ _⟩
    · obtain rfl : _ = op := Option.some.inj ho
      have h5 : a.s 5 = .sl none 0 0 := hdep 2 (by decide) ⟨_, by simp; exact .inl rfl, rfl, rfl⟩
      exact oappE loud_f rfl h5 h7 (hg.ex hex) (by omega) fun q1 st2 hf2 he2 => ⟨_, rfl, ⟨q1, rfl, hf2.le hex.n⟩, he2⟩
    · obtain rfl : _ = op := Option.some.inj ho
      exact obsl0 loud_f rfl ⟨_, rfl, rfl, Ext.refl _ _⟩
  · have h4 : a.s 4 = I p := (hsl 4 (by decide)).1
    have h11 : a.s 11 = .sl r2 0 b.length := (hsl 11 (by decide)).1
    have h14 : a.s 14 = I q := (hsl 14 (by decide)).1
    obtain ⟨q1, h8, hf1⟩ := hphi 5 (by decide)
    have h8 : a.s 8 = .sl q1 0 g.length := h8
    have h9 : a.s 9 = .sl none 0 0 := hphi 6 (by decide)
    refine s_mk [(4, I p), (8, .sl q1 0 g.length), (9, .sl none 0 0), (11, .sl r2 0 b.length), (14, I q)] [(2, 2, [I 0, .sl none 0 0, .sl none 0 0, I 0])] rfl (by decide) ⟨h4, h8, h9, h11, h14, trivial⟩ ⟨(hsl 2 (by decide)).2, congrFun hbx 2, trivial⟩ ?_
    refine s_op rfl (oappE loud_f rfl rfl rfl (hb.ex hex) (by omega) fun q2 st2 hf2 he2 => ?_)
    refine sra rfl ?_
    refine c_ret (fr rfl ⟨q1, q2, rfl, hf1.ex he2, hf2.le hex.n, fun i h h' => ?_⟩)
    have := hf1.bd i h
    have := hf2.bd i h'
    omega
theorem ld_leads {l : List Int} {v : Int} : Ld l v ↔ Vok v ∧ 4 ≤ v % 8 ∧ (Leads l v 5 ∨ Leads l v 3) := by
  have up : ∀ {k b : Int}, Rf l v k b → k ≠ 7 → ((k = 4 ∧ b = 1) ∨ (k = 5 ∧ b = 2) ∨ (k = 6 ∧ b = 4) ∨ (k = 7 ∧ 0 ≤ b)) → Leads l v 5 := fun {k b} h h7 hk => by
    have h1 := h.leads hk
    exact ⟨h1.1, h1.2.1, h1.2.2.1, h1.2.2.2.1, fun e => absurd (h.1.symm.trans e) h7⟩
  constructor
  · intro h
    rcases h with h | h | h | h | h
    · exact ⟨(up h (by omega) (by omega)).1, by have := h.1; omega, .inl (up h (by omega) (by omega))⟩
    · exact ⟨(up h (by omega) (by omega)).1, by have := h.1; omega, .inl (up h (by omega) (by omega))⟩
    · exact ⟨(up h (by omega) (by omega)).1, by have := h.1; omega, .inl (up h (by omega) (by omega))⟩
    · have h1 := h.leads (by omega)
      exact ⟨h1.1, by have := h.1; omega, .inr h1⟩
    · have h1 := h.leads (by omega)
      exact ⟨h1.1, by have := h.1; omega, .inl h1⟩
  · rintro ⟨hv, h4, h | h⟩
    · exact ld_vb h h4
    · obtain ⟨_, a4, a5, a6, a7⟩ := h
      rcases (show v % 8 = 4 ∨ v % 8 = 5 ∨ v % 8 = 6 ∨ v % 8 = 7 by omega) with e | e | e | e
      · exact .inl ⟨e, a4 e⟩
      · exact .inr (.inl ⟨e, a5 e⟩)
      · exact .inr (.inr (.inl ⟨e, a6 e⟩))
      · exact .inr (.inr (.inr (.inl ⟨e, a7 e⟩)))
theorem l8Block_c (r : Option Nat) (o : Nat) (l : List Int) (v : Int) (st : St) (hx : At st r o l) (hok : okB l = true) : ACalls Try.prog 70 [.agg [.sl r o l.length], I v] st No (Pure1 (.bool (bd (Ld l v))) st) := by
  refine ent (N := 22) Try.func70 rfl (by decide) rfl rfl rfl ?_
  refine crr (by kernel_rfl) rfl ?_   -- region 0
  refine c_sj (α := Bool) (fun b => [(4, .bool b)]) (fun _ => []) (fun b st' => st = st' ∧ (b = true ↔ Ld l v)) ?_ ?_
  · -- region 1
    refine c_region (by kernel_rfl) ?_
    refine sr 1 rfl ?_
    refine s_op rfl (o_pure loud_n rfl (ValueOk_c ..) ?_)
    refine sr 1 rfl ?_
    refine s_bool 7 rfl rfl (fun h7 => ?_) (fun h7 => ?_)
    · -- slot 7 true
      have h7 := bdt.1 h7
      refine sr 1 rfl ?_
      refine s_op rfl (o_pure loud_n rfl (Kind_c ..) ?_)
      refine sr 3 rfl ?_
      refine s_bool 12 rfl rfl (fun h12 => ?_) (fun h12 => ?_)
      · -- slot 12 true
        have h12 := of_decide_eq_true h12
        refine sr 2 rfl ?_
        refine s_op rfl (o_pure loud_n rfl (l3Leads_c _ _ _ _ _ _ hx hok (by omega)) ?_)
        refine sr 1 rfl ?_
        refine s_bool 16 rfl rfl (fun h16 => ?_) (fun h16 => ?_)
        · -- slot 16 true
          have h16 := bdt.1 h16
          exact sra rfl ⟨true, ⟨rfl, trivial⟩, trivial, rfl, fun _ => ld_leads.2 ⟨h7, h12, .inl h16⟩, fun _ => rfl⟩
        · -- slot 16 false
          have h16 := bdf.1 h16
          refine sr 2 rfl ?_
          refine s_op rfl (o_pure loud_n rfl (l3Leads_c _ _ _ _ _ _ hx hok (by omega)) ?_)
          refine sra rfl ⟨_, ⟨rfl, trivial⟩, trivial, rfl, ?_⟩
          show bd (Leads l v 3) = true ↔ _
          rw [bdt, ld_leads]
          exact ⟨fun h => ⟨h7, h12, .inr h⟩, fun h => h.2.2.resolve_left h16⟩
      · -- slot 12 false
        have h12 := of_decide_eq_false h12
        refine sr 4 rfl ?_
        exact sra rfl ⟨false, ⟨rfl, trivial⟩, trivial, rfl, fun h => (by cases h), fun h => absurd (ld_leads.1 h).2.1 h12⟩
    · -- slot 7 false
      have h7 := bdf.1 h7
      refine sr 5 rfl ?_
      refine s_bool 12 rfl rfl (fun h12 => by cases h12) (fun h12 => ?_)
      refine sr 4 rfl ?_
      exact sra rfl ⟨false, ⟨rfl, trivial⟩, trivial, rfl, fun h => (by cases h), fun h => absurd (ld_leads.1 h).1 h7⟩
  rintro b st1 ⟨rfl, hb⟩
  exact c_ret (fr rfl ⟨abd hb, rfl⟩)
/-- Grey, when a value has been shaded. -/
noncomputable def shG (l : List Int) (p : Int) (g b : List Int) (q v : Int) : List Int := cond (bd (MkOk l p g b q)) (cond (bd (Ld l v)) (shd p g b v) g) g
theorem shG_len (l : List Int) (p : Int) (g b : List Int) (q v : Int) : (shG l p g b q v).length ≤ g.length + 1 := by
  unfold shG
  have := shd_len p g b v
  cases bd (MkOk l p g b q) <;> cases bd (Ld l v) <;> simp <;> omega
theorem Ld.num {l : List Int} {v : Int} (h : Ld l v) : 4 ≤ v % 8 → 0 ≤ v / 8 := fun h4 => ((ld_leads.1 h).1.2.2.2.2 h4).1
theorem Shade_c (p q v : Int) (r rg rb : Option Nat) (o : Nat) (l g b : List Int) (st : St) (hx : At st r o l) (hl : l.length ≤ 1048576) (hg : At st rg 0 g) (hb : At st rb 0 b) (hlg : g.length ≤ 536870912) (hlb : b.length ≤ 536870912) :
    ACalls Try.prog 31 [.agg [.sl r o l.length], .agg [I p, .sl rg 0 g.length, .sl rb 0 b.length, I q], I v] st No (Mr st p (shG l p g b q v) b q) := by
  refine ent (N := 23) Try.func31 rfl (by decide) rfl rfl rfl ?_
  refine crr (by kernel_rfl) rfl ?_   -- region 0
  refine c_seq ?_
  refine c_sj (α := Bool) (fun t => [(2, I v), (16, .bool t)]) (fun _ => [(3, 3, [.sl r o l.length]), (4, 4, [I p, .sl rg 0 g.length, .sl rb 0 b.length, I q]), (6, 6, [I 0, .sl none 0 0, .sl none 0 0, I 0])])
    (fun t st' => Ex st st' ∧ (t = true ↔ ¬ (MkOk l p g b q ∧ Ld l v))) ?_ ?_
  · -- region 1
    refine c_region (by kernel_rfl) ?_
    refine sr 2 rfl ?_
    refine s_op rfl (o_ex loud_n rfl (MarkerOk_c p q r rg rb o l g b _ hx hl hg hb hlg hlb) ?_)
    rintro v1 st1 rfl e1
    refine sr 2 rfl ?_
    refine s_bool 11 rfl rfl (fun h11 => ?_) (fun h11 => ?_)
    · -- slot 11 true
      have h11 := nbt h11
      exact sra rfl ⟨true, ⟨rfl, rfl, trivial⟩, ⟨rfl, rfl, rfl, rfl, rfl, rfl, trivial⟩, e1, fun _ h => h11 h.1, fun _ => rfl⟩
    · -- slot 11 false
      have h11 := nbf h11
      refine sr 2 rfl ?_
      refine s_op rfl (o_pure loud_n rfl (l8Block_c _ _ _ _ _ (hx.ex e1) h11.1) ?_)
      refine sra rfl ⟨_, ⟨rfl, rfl, trivial⟩, ⟨rfl, rfl, rfl, rfl, rfl, rfl, trivial⟩, e1, ?_⟩
      show (!bd (Ld l v)) = true ↔ _
      exact ⟨fun h hh => nbt h hh.2, fun h => (by rw [bdf.2 (fun hc => h ⟨h11, hc⟩)]; rfl)⟩
  rintro t st1 ⟨e1, ht⟩
  refine c_if rfl (fun h16 => ?_) (fun h16 => ?_)
  · -- then
    have h16 := ht.1 h16
    have es : shG l p g b q v = g := by
      unfold shG
      cases hm : bd (MkOk l p g b q) with
      | false => rfl
      | true =>
        rw [bdf.2 (fun h => h16 ⟨bdt.1 hm, h⟩)]; rfl
    rw [es]
    refine c_rs (by kernel_rfl) ?_   -- region 2
    refine sr 1 rfl ?_
    refine s_op rfl (o_ex loud_n rfl (l8Copy_c p q rg rb g b _ (hg.ex e1) (hb.ex e1) (by omega) (by omega)) ?_)
    rintro v2 st2 ⟨q1, q2, rfl, hf1, hf2, hd⟩ e2
    refine sra rfl ?_
    exact c_ret (fr rfl ⟨q1, q2, rfl, hf1.le e1.n, hf2.le e1.n, hd⟩)
  · -- else
    have h16 : MkOk l p g b q ∧ Ld l v := Classical.byContradiction fun hc => by have := ht.2 hc; rw [h16] at this; cases this
    have es : shG l p g b q v = shd p g b v := by
      unfold shG
      rw [bdt.2 h16.1, bdt.2 h16.2]; rfl
    rw [es]
    refine c_skip ?_
    refine c_rs (by kernel_rfl) ?_   -- region 3
    refine sr 1 rfl ?_
    refine s_op rfl (o_ex loud_n rfl (l8Copy_c p q rg rb g b _ (hg.ex e1) (hb.ex e1) (by omega) (by omega)) ?_)
    rintro v2 st2 ⟨q1, q2, rfl, hf1, hf2, hd⟩ e2
    refine sr 1 rfl ?_
    have n1 := e1.n
    have n2 := e2.n
    refine s_op rfl (o_call rfl (l8Shade_c st1.n p q v q1 q2 g b _ n2 hf1 hf2.at_ h16.2.num (by omega) (by omega)) (fun k hk ht => absurd hk (by have := hf1.bd k ht; omega)) (.inl rfl) ?_)
    rintro v3 st3 ⟨q3, rfl, hf3, hq3⟩ e3
    refine sra rfl ?_
    refine c_ret (fr rfl ⟨q3, q2, rfl, hf3.le n1, (hf2.ext e3 (fun i h h' => hd i h' h)).le n1, fun i h h' => ?_⟩)
    rcases hq3 i h with h3 | h3
    · exact hd i h3 h'
    · have := hf2.bd i h'; omega
theorem iShade_c (p q v : Int) (r rg rb : Option Nat) (o : Nat) (l g b : List Int) (st : St) (hx : At st r o l) (hl : l.length ≤ 1048576) (hg : At st rg 0 g) (hb : At st rb 0 b) (hlg : g.length ≤ 536870912) (hlb : b.length ≤ 536870912) (hq : W1 q) :
    ACalls Try.prog 32 [.agg [.sl r o l.length], .agg [I p, .sl rg 0 g.length, .sl rb 0 b.length, I q], I v] st No (Mr st p (shG l p g b q v) b q) := by
  refine ent (N := 18) Try.func32 rfl (by decide) rfl rfl rfl ?_
  refine crr (by kernel_rfl) rfl ?_   -- region 0
  refine c_rs (by kernel_rfl) ?_   -- region 1
  refine sr 1 rfl ?_
  refine s_op rfl (o_ex loud_n rfl (copyMarker_c p q rg rb g b _ hg hb (by omega) (by omega)) ?_)
  rintro v1 st1 ⟨q1, q2, rfl, hf1, hf2, hd⟩ e1
  have n1 := e1.n
  refine s_op rfl (oallocP loud_n rfl fun bb st2 hbe n2 ob2 e2 => ?_)
  refine s_op rfl (ostP rfl rfl (by omega) (fun h => absurd h (by omega)) ob2 rfl rfl rfl (by simp) fun st3 n3 ob3 e3 => ?_)
  refine s_end ?_
  have hb1 := hf1.bd
  have hb2 := hf2.bd
  have he3 : Ext (fun i => st.n ≤ i) st st3 := (e1.tr e2).over.over e3 (fun i e => by omega)
  have hm3 : MkS st.n bb p q q1 q2 g b st3 := ⟨⟨by omega, by omega, ob3⟩, (hf1.ex e2).ext e3 (fun i h e => by have := hb1 i h; omega), (hf2.ex e2).ext e3 (fun i h e => by have := hb2 i h; omega), hd⟩
  refine c_sj (α := Option Nat) (fun _ => [(7, .ptr (some bb) 0)]) (fun _ => [(6, 6, [I 0, .sl none 0 0, .sl none 0 0, I 0])])
    (fun i st' => MkS st.n bb p q i q2 (shG l p g b q v) b st') ?_ ?_
  · -- ways that meet
    refine c_rs (by kernel_rfl) ?_   -- region 2
    refine sr 2 rfl ?_
    refine s_op rfl (o_ex loud_n rfl (iMarkerOk_c p q r rg rb o l g b _ (hx.over he3) hl (hg.over he3) (hb.over he3) hlg hlb hq) ?_)
    rintro v4 st4 rfl e4
    refine s_end ?_
    have he4 := he3.over e4 (fun i h => h.elim)
    have hm4 := hm3.ex e4
    refine c_if rfl (fun h12 => ?_) (fun h12 => ?_)
    · -- then
      have h12 := bdt.1 h12
      have es : shG l p g b q v = cond (bd (Ld l v)) (shd p g b v) g := by unfold shG; rw [bdt.2 h12]; rfl
      have hlen := okB_len h12.1
      rw [es]
      refine c_region (by kernel_rfl) ?_   -- region 3
      refine sr 1 rfl ?_
      refine s_op rfl (o_ex loud_n rfl (kinds_c _ _ _ _ (hx.over he4) hlen) ?_)
      rintro v5 st5 ⟨kr, rfl, hk5⟩ e5
      refine sr 1 rfl ?_
      have hm5 := hm4.ex e5
      have n45 := e4.n
      have n5 := e5.n
      have T5 : ∀ j, (j = bb ∨ q1 = some j) → st.n ≤ j := fun j hj => by
        rcases hj with rfl | hj
        · omega
        · exact (hm5.hg.bd j hj).1
      refine s_op rfl (o_call rfl (shade_c st.n bb p q v _ q1 q2 0 _ l g b _ hk5.at_ (by omega) (kindsL_len l) hm5 (by omega) (by omega) (by omega)) (fun j hj ht => absurd hj (by have := T5 j ht; omega)) (.inl rfl) ?_)
      rintro v6 st6 ⟨rfl, q6, hm6, hq6⟩ e6
      refine s_end ?_
      exact ⟨q6, ⟨rfl, trivial⟩, ⟨rfl, rfl, trivial⟩, hm6⟩
    · -- else
      have h12 := bdf.1 h12
      have es : shG l p g b q v = g := by unfold shG; rw [bdf.2 h12]; rfl
      rw [es]
      refine c_skip ?_
      exact ⟨q1, ⟨rfl, trivial⟩, ⟨rfl, rfl, trivial⟩, hm4⟩
  rintro i st4 hm
  obtain ⟨⟨a1, a2, a3⟩, hg', hbl, d⟩ := hm
  refine c_rs (by kernel_rfl) ?_   -- region 4
  refine s_op rfl (oldS rfl rfl rfl a2 a3 rfl ?_)
  refine sra rfl ?_
  exact c_ret (fr rfl ⟨i, q2, rfl, hg', hbl, d⟩)
end Go.Proofs.YtmphklmhhcmbnaaW.Ax
