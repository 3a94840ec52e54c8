/- A marker copied, and Shade: walked. -/
import Derived.Test.YtmphklmhhcmbnaaGreatZo
import Derived.Test.YtmphklmhhcmbnaaGreatXC
namespace Go.Proofs.YtmphklmhhcmbnaaGreatW.Ax
open Go Go.RowKit Go.Proofs Go.Proofs.YtmphklmhhcmbnaaGreat.Pure
set_option linter.unusedVariables false
set_option maxRecDepth 100000

theorem copyMarker_c (p q : Int) (r1 r2 : Option Nat) (g b : List Int) (st : St) (hg : At st r1 0 g) (hb : At st r2 0 b) (hlg : g.length ≤ 1073741824) (hlb : b.length ≤ 1073741824) :
    ACalls Tryz.prog 38 [.agg [I p, .sl r1 0 g.length, .sl r2 0 b.length, I q]] st No (Mr st p g b q) := by
  refine ent (N := 12) Tryz.func38 rfl (by decide) rfl rfl rfl ?_
  refine crr (by kernel_rfl) rfl ?_   -- region 0
  refine cdt [0, 1, 3, 4, 2, 6, 5, 7, 8, 9] [.q, .q, .q, .q, .f, .q, .f, .n, .q, .n] (by kernel_rfl) (by kernel_rfl) ?_   -- region 1
  refine sr 4 rfl ?_
  refine s_op rfl (o_ex loud_f rfl (copyInts_c _ _ _ _ hg (by omega)) ?_)
  rintro v1 st1 ⟨q1, rfl, hf1⟩ e1
  refine sr 1 rfl ?_
  refine s_op rfl (o_ex loud_f rfl (copyInts_c _ _ _ _ (hb.ex e1) (by omega)) ?_)
  rintro v2 st2 ⟨q2, rfl, hf2⟩ e2
  refine sra rfl ?_
  refine crr (by kernel_rfl) rfl ?_   -- region 2
  refine c_ret (fr rfl ⟨q1, q2, rfl, hf1.ex e2, hf2.le e1.n, fun i h h' => ?_⟩)
  have := hf1.bd i h
  have := hf2.bd i h'
  omega
/-- What the literals and the first of the copies are. -/
def PhiC (n0 : Nat) (g : List Int) (i : Nat) (v : AV) (st : St) : Prop := match i with
  | 5 => ∃ q1, v = .sl q1 0 g.length ∧ Fr n0 st q1 g
  | _ => v = .sl none 0 0
theorem phiC_ex (n0 : Nat) (g : List Int) : ∀ i v st st', PhiC n0 g i v st → Ex st st' → PhiC n0 g i v st' := fun i v st st' h he => by
  unfold PhiC at *
  split at h
  · obtain ⟨q1, h1, h2⟩ := h
    exact ⟨q1, h1, h2.ex he⟩
  · exact h
theorem l8Copy_c (p q : Int) (r1 r2 : Option Nat) (g b : List Int) (st : St) (hg : At st r1 0 g) (hb : At st r2 0 b) (hlg : g.length ≤ 1073741824) (hlb : b.length ≤ 1073741824) :
    ACalls Tryz.prog 33 [.agg [I p, .sl r1 0 g.length, .sl r2 0 b.length, I q]] st No (Mr st p g b q) := by
  refine ent (N := 16) Tryz.func33 rfl (by decide) rfl rfl rfl ?_
  refine crr (by kernel_rfl) rfl ?_   -- region 0
  refine cdM [0, 1, 3, 4, 7, 8, 10, 11] [2, 5, 6] [9, 12, 13] [.f, .q, .n] (fun i => if i = 2 then 5 else if i = 5 then 8 else 9) (PhiC st.n g) (by kernel_rfl) (by kernel_rfl) (phiC_ex st.n g) (by decide) ?_
  refine sr 8 rfl ?_
  refine s_end ⟨rfl, fun i hi op ho a st' hex hdep hsl hbx => ?_, fun a st' hex hphi hsl hbx => ?_⟩
  · have h7 : a.s 7 = .sl r1 0 g.length := (hsl 7 (by decide)).1
    simp only [List.mem_cons, List.not_mem_nil, or_false] at hi
    rcases hi with rfl | rfl | rfl
    · obtain rfl : _ = op := Option.some.inj ho
      exact obsl0 loud_f rfl ⟨_, rfl, rfl, Ext.refl _ _⟩
    · obtain rfl : _ = op := Option.some.inj ho
      have h5 : a.s 5 = .sl none 0 0 := hdep 2 (by decide) ⟨_, by simp; exact .inl rfl, rfl, rfl⟩
      exact oappE loud_f rfl h5 h7 (hg.ex hex) (by omega) fun q1 st2 hf2 he2 => ⟨_, rfl, ⟨q1, rfl, hf2.le hex.n⟩, he2⟩
    · obtain rfl : _ = op := Option.some.inj ho
      exact obsl0 loud_f rfl ⟨_, rfl, rfl, Ext.refl _ _⟩
  · have h4 : a.s 4 = I p := (hsl 4 (by decide)).1
    have h11 : a.s 11 = .sl r2 0 b.length := (hsl 11 (by decide)).1
    have h14 : a.s 14 = I q := (hsl 14 (by decide)).1
    obtain ⟨q1, h8, hf1⟩ := hphi 5 (by decide)
    have h8 : a.s 8 = .sl q1 0 g.length := h8
    have h9 : a.s 9 = .sl none 0 0 := hphi 6 (by decide)
    refine s_mk [(4, I p), (8, .sl q1 0 g.length), (9, .sl none 0 0), (11, .sl r2 0 b.length), (14, I q)] [(2, 2, [I 0, .sl none 0 0, .sl none 0 0, I 0])] rfl (by decide) ⟨h4, h8, h9, h11, h14, trivial⟩ ⟨(hsl 2 (by decide)).2, congrFun hbx 2, trivial⟩ ?_
    refine s_op rfl (oappE loud_f rfl rfl rfl (hb.ex hex) (by omega) fun q2 st2 hf2 he2 => ?_)
    refine sra rfl ?_
    refine c_ret (fr rfl ⟨q1, q2, rfl, hf1.ex he2, hf2.le hex.n, fun i h h' => ?_⟩)
    have := hf1.bd i h
    have := hf2.bd i h'
    omega
theorem ld_leads {l : List Int} {v : Int} : Ld l v ↔ Vok v ∧ 4 ≤ v % 8 ∧ (Leads l v 5 ∨ Leads l v 3) := by
  have up : ∀ {k b : Int}, Rf l v k b → k ≠ 7 → ((k = 4 ∧ b = 1) ∨ (k = 5 ∧ b = 2) ∨ (k = 6 ∧ b = 4) ∨ (k = 7 ∧ 0 ≤ b)) → Leads l v 5 := fun {k b} h h7 hk => by
    have h1 := h.leads hk
    exact ⟨h1.1, h1.2.1, h1.2.2.1, h1.2.2.2.1, fun e => absurd (h.1.symm.trans e) h7⟩
  constructor
  · intro h
    rcases h with h | h | h | h | h
    · exact ⟨(up h (by omega) (by omega)).1, by have := h.1; omega, .inl (up h (by omega) (by omega))⟩
    · exact ⟨(up h (by omega) (by omega)).1, by have := h.1; omega, .inl (up h (by omega) (by omega))⟩
    · exact ⟨(up h (by omega) (by omega)).1, by have := h.1; omega, .inl (up h (by omega) (by omega))⟩
    · have h1 := h.leads (by omega)
      exact ⟨h1.1, by have := h.1; omega, .inr h1⟩
    · have h1 := h.leads (by omega)
      exact ⟨h1.1, by have := h.1; omega, .inl h1⟩
  · rintro ⟨hv, h4, h | h⟩
    · exact ld_vb h h4
    · obtain ⟨_, a4, a5, a6, a7⟩ := h
      rcases (show v % 8 = 4 ∨ v % 8 = 5 ∨ v % 8 = 6 ∨ v % 8 = 7 by omega) with e | e | e | e
      · exact .inl ⟨e, a4 e⟩
      · exact .inr (.inl ⟨e, a5 e⟩)
      · exact .inr (.inr (.inl ⟨e, a6 e⟩))
      · exact .inr (.inr (.inr (.inl ⟨e, a7 e⟩)))
/-- Grey, when a value has been shaded. -/
noncomputable def shG (l : List Int) (p : Int) (g b : List Int) (q v : Int) : List Int := cond (bd (MkOk l p g b q)) (cond (bd (Ld l v)) (shd p g b v) g) g
theorem shG_len (l : List Int) (p : Int) (g b : List Int) (q v : Int) : (shG l p g b q v).length ≤ g.length + 1 := by
  unfold shG
  have := shd_len p g b v
  cases bd (MkOk l p g b q) <;> cases bd (Ld l v) <;> simp <;> omega
theorem Ld.num {l : List Int} {v : Int} (h : Ld l v) : 4 ≤ v % 8 → 0 ≤ v / 8 := fun h4 => ((ld_leads.1 h).1.2.2.2.2 h4).1
end Go.Proofs.YtmphklmhhcmbnaaGreatW.Ax
