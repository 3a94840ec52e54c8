/- Two pictures: both walks. -/
import Derived.Test.YtmphklmhhcmbnaaDoorPk
namespace Go.Proofs.YtmphklmhhcmbnaaDoorW.Ax
open Go Go.RowKit Go.Proofs Go.Proofs.YtmphklmhhcmbnaaDoor.Pure
set_option linter.unusedVariables false
set_option maxRecDepth 100000
theorem catV_ge (order : List Int) : ∀ (vs : List Int) (b : ByteArray), b.size ≤ (catV order vs b).size
  | [], b => Nat.le_refl _
  | x :: vs, b => by
    have := catV_ge order vs (b ++ valS order x)
    rw [ByteArray.size_append] at this
    show _ ≤ (catV order vs (b ++ valS order x)).size
    omega
theorem linesS_ge (order l : List Int) : ∀ (ks : List Int) (b : ByteArray), b.size ≤ (linesS order l ks b).size
  | [], b => Nat.le_refl _
  | x :: r, b => by
    have := linesS_ge order l r (b ++ (lineS order l x ++ ⟨#[10]⟩))
    rw [ByteArray.size_append] at this
    show _ ≤ (linesS order l r (b ++ (lineS order l x ++ ⟨#[10]⟩))).size
    omega
theorem pcS_empty {l rs : List Int} : pcS l rs = ⟨#[]⟩ ↔ ¬ Rts l rs := by
  unfold pcS
  by_cases h : Rts l rs
  · rw [if_pos h]
    refine ⟨fun e => ?_, fun h' => absurd h h'⟩
    have h1 := linesS_ge (ordL l rs) l (ordL l rs) (catV (ordL l rs) rs ⟨#[114, 111, 111, 116, 115]⟩ ++ ⟨#[10]⟩)
    have h2 : picS (ordL l rs) l rs = linesS (ordL l rs) l (ordL l rs) (catV (ordL l rs) rs ⟨#[114, 111, 111, 116, 115]⟩ ++ ⟨#[10]⟩) := rfl
    rw [← h2, e, ByteArray.size_append] at h1
    have h3 : (ByteArray.mk #[]).size = 0 := rfl
    have h4 : (ByteArray.mk #[10]).size = 1 := rfl
    omega
  · rw [if_neg h]
    exact ⟨fun _ => h, fun _ => rfl⟩
theorem str_bd (s u : ByteArray) : (s.toList == u.toList) = bd (s = u) := by
  rw [str_eq]
  by_cases h : s = u
  · rw [bdt.2 h, decide_eq_true h]
  · rw [bdf.2 h, decide_eq_false h]
/-- Do both show the same? -/
noncomputable def ssV (l rs l2 rs2 : List Int) : Bool := bd (Rts l rs ∧ Rts l2 rs2 ∧ pcS l rs = pcS l2 rs2)
theorem iSameSight_c (r rr r2 rr2 : Option Nat) (o or o2 or2 : Nat) (l rs l2 rs2 : List Int) (st : St) (ht : Tab Tryd.prog st) (hx : At st r o l) (hy : At st rr or rs) (hx2 : At st r2 o2 l2) (hy2 : At st rr2 or2 rs2)
    (hl : l.length ≤ 1048576) (hlr : rs.length ≤ 1048576) (hl2 : l2.length ≤ 1048576) (hlr2 : rs2.length ≤ 1048576) (hw : W64 l) (hwr : W64 rs) (hw2 : W64 l2) (hwr2 : W64 rs2) :
    ACalls Tryd.prog 13 [.agg [.sl r o l.length], .sl rr or rs.length, .agg [.sl r2 o2 l2.length], .sl rr2 or2 rs2.length] st No (Pv (.bool (ssV l rs l2 rs2))) := by
  refine ent (N := 26) Tryd.func13 rfl (by decide) rfl rfl rfl ?_
  refine crr (by kernel_rfl) rfl ?_   -- region 0
  refine c_sj (α := Unit) (fun _ => [(8, .bool (ssV l rs l2 rs2))]) (fun _ => []) (fun _ st' => Ex st st') ?_ ?_
  · -- region 1
    refine cd1 [0, 1, 2, 3, 4, 5, 6, 7, 8, 9, 10, 12, 13, 11, 14, 15, 16, 17] [.q, .q, .f, .q, .q, .q, .f, .q, .q, .q, .q, .q, .q, .f, .f, .q, .q, .q] (by kernel_rfl) (by kernel_rfl) ?_
    refine sr 2 rfl ?_
    refine s_op rfl (o_ex loud_f rfl (iRootsOk_c r rr o or l rs _ hx hy hl hlr) ?_)
    rintro v1 st1 rfl e1
    refine sr 1 rfl ?_
    refine s_bool 12 rfl rfl (fun h12 => ?_) (fun h12 => ?_)
    · -- slot 12 true
      have h12 := bdt.1 h12
      refine sr 2 rfl ?_
      refine s_op rfl (o_ex loud_f rfl (iRootsOk_c r2 rr2 o2 or2 l2 rs2 _ (hx2.ex e1) (hy2.ex e1) hl2 hlr2) ?_)
      rintro v2 st2 rfl e2
      have e02 := e1.tr e2
      refine sr 2 rfl ?_
      refine s_bool 17 rfl rfl (fun h17 => ?_) (fun h17 => ?_)
      · -- slot 17 true
        have h17 := bdt.1 h17
        refine sr 4 rfl ?_
        refine s_op rfl (o_ex loud_f rfl (iPicture_c r rr o or l rs _ (ht.ex e02) (hx.ex e02) (hy.ex e02) hl hlr hw hwr) ?_)
        rintro v3 st3 rfl e3
        have e03 := e02.tr e3
        refine s_op rfl (o_ex loud_f rfl (iPicture_c r2 rr2 o2 or2 l2 rs2 _ (ht.ex e03) (hx2.ex e03) (hy2.ex e03) hl2 hlr2 hw2 hwr2) ?_)
        rintro v4 st4 rfl e4
        have hv : ((pcS l rs).toList == (pcS l2 rs2).toList) = ssV l rs l2 rs2 := by
          rw [str_bd]
          unfold ssV
          by_cases h : pcS l rs = pcS l2 rs2
          · rw [bdt.2 h, bdt.2 ⟨h12, h17, h⟩]
          · rw [bdf.2 h, bdf.2 fun h' => h h'.2.2]
        refine s_op rfl (oeq rfl (.v (.bool (ssV l rs l2 rs2))) (by rw [hv]) ?_)
        exact sra rfl ⟨(), ⟨rfl, trivial⟩, trivial, e03.tr e4⟩
      · -- slot 17 false
        have hv : ssV l rs l2 rs2 = false := bdf.2 fun h => bdf.1 h17 h.2.1
        rw [hv]
        exact sra rfl ⟨(), ⟨rfl, trivial⟩, trivial, e02⟩
    · -- slot 12 false
      have hv : ssV l rs l2 rs2 = false := bdf.2 fun h => bdf.1 h12 h.1
      rw [hv]
      exact sra rfl ⟨(), ⟨rfl, trivial⟩, trivial, e1⟩
  rintro _ st1 he1
  exact c_ret (fr rfl rfl)
theorem SameSight_c (r rr r2 rr2 : Option Nat) (o or o2 or2 : Nat) (l rs l2 rs2 : List Int) (st : St) (hx : At st r o l) (hy : At st rr or rs) (hx2 : At st r2 o2 l2) (hy2 : At st rr2 or2 rs2)
    (hl : l.length ≤ 1048576) (hlr : rs.length ≤ 1048576) (hl2 : l2.length ≤ 1048576) (hlr2 : rs2.length ≤ 1048576) (hw : W64 l) (hwr : W64 rs) (hw2 : W64 l2) (hwr2 : W64 rs2) :
    ACalls Tryd.prog 12 [.agg [.sl r o l.length], .sl rr or rs.length, .agg [.sl r2 o2 l2.length], .sl rr2 or2 rs2.length] st No (Pv (.bool (ssV l rs l2 rs2))) := by
  refine ent (N := 22) Tryd.func12 rfl (by decide) rfl rfl rfl ?_
  refine crr (by kernel_rfl) rfl ?_   -- region 0
  refine c_rs (by kernel_rfl) ?_   -- region 1
  refine sr 2 rfl ?_
  refine s_op rfl (o_ex loud_n rfl (Picture_c r rr o or l rs _ hx hy hl hlr hw hwr (fun h a ha => lnOk_of h ha) (fun h => (ord_ok h).len)) ?_)
  rintro v1 st1 rfl e1
  refine sra rfl ?_
  refine c_sj (α := Unit) (fun _ => [(8, .bool (ssV l rs l2 rs2))]) (fun _ => []) (fun _ st' => Ex st1 st') ?_ ?_
  · -- region 2
    refine c_region (by kernel_rfl) ?_
    refine sr 1 rfl ?_
    have hv0 : (!((pcS l rs).toList == (ByteArray.mk #[]).toList)) = bd (Rts l rs) := by
      rw [str_bd]
      by_cases h : Rts l rs
      · rw [bdt.2 h, bdf.2 fun e => pcS_empty.1 e h]; rfl
      · rw [bdf.2 h, bdt.2 (pcS_empty.2 h)]; rfl
    refine s_op rfl (oeq rfl (.v (.bool (bd (Rts l rs)))) (by rw [hv0]) ?_)
    refine sr 1 rfl ?_
    refine s_bool 15 rfl rfl (fun h15 => ?_) (fun h15 => ?_)
    · -- slot 15 true
      have h15 := bdt.1 h15
      refine sr 3 rfl ?_
      refine s_op rfl (o_ex loud_n rfl (Picture_c r2 rr2 o2 or2 l2 rs2 _ (hx2.ex e1) (hy2.ex e1) hl2 hlr2 hw2 hwr2 (fun h a ha => lnOk_of h ha) (fun h => (ord_ok h).len)) ?_)
      rintro v2 st2 rfl e2
      have hv : ((pcS l rs).toList == (pcS l2 rs2).toList) = ssV l rs l2 rs2 := by
        rw [str_bd]
        unfold ssV
        by_cases h : pcS l rs = pcS l2 rs2
        · have h2 : Rts l2 rs2 := by
            by_cases h2 : Rts l2 rs2
            · exact h2
            · rw [pcS_empty.2 h2] at h
              exact absurd h15 (pcS_empty.1 h)
          rw [bdt.2 h, bdt.2 ⟨h15, h2, h⟩]
        · rw [bdf.2 h, bdf.2 fun h' => h h'.2.2]
      refine s_op rfl (oeq rfl (.v (.bool (ssV l rs l2 rs2))) (by rw [hv]) ?_)
      exact sra rfl ⟨(), ⟨rfl, trivial⟩, trivial, e2⟩
    · -- slot 15 false
      have hv : ssV l rs l2 rs2 = false := bdf.2 fun h => bdf.1 h15 h.1
      rw [hv]
      exact sra rfl ⟨(), ⟨rfl, trivial⟩, trivial, Ext.refl _ _⟩
  rintro _ st2 he2
  exact c_ret (fr rfl rfl)
end Go.Proofs.YtmphklmhhcmbnaaDoorW.Ax
