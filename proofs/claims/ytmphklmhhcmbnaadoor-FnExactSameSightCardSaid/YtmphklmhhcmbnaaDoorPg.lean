/- The picture: the reference's walk. -/
import Derived.Test.YtmphklmhhcmbnaaDoorPf
namespace Go.Proofs.YtmphklmhhcmbnaaDoorW.Ax
open Go Go.RowKit Go.Proofs Go.Proofs.YtmphklmhhcmbnaaDoor.Pure
set_option linter.unusedVariables false
set_option maxRecDepth 100000
theorem line_size {order l : List Int} {a : Int} (h : LnOk l a) (hw : W64 l) (hl : l.length ≤ 1048576) (hlo : order.length ≤ 1048576) : (lineS order l a).size ≤ 67108864 := by
  have h1 := head_size h hw hl
  have h2 := left_len l a
  have h3 := h.ln
  have := catV_size order (by omega) ((leftS l a).map fun k => rd l k) (headS l a) (fun v hv => by obtain ⟨k, _, rfl⟩ := List.mem_map.1 hv; exact hw.rd k)
  rw [List.length_map] at this
  unfold lineS
  omega
theorem linesS_app (order l : List Int) (a : Int) : ∀ (ks : List Int) (b : ByteArray), linesS order l (ks ++ [a]) b = linesS order l ks b ++ (lineS order l a ++ ⟨#[10]⟩)
  | [], b => rfl
  | x :: r, b => by
    show linesS order l (r ++ [a]) (b ++ (lineS order l x ++ ⟨#[10]⟩)) = linesS order l r (b ++ (lineS order l x ++ ⟨#[10]⟩)) ++ (lineS order l a ++ ⟨#[10]⟩)
    exact linesS_app order l a r _
theorem linesS_size {order l : List Int} (hw : W64 l) (hl : l.length ≤ 1048576) (hlo : order.length ≤ 1048576) : ∀ (ks : List Int) (b : ByteArray), (∀ a ∈ ks, LnOk l a) → (linesS order l ks b).size ≤ b.size + 67108865 * ks.length
  | [], b, _ => Nat.le_refl _
  | x :: r, b, h => by
    have h1 := linesS_size hw hl hlo r (b ++ (lineS order l x ++ ⟨#[10]⟩)) fun a ha => h a (List.mem_cons_of_mem _ ha)
    have h2 := line_size (h x List.mem_cons_self) hw hl hlo
    have e : (b ++ (lineS order l x ++ ⟨#[10]⟩)).size = b.size + ((lineS order l x).size + 1) := by rw [ByteArray.size_append, ByteArray.size_append]; rfl
    rw [e] at h1
    rw [List.length_cons]
    show (linesS order l r (b ++ (lineS order l x ++ ⟨#[10]⟩))).size ≤ _
    omega
theorem take_step {l : List Int} {i : Nat} (h : i < l.length) : l.take (i + 1) = l.take i ++ [rd l i] := by
  rw [List.take_add_one, List.getElem?_eq_getElem h, Option.toList_some]
  have e : rd l i = l[i] := by simp [rd, List.getD, h]
  rw [e]
/-- The reference's picture. -/
noncomputable def pcS (l rs : List Int) : ByteArray := by classical exact if Rts l rs then picS (ordL l rs) l rs else ⟨#[]⟩
theorem Picture_c (r rr : Option Nat) (o or : Nat) (l rs : List Int) (st : St) (hx : At st r o l) (hy : At st rr or rs) (hl : l.length ≤ 1048576) (hlr : rs.length ≤ 1048576) (hw : W64 l) (hwr : W64 rs)
    (hok : Rts l rs → ∀ a ∈ ordL l rs, a ∈ blocks l ∧ LnOk l a) (hol : Rts l rs → (ordL l rs).length ≤ 2000) :
    ACalls Tryd.prog 6 [.agg [.sl r o l.length], .sl rr or rs.length] st No (Pv (.str (pcS l rs))) := by
  refine ent (N := 48) Tryd.func6 rfl (by decide) rfl rfl rfl ?_
  refine crr (by kernel_rfl) rfl ?_   -- region 0
  refine c_seq ?_
  refine c_rs (by kernel_rfl) ?_   -- region 1
  refine sr 2 rfl ?_
  refine s_op rfl (o_ex loud_n rfl (RootsOk_c r rr o or l rs _ hx hy hl hlr) ?_)
  rintro v1 st1 rfl e1
  refine sra rfl ?_
  refine c_if rfl (fun h12 => ?_) (fun h12 => ?_)
  · -- then
    have hn := nbt h12
    have e : pcS l rs = ⟨#[]⟩ := by unfold pcS; rw [if_neg hn]
    rw [e]
    refine crr (by kernel_rfl) rfl ?_   -- region 2
    exact c_ret (fr rfl rfl)
  · -- else
    have hR := nbf h12
    have e0 : pcS l rs = picS (ordL l rs) l rs := by unfold pcS; rw [if_pos hR]
    have hol := hol hR
    have hok := hok hR
    rw [e0]
    refine c_skip ?_
    refine c_rs (by kernel_rfl) ?_   -- region 3
    refine sr 2 rfl ?_
    refine s_op rfl (o_ex loud_n rfl (l7Order_c r rr o or l rs _ (hx.ex e1) (hy.ex e1) hR hlr) ?_)
    rintro v2 st2 ⟨q, rfl, hq⟩ e2
    have hx2 := (hx.ex e1).ex e2
    have hy2 := (hy.ex e1).ex e2
    generalize hO : ordL l rs = O at *
    refine sra rfl ?_
    have hcs : ∀ n, (catV O (rs.take n) ⟨#[114, 111, 111, 116, 115]⟩).size ≤ 5 + 24 * 1048576 := fun n => by
      have := catV_size O (by omega) (rs.take n) ⟨#[114, 111, 111, 116, 115]⟩ (fun v hv => hwr v (List.mem_of_mem_take hv))
      rw [List.length_take] at this
      have e : (ByteArray.mk #[114, 111, 111, 116, 115]).size = 5 := rfl
      omega
    refine crr (by kernel_rfl) rfl ?_   -- region 4
    refine c_seq ?_
    refine crr (by kernel_rfl) rfl ?_   -- region 5
    refine c_block ?_
    refine c_lp (α := Nat) (fun i => [(1, .sl rr or rs.length), (5, .sl (some q) 0 O.length), (6, .str (catV O (rs.take i) ⟨#[114, 111, 111, 116, 115]⟩)), (7, I i)]) (fun _ => [(2, 2, [.sl r o l.length])]) (fun i st' => Ex st2 st' ∧ i ≤ rs.length) (fun i => rs.length - i) 0 ⟨rfl, rfl, rfl, rfl, trivial⟩ ⟨rfl, rfl, trivial⟩ ⟨Ext.refl _ _, Nat.zero_le _⟩ ?_
    rintro i st3 ⟨e3, hi⟩
    have hs := hcs i
    refine c_seq ?_
    refine crr (by kernel_rfl) rfl ?_   -- region 6
    refine c_if rfl (fun h19 => ?_) (fun h19 => ?_)
    · -- then
      have h19 := of_decide_eq_true h19
      have hv := hwr.rd i
      have hv2 := hv
      unfold W1 at hv2
      have hvs := valS_size O (rd rs i) (by omega) hv
      have hnx : catV O (rs.take (i + 1)) ⟨#[114, 111, 111, 116, 115]⟩ = catV O (rs.take i) ⟨#[114, 111, 111, 116, 115]⟩ ++ valS O (rd rs i) := by rw [take_step (by omega), catV_app]
      refine c_skip ?_
      refine c_seq ?_
      refine c_block ?_
      refine c_region (by kernel_rfl) ?_   -- region 8
      refine sr 3 rfl ?_
      refine s_op rfl (oidx rfl rfl rfl (by omega) (by omega) ?_)
      refine s_op rfl (old rfl rfl ((hy2.ex e3).rd (by omega) (by omega)) ?_)
      refine sr 1 rfl ?_
      refine s_op rfl (o_ex loud_n rfl (l7Value_c (some q) 0 O (rd rs i) _ (hq.at_.ex e3) (by omega) hv2.1 hv2.2) ?_)
      rintro v4 st4 rfl e4
      refine s_op rfl (o_cat rfl rfl (by omega) ?_)
      refine sra rfl ?_
      refine c_region (by kernel_rfl) ?_   -- region 7
      refine sr 1 rfl ?_
      refine s_op rfl (o_ar rfl rfl rfl (by omega) (by omega) ?_)
      exact sra rfl ⟨i + 1, ⟨rfl, rfl, by rw [hnx]; rfl, rfl, trivial⟩, ⟨rfl, rfl, trivial⟩, ⟨e3.tr e4, by omega⟩, by omega⟩   -- round ends
    · -- else
      have h19 := of_decide_eq_false h19
      have hri : rs.take i = rs := List.take_of_length_le (by omega)
      rw [hri] at hs
      have hb0 : (catV O rs ⟨#[114, 111, 111, 116, 115]⟩ ++ ⟨#[10]⟩).size ≤ 5 + 24 * 1048576 + 1 := by
        rw [ByteArray.size_append]
        show _ + 1 ≤ _
        omega
      have hls : ∀ n, (linesS O l (O.take n) (catV O rs ⟨#[114, 111, 111, 116, 115]⟩ ++ ⟨#[10]⟩)).size ≤ 5 + 24 * 1048576 + 1 + 67108865 * 2000 := fun n => by
        have := linesS_size (order := O) hw hl (by omega) (O.take n) (catV O rs ⟨#[114, 111, 111, 116, 115]⟩ ++ ⟨#[10]⟩) (fun a ha => (hok a (List.mem_of_mem_take ha)).2)
        rw [List.length_take] at this
        omega
      refine c_exit ?_
      refine c_rs (by kernel_rfl) ?_   -- region 9
      refine sr 1 rfl ?_
      refine s_op rfl (o_cat (u := ⟨#[10]⟩) rfl rfl (by rw [hri]; show _ + 1 ≤ _; omega) ?_)
      rw [hri]
      refine sra rfl ?_
      refine c_seq ?_
      refine crr (by kernel_rfl) rfl ?_   -- region 10
      refine c_block ?_
      refine c_lp (α := Nat) (fun i => [(5, .sl (some q) 0 O.length), (6, .str (linesS O l (O.take i) (catV O rs ⟨#[114, 111, 111, 116, 115]⟩ ++ ⟨#[10]⟩))), (8, I i)]) (fun _ => [(2, 2, [.sl r o l.length])]) (fun i st' => Ex st2 st' ∧ i ≤ O.length) (fun i => O.length - i) 0 ⟨rfl, rfl, rfl, trivial⟩ ⟨rfl, rfl, trivial⟩ ⟨e3, Nat.zero_le _⟩ ?_
      rintro j st4 ⟨e4, hj⟩
      have hlj := hls j
      refine c_seq ?_
      refine crr (by kernel_rfl) rfl ?_   -- region 11
      refine c_if rfl (fun h35 => ?_) (fun h35 => ?_)
      · -- then
        have h35 := of_decide_eq_true h35
        obtain ⟨m1, m2⟩ := hok _ (mem_rd (show j < O.length by omega))
        have hz := line_size (order := O) m2 hw hl (by omega)
        have hnx : linesS O l (O.take (j + 1)) (catV O rs ⟨#[114, 111, 111, 116, 115]⟩ ++ ⟨#[10]⟩) = linesS O l (O.take j) (catV O rs ⟨#[114, 111, 111, 116, 115]⟩ ++ ⟨#[10]⟩) ++ (lineS O l (rd O j) ++ ⟨#[10]⟩) := by rw [take_step (by omega), linesS_app]
        refine c_skip ?_
        refine c_seq ?_
        refine c_block ?_
        refine cd1 [0, 1, 2, 3, 4, 5, 6, 7, 8, 9] [.q, .q, .q, .q, .q, .q, .q, .f, .q, .q] (by kernel_rfl) (by kernel_rfl) ?_   -- region 13
        refine sr 4 rfl ?_
        refine s_op rfl (oidx rfl rfl rfl (by omega) (by omega) ?_)
        refine s_op rfl (old rfl rfl ((hq.at_.ex e4).rd (by omega) (by omega)) ?_)
        refine sr 1 rfl ?_
        refine s_op rfl (o_ex loud_f rfl (l7Line_c r (some q) o 0 l O (rd O j) _ (hx2.ex e4) (hq.at_.ex e4) m1 m2 hw hl (by omega)) ?_)
        rintro v5 st5 rfl e5
        refine s_op rfl (o_cat rfl rfl (by rw [ByteArray.size_append]; show _ + (_ + 1) ≤ _; omega) ?_)
        refine sra rfl ?_
        refine c_region (by kernel_rfl) ?_   -- region 12
        refine sr 1 rfl ?_
        refine s_op rfl (o_ar rfl rfl rfl (by omega) (by omega) ?_)
        exact sra rfl ⟨j + 1, ⟨rfl, by rw [hnx]; rfl, rfl, trivial⟩, ⟨rfl, rfl, trivial⟩, ⟨e4.tr e5, by omega⟩, by omega⟩   -- round ends
      · -- else
        have h35 := of_decide_eq_false h35
        refine c_exit ?_
        refine crr (by kernel_rfl) rfl ?_   -- region 14
        refine c_ret (fr rfl ?_)
        have e : O.take j = O := List.take_of_length_le (by omega)
        rw [e]
        unfold picS
        rfl
end Go.Proofs.YtmphklmhhcmbnaaDoorW.Ax
