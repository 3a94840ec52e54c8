/- The picture: the program's walk. -/
import Derived.Test.YtmphklmhhcmbnaaDoorPi
import Derived.Test.YtmphklmhhcmbnaaDoorXM
namespace Go.Proofs.YtmphklmhhcmbnaaDoorW.Ax
open Go Go.RowKit Go.Proofs Go.Proofs.YtmphklmhhcmbnaaDoor.Pure
set_option linter.unusedVariables false
set_option maxRecDepth 100000
/-- What was there stays, where only what was made since is turned. -/
theorem Tab.over {P : Program} {st st' : St} (h : Tab P st) (e : Ext (fun i => st.n ≤ i) st st') : Tab P st' := h.ext e fun i hi hn => by omega
theorem NumM.over {st st' : St} {m : Nat} {l : List Int} (h : NumM st m l) (e : Ext (fun i => st.n ≤ i) st st') : NumM st' m l := h.ext e (by have := h.1; omega)
theorem Fr.over {n0 : Nat} {st st' : St} {r : Option Nat} {l : List Int} (h : Fr n0 st r l) (e : Ext (fun i => st.n ≤ i) st st') : Fr n0 st' r l := h.ext e fun i hi hn => by have := h.bd i hi; omega
theorem numM_of {st : St} {m : Nat} {O : List Int} {es : List (Int × AV)} (hm : m < st.n) (ho : st.ob m = .map es) (hO : O.Nodup) (h : ∀ j : Nat, j < O.length → mget es (rd O j) = some (I j)) : NumM st m O := by
  refine ⟨hm, es, ho, fun x hx => ?_⟩
  obtain ⟨j, hj, rfl⟩ := List.getElem_of_mem hx
  have e : rd O (j : Int) = O[j] := by simp [rd, List.getD, hj]
  rw [← e, h j hj, ixS_rd O j 0 hO hj, Nat.zero_add]
theorem iPicture_c (r rr : Option Nat) (o or : Nat) (l rs : List Int) (st : St) (ht : Tab Tryd.prog st) (hx : At st r o l) (hy : At st rr or rs) (hl : l.length ≤ 1048576) (hlr : rs.length ≤ 1048576) (hw : W64 l) (hwr : W64 rs) :
    ACalls Tryd.prog 9 [.agg [.sl r o l.length], .sl rr or rs.length] st No (Pv (.str (pcS l rs))) := by
  refine ent (N := 66) Tryd.func9 rfl (by decide) rfl rfl rfl ?_
  refine crr (by kernel_rfl) rfl ?_   -- region 0
  refine c_seq ?_
  refine c_rs (by kernel_rfl) ?_   -- region 1
  refine sr 2 rfl ?_
  refine s_op rfl (o_ex loud_n rfl (iRootsOk_c r rr o or l rs _ hx hy hl hlr) ?_)
  rintro v1 st1 rfl e1
  refine sra rfl ?_
  refine c_if rfl (fun h17 => ?_) (fun h17 => ?_)
  · -- then
    have hn := nbt h17
    have e : pcS l rs = ⟨#[]⟩ := by unfold pcS; rw [if_neg hn]
    rw [e]
    refine crr (by kernel_rfl) rfl ?_   -- region 2
    exact c_ret (fr rfl rfl)
  · -- else
    have hR := nbf h17
    have e0 : pcS l rs = picS (ordL l rs) l rs := by unfold pcS; rw [if_pos hR]
    have hnd := (ord_ok hR).1
    have hol := (ord_ok hR).len
    have hok : ∀ a ∈ ordL l rs, a ∈ blocks l ∧ LnOk l a := fun a ha => lnOk_of hR ha
    have hcl := ord_cl hR
    have hrt : ∀ v ∈ rs, 4 ≤ v % 8 → v / 8 ∈ ordL l rs := fun v hv h4 => ord_roots hv h4
    rw [e0]
    refine c_skip ?_
    refine c_rs (by kernel_rfl) ?_   -- region 3
    refine sr 2 rfl ?_
    refine s_op rfl (o_ex loud_n rfl (met_c r rr o or l rs _ (hx.ex e1) (hy.ex e1) hR hlr) ?_)
    rintro v2 st2 ⟨q, rfl, hq⟩ e2
    have n1 := e1.n
    have n2 := e2.n
    have hx2 := (hx.ex e1).ex e2
    have hy2 := (hy.ex e1).ex e2
    have ht2 := (ht.ex e1).ex e2
    generalize hO : ordL l rs = O at *
    refine sra rfl ?_
    refine c_rs (by kernel_rfl) ?_   -- region 4
    refine s_op rfl (omapP loud_n ?_)
    rintro M st3 hM n3 ho3 e3
    refine sra rfl ?_
    refine c_seq ?_
    refine crr (by kernel_rfl) rfl ?_   -- region 5
    refine c_block ?_
    refine c_lp (α := Nat) (fun i => [(1, .sl rr or rs.length), (5, .sl q 0 O.length), (6, .map M), (22, .sl q 0 O.length), (23, I O.length), (24, I i)]) (fun _ => [(2, 2, [.sl r o l.length])])
      (fun i st' => Ext (fun k => st2.n ≤ k) st2 st' ∧ i ≤ O.length ∧ M < st'.n ∧ ∃ es, st'.ob M = .map es ∧ ∀ j : Nat, j < i → mget es (rd O j) = some (I j)) (fun i => O.length - i) 0 ⟨rfl, rfl, rfl, rfl, rfl, rfl, trivial⟩ ⟨rfl, rfl, trivial⟩
      ⟨e3.over, Nat.zero_le _, by omega, [], ho3, fun j hj => absurd hj (Nat.not_lt_zero _)⟩ ?_
    rintro i st4 ⟨e4, hi, hM4, es, ho4, hes⟩
    refine crr (by kernel_rfl) rfl ?_   -- region 6
    refine c_seq ?_
    refine c_if rfl (fun h25 => ?_) (fun h25 => ?_)
    · -- then
      have h25 := of_decide_eq_true h25
      refine c_skip ?_
      refine c_seq ?_
      refine c_block ?_
      refine c_rs (by kernel_rfl) ?_   -- region 7
      refine sr 1 rfl ?_
      refine s_op rfl (oidx rfl rfl rfl (by omega) (by omega) ?_)
      refine s_op rfl (old rfl rfl ((hq.over e4).at_.rd (by omega) (by omega)) ?_)
      refine sra rfl ?_
      refine c_region (by kernel_rfl) ?_   -- region 8
      refine sr 3 rfl ?_
      refine s_op rfl (omputP (v := I i) rfl rfl rfl rfl rfl rfl hM4 (fun h => absurd h (by omega)) ho4 rfl ?_)
      rintro st5 ho5 n5 e5
      refine s_end ?_
      refine c_region (by kernel_rfl) ?_   -- region 9
      refine s_op rfl (o_ar rfl rfl rfl (by omega) (by omega) ?_)
      refine sra rfl ⟨i + 1, ⟨rfl, rfl, rfl, rfl, rfl, rfl, trivial⟩, ⟨rfl, rfl, trivial⟩, ⟨e4.over e5 (fun k hk => by subst hk; omega), by omega, by omega, _, ho5, fun j hj => ?_⟩, by omega⟩   -- round ends
      rw [mget_put]
      by_cases hji : j = i
      · rw [if_pos (by rw [hji]), hji]
      · rw [if_neg, hes j (by omega)]
        intro h
        have h1 := ixS_rd O j 0 hnd (by omega)
        have h2 := ixS_rd O i 0 hnd (by omega)
        rw [h, h2] at h1
        omega
    · -- else
      have h25 := of_decide_eq_false h25
      have hie : i = O.length := by omega
      have hN : NumM st4 M O := numM_of hM4 ho4 hnd fun j hj => hes j (by omega)
      have hx4 := hx2.over e4
      have hy4 := hy2.over e4
      have ht4 := ht2.over e4
      have hq4 := hq.over e4
      have n4 := e4.n
      clear hes ho4
      refine c_exit ?_
      refine c_rs (by kernel_rfl) ?_   -- region 10
      refine s_op rfl (obsP [B8 114, B8 111, B8 111, B8 116, B8 115] loud_n rfl (by decide) rfl rfl ?_)
      rintro p0 st5 hp0 n5 ho5 e5
      refine s_op rfl (ocvP (l := [114, 111, 111, 116, 115]) ⟨#[114, 111, 111, 116, 115]⟩ (fun h => absurd h (by omega)) rfl ⟨_, rfl, rfl⟩ rfl (by decide) (by omega) ho5 rfl ?_)
      rintro st6 ho6 n6 e6
      refine sra rfl ?_
      have e46 : Ext (fun k => st4.n ≤ k) st4 st6 := e5.over.over e6 (fun k hk => by subst hk; omega)
      have hcs : ∀ n, (catV O (rs.take n) ⟨#[114, 111, 111, 116, 115]⟩).size ≤ 5 + 24 * 1048576 := fun n => by
        have := catV_size O (by omega) (rs.take n) ⟨#[114, 111, 111, 116, 115]⟩ (fun v hv => hwr v (List.mem_of_mem_take hv))
        rw [List.length_take] at this
        have e : (ByteArray.mk #[114, 111, 111, 116, 115]).size = 5 := rfl
        omega
      refine c_seq ?_
      refine crr (by kernel_rfl) rfl ?_   -- region 11
      refine c_block ?_
      refine c_lp (α := Nat × Nat) (fun i => [(5, .sl q 0 O.length), (6, .map M), (9, .sl (some i.2) 0 (catV O (rs.take i.1) ⟨#[114, 111, 111, 116, 115]⟩).size), (35, .sl rr or rs.length), (36, I rs.length), (37, I i.1)]) (fun _ => [(2, 2, [.sl r o l.length])])
        (fun i st' => Ext (fun k => st4.n ≤ k) st4 st' ∧ i.1 ≤ rs.length ∧ Fm st4.n st' i.2 (catV O (rs.take i.1) ⟨#[114, 111, 111, 116, 115]⟩)) (fun i => rs.length - i.1) (0, p0) ⟨rfl, rfl, rfl, rfl, rfl, rfl, trivial⟩ ⟨rfl, rfl, trivial⟩
        ⟨e46, Nat.zero_le _, by omega, by omega, ho6⟩ ?_
      rintro ⟨i, p⟩ st7 ⟨e7, hi, hp⟩
      dsimp only at hi hp ⊢
      have hs := hcs i
      refine crr (by kernel_rfl) rfl ?_   -- region 12
      refine c_seq ?_
      refine c_if rfl (fun h38 => ?_) (fun h38 => ?_)
      · -- then
        have h38 := of_decide_eq_true h38
        have hv := hwr.rd i
        have hv2 := hv
        unfold W1 at hv2
        have hvs := valS_size O (rd rs i) (by omega) hv
        have hnx : catV O (rs.take (i + 1)) ⟨#[114, 111, 111, 116, 115]⟩ = catV O (rs.take i) ⟨#[114, 111, 111, 116, 115]⟩ ++ valS O (rd rs i) := by rw [take_step (by omega), catV_app]
        refine c_skip ?_
        refine c_seq ?_
        refine c_block ?_
        refine c_rs (by kernel_rfl) ?_   -- region 13
        refine s_op rfl (oidx rfl rfl rfl (by omega) (by omega) ?_)
        refine s_op rfl (old rfl rfl ((hy4.over e7).rd (by omega) (by omega)) ?_)
        refine sra rfl ?_
        refine c_region (by kernel_rfl) ?_   -- region 14
        refine sr 3 rfl ?_
        refine s_op rfl (o_pure loud_n rfl (seen_c M O (rd rs i) _ (ht4.over e7) (hN.over e7) (by omega) hv2.1 hv2.2 (hrt _ (mem_rd (by omega)))) ?_)
        refine s_op rfl (oappSt rfl rfl rfl rfl rfl (hp.le (by omega)) rfl (by omega) ?_)
        rintro p' st8 hq8 hl8 ho8 e8
        refine sra rfl ?_
        refine c_region (by kernel_rfl) ?_   -- region 15
        refine s_op rfl (o_ar rfl rfl rfl (by omega) (by omega) ?_)
        have hp1 := hp.1
        have n7 := e7.n
        have n8 := e8.n
        refine sra rfl ⟨(i + 1, p'), ⟨rfl, rfl, by rw [hnx]; rfl, rfl, rfl, rfl, trivial⟩, ⟨rfl, rfl, trivial⟩, ⟨e7.over e8 (fun k hk => by subst hk; omega), by show i + 1 ≤ _; omega, by show st4.n ≤ p'; omega, hl8, by rw [hnx]; exact ho8⟩, by show rs.length - (i + 1) < rs.length - i; omega⟩   -- round ends
      · -- else
        have h38 := of_decide_eq_false h38
        have hri : rs.take i = rs := List.take_of_length_le (by omega)
        rw [hri] at hs hp
        have hb0 : (catV O rs ⟨#[114, 111, 111, 116, 115]⟩ ++ ⟨#[10]⟩).size ≤ 5 + 24 * 1048576 + 1 := by
          rw [ByteArray.size_append]
          show _ + 1 ≤ _
          omega
        have hls : ∀ n, (linesS O l (O.take n) (catV O rs ⟨#[114, 111, 111, 116, 115]⟩ ++ ⟨#[10]⟩)).size ≤ 5 + 24 * 1048576 + 1 + 67108865 * 2000 := fun n => by
          have := linesS_size (order := O) hw hl (by omega) (O.take n) (catV O rs ⟨#[114, 111, 111, 116, 115]⟩ ++ ⟨#[10]⟩) (fun a ha => (hok a (List.mem_of_mem_take ha)).2)
          rw [List.length_take] at this
          omega
        have hp1 := hp.1
        have n7 := e7.n
        refine c_exit ?_
        refine c_rs (by kernel_rfl) ?_   -- region 16
        refine sr 1 rfl ?_
        refine s_op rfl (obsP [B8 10] loud_n rfl (by decide) rfl rfl ?_)
        rintro p1 st8 hp8 n8 ho8 e8
        refine s_op rfl (oappBy 10 rfl rfl (by rw [hri]) ((hp.ex e8).le (by omega)) rfl (cell_row (st := st8) (i := p1) (by omega) ho8 0) (by omega) ?_)
        rintro p2 st9 hq9 hl9 ho9 e9
        rw [hri]
        refine sra rfl ?_
        have e49 : Ext (fun k => st4.n ≤ k) st4 st9 := (e7.over e8 (fun k hk => hk.elim)).over e9 (fun k hk => by subst hk; omega)
        refine c_seq ?_
        refine crr (by kernel_rfl) rfl ?_   -- region 17
        refine c_block ?_
        refine c_lp (α := Nat × Nat) (fun i => [(6, .map M), (9, .sl (some i.2) 0 (linesS O l (O.take i.1) (catV O rs ⟨#[114, 111, 111, 116, 115]⟩ ++ ⟨#[10]⟩)).size), (50, .sl q 0 O.length), (51, I O.length), (52, I i.1)]) (fun _ => [(2, 2, [.sl r o l.length])])
          (fun i st' => Ext (fun k => st4.n ≤ k) st4 st' ∧ i.1 ≤ O.length ∧ Fm st4.n st' i.2 (linesS O l (O.take i.1) (catV O rs ⟨#[114, 111, 111, 116, 115]⟩ ++ ⟨#[10]⟩))) (fun i => O.length - i.1) (0, p2) ⟨rfl, rfl, rfl, rfl, rfl, trivial⟩ ⟨rfl, rfl, trivial⟩
          ⟨e49, Nat.zero_le _, by show st4.n ≤ p2; omega, hl9, ho9⟩ ?_
        rintro ⟨j, p⟩ st10 ⟨e10, hj, hp⟩
        dsimp only at hj hp ⊢
        have hlj := hls j
        refine crr (by kernel_rfl) rfl ?_   -- region 18
        refine c_seq ?_
        refine c_if rfl (fun h53 => ?_) (fun h53 => ?_)
        · -- then
          have h53 := of_decide_eq_true h53
          obtain ⟨m1, m2⟩ := hok _ (mem_rd (show j < O.length by omega))
          have hz := line_size (order := O) m2 hw hl (by omega)
          have hnx : linesS O l (O.take (j + 1)) (catV O rs ⟨#[114, 111, 111, 116, 115]⟩ ++ ⟨#[10]⟩) = linesS O l (O.take j) (catV O rs ⟨#[114, 111, 111, 116, 115]⟩ ++ ⟨#[10]⟩) ++ (lineS O l (rd O j) ++ ⟨#[10]⟩) := by rw [take_step (by omega), linesS_app]
          have hz1 : (lineS O l (rd O j) ++ ⟨#[10]⟩ : ByteArray).size = (lineS O l (rd O j)).size + 1 := by rw [ByteArray.size_append]; rfl
          refine c_skip ?_
          refine c_seq ?_
          refine c_block ?_
          refine c_rs (by kernel_rfl) ?_   -- region 19
          refine s_op rfl (oidx rfl rfl rfl (by omega) (by omega) ?_)
          refine s_op rfl (old rfl rfl ((hq4.over e10).at_.rd (by omega) (by omega)) ?_)
          refine sra rfl ?_
          refine c_region (by kernel_rfl) ?_   -- region 20
          refine sr 4 rfl ?_
          refine s_op rfl (o_ex loud_n rfl (blockLine_c r o M l O (rd O j) _ (ht4.over e10) (hx4.over e10) (hN.over e10) m1 m2 hw hl (by omega) (hcl _ (mem_rd (show j < O.length by omega)))) ?_)
          rintro v11 st11 rfl e11
          refine s_op rfl (o_cat (u := ⟨#[10]⟩) rfl rfl (by show _ + 1 ≤ _; omega) ?_)
          refine s_op rfl (oappSt rfl rfl rfl rfl rfl ((hp.ex e11).le (by omega)) rfl (by rw [hz1]; omega) ?_)
          rintro p' st12 hq12 hl12 ho12 e12
          refine sra rfl ?_
          refine c_region (by kernel_rfl) ?_   -- region 21
          refine s_op rfl (o_ar rfl rfl rfl (by omega) (by omega) ?_)
          have hp1 := hp.1
          have n10 := e10.n
          have n11 := e11.n
          refine sra rfl ⟨(j + 1, p'), ⟨rfl, by rw [hnx]; rfl, rfl, rfl, rfl, trivial⟩, ⟨rfl, rfl, trivial⟩, ⟨(e10.over e11 (fun k hk => hk.elim)).over e12 (fun k hk => by subst hk; omega), by show j + 1 ≤ _; omega, by show st4.n ≤ p'; omega, hl12, by rw [hnx]; exact ho12⟩, by show O.length - (j + 1) < O.length - j; omega⟩   -- round ends
        · -- else
          have h53 := of_decide_eq_false h53
          have e : O.take j = O := List.take_of_length_le (by omega)
          rw [e] at hp ⊢
          refine c_exit ?_
          refine c_rs (by kernel_rfl) ?_   -- region 22
          refine sr 1 rfl ?_
          refine s_op rfl (omstr rfl ⟨_, rfl, rfl⟩ rfl rfl rfl rfl hp.2.1 hp.2.2 ?_)
          refine sra rfl ?_
          refine c_ret (fr rfl ?_)
          unfold picS
          rfl
end Go.Proofs.YtmphklmhhcmbnaaDoorW.Ax
