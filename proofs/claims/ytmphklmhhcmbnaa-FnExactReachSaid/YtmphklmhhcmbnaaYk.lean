/- slices.Contains; what is asked of arguments; FunOf: walked. -/
import Derived.Test.YtmphklmhhcmbnaaYj
namespace Go.Proofs.YtmphklmhhcmbnaaW.Ax
open Go Go.RowKit Go.Proofs Go.Proofs.Ytmphklmhhcmbnaa.Pure
set_option linter.unusedVariables false
set_option maxRecDepth 100000

def Id1 (st : St) (l : List Int) (x : Int) : AV → St → Prop := fun v st' => ∃ k : Int, v = I k ∧ (0 ≤ k ↔ x ∈ l) ∧ st = st'
theorem Index_c (r : Option Nat) (o : Nat) (l : List Int) (x : Int) (st : St) (hx : At st r o l) (hl : l.length ≤ 1099511627776) : ACalls Try.prog 101 [.sl r o l.length, I x] st No (Id1 st l x) := by
  refine ent (N := 19) Try.func101 rfl (by decide) rfl rfl rfl ?_
  refine crr (by kernel_rfl) rfl ?_   -- region 0
  refine c_seq ?_
  refine crr (by kernel_rfl) rfl ?_   -- region 1
  refine c_block ?_
  refine c_lp (α := Nat) (fun i => [(0, .sl r o l.length), (1, I x), (7, I l.length), (8, I i)]) (fun _ => []) (fun i st' => st = st' ∧ i ≤ l.length ∧ ∀ j : Nat, j < i → rd l j ≠ x) (fun i => l.length - i) 0 ⟨rfl, rfl, rfl, rfl, trivial⟩ trivial ⟨rfl, by omega, fun j hj => by omega⟩ ?_
  rintro i st' ⟨rfl, hi, hn⟩
  refine crr (by kernel_rfl) rfl ?_   -- region 2
  refine c_seq ?_
  refine c_if rfl (fun h9 => ?_) (fun h9 => ?_)
  · have h9 := of_decide_eq_true h9
    refine c_skip ?_
    refine c_seq ?_
    refine c_block ?_
    refine crr (by kernel_rfl) rfl ?_   -- region 3
    refine c_rs (by kernel_rfl) ?_   -- region 4
    refine sr 3 rfl ?_
    refine s_op rfl (oidx rfl rfl rfl (by omega) (by omega) ?_)
    refine s_op rfl (old rfl rfl (hx.rd (by omega) (by omega)) ?_)
    refine sra rfl ?_
    refine c_if rfl (fun h16 => ?_) (fun h16 => ?_)
    · have h16 := of_decide_eq_true h16
      refine crr (by kernel_rfl) rfl ?_   -- region 5
      exact c_ret (fr rfl ⟨i, rfl, ⟨fun _ => by rw [h16]; exact mem_rd (by omega), fun _ => by omega⟩, rfl⟩)
    · have h16 := of_decide_eq_false h16
      refine c_skip ?_
      refine c_region (by kernel_rfl) ?_   -- region 6
      refine s_op rfl (o_ar rfl rfl rfl (by omega) (by omega) ?_)
      refine sra rfl ⟨i + 1, ⟨rfl, rfl, rfl, rfl, trivial⟩, trivial, ⟨rfl, by omega, fun j hj => ?_⟩, by omega⟩
      by_cases e : j = i
      · rw [e]; exact fun h => h16 h.symm
      · exact hn j (by omega)
  · have h9 := of_decide_eq_false h9
    refine c_exit ?_
    refine crr (by kernel_rfl) rfl ?_   -- region 7
    refine c_ret (fr rfl ⟨-1, rfl, ⟨fun h => by omega, fun h => ?_⟩, rfl⟩)
    obtain ⟨j, hj, e⟩ := rd_mem h
    exact absurd e (hn j (by omega))
theorem Contains_c (r : Option Nat) (o : Nat) (l : List Int) (x : Int) (st : St) (hx : At st r o l) (hl : l.length ≤ 1099511627776) : ACalls Try.prog 67 [.sl r o l.length, I x] st No (Pure1 (.bool (bd (x ∈ l))) st) := by
  refine ent (N := 9) Try.func67 rfl (by decide) rfl rfl rfl ?_
  refine crr (by kernel_rfl) rfl ?_   -- region 0
  refine c_rs (by kernel_rfl) ?_   -- region 1
  refine sr 2 rfl ?_
  refine s_op rfl (o_ex loud_n rfl (Index_c _ _ _ _ _ hx hl) ?_)
  rintro v1 st1 ⟨k, rfl, hk, rfl⟩ _
  refine sra rfl ?_
  refine c_ret (fr rfl ⟨abd ?_, rfl⟩)
  rw [decide_eq_true_eq]; exact hk

/-- What is asked of arguments: each is right, and of one of its kinds. -/
def Rdy (l rs : List Int) (ks : Nat → List Int) : Prop := Rts l rs ∧ ∀ i : Nat, i < rs.length → rd rs i % 8 ∈ ks i
/-- One value, right and of a kind. -/
def Isk (l rs : List Int) (k : Int) : Prop := rd rs 0 % 8 = k ∧ Rts l rs
/-- A function's value. -/
def Fn1 (l : List Int) (v : Int) : Prop := v % 8 = 6 ∧ Rts l [v]
theorem fn_at {l : List Int} {v : Int} (h : Fn1 l v) : v / 8 ∈ blocks l ∧ 0 ≤ v / 8 ∧ v / 8 + 2 < l.length ∧ l.length ≤ 2000 := by
  have h1 := h.2.2 v (by simp)
  have h2 := h1.2.2.2.1 h.1
  have h3 := kat_in (by omega) h2
  have h4 := ((kat_of (by omega)).1 h2).2
  have h5 := h.2.1.2 _ h3.1
  have h6 := (block_at h3.1).2.2.1
  have h7 := size_pos h6
  have h8 := (h5.2.2.2.1 h4).1.1
  unfold Spl at h8
  exact ⟨h3.1, by omega, by omega, by omega⟩
noncomputable def FnR (l : List Int) (v : Int) : AV := .tup [I (cond (bd (Fn1 l v)) (rd l (v / 8 + 1)) (-1)), I (cond (bd (Fn1 l v)) (rd l (v / 8 + 2)) 0), .bool (bd (Fn1 l v))]
theorem fnR_t {l : List Int} {v : Int} (h : Fn1 l v) : FnR l v = .tup [I (rd l (v / 8 + 1)), I (rd l (v / 8 + 2)), .bool true] := by
  unfold FnR; rw [bdt.2 h]; rfl
theorem fnR_f {l : List Int} {v : Int} (h : ¬ Fn1 l v) : FnR l v = .tup [I (-1), I 0, .bool false] := by
  unfold FnR; rw [bdf.2 h]; rfl
end Go.Proofs.YtmphklmhhcmbnaaW.Ax
