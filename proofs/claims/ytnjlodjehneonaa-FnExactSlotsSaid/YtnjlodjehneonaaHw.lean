/- Words of this session beside the print's: the builtin clear on a cut of a row that the call owns. -/
import Derived.Test.YtnjlodjehneonaaProg
import Derived.Lib.SliceRun
import Derived.WalkKit
import Derived.KernelRfl
import Derived.Test.YtnjlodjehneonaaWk
namespace Go.Proofs.YtnjlodjehneonaaW.Hand
open Go.RowKit Go.Proofs.YtnjlodjehneonaaW.PrintWords Go.Proofs.YtnjlodjehneonaaW.PrintLast Go.Proofs.YtnjlodjehneonaaW.PrintMore

theorem zero_int (w : World) : (zeroValue 3).run Try.prog w = .ok (.int .i64 0) w := by kernel_rfl

/-- The list behind a clear of the places lo .. lo + m - 1. -/
def cleared (xs : List Int) (lo m : Nat) : List Int := (List.range m).foldl (fun l j => l.set (lo + j) 0) xs

theorem cleared_zero (xs : List Int) (lo : Nat) : cleared xs lo 0 = xs := rfl
theorem cleared_succ (xs : List Int) (lo m : Nat) : cleared xs lo (m + 1) = cleared (xs.set lo 0) (lo + 1) m := by
  unfold cleared
  rw [List.range_succ_eq_map, List.foldl_cons, List.foldl_map, Nat.add_zero]
  have h : (fun (l : List Int) (j : Nat) => l.set (lo + Nat.succ j) 0) = (fun l j => l.set (lo + 1 + j) 0) := by
    funext l j
    rw [show lo + Nat.succ j = lo + 1 + j from by omega]
  rw [h]
theorem cleared_length (m : Nat) : ∀ (xs : List Int) (lo : Nat), (cleared xs lo m).length = xs.length := by
  induction m with
  | zero => intro xs lo; rfl
  | succ m ih => intro xs lo; rw [cleared_succ, ih, List.length_set]

section
variable {P : Program} {W : World} {base e g n c : Nat} {ok : Nat → Prop}
theorem R_setCells (m : Nat) : ∀ {W : World} {xs : List Int} (lo : Nat), (Kd.int .i64).R e W base ok (.slice (some ⟨g, 0, none⟩) n c) xs →
    (Kd.int .i64).R e (W.setCells g lo (List.replicate m (.int .i64 0))) base ok (.slice (some ⟨g, 0, none⟩) n c) (cleared xs lo m) ∧ W.grownBy (W.setCells g lo (List.replicate m (.int .i64 0))) (some g) := by
  induction m with
  | zero => intro W xs lo h; exact ⟨h, World.grownBy.refl _ _⟩
  | succ m ih =>
    intro W xs lo h
    have h1 := Kd.R_putg h (lo : Int) 0
    rw [Int.toNat_natCast] at h1
    have h2 := ih (lo + 1) h1.1
    rw [cleared_succ]
    refine ⟨h2.1, ?_⟩
    exact ⟨h2.2.os.trans h1.2.os, h2.2.tape.trans h1.2.tape, h2.2.output.trans h1.2.output, Nat.le_trans h1.2.size h2.2.size, fun i hi hr => (h2.2.block i (Nat.lt_of_lt_of_le hi h1.2.size) hr).trans (h1.2.block i hi hr)⟩

theorem R_clear_run (t ty : TypeId) (ht : P.underlying t = some (.slice e)) (hv : ∀ w, (zeroValue e).run P w = .ok (.int .i64 0) w)
    {xs : List Int} (HO : (Kd.int .i64).R e W base ok (.slice (some ⟨g, 0, none⟩) n c) xs) {lo hi : Nat} (h1 : lo ≤ hi) (h2 : hi ≤ n)
    {A : Option Addr} (hA : A = if c = lo then some ⟨g, 0, none⟩ else (some (⟨g, 0, none⟩ : Addr)).map (·.add (lo * 1))) (c2 : Nat) :
    ∃ w1, (Builtin.clear_ #[t] ty #[.slice A (hi - lo) c2]).run P W = .ok (.tuple #[]) w1 ∧ (Kd.int .i64).R e w1 base ok (.slice (some ⟨g, 0, none⟩) n c) (cleared xs lo (hi - lo)) ∧ W.grownBy w1 (some g) := by
  have hx := (Kd.R_reads' HO).1
  by_cases hm : hi - lo = 0
  · rw [hm]
    refine ⟨W, ?_, HO, World.grownBy.refl _ _⟩
    cases A <;> simp [Builtin.clear_, run_underlying ht]
  · have hc : ¬ c = lo := by
      have := (Kd.R_reads' HO).2.1
      omega
    rw [if_neg hc, Option.map_some, add_plain, Nat.mul_one] at hA
    subst hA
    have hrun := Lib.run_clear_slice (P := P) W t e ty (.int .i64 0) ht hv rfl rfl g lo (hi - lo) c2 (by omega)
      (fun j hj => by
        have h3 := (Kd.R_celln 0 HO ((lo + j : Nat) : Int) (by omega) (by omega)).1
        rw [Int.toNat_natCast] at h3
        rw [h3]; rfl)
      (fun j hj => by
        have h3 := (Kd.R_celln 0 HO ((lo + j : Nat) : Int) (by omega) (by omega)).2
        rw [Int.toNat_natCast] at h3
        exact h3)
    exact ⟨_, hrun, R_setCells (hi - lo) lo HO⟩
end

section
variable {P : Program} {ops : Array Oper} {rest : List Oper} {o : Oper} {a : Act} {Q : Exit → Act → World → Prop}
theorem R_clear {w0 W : World} (base : Nat) (hgd : o.guard = none) (s : Operand) (t e : TypeId) (ho : o.op = .call { callee := .builtin .clear, args := #[s], argTypes := #[t] })
    (ht : P.underlying t = some (.slice e)) (hv : ∀ w, (zeroValue e).run P w = .ok (.int .i64 0) w) {g n c m c2 lo hi : Nat} {A : Option Addr} {xs : List Int} {ok : Nat → Prop}
    (hs : a.eval s = .slice A m c2) (hA : A = if c = lo then some ⟨g, 0, none⟩ else (some (⟨g, 0, none⟩ : Addr)).map (·.add (lo * 1))) (hm : m = hi - lo) (h1 : lo ≤ hi) (h2 : hi ≤ n)
    (HO : (Kd.int .i64).R e W base ok (.slice (some ⟨g, 0, none⟩) n c) xs) (HB : Below base w0 W) (hbase : base ≤ W.heap.size)
    (h : ∀ w1, (Kd.int .i64).R e w1 base ok (.slice (some ⟨g, 0, none⟩) n c) (cleared xs lo (hi - lo)) → Below base w0 w1 → W.grownBy w1 (some g) → wpList P ops Q rest (a.put o.dst (.tuple #[])) w1) : wpList P ops Q (o :: rest) a W := by
  subst hm
  obtain ⟨w1, hr, h3, h4⟩ := R_clear_run (P := P) t o.type ht hv HO h1 h2 hA c2
  refine wpList_plain hgd fun K hK => ?_
  unfold Oper.wp execOp
  simp only [ho, resolve, invoke, builtin, Sem.run_bind, Sem.run_pure, Result.andThen_ok, List.map_toArray, List.map_cons, List.map_nil, hs, hr]
  exact hK _ _ (h w1 h3 (HB.grown h4 hbase (fun k hk => by injection hk with hk; subst hk; exact Kd.R_base HO _ (by simp [Value.ownBlock]))) h4)
end
end Go.Proofs.YtnjlodjehneonaaW.Hand
