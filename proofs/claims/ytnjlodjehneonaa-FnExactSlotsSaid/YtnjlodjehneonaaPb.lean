/- Plain laws of the statements' own helpers: what they make of a list, and that they come to an end. -/
import Derived.Test.YtnjlodjehneonaaPm
import Derived.Test.YtnjlodjehneonaaF1
import Derived.Test.YtnjlodjehneonaaF2
import Derived.Test.YtnjlodjehneonaaF4
namespace Go.Proofs.Ytnjlodjehneonaa.Pure
open Go.RowKit Go.Proofs.Ytnjlodjehneonaa.F Go.Proofs.YtnjlodjehneonaaW.PrintWords Go.Proofs.YtnjlodjehneonaaW.PrintLast Go.Proofs.YtnjlodjehneonaaW.PrintMore Go.Proofs.YtnjlodjehneonaaW.Hand

theorem wrap_in {x : Int} (h0 : -9223372036854775808 ≤ x) (h1 : x ≤ 9223372036854775807) : wrap64 x = x := by
  unfold wrap64
  omega

theorem rd_nat (l : List Int) (i : Nat) : rd l (i : Int) = l.getD i 0 := by simp [rd]

theorem ev_step {α : Type} {g f : Nat → Option α} {r : α} (h : ∀ k, g (k + 1) = f k) (k : Ev f r) : Ev g r := Ev.step h k
theorem ev_now {α : Type} {g : Nat → Option α} {r : α} (h : ∀ k, g k = some r) : Ev g r := Ev.congr h (Ev.now r)
theorem ev_done {α : Type} {g : Nat → Option α} {r : α} (h : ∀ k, g (k + 1) = some r) : Ev g r := Ev.step h (Ev.now r)
theorem ev_bind {α β : Type} {g : Nat → Option α} {f : Nat → α → Option β} {a : α} {r : β} (h : Ev g a) (k : Ev (fun n => f n a) r) : Ev (fun n => (g n).bind (f n)) r := Ev.bind h k

theorem ev_pos {α : Type} {c : Prop} [Decidable c] {g f : Nat → Option α} {r : α} (hc : c) (h : Ev g r) : Ev (fun n => if c then g n else f n) r := by
  simp only [if_pos hc]
  exact h
theorem ev_neg {α : Type} {c : Prop} [Decidable c] {g f : Nat → Option α} {r : α} (hc : ¬ c) (h : Ev f r) : Ev (fun n => if c then g n else f n) r := by
  simp only [if_neg hc]
  exact h

/-- The limit of a law's argument: at most 2^20 numbers. -/
abbrev Lim : Nat := 1048576

theorem getD_set_self (l : List Int) (i : Nat) (v : Int) (h : i < l.length) : (l.set i v).getD i 0 = v := by
  simp [List.getD, h]

theorem take_set_succ {l m : List Int} (i : Nat) (h : i < l.length) (hm : i < m.length) (ht : m.take i = l.take i) : (m.set i (l.getD i 0)).take (i + 1) = l.take (i + 1) := by
  apply List.ext_getElem?
  intro j
  have hj := congrArg (fun z : List Int => z[j]?) ht
  simp only [List.getElem?_take] at hj ⊢
  by_cases h1 : j < i + 1
  · simp only [h1, if_true]
    by_cases h2 : j = i
    · subst h2
      simp [List.getD, h, hm]
    · have h3 : j < i := by omega
      simp only [h3, if_true] at hj
      rw [List.getElem?_set_ne (by omega)]
      exact hj
  · simp [h1]

theorem toIntS_l0 (x0 : List Int) (hn : x0.length ≤ 35184372088832) (d : Nat) : ∀ (x3 : List Int) (i : Nat), x3.length = x0.length → x3.take i = x0.take i → i + d = x0.length →
    Ev (fun k => laws_toIntS.l0 k x0 x3 (i : Int)) x0 := by
  induction d with
  | zero =>
    intro x3 i hl ht hi
    refine ev_done fun k => ?_
    have e : x3 = x0 := by
      rw [List.take_of_length_le (by omega), List.take_of_length_le (by omega)] at ht
      exact ht
    simp only [laws_toIntS.l0]
    rw [if_neg (by omega), e]
  | succ d ih =>
    intro x3 i hl ht hi
    refine ev_step (f := fun k => laws_toIntS.l0 k x0 (x3.set i (x0.getD i 0)) ((i + 1 : Nat) : Int)) (fun k => ?_) (ih _ (i + 1) (by simpa using hl) (take_set_succ i (by omega) (by omega) ht) (by omega))
    simp only [laws_toIntS.l0]
    rw [if_pos (by omega), if_pos (by omega), if_pos (by omega), wrap_in (by omega) (by omega), rd_nat]
    simp

theorem toIntS_ev (l : List Int) (hn : l.length ≤ Lim) : Ev (fun k => laws_toIntS.f k l) l := by
  unfold Lim at hn
  refine Ev.congr (f := fun k => laws_toIntS.l0 k l (List.replicate l.length 0) ((0 : Nat) : Int)) (fun k => ?_) (toIntS_l0 l (by omega) l.length _ 0 (by simp) (by simp) (by omega))
  unfold laws_toIntS.f
  rw [if_pos (by omega), if_pos (by rw [Int.toNat_natCast]; omega), Int.toNat_natCast]
  rfl

theorem toSlab_ev (l : List Int) (hn : l.length ≤ Lim) : Ev (fun k => laws_toSlab.f k l) l := by
  unfold laws_toSlab.f
  exact ev_bind (toIntS_ev l hn) (Ev.now _)

theorem eqIntS_l0 (x0 : List Int) (hn : x0.length ≤ 4611686018427387904) (d : Nat) : ∀ i : Nat, i + d = x0.length → Ev (fun k => laws_eqIntS.l0 k x0 x0 (i : Int)) true := by
  induction d with
  | zero =>
    intro i hi
    refine ev_done fun k => ?_
    simp only [laws_eqIntS.l0]
    rw [if_neg (by omega)]
  | succ d ih =>
    intro i hi
    refine ev_step (f := fun k => laws_eqIntS.l0 k x0 x0 ((i + 1 : Nat) : Int)) (fun k => ?_) (ih (i + 1) (by omega))
    simp only [laws_eqIntS.l0]
    rw [if_pos (by omega), if_pos (by omega), if_pos (by omega), if_true, wrap_in (by omega) (by omega)]
    simp

theorem eqIntS_ev (l : List Int) (hn : l.length ≤ 4611686018427387904) : Ev (fun k => laws_eqIntS.f k l l) true := by
  refine Ev.congr (f := fun k => laws_eqIntS.l0 k l l ((0 : Nat) : Int)) (fun k => ?_) (eqIntS_l0 l hn l.length 0 (by omega))
  unfold laws_eqIntS.f
  rw [if_pos rfl]
  rfl

theorem eqSlab_ev (l : List Int) (hn : l.length ≤ 4611686018427387904) : Ev (fun k => laws_eqSlab.f k l l) true := by
  unfold laws_eqSlab.f
  exact ev_bind (eqIntS_ev l hn) (Ev.now _)

/-- What a list holds behind markIntS from the number a on. -/
def marked (n : Nat) (a : Int) : List Int := (List.range n).map (fun i : Nat => a + (i : Int))

theorem marked_length (n : Nat) (a : Int) : (marked n a).length = n := by simp [marked]
theorem marked_getD (n : Nat) (a : Int) (i : Nat) (h : i < n) : (marked n a).getD i 0 = a + i := by simp [marked, List.getD, h]

theorem markIntS_l0 (n : Nat) (a : Int) (h0 : 0 ≤ a) (hn : a + n ≤ 4611686018427387904) (d : Nat) : ∀ (x0 : List Int) (i : Nat), x0.length = n → x0.take i = (marked n a).take i → i + d = n →
    Ev (fun k => laws_markIntS.l0 k x0 (a + i) (i : Int)) (a + n, marked n a) := by
  induction d with
  | zero =>
    intro x0 i hl ht hi
    refine ev_done fun k => ?_
    have e : x0 = marked n a := by
      rw [List.take_of_length_le (by omega), List.take_of_length_le (by rw [marked_length]; omega)] at ht
      exact ht
    simp only [laws_markIntS.l0]
    rw [if_neg (by omega), e, show i = n by omega]
  | succ d ih =>
    intro x0 i hl ht hi
    have hx := marked_getD n a i (by omega)
    refine ev_step (f := fun k => laws_markIntS.l0 k (x0.set i ((marked n a).getD i 0)) (a + ((i + 1 : Nat) : Int)) ((i + 1 : Nat) : Int)) (fun k => ?_) (ih _ (i + 1) (by simpa using hl) (take_set_succ i (by rw [marked_length]; omega) (by omega) ht) (by omega))
    simp only [laws_markIntS.l0]
    rw [if_pos (by omega), if_pos (by omega), wrap_in (by omega) (by omega), wrap_in (by omega) (by omega), hx]
    simp [Int.add_assoc]

theorem markIntS_ev (l : List Int) (a : Int) (h0 : 0 ≤ a) (hn : a + l.length ≤ 4611686018427387904) : Ev (fun k => laws_markIntS.f k l a) (a + l.length, marked l.length a) := by
  refine Ev.congr (f := fun k => laws_markIntS.l0 k l (a + ((0 : Nat) : Int)) ((0 : Nat) : Int)) (fun k => ?_) (markIntS_l0 l.length a h0 hn l.length l 0 rfl (by simp) (by omega))
  unfold laws_markIntS.f
  simp

theorem markSlab_ev (l : List Int) (a : Int) (h0 : 0 ≤ a) (hn : a + l.length ≤ 4611686018427387904) : Ev (fun k => laws_markSlab.f k l a) (a + l.length, marked l.length a) := by
  unfold laws_markSlab.f
  exact ev_bind (markIntS_ev l a h0 hn) (Ev.now _)

theorem heldIntS_l0 (n : Nat) (a : Int) (h0 : 0 ≤ a) (hn : a + n ≤ 4611686018427387904) (d : Nat) : ∀ i : Nat, i + d = n → Ev (fun k => laws_heldIntS.l0 k (marked n a) (a + i) (i : Int)) (a + n) := by
  induction d with
  | zero =>
    intro i hi
    refine ev_done fun k => ?_
    simp only [laws_heldIntS.l0]
    rw [if_neg (by rw [marked_length]; omega), show i = n by omega]
  | succ d ih =>
    intro i hi
    refine ev_step (f := fun k => laws_heldIntS.l0 k (marked n a) (a + ((i + 1 : Nat) : Int)) ((i + 1 : Nat) : Int)) (fun k => ?_) (ih (i + 1) (by omega))
    simp only [laws_heldIntS.l0]
    rw [if_pos (by rw [marked_length]; omega), if_pos (by omega), rd_nat, marked_getD n a i (by omega), if_pos rfl, wrap_in (by omega) (by omega), wrap_in (by omega) (by omega)]
    simp [Int.add_assoc]

theorem heldIntS_ev (n : Nat) (a : Int) (h0 : 0 ≤ a) (hn : a + n ≤ 4611686018427387904) : Ev (fun k => laws_heldIntS.f k (marked n a) a) (a + n) := by
  refine Ev.congr (f := fun k => laws_heldIntS.l0 k (marked n a) (a + ((0 : Nat) : Int)) ((0 : Nat) : Int)) (fun k => ?_) (heldIntS_l0 n a h0 hn n 0 (by omega))
  unfold laws_heldIntS.f
  simp

theorem heldSlab_ev (n : Nat) (a : Int) (h0 : 0 ≤ a) (hn : a + n ≤ 4611686018427387904) : Ev (fun k => laws_heldSlab.f k (marked n a) a) (a + n) := by
  unfold laws_heldSlab.f
  refine ev_bind (heldIntS_ev n a h0 hn) ?_
  rw [if_neg (by omega)]
  exact Ev.now _

theorem szIntS_eq (l : List Int) (a : Int) (h0 : 0 ≤ a) (h1 : a ≤ 1048576) (hl : l.length ≤ 9223372036854775807) : laws_szIntS.f l a = some (if (l.length : Int) ≤ a then a - l.length else -1) := by
  unfold laws_szIntS.f
  rw [wrap_in (by omega) (by omega)]
  split <;> split <;> first | rfl | omega

theorem szSlab_eq (l : List Int) (a : Int) (h0 : 0 ≤ a) (h1 : a ≤ 1048576) (hl : l.length ≤ 9223372036854775807) : laws_szSlab.f l a = some (if (l.length : Int) ≤ a then a - l.length else -1) := by
  unfold laws_szSlab.f
  rw [szIntS_eq l a h0 h1 hl]
  simp only [Option.bind_some]
  split <;> split <;> first | rfl | omega

/-- The law's own bound: a slab of more than 2^20 words is passed by. -/
theorem sz_slab (l : List Int) (hl : l.length ≤ 9223372036854775807) {G : Nat → Int → Option Bool} (h : l.length ≤ Lim → Ev (fun k => G k (1048576 - l.length)) true) :
    Ev (fun k => (laws_szSlab.f l 1048576).bind fun t => if t < 0 then some true else G k t) true := by
  simp only [szSlab_eq l 1048576 (by omega) (by omega) hl, Option.bind_some]
  by_cases h1 : (l.length : Int) ≤ 1048576
  · rw [if_pos h1]
    exact ev_neg (by omega) (h (by unfold Lim; omega))
  · rw [if_neg h1]
    exact ev_pos (by omega) (Ev.now _)
/-- The same behind another part that was weighed. -/
theorem sz_slab2 (l : List Int) (hl : l.length ≤ 9223372036854775807) (a : Int) (h0 : 0 ≤ a) (ha : a ≤ 1048576) {G : Nat → Int → Option Bool} (h : (l.length : Int) ≤ a → Ev (fun k => G k (a - l.length)) true) :
    Ev (fun k => (laws_szSlab.f l a).bind fun t => if t < 0 then some true else G k t) true := by
  simp only [szSlab_eq l a h0 ha hl, Option.bind_some]
  by_cases h1 : (l.length : Int) ≤ a
  · rw [if_pos h1]
    exact ev_neg (by omega) (h h1)
  · rw [if_neg h1]
    exact ev_pos (by omega) (Ev.now _)
/-- The last look at a slab that came in: it stands as it was. -/
theorem same_slab (l : List Int) (hl : l.length ≤ Lim) {G : Nat → Option Bool} (h : Ev G true) :
    Ev (fun k => (laws_toSlab.f k l).bind fun t => (laws_eqSlab.f k l t).bind fun b => if b = true then G k else some false) true := by
  refine ev_bind (toSlab_ev l hl) (ev_bind (eqSlab_ev l (by unfold Lim at hl; omega)) ?_)
  exact ev_pos rfl h

end Go.Proofs.Ytnjlodjehneonaa.Pure
