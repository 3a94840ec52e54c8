/- The operations that only read slots, constants and variables of the frame's own: what they yield, computed. -/
import Derived.Test.YtmphklmhhcmbnaaXc
import Derived.Laws.BitsLemmas
namespace Go.Proofs.YtmphklmhhcmbnaaW.Ax
open Go Go.RowKit
set_option linter.unusedVariables false
set_option linter.unusedSimpArgs false

/-! ### Types -/
inductive Z where
  | int (k : IntKind) | bool | str | nil | junk
  deriving DecidableEq
def Z.av : Z → AV
  | .int k => .int k 0
  | .bool => .bool false
  | .str => .str ByteArray.empty
  | .nil => .sl none 0 0
  | .junk => .junk
@[noinline] def Z.of : Value → Z
  | .int k n => if n = 0 then .int k else .junk
  | .bool b => if b = false then .bool else .junk
  | .string s => if s = ByteArray.empty then .str else .junk
  | .slice none 0 0 => .nil
  | _ => .junk
theorem Z.of_vr (n : Nat) (μ : Nat → Loc) (v : Value) : VR n μ (Z.of v).av v := by
  unfold Z.of
  split
  · split
    · rename_i h; subst h; simp [Z.av, VR]
    · simp [Z.av, VR]
  · split
    · rename_i h; subst h; simp [Z.av, VR]
    · simp [Z.av, VR]
  · split
    · rename_i h; subst h; simp [Z.av, VR]
    · simp [Z.av, VR]
  · simp [Z.av, VR]
  · simp [Z.av, VR]

inductive TyK where
  | int (k : IntKind) | bool | str | slice (e : Nat) | struct (n : Nat) | map (k e : Nat) | other
  deriving DecidableEq
structure TyI where
  k : TyK
  zero : List Z
  bytes : Nat
  deriving DecidableEq
def TyI.agg (i : TyI) : Bool := match i.k with | .struct _ => true | _ => false

@[noinline] def kOf (P : Program) : TypeDesc → Option TyK
  | .int k => some (.int k)
  | .bool => some .bool
  | .string => some .str
  | .slice e => some (.slice e)
  | .struct fs => if fs.toList.zipIdx.all (fun (f, j) => f.offset == j && ((P.info? f.type).map (·.size) == some 1) && !(match P.underlying f.type with | some (.struct _) | some (.array _ _) | none => true | _ => false)) then some (.struct fs.size) else none
  | .map k e => some (.map k e)
  | .array _ _ => none
  | _ => some .other
@[noinline] def tyOf (P : Program) (t : Nat) : Option TyI :=
  match P.info? t, P.underlying t with
  | some i, some d =>
    match i.zero, kOf P d with
    | some z, some k => if i.size = z.cells.size then some ⟨k, z.cells.toList.map Z.of, i.bytes⟩ else none
    | _, _ => none
  | _, _ => none

abbrev Tb := List (Nat × TyI)
def look (tb : Tb) (t : Nat) : Option TyI :=
  match tb with
  | [] => none
  | (i, x) :: r => cond (Nat.beq i t) (some x) (look r t)
class TbOk (P : Program) (tb : outParam Tb) : Prop where
  ok : (tb.all fun (t, i) => tyOf P t == some i) = true
  mixed : P.follows .mixedOrders = true

theorem look_ok {P : Program} {tb : Tb} [h : TbOk P tb] {t : Nat} {i : TyI} (hl : look tb t = some i) : tyOf P t = some i := by
  have h := h.ok
  induction tb with
  | nil => cases hl
  | cons x r ih =>
    obtain ⟨j, y⟩ := x
    simp only [List.all_cons, Bool.and_eq_true] at h
    unfold look at hl
    cases hb : Nat.beq j t with
    | true =>
      rw [hb] at hl
      have e := Nat.eq_of_beq_eq_true hb
      subst e
      simp only [cond_true] at hl
      injection hl with hl
      subst hl
      simpa using h.1
    | false =>
      rw [hb] at hl
      exact ih hl h.2

structure TyR (P : Program) (t : Nat) (i : TyI) : Prop where
  info : ∃ inf z, P.info? t = some inf ∧ inf.size = i.zero.length ∧ inf.bytes = i.bytes ∧ inf.zero = some z ∧ z.cells.toList.map Z.of = i.zero ∧ z.cells.size = inf.size
  und : ∃ d, P.underlying t = some d ∧ kOf P d = some i.k
theorem tyR {P : Program} {tb : Tb} [h : TbOk P tb] {t : Nat} {i : TyI} (hl : look tb t = some i) : TyR P t i := by
  have h := look_ok (P := P) hl
  unfold tyOf at h
  split at h
  · rename_i inf d hi hd
    split at h
    · rename_i z k hz hk
      split at h
      · rename_i hs
        injection h with h
        subst h
        exact ⟨⟨inf, z, hi, by simp [hs], rfl, hz, rfl, hs.symm⟩, ⟨d, hd, hk⟩⟩
      · cases h
    · cases h
  · cases h

section
variable {P : Program} {t : Nat} {i : TyI}
theorem TyR.und_of (h : TyR P t i) : (∀ k, i.k = .int k → P.underlying t = some (.int k)) ∧ (i.k = .bool → P.underlying t = some .bool) ∧ (i.k = .str → P.underlying t = some .string) ∧ (∀ e, i.k = .slice e → P.underlying t = some (.slice e)) ∧
    (∀ k e, i.k = .map k e → P.underlying t = some (.map k e)) := by
  obtain ⟨d, hd, hk⟩ := h.und
  refine ⟨fun k hh => ?_, fun hh => ?_, fun hh => ?_, fun e hh => ?_, fun k e hh => ?_⟩ <;> (rw [hh] at hk; rw [hd]; cases d <;> simp only [kOf] at hk <;> first | rfl | (injection hk with hk; injection hk with h1; subst h1; rfl) | (injection hk with hk; injection hk with h1 h2; subst h1; subst h2; rfl) | (injection hk with hk; cases hk; rfl) | (cases hk; done) | (injection hk with hk; cases hk; done) | (split at hk <;> cases hk))
theorem TyR.struct (h : TyR P t i) {n : Nat} (hk : i.k = .struct n) : ∃ fs : Array Field, P.underlying t = some (.struct fs) ∧ fs.size = n ∧ ∀ (j : Nat) (f : Field), fs[j]? = some f → f.offset = j ∧ (∃ inf, P.info? f.type = some inf ∧ inf.size = 1) ∧ ∃ d, P.underlying f.type = some d ∧ (∀ fs, d ≠ .struct fs) ∧ ∀ n e, d ≠ .array n e := by
  obtain ⟨d, hd, hk'⟩ := h.und
  rw [hk] at hk'
  cases d <;> simp only [kOf] at hk' <;> try (injection hk' with hk'; cases hk'; done)
  case struct fs =>
    split at hk'
    · rename_i hall
      injection hk' with hk'
      injection hk' with hk'
      refine ⟨fs, hd, hk', fun j f hf => ?_⟩
      have := List.all_eq_true.1 hall (f, j) (List.mem_zipIdx_iff_getElem?.2 (by simpa using hf))
      simp only [Bool.and_eq_true, beq_iff_eq, Bool.not_eq_true'] at this
      obtain ⟨⟨h1, h2⟩, h3⟩ := this
      refine ⟨h1, ?_, ?_⟩
      · cases hh : P.info? f.type with
        | none => rw [hh] at h2; simp at h2
        | some inf => rw [hh] at h2; exact ⟨inf, rfl, by simpa using h2⟩
      · cases hh : P.underlying f.type with
        | none => rw [hh] at h3; simp at h3
        | some d => exact ⟨d, rfl, fun fs e => by subst e; rw [hh] at h3; simp at h3, fun n e e' => by subst e'; rw [hh] at h3; simp at h3⟩
    · cases hk'
  all_goals cases hk'
theorem TyR.agg (h : TyR P t i) (w : World) : (isAgg t).run P w = .ok i.agg w := by
  obtain ⟨d, hd, hk⟩ := h.und
  have hr : (underlying t).run P w = .ok d w := by simp [underlying, hd]
  unfold isAgg
  rw [Sem.run_bind, hr, Result.andThen_ok]
  unfold TyI.agg
  cases d <;> simp only [kOf] at hk <;> first | (injection hk with hk; rw [← hk]; rfl) | (split at hk <;> first | (injection hk with hk; rw [← hk]; rfl) | (cases hk; done)) | (cases hk; done)
theorem TyR.size (h : TyR P t i) (w : World) : (sizeOf t).run P w = .ok i.zero.length w := by
  obtain ⟨inf, z, h1, h2, _⟩ := h.info
  simp [sizeOf, typeInfo, h1, h2]
theorem TyR.zeroV (h : TyR P t i) (n : Nat) (μ : Nat → Loc) : ∃ z : Value, (∀ w, (zeroValue t).run P w = .ok z w) ∧ VRL n μ (i.zero.map Z.av) z.cells.toList ∧ z.cells.size = i.zero.length := by
  obtain ⟨inf, z, h1, h2, _, h4, h5, h6⟩ := h.info
  refine ⟨z, fun w => by simp [zeroValue, typeInfo, h1, h4], ?_, by rw [h6, h2]⟩
  rw [← h5]
  refine VRL.of_get (by simp) fun j hj => ?_
  have hj' : j < z.cells.size := by simpa using hj
  simp [hj', Z.of_vr]
end

/-! ### Operands -/
def constA : Value → AV
  | .int k n => .int k n
  | .bool b => .bool b
  | .string s => .str s
  | .slice none 0 0 => .sl none 0 0
  | .func (.func f) ⟨[]⟩ ⟨[]⟩ => .fn f []
  | _ => .junk
theorem constA_vr (n : Nat) (μ : Nat → Loc) (v : Value) : VR n μ (constA v) v := by
  unfold constA
  split <;> simp [VR, VRL]
def av (a : Aa) : Operand → AV
  | .tmp t => a.s t
  | .const v => constA v
  | .func f => .fn f []
  | .global _ => .junk
def rv (a : Aa) : Operand → RV
  | .tmp t => match a.p t with
    | some (k, o) => .lp k o
    | none => .v (a.s t)
  | x => .v (av a x)
def avs (a : Aa) : List Operand → List AV
  | [] => []
  | x :: r => av a x :: avs a r
/-- A value, seen to its head. -/
def seen (v : AV) : Option RV :=
  match v with
  | .int k n => some (.v (.int k n))
  | .bool b => some (.v (.bool b))
  | .str s => some (.v (.str s))
  | .sl r o n => some (.v (.sl r o n))
  | .ptr r o => some (.v (.ptr r o))
  | .map r => some (.v (.map r))
  | .fn f c => some (.v (.fn f c))
  | .agg cs => some (.v (.agg cs))
  | .tup vs => some (.v (.tup vs))
  | .junk => some (.v .junk)
  | .und => some (.v .und)
theorem seen_eq {v : AV} {r : RV} (h : seen v = some r) : r = .v v := by
  unfold seen at h
  split at h <;> (injection h with h; exact h.symm)

section
variable {P : Program} {T : Nat → Prop} {μ0 : Nat → Loc} {st0 : St} {w0 : World} {N : Nat} {β : Nat → Nat} {a : Aa} {μ : Nat → Loc} {st : St} {w : World} {ca : Act}
theorem av_vr (h : Inv T μ0 st0 w0 N β a μ st w ca) (x : Operand) : VR st.n μ (av a x) (ca.eval x) := by
  cases x with
  | tmp t => exact h.slot t
  | const v => exact constA_vr _ _ v
  | func f => simp [av, VR, VRL, Act.eval]
  | global g => simp [av, VR]
theorem av_lp (h : Inv T μ0 st0 w0 N β a μ st w ca) {t k o : Nat} (hp : a.p t = some (k, o)) : ca.eval (.tmp t) = .pointer (some ⟨β k, o, none⟩) := h.lp t k o hp
theorem rv_rr (h : Inv T μ0 st0 w0 N β a μ st w ca) (x : Operand) : RR st.n μ β (rv a x) (ca.eval x) := by
  cases x with
  | tmp t =>
    cases hp : a.p t with
    | none => simp only [rv, hp]; exact h.slot t
    | some ko => simp only [rv, hp]; exact h.lp t ko.1 ko.2 hp
  | const v => exact constA_vr _ _ v
  | func f => exact av_vr h (.func f)
  | global g => exact av_vr h (.global g)
theorem avs_vr (h : Inv T μ0 st0 w0 N β a μ st w ca) : ∀ (xs : List Operand), VRL st.n μ (avs a xs) (xs.map ca.eval)
  | [] => by simp [avs, VRL]
  | x :: r => by
    simp only [avs, VRL, List.map_cons]
    exact ⟨_, _, rfl, av_vr h x, avs_vr h r⟩
end

/-! ### What they yield -/
def mvA (a : Aa) (x : Operand) : Option RV :=
  match rv a x with
  | .lp k o => some (.lp k o)
  | .v v => seen v
theorem mvA_eq {a : Aa} {x : Operand} {r : RV} (h : mvA a x = some r) : r = rv a x := by
  unfold mvA at h
  split at h
  · rename_i k o hh; injection h with h; rw [hh, h]
  · rename_i v hh; rw [hh]; exact seen_eq h

def kidx : IntKind → Nat
  | .i8 => 0 | .i16 => 1 | .i32 => 2 | .i64 => 3 | .u8 => 4 | .u16 => 5 | .u32 => 6 | .u64 => 7
theorem kidx_eq {j k : IntKind} (h : Nat.beq (kidx j) (kidx k) = true) : j = k := by
  have := Nat.eq_of_beq_eq_true h
  cases j <;> cases k <;> first | rfl | (simp [kidx] at this; done)

/-- A whole number's mask. -/
def maskA (m : Int) (n : Int) : Option Int :=
  if n = 7 then some (m % 8) else if n = 255 then some (m % 256) else if n = 4294967295 then some (m % 4294967296) else if n = 1073741823 then some (m % 1073741824) else none
def shrA (m : Int) (n : Int) : Option Int :=
  if n = 3 then some (m / 8) else if n = 33 then some (m / 8589934592) else if n = 45 then some (m / 35184372088832) else none
def binA (op : BinOp) (x y : AV) : Option AV :=
  match x, y with
  | .int k m, .int j n =>
    match op with
    | .shr => match k with | .i64 => (shrA m n).bind fun z => some (.int k z) | _ => none
    | op =>
      cond (Nat.beq (kidx k) (kidx j)) (match op with
        | .add => some (.int k (k.wrap (m + n)))
        | .sub => some (.int k (k.wrap (m - n)))
        | .mul => some (.int k (k.wrap (m * n)))
        | .and => match k with | .i64 => (maskA m n).bind fun z => some (.int k z) | _ => none
        | .eql => some (.bool (decide (m = n)))
        | .neq => some (.bool (!decide (m = n)))
        | .lss => some (.bool (decide (m < n)))
        | .leq => some (.bool (decide (m ≤ n)))
        | .gtr => some (.bool (decide (n < m)))
        | .geq => some (.bool (decide (n ≤ m)))
        | _ => none) none
  | .str s, .str u =>
    match op with
    | .eql => some (.bool (s.toList == u.toList))
    | .neq => some (.bool (!(s.toList == u.toList)))
    | _ => none
  | _, _ => none

theorem mask_i64 (m : Int) (j : Nat) (hj : j ≤ 62) : (Op.intBits .and .i64 m ((2 : Int) ^ j - 1)) = (pure (.int .i64 (m % 2 ^ j)) : Sem Value) := by
  have hp : (2 : Nat) ^ j < 2 ^ 63 := Nat.pow_lt_pow_right (by omega) (by omega)
  have hpos : 0 < (2 : Nat) ^ j := Nat.two_pow_pos j
  have h1 : ((2 : Int) ^ j - 1) = (((2 : Nat) ^ j - 1 : Nat) : Int) := by
    rw [Int.ofNat_sub hpos]; simp
  have h2 : (BitVec.ofInt 64 ((2 : Int) ^ j - 1)).toNat = 2 ^ j - 1 := by
    rw [h1, BitVec.toNat_ofInt]
    omega
  have key : (BitVec.ofInt 64 m &&& BitVec.ofInt 64 ((2 : Int) ^ j - 1)).toNat = (m % ((2 ^ 64 : Nat) : Int)).toNat % 2 ^ j := by
    rw [BitVec.toNat_and, h2, BitVec.toNat_ofInt, Nat.and_two_pow_sub_one_eq_mod]
  have hd : ((2 : Nat) ^ j) ∣ 2 ^ 64 := Nat.pow_dvd_pow 2 (by omega)
  have key2 : (((m % ((2 ^ 64 : Nat) : Int)).toNat % 2 ^ j : Nat) : Int) = m % 2 ^ j := by
    have h0 : 0 ≤ m % ((2 ^ 64 : Nat) : Int) := Int.emod_nonneg _ (by omega)
    rw [Int.natCast_emod, Int.toNat_of_nonneg h0]
    have : (((2 : Nat) ^ j : Nat) : Int) ∣ ((2 ^ 64 : Nat) : Int) := Int.natCast_dvd_natCast.2 hd
    rw [Int.emod_emod_of_dvd _ this]
    simp
  show (pure (.int .i64 (IntKind.i64.wrap ((BitVec.ofInt 64 m &&& BitVec.ofInt 64 ((2 : Int) ^ j - 1)).toNat : Nat))) : Sem Value) = _
  have hr : IntKind.i64.wrap (m % 2 ^ j) = m % 2 ^ j := by
    rw [IntKind.wrap_i64]
    have h0 : 0 ≤ m % 2 ^ j := Int.emod_nonneg _ (by have : (0 : Int) < 2 ^ j := by exact_mod_cast hpos
                                                     omega)
    have h3 : m % 2 ^ j < 2 ^ j := Int.emod_lt_of_pos _ (by exact_mod_cast hpos)
    have h4 : ((2 : Int) ^ j) < 2 ^ 63 := by exact_mod_cast hp
    omega
  rw [key, key2, hr]

theorem maskA_ok {m n z : Int} (h : maskA m n = some z) : Op.intBits .and .i64 m n = (pure (.int .i64 z) : Sem Value) := by
  unfold maskA at h
  split at h
  · rename_i e; subst e; injection h with h; subst h; exact mask_i64 m 3 (by omega)
  · split at h
    · rename_i e; subst e; injection h with h; subst h; exact mask_i64 m 8 (by omega)
    · split at h
      · rename_i e; subst e; injection h with h; subst h; exact mask_i64 m 32 (by omega)
      · split at h
        · rename_i e; subst e; injection h with h; subst h; exact mask_i64 m 30 (by omega)
        · cases h
theorem shrA_ok {m n z : Int} {j : IntKind} (h : shrA m n = some z) : Op.shift .shr .i64 m j n = (pure (.int .i64 z) : Sem Value) := by
  unfold shrA at h
  split at h
  · rename_i e; subst e; injection h with h; subst h; simp [Op.shift, IntKind.bits, Int.fdiv_eq_ediv_of_nonneg]
  · split at h
    · rename_i e; subst e; injection h with h; subst h; simp [Op.shift, IntKind.bits, Int.fdiv_eq_ediv_of_nonneg]
    · split at h
      · rename_i e; subst e; injection h with h; subst h; simp [Op.shift, IntKind.bits, Int.fdiv_eq_ediv_of_nonneg]
      · cases h

theorem binA_ok {n : Nat} {μ : Nat → Loc} {op : BinOp} {x y r : AV} (h : binA op x y = some r) {cx cy : Value} (hx : VR n μ x cx) (hy : VR n μ y cy) :
    ∃ c, VR n μ r c ∧ ∀ t, binOp op t cx cy = pure c := by
  cases x <;> cases y <;> simp only [binA] at h <;> try (cases h; done)
  case int.int k m j q =>
    simp only [VR] at hx hy
    subst hx; subst hy
    by_cases hop : op = .shr
    · subst hop
      simp only at h
      cases k <;> simp only at h <;> try (cases h; done)
      cases hz : shrA m q with
      | none => rw [hz] at h; cases h
      | some z =>
        rw [hz] at h
        simp only [Option.bind_some] at h
        injection h with h
        subst h
        exact ⟨.int .i64 z, by simp [VR], fun t => by rw [← shrA_ok (j := j) hz]; rfl⟩
    · cases hb : Nat.beq (kidx k) (kidx j) with
      | false => rw [hb] at h; cases op <;> simp at h hop
      | true =>
        have e := kidx_eq hb
        subst e
        rw [hb] at h
        cases op <;> simp only [cond_true] at h hop <;> try (cases h; done)
        case and =>
          cases k <;> simp only at h <;> try (cases h; done)
          cases hz : maskA m q with
          | none => rw [hz] at h; cases h
          | some z =>
            rw [hz] at h
            simp only [Option.bind_some] at h
            injection h with h
            subst h
            exact ⟨.int .i64 z, by simp [VR], fun t => by rw [← maskA_ok hz]; simp [binOp]⟩
        case shr => exact absurd trivial hop
        all_goals
          injection h with h
          subst h
          refine ⟨_, by simp only [VR]; rfl, fun t => ?_⟩
          simp [binOp, Op.intArith, Op.intCmp, bne, GT.gt, GE.ge]
        all_goals rfl
  case str.str s u =>
    simp only [VR] at hx hy
    subst hx; subst hy
    cases op <;> simp only at h <;> try (cases h; done)
    all_goals (injection h with h; subst h; exact ⟨_, by simp only [VR]; rfl, fun t => by simp [binOp, Op.stringOp]⟩)
end Go.Proofs.YtmphklmhhcmbnaaW.Ax
