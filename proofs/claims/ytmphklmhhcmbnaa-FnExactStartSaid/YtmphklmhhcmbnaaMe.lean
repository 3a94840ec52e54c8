/- Plain words: sums over blocks. No program in sight. -/
import Derived.Test.YtmphklmhhcmbnaaMd
namespace Go.Proofs.Ytmphklmhhcmbnaa.Pure
def sm (f : Int → Int) : List Int → Int
  | [] => 0
  | a :: l => f a + sm f l
theorem sm_app (f : Int → Int) : ∀ l m : List Int, sm f (l ++ m) = sm f l + sm f m
  | [], m => by simp [sm]
  | a :: l, m => by rw [List.cons_append, sm, sm, sm_app f l m]; omega
theorem sm_take (f : Int → Int) (l : List Int) (i : Nat) (h : i < l.length) : sm f (l.take (i + 1)) = sm f (l.take i) + f (l.getD i 0) := by
  have e : l.take (i + 1) = l.take i ++ [l.getD i 0] := by
    rw [List.take_succ_eq_append_getElem h]
    simp [List.getD, h]
  rw [e, sm_app]; simp [sm]
theorem sm_le (f : Int → Int) : ∀ l : List Int, (∀ x ∈ l, 0 ≤ f x ∧ f x ≤ 2000) → 0 ≤ sm f l ∧ sm f l ≤ 2000 * l.length
  | [], _ => by simp [sm]
  | a :: l, h => by
    have h1 := h a List.mem_cons_self
    have h2 := sm_le f l fun x hx => h x (List.mem_cons_of_mem _ hx)
    simp only [sm, List.length_cons]
    omega
theorem sm_eq (f g : Int → Int) : ∀ l : List Int, (∀ x ∈ l, f x = g x) → sm f l = sm g l
  | [], _ => rfl
  | a :: l, h => by rw [sm, sm, h a List.mem_cons_self, sm_eq f g l fun x hx => h x (List.mem_cons_of_mem _ hx)]
theorem sm_add (f g : Int → Int) : ∀ l : List Int, sm (fun x => f x + g x) l = sm f l + sm g l
  | [] => by simp [sm]
  | a :: l => by rw [sm, sm, sm, sm_add f g l]; omega
theorem sm_zero : ∀ l : List Int, sm (fun _ => 0) l = 0
  | [] => rfl
  | a :: l => by rw [sm, sm_zero l]; rfl
theorem sm_one (f : Int → Int) (a : Int) : ∀ l : List Int, l.Nodup → a ∈ l → sm (fun x => if x = a then f x else 0) l = f a
  | [], _, h => by simp at h
  | b :: l, hn, h => by
    obtain ⟨h1, h2⟩ := List.nodup_cons.1 hn
    rw [sm]
    by_cases e : b = a
    · subst e
      rw [if_pos rfl, sm_eq _ (fun _ => 0) l fun x hx => if_neg fun e : x = b => h1 (e ▸ hx), sm_zero]
      omega
    · rw [if_neg e, sm_one f a l h2 (by
        rcases List.mem_cons.1 h with h | h
        · exact absurd h.symm e
        · exact h)]
      omega
/-- The sum over some of them is the sum over them. -/
theorem sm_in (f : Int → Int) (l : List Int) (hl : l.Nodup) : ∀ m : List Int, m.Nodup → (∀ x ∈ m, x ∈ l) → sm (fun x => if x ∈ m then f x else 0) l = sm f m
  | [], _, _ => by
    rw [sm_eq _ (fun _ => 0) l fun x _ => if_neg (by simp), sm_zero]; rfl
  | a :: m, hn, hm => by
    obtain ⟨h1, h2⟩ := List.nodup_cons.1 hn
    have ih := sm_in f l hl m h2 fun x hx => hm x (List.mem_cons_of_mem _ hx)
    rw [sm, ← ih, ← sm_one f a l hl (hm a List.mem_cons_self), ← sm_add]
    refine sm_eq _ _ l fun x _ => ?_
    by_cases e : x = a
    · subst e; simp [h1]
    · simp [e]
theorem blocks_nodup (l : List Int) : (blocks l).Nodup := (blocks_sorted l).imp fun h => by omega
def szI (l : List Int) (a : Int) : Int := size l a.toNat
theorem tile {l : List Int} : ∀ (d i : Nat) (r : List Int), l.length - i ≤ d → i ≤ l.length → walk l i = some r → sm (szI l) r = (l.length : Int) - i
  | 0, i, r, hd, hi, hr => by
    rw [walk_end (by omega)] at hr
    obtain rfl := Option.some.inj hr
    simp [sm]; omega
  | d + 1, i, r, hd, hi, hr => by
    by_cases h : i < l.length
    · rw [walk_step h] at hr
      by_cases hh : headOk l i
      · have hs := size_pos hh
        rw [if_pos hh, Option.map_eq_some_iff] at hr
        obtain ⟨r', hr', rfl⟩ := hr
        have := tile d _ r' (by omega) hs.2 hr'
        rw [sm, this, szI, Int.toNat_natCast]
        omega
      · rw [if_neg hh] at hr; cases hr
    · rw [walk_end (by omega)] at hr
      obtain rfl := Option.some.inj hr
      simp [sm]; omega
def roomL (l : List Int) : Int := sm (fun a => if kindOf l a.toNat = 0 then szI l a else 0) (blocks l)
def wasteL (l live : List Int) : Int := sm (fun a => if kindOf l a.toNat ≠ 0 ∧ a ∉ live then szI l a else 0) (blocks l)
theorem waste_eq {l live : List Int} (hok : okB l = true) (hn : live.Nodup) (hl : ∀ a ∈ live, a ∈ blocks l ∧ kindOf l a.toNat ≠ 0) : (l.length : Int) - roomL l - sm (szI l) live = wasteL l live := by
  have h1 := tile l.length 0 (blocks l) (by omega) (by omega) (blocks_of hok).2
  have h2 := sm_in (szI l) (blocks l) (blocks_nodup l) live hn fun x hx => (hl x hx).1
  have h3 : sm (szI l) (blocks l) = sm (fun a => (if kindOf l a.toNat = 0 then szI l a else 0) + ((if kindOf l a.toNat ≠ 0 ∧ a ∉ live then szI l a else 0) + (if a ∈ live then szI l a else 0))) (blocks l) := sm_eq _ _ _ fun a ha => by
    by_cases hk : kindOf l a.toNat = 0
    · have : a ∉ live := fun h => (hl a h).2 hk
      simp [hk, this]
    · by_cases hm : a ∈ live
      · simp [hk, hm]
      · simp [hk, hm]
  rw [sm_add, sm_add, h2] at h3
  unfold roomL wasteL
  omega
theorem szI_le {l : List Int} {a : Int} (h : a ∈ blocks l) : 0 ≤ szI l a ∧ szI l a ≤ 2000 := by
  obtain ⟨n, rfl, h1, h2⟩ := blocks_mem h
  have := size_pos h2
  have := blocks_le h
  unfold szI
  rw [Int.toNat_natCast]
  omega
end Go.Proofs.Ytmphklmhhcmbnaa.Pure
