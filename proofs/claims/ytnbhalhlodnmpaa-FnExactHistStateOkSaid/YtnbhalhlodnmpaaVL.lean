/- Words for the laws' own texts: loops over typed data. No condition. -/
import Derived.Test.YtnbhalhlodnmpaaV22
namespace Go.PA
theorem br_pos {ρ : Type} {p : Prop} [Decidable p] {a b : Option ρ} (h : p) : br (decide p) a b = a := by rw [decide_eq_true h]; rfl
theorem br_neg {ρ : Type} {p : Prop} [Decidable p] {a b : Option ρ} (h : ¬ p) : br (decide p) a b = b := by rw [decide_eq_false h]; rfl
theorem br_true {ρ : Type} {a b : Option ρ} : br true a b = a := rfl
theorem br_false {ρ : Type} {a b : Option ρ} : br false a b = b := rfl
theorem br_same {ρ : Type} (c : Bool) {a : Option ρ} : br c a a = a := by cases c <;> rfl
theorem chk_true {ρ : Type} {a : Option ρ} : chk true a = a := rfl
theorem chk_pos {ρ : Type} {p : Prop} [Decidable p] {a : Option ρ} (h : p) : chk (decide p) a = a := by rw [decide_eq_true h]; rfl
theorem chk_or {ρ : Type} {p : Prop} [Decidable p] {c : Bool} {a : Option ρ} (h : p) : chk (decide p || c) a = a := by rw [decide_eq_true h]; rfl
theorem wrap64 {n : Int} (h : -9223372036854775808 ≤ n) (h' : n ≤ 9223372036854775807) : IntKind.i64.wrap n = n := by
  unfold IntKind.wrap
  simp [IntKind.bits, IntKind.signed]
  omega
theorem wrapS {k : Nat} (h : k < 9223372036854775807) : IntKind.i64.wrap ((k : Int) + 1) = ((k + 1 : Nat) : Int) := by
  rw [wrap64] <;> omega
theorem toNat_coe (k : Nat) : ((k : Nat) : Int).toNat = k := rfl
/-- Up a loop. -/
theorem up {P : Nat → Prop} {N : Nat} (h0 : P N) (hs : ∀ k, k < N → P (k + 1) → P k) : P 0 := by
  have : ∀ n k, k + n = N → P k := by
    intro n
    induction n with
    | zero => intro k hk; simp at hk; subst hk; exact h0
    | succ n ih => intro k hk; exact hs k (by omega) (ih (k + 1) (by omega))
  exact this N 0 (by omega)
/-- A loop that lays a list's elements down in another. -/
theorem laid {α O : Type} {f : Nat → List α → O} {a : List α} {o : O} (h0 : f a.length a = o) (hs : ∀ k (h : k < a.length) r, r.length = a.length → f k r = f (k + 1) (r.set k a[k])) (r : List α) (hr : r.length = a.length) : f 0 r = o := by
  have : ∀ n k, k + n = a.length → ∀ r, r.length = a.length → (∀ j (h : j < a.length) (h' : j < r.length), j < k → r[j] = a[j]) → f k r = o := by
    intro n
    induction n with
    | zero =>
      intro k hk r hr he
      have : r = a := List.ext_getElem hr fun i h1 h2 => he i h2 h1 (by omega)
      subst this
      simp at hk
      subst hk
      exact h0
    | succ n ih =>
      intro k hk r hr he
      rw [hs k (by omega) r hr]
      refine ih (k + 1) (by omega) _ (by simpa using hr) fun j h h' hj => ?_
      rw [List.getElem_set]
      split
      · rename_i e; subst e; rfl
      · exact he j h (by omega) (by omega)
  exact this a.length 0 (by omega) r hr fun j _ _ hj => by omega
def allF (p : Nat → Bool) : Nat → Nat → Bool
  | _, 0 => true
  | k, n + 1 => p k && allF p (k + 1) n
theorem allF_congr {p q : Nat → Bool} {n : Nat} : ∀ {k : Nat}, (∀ j, k ≤ j → j < k + n → p j = q j) → allF p k n = allF q k n := by
  induction n with
  | zero => intro k h; rfl
  | succ n ih =>
    intro k h
    show (p k && allF p (k + 1) n) = (q k && allF q (k + 1) n)
    rw [h k (Nat.le_refl _) (by omega), ih fun j h1 h2 => h j (by omega) (by omega)]
theorem allF_true {p : Nat → Bool} {n : Nat} : ∀ {k : Nat}, (∀ j, k ≤ j → j < k + n → p j = true) → allF p k n = true := by
  induction n with
  | zero => intro k h; rfl
  | succ n ih =>
    intro k h
    show (p k && allF p (k + 1) n) = true
    rw [h k (Nat.le_refl _) (by omega), ih fun j h1 h2 => h j (by omega) (by omega)]
    rfl
/-- A loop that looks at each place till one will not do. -/
theorem every {O : Type} {f : Nat → O} {N : Nat} {p : Nat → Bool} {x y : O} (h0 : f N = x) (hs : ∀ k, k < N → f k = if p k = true then f (k + 1) else y) : f 0 = if allF p 0 N = true then x else y := by
  have : ∀ n k, k + n = N → f k = if allF p k n = true then x else y := by
    intro n
    induction n with
    | zero => intro k hk; simp at hk; subst hk; rw [h0]; rfl
    | succ n ih =>
      intro k hk
      rw [hs k (by omega), ih (k + 1) (by omega)]
      show _ = if (p k && allF p (k + 1) n) = true then x else y
      by_cases hp : p k = true
      · simp [hp]
      · simp [hp]
  exact this N 0 (by omega)
end Go.PA
