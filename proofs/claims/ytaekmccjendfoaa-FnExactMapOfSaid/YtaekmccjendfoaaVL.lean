/- Words for the laws' own texts: loops over typed data. No condition. -/
import Derived.Test.YtaekmccjendfoaaV22
namespace Go.PA
theorem br_pos {ρ : Type} {p : Prop} [Decidable p] {a b : Option ρ} (h : p) : br (decide p) a b = a := by rw [decide_eq_true h]; rfl
theorem br_neg {ρ : Type} {p : Prop} [Decidable p] {a b : Option ρ} (h : ¬ p) : br (decide p) a b = b := by rw [decide_eq_false h]; rfl
theorem br_true {ρ : Type} {a b : Option ρ} : br true a b = a := rfl
theorem br_false {ρ : Type} {a b : Option ρ} : br false a b = b := rfl
theorem br_same {ρ : Type} (c : Bool) {a : Option ρ} : br c a a = a := by cases c <;> rfl
theorem chk_true {ρ : Type} {a : Option ρ} : chk true a = a := rfl
theorem chk_pos {ρ : Type} {p : Prop} [Decidable p] {a : Option ρ} (h : p) : chk (decide p) a = a := by rw [decide_eq_true h]; rfl
theorem chk_or {ρ : Type} {p : Prop} [Decidable p] {c : Bool} {a : Option ρ} (h : p) : chk (decide p || c) a = a := by rw [decide_eq_true h]; rfl
theorem wrap64 {n : Int} (h : -9223372036854775808 ≤ n) (h' : n ≤ 9223372036854775807) : IntKind.i64.wrap n = n := by
  unfold IntKind.wrap
  simp [IntKind.bits, IntKind.signed]
  omega
theorem wrapS {k : Nat} (h : k < 9223372036854775807) : IntKind.i64.wrap ((k : Int) + 1) = ((k + 1 : Nat) : Int) := by
  rw [wrap64] <;> omega
theorem toNat_coe (k : Nat) : ((k : Nat) : Int).toNat = k := rfl
/-- Up a loop. -/
theorem up {P : Nat → Prop} {N : Nat} (h0 : P N) (hs : ∀ k, k < N → P (k + 1) → P k) : P 0 := by
  have : ∀ n k, k + n = N → P k := by
    intro n
    induction n with
    | zero => intro k hk; simp at hk; subst hk; exact h0
    | succ n ih => intro k hk; exact hs k (by omega) (ih (k + 1) (by omega))
  exact this N 0 (by omega)
/-- A loop that lays a list's elements down in another. -/
theorem laid {α O : Type} {f : Nat → List α → O} {a : List α} {o : O} (h0 : f a.length a = o) (hs : ∀ k (h : k < a.length) r, r.length = a.length → f k r = f (k + 1) (r.set k a[k])) (r : List α) (hr : r.length = a.length) : f 0 r = o := by
  have : ∀ n k, k + n = a.length → ∀ r, r.length = a.length → (∀ j (h : j < a.length) (h' : j < r.length), j < k → r[j] = a[j]) → f k r = o := by
    intro n
    induction n with
    | zero =>
      intro k hk r hr he
      have : r = a := List.ext_getElem hr fun i h1 h2 => he i h2 h1 (by omega)
      subst this
      simp at hk
      subst hk
      exact h0
    | succ n ih =>
      intro k hk r hr he
      rw [hs k (by omega) r hr]
      refine ih (k + 1) (by omega) _ (by simpa using hr) fun j h h' hj => ?_
      rw [List.getElem_set]
      split
      · rename_i e; subst e; rfl
      · exact he j h (by omega) (by omega)
  exact this a.length 0 (by omega) r hr fun j _ _ hj => by omega
def allF (p : Nat → Bool) : Nat → Nat → Bool
  | _, 0 => true
  | k, n + 1 => p k && allF p (k + 1) n
theorem allF_congr {p q : Nat → Bool} {n : Nat} : ∀ {k : Nat}, (∀ j, k ≤ j → j < k + n → p j = q j) → allF p k n = allF q k n := by
  induction n with
  | zero => intro k h; rfl
  | succ n ih =>
    intro k h
    show (p k && allF p (k + 1) n) = (q k && allF q (k + 1) n)
    rw [h k (Nat.le_refl _) (by omega), ih fun j h1 h2 => h j (by omega) (by omega)]
theorem allF_true {p : Nat → Bool} {n : Nat} : ∀ {k : Nat}, (∀ j, k ≤ j → j < k + n → p j = true) → allF p k n = true := by
  induction n with
  | zero => intro k h; rfl
  | succ n ih =>
    intro k h
    show (p k && allF p (k + 1) n) = true
    rw [h k (Nat.le_refl _) (by omega), ih fun j h1 h2 => h j (by omega) (by omega)]
    rfl
/-- A loop that looks at each place till one will not do. -/
theorem every {O : Type} {f : Nat → O} {N : Nat} {p : Nat → Bool} {x y : O} (h0 : f N = x) (hs : ∀ k, k < N → f k = if p k = true then f (k + 1) else y) : f 0 = if allF p 0 N = true then x else y := by
  have : ∀ n k, k + n = N → f k = if allF p k n = true then x else y := by
    intro n
    induction n with
    | zero => intro k hk; simp at hk; subst hk; rw [h0]; rfl
    | succ n ih =>
      intro k hk
      rw [hs k (by omega), ih (k + 1) (by omega)]
      show _ = if (p k && allF p (k + 1) n) = true then x else y
      by_cases hp : p k = true
      · simp [hp]
      · simp [hp]
  exact this N 0 (by omega)
/-- A loop that seeks. -/
def seekL {α O : Type} (p : α → Bool) (x : O) (y : α → Nat → O) : List α → Nat → O
  | [], _ => x
  | d :: l, k => if p d = true then y d k else seekL p x y l (k + 1)
theorem seekL_map {α O O' : Type} {p : α → Bool} {x : O} {y : α → Nat → O} (g : O → O') : ∀ (a : List α) (k : Nat), g (seekL p x y a k) = seekL p (g x) (fun d j => g (y d j)) a k
  | [], k => rfl
  | d :: l, k => by
    simp only [seekL]
    split
    · rfl
    · exact seekL_map g l (k + 1)
theorem seekL_congr {α O : Type} {p q : α → Bool} {x : O} {y z : α → Nat → O} : ∀ {a : List α} {k : Nat}, (∀ d ∈ a, p d = q d) → (∀ d ∈ a, ∀ j, p d = true → y d j = z d j) → seekL p x y a k = seekL q x z a k
  | [], k, _, _ => rfl
  | d :: l, k, h1, h2 => by
    simp only [seekL]
    rw [← h1 d List.mem_cons_self]
    by_cases hp : p d = true
    · rw [if_pos hp, if_pos hp, h2 d List.mem_cons_self k hp]
    · rw [if_neg hp, if_neg hp]
      exact seekL_congr (fun e he => h1 e (List.mem_cons_of_mem _ he)) fun e he => h2 e (List.mem_cons_of_mem _ he)
theorem seek {α O : Type} {f : Nat → O} {a : List α} {p : α → Bool} {x : O} {y : α → Nat → O} (h0 : f a.length = x) (hs : ∀ k (h : k < a.length), f k = if p a[k] = true then y a[k] k else f (k + 1)) : f 0 = seekL p x y a 0 := by
  have : ∀ n k, k + n = a.length → f k = seekL p x y (a.drop k) k := by
    intro n
    induction n with
    | zero =>
      intro k hk
      simp at hk; subst hk
      rw [List.drop_length]; exact h0
    | succ n ih =>
      intro k hk
      have hlt : k < a.length := by omega
      rw [List.drop_eq_getElem_cons hlt, hs k hlt, ih (k + 1) (by omega)]
      rfl
  have := this a.length 0 (by omega)
  rwa [List.drop_zero] at this
theorem getD_get {α : Type} {a : List α} {k : Nat} (h : k < a.length) {z : α} : a.getD k z = a[k] := by simp [List.getD, h]
/-- An answer comes, and it is well. -/
def Gives {α : Type} (o : Option α) (Q : α → Prop) : Prop := ∃ y, o = some y ∧ Q y
theorem Gives.bind {α β : Type} {o : Option α} {f : α → Option β} {Q : α → Prop} {R : β → Prop} (h : Gives o Q) (k : ∀ y, Q y → Gives (f y) R) : Gives (o.bind f) R := by
  obtain ⟨y, rfl, hy⟩ := h
  exact k y hy
theorem Gives.of {α : Type} {y : α} {Q : α → Prop} (h : Q y) : Gives (some y) Q := ⟨y, rfl, h⟩
theorem Gives.mono {α : Type} {o : Option α} {Q R : α → Prop} (h : Gives o Q) (k : ∀ y, Q y → R y) : Gives o R := by
  obtain ⟨y, e, hy⟩ := h
  exact ⟨y, e, k y hy⟩
theorem Gives.br {α : Type} {c : Bool} {x y : Option α} {Q : α → Prop} (hx : c = true → Gives x Q) (hy : c = false → Gives y Q) : Gives (Go.PA.br c x y) Q := by
  cases c with
  | true => exact hx rfl
  | false => exact hy rfl
theorem Gives.chk {α : Type} {c : Bool} {x : Option α} {Q : α → Prop} (hc : c = true) (hx : Gives x Q) : Gives (Go.PA.chk c x) Q := by subst hc; exact hx
theorem Gives.chkd {α : Type} {p : Prop} [Decidable p] {x : Option α} {Q : α → Prop} (hc : p) (hx : Gives x Q) : Gives (Go.PA.chk (decide p) x) Q := Gives.chk (decide_eq_true hc) hx
end Go.PA
