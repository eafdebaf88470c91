/- Map laws: MapOk as the program's and as the reference's. No condition. -/
import Derived.Test.YtnbhalhlodnmpaaMP1
namespace Go.Proofs.Ytnbhalhlodnmpaa.MG
open Go.PA
set_option linter.unusedSimpArgs false
set_option linter.unusedVariables false

theorem chk_prev {ρ : Type} {k n : Nat} {X : Bool} {a : Option ρ} (hk : k < n) (hn : n < 9223372036854775807) : chk ((decide (0 ≤ (IntKind.i64.wrap ((k : Int) - (1 : Int))) ∧ (IntKind.i64.wrap ((k : Int) - (1 : Int))) < ((n : Nat) : Int))) || (!(X && (decide ((k : Int) > (0 : Int)))))) a = a := by
  rw [wrap64 (by omega) (by omega)]
  by_cases h : (k : Int) > 0
  · rw [decide_eq_true (by omega : 0 ≤ (k : Int) - 1 ∧ (k : Int) - 1 < (n : Int))]; rfl
  · rw [decide_eq_false h]
    cases X <;> simp [chk]
theorem br_not {ρ : Type} (c : Bool) {x y : Option ρ} : br c x y = if (!c) = true then y else x := by cases c <;> rfl
theorem chk_isSome {ρ α : Type} {v : α} {c : Bool} {a : Option ρ} : chk ((some v).isSome || c) a = a := rfl

def has (l : List (Int × Unit)) (n : Int) : Bool := !allF (fun k => !((l.getD k ((0 : Int), ())).1 == n)) 0 l.length
theorem G102_has (l : List (Int × Unit)) (n : Int) (hl : l.length < 9223372036854775807) : G102 l n = some (has l n, ()) := by
  rw [G102_eq]
  have := every (f := fun k => lg102_0 l n (k : Int)) (N := l.length) (p := fun k => !((l.getD k ((0 : Int), ())).1 == n)) (x := some (.inl ())) (y := some (.inr (.inl (true, ()))))
    (by show lg102_0 _ _ _ = _
        rw [lg102_0_eq]; simp (disch := omega) only [br_neg])
    (by intro k hk
        show lg102_0 _ _ _ = _
        rw [lg102_0_eq]; simp (disch := omega) only [br_pos, chk_pos, wrapS, toNat_coe]
        generalize ((l.getD k ((0 : Int), ())).1 == n) = c
        cases c <;> rfl)
  have e : lg102_0 l n (0 : Int) = _ := this
  rw [e]; unfold has
  cases allF (fun k => !((l.getD k ((0 : Int), ())).1 == n)) 0 l.length <;> rfl
theorem G114_has (l : List (Int × Unit)) (n : Int) (hl : l.length < 9223372036854775807) : G114 l n = some (has l n, ()) := by
  rw [G114_eq]
  have := every (f := fun k => lg114_0 n l ((l.length : Nat) : Int) (k : Int)) (N := l.length) (p := fun k => !((l.getD k ((0 : Int), ())).1 == n)) (x := some (.inl ())) (y := some (.inr (.inl (true, ()))))
    (by show lg114_0 _ _ _ _ = _
        rw [lg114_0_eq]; simp (disch := omega) only [br_neg])
    (by intro k hk
        show lg114_0 _ _ _ _ = _
        rw [lg114_0_eq]; simp (disch := omega) only [br_pos, chk_pos, wrapS, toNat_coe]
        generalize ((l.getD k ((0 : Int), ())).1 == n) = c
        cases c <;> rfl)
  have e : lg114_0 n l ((l.length : Nat) : Int) (0 : Int) = _ := this
  rw [e]; unfold has
  cases allF (fun k => !((l.getD k ((0 : Int), ())).1 == n)) 0 l.length <;> rfl

def memOk (l : List (Int × Unit)) : Bool := allF (fun k => f52 (l.getD k ((0 : Int), ())).1 0 2 && !has ((l.take k).drop 0) (l.getD k ((0 : Int), ())).1) 0 l.length
theorem lg78_mem (a0 a1 a2 a3 a4 a5 : Int) (l : List (Int × Unit)) (hl : l.length < 9223372036854775807) : lg78_0 (0 : Int) a0 a1 a2 a3 a4 a5 l = if memOk l = true then some (.inl ()) else some (.inr (.inl (false, ()))) := by
  have := every (f := fun k => lg78_0 (k : Int) a0 a1 a2 a3 a4 a5 l) (N := l.length) (p := fun k => f52 (l.getD k ((0 : Int), ())).1 0 2 && !has ((l.take k).drop 0) (l.getD k ((0 : Int), ())).1) (x := some (.inl ())) (y := some (.inr (.inl (false, ()))))
    (by show lg78_0 _ _ _ _ _ _ _ _ = _
        rw [lg78_0_eq]; simp (disch := omega) only [br_neg])
    (by intro k hk
        show lg78_0 _ _ _ _ _ _ _ _ = _
        rw [lg78_0_eq]; simp (disch := omega) only [br_pos, chk_pos, chk_or, wrapS, toNat_coe]
        rw [G102_has _ _ (by simp; omega)]
        simp only [chk_isSome, Option.getD_some]
        generalize f52 (l.getD k ((0 : Int), ())).1 0 2 = c
        generalize has ((l.take k).drop 0) (l.getD k ((0 : Int), ())).1 = d
        cases c <;> cases d <;> rfl)
  exact this
theorem lg105_mem (a0 a1 a2 a3 a4 a5 : Int) (l : List (Int × Unit)) (hl : l.length < 9223372036854775807) : lg105_0 l ((l.length : Nat) : Int) (0 : Int) a0 a1 a2 a3 a4 a5 l = if memOk l = true then some (.inl (a0, a1, a2, a3, a4, a5, l, ())) else some (.inr (.inl (false, ()))) := by
  have := every (f := fun k => lg105_0 l ((l.length : Nat) : Int) (k : Int) a0 a1 a2 a3 a4 a5 l) (N := l.length) (p := fun k => f52 (l.getD k ((0 : Int), ())).1 0 2 && !has ((l.take k).drop 0) (l.getD k ((0 : Int), ())).1) (x := some (.inl (a0, a1, a2, a3, a4, a5, l, ()))) (y := some (.inr (.inl (false, ()))))
    (by show lg105_0 _ _ _ _ _ _ _ _ _ _ = _
        rw [lg105_0_eq]; simp (disch := omega) only [br_neg])
    (by intro k hk
        show lg105_0 _ _ _ _ _ _ _ _ _ _ = _
        rw [lg105_0_eq]; simp (disch := omega) only [br_pos, chk_pos, chk_or, wrapS, toNat_coe]
        rw [G114_has _ _ (by simp; omega)]
        simp only [chk_isSome, Option.getD_some]
        have : f88 (l.getD k ((0 : Int), ())).1 = f52 (l.getD k ((0 : Int), ())).1 0 2 := rfl
        rw [this]
        generalize f52 (l.getD k ((0 : Int), ())).1 0 2 = c
        generalize has ((l.take k).drop 0) (l.getD k ((0 : Int), ())).1 = d
        cases c <;> cases d <;> rfl)
  exact this

def restOk (d3 d4 d5 : Int) (d6 : List (Int × Unit)) : Bool :=
  f52 d3 0 2 && (if (d3 == (0 : Int)) = true then ((((d4 == (0 : Int)) && (d5 == (0 : Int))) && (((d6.length : Nat) : Int) == (0 : Int)))) else (f52 d4 0 3 && f52 d5 1 99999 && !(decide (((d6.length : Nat) : Int) ≥ (3 : Int)))) && memOk d6)
theorem G105_ok (d0 d1 d2 d3 d4 d5 : Int) (d6 : List (Int × Unit)) (hl : d6.length < 9223372036854775807) : G105 d0 d1 d2 d3 d4 d5 d6 = some (restOk d3 d4 d5 d6, ()) := by
  rw [G105_eq, lg105_mem _ _ _ _ _ _ _ hl]
  unfold restOk
  by_cases h : d3 = 0
  · subst h
    rfl
  · have h1 : (d3 == (0 : Int)) = false := by simpa using h
    have h2 : f53 d3 (1 : Int) (2 : Int) = f52 d3 0 2 := by
      unfold f53 f52
      congr 1
      exact decide_eq_decide.2 (by omega)
    have h3 : f87 d4 = f52 d4 0 3 := rfl
    have h4 : f53 d5 (1 : Int) (99999 : Int) = f52 d5 1 99999 := rfl
    have h5 : decide (((d6.length : Nat) : Int) < (3 : Int)) = !(decide (((d6.length : Nat) : Int) ≥ (3 : Int))) := by
      rw [← decide_not]
      exact decide_eq_decide.2 (by omega)
    rw [h1]
    cases memOk d6 with
    | false => simp [br]
    | true =>
      simp only [if_true, br_false, Option.bind_some, h2, h3, h4, h5, Bool.false_eq_true, if_false, Bool.and_true, Bool.and_assoc]
def diskOk (m2 : Int) (e : DMapDisk) : Bool := (f52 e.1 1 (IntKind.i64.wrap (m2 - 1)) && (f52 e.2.1 1 8 && (f52 e.2.2.1 1 99999 && restOk e.2.2.2.1 e.2.2.2.2.1 e.2.2.2.2.2.1 e.2.2.2.2.2.2.1)))
theorem G78_ok (m0 m1 m2 : Int) (m3 : List DMapDisk) (m4 : List DMapView) (m5 : List DMapDone) (d0 d1 d2 d3 d4 d5 : Int) (d6 : List (Int × Unit)) (hl : d6.length < 9223372036854775807) :
    G78 m0 m1 m2 m3 m4 m5 d0 d1 d2 d3 d4 d5 d6 = some (diskOk m2 (d0, d1, d2, d3, d4, d5, d6, ()), ()) := by
  rw [G78_eq, lg78_mem _ _ _ _ _ _ _ hl]
  unfold diskOk restOk
  show _ = some ((f52 d0 1 (IntKind.i64.wrap (m2 - 1)) && (f52 d1 1 8 && (f52 d2 1 99999 && (f52 d3 0 2 && _)))), ())
  cases f52 d0 1 (IntKind.i64.wrap (m2 - 1))
  · rfl
  cases f52 d1 1 8
  · rfl
  cases f52 d2 1 99999
  · rfl
  cases f52 d3 0 2
  · rfl
  cases (d3 == (0 : Int))
  · cases f52 d4 0 3
    · rfl
    cases f52 d5 1 99999
    · rfl
    cases decide (((d6.length : Nat) : Int) ≥ (3 : Int))
    · cases memOk d6 <;> rfl
    · rfl
  · rfl

def prevD (a : List DMapDisk) (k : Nat) : DMapDisk := a.getD (IntKind.i64.wrap ((k : Int) - (1 : Int))).toNat ((0 : Int), (0 : Int), (0 : Int), (0 : Int), (0 : Int), (0 : Int), [], ())
def atD (a : List DMapDisk) (k : Nat) : DMapDisk := a.getD k ((0 : Int), (0 : Int), (0 : Int), (0 : Int), (0 : Int), (0 : Int), [], ())
def disksB (m2 : Int) (a : List DMapDisk) : Bool := allF (fun k => diskOk m2 (atD a k) && !(decide ((k : Int) > 0) && decide ((prevD a k).1 ≥ (atD a k).1))) 0 a.length
theorem atD_fit {a : List DMapDisk} (hf : ∀ x, x ∈ a → DiskFit x) {k : Nat} (hk : k < a.length) : (atD a k).2.2.2.2.2.2.1.length < 9223372036854775807 := by
  unfold atD
  rw [getD_get hk]
  have := (hf a[k] (List.getElem_mem hk)).list
  omega
theorem lg41_0_ok (x0 x1 x2 : Int) (x3 : List DMapDisk) (x4 : List DMapView) (x5 : List DMapDone) (hf : ∀ x, x ∈ x3 → DiskFit x) (hl : x3.length < 9223372036854775807) :
    lg41_0 (0 : Int) x0 x1 x2 x3 x4 x5 = if disksB x2 x3 = true then some (.inl (x0, x1, x2, x3, x4, x5, ())) else some (.inr (.inl (false, ()))) := by
  have := every (f := fun k => lg41_0 (k : Int) x0 x1 x2 x3 x4 x5) (N := x3.length) (p := fun k => diskOk x2 (atD x3 k) && !(decide ((k : Int) > 0) && decide ((prevD x3 k).1 ≥ (atD x3 k).1))) (x := some (.inl (x0, x1, x2, x3, x4, x5, ()))) (y := some (.inr (.inl (false, ()))))
    (by show lg41_0 _ _ _ _ _ _ _ = _
        rw [lg41_0_eq]; simp (disch := omega) only [br_neg])
    (by intro k hk
        show lg41_0 _ _ _ _ _ _ _ = _
        have hq := atD_fit hf hk
        unfold atD at hq
        rw [lg41_0_eq]; simp (disch := omega) only [br_pos, chk_pos, chk_or, wrapS, toNat_coe]
        rw [G78_ok _ _ _ _ _ _ _ _ _ _ _ _ _ hq]
        simp only [Option.bind_some]
        rw [chk_prev hk hl]
        show br ((!(diskOk x2 (atD x3 k))) || ((decide ((k : Int) > (0 : Int))) && (decide ((prevD x3 k).1 ≥ (atD x3 k).1)))) _ _ = _
        generalize diskOk x2 (atD x3 k) = c
        generalize ((decide ((k : Int) > (0 : Int))) && (decide ((prevD x3 k).1 ≥ (atD x3 k).1))) = d
        cases c <;> cases d <;> rfl)
  exact this
theorem lg81_0_ok (x2 : Int) (x3 : List DMapDisk) (hf : ∀ x, x ∈ x3 → DiskFit x) (hl : x3.length < 9223372036854775807) :
    lg81_0 x2 x3 x3 ((x3.length : Nat) : Int) (0 : Int) = if disksB x2 x3 = true then some (.inl ()) else some (.inr (.inl (false, ()))) := by
  have := every (f := fun k => lg81_0 x2 x3 x3 ((x3.length : Nat) : Int) (k : Int)) (N := x3.length) (p := fun k => diskOk x2 (atD x3 k) && !(decide ((k : Int) > 0) && decide ((prevD x3 k).1 ≥ (atD x3 k).1))) (x := some (.inl ())) (y := some (.inr (.inl (false, ()))))
    (by show lg81_0 _ _ _ _ _ = _
        rw [lg81_0_eq]; simp (disch := omega) only [br_neg])
    (by intro k hk
        show lg81_0 _ _ _ _ _ = _
        have hq := atD_fit hf hk
        unfold atD at hq
        rw [lg81_0_eq]; simp (disch := omega) only [br_pos, chk_pos, chk_or, wrapS, toNat_coe]
        rw [G105_ok _ _ _ _ _ _ _ hq]
        simp only [chk_isSome, Option.getD_some]
        rw [chk_prev hk hl]
        show br ((((((!(f52 (atD x3 k).1 (1 : Int) (IntKind.i64.wrap (x2 - (1 : Int))))) || ((decide ((k : Int) > (0 : Int))) && (decide ((prevD x3 k).1 ≥ (atD x3 k).1)))) || (!(f52 (atD x3 k).2.1 (1 : Int) (8 : Int)))) || (!(f52 (atD x3 k).2.2.1 (1 : Int) (99999 : Int)))) || (!(restOk (atD x3 k).2.2.2.1 (atD x3 k).2.2.2.2.1 (atD x3 k).2.2.2.2.2.1 (atD x3 k).2.2.2.2.2.2.1)))) _ _ = _
        unfold diskOk
        generalize ((decide ((k : Int) > (0 : Int))) && (decide ((prevD x3 k).1 ≥ (atD x3 k).1))) = d
        generalize f52 (atD x3 k).1 (1 : Int) (IntKind.i64.wrap (x2 - (1 : Int))) = c1
        generalize f52 (atD x3 k).2.1 (1 : Int) (8 : Int) = c2
        generalize f52 (atD x3 k).2.2.1 (1 : Int) (99999 : Int) = c3
        generalize restOk (atD x3 k).2.2.2.1 (atD x3 k).2.2.2.2.1 (atD x3 k).2.2.2.2.2.1 (atD x3 k).2.2.2.2.2.2.1 = c4
        cases c1 <;> cases c2 <;> cases c3 <;> cases c4 <;> cases d <;> rfl)
  exact this
def viewsB (m1 : Int) (a : List DMapView) : Bool := allF (fun k => let e : DMapView := a.getD k ((0 : Int), (0 : Int), (0 : Int), ()); !((((!(f52 e.1 (1 : Int) (99999 : Int))) || (!(f52 e.2.1 (0 : Int) (IntKind.i64.wrap (m1 - (1 : Int)))))) || (!(f52 e.2.2.1 (-1 : Int) (IntKind.i64.wrap (m1 - (1 : Int)))))) || (e.2.1 == e.2.2.1))) 0 a.length
theorem lg41_1_ok (x0 x1 x2 : Int) (x3 : List DMapDisk) (x4 : List DMapView) (x5 : List DMapDone) (hl : x4.length < 9223372036854775807) :
    lg41_1 (0 : Int) x0 x1 x2 x3 x4 x5 = if viewsB x1 x4 = true then some (.inl (x0, x1, x2, x3, x4, x5, ())) else some (.inr (.inl (false, ()))) := by
  refine every (f := fun k => lg41_1 (k : Int) x0 x1 x2 x3 x4 x5) (N := x4.length) ?_ ?_
  · show lg41_1 _ _ _ _ _ _ _ = _
    rw [lg41_1_eq]; simp (disch := omega) only [br_neg]
  · intro k hk
    show lg41_1 _ _ _ _ _ _ _ = _
    rw [lg41_1_eq]; simp (disch := omega) only [br_pos, chk_pos, chk_or, wrapS, toNat_coe]
    exact br_not _
theorem lg43_0_ok (x0 x1 x2 : Int) (x3 : List DMapDisk) (x4 : List DMapView) (x5 : List DMapDone) (hl : x4.length < 9223372036854775807) :
    lg43_0 x4 ((x4.length : Nat) : Int) (0 : Int) x0 x1 x2 x3 x4 x5 = if viewsB x1 x4 = true then some (.inl (x0, x1, x2, x3, x4, x5, ())) else some (.inr (.inl (false, ()))) := by
  refine every (f := fun k => lg43_0 x4 ((x4.length : Nat) : Int) (k : Int) x0 x1 x2 x3 x4 x5) (N := x4.length) ?_ ?_
  · show lg43_0 _ _ _ _ _ _ _ _ _ = _
    rw [lg43_0_eq]; simp (disch := omega) only [br_neg]
  · intro k hk
    show lg43_0 _ _ _ _ _ _ _ _ _ = _
    rw [lg43_0_eq]; simp (disch := omega) only [br_pos, chk_pos, chk_or, wrapS, toNat_coe]
    have hff : f53 = f52 := rfl
    rw [hff]
    exact br_not _
def atE (a : List DMapDone) (k : Nat) : DMapDone := a.getD k ((0 : Int), (0 : Int), (0 : Int), (0 : Int), ())
def prevE (a : List DMapDone) (k : Nat) : DMapDone := a.getD (IntKind.i64.wrap ((k : Int) - (1 : Int))).toNat ((0 : Int), (0 : Int), (0 : Int), (0 : Int), ())
def doneB (a : List DMapDone) : Bool := allF (fun k => !(((((!(f52 (atE a k).1 (0 : Int) (3 : Int))) || (!(f52 (atE a k).2.1 (1 : Int) (99999 : Int)))) || (!(f52 (atE a k).2.2.1 (0 : Int) (6 : Int)))) || (!(f57 (atE a k).2.2.2.1))) || ((decide ((k : Int) > (0 : Int))) && (decide ((prevE a k).1 ≥ (atE a k).1))))) 0 a.length
theorem lg41_2_ok (x0 x1 x2 : Int) (x3 : List DMapDisk) (x4 : List DMapView) (x5 : List DMapDone) (hl : x5.length < 9223372036854775807) :
    lg41_2 (0 : Int) x0 x1 x2 x3 x4 x5 = if doneB x5 = true then some (.inl ()) else some (.inr (.inl (false, ()))) := by
  refine every (f := fun k => lg41_2 (k : Int) x0 x1 x2 x3 x4 x5) (N := x5.length) ?_ ?_
  · show lg41_2 _ _ _ _ _ _ _ = _
    rw [lg41_2_eq]; simp (disch := omega) only [br_neg]
  · intro k hk
    show lg41_2 _ _ _ _ _ _ _ = _
    rw [lg41_2_eq]; simp (disch := omega) only [br_pos, chk_pos, chk_or, wrapS, toNat_coe]
    rw [chk_prev hk hl]
    show br (((((!(f52 (atE x5 k).1 (0 : Int) (3 : Int))) || (!(f52 (atE x5 k).2.1 (1 : Int) (99999 : Int)))) || (!(f52 (atE x5 k).2.2.1 (0 : Int) (6 : Int)))) || (!(f57 (atE x5 k).2.2.2.1))) || ((decide ((k : Int) > (0 : Int))) && (decide ((prevE x5 k).1 ≥ (atE x5 k).1)))) _ _ = _
    generalize (((((!(f52 (atE x5 k).1 (0 : Int) (3 : Int))) || (!(f52 (atE x5 k).2.1 (1 : Int) (99999 : Int)))) || (!(f52 (atE x5 k).2.2.1 (0 : Int) (6 : Int)))) || (!(f57 (atE x5 k).2.2.2.1))) || ((decide ((k : Int) > (0 : Int))) && (decide ((prevE x5 k).1 ≥ (atE x5 k).1)))) = c
    cases c <;> rfl
theorem lg43_1_ok (x0 x1 x2 : Int) (x3 : List DMapDisk) (x4 : List DMapView) (x5 : List DMapDone) (hl : x5.length < 9223372036854775807) :
    lg43_1 x5 ((x5.length : Nat) : Int) (0 : Int) x0 x1 x2 x3 x4 x5 = if doneB x5 = true then some (.inl ()) else some (.inr (.inl (false, ()))) := by
  refine every (f := fun k => lg43_1 x5 ((x5.length : Nat) : Int) (k : Int) x0 x1 x2 x3 x4 x5) (N := x5.length) ?_ ?_
  · show lg43_1 _ _ _ _ _ _ _ _ _ = _
    rw [lg43_1_eq]; simp (disch := omega) only [br_neg]
  · intro k hk
    show lg43_1 _ _ _ _ _ _ _ _ _ = _
    rw [lg43_1_eq]; simp (disch := omega) only [br_pos, chk_pos, chk_or, wrapS, toNat_coe]
    rw [chk_prev hk hl]
    show br (((((!(f52 (atE x5 k).1 (0 : Int) (3 : Int))) || ((decide ((k : Int) > (0 : Int))) && (decide ((prevE x5 k).1 ≥ (atE x5 k).1)))) || (!(f52 (atE x5 k).2.1 (1 : Int) (99999 : Int)))) || (!(f52 (atE x5 k).2.2.1 (0 : Int) (6 : Int)))) || (!(f57 (atE x5 k).2.2.2.1))) _ _ = _
    generalize f52 (atE x5 k).1 (0 : Int) (3 : Int) = c1
    generalize f52 (atE x5 k).2.1 (1 : Int) (99999 : Int) = c2
    generalize f52 (atE x5 k).2.2.1 (0 : Int) (6 : Int) = c3
    generalize f57 (atE x5 k).2.2.2.1 = c4
    generalize ((decide ((k : Int) > (0 : Int))) && (decide ((prevE x5 k).1 ≥ (atE x5 k).1))) = c5
    cases c1 <;> cases c2 <;> cases c3 <;> cases c4 <;> cases c5 <;> rfl
def mapB (x0 x1 x2 : Int) (x3 : List DMapDisk) (x4 : List DMapView) (x5 : List DMapDone) : Bool :=
  f52 x0 0 60 && (f52 x1 3 5 && (f52 x2 1 5 && (!(decide (((x3.length : Nat) : Int) > (4 : Int))) && (!(((x4.length : Nat) : Int) != (3 : Int)) && (!(decide (((x5.length : Nat) : Int) > (4 : Int))) && (disksB x2 x3 && (viewsB x1 x4 && doneB x5)))))))
theorem G41_ok {a0 a1 a2 : Int} {a3 : List DMapDisk} {a4 : List DMapView} {a5 : List DMapDone} (h : MFit a0 a1 a2 a3 a4 a5) : G41 a0 a1 a2 a3 a4 a5 = some (mapB a0 a1 a2 a3 a4 a5, ()) := by
  have h3 := h.l3; have h4 := h.l4; have h5 := h.l5
  rw [G41_eq, lg41_0_ok _ _ _ _ _ _ h.disk (by omega)]
  unfold mapB
  cases f52 a0 0 60
  · rfl
  cases f52 a1 3 5
  · rfl
  cases f52 a2 1 5
  · rfl
  cases (decide (((a3.length : Nat) : Int) > (4 : Int)))
  rotate_left
  · rfl
  cases (((a4.length : Nat) : Int) != (3 : Int))
  rotate_left
  · rfl
  cases (decide (((a5.length : Nat) : Int) > (4 : Int)))
  rotate_left
  · rfl
  cases disksB a2 a3
  · rfl
  show (lg41_1 (0 : Int) a0 a1 a2 a3 a4 a5).bind _ = _
  rw [lg41_1_ok _ _ _ _ _ _ (by omega)]
  cases viewsB a1 a4
  · rfl
  show (lg41_2 (0 : Int) a0 a1 a2 a3 a4 a5).bind _ = _
  rw [lg41_2_ok _ _ _ _ _ _ (by omega)]
  cases doneB a5 <;> rfl
theorem G81_ok (a1 a2 : Int) (a3 : List DMapDisk) (hf : ∀ x, x ∈ a3 → DiskFit x) (hl : a3.length < 9223372036854775807) : G81 a1 a2 a3 = some (f52 a1 3 5 && (f52 a2 1 5 && (!(decide (((a3.length : Nat) : Int) > (4 : Int))) && disksB a2 a3)), ()) := by
  rw [G81_eq, lg81_0_ok _ _ hf hl]
  have hff : f53 = f52 := rfl
  rw [hff]
  cases f52 a1 3 5
  · rfl
  cases f52 a2 1 5
  · rfl
  cases (decide (((a3.length : Nat) : Int) > (4 : Int)))
  rotate_left
  · rfl
  cases disksB a2 a3 <;> rfl
theorem G43_ok {a0 a1 a2 : Int} {a3 : List DMapDisk} {a4 : List DMapView} {a5 : List DMapDone} (h : MFit a0 a1 a2 a3 a4 a5) : G43 a0 a1 a2 a3 a4 a5 = some (mapB a0 a1 a2 a3 a4 a5, ()) := by
  have h3 := h.l3; have h4 := h.l4; have h5 := h.l5
  rw [G43_eq, G81_ok _ _ _ h.disk (by omega), lg43_0_ok _ _ _ _ _ _ (by omega)]
  have hff : f53 = f52 := rfl
  rw [hff]
  unfold mapB
  cases f52 a0 0 60
  · rfl
  cases f52 a1 3 5
  · rfl
  cases f52 a2 1 5
  · rfl
  cases (decide (((a3.length : Nat) : Int) > (4 : Int)))
  rotate_left
  · rfl
  cases disksB a2 a3
  · cases (((a4.length : Nat) : Int) != (3 : Int)) <;> cases (decide (((a5.length : Nat) : Int) > (4 : Int))) <;> rfl
  cases (((a4.length : Nat) : Int) != (3 : Int))
  rotate_left
  · rfl
  cases (decide (((a5.length : Nat) : Int) > (4 : Int)))
  rotate_left
  · rfl
  cases viewsB a1 a4
  · rfl
  show (lg43_1 a5 ((a5.length : Nat) : Int) (0 : Int) a0 a1 a2 a3 a4 a5).bind _ = _
  rw [lg43_1_ok _ _ _ _ _ _ (by omega)]
  cases doneB a5 <;> rfl
theorem G9_true {a0 a1 a2 : Int} {a3 : List DMapDisk} {a4 : List DMapView} {a5 : List DMapDone} (h : MFit a0 a1 a2 a3 a4 a5) : G9 a0 a1 a2 a3 a4 a5 = some (true, ()) := by
  have h3 := h.l3
  obtain ⟨s, hs⟩ := G40_some a0 a1 a2 a3 a4 a5 (1048576 : Int) (by omega)
  rw [G9_eq, hs, G42_copy h]
  simp only [Option.bind_some]
  rw [G41_ok h, G43_ok h]
  simp only [Option.bind_some]
  rw [G33_same h]
  simp only [Option.bind_some, beq_self_eq_true, Bool.not_true, br_false, br_same]
theorem pure9 (d) (h : Fits _ d) : F9 d = rTrue := by
  obtain ⟨a0, a1, a2, a3, a4, a5, ⟨⟩⟩ := d
  exact G9_true (MFit.of h)
end Go.Proofs.Ytnbhalhlodnmpaa.MG
