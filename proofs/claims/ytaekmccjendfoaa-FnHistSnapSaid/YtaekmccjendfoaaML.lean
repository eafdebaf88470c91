/- The plain law behind FnHistSnap; no condition. -/
import Derived.Test.YtaekmccjendfoaaMO1
import Derived.Test.YtaekmccjendfoaaVL
namespace Go.Proofs.Ytaekmccjendfoaa.MO
open Go.PA
set_option linter.unusedSimpArgs false
set_option linter.unusedVariables false
abbrev DMapDone := Int × Int × Int × Int × Unit

def idxD (id : Int) (ds : List DMapDisk) : Int := seekL (fun d => d.1 == id) (-1) (fun _ k => (k : Int)) ds 0
theorem disk_spec (id m0 m1 m2 : Int) (ds : List DMapDisk) (vs : List DMapView) (xs : List DMapDone) (hl : ds.length < 9223372036854775807) : G104 m0 m1 m2 ds vs xs id = some (idxD id ds, ()) := by
  rw [G104_eq]
  have h : lg104_0 id (0 : Int) m0 m1 m2 ds vs xs = _ := seek (f := fun k => lg104_0 id (k : Int) m0 m1 m2 ds vs xs) (a := ds) (p := fun d => d.1 == id) (x := some (.inl (()))) (y := fun _ k => some (.inr (.inl ((k : Int), ())))) ?_ ?_
  · rw [h, seekL_map (fun o => Option.bind o _)]
    rw [idxD, seekL_map (fun o => some (o, ()))]
    rfl
  · show lg104_0 _ _ _ _ _ _ _ _ = _
    rw [lg104_0_eq]
    simp (disch := omega) only [br_neg]
  · intro k hk
    show lg104_0 _ _ _ _ _ _ _ _ = if _ then _ else lg104_0 _ _ _ _ _ _ _ _
    rw [lg104_0_eq]
    simp (disch := omega) only [br_pos, chk_pos, wrapS, toNat_coe]
    simp only [getD_get hk]
    unfold br
    cases (ds[k].1 == id) <;> rfl
theorem disk_impl (id : Int) (ds : List DMapDisk) (hl : ds.length < 9223372036854775807) : G131 ds id = some (idxD id ds, ()) := by
  rw [G131_eq]
  have h : lg131_0 id ds ((ds.length : Nat) : Int) (0 : Int) = _ := seek (f := fun k => lg131_0 id ds ((ds.length : Nat) : Int) (k : Int)) (a := ds) (p := fun d => d.1 == id) (x := some (.inl (()))) (y := fun _ k => some (.inr (.inl ((k : Int), ())))) ?_ ?_
  · rw [h, seekL_map (fun o => Option.bind o _)]
    rw [idxD, seekL_map (fun o => some (o, ()))]
    rfl
  · show lg131_0 _ _ _ _ = _
    rw [lg131_0_eq]
    simp (disch := omega) only [br_neg]
  · intro k hk
    show lg131_0 _ _ _ _ = if _ then _ else lg131_0 _ _ _ _
    rw [lg131_0_eq]
    simp (disch := omega) only [br_pos, chk_pos, wrapS, toNat_coe]
    simp only [getD_get hk]
    unfold br
    cases (ds[k].1 == id) <;> rfl
/-- What was told: by client, each once, each well. -/
structure DonesOk (xs : List DMapDone) : Prop where
  sorted : xs.Pairwise fun a b => a.1 < b.1
  cl : ∀ d ∈ xs, 0 ≤ d.1 ∧ d.1 ≤ 3
  call : ∀ d ∈ xs, 1 ≤ d.2.1
theorem split_at (c : Int) : ∀ (xs : List DMapDone), xs.Pairwise (fun a b => a.1 < b.1) → (∀ d ∈ xs, c ≤ d.1) → ∃ p t, xs = p ++ t ∧ (p = [] ∨ ∃ e, p = [e] ∧ e.1 = c) ∧ t.Pairwise (fun a b => a.1 < b.1) ∧ ∀ d ∈ t, c + 1 ≤ d.1
  | [], _, _ => ⟨[], [], rfl, .inl rfl, .nil, fun d h => by simp at h⟩
  | d :: l, hs, hc => by
    obtain ⟨h1, h2⟩ := List.pairwise_cons.1 hs
    by_cases e : d.1 = c
    · exact ⟨[d], l, rfl, .inr ⟨d, rfl, e⟩, h2, fun x hx => by have := h1 x hx; omega⟩
    · refine ⟨[], d :: l, rfl, .inl rfl, hs, fun x hx => ?_⟩
      have h0 := hc d List.mem_cons_self
      rcases List.mem_cons.1 hx with rfl | hx
      · omega
      · have := h1 x hx; omega
theorem DonesOk.four {xs : List DMapDone} (h : DonesOk xs) : ∃ p0 p1 p2 p3 : List DMapDone, xs = p0 ++ (p1 ++ (p2 ++ p3)) ∧ (p0 = [] ∨ ∃ e, p0 = [e] ∧ e.1 = 0) ∧ (p1 = [] ∨ ∃ e, p1 = [e] ∧ e.1 = 1) ∧ (p2 = [] ∨ ∃ e, p2 = [e] ∧ e.1 = 2) ∧ (p3 = [] ∨ ∃ e, p3 = [e] ∧ e.1 = 3) := by
  obtain ⟨p0, t0, e0, c0, s0, g0⟩ := split_at 0 xs h.sorted fun d hd => (h.cl d hd).1
  obtain ⟨p1, t1, e1, c1, s1, g1⟩ := split_at 1 t0 s0 g0
  obtain ⟨p2, t2, e2, c2, s2, g2⟩ := split_at 2 t1 s1 g1
  obtain ⟨p3, t3, e3, c3, s3, g3⟩ := split_at 3 t2 s2 g2
  have ht : t3 = [] := by
    cases t3 with
    | nil => rfl
    | cons d l =>
      have h1 := g3 d List.mem_cons_self
      have h2 := (h.cl d (by rw [e0, e1, e2, e3]; simp)).2
      omega
  subst ht
  exact ⟨p0, p1, p2, p3, by rw [e0, e1, e2, e3, List.append_nil], c0, c1, c2, c3⟩
theorem DonesOk.len {xs : List DMapDone} (h : DonesOk xs) : xs.length ≤ 4 := by
  obtain ⟨p0, p1, p2, p3, rfl, c0, c1, c2, c3⟩ := h.four
  have q : ∀ {p : List DMapDone} {i : Int}, (p = [] ∨ ∃ e, p = [e] ∧ e.1 = i) → p.length ≤ 1 := fun h => by
    rcases h with rfl | ⟨e, rfl, _⟩ <;> simp
  have := q c0; have := q c1; have := q c2; have := q c3
  simp only [List.length_append]; omega
/-- A disk that fits. -/
def DiskFit (e : DMapDisk) : Prop := e.2.2.2.2.2.2.1.length * 8 ≤ 140737488351232
theorem DiskFit.list {e : DMapDisk} (h : DiskFit e) : e.2.2.2.2.2.2.1.length * 8 ≤ 140737488351232 := h
/-- A map state that fits. -/
structure MFit (a0 a1 a2 : Int) (a3 : List DMapDisk) (a4 : List DMapView) (a5 : List DMapDone) : Prop where
  disk : ∀ x, x ∈ a3 → DiskFit x
  l3 : a3.length * 72 ≤ 140737488351232
  l4 : a4.length * 24 ≤ 140737488351232
  l5 : a5.length * 32 ≤ 140737488351232
  i1 : inK .i64 a1
  i2 : inK .i64 a2
theorem chk_prev {ρ : Type} {k n : Nat} {X : Bool} {a : Option ρ} (hk : k < n) (hn : n < 9223372036854775807) : chk ((decide (0 ≤ (IntKind.i64.wrap ((k : Int) - (1 : Int))) ∧ (IntKind.i64.wrap ((k : Int) - (1 : Int))) < ((n : Nat) : Int))) || (!(X && (decide ((k : Int) > (0 : Int)))))) a = a := by
  rw [wrap64 (by omega) (by omega)]
  by_cases h : (k : Int) > 0
  · rw [decide_eq_true (by omega : 0 ≤ (k : Int) - 1 ∧ (k : Int) - 1 < (n : Int))]; rfl
  · rw [decide_eq_false h]
    cases X <;> simp [chk]
theorem br_not {ρ : Type} (c : Bool) {x y : Option ρ} : br c x y = if (!c) = true then y else x := by cases c <;> rfl
theorem chk_isSome {ρ α : Type} {v : α} {c : Bool} {a : Option ρ} : chk ((some v).isSome || c) a = a := rfl
def has (l : List (Int × Unit)) (n : Int) : Bool := !allF (fun k => !((l.getD k ((0 : Int), ())).1 == n)) 0 l.length
theorem G153_has (l : List (Int × Unit)) (n : Int) (hl : l.length < 9223372036854775807) : G153 l n = some (has l n, ()) := by
  rw [G153_eq]
  have := every (f := fun k => lg153_0 l n (k : Int)) (N := l.length) (p := fun k => !((l.getD k ((0 : Int), ())).1 == n)) (x := some (.inl ())) (y := some (.inr (.inl (true, ()))))
    (by show lg153_0 _ _ _ = _
        rw [lg153_0_eq]; simp (disch := omega) only [br_neg])
    (by intro k hk
        show lg153_0 _ _ _ = _
        rw [lg153_0_eq]; simp (disch := omega) only [br_pos, chk_pos, wrapS, toNat_coe]
        generalize ((l.getD k ((0 : Int), ())).1 == n) = c
        cases c <;> rfl)
  have e : lg153_0 l n (0 : Int) = _ := this
  rw [e]; unfold has
  cases allF (fun k => !((l.getD k ((0 : Int), ())).1 == n)) 0 l.length <;> rfl
theorem G182_has (l : List (Int × Unit)) (n : Int) (hl : l.length < 9223372036854775807) : G182 l n = some (has l n, ()) := by
  rw [G182_eq]
  have := every (f := fun k => lg182_0 n l ((l.length : Nat) : Int) (k : Int)) (N := l.length) (p := fun k => !((l.getD k ((0 : Int), ())).1 == n)) (x := some (.inl ())) (y := some (.inr (.inl (true, ()))))
    (by show lg182_0 _ _ _ _ = _
        rw [lg182_0_eq]; simp (disch := omega) only [br_neg])
    (by intro k hk
        show lg182_0 _ _ _ _ = _
        rw [lg182_0_eq]; simp (disch := omega) only [br_pos, chk_pos, wrapS, toNat_coe]
        generalize ((l.getD k ((0 : Int), ())).1 == n) = c
        cases c <;> rfl)
  have e : lg182_0 n l ((l.length : Nat) : Int) (0 : Int) = _ := this
  rw [e]; unfold has
  cases allF (fun k => !((l.getD k ((0 : Int), ())).1 == n)) 0 l.length <;> rfl
def memOk (l : List (Int × Unit)) : Bool := allF (fun k => f56 (l.getD k ((0 : Int), ())).1 0 2 && !has ((l.take k).drop 0) (l.getD k ((0 : Int), ())).1) 0 l.length
theorem lg101_mem (a0 a1 a2 a3 a4 a5 : Int) (l : List (Int × Unit)) (hl : l.length < 9223372036854775807) : lg101_0 (0 : Int) a0 a1 a2 a3 a4 a5 l = if memOk l = true then some (.inl ()) else some (.inr (.inl (false, ()))) := by
  have := every (f := fun k => lg101_0 (k : Int) a0 a1 a2 a3 a4 a5 l) (N := l.length) (p := fun k => f56 (l.getD k ((0 : Int), ())).1 0 2 && !has ((l.take k).drop 0) (l.getD k ((0 : Int), ())).1) (x := some (.inl ())) (y := some (.inr (.inl (false, ()))))
    (by show lg101_0 _ _ _ _ _ _ _ _ = _
        rw [lg101_0_eq]; simp (disch := omega) only [br_neg])
    (by intro k hk
        show lg101_0 _ _ _ _ _ _ _ _ = _
        rw [lg101_0_eq]; simp (disch := omega) only [br_pos, chk_pos, chk_or, wrapS, toNat_coe]
        rw [G153_has _ _ (by simp; omega)]
        simp only [chk_isSome, Option.getD_some]
        generalize f56 (l.getD k ((0 : Int), ())).1 0 2 = c
        generalize has ((l.take k).drop 0) (l.getD k ((0 : Int), ())).1 = d
        cases c <;> cases d <;> rfl)
  exact this
theorem lg172_mem (a0 a1 a2 a3 a4 a5 : Int) (l : List (Int × Unit)) (hl : l.length < 9223372036854775807) : lg172_0 l ((l.length : Nat) : Int) (0 : Int) a0 a1 a2 a3 a4 a5 l = if memOk l = true then some (.inl (a0, a1, a2, a3, a4, a5, l, ())) else some (.inr (.inl (false, ()))) := by
  have := every (f := fun k => lg172_0 l ((l.length : Nat) : Int) (k : Int) a0 a1 a2 a3 a4 a5 l) (N := l.length) (p := fun k => f56 (l.getD k ((0 : Int), ())).1 0 2 && !has ((l.take k).drop 0) (l.getD k ((0 : Int), ())).1) (x := some (.inl (a0, a1, a2, a3, a4, a5, l, ()))) (y := some (.inr (.inl (false, ()))))
    (by show lg172_0 _ _ _ _ _ _ _ _ _ _ = _
        rw [lg172_0_eq]; simp (disch := omega) only [br_neg])
    (by intro k hk
        show lg172_0 _ _ _ _ _ _ _ _ _ _ = _
        rw [lg172_0_eq]; simp (disch := omega) only [br_pos, chk_pos, chk_or, wrapS, toNat_coe]
        rw [G182_has _ _ (by simp; omega)]
        simp only [chk_isSome, Option.getD_some]
        have : f103 (l.getD k ((0 : Int), ())).1 = f56 (l.getD k ((0 : Int), ())).1 0 2 := rfl
        rw [this]
        generalize f56 (l.getD k ((0 : Int), ())).1 0 2 = c
        generalize has ((l.take k).drop 0) (l.getD k ((0 : Int), ())).1 = d
        cases c <;> cases d <;> rfl)
  exact this
def restOk (d3 d4 d5 : Int) (d6 : List (Int × Unit)) : Bool :=
  f56 d3 0 2 && (if (d3 == (0 : Int)) = true then ((((d4 == (0 : Int)) && (d5 == (0 : Int))) && (((d6.length : Nat) : Int) == (0 : Int)))) else (f56 d4 0 3 && f56 d5 1 99999 && !(decide (((d6.length : Nat) : Int) ≥ (3 : Int)))) && memOk d6)
theorem G172_ok (d0 d1 d2 d3 d4 d5 : Int) (d6 : List (Int × Unit)) (hl : d6.length < 9223372036854775807) : G172 d0 d1 d2 d3 d4 d5 d6 = some (restOk d3 d4 d5 d6, ()) := by
  rw [G172_eq, lg172_mem _ _ _ _ _ _ _ hl]
  unfold restOk
  by_cases h : d3 = 0
  · subst h
    rfl
  · have h1 : (d3 == (0 : Int)) = false := by simpa using h
    have h2 : f64 d3 (1 : Int) (2 : Int) = f56 d3 0 2 := by
      unfold f64 f56
      congr 1
      exact decide_eq_decide.2 (by omega)
    have h3 : f143 d4 = f56 d4 0 3 := rfl
    have h4 : f64 d5 (1 : Int) (99999 : Int) = f56 d5 1 99999 := rfl
    have h5 : decide (((d6.length : Nat) : Int) < (3 : Int)) = !(decide (((d6.length : Nat) : Int) ≥ (3 : Int))) := by
      rw [← decide_not]
      exact decide_eq_decide.2 (by omega)
    rw [h1]
    cases memOk d6 with
    | false => simp [br]
    | true =>
      simp only [if_true, br_false, Option.bind_some, h2, h3, h4, h5, Bool.false_eq_true, if_false, Bool.and_true, Bool.and_assoc]
def diskOk (m2 : Int) (e : DMapDisk) : Bool := (f56 e.1 1 (IntKind.i64.wrap (m2 - 1)) && (f56 e.2.1 1 8 && (f56 e.2.2.1 1 99999 && restOk e.2.2.2.1 e.2.2.2.2.1 e.2.2.2.2.2.1 e.2.2.2.2.2.2.1)))
theorem G101_ok (m0 m1 m2 : Int) (m3 : List DMapDisk) (m4 : List DMapView) (m5 : List DMapDone) (d0 d1 d2 d3 d4 d5 : Int) (d6 : List (Int × Unit)) (hl : d6.length < 9223372036854775807) :
    G101 m0 m1 m2 m3 m4 m5 d0 d1 d2 d3 d4 d5 d6 = some (diskOk m2 (d0, d1, d2, d3, d4, d5, d6, ()), ()) := by
  rw [G101_eq, lg101_mem _ _ _ _ _ _ _ hl]
  unfold diskOk restOk
  show _ = some ((f56 d0 1 (IntKind.i64.wrap (m2 - 1)) && (f56 d1 1 8 && (f56 d2 1 99999 && (f56 d3 0 2 && _)))), ())
  cases f56 d0 1 (IntKind.i64.wrap (m2 - 1))
  · rfl
  cases f56 d1 1 8
  · rfl
  cases f56 d2 1 99999
  · rfl
  cases f56 d3 0 2
  · rfl
  cases (d3 == (0 : Int))
  · cases f56 d4 0 3
    · rfl
    cases f56 d5 1 99999
    · rfl
    cases decide (((d6.length : Nat) : Int) ≥ (3 : Int))
    · cases memOk d6 <;> rfl
    · rfl
  · rfl
def prevD (a : List DMapDisk) (k : Nat) : DMapDisk := a.getD (IntKind.i64.wrap ((k : Int) - (1 : Int))).toNat ((0 : Int), (0 : Int), (0 : Int), (0 : Int), (0 : Int), (0 : Int), [], ())
def atD (a : List DMapDisk) (k : Nat) : DMapDisk := a.getD k ((0 : Int), (0 : Int), (0 : Int), (0 : Int), (0 : Int), (0 : Int), [], ())
def disksB (m2 : Int) (a : List DMapDisk) : Bool := allF (fun k => diskOk m2 (atD a k) && !(decide ((k : Int) > 0) && decide ((prevD a k).1 ≥ (atD a k).1))) 0 a.length
theorem atD_fit {a : List DMapDisk} (hf : ∀ x, x ∈ a → DiskFit x) {k : Nat} (hk : k < a.length) : (atD a k).2.2.2.2.2.2.1.length < 9223372036854775807 := by
  unfold atD
  rw [getD_get hk]
  have := (hf a[k] (List.getElem_mem hk)).list
  omega
theorem lg130_0_ok (x2 : Int) (x3 : List DMapDisk) (hf : ∀ x, x ∈ x3 → DiskFit x) (hl : x3.length < 9223372036854775807) :
    lg130_0 x2 x3 x3 ((x3.length : Nat) : Int) (0 : Int) = if disksB x2 x3 = true then some (.inl ()) else some (.inr (.inl (false, ()))) := by
  have := every (f := fun k => lg130_0 x2 x3 x3 ((x3.length : Nat) : Int) (k : Int)) (N := x3.length) (p := fun k => diskOk x2 (atD x3 k) && !(decide ((k : Int) > 0) && decide ((prevD x3 k).1 ≥ (atD x3 k).1))) (x := some (.inl ())) (y := some (.inr (.inl (false, ()))))
    (by show lg130_0 _ _ _ _ _ = _
        rw [lg130_0_eq]; simp (disch := omega) only [br_neg])
    (by intro k hk
        show lg130_0 _ _ _ _ _ = _
        have hq := atD_fit hf hk
        unfold atD at hq
        rw [lg130_0_eq]; simp (disch := omega) only [br_pos, chk_pos, chk_or, wrapS, toNat_coe]
        rw [G172_ok _ _ _ _ _ _ _ hq]
        simp only [chk_isSome, Option.getD_some]
        rw [chk_prev hk hl]
        show br ((((((!(f56 (atD x3 k).1 (1 : Int) (IntKind.i64.wrap (x2 - (1 : Int))))) || ((decide ((k : Int) > (0 : Int))) && (decide ((prevD x3 k).1 ≥ (atD x3 k).1)))) || (!(f56 (atD x3 k).2.1 (1 : Int) (8 : Int)))) || (!(f56 (atD x3 k).2.2.1 (1 : Int) (99999 : Int)))) || (!(restOk (atD x3 k).2.2.2.1 (atD x3 k).2.2.2.2.1 (atD x3 k).2.2.2.2.2.1 (atD x3 k).2.2.2.2.2.2.1)))) _ _ = _
        unfold diskOk
        generalize ((decide ((k : Int) > (0 : Int))) && (decide ((prevD x3 k).1 ≥ (atD x3 k).1))) = d
        generalize f56 (atD x3 k).1 (1 : Int) (IntKind.i64.wrap (x2 - (1 : Int))) = c1
        generalize f56 (atD x3 k).2.1 (1 : Int) (8 : Int) = c2
        generalize f56 (atD x3 k).2.2.1 (1 : Int) (99999 : Int) = c3
        generalize restOk (atD x3 k).2.2.2.1 (atD x3 k).2.2.2.2.1 (atD x3 k).2.2.2.2.2.1 (atD x3 k).2.2.2.2.2.2.1 = c4
        cases c1 <;> cases c2 <;> cases c3 <;> cases c4 <;> cases d <;> rfl)
  exact this
def atE (a : List DMapDone) (k : Nat) : DMapDone := a.getD k ((0 : Int), (0 : Int), (0 : Int), (0 : Int), ())
def prevE (a : List DMapDone) (k : Nat) : DMapDone := a.getD (IntKind.i64.wrap ((k : Int) - (1 : Int))).toNat ((0 : Int), (0 : Int), (0 : Int), (0 : Int), ())
theorem G130_ok (a1 a2 : Int) (a3 : List DMapDisk) (hf : ∀ x, x ∈ a3 → DiskFit x) (hl : a3.length < 9223372036854775807) : G130 a1 a2 a3 = some (f56 a1 3 5 && (f56 a2 1 5 && (!(decide (((a3.length : Nat) : Int) > (4 : Int))) && disksB a2 a3)), ()) := by
  rw [G130_eq, lg130_0_ok _ _ hf hl]
  have hff : f64 = f56 := rfl
  rw [hff]
  cases f56 a1 3 5
  · rfl
  cases f56 a2 1 5
  · rfl
  cases (decide (((a3.length : Nat) : Int) > (4 : Int)))
  rotate_left
  · rfl
  cases disksB a2 a3 <;> rfl

theorem copied_eq {α : Type} (l : List α) (z : α) : l.take (min l.length ((List.replicate ((l.length : Nat) : Int).toNat z)).length) ++ (List.replicate ((l.length : Nat) : Int).toNat z).drop (min l.length ((List.replicate ((l.length : Nat) : Int).toNat z)).length) = l := by simp
theorem br_len {α β : Type} (l : List α) (x y : Option β) (h : l = [] → x = y) : br (((l.length : Nat) : Int) == (0 : Int)) x y = y := by
  cases l with
  | nil => rw [h rfl]; exact br_same _
  | cons a t => rw [show ((((a :: t).length : Nat) : Int) == (0 : Int)) = false by simp; omega]; rfl
theorem copyI (l : List (Int × Unit)) (h : l.length * 8 ≤ 140737488351232) : G176 l = some (l, ()) := by
  rw [G176_eq, copied_eq, chk_pos (by omega)]
  exact br_len l _ _ fun e => by rw [e]
theorem copyD (l : List DMapDisk) (h : l.length * 72 ≤ 140737488351232) : G175 l = some (l, ()) := by
  rw [G175_eq, copied_eq, chk_pos (by omega)]
  exact br_len l _ _ fun e => by rw [e]
theorem lg_disks (l : List DMapDisk) (hf : ∀ x, x ∈ l → DiskFit x) (h : l.length < 9223372036854775807) : ∀ n k, k + n = l.length → lg133_0 ((l.length : Nat) : Int) (k : Int) (k : Int) l = some (.inl (((l.length : Nat) : Int), l, ()))
  | 0, k, hk => by
    rw [lg133_0_eq]
    simp (disch := omega) only [br_neg]
    rw [show k = l.length by omega]
  | n + 1, k, hk => by
    have hlt : k < l.length := by omega
    rw [lg133_0_eq]
    simp (disch := omega) only [br_pos, chk_pos, wrapS, toNat_coe]
    simp only [getD_get hlt]
    rw [copyI _ (hf _ (List.getElem_mem hlt))]
    simp only [Option.bind_some, decide_true, chk_true]
    have e : l.set k (l[k].1, l[k].2.1, l[k].2.2.1, l[k].2.2.2.1, l[k].2.2.2.2.1, l[k].2.2.2.2.2.1, l[k].2.2.2.2.2.2.1, ()) = l := by
      have : (l[k].1, l[k].2.1, l[k].2.2.1, l[k].2.2.2.1, l[k].2.2.2.2.1, l[k].2.2.2.2.2.1, l[k].2.2.2.2.2.2.1, ()) = l[k] := rfl
      rw [this]; exact List.set_getElem_self hlt
    rw [e]
    exact lg_disks l hf h n (k + 1) (by omega)
theorem copyDs (l : List DMapDisk) (hf : ∀ x, x ∈ l → DiskFit x) (h : l.length * 72 ≤ 140737488351232) : G133 l = some (l, ()) := by
  rw [G133_eq, copyD l h]
  simp only [Option.bind_some]
  have := lg_disks l hf (by omega) l.length 0 (by omega)
  have this : lg133_0 ((l.length : Nat) : Int) (0 : Int) (0 : Int) l = _ := this
  rw [this]
  simp only [Option.bind_some, decide_true, chk_true]
/-- A few disks, each with a few numbers. -/
structure MSmall (a3 : List DMapDisk) (a4 : List DMapView) (a5 : List DMapDone) : Prop where
  disk : ∀ x, x ∈ a3 → x.2.2.2.2.2.2.1.length ≤ 10
  l3 : a3.length ≤ 10
  l4 : a4.length ≤ 10
  l5 : a5.length ≤ 10
theorem MSmall.fit {a0 a1 a2 : Int} {a3 : List DMapDisk} {a4 : List DMapView} {a5 : List DMapDone} (h : MSmall a3 a4 a5) (h1 : inK .i64 a1) (h2 : inK .i64 a2) : MFit a0 a1 a2 a3 a4 a5 :=
  ⟨fun x hx => by have := h.disk x hx; unfold DiskFit; omega, by have := h.l3; omega, by have := h.l4; omega, by have := h.l5; omega, h1, h2⟩
/-- A disk in form; 'E' is above its epoch. -/
structure DOk (E m2 : Int) (d : DMapDisk) : Prop where
  id : 1 ≤ d.1 ∧ d.1 ≤ m2 - 1
  size : 1 ≤ d.2.1 ∧ d.2.1 ≤ 8
  epoch : 1 ≤ d.2.2.1 ∧ d.2.2.1 ≤ E
  fr : 0 ≤ d.2.2.2.1 ∧ d.2.2.2.1 ≤ 2
  none : d.2.2.2.1 = 0 → d.2.2.2.2.1 = 0 ∧ d.2.2.2.2.2.1 = 0 ∧ d.2.2.2.2.2.2.1 = []
  some : d.2.2.2.1 ≠ 0 → 0 ≤ d.2.2.2.2.1 ∧ d.2.2.2.2.1 ≤ 3 ∧ 1 ≤ d.2.2.2.2.2.1 ∧ d.2.2.2.2.2.1 ≤ 99999 ∧ d.2.2.2.2.2.2.1.length < 3 ∧ memOk d.2.2.2.2.2.2.1 = true
structure MOk (E m0 m1 m2 : Int) (ds : List DMapDisk) (vs : List DMapView) (xs : List DMapDone) : Prop where
  s0 : 0 ≤ m0 ∧ m0 ≤ 60
  s1 : 3 ≤ m1 ∧ m1 ≤ 5
  s2 : 1 ≤ m2 ∧ m2 ≤ 5
  dl : ds.length ≤ 4
  ids : ds.Pairwise fun a b => a.1 < b.1
  dk : ∀ d ∈ ds, DOk E m2 d
  vl : vs.length = 3
  vw : ∀ v ∈ vs, 1 ≤ v.1 ∧ v.1 ≤ E ∧ 0 ≤ v.2.1 ∧ v.2.1 ≤ m1 - 1 ∧ -1 ≤ v.2.2.1 ∧ v.2.2.1 ≤ m1 - 1 ∧ v.2.1 ≠ v.2.2.1
  dn : DonesOk xs
  dc : ∀ d ∈ xs, d.2.1 ≤ 99999 ∧ 0 ≤ d.2.2.1 ∧ d.2.2.1 ≤ 6 ∧ -1 ≤ d.2.2.2.1 ∧ d.2.2.2.1 ≤ 99999
theorem DOk.acks {E m2 : Int} {d : DMapDisk} (h : DOk E m2 d) : d.2.2.2.2.2.2.1.length < 3 := by
  by_cases e : d.2.2.2.1 = 0
  · rw [(h.none e).2.2]; decide
  · exact (h.some e).2.2.2.2.1
theorem MOk.small {E m0 m1 m2 : Int} {ds : List DMapDisk} {vs : List DMapView} {xs : List DMapDone} (h : MOk E m0 m1 m2 ds vs xs) : MSmall ds vs xs :=
  ⟨fun x hx => by have := (h.dk x hx).acks; omega, by have := h.dl; omega, by rw [h.vl]; decide, by have := h.dn.len; omega⟩
theorem inK64 {n : Int} (h : -9223372036854775808 ≤ n) (h' : n ≤ 9223372036854775807) : inK .i64 n := by
  constructor
  · rw [show IntKind.i64.min = -9223372036854775808 by decide]; exact h
  · rw [show IntKind.i64.max = 9223372036854775807 by decide]; exact h'
theorem allF_iff {p : Nat → Bool} : ∀ {n k : Nat}, allF p k n = true ↔ ∀ j, k ≤ j → j < k + n → p j = true
  | 0, k => ⟨fun _ j h1 h2 => by omega, fun _ => rfl⟩
  | n + 1, k => by
    show (p k && allF p (k + 1) n) = true ↔ _
    rw [Bool.and_eq_true, allF_iff]
    constructor
    · rintro ⟨h1, h2⟩ j h3 h4
      by_cases e : j = k
      · rw [e]; exact h1
      · exact h2 j (by omega) (by omega)
    · exact fun h => ⟨h k (Nat.le_refl _) (by omega), fun j h3 h4 => h j (by omega) (by omega)⟩
theorem in_iff (n a b : Int) : f56 n a b = true ↔ a ≤ n ∧ n ≤ b := by
  unfold f56
  rw [Bool.and_eq_true, decide_eq_true_eq, decide_eq_true_eq]
theorem MOk.fit {E m0 m1 m2 : Int} {ds : List DMapDisk} {vs : List DMapView} {xs : List DMapDone} (h : MOk E m0 m1 m2 ds vs xs) : MFit m0 m1 m2 ds vs xs :=
  h.small.fit (inK64 (by have := h.s1; omega) (by have := h.s1; omega)) (inK64 (by have := h.s2; omega) (by have := h.s2; omega))
theorem DOk.diskOk {E m2 : Int} {d : DMapDisk} (h : DOk E m2 d) (hE : E ≤ 99999) (h2 : 1 ≤ m2 ∧ m2 ≤ 5) : diskOk m2 d = true := by
  unfold MO.diskOk
  rw [wrap64 (by omega) (by omega)]
  have h1 := h.id; have h3 := h.size; have h4 := h.epoch; have h5 := h.fr
  simp only [Bool.and_eq_true, in_iff]
  refine ⟨h1, h3, ⟨h4.1, by omega⟩, ?_⟩
  unfold restOk
  simp only [Bool.and_eq_true, in_iff]
  refine ⟨h5, ?_⟩
  by_cases e : d.2.2.2.1 = 0
  · obtain ⟨g1, g2, g3⟩ := h.none e
    rw [if_pos (by simpa using e)]
    simp [g1, g2, g3]
  · obtain ⟨g1, g2, g3, g4, g5, g6⟩ := h.some e
    rw [if_neg (by simpa using e)]
    simp only [Bool.and_eq_true, in_iff, Bool.not_eq_true', decide_eq_false_iff_not]
    exact ⟨⟨⟨⟨g1, g2⟩, g3, g4⟩, by omega⟩, g6⟩
theorem DOk.of {m2 : Int} {d : DMapDisk} (h : MO.diskOk m2 d = true) (h2 : 1 ≤ m2 ∧ m2 ≤ 5) : DOk 99999 m2 d := by
  unfold MO.diskOk at h
  rw [wrap64 (by omega) (by omega)] at h
  simp only [Bool.and_eq_true, in_iff] at h
  obtain ⟨h1, h3, h4, h⟩ := h
  unfold restOk at h
  simp only [Bool.and_eq_true, in_iff] at h
  obtain ⟨h5, h⟩ := h
  refine ⟨h1, h3, h4, h5, fun e => ?_, fun e => ?_⟩
  · rw [if_pos (by simpa using e)] at h
    simp only [Bool.and_eq_true, beq_iff_eq] at h
    exact ⟨h.1.1, h.1.2, List.eq_nil_of_length_eq_zero (by have := h.2; omega)⟩
  · rw [if_neg (by simpa using e)] at h
    simp only [Bool.and_eq_true, in_iff, Bool.not_eq_true', decide_eq_false_iff_not] at h
    obtain ⟨⟨⟨⟨g1, g2⟩, g3, g4⟩, g5⟩, g6⟩ := h
    exact ⟨g1, g2, g3, g4, by omega, g6⟩
theorem atD_get {a : List DMapDisk} {k : Nat} (h : k < a.length) : atD a k = a[k] := getD_get h
theorem prevD_get {a : List DMapDisk} {k : Nat} (h : k + 1 < a.length) (hl : a.length ≤ 10) : prevD a (k + 1) = a[k] := by
  unfold prevD
  rw [wrap64 (by omega) (by omega), show (((k + 1 : Nat) : Int) - 1).toNat = k by omega, getD_get (by omega)]
theorem chain_pw {α : Type} {f : α → Int} {l : List α} (h : ∀ k (hk : k + 1 < l.length), f l[k] < f l[k + 1]) : l.Pairwise fun a b => f a < f b := by
  rw [List.pairwise_iff_getElem]
  have key : ∀ n i (hi : i + n + 1 < l.length), f l[i] < f l[i + n + 1] := by
    intro n
    induction n with
    | zero => intro i hi; exact h i hi
    | succ n ih => intro i hi; have h1 := ih i (by omega); have h2 := h (i + n + 1) (by omega); exact Int.lt_trans h1 h2
  intro i j hi hj hij
  have := key (j - i - 1) i (by omega)
  simpa [show i + (j - i - 1) + 1 = j by omega] using this

theorem in_iff' (n a b : Int) : f64 n a b = true ↔ a ≤ n ∧ n ≤ b := by
  unfold f64
  rw [Bool.and_eq_true, decide_eq_true_eq, decide_eq_true_eq]
theorem DOk.mono {E E' m2 : Int} {d : DMapDisk} (h : DOk E m2 d) (hE : E ≤ E') : DOk E' m2 d := ⟨h.id, h.size, ⟨h.epoch.1, by have := h.epoch.2; omega⟩, h.fr, h.none, h.some⟩
theorem MOk.mono {E E' m0 m1 m2 : Int} {ds : List DMapDisk} {vs : List DMapView} {xs : List DMapDone} (h : MOk E m0 m1 m2 ds vs xs) (hE : E ≤ E') : MOk E' m0 m1 m2 ds vs xs :=
  ⟨h.s0, h.s1, h.s2, h.dl, h.ids, fun d hd => (h.dk d hd).mono hE, h.vl, fun v hv => by obtain ⟨g1, g2, g3⟩ := h.vw v hv; exact ⟨g1, by omega, g3⟩, h.dn, h.dc⟩

theorem idxD_cases (id : Int) (ds : List DMapDisk) : idxD id ds = -1 ∨ ∃ k, k < ds.length ∧ idxD id ds = (k : Int) := by
  have key : ∀ (l : List DMapDisk) (j : Nat), seekL (fun d : DMapDisk => d.1 == id) (-1) (fun _ k => (k : Int)) l j = -1 ∨ ∃ i, i < l.length ∧ seekL (fun d : DMapDisk => d.1 == id) (-1) (fun _ k => (k : Int)) l j = ((j + i : Nat) : Int) := by
    intro l
    induction l with
    | nil => intro j; exact .inl rfl
    | cons d l ih =>
      intro j
      simp only [seekL]
      split
      · exact .inr ⟨0, by simp, by simp⟩
      · rcases ih (j + 1) with h | ⟨i, h1, h2⟩
        · exact .inl h
        · exact .inr ⟨i + 1, by simp; omega, by rw [h2]; congr 1; omega⟩
  rcases key ds 0 with h | ⟨i, h1, h2⟩
  · exact .inl h
  · exact .inr ⟨i, h1, by rw [Nat.zero_add] at h2; exact h2⟩
theorem few (hi : Int) : ∀ (l : List DMapDisk) (lo : Int), lo - 1 ≤ hi → l.Pairwise (fun a b => a.1 < b.1) → (∀ d ∈ l, lo ≤ d.1 ∧ d.1 ≤ hi) → (l.length : Int) ≤ hi - lo + 1
  | [], lo, h, _, _ => by simp; omega
  | d :: l, lo, h, hs, hd => by
    obtain ⟨h1, h2⟩ := List.pairwise_cons.1 hs
    have hd0 := hd d List.mem_cons_self
    have := few hi l (d.1 + 1) (by omega) h2 fun e he => ⟨by have := h1 e he; omega, (hd e (List.mem_cons_of_mem _ he)).2⟩
    simp only [List.length_cons]; omega
theorem MOk.setD {E m0 m1 m2 : Int} {ds : List DMapDisk} {vs : List DMapView} {xs : List DMapDone} (h : MOk E m0 m1 m2 ds vs xs) {k : Nat} (hk : k < ds.length) {d : DMapDisk} (hid : d.1 = ds[k].1) (hd : DOk E m2 d) : MOk E m0 m1 m2 (ds.set k d) vs xs := by
  refine ⟨h.s0, h.s1, h.s2, by rw [List.length_set]; exact h.dl, ?_, fun e he => ?_, h.vl, h.vw, h.dn, h.dc⟩
  · have hp := h.ids
    rw [List.pairwise_iff_getElem] at hp ⊢
    intro i j hi hj hij
    rw [List.length_set] at hi hj
    have := hp i j hi hj hij
    simp only [List.getElem_set]
    split
    · rename_i e
      split
      · omega
      · subst e; rw [hid]; exact this
    · split
      · rename_i e; subst e; rw [hid]; exact this
      · exact this
  · rcases List.mem_or_eq_of_mem_set he with he | rfl
    · exact h.dk e he
    · exact hd
def atI (ds : List DMapDisk) (i : Int) : DMapDisk := ds.getD i.toNat ((0 : Int), (0 : Int), (0 : Int), (0 : Int), (0 : Int), (0 : Int), [], ())
def judgeM (ds : List DMapDisk) (disk block epoch : Int) (w : Bool) : Int :=
  if idxD disk ds < 0 then 1 else if ¬ (0 ≤ block ∧ block ≤ (atI ds (idxD disk ds)).2.1 - 1) then 2
  else if w = false ∧ epoch ≠ 0 ∧ ¬ (1 ≤ epoch ∧ epoch ≤ (atI ds (idxD disk ds)).2.2.1 - 1) then 3 else 0
theorem judge_eq {E m0 m1 m2 : Int} {ds : List DMapDisk} {vs : List DMapView} {xs : List DMapDone} (h : MOk E m0 m1 m2 ds vs xs) (hE : E ≤ 99999) (disk block epoch : Int) (w : Bool) :
    G105 ds disk block epoch w = some (judgeM ds disk block epoch w, ()) := by
  have hdl := h.dl
  rw [G105_eq, disk_impl _ _ (by omega)]
  simp only [Option.bind_some]
  unfold judgeM
  rcases idxD_cases disk ds with e | ⟨k, hk, e⟩
  · rw [e, if_pos (by omega)]; rfl
  · rw [e]
    have hd := h.dk _ (List.getElem_mem hk)
    have g1 := hd.size
    have g2 := hd.epoch
    rw [if_neg (by omega)]
    simp (disch := omega) only [br_neg, chk_pos, chk_or, toNat_coe]
    have ha : atI ds (k : Int) = ds[k] := getD_get hk
    rw [ha]
    simp only [getD_get hk]
    rw [wrap64 (by omega) (by omega), wrap64 (by omega) (by omega)]
    by_cases h1 : 0 ≤ block ∧ block ≤ ds[k].2.1 - 1
    · rw [(in_iff' _ _ _).2 h1, if_neg (fun hn => hn h1)]
      simp only [Bool.not_true, br_false]
      by_cases h2 : 1 ≤ epoch ∧ epoch ≤ ds[k].2.2.1 - 1
      · rw [(in_iff' _ _ _).2 h2, if_neg (fun hn => hn.2.2 h2)]
        simp only [Bool.not_true, Bool.and_false, br_false]
      · rw [show f64 epoch 1 (ds[k].2.2.1 - 1) = false by rw [← Bool.not_eq_true, in_iff']; exact h2]
        cases w with
        | true => rw [if_neg (fun hn => by simp at hn)]; rfl
        | false =>
          by_cases h3 : epoch = 0
          · subst h3; rw [if_neg (fun hn => hn.2.1 rfl)]; rfl
          · rw [if_pos ⟨rfl, h3, h2⟩, show (epoch != 0) = true by simpa using h3]; rfl
    · rw [show f64 block 0 (ds[k].2.1 - 1) = false by rw [← Bool.not_eq_true, in_iff']; exact h1, if_pos h1]; rfl
theorem bits_xor_nat (a b : Nat) (ha : a < 4611686018427387904) (hb : b < 4611686018427387904) : bits .xor .i64 (a : Int) (b : Int) = ((a ^^^ b : Nat) : Int) := by
  have hx : a ^^^ b < 2 ^ 62 := Nat.xor_lt_two_pow (by omega) (by omega)
  have h1 : (BitVec.ofInt 64 (a : Int)).toNat = a := by
    rw [BitVec.ofInt_natCast, BitVec.toNat_ofNat]; exact Nat.mod_eq_of_lt (by omega)
  have h2 : (BitVec.ofInt 64 (b : Int)).toNat = b := by
    rw [BitVec.ofInt_natCast, BitVec.toNat_ofNat]; exact Nat.mod_eq_of_lt (by omega)
  show IntKind.i64.wrap ((BitVec.ofInt 64 (a : Int) ^^^ BitVec.ofInt 64 (b : Int)).toNat : Int) = _
  rw [BitVec.toNat_xor, h1, h2, wrap64 (by omega) (by omega)]
/-- A reader: few bytes, few numbers drawn. -/
structure Rd (b : List (Int × Unit)) (p P : Int) : Prop where
  len : b.length ≤ 2000
  byte : ∀ i, 0 ≤ (b.getD i ((0 : Int), ())).1 ∧ (b.getD i ((0 : Int), ())).1 ≤ 255
  pos : 0 ≤ p
  few : p ≤ P
theorem Rd.next {b : List (Int × Unit)} {p P : Int} (h : Rd b p P) : Rd b (p + 1) (P + 1) := ⟨h.len, h.byte, by have := h.pos; omega, by have := h.few; omega⟩
theorem Rd.mono {b : List (Int × Unit)} {p P Q : Int} (h : Rd b p P) (hq : P ≤ Q) : Rd b p Q := ⟨h.len, h.byte, h.pos, by have := h.few; omega⟩
theorem tm {v n : Int} (hv : 0 ≤ v) (hn : 1 ≤ n) : 0 ≤ v.tmod n ∧ v.tmod n < n := ⟨Int.tmod_nonneg _ hv, Int.tmod_lt_of_pos _ (by omega)⟩
theorem pick_some {b : List (Int × Unit)} {p P : Int} (h : Rd b p P) (hP : P ≤ 1000000) (n : Int) : ∃ v, G54 b p n = some (v, b, p + 1, ()) ∧ (1 ≤ n → 0 ≤ v ∧ v < n) ∧ (n < 1 → v = 0) := by
  have h1 := h.len; have h2 := h.pos; have h3 := h.few
  rw [G54_eq]
  have e1 : IntKind.i64.wrap (p + 1) = p + 1 := wrap64 (by omega) (by omega)
  have e2 : IntKind.i64.wrap (p + 1 - 1) = p := by rw [wrap64 (by omega) (by omega)]; omega
  simp only [e1, e2]
  by_cases hz : ((decide (n < (1 : Int))) || (((b.length : Nat) : Int) == (0 : Int))) = true
  · rw [hz]
    exact ⟨0, rfl, fun hn => ⟨by omega, by omega⟩, fun _ => rfl⟩
  · have hz : ((decide (n < (1 : Int))) || (((b.length : Nat) : Int) == (0 : Int))) = false := by simpa using hz
    rw [hz]
    simp only [Bool.or_eq_false_iff, decide_eq_false_iff_not, beq_eq_false_iff_ne] at hz
    obtain ⟨z1, z2⟩ := hz
    have hn : 1 ≤ n := by omega
    simp only [br_false]
    rw [show (n == 0) = false by simp; omega, show (((b.length : Nat) : Int) == 0) = false by simpa using z2]
    simp only [Bool.not_false, chk_true]
    by_cases hp : p < ((b.length : Nat) : Int)
    · simp (disch := omega) only [br_pos, chk_pos]
      obtain ⟨g1, g2⟩ := h.byte p.toNat
      rw [wrap64 (by omega) (by omega)]
      exact ⟨_, rfl, fun _ => tm g1 hn, fun hl => by omega⟩
    · simp (disch := omega) only [br_neg]
      have hL : 1 ≤ ((b.length : Nat) : Int) := by omega
      have q1 := tm h2 hL
      have e3 : IntKind.i64.wrap (p * 7) = p * 7 := wrap64 (by omega) (by omega)
      have e4 : IntKind.i64.wrap (p * 7 + 3) = p * 7 + 3 := wrap64 (by omega) (by omega)
      simp only [e3, e4]
      have q2 := tm (show 0 ≤ p * 7 + 3 by omega) hL
      rw [chk_pos q1, chk_pos q2]
      have hd0 : 0 ≤ p.tdiv ((b.length : Nat) : Int) := Int.tdiv_nonneg h2 (by omega)
      have hd1 : p.tdiv ((b.length : Nat) : Int) ≤ p := Int.tdiv_le_self _ h2
      obtain ⟨a1, a2⟩ := h.byte (p.tmod ((b.length : Nat) : Int)).toNat
      obtain ⟨a3, a4⟩ := h.byte ((p * 7 + 3).tmod ((b.length : Nat) : Int)).toNat
      generalize (b.getD (p.tmod ((b.length : Nat) : Int)).toNat ((0 : Int), ())).1 = x1 at *
      generalize (b.getD ((p * 7 + 3).tmod ((b.length : Nat) : Int)).toNat ((0 : Int), ())).1 = x2 at *
      generalize p.tdiv ((b.length : Nat) : Int) = d at *
      simp (disch := omega) only [wrap64]
      have hX : 0 ≤ x1 * 131 + x2 * 1117 + p * 29 + d * 53 ∧ x1 * 131 + x2 * 1117 + p * 29 + d * 53 ≤ 1000000000 := by omega
      generalize x1 * 131 + x2 * 1117 + p * 29 + d * 53 = X at *
      obtain ⟨N, rfl⟩ := Int.eq_ofNat_of_zero_le hX.1
      have e5 : ((N : Nat) : Int).tdiv 64 = ((N / 64 : Nat) : Int) := by
        rw [Int.tdiv_eq_ediv_of_nonneg (by omega)]; omega
      rw [e5, wrap64 (by omega) (by omega), bits_xor_nat _ _ (by omega) (by omega)]
      rw [show ((64 : Int) == 0) = false from rfl]
      simp only [Bool.not_false, chk_true]
      exact ⟨_, rfl, fun _ => tm (by omega) hn, fun hl => by omega⟩
theorem open_some (code : List (Int × Unit)) (hc : ∀ i, 0 ≤ (code.getD i ((0 : Int), ())).1 ∧ (code.getD i ((0 : Int), ())).1 ≤ 255) : ∃ b, G52 code = some (b, (0 : Int), ()) ∧ Rd b 0 0 := by
  rw [G52_eq]
  by_cases h : ((code.length : Nat) : Int) > 2000
  · simp (disch := omega) only [br_pos, chk_pos]
    refine ⟨_, rfl, ⟨by simp; omega, fun i => ?_, by omega, by omega⟩⟩
    rw [List.drop_zero, List.getD_eq_getElem?_getD, List.getElem?_take]
    split
    · rw [← List.getD_eq_getElem?_getD]; exact hc i
    · exact ⟨by simp, by simp⟩
  · simp (disch := omega) only [br_neg]
    exact ⟨_, rfl, ⟨by omega, hc, by omega, by omega⟩⟩
theorem pick_gives {b : List (Int × Unit)} {p P : Int} (h : Rd b p P) (hP : P ≤ 1000000) (n : Int) : Gives (G54 b p n) fun y => b = y.2.1 ∧ p + 1 = y.2.2.1 ∧ (1 ≤ n → 0 ≤ y.1 ∧ y.1 < n) := by
  obtain ⟨v, e, h1, _⟩ := pick_some h hP n
  exact ⟨_, e, rfl, rfl, h1⟩
theorem bne_self' {α : Type} [BEq α] [LawfulBEq α] (a : α) : (a != a) = false := by simp
theorem bytes_of {l : List (Int × Unit)} (h : ∀ x, x ∈ l → inK .u8 x.1) : ∀ i, 0 ≤ (l.getD i ((0 : Int), ())).1 ∧ (l.getD i ((0 : Int), ())).1 ≤ 255 := fun i => by
  by_cases hi : i < l.length
  · rw [getD_get hi]
    have := h _ (List.getElem_mem hi)
    unfold inK at this
    rw [show IntKind.u8.min = 0 by decide, show IntKind.u8.max = 255 by decide] at this
    exact this
  · rw [List.getD_eq_getElem?_getD, List.getElem?_eq_none (by omega)]
    exact ⟨by simp, by simp⟩
abbrev DP := Int × Int × Int × Int × Unit
structure HFit (a0 a1 : Int) (a2 : List DMapDisk) (a3 : List DP) : Prop where
  disk : ∀ x, x ∈ a2 → DiskFit x
  l2 : a2.length * 72 ≤ 140737488351232
  l3 : a3.length * 32 ≤ 140737488351232
/-! The order of pieces. -/
def before (p e : DP) : Bool := if (p.1 != e.1) = true then decide (p.1 < e.1) else if (p.2.1 != e.2.1) = true then decide (p.2.1 < e.2.1) else decide (p.2.2.1 < e.2.2.1)
theorem G129_ok (p e : DP) : G129 p.1 p.2.1 p.2.2.1 p.2.2.2.1 e.1 e.2.1 e.2.2.1 = some (before p e, ()) := by
  rw [G129_eq]
  unfold before
  cases (p.1 != e.1)
  · cases (p.2.1 != e.2.1) <;> rfl
  · rfl
def w144 (y : Int) : Option (Sum Unit (Sum (Int × Unit) Empty)) := some (.inr (.inl (y, ())))
theorem lg144_step (l : List (Int × Int × Unit)) (n k : Nat) (hk : k < l.length) (hn : k < n) (hl : l.length < 100) : lg144_0 (n : Int) (k : Int) l =
    br (decide ((l.getD k ((0 : Int), (0 : Int), ())).1 < (l.getD k ((0 : Int), (0 : Int), ())).2.1)) (w144 (-1)) (br (decide ((l.getD k ((0 : Int), (0 : Int), ())).1 > (l.getD k ((0 : Int), (0 : Int), ())).2.1)) (w144 1) (lg144_0 (n : Int) ((k + 1 : Nat) : Int) l)) := by
  rw [lg144_0_eq]
  simp (disch := omega) only [br_pos, chk_pos, wrapS, toNat_coe]
  rfl
theorem G144_ok (p e : DP) : ∃ y, G144 p.1 p.2.1 p.2.2.1 p.2.2.2.1 e.1 e.2.1 e.2.2.1 e.2.2.2.1 = some (y, ()) ∧ decide (y ≥ 0) = !(before p e) := by
  rw [G144_eq]
  have e0 := lg144_step [(p.1, e.1, ()), (p.2.1, e.2.1, ()), (p.2.2.1, e.2.2.1, ())] 3 0 (by simp) (by omega) (by simp)
  have e1 := lg144_step [(p.1, e.1, ()), (p.2.1, e.2.1, ()), (p.2.2.1, e.2.2.1, ())] 3 1 (by simp) (by omega) (by simp)
  have e2 := lg144_step [(p.1, e.1, ()), (p.2.1, e.2.1, ()), (p.2.2.1, e.2.2.1, ())] 3 2 (by simp) (by omega) (by simp)
  have e3 : lg144_0 ((3 : Nat) : Int) ((3 : Nat) : Int) [(p.1, e.1, ()), (p.2.1, e.2.1, ()), (p.2.2.1, e.2.2.1, ())] = some (.inl ()) := by
    rw [lg144_0_eq]; simp (disch := omega) only [br_neg]
  have e0' : lg144_0 (((3) : Nat) : Int) (0 : Int) [(p.1, e.1, ()), (p.2.1, e.2.1, ()), (p.2.2.1, e.2.2.1, ())] = _ := e0
  rw [e0', e1, e2, e3]
  show ∃ y, (br (decide (p.1 < e.1)) (w144 (-1)) (br (decide (p.1 > e.1)) (w144 1) (br (decide (p.2.1 < e.2.1)) (w144 (-1)) (br (decide (p.2.1 > e.2.1)) (w144 1) (br (decide (p.2.2.1 < e.2.2.1)) (w144 (-1)) (br (decide (p.2.2.1 > e.2.2.1)) (w144 1) (some (.inl ()) : Option (Sum Unit (Sum (Int × Unit) Empty))))))))).bind _ = _ ∧ _
  unfold before
  by_cases h1 : p.1 < e.1
  · rw [br_pos h1]
    refine ⟨-1, rfl, ?_⟩
    have : (p.1 != e.1) = true := by simp; omega
    rw [if_pos this, decide_eq_true h1]; rfl
  rw [br_neg h1]
  by_cases h2 : p.1 > e.1
  · rw [br_pos h2]
    refine ⟨1, rfl, ?_⟩
    have : (p.1 != e.1) = true := by simp; omega
    rw [if_pos this, decide_eq_false h1]; rfl
  rw [br_neg h2]
  have e1 : ¬ (p.1 != e.1) = true := by simp; omega
  rw [if_neg e1]
  by_cases h3 : p.2.1 < e.2.1
  · rw [br_pos h3]
    refine ⟨-1, rfl, ?_⟩
    have : (p.2.1 != e.2.1) = true := by simp; omega
    rw [if_pos this, decide_eq_true h3]; rfl
  rw [br_neg h3]
  by_cases h4 : p.2.1 > e.2.1
  · rw [br_pos h4]
    refine ⟨1, rfl, ?_⟩
    have : (p.2.1 != e.2.1) = true := by simp; omega
    rw [if_pos this, decide_eq_false h3]; rfl
  rw [br_neg h4]
  have e2 : ¬ (p.2.1 != e.2.1) = true := by simp; omega
  rw [if_neg e2]
  by_cases h5 : p.2.2.1 < e.2.2.1
  · rw [br_pos h5]
    refine ⟨-1, rfl, ?_⟩
    rw [decide_eq_true h5]; rfl
  rw [br_neg h5, decide_eq_false h5]
  by_cases h6 : p.2.2.1 > e.2.2.1
  · rw [br_pos h6]
    exact ⟨1, rfl, rfl⟩
  · rw [br_neg h6]
    exact ⟨0, rfl, rfl⟩
theorem G144_zero (p e : DP) : ∃ y, G144 p.1 p.2.1 p.2.2.1 p.2.2.2.1 e.1 e.2.1 e.2.2.1 e.2.2.2.1 = some (y, ()) ∧ (y = 0 ↔ p.1 = e.1 ∧ p.2.1 = e.2.1 ∧ p.2.2.1 = e.2.2.1) := by
  rw [G144_eq]
  have e0 := lg144_step [(p.1, e.1, ()), (p.2.1, e.2.1, ()), (p.2.2.1, e.2.2.1, ())] 3 0 (by simp) (by omega) (by simp)
  have e1 := lg144_step [(p.1, e.1, ()), (p.2.1, e.2.1, ()), (p.2.2.1, e.2.2.1, ())] 3 1 (by simp) (by omega) (by simp)
  have e2 := lg144_step [(p.1, e.1, ()), (p.2.1, e.2.1, ()), (p.2.2.1, e.2.2.1, ())] 3 2 (by simp) (by omega) (by simp)
  have e3 : lg144_0 ((3 : Nat) : Int) ((3 : Nat) : Int) [(p.1, e.1, ()), (p.2.1, e.2.1, ()), (p.2.2.1, e.2.2.1, ())] = some (.inl ()) := by
    rw [lg144_0_eq]; simp (disch := omega) only [br_neg]
  have e0' : lg144_0 (((3) : Nat) : Int) (0 : Int) [(p.1, e.1, ()), (p.2.1, e.2.1, ()), (p.2.2.1, e.2.2.1, ())] = _ := e0
  rw [e0', e1, e2, e3]
  show ∃ y, (br (decide (p.1 < e.1)) (w144 (-1)) (br (decide (p.1 > e.1)) (w144 1) (br (decide (p.2.1 < e.2.1)) (w144 (-1)) (br (decide (p.2.1 > e.2.1)) (w144 1) (br (decide (p.2.2.1 < e.2.2.1)) (w144 (-1)) (br (decide (p.2.2.1 > e.2.2.1)) (w144 1) (some (.inl ()) : Option (Sum Unit (Sum (Int × Unit) Empty))))))))).bind _ = _ ∧ _
  by_cases h1 : p.1 < e.1
  · rw [br_pos h1]; exact ⟨-1, rfl, by omega⟩
  rw [br_neg h1]
  by_cases h2 : p.1 > e.1
  · rw [br_pos h2]; exact ⟨1, rfl, by omega⟩
  rw [br_neg h2]
  by_cases h3 : p.2.1 < e.2.1
  · rw [br_pos h3]; exact ⟨-1, rfl, by omega⟩
  rw [br_neg h3]
  by_cases h4 : p.2.1 > e.2.1
  · rw [br_pos h4]; exact ⟨1, rfl, by omega⟩
  rw [br_neg h4]
  by_cases h5 : p.2.2.1 < e.2.2.1
  · rw [br_pos h5]; exact ⟨-1, rfl, by omega⟩
  rw [br_neg h5]
  by_cases h6 : p.2.2.1 > e.2.2.1
  · rw [br_pos h6]; exact ⟨1, rfl, by omega⟩
  · rw [br_neg h6]; exact ⟨0, rfl, by omega⟩
def pieceOk (e : DP) : Bool := f56 e.1 1 99999 && (f56 e.2.1 0 99999 && (f56 e.2.2.1 1 99999 && f56 e.2.2.2.1 0 99999))
def blkB (a : List DP) : Bool := allF (fun k => pieceOk (atE a k) && !(decide ((k : Int) > 0) && !(before (prevE a k) (atE a k)))) 0 a.length
theorem chk_prev1 {ρ : Type} {k n : Nat} {a : Option ρ} (hk : k < n) (hn : n < 9223372036854775807) : chk ((decide (0 ≤ (IntKind.i64.wrap ((k : Int) - (1 : Int))) ∧ (IntKind.i64.wrap ((k : Int) - (1 : Int))) < ((n : Nat) : Int))) || (!(decide ((k : Int) > (0 : Int))))) a = a := by
  have := chk_prev (ρ := ρ) (X := true) (a := a) hk hn
  rwa [Bool.true_and] at this
theorem lg75_ok (l : List DP) (hl : l.length < 9223372036854775807) : lg75_0 l (0 : Int) = if blkB l = true then some (.inl ()) else some (.inr (.inl (false, ()))) := by
  refine every (f := fun k => lg75_0 l (k : Int)) (N := l.length) ?_ ?_
  · show lg75_0 _ _ = _
    rw [lg75_0_eq]; simp (disch := omega) only [br_neg]
  · intro k hk
    show lg75_0 _ _ = _
    rw [lg75_0_eq]; simp (disch := omega) only [br_pos, chk_pos, wrapS, toNat_coe]
    rw [chk_prev1 hk hl]
    rw [G129_ok (l.getD (IntKind.i64.wrap ((k : Int) - (1 : Int))).toNat ((0 : Int), (0 : Int), (0 : Int), (0 : Int), ())) (l.getD k ((0 : Int), (0 : Int), (0 : Int), (0 : Int), ()))]
    simp only [chk_isSome, Option.getD_some]
    show br ((((!(f56 (atE l k).1 (1 : Int) (99999 : Int))) || (!(f56 (atE l k).2.1 (0 : Int) (99999 : Int)))) || (!(f56 (atE l k).2.2.1 (1 : Int) (99999 : Int)))) || (!(f56 (atE l k).2.2.2.1 (0 : Int) (99999 : Int)))) _ (br ((decide ((k : Int) > (0 : Int))) && (!(before (prevE l k) (atE l k)))) _ _) = _
    unfold pieceOk
    generalize f56 (atE l k).1 (1 : Int) (99999 : Int) = c1
    generalize f56 (atE l k).2.1 (0 : Int) (99999 : Int) = c2
    generalize f56 (atE l k).2.2.1 (1 : Int) (99999 : Int) = c3
    generalize f56 (atE l k).2.2.2.1 (0 : Int) (99999 : Int) = c4
    generalize ((decide ((k : Int) > (0 : Int))) && (!(before (prevE l k) (atE l k)))) = c5
    cases c1 <;> cases c2 <;> cases c3 <;> cases c4 <;> cases c5 <;> rfl
theorem G75_ok (l : List DP) (hl : l.length < 9223372036854775807) : G75 l = some (!(decide (((l.length : Nat) : Int) > 60)) && blkB l, ()) := by
  rw [G75_eq, lg75_ok l hl]
  cases decide (((l.length : Nat) : Int) > 60)
  · cases blkB l <;> rfl
  · rfl
theorem lg82_ok (l : List DP) (hl : l.length < 9223372036854775807) : lg82_0 l l ((l.length : Nat) : Int) (0 : Int) = if blkB l = true then some (.inl (l, ())) else some (.inr (.inl (false, ()))) := by
  refine every (f := fun k => lg82_0 l l ((l.length : Nat) : Int) (k : Int)) (N := l.length) ?_ ?_
  · show lg82_0 _ _ _ _ = _
    rw [lg82_0_eq]; simp (disch := omega) only [br_neg]
  · intro k hk
    show lg82_0 _ _ _ _ = _
    rw [lg82_0_eq]; simp (disch := omega) only [br_pos, chk_pos, wrapS, toNat_coe]
    rw [chk_prev hk hl]
    obtain ⟨y, hy, hyb⟩ := G144_ok (l.getD (IntKind.i64.wrap ((k : Int) - (1 : Int))).toNat ((0 : Int), (0 : Int), (0 : Int), (0 : Int), ())) (l.getD k ((0 : Int), (0 : Int), (0 : Int), (0 : Int), ()))
    simp only [hy, chk_isSome, Option.getD_some, hyb]
    have hff : f64 = f56 := rfl
    rw [hff]
    show br (((((!(f56 (atE l k).1 (1 : Int) (99999 : Int))) || (!(f56 (atE l k).2.2.1 (1 : Int) (99999 : Int)))) || (!(f56 (atE l k).2.1 (0 : Int) (99999 : Int)))) || (!(f56 (atE l k).2.2.2.1 (0 : Int) (99999 : Int)))) || ((decide ((k : Int) > (0 : Int))) && (!(before (prevE l k) (atE l k))))) _ _ = _
    unfold pieceOk
    generalize f56 (atE l k).1 (1 : Int) (99999 : Int) = c1
    generalize f56 (atE l k).2.1 (0 : Int) (99999 : Int) = c2
    generalize f56 (atE l k).2.2.1 (1 : Int) (99999 : Int) = c3
    generalize f56 (atE l k).2.2.2.1 (0 : Int) (99999 : Int) = c4
    generalize ((decide ((k : Int) > (0 : Int))) && (!(before (prevE l k) (atE l k)))) = c5
    cases c1 <;> cases c2 <;> cases c3 <;> cases c4 <;> cases c5 <;> rfl
theorem G82_ok (l : List DP) (hl : l.length < 9223372036854775807) : G82 l = some (!(decide (((l.length : Nat) : Int) > 60)) && blkB l, ()) := by
  rw [G82_eq, lg82_ok l hl]
  have : decide (((l.length : Nat) : Int) ≤ (60 : Int)) = !(decide (((l.length : Nat) : Int) > 60)) := by
    rw [← decide_not]
    exact decide_eq_decide.2 (by omega)
  cases blkB l
  · rw [Bool.and_false]; rfl
  · show some (decide (((l.length : Nat) : Int) ≤ (60 : Int)), ()) = _
    rw [this, Bool.and_true]
theorem allF_and {p q : Nat → Bool} {n : Nat} : ∀ {k : Nat}, allF (fun j => p j && q j) k n = (allF p k n && allF q k n) := by
  induction n with
  | zero => intro k; rfl
  | succ n ih =>
    intro k
    show ((p k && q k) && allF (fun j => p j && q j) (k + 1) n) = ((p k && allF p (k + 1) n) && (q k && allF q (k + 1) n))
    rw [ih]
    cases p k <;> cases q k <;> cases allF p (k + 1) n <;> cases allF q (k + 1) n <;> rfl
def freeD (a : List DMapDisk) : Bool := allF (fun k => !((atD a k).2.2.2.1 != (0 : Int))) 0 a.length
theorem lg55_ok {s0 s1 : Int} {s2 : List DMapDisk} {s3 : List DP} (hf : ∀ x, x ∈ s2 → DiskFit x) (hl : s2.length < 9223372036854775807) :
    lg55_0 (0 : Int) s0 s1 s2 s3 = if (freeD s2 && disksB s0 s2) = true then some (.inl ()) else some (.inr (.inl (false, ()))) := by
  unfold freeD disksB
  rw [← allF_and]
  refine every (f := fun k => lg55_0 (k : Int) s0 s1 s2 s3) (N := s2.length) ?_ ?_
  · show lg55_0 _ _ _ _ _ = _
    rw [lg55_0_eq]; simp (disch := omega) only [br_neg]
  · intro k hk
    show lg55_0 _ _ _ _ _ = _
    have hq := atD_fit hf hk
    unfold atD at hq
    rw [lg55_0_eq]; simp (disch := omega) only [br_pos, chk_pos, chk_or, wrapS, toNat_coe]
    rw [G101_ok _ _ _ _ _ _ _ _ _ _ _ _ _ hq]
    simp only [chk_isSome, Option.getD_some]
    rw [chk_prev hk hl]
    show br (((atD s2 k).2.2.2.1 != (0 : Int)) || (!(diskOk s0 (atD s2 k))) || ((decide ((k : Int) > (0 : Int))) && (decide ((prevD s2 k).1 ≥ (atD s2 k).1)))) _ _ = _
    generalize ((atD s2 k).2.2.2.1 != (0 : Int)) = c1
    generalize diskOk s0 (atD s2 k) = c2
    generalize ((decide ((k : Int) > (0 : Int))) && (decide ((prevD s2 k).1 ≥ (atD s2 k).1))) = c3
    cases c1 <;> cases c2 <;> cases c3 <;> rfl
theorem lg63_ok (s0 s1 : Int) (s2 : List DMapDisk) (s3 : List DP) (hl : s2.length < 9223372036854775807) :
    lg63_0 s2 ((s2.length : Nat) : Int) (0 : Int) s0 s1 s2 s3 = if freeD s2 = true then some (.inl (s0, s1, s2, s3, ())) else some (.inr (.inl (false, ()))) := by
  refine every (f := fun k => lg63_0 s2 ((s2.length : Nat) : Int) (k : Int) s0 s1 s2 s3) (N := s2.length) ?_ ?_
  · show lg63_0 _ _ _ _ _ _ _ = _
    rw [lg63_0_eq]; simp (disch := omega) only [br_neg]
  · intro k hk
    show lg63_0 _ _ _ _ _ _ _ = _
    rw [lg63_0_eq]; simp (disch := omega) only [br_pos, chk_pos, wrapS, toNat_coe]
    exact br_not _
def histB (s0 s1 : Int) (s2 : List DMapDisk) (s3 : List DP) : Bool :=
  freeD s2 && ((f56 s1 3 5 && (f56 s0 1 5 && (!(decide (((s2.length : Nat) : Int) > (4 : Int))) && disksB s0 s2))) && (!(decide (((s3.length : Nat) : Int) > 60)) && blkB s3))
theorem G63_ok {a0 a1 : Int} {a2 : List DMapDisk} {a3 : List DP} (h : HFit a0 a1 a2 a3) : G63 a0 a1 a2 a3 = some (histB a0 a1 a2 a3, ()) := by
  have := h.l2; have := h.l3
  rw [G63_eq, lg63_ok _ _ _ _ (by omega)]
  unfold histB
  cases freeD a2
  · rfl
  · rw [if_pos rfl]
    simp only [Option.bind_some]
    rw [G130_ok _ _ _ h.disk (by omega), G82_ok _ (by omega)]
    simp only [Option.bind_some, chk_isSome, Option.getD_some, Bool.true_and]
theorem G55_ok {a0 a1 : Int} {a2 : List DMapDisk} {a3 : List DP} (h : HFit a0 a1 a2 a3) : G55 a0 a1 a2 a3 = some (histB a0 a1 a2 a3, ()) := by
  have := h.l2; have := h.l3
  rw [G55_eq, G75_ok _ (by omega), lg55_ok h.disk (by omega)]
  unfold histB
  simp only [chk_isSome, Option.getD_some]
  generalize (!(decide (((a3.length : Nat) : Int) > 60)) && blkB a3) = c1
  cases f56 a0 (1 : Int) (5 : Int)
  · cases f56 a1 (3 : Int) (5 : Int) <;> cases freeD a2 <;> rfl
  cases f56 a1 (3 : Int) (5 : Int)
  · cases freeD a2 <;> rfl
  cases decide (((a2.length : Nat) : Int) > (4 : Int))
  · cases c1 <;> cases freeD a2 <;> cases disksB a0 a2 <;> rfl
  · cases freeD a2 <;> rfl
def key (p : DP) : Int := (p.1 * 100000 + p.2.1) * 100000 + p.2.2.1
def KV (p : DP) : Prop := (0 ≤ p.1 ∧ p.1 ≤ 99999) ∧ (0 ≤ p.2.1 ∧ p.2.1 ≤ 99999) ∧ (0 ≤ p.2.2.1 ∧ p.2.2.1 ≤ 99999)
def POk (p : DP) : Prop := (1 ≤ p.1 ∧ p.1 ≤ 99999) ∧ (0 ≤ p.2.1 ∧ p.2.1 ≤ 99999) ∧ (1 ≤ p.2.2.1 ∧ p.2.2.1 ≤ 99999) ∧ (0 ≤ p.2.2.2.1 ∧ p.2.2.2.1 ≤ 99999)
theorem POk.kv {p : DP} (h : POk p) : KV p := ⟨⟨by have := h.1.1; omega, h.1.2⟩, h.2.1, ⟨by have := h.2.2.1.1; omega, h.2.2.1.2⟩⟩
theorem before_key {p e : DP} (hp : KV p) (he : KV e) : before p e = decide (key p < key e) := by
  obtain ⟨a1, a2, a3⟩ := hp
  obtain ⟨b1, b2, b3⟩ := he
  unfold before key
  split
  · rename_i h
    exact decide_eq_decide.2 (by have : p.1 ≠ e.1 := by simpa using h
                                 omega)
  · rename_i h
    have h1 : p.1 = e.1 := by simpa using h
    split
    · rename_i h
      exact decide_eq_decide.2 (by have : p.2.1 ≠ e.2.1 := by simpa using h
                                   omega)
    · rename_i h
      have h2 : p.2.1 = e.2.1 := by simpa using h
      exact decide_eq_decide.2 (by omega)
theorem key_eq {p e : DP} (hp : KV p) (he : KV e) : key p = key e ↔ p.1 = e.1 ∧ p.2.1 = e.2.1 ∧ p.2.2.1 = e.2.2.1 := by
  obtain ⟨a1, a2, a3⟩ := hp
  obtain ⟨b1, b2, b3⟩ := he
  unfold key
  constructor
  · intro h; refine ⟨?_, ?_, ?_⟩ <;> omega
  · rintro ⟨h1, h2, h3⟩; omega
structure BOk (ps : List DP) : Prop where
  ok : ∀ p ∈ ps, POk p
  ord : ps.Pairwise fun a b => key a < key b
theorem pieceOk_iff (e : DP) : pieceOk e = true ↔ POk e := by
  unfold pieceOk POk
  simp only [Bool.and_eq_true, in_iff]
theorem BOk.blkB {ps : List DP} (h : BOk ps) (hl : ps.length ≤ 1000) : MO.blkB ps = true := by
  unfold MO.blkB
  rw [allF_iff]
  intro j _ hj
  have hj : j < ps.length := by omega
  have e : atE ps j = ps[j] := getD_get hj
  rw [e, (pieceOk_iff _).2 (h.ok _ (List.getElem_mem hj)), Bool.true_and]
  cases j with
  | zero => rfl
  | succ k =>
    have e2 : prevE ps (k + 1) = ps[k] := by
      unfold prevE
      rw [wrap64 (by omega) (by omega), show (((k + 1 : Nat) : Int) - 1).toNat = k by omega, getD_get (by omega)]
    rw [e2, before_key (h.ok _ (List.getElem_mem _)).kv (h.ok _ (List.getElem_mem _)).kv, decide_eq_true ((List.pairwise_iff_getElem.1 h.ord) k (k + 1) (by omega) hj (by omega))]
    simp
theorem BOk.of {ps : List DP} (h : MO.blkB ps = true) (hl : ps.length ≤ 1000) : BOk ps := by
  unfold MO.blkB at h
  rw [allF_iff] at h
  have h1 : ∀ j (hj : j < ps.length), POk ps[j] := fun j hj => by
    have := h j (Nat.zero_le _) (by omega)
    have e : atE ps j = ps[j] := getD_get hj
    rw [e, Bool.and_eq_true] at this
    exact (pieceOk_iff _).1 this.1
  refine ⟨fun p hp => by obtain ⟨j, hj, rfl⟩ := List.mem_iff_getElem.1 hp; exact h1 j hj, chain_pw fun k hk => ?_⟩
  have := h (k + 1) (Nat.zero_le _) (by omega)
  have e : atE ps (k + 1) = ps[k + 1] := getD_get hk
  have e2 : prevE ps (k + 1) = ps[k] := by
    unfold prevE
    rw [wrap64 (by omega) (by omega), show (((k + 1 : Nat) : Int) - 1).toNat = k by omega, getD_get (by omega)]
  rw [e, e2, before_key (h1 k (by omega)).kv (h1 (k + 1) hk).kv] at this
  simp at this
  exact this.2
def bokB (l : List DP) : Bool := !(decide (((l.length : Nat) : Int) > 60)) && blkB l
theorem bokB_iff (l : List DP) : bokB l = true ↔ l.length ≤ 60 ∧ BOk l := by
  unfold bokB
  rw [Bool.and_eq_true, Bool.not_eq_true', decide_eq_false_iff_not]
  constructor
  · rintro ⟨h1, h2⟩; exact ⟨by omega, .of h2 (by omega)⟩
  · rintro ⟨h1, h2⟩; exact ⟨by omega, h2.blkB (by omega)⟩
theorem bok_spec (l : List DP) (hl : l.length < 9223372036854775807) : G75 l = some (bokB l, ()) := G75_ok l hl
theorem bok_impl (l : List DP) (hl : l.length < 9223372036854775807) : G82 l = some (bokB l, ()) := G82_ok l hl
def putP : List DP → DP → List DP
  | [], x => [x]
  | p :: l, x => if key p < key x then p :: putP l x else if key p = key x then x :: l else x :: p :: l
theorem putP_mem {x : DP} : ∀ (l : List DP) d, d ∈ putP l x → d = x ∨ d ∈ l
  | [], d, hd => by simp [putP] at hd; exact .inl hd
  | e :: l, d, hd => by
    simp only [putP] at hd
    split at hd
    · rcases List.mem_cons.1 hd with rfl | hd
      · exact .inr List.mem_cons_self
      · rcases putP_mem l d hd with h | h
        · exact .inl h
        · exact .inr (List.mem_cons_of_mem _ h)
    · split at hd
      · rcases List.mem_cons.1 hd with rfl | hd
        · exact .inl rfl
        · exact .inr (List.mem_cons_of_mem _ hd)
      · rcases List.mem_cons.1 hd with rfl | hd
        · exact .inl rfl
        · exact .inr hd
theorem putP_ord {x : DP} : ∀ {l : List DP}, l.Pairwise (fun a b => key a < key b) → (putP l x).Pairwise fun a b => key a < key b
  | [], _ => by simp [putP]
  | e :: l, h => by
    obtain ⟨h1, h2⟩ := List.pairwise_cons.1 h
    simp only [putP]
    split
    · refine List.pairwise_cons.2 ⟨fun d hd => ?_, putP_ord h2⟩
      rcases putP_mem l d hd with rfl | hd
      · assumption
      · exact h1 d hd
    · split
      · rename_i e'
        exact List.pairwise_cons.2 ⟨fun d hd => by have := h1 d hd; omega, h2⟩
      · refine List.pairwise_cons.2 ⟨fun d hd => ?_, h⟩
        rcases List.mem_cons.1 hd with rfl | hd
        · omega
        · have := h1 d hd; omega
theorem putP_len {x : DP} : ∀ (l : List DP), (putP l x).length ≤ l.length + 1
  | [] => by simp [putP]
  | e :: l => by
    simp only [putP]
    split
    · have := putP_len (x := x) l; simp; omega
    · split <;> simp
theorem BOk.put {ps : List DP} (h : BOk ps) {x : DP} (hx : POk x) : BOk (putP ps x) :=
  ⟨fun p hp => by rcases putP_mem ps p hp with rfl | hp; exact hx; exact h.ok p hp, putP_ord h.ord⟩
/-- What is put, if it will do. -/
def putR (ps : List DP) (x : DP) : List DP := if bokB (putP ps x) = true then putP ps x else ps
theorem same_iff {p x : DP} (hp : KV p) (hx : KV x) : (((p.1 == x.1) && (p.2.1 == x.2.1)) && (p.2.2.1 == x.2.2.1)) = decide (key p = key x) := by
  by_cases h : key p = key x
  · obtain ⟨h1, h2, h3⟩ := (key_eq hp hx).1 h
    rw [decide_eq_true h, h1, h2, h3]; simp
  · rw [decide_eq_false h, ← Bool.not_eq_true]
    simp only [Bool.and_eq_true, beq_iff_eq]
    rintro ⟨⟨h1, h2⟩, h3⟩
    exact h ((key_eq hp hx).2 ⟨h1, h2, h3⟩)
theorem spec_put_done {list : List DP} {x : DP} (hx : KV x) (hk : ∀ p ∈ list, KV p) (hl : list.length ≤ 1000) : ∀ (n k : Nat) (r : List DP), k + n = list.length → r.length + n ≤ 2000 → (∀ p ∈ list.drop k, key x < key p) →
    lg61_0 list x.1 x.2.1 x.2.2.1 true (k : Int) x.1 x.2.1 x.2.2.1 x.2.2.2.1 r = some (.inl (list, true, x.1, x.2.1, x.2.2.1, x.2.2.2.1, r ++ list.drop k, ()))
  | 0, k, r, hn, hr, hd => by
    rw [lg61_0_eq, br_neg (by omega), List.drop_eq_nil_of_le (by omega), List.append_nil]
  | n + 1, k, r, hn, hr, hd => by
    have hlt : k < list.length := by omega
    have hp := hk _ (List.getElem_mem hlt)
    rw [lg61_0_eq]
    simp (disch := omega) only [br_pos, chk_pos, wrapS, toNat_coe]
    simp only [getD_get hlt]
    rw [G129_ok list[k] x, List.drop_eq_getElem_cons hlt] at *
    have h1 := hd list[k] List.mem_cons_self
    simp only [chk_isSome, Bool.not_true, Bool.false_and, br_false]
    rw [same_iff hp hx, decide_eq_false (show ¬ key list[k] = key x by omega)]
    simp only [Bool.not_false, br_true, capOk]
    simp (disch := omega) only [chk_pos]
    rw [spec_put_done hx hk hl n (k + 1) _ (by omega) (by simp; omega) fun d h => hd d (List.mem_cons_of_mem _ h), List.append_assoc]
    rfl
theorem spec_put_run {list : List DP} {x : DP} (hx : KV x) (hk : ∀ p ∈ list, KV p) (hl : list.length ≤ 1000) : ∀ (n k : Nat) (r : List DP), k + n = list.length → r.length + n ≤ 1000 → (list.drop k).Pairwise (fun a b => key a < key b) →
    ∃ put r', lg61_0 list x.1 x.2.1 x.2.2.1 false (k : Int) x.1 x.2.1 x.2.2.1 x.2.2.2.1 r = some (.inl (list, put, x.1, x.2.1, x.2.2.1, x.2.2.2.1, r', ())) ∧
      (if put = true then r' else r' ++ [x]) = r ++ putP (list.drop k) x ∧ r'.length ≤ r.length + n + 1
  | 0, k, r, hn, hr, hs => by
    refine ⟨false, r, ?_, ?_, by omega⟩
    · rw [lg61_0_eq, br_neg (by omega)]
    · rw [List.drop_eq_nil_of_le (by omega)]; rfl
  | n + 1, k, r, hn, hr, hs => by
    have hlt : k < list.length := by omega
    have hp := hk _ (List.getElem_mem hlt)
    have hdl : (list.drop (k + 1)).length = n := by rw [List.length_drop]; omega
    rw [lg61_0_eq]
    simp (disch := omega) only [br_pos, chk_pos, wrapS, toNat_coe]
    simp only [getD_get hlt]
    rw [G129_ok list[k] x, List.drop_eq_getElem_cons hlt] at *
    obtain ⟨h1, h2⟩ := List.pairwise_cons.1 hs
    simp only [chk_isSome, Option.getD_some, Bool.not_false, Bool.true_and]
    rw [before_key hp hx, same_iff hp hx]
    by_cases hlt2 : key list[k] < key x
    · rw [decide_eq_true hlt2, decide_eq_false (show ¬ key list[k] = key x by omega)]
      simp only [Bool.not_true, Bool.not_false, br_false, br_true, capOk]
      simp (disch := omega) only [chk_pos]
      obtain ⟨put, r', e1, e2, e3⟩ := spec_put_run hx hk hl n (k + 1) (r ++ [list[k]]) (by omega) (by simp; omega) h2
      refine ⟨put, r', e1, ?_, by simp at e3; omega⟩
      rw [e2, List.append_assoc]
      simp only [putP]
      rw [if_pos hlt2]; rfl
    · rw [decide_eq_false hlt2]
      simp only [Bool.not_false, br_true, capOk]
      simp (disch := omega) only [chk_pos]
      simp only [putP]
      rw [if_neg hlt2]
      by_cases he : key list[k] = key x
      · rw [decide_eq_true he]
        simp only [Bool.not_true, br_false]
        rw [spec_put_done hx hk hl n (k + 1) _ (by omega) (by simp; omega) fun d h => by have := h1 d h; omega]
        refine ⟨true, _, rfl, ?_, by simp; omega⟩
        rw [if_pos rfl, if_pos he, List.append_assoc]; rfl
      · rw [decide_eq_false he]
        simp only [Bool.not_false, br_true]
        simp (disch := (first | omega | (simp; omega))) only [chk_pos]
        rw [spec_put_done hx hk hl n (k + 1) _ (by omega) (by simp; omega) fun d h => by have := h1 d h; omega]
        refine ⟨true, _, rfl, ?_, by simp; omega⟩
        rw [if_pos rfl, if_neg he, List.append_assoc, List.append_assoc]; rfl
theorem put_spec {ps : List DP} (h : BOk ps) (hl : ps.length ≤ 60) {x : DP} (hx : KV x) : G61 ps x.1 x.2.1 x.2.2.1 x.2.2.2.1 = some (putR ps x, bokB (putP ps x), ()) := by
  rw [G61_eq, bok_spec _ (by omega), (bokB_iff ps).2 ⟨hl, h⟩]
  simp only [Option.bind_some, Bool.not_true, br_false]
  obtain ⟨put, r', e1, e2, e3⟩ := spec_put_run hx (fun p hp => (h.ok p hp).kv) (by omega) ps.length 0 [] (by omega) (by simp; omega) (by rw [List.drop_zero]; exact h.ord)
  have e1 : lg61_0 ps x.1 x.2.1 x.2.2.1 false (0 : Int) x.1 x.2.1 x.2.2.1 x.2.2.2.1 [] = _ := e1
  rw [e1]
  rw [List.drop_zero, List.nil_append] at e2
  simp only [Option.bind_some]
  have e3 : r'.length ≤ 62 := by simp at e3; omega
  have fin : ∀ v : List DP, v = putP ps x → ((G75 v).bind fun (y9 : Bool × Unit) => (br (!y9.1) (chk (capOk ((0) + ps.length) 32) (some (ps, false, ()))) (some (v, true, ())))) = some (putR ps x, bokB (putP ps x), ()) := fun v hv => by
    subst hv
    have := putP_len (x := x) ps
    rw [bok_spec _ (by omega)]
    unfold putR
    simp only [Option.bind_some, capOk]
    simp (disch := omega) only [chk_pos]
    cases bokB (putP ps x) <;> rfl
  cases put with
  | true =>
    rw [if_pos rfl] at e2
    simp only [Bool.not_true, br_false]
    rw [e2]
    exact fin _ rfl
  | false =>
    rw [if_neg (by decide)] at e2
    have e2 : r' ++ [(x.1, x.2.1, x.2.2.1, x.2.2.2.1, ())] = putP ps x := e2
    simp only [Bool.not_false, br_true, capOk]
    simp (disch := omega) only [chk_pos]
    simp only [e2]
    have := fin _ rfl
    simp only [capOk] at this
    simp (disch := omega) only [chk_pos] at this
    exact this
/-- The order of two pieces, as the program has it. -/
theorem way_ok {p e : DP} (hp : KV p) (he : KV e) : ∃ y, G144 p.1 p.2.1 p.2.2.1 p.2.2.2.1 e.1 e.2.1 e.2.2.1 e.2.2.2.1 = some (y, ()) ∧ (y < 0 ↔ key p < key e) ∧ (y = 0 ↔ key p = key e) := by
  obtain ⟨y, h1, h2⟩ := G144_ok p e
  obtain ⟨z, h3, h4⟩ := G144_zero p e
  rw [h1] at h3
  simp only [Option.some.injEq, Prod.mk.injEq, and_true] at h3
  subst h3
  refine ⟨y, h1, ?_, ?_⟩
  · rw [before_key hp he] at h2
    by_cases hk : key p < key e
    · rw [decide_eq_true hk] at h2
      have : ¬ y ≥ 0 := by simpa using h2
      omega
    · rw [decide_eq_false hk] at h2
      have : y ≥ 0 := by simpa using h2
      omega
  · rw [key_eq hp he]; exact h4
theorem impl_put_done {list : List DP} {x : DP} (hx : KV x) (hk : ∀ p ∈ list, KV p) (hl : list.length ≤ 1000) : ∀ (n k : Nat) (r : List DP), k + n = list.length → r.length + n ≤ 2000 → (∀ p ∈ list.drop k, key x < key p) →
    lg173_0 list true list ((list.length : Nat) : Int) (k : Int) x.1 x.2.1 x.2.2.1 x.2.2.2.1 r = some (.inl (list, true, x.1, x.2.1, x.2.2.1, x.2.2.2.1, r ++ list.drop k, ()))
  | 0, k, r, hn, hr, hd => by
    rw [lg173_0_eq, br_neg (by omega), List.drop_eq_nil_of_le (by omega), List.append_nil]
  | n + 1, k, r, hn, hr, hd => by
    have hlt : k < list.length := by omega
    have hp := hk _ (List.getElem_mem hlt)
    rw [lg173_0_eq]
    simp (disch := omega) only [br_pos, chk_pos, wrapS, toNat_coe]
    simp only [getD_get hlt]
    rw [List.drop_eq_getElem_cons hlt] at hd ⊢
    have h1 := hd list[k] List.mem_cons_self
    obtain ⟨y, ey, y1, y2⟩ := way_ok hx hp
    rw [ey]
    simp only [Option.bind_some, Bool.not_true, Bool.and_false, br_false]
    rw [show (y != 0) = true by simp; omega]
    simp only [br_true, capOk]
    simp (disch := omega) only [chk_pos]
    rw [impl_put_done hx hk hl n (k + 1) _ (by omega) (by simp; omega) fun d h => hd d (List.mem_cons_of_mem _ h), List.append_assoc]
    rfl
theorem impl_put_run {list : List DP} {x : DP} (hx : KV x) (hk : ∀ p ∈ list, KV p) (hl : list.length ≤ 1000) : ∀ (n k : Nat) (r : List DP), k + n = list.length → r.length + n ≤ 1000 → (list.drop k).Pairwise (fun a b => key a < key b) →
    ∃ put r', lg173_0 list false list ((list.length : Nat) : Int) (k : Int) x.1 x.2.1 x.2.2.1 x.2.2.2.1 r = some (.inl (list, put, x.1, x.2.1, x.2.2.1, x.2.2.2.1, r', ())) ∧
      (if put = true then r' else r' ++ [x]) = r ++ putP (list.drop k) x ∧ r'.length ≤ r.length + n + 1
  | 0, k, r, hn, hr, hs => by
    refine ⟨false, r, ?_, ?_, by omega⟩
    · rw [lg173_0_eq, br_neg (by omega)]
    · rw [List.drop_eq_nil_of_le (by omega)]; rfl
  | n + 1, k, r, hn, hr, hs => by
    have hlt : k < list.length := by omega
    have hp := hk _ (List.getElem_mem hlt)
    have hdl : (list.drop (k + 1)).length = n := by rw [List.length_drop]; omega
    rw [lg173_0_eq]
    simp (disch := omega) only [br_pos, chk_pos, wrapS, toNat_coe]
    simp only [getD_get hlt]
    rw [List.drop_eq_getElem_cons hlt] at hs ⊢
    obtain ⟨h1, h2⟩ := List.pairwise_cons.1 hs
    obtain ⟨y, ey, y1, y2⟩ := way_ok hx hp
    rw [ey]
    simp only [Option.bind_some, Bool.not_false, Bool.and_true]
    by_cases hlt2 : key list[k] < key x
    · rw [decide_eq_false (show ¬ y ≤ 0 by omega), show (y != 0) = true by simp; omega]
      simp only [br_false, br_true, capOk]
      simp (disch := omega) only [chk_pos]
      obtain ⟨put, r', e1, e2, e3⟩ := impl_put_run hx hk hl n (k + 1) (r ++ [list[k]]) (by omega) (by simp; omega) h2
      refine ⟨put, r', e1, ?_, by simp at e3; omega⟩
      rw [e2, List.append_assoc]
      simp only [putP]
      rw [if_pos hlt2]; rfl
    · rw [decide_eq_true (show y ≤ 0 by omega)]
      simp only [br_true, capOk]
      simp (disch := omega) only [chk_pos]
      simp only [putP]
      rw [if_neg hlt2]
      by_cases he : key list[k] = key x
      · rw [show (y != 0) = false by simp; omega]
        simp only [br_false]
        rw [impl_put_done hx hk hl n (k + 1) _ (by omega) (by simp; omega) fun d h => by have := h1 d h; omega]
        refine ⟨true, _, rfl, ?_, by simp; omega⟩
        rw [if_pos rfl, if_pos he, List.append_assoc]; rfl
      · rw [show (y != 0) = true by simp; omega]
        simp only [br_true]
        simp (disch := (first | omega | (simp; omega))) only [chk_pos]
        rw [impl_put_done hx hk hl n (k + 1) _ (by omega) (by simp; omega) fun d h => by have := h1 d h; omega]
        refine ⟨true, _, rfl, ?_, by simp; omega⟩
        rw [if_pos rfl, if_neg he, List.append_assoc, List.append_assoc]; rfl
theorem copyP (l : List DP) (h : l.length * 32 ≤ 140737488351232) : G134 l = some (l, ()) := by
  rw [G134_eq, copied_eq, chk_pos (by omega)]
  exact br_len l _ _ fun e => by rw [e]
theorem put_impl {ps : List DP} (h : BOk ps) (hl : ps.length ≤ 60) {x : DP} (hx : KV x) : G173 ps x.1 x.2.1 x.2.2.1 x.2.2.2.1 = some (putR ps x, bokB (putP ps x), ()) := by
  rw [G173_eq, bok_impl _ (by omega), (bokB_iff ps).2 ⟨hl, h⟩]
  simp only [Option.bind_some, Bool.not_true, br_false]
  obtain ⟨put, r', e1, e2, e3⟩ := impl_put_run hx (fun p hp => (h.ok p hp).kv) (by omega) ps.length 0 [] (by omega) (by simp; omega) (by rw [List.drop_zero]; exact h.ord)
  have e1 : lg173_0 ps false ps ((ps.length : Nat) : Int) (0 : Int) x.1 x.2.1 x.2.2.1 x.2.2.2.1 [] = _ := e1
  rw [e1]
  rw [List.drop_zero, List.nil_append] at e2
  simp only [Option.bind_some]
  have e3 : r'.length ≤ 62 := by simp at e3; omega
  have fin : ∀ v : List DP, v = putP ps x → ((G82 v).bind fun (y10 : Bool × Unit) => (br (!y10.1) ((G134 ps).bind fun (y11 : (List DP) × Unit) => (some (y11.1, false, ()))) ((G134 v).bind fun (y12 : (List DP) × Unit) => (some (y12.1, true, ()))))) = some (putR ps x, bokB (putP ps x), ()) := fun v hv => by
    subst hv
    have := putP_len (x := x) ps
    rw [bok_impl _ (by omega), copyP _ (by omega), copyP _ (by omega)]
    unfold putR
    simp only [Option.bind_some]
    cases bokB (putP ps x) <;> rfl
  cases put with
  | true =>
    rw [if_pos rfl] at e2
    simp only [Bool.not_true, br_false]
    rw [e2]
    exact fin _ rfl
  | false =>
    rw [if_neg (by decide)] at e2
    have e2 : r' ++ [(x.1, x.2.1, x.2.2.1, x.2.2.2.1, ())] = putP ps x := e2
    simp only [Bool.not_false, br_true, capOk]
    simp (disch := omega) only [chk_pos]
    rw [e2]
    exact fin _ rfl
def getL (d b e : Int) : List DP → Int → Int
  | [], a => a
  | p :: l, a => getL d b e l (if p.1 = d ∧ p.2.1 = b ∧ p.2.2.1 ≤ e then p.2.2.2.1 else a)
theorem get_cond (p : DP) (d b e : Int) : (((p.1 == d) && (p.2.1 == b)) && (decide (p.2.2.1 ≤ e))) = decide (p.1 = d ∧ p.2.1 = b ∧ p.2.2.1 ≤ e) := by
  by_cases h : p.1 = d ∧ p.2.1 = b ∧ p.2.2.1 ≤ e
  · rw [decide_eq_true h, h.1, h.2.1, decide_eq_true h.2.2]; simp
  · rw [decide_eq_false h, ← Bool.not_eq_true]
    simp only [Bool.and_eq_true, beq_iff_eq, decide_eq_true_eq]
    rintro ⟨⟨h1, h2⟩, h3⟩
    exact h ⟨h1, h2, h3⟩
theorem get_impl_loop (l : List DP) (hl : l.length < 9223372036854775807) (d b e : Int) : ∀ (n k : Nat) (a : Int), k + n = l.length → lg174_0 d b e a l ((l.length : Nat) : Int) (k : Int) = some (.inl (getL d b e (l.drop k) a, ()))
  | 0, k, a, hk => by
    rw [lg174_0_eq, br_neg (by omega), List.drop_eq_nil_of_le (by omega)]; rfl
  | n + 1, k, a, hk => by
    have hlt : k < l.length := by omega
    rw [lg174_0_eq]
    simp (disch := omega) only [br_pos, chk_pos, wrapS, toNat_coe]
    simp only [getD_get hlt]
    rw [get_cond, List.drop_eq_getElem_cons hlt]
    simp only [getL]
    by_cases h : l[k].1 = d ∧ l[k].2.1 = b ∧ l[k].2.2.1 ≤ e
    · rw [decide_eq_true h, if_pos h]; exact get_impl_loop l hl d b e n (k + 1) _ (by omega)
    · rw [decide_eq_false h, if_neg h]; exact get_impl_loop l hl d b e n (k + 1) _ (by omega)
theorem get_spec_loop (l : List DP) (hl : l.length < 9223372036854775807) (d b e : Int) : ∀ (n k : Nat) (a : Int), k + n = l.length → lg62_0 l d b e a (k : Int) = some (.inl (getL d b e (l.drop k) a, ()))
  | 0, k, a, hk => by
    rw [lg62_0_eq, br_neg (by omega), List.drop_eq_nil_of_le (by omega)]; rfl
  | n + 1, k, a, hk => by
    have hlt : k < l.length := by omega
    rw [lg62_0_eq]
    simp (disch := omega) only [br_pos, chk_pos, chk_or, wrapS, toNat_coe]
    simp only [getD_get hlt]
    rw [get_cond, List.drop_eq_getElem_cons hlt]
    simp only [getL]
    by_cases h : l[k].1 = d ∧ l[k].2.1 = b ∧ l[k].2.2.1 ≤ e
    · rw [decide_eq_true h, if_pos h]; exact get_spec_loop l hl d b e n (k + 1) _ (by omega)
    · rw [decide_eq_false h, if_neg h]; exact get_spec_loop l hl d b e n (k + 1) _ (by omega)
theorem get_impl {ps : List DP} (h : BOk ps) (hl : ps.length ≤ 60) (d b e : Int) : G174 ps d b e = some (getL d b e ps 0, ()) := by
  rw [G174_eq, bok_impl _ (by omega), (bokB_iff ps).2 ⟨hl, h⟩]
  simp only [Option.bind_some, Bool.not_true, br_false]
  have := get_impl_loop ps (by omega) d b e ps.length 0 0 (by omega)
  have this : lg174_0 d b e (0 : Int) ps ((ps.length : Nat) : Int) (0 : Int) = _ := this
  rw [this]; rfl
theorem get_spec {ps : List DP} (h : BOk ps) (hl : ps.length ≤ 60) (d b e : Int) : G62 ps d b e = some (getL d b e ps 0, ()) := by
  rw [G62_eq, bok_spec _ (by omega), (bokB_iff ps).2 ⟨hl, h⟩]
  simp only [Option.bind_some, Bool.not_true, br_false]
  have := get_spec_loop ps (by omega) d b e ps.length 0 0 (by omega)
  have this : lg62_0 ps d b e (0 : Int) (0 : Int) = _ := this
  rw [this]; rfl
/-- What was put later is not seen. -/
theorem get_put_old {x : DP} {d b e : Int} (he : e < x.2.2.1) (hx : KV x) : ∀ {l : List DP} (a : Int), (∀ p ∈ l, KV p) → getL d b e (putP l x) a = getL d b e l a
  | [], a, _ => by
    simp only [putP, getL]
    rw [if_neg (by omega)]
  | p :: l, a, h => by
    simp only [putP]
    split
    · simp only [getL]
      exact get_put_old he hx _ fun q hq => h q (List.mem_cons_of_mem _ hq)
    · split
      · rename_i hk
        have := (key_eq (h p List.mem_cons_self) hx).1 hk
        simp only [getL]
        rw [if_neg (by omega), if_neg (by omega)]
      · simp only [getL]
        rw [if_neg (show ¬ (x.1 = d ∧ x.2.1 = b ∧ x.2.2.1 ≤ e) by omega)]
structure HOk (nx sv : Int) (ds : List DMapDisk) (ps : List DP) : Prop where
  n : 1 ≤ nx ∧ nx ≤ 5
  s : 3 ≤ sv ∧ sv ≤ 5
  dl : ds.length ≤ 4
  ids : ds.Pairwise fun a b => a.1 < b.1
  dk : ∀ d ∈ ds, DOk 99999 nx d
  fr : ∀ d ∈ ds, d.2.2.2.1 = 0
  pl : ps.length ≤ 60
  pk : BOk ps
theorem HOk.acks {nx sv : Int} {ds : List DMapDisk} {ps : List DP} (h : HOk nx sv ds ps) {d : DMapDisk} (hd : d ∈ ds) : d.2.2.2.2.2.2.1 = [] := ((h.dk d hd).none (h.fr d hd)).2.2
structure HSmall (ds : List DMapDisk) (ps : List DP) : Prop where
  disk : ∀ x ∈ ds, x.2.2.2.2.2.2.1.length ≤ 10
  dl : ds.length ≤ 10
  pl : ps.length ≤ 100
theorem HSmall.fit {nx sv : Int} {ds : List DMapDisk} {ps : List DP} (h : HSmall ds ps) : HFit nx sv ds ps :=
  ⟨fun x hx => by have := h.disk x hx; unfold DiskFit; omega, by have := h.dl; omega, by have := h.pl; omega⟩
theorem HOk.small {nx sv : Int} {ds : List DMapDisk} {ps : List DP} (h : HOk nx sv ds ps) : HSmall ds ps :=
  ⟨fun x hx => by rw [h.acks hx]; decide, by have := h.dl; omega, by have := h.pl; omega⟩
theorem HOk.of {nx sv : Int} {ds : List DMapDisk} {ps : List DP} (h : histB nx sv ds ps = true) : HOk nx sv ds ps := by
  unfold histB at h
  simp only [Bool.and_eq_true, in_iff, Bool.not_eq_true', decide_eq_false_iff_not] at h
  obtain ⟨h1, ⟨h2, h3, h4, h5⟩, h6, h7⟩ := h
  unfold disksB at h5
  unfold freeD at h1
  rw [allF_iff] at h5 h1
  have hd1 : ∀ j (hj : j < ds.length), DOk 99999 nx ds[j] := fun j hj => by
    have := h5 j (Nat.zero_le _) (by omega)
    rw [atD_get hj, Bool.and_eq_true] at this
    exact .of this.1 h3
  refine ⟨h3, h2, by omega, chain_pw fun k hk => ?_, fun d hd => ?_, fun d hd => ?_, by omega, .of h7 (by omega)⟩
  · have := h5 (k + 1) (Nat.zero_le _) (by omega)
    rw [atD_get hk, prevD_get hk (by omega)] at this
    simp at this; exact this.2
  · obtain ⟨j, hj, rfl⟩ := List.mem_iff_getElem.1 hd; exact hd1 j hj
  · obtain ⟨j, hj, rfl⟩ := List.mem_iff_getElem.1 hd
    have := h1 j (Nat.zero_le _) (by omega)
    rw [atD_get hj] at this
    simpa using this
theorem HOk.histB {nx sv : Int} {ds : List DMapDisk} {ps : List DP} (h : HOk nx sv ds ps) : MO.histB nx sv ds ps = true := by
  have hdl := h.dl; have hn := h.n; have hpl := h.pl
  unfold MO.histB
  simp only [Bool.and_eq_true, in_iff, Bool.not_eq_true', decide_eq_false_iff_not]
  refine ⟨?_, ⟨h.s, h.n, by omega, ?_⟩, by omega, h.pk.blkB (by omega)⟩
  · unfold freeD
    rw [allF_iff]
    intro j _ hj
    have hj : j < ds.length := by omega
    rw [atD_get hj, h.fr _ (List.getElem_mem hj)]; rfl
  · unfold disksB
    rw [allF_iff]
    intro j _ hj
    have hj : j < ds.length := by omega
    rw [atD_get hj, (h.dk _ (List.getElem_mem hj)).diskOk (by omega) h.n, Bool.true_and]
    cases j with
    | zero => rfl
    | succ k =>
      rw [prevD_get hj (by omega)]
      have := (List.pairwise_iff_getElem.1 h.ids) k (k + 1) (by omega) hj (by omega)
      simp; omega
abbrev DHR := Int × Int × List DMapDisk × List DP × Int × Int × Unit
def histM (nx sv : Int) (ds : List DMapDisk) (ps : List DP) (c2 c3 c4 c5 c6 : Int) : DHR :=
  if c2 = 1 ∨ c2 = 2 then
    if judgeM ds c3 c4 c5 (c2 == 2) ≠ 0 then (nx, sv, ds, ps, judgeM ds c3 c4 c5 (c2 == 2), 0, ())
    else if c2 = 2 then (nx, sv, ds, putR ps (c3, c4, (atI ds (idxD c3 ds)).2.2.1, c6, ()), 0, 0, ())
    else (nx, sv, ds, ps, 0, getL c3 c4 (if c5 = 0 then (atI ds (idxD c3 ds)).2.2.1 else c5) ps 0, ())
  else if c2 = 3 then
    (if (1 ≤ c6 ∧ c6 ≤ 8) ∧ nx ≤ 4 then (nx + 1, sv, ds ++ [(nx, c6, 1, 0, 0, 0, [], ())], ps, 0, nx, ()) else (nx, sv, ds, ps, 4, 0, ()))
  else if c2 = 6 then (if sv = 5 then (nx, sv, ds, ps, 4, 0, ()) else (nx, sv + 1, ds, ps, 0, sv + 1, ()))
  else if idxD c3 ds < 0 then (nx, sv, ds, ps, 1, 0, ())
  else if c2 = 4 then
    (if (atI ds (idxD c3 ds)).2.2.1 = 99999 then (nx, sv, ds, ps, 4, 0, ())
    else (nx, sv, ds.set (idxD c3 ds).toNat ((atI ds (idxD c3 ds)).1, (atI ds (idxD c3 ds)).2.1, (atI ds (idxD c3 ds)).2.2.1 + 1, 0, 0, 0, [], ()), ps, 0, (atI ds (idxD c3 ds)).2.2.1, ()))
  else (nx, sv, ds.take (idxD c3 ds).toNat ++ ds.drop ((idxD c3 ds).toNat + 1), ps, 0, 0, ())
def vs1 : List DMapView := [((1 : Int), (0 : Int), (1 : Int), ()), ((1 : Int), (1 : Int), (2 : Int), ()), ((1 : Int), (2 : Int), (0 : Int), ())]
theorem idxD_at (id : Int) (ds : List DMapDisk) : idxD id ds = -1 ∨ ∃ k, ∃ hk : k < ds.length, idxD id ds = (k : Int) ∧ ds[k].1 = id := by
  have key : ∀ (l : List DMapDisk) (j : Nat), seekL (fun d : DMapDisk => d.1 == id) (-1) (fun _ k => (k : Int)) l j = -1 ∨ ∃ i, ∃ hi : i < l.length, seekL (fun d : DMapDisk => d.1 == id) (-1) (fun _ k => (k : Int)) l j = ((j + i : Nat) : Int) ∧ l[i].1 = id := by
    intro l
    induction l with
    | nil => intro j; exact .inl rfl
    | cons d l ih =>
      intro j
      simp only [seekL]
      split
      · rename_i h; exact .inr ⟨0, by simp, by simp, by simpa using h⟩
      · rcases ih (j + 1) with h | ⟨i, h1, h2, h3⟩
        · exact .inl h
        · exact .inr ⟨i + 1, by simp; omega, by rw [h2]; congr 1; omega, by simpa using h3⟩
  rcases key ds 0 with h | ⟨i, h1, h2, h3⟩
  · exact .inl h
  · exact .inr ⟨i, h1, by rw [Nat.zero_add] at h2; exact h2, h3⟩
theorem judge_eq' {nx sv : Int} {ds : List DMapDisk} {ps : List DP} (h : HOk nx sv ds ps) (disk block epoch : Int) (w : Bool) :
    G105 ds disk block epoch w = some (judgeM ds disk block epoch w, ()) :=
  judge_eq (E := 99999) (m0 := 0) (m1 := 3) (m2 := nx) (vs := vs1) (xs := []) ⟨by omega, by omega, h.n, h.dl, h.ids, h.dk, rfl, fun v hv => by
    simp only [vs1, List.mem_cons, List.not_mem_nil, or_false] at hv
    rcases hv with rfl | rfl | rfl <;> decide, ⟨.nil, fun d h => by simp at h, fun d h => by simp at h⟩, fun d h => by simp at h⟩ (by omega) disk block epoch w
/-- Where a block is well, its disk is there. -/
theorem judge_fine {ds : List DMapDisk} {disk block epoch : Int} {w : Bool} (h : judgeM ds disk block epoch w = 0) : ∃ k, ∃ hk : k < ds.length, idxD disk ds = (k : Int) ∧ ds[k].1 = disk ∧ 0 ≤ block ∧ block ≤ ds[k].2.1 - 1 ∧ (w = false → epoch ≠ 0 → 1 ≤ epoch ∧ epoch ≤ ds[k].2.2.1 - 1) := by
  unfold judgeM at h
  rcases idxD_at disk ds with e | ⟨k, hk, e, e2⟩
  · rw [if_pos (by omega)] at h; omega
  · rw [e, if_neg (by omega)] at h
    have ha : atI ds (k : Int) = ds[k] := getD_get hk
    rw [ha] at h
    refine ⟨k, hk, e, e2, ?_⟩
    split at h
    · omega
    · rename_i h1
      split at h
      · omega
      · rename_i h2
        refine ⟨by omega, by omega, fun hw he => ?_⟩
        have : ¬ ¬ (1 ≤ epoch ∧ epoch ≤ ds[k].2.2.1 - 1) := fun hn => h2 ⟨hw, he, hn⟩
        omega
theorem copyH {nx sv : Int} {ds : List DMapDisk} {ps : List DP} (h : HSmall ds ps) : G66 nx sv ds ps = some (nx, sv, ds, ps, ()) := by
  have h1 := h.dl; have h2 := h.pl
  rw [G66_eq, copyDs _ (fun x hx => by have := h.disk x hx; unfold DiskFit; omega) (by omega)]
  simp only [Option.bind_some]
  rw [copyP _ (by omega)]
  rfl
theorem erase_small {ds : List DMapDisk} {ps : List DP} (h : HSmall ds ps) (k : Nat) : HSmall (ds.take k ++ ds.drop (k + 1)) ps := by
  rw [← List.eraseIdx_eq_take_drop_succ]
  have hs := List.eraseIdx_sublist ds k
  exact ⟨fun x hx => h.disk x (hs.subset hx), Nat.le_trans hs.length_le h.dl, h.pl⟩
theorem putR_len {ps : List DP} (h : ps.length ≤ 60) (x : DP) : (putR ps x).length ≤ 61 := by
  have := putP_len (x := x) ps
  unfold putR; split <;> omega
theorem histM_small {nx sv : Int} {ds : List DMapDisk} {ps : List DP} (h : HOk nx sv ds ps) (c2 c3 c4 c5 c6 : Int) : HSmall (histM nx sv ds ps c2 c3 c4 c5 c6).2.2.1 (histM nx sv ds ps c2 c3 c4 c5 c6).2.2.2.1 := by
  have hs := h.small; have hdl := h.dl; have hpl := h.pl
  unfold histM
  repeat' split
  all_goals first
    | exact hs
    | exact ⟨hs.disk, hs.dl, by have := putR_len hpl (c3, c4, (atI ds (idxD c3 ds)).2.2.1, c6, ()); dsimp only; omega⟩
    | exact erase_small hs _
    | exact ⟨fun x hx => by
        rcases List.mem_append.1 hx with hx | hx
        · exact hs.disk x hx
        · simp at hx; subst hx; exact Nat.zero_le _, by dsimp only; simp; omega, hs.pl⟩
    | exact ⟨fun x hx => by
        rcases List.mem_or_eq_of_mem_set hx with hx | rfl
        · exact hs.disk x hx
        · exact Nat.zero_le _, by dsimp only; rw [List.length_set]; exact hs.dl, hs.pl⟩
theorem histM_kv {nx sv : Int} {ds : List DMapDisk} {ps : List DP} (h : HOk nx sv ds ps) {c3 c4 c5 c6 : Int} {w : Bool} (hj : judgeM ds c3 c4 c5 w = 0) : KV (c3, c4, (atI ds (idxD c3 ds)).2.2.1, c6, ()) ∧ 1 ≤ c3 ∧ 1 ≤ (atI ds (idxD c3 ds)).2.2.1 := by
  obtain ⟨k, hk, e, e1, b1, b2, _⟩ := judge_fine hj
  have ha : atI ds (idxD c3 ds) = ds[k] := by rw [e]; exact getD_get hk
  have hd := h.dk _ (List.getElem_mem hk)
  have g1 := hd.id; have g2 := hd.size; have g3 := hd.epoch; have g4 := h.n
  rw [ha]
  exact ⟨⟨⟨by show 0 ≤ c3; omega, by show c3 ≤ 99999; omega⟩, ⟨b1, by show c4 ≤ 99999; omega⟩, ⟨by show 0 ≤ ds[k].2.2.1; omega, g3.2⟩⟩, by omega, g3.1⟩
theorem step_impl {nx sv : Int} {ds : List DMapDisk} {ps : List DP} (h : HOk nx sv ds ps) (c0 c1 c2 c3 c4 c5 c6 c7 c8 : Int) (c9 : Bool) (c10 c11 : Int) (hc : 1 ≤ c2 ∧ c2 ≤ 6) :
    G65 nx sv ds ps c0 c1 c2 c3 c4 c5 c6 c7 c8 c9 c10 c11 = some (histM nx sv ds ps c2 c3 c4 c5 c6) := by
  have hdl := h.dl; have hn := h.n; have hsv := h.s; have hpl := h.pl
  rw [G65_eq, disk_impl _ _ (by omega)]
  simp only [Option.bind_some]
  unfold histM
  by_cases k12 : c2 = 1 ∨ c2 = 2
  · rw [show ((c2 == 1) || (c2 == 2)) = true by simpa using k12, if_pos k12]
    simp only [br_true]
    rw [G132_eq, judge_eq' h]
    simp only [Option.bind_some]
    by_cases hj : judgeM ds c3 c4 c5 (c2 == 2) = 0
    · rw [if_neg (by simpa using hj), show (judgeM ds c3 c4 c5 (c2 == 2) != 0) = false by simpa using hj]
      simp only [br_false]
      obtain ⟨k, hk, e, e1, b1, b2, b3⟩ := judge_fine hj
      have hkv := (histM_kv (c6 := c6) h hj).1
      rw [disk_impl _ _ (by omega)]
      simp only [Option.bind_some]
      have ha : ds.getD (idxD c3 ds).toNat ((0 : Int), (0 : Int), (0 : Int), (0 : Int), (0 : Int), (0 : Int), [], ()) = atI ds (idxD c3 ds) := rfl
      rw [chk_pos (by omega), ha]
      by_cases k2 : c2 = 2
      · rw [show (c2 == 2) = true by simpa using k2, if_pos k2]
        simp only [br_true]
        have := put_impl h.pk hpl hkv
        dsimp only at this
        rw [this]; rfl
      · rw [show (c2 == 2) = false by simpa using k2, if_neg k2]
        simp only [br_false]
        by_cases k5 : c5 = 0
        · rw [show (c5 != 0) = false by simpa using k5, if_pos k5, get_impl h.pk hpl, get_impl h.pk hpl]; rfl
        · rw [show (c5 != 0) = true by simpa using k5, if_neg k5, get_impl h.pk hpl, get_impl h.pk hpl]; rfl
    · rw [if_pos hj, show (judgeM ds c3 c4 c5 (c2 == 2) != 0) = true by simpa using hj]; rfl
  · rw [show ((c2 == 1) || (c2 == 2)) = false by rw [← Bool.not_eq_true]; simpa using k12, if_neg k12]
    simp only [br_false]
    by_cases k3 : c2 = 3
    · rw [show (c2 == 3) = true by simpa using k3, if_pos k3]
      simp only [br_true]
      have e2 : f64 c6 1 8 = f56 c6 1 8 := rfl
      rw [e2]
      by_cases hb : (1 ≤ c6 ∧ c6 ≤ 8) ∧ nx ≤ 4
      · rw [if_pos hb, (in_iff _ _ _).2 hb.1, decide_eq_false (by omega)]
        simp only [Bool.not_true, Bool.or_false, br_false, capOk]
        have hw : IntKind.i64.wrap (nx + 1) = nx + 1 := wrap64 (by omega) (by omega)
        rw [hw, wrap64 (by omega) (by omega), chk_pos (by omega), show nx + 1 - 1 = nx by omega]
      · rw [if_neg hb]
        have : ((!(f56 c6 (1 : Int) (8 : Int))) || (decide (nx > (4 : Int)))) = true := by
          by_cases q : 1 ≤ c6 ∧ c6 ≤ 8
          · rw [decide_eq_true (by omega), Bool.or_true]
          · rw [show f56 c6 1 8 = false by rw [← Bool.not_eq_true, in_iff]; exact q]; rfl
        rw [this]; rfl
    · rw [show (c2 == 3) = false by simpa using k3, if_neg k3]
      simp only [br_false]
      by_cases k6 : c2 = 6
      · rw [show (c2 == 6) = true by simpa using k6, if_pos k6]
        simp only [br_true]
        by_cases h5 : sv = 5
        · rw [show (sv == 5) = true by simpa using h5, if_pos h5]; rfl
        · rw [show (sv == 5) = false by simpa using h5, if_neg h5]
          have hw : IntKind.i64.wrap (sv + 1) = sv + 1 := wrap64 (by omega) (by omega)
          rw [hw]; rfl
      · rw [show (c2 == 6) = false by simpa using k6, if_neg k6]
        simp only [br_false]
        rcases idxD_cases c3 ds with e | ⟨k, hk, e⟩
        · rw [e, br_pos (by omega), if_pos (by omega)]
        · have ha : ds.getD (idxD c3 ds).toNat ((0 : Int), (0 : Int), (0 : Int), (0 : Int), (0 : Int), (0 : Int), [], ()) = ds[k] := by rw [e]; exact getD_get hk
          have ha' : atI ds (idxD c3 ds) = ds[k] := ha
          rw [ha', br_neg (by omega), if_neg (by omega)]
          have hd := h.dk _ (List.getElem_mem hk)
          have hf := h.fr _ (List.getElem_mem hk)
          obtain ⟨z1, z2, z3⟩ := hd.none hf
          have g3 := hd.epoch
          by_cases k4 : c2 = 4
          · rw [show (c2 == 4) = true by simpa using k4, if_pos k4]
            simp only [br_true, ha]
            by_cases h9 : ds[k].2.2.1 = 99999
            · rw [show (ds[k].2.2.1 == 99999) = true by simpa using h9, if_pos h9, chk_pos (by omega)]; rfl
            · rw [show (ds[k].2.2.1 == 99999) = false by simpa using h9, if_neg h9]
              simp (disch := omega) only [br_false, chk_pos, wrap64]
              rw [hf, z1, z2, z3]
          · rw [show (c2 == 4) = false by simpa using k4, if_neg k4]
            simp only [br_false]
            rw [e]
            have hw : IntKind.i64.wrap (((k : Nat) : Int) + 1) = ((k + 1 : Nat) : Int) := wrapS (by omega)
            simp only [hw]
            have hl2 : (ds.drop (k + 1)).length ≤ 4 := by rw [List.length_drop]; omega
            simp only [toNat_coe, List.take_length, capOk]
            simp (disch := omega) only [chk_pos, decide_true, chk_true]
theorem hist_impl {nx sv : Int} {ds : List DMapDisk} {ps : List DP} (h : HOk nx sv ds ps) (c0 c1 c2 c3 c4 c5 c6 c7 c8 : Int) (c9 : Bool) (c10 c11 : Int) (hc : 1 ≤ c2 ∧ c2 ≤ 6) :
    G14 nx sv ds ps c0 c1 c2 c3 c4 c5 c6 c7 c8 c9 c10 c11 = some (histM nx sv ds ps c2 c3 c4 c5 c6) := by
  rw [G14_eq, G63_ok h.small.fit, h.histB]
  simp only [Option.bind_some]
  rw [show f64 c2 1 6 = true from (in_iff _ _ _).2 hc]
  simp only [Bool.not_true, Bool.or_self, br_false]
  rw [copyH h.small]
  simp only [Option.bind_some]
  rw [step_impl h _ _ _ _ _ _ _ _ _ _ _ _ hc]
  simp only [Option.bind_some]
  rw [copyH (histM_small h _ _ _ _ _)]
  rfl
theorem hdisk_spec (nx sv : Int) {ds : List DMapDisk} (ps : List DP) (hl : ds.length ≤ 100) (id : Int) : G60 nx sv ds ps id = some (idxD id ds, ()) := by
  rw [G60_eq, disk_spec _ _ _ _ _ _ _ (by omega)]; rfl
theorem hcopy_loop {nx sv : Int} {ds : List DMapDisk} {ps : List DP} (h : HOk nx sv ds ps) (a0 a1 : Int) (a2 : List DMapDisk) (a3 : List DP) (b0 b1 : Int) : ∀ n k, k + n = ds.length →
    lg57_0 (k : Int) a0 a1 a2 a3 b0 b1 nx sv ps (k : Int) ds = some (.inl (a0, a1, a2, a3, b0, b1, nx, sv, ps, ((ds.length : Nat) : Int), ds, ()))
  | 0, k, hk => by
    rw [lg57_0_eq, br_neg (by omega), show k = ds.length by omega]
  | n + 1, k, hk => by
    have hlt : k < ds.length := by omega
    have hdl := h.dl
    rw [lg57_0_eq]
    simp (disch := omega) only [br_pos, chk_pos, wrapS, toNat_coe]
    simp only [getD_get hlt]
    have hz := h.acks (List.getElem_mem hlt)
    have e : ds.set k (ds[k].1, ds[k].2.1, ds[k].2.2.1, ds[k].2.2.2.1, ds[k].2.2.2.2.1, ds[k].2.2.2.2.2.1, [], ()) = ds := by
      rw [← hz]; exact List.set_getElem_self hlt
    rw [e]
    exact hcopy_loop h a0 a1 a2 a3 b0 b1 n (k + 1) (by omega)
theorem hcopy_spec {nx sv : Int} {ds : List DMapDisk} {ps : List DP} (h : HOk nx sv ds ps) : G57 nx sv ds ps = some (nx, sv, ds, ps, ()) := by
  have hdl := h.dl; have hpl := h.pl
  have := hcopy_loop h nx sv ds ps 0 0 ds.length 0 (by omega)
  have this : lg57_0 (0 : Int) nx sv ds ps (0 : Int) (0 : Int) nx sv ps (0 : Int) ds = _ := this
  rw [G57_eq, this]
  simp only [capOk, Option.bind_some]
  simp (disch := omega) only [chk_pos, decide_true, chk_true]
theorem hjudge_spec {nx sv : Int} {ds : List DMapDisk} {ps : List DP} (h : HOk nx sv ds ps) (c0 c1 c2 c3 c4 c5 c6 c7 c8 : Int) (c9 : Bool) (c10 c11 : Int) (hc : c2 = 1 ∨ c2 = 2) :
    G59 nx sv ds ps c0 c1 c2 c3 c4 c5 c6 c7 c8 c9 c10 c11 = some (judgeM ds c3 c4 c5 (c2 == 2), ()) := by
  have hdl := h.dl
  rw [G59_eq, hdisk_spec _ _ _ (by omega)]
  simp only [Option.bind_some]
  unfold judgeM
  rcases idxD_cases c3 ds with e | ⟨k, hk, e⟩
  · rw [e, if_pos (by omega)]; rfl
  · rw [e]
    have hd := h.dk _ (List.getElem_mem hk)
    have g1 := hd.size
    have g2 := hd.epoch
    rw [if_neg (by omega)]
    simp (disch := omega) only [br_neg, chk_pos, chk_or, toNat_coe]
    have ha : atI ds (k : Int) = ds[k] := getD_get hk
    rw [ha]
    simp only [getD_get hk]
    rw [wrap64 (by omega) (by omega), wrap64 (by omega) (by omega)]
    by_cases h1 : 0 ≤ c4 ∧ c4 ≤ ds[k].2.1 - 1
    · rw [(in_iff _ _ _).2 h1, if_neg (fun hn => hn h1)]
      simp only [Bool.not_true, br_false]
      by_cases h2 : 1 ≤ c5 ∧ c5 ≤ ds[k].2.2.1 - 1
      · rw [(in_iff _ _ _).2 h2, if_neg (fun hn => hn.2.2 h2)]
        simp only [Bool.not_true, Bool.and_false, br_false]
      · rw [show f56 c5 1 (ds[k].2.2.1 - 1) = false by rw [← Bool.not_eq_true, in_iff]; exact h2]
        rcases hc with rfl | rfl
        · by_cases h3 : c5 = 0
          · subst h3; rw [if_neg (fun hn => hn.2.1 rfl)]; rfl
          · rw [if_pos ⟨rfl, h3, h2⟩, show (c5 != 0) = true by simpa using h3]; rfl
        · rw [if_neg (fun hn => by simp at hn)]; rfl
    · rw [show f56 c4 0 (ds[k].2.1 - 1) = false by rw [← Bool.not_eq_true, in_iff]; exact h1, if_pos h1]; rfl
theorem hadmin_spec {nx sv : Int} {ds : List DMapDisk} {ps : List DP} (h : HOk nx sv ds ps) (c0 c1 c2 c3 c4 c5 c6 c7 c8 : Int) (c9 : Bool) (c10 c11 : Int) (hc : 3 ≤ c2 ∧ c2 ≤ 6) :
    G58 nx sv ds ps c0 c1 c2 c3 c4 c5 c6 c7 c8 c9 c10 c11 = some (histM nx sv ds ps c2 c3 c4 c5 c6) := by
  have hdl := h.dl; have hn := h.n; have hsv := h.s; have hpl := h.pl
  rw [G58_eq, hdisk_spec _ _ _ (by omega)]
  simp only [Option.bind_some]
  unfold histM
  rw [if_neg (by omega)]
  by_cases k3 : c2 = 3
  · rw [show (c2 == 3) = true by simpa using k3, show (c2 == 6) = false by simp; omega, if_pos k3]
    simp only [Bool.true_and, Bool.false_and, br_true, br_false]
    by_cases hb : (1 ≤ c6 ∧ c6 ≤ 8) ∧ nx ≤ 4
    · rw [if_pos hb, (in_iff _ _ _).2 hb.1, decide_eq_false (by omega)]
      simp only [Bool.not_true, Bool.or_false, br_false, capOk]
      have hw : IntKind.i64.wrap (nx + 1) = nx + 1 := wrap64 (by omega) (by omega)
      rw [hw, wrap64 (by omega) (by omega), chk_pos (by omega), show nx + 1 - 1 = nx by omega]
    · rw [if_neg hb]
      have : ((!(f56 c6 (1 : Int) (8 : Int))) || (decide (nx > (4 : Int)))) = true := by
        by_cases q : 1 ≤ c6 ∧ c6 ≤ 8
        · rw [decide_eq_true (by omega), Bool.or_true]
        · rw [show f56 c6 1 8 = false by rw [← Bool.not_eq_true, in_iff]; exact q]; rfl
      rw [this]; rfl
  · rw [show (c2 == 3) = false by simpa using k3, if_neg k3]
    simp only [Bool.false_and, br_false]
    by_cases k6 : c2 = 6
    · rw [show (c2 == 6) = true by simpa using k6, if_pos k6]
      simp only [Bool.true_and, br_true]
      by_cases h5 : sv = 5
      · rw [decide_eq_true (by omega), if_pos h5]; rfl
      · rw [decide_eq_false (by omega), if_neg h5]
        have hw : IntKind.i64.wrap (sv + 1) = sv + 1 := wrap64 (by omega) (by omega)
        rw [hw]; rfl
    · rw [show (c2 == 6) = false by simpa using k6, if_neg k6]
      simp only [Bool.false_and, br_false]
      rcases idxD_cases c3 ds with e | ⟨k, hk, e⟩
      · rw [e, br_pos (by omega), if_pos (by omega)]
      · have ha : ds.getD (idxD c3 ds).toNat ((0 : Int), (0 : Int), (0 : Int), (0 : Int), (0 : Int), (0 : Int), [], ()) = ds[k] := by rw [e]; exact getD_get hk
        have ha' : atI ds (idxD c3 ds) = ds[k] := ha
        rw [ha', br_neg (by omega), if_neg (by omega)]
        have hd := h.dk _ (List.getElem_mem hk)
        have hf := h.fr _ (List.getElem_mem hk)
        obtain ⟨z1, z2, z3⟩ := hd.none hf
        have g3 := hd.epoch
        simp only [ha]
        rw [chk_or (by omega)]
        by_cases k4 : c2 = 4
        · rw [show (c2 == 4) = true by simpa using k4, if_pos k4]
          simp only [Bool.true_and, br_true]
          by_cases h9 : ds[k].2.2.1 = 99999
          · rw [decide_eq_true (by omega), if_pos h9]; rfl
          · rw [decide_eq_false (by omega), if_neg h9]
            have hw : IntKind.i64.wrap (ds[k].2.2.1 + 1) = ds[k].2.2.1 + 1 := wrap64 (by omega) (by omega)
            simp only [hw, List.length_set]
            simp (disch := omega) only [br_false, chk_pos]
            have hs : ∀ x : DMapDisk, (ds.set (idxD c3 ds).toNat x).getD (idxD c3 ds).toNat ((0 : Int), (0 : Int), (0 : Int), (0 : Int), (0 : Int), (0 : Int), [], ()) = x := fun x => by
              rw [e]
              show (ds.set k x).getD k _ = x
              rw [getD_get (by simpa using hk), List.getElem_set_self]
            simp only [hs]
            rw [wrap64 (by omega) (by omega), show ds[k].2.2.1 + 1 - 1 = ds[k].2.2.1 by omega, hf, z1, z2, z3]
        · rw [show (c2 == 4) = false by simpa using k4, if_neg k4]
          simp only [Bool.false_and, br_false]
          rw [e]
          have hw : IntKind.i64.wrap (((k : Nat) : Int) + 1) = ((k + 1 : Nat) : Int) := wrapS (by omega)
          simp only [hw]
          have hl1 : (ds.take k).length ≤ 4 := by rw [List.length_take]; omega
          have hl2 : (ds.drop (k + 1)).length ≤ 4 := by rw [List.length_drop]; omega
          simp only [toNat_coe, List.take_length, List.drop_zero, capOk]
          simp (disch := omega) only [chk_pos]
theorem hist_spec {nx sv : Int} {ds : List DMapDisk} {ps : List DP} (h : HOk nx sv ds ps) (c0 c1 c2 c3 c4 c5 c6 c7 c8 : Int) (c9 : Bool) (c10 c11 : Int) (hc : 1 ≤ c2 ∧ c2 ≤ 6) :
    G13 nx sv ds ps c0 c1 c2 c3 c4 c5 c6 c7 c8 c9 c10 c11 = some (histM nx sv ds ps c2 c3 c4 c5 c6) := by
  have hdl := h.dl; have hpl := h.pl
  rw [G13_eq, G55_ok h.small.fit, h.histB]
  simp only [Option.bind_some]
  rw [(in_iff _ _ _).2 hc]
  simp only [Bool.not_true, Bool.or_self, br_false]
  rw [hcopy_spec h]
  simp only [Option.bind_some]
  by_cases k12 : c2 = 1 ∨ c2 = 2
  · rw [br_neg (by omega), hjudge_spec h _ _ _ _ _ _ _ _ _ _ _ _ k12]
    unfold histM
    rw [if_pos k12]
    simp only [Option.bind_some]
    by_cases hj : judgeM ds c3 c4 c5 (c2 == 2) = 0
    · rw [if_neg (by simpa using hj), show (judgeM ds c3 c4 c5 (c2 == 2) != 0) = false by simpa using hj]
      simp only [br_false]
      obtain ⟨k, hk, e, e1, b1, b2, b3⟩ := judge_fine hj
      have hkv := (histM_kv (c6 := c6) h hj).1
      rw [hdisk_spec _ _ _ (by omega)]
      simp only [Option.bind_some]
      have ha : ds.getD (idxD c3 ds).toNat ((0 : Int), (0 : Int), (0 : Int), (0 : Int), (0 : Int), (0 : Int), [], ()) = atI ds (idxD c3 ds) := rfl
      rw [chk_pos (by omega), ha]
      by_cases k2 : c2 = 2
      · rw [show (c2 == 2) = true by simpa using k2, if_pos k2]
        simp only [br_true]
        have := put_spec h.pk hpl hkv
        dsimp only at this
        rw [this]; rfl
      · rw [show (c2 == 2) = false by simpa using k2, if_neg k2]
        simp only [br_false]
        by_cases k5 : c5 = 0
        · rw [show (c5 == 0) = true by simpa using k5, if_pos k5, get_spec h.pk hpl, get_spec h.pk hpl]; rfl
        · rw [show (c5 == 0) = false by simpa using k5, if_neg k5, get_spec h.pk hpl, get_spec h.pk hpl]; rfl
    · rw [if_pos hj, show (judgeM ds c3 c4 c5 (c2 == 2) != 0) = true by simpa using hj]; rfl
  · rw [br_pos (by omega), hadmin_spec h _ _ _ _ _ _ _ _ _ _ _ _ (by omega)]
    rfl
/-- Both steps of a state that is small come to the same. -/
theorem hist_both {nx sv : Int} {ds : List DMapDisk} {ps : List DP} (h : HSmall ds ps) (c0 c1 c2 c3 c4 c5 c6 c7 c8 : Int) (c9 : Bool) (c10 c11 : Int) :
    (HOk nx sv ds ps ∧ (1 ≤ c2 ∧ c2 ≤ 6) ∧ G13 nx sv ds ps c0 c1 c2 c3 c4 c5 c6 c7 c8 c9 c10 c11 = some (histM nx sv ds ps c2 c3 c4 c5 c6) ∧ G14 nx sv ds ps c0 c1 c2 c3 c4 c5 c6 c7 c8 c9 c10 c11 = some (histM nx sv ds ps c2 c3 c4 c5 c6)) ∨
    (G13 nx sv ds ps c0 c1 c2 c3 c4 c5 c6 c7 c8 c9 c10 c11 = some (0, 0, [], [], 5, 0, ()) ∧ G14 nx sv ds ps c0 c1 c2 c3 c4 c5 c6 c7 c8 c9 c10 c11 = some (0, 0, [], [], 5, 0, ())) := by
  by_cases hb : histB nx sv ds ps = true ∧ (1 ≤ c2 ∧ c2 ≤ 6)
  · have hh := HOk.of hb.1
    exact .inl ⟨hh, hb.2, hist_spec hh _ _ _ _ _ _ _ _ _ _ _ _ hb.2, hist_impl hh _ _ _ _ _ _ _ _ _ _ _ _ hb.2⟩
  · have : (!histB nx sv ds ps || !f56 c2 1 6) = true := by
      rw [← Bool.not_and, Bool.not_eq_true', ← Bool.not_eq_true, Bool.and_eq_true, in_iff]; exact hb
    refine .inr ⟨?_, ?_⟩
    · rw [G13_eq, G55_ok h.fit]
      simp only [Option.bind_some]
      rw [this]; rfl
    · rw [G14_eq, G63_ok h.fit]
      simp only [Option.bind_some]
      have e : f64 c2 1 6 = f56 c2 1 6 := rfl
      rw [e, this]; rfl
theorem hstep_small {nx sv : Int} {ds : List DMapDisk} {ps : List DP} (h : HSmall ds ps) (c0 c1 c2 c3 c4 c5 c6 c7 c8 : Int) (c9 : Bool) (c10 c11 : Int) :
    Gives (G13 nx sv ds ps c0 c1 c2 c3 c4 c5 c6 c7 c8 c9 c10 c11) fun y => HSmall y.2.2.1 y.2.2.2.1 := by
  rcases hist_both (nx := nx) (sv := sv) h c0 c1 c2 c3 c4 c5 c6 c7 c8 c9 c10 c11 with ⟨hh, _, e, _⟩ | ⟨e, _⟩
  · exact ⟨_, e, histM_small hh _ _ _ _ _⟩
  · exact ⟨_, e, fun x hx => by simp at hx, by simp, by simp⟩
theorem hstate_loop {b : List (Int × Unit)} : ∀ (n : Nat) {nx sv : Int} {ds : List DMapDisk} {ps : List DP} {p P : Int}, HSmall ds ps → Rd b p P → P + 10 * n ≤ 600000 →
    Gives (lg53_0 (n : Int) b p (0 : Int) (0 : Int) nx sv ds ps) fun y => ∃ (p' nx' sv' : Int) (ds' : List DMapDisk) (ps' : List DP), y = .inl (b, p', (0 : Int), (0 : Int), nx', sv', ds', ps', ()) ∧ Rd b p' (P + 10 * n) ∧ HSmall ds' ps'
  | 0, nx, sv, ds, ps, p, P, h, R, hP => by
    rw [lg53_0_eq, br_neg (by omega)]
    exact .of ⟨p, nx, sv, ds, ps, rfl, by simpa using R, h⟩
  | n + 1, nx, sv, ds, ps, p, P, h, R, hP => by
    have hp0 := R.pos; have hp1 := R.few
    rw [lg53_0_eq, br_pos (by omega)]
    refine (pick_gives R (by omega) (8 : Int)).bind ?_
    rintro ⟨v1, _, _, _⟩ ⟨rfl, rfl, r1⟩
    have h1 := r1 (by omega)
    dsimp only at h1 ⊢
    refine .chkd ⟨h1.1, by omega⟩ ?_
    refine (pick_gives R.next (by omega) (2 : Int)).bind ?_
    rintro ⟨v2, _, _, _⟩ ⟨rfl, rfl, r2⟩
    dsimp only
    refine (pick_gives R.next.next (by omega) (3 : Int)).bind ?_
    rintro ⟨v3, _, _, _⟩ ⟨rfl, rfl, r3⟩
    dsimp only
    refine (pick_gives R.next.next.next (by omega) (9 : Int)).bind ?_
    rintro ⟨v4, _, _, _⟩ ⟨rfl, rfl, r4⟩
    dsimp only
    refine (hstep_small h _ _ _ _ _ _ _ _ _ _ _ _).bind ?_
    rintro ⟨nx', sv', ds', ps', _, _, _⟩ h'
    dsimp only at h' ⊢
    rw [show IntKind.i64.wrap (((n + 1 : Nat) : Int) - 1) = ((n : Nat) : Int) by rw [wrap64 (by omega) (by omega)]; omega]
    refine (hstate_loop n h' R.next.next.next.next (by omega)).mono ?_
    rintro y ⟨p', a, b', c, d, e, R', hs⟩
    exact ⟨p', a, b', c, d, e, R'.mono (by omega), hs⟩
theorem hstate_gives {b : List (Int × Unit)} {p P : Int} (R : Rd b p P) (hP : P ≤ 500000) :
    Gives (G53 b p) fun y => HSmall y.2.2.1 y.2.2.2.1 ∧ b = y.2.2.2.2.1 ∧ Rd b y.2.2.2.2.2.1 (P + 100) := by
  rw [G53_eq, G128_eq]
  simp only [Option.bind_some]
  refine (pick_gives R (by omega) (9 : Int)).bind ?_
  rintro ⟨v1, _, _, _⟩ ⟨rfl, rfl, r1⟩
  have h1 := r1 (by omega)
  dsimp only at h1 ⊢
  obtain ⟨n, rfl⟩ := Int.eq_ofNat_of_zero_le h1.1
  refine (hstate_loop n (nx := 1) (sv := 3) (ds := []) (ps := []) ⟨fun x hx => by simp at hx, by simp, by simp⟩ R.next (by omega)).bind ?_
  rintro y ⟨p', nx, sv, ds, ps, rfl, R', hs⟩
  have R' := R'.mono (Q := P + 91) (by omega)
  dsimp only
  refine (pick_gives R' (by omega) (14 : Int)).bind ?_
  rintro ⟨v2, _, _, _⟩ ⟨rfl, rfl, r2⟩
  dsimp only
  have set0 : ∀ e : DMapDisk, (0 < ds.length → e.2.2.2.2.2.2.1 = (ds.getD 0 ((0 : Int), (0 : Int), (0 : Int), (0 : Int), (0 : Int), (0 : Int), [], ())).2.2.2.2.2.2.1) → HSmall (ds.set 0 e) ps := fun e he => by
    refine ⟨fun x hx => ?_, by rw [List.length_set]; exact hs.dl, hs.pl⟩
    by_cases hl : 0 < ds.length
    · rcases List.mem_or_eq_of_mem_set hx with hx | rfl
      · exact hs.disk x hx
      · rw [he hl, getD_get hl]; exact hs.disk _ (List.getElem_mem hl)
    · rw [List.set_eq_of_length_le (by omega)] at hx
      exact hs.disk x hx
  refine .br (fun _ => ?_) fun _ => .br (fun _ => ?_) fun _ => .br (fun _ => ?_) fun _ => .br (fun _ => ?_) fun _ => ?_
  · refine (pick_gives R'.next (by omega) (3 : Int)).bind ?_
    rintro ⟨v, _, _, _⟩ ⟨rfl, rfl, r⟩
    have hr := r (by omega)
    exact .chkd ⟨hr.1, hr.2⟩ (.of ⟨hs, rfl, R'.next.next.mono (by omega)⟩)
  · refine (pick_gives R'.next (by omega) (2 : Int)).bind ?_
    rintro ⟨v, _, _, _⟩ ⟨rfl, rfl, r⟩
    have hr := r (by omega)
    exact .chkd ⟨hr.1, hr.2⟩ (.of ⟨hs, rfl, R'.next.next.mono (by omega)⟩)
  · refine .br (fun h0 => ?_) fun _ => .of ⟨hs, rfl, R'.next.mono (by omega)⟩
    have h0 := of_decide_eq_true h0
    refine (pick_gives R'.next (by omega) (3 : Int)).bind ?_
    rintro ⟨v, _, _, _⟩ ⟨rfl, rfl, r⟩
    have hr := r (by omega)
    exact .chkd ⟨hr.1, hr.2⟩ (.chkd ⟨by omega, by omega⟩ (.of ⟨set0 _ fun _ => rfl, rfl, R'.next.next.mono (by omega)⟩))
  · refine .br (fun h0 => ?_) fun _ => .of ⟨hs, rfl, R'.next.mono (by omega)⟩
    have h0 := of_decide_eq_true h0
    exact .chkd ⟨by omega, by omega⟩ (.of ⟨set0 _ fun _ => rfl, rfl, R'.next.mono (by omega)⟩)
  · exact .of ⟨hs, rfl, R'.next.mono (by omega)⟩
theorem drawHist_gives (code : List (Int × Unit)) (hc : ∀ i, 0 ≤ (code.getD i ((0 : Int), ())).1 ∧ (code.getD i ((0 : Int), ())).1 ≤ 255) :
    Gives (G12 code) fun y => HSmall y.2.2.1 y.2.2.2.1 := by
  obtain ⟨b, e, R⟩ := open_some code hc
  rw [G12_eq, e]
  simp only [Option.bind_some]
  refine (hstate_gives R (by omega)).bind ?_
  rintro ⟨nx, sv, ds, ps, _, p', _⟩ ⟨hs, rfl, R0⟩
  dsimp only at hs R0 ⊢
  refine (pick_gives R0 (by omega) (6 : Int)).bind ?_
  rintro ⟨v1, _, _, _⟩ ⟨rfl, rfl, r1⟩
  have R1 := R0.next
  dsimp only
  refine (pick_gives R1 (by omega) (2 : Int)).bind ?_
  rintro ⟨v2, _, _, _⟩ ⟨rfl, rfl, r2⟩
  have R2 := R1.next
  dsimp only
  refine (pick_gives R2 (by omega) (4 : Int)).bind ?_
  rintro ⟨v3, _, _, _⟩ ⟨rfl, rfl, r3⟩
  have R3 := R2.next
  dsimp only
  refine (pick_gives R3 (by omega) (12 : Int)).bind ?_
  rintro ⟨v4, _, _, _⟩ ⟨rfl, rfl, r4⟩
  have R4 := R3.next
  dsimp only
  refine .chk rfl ?_
  refine (pick_gives R4 (by omega) (2 : Int)).bind ?_
  rintro ⟨v5, _, _, _⟩ ⟨rfl, rfl, r5⟩
  have R5 := R4.next
  dsimp only
  refine (pick_gives R5 (by omega) (5 : Int)).bind ?_
  rintro ⟨v6, _, _, _⟩ ⟨rfl, rfl, r6⟩
  have R6 := R5.next
  dsimp only
  refine (pick_gives R6 (by omega) (10 : Int)).bind ?_
  rintro ⟨v7, _, _, _⟩ ⟨rfl, rfl, r7⟩
  have R7 := R6.next
  dsimp only
  refine (pick_gives R7 (by omega) (12 : Int)).bind ?_
  rintro ⟨v8, _, _, _⟩ ⟨rfl, rfl, r8⟩
  have R8 := R7.next
  dsimp only
  refine .br (fun _ => ?_) fun _ => .of hs
  refine (pick_gives R8 (by omega) (3 : Int)).bind ?_
  rintro ⟨v, _, _, _⟩ ⟨rfl, rfl, r⟩
  have hr := r (by omega)
  exact .chkd ⟨hr.1, hr.2⟩ (.of hs)
theorem lpPieces_same (a : List DP) (ha : a.length < 9223372036854775807) : G67 a a = some (true, ()) := by
  rw [G67_eq, bne_self', br_false]
  have : lg67_0 a a (0 : Int) = some (.inl ()) := by
    refine up (N := a.length) (P := fun k => lg67_0 a a (k : Int) = some (.inl ())) ?_ ?_
    · rw [lg67_0_eq, br_neg (by omega)]
    · intro k hk ih
      rw [lg67_0_eq]
      simp (disch := omega) only [br_pos, chk_pos, wrapS]
      simp only [beq_self_eq_true, Bool.and_true, Bool.not_true, br_false]
      exact ih
  rw [this]; rfl
theorem lpState_same {nx sv : Int} {ds : List DMapDisk} {ps : List DP} (h : HSmall ds ps) : G15 nx sv ds ps nx sv ds ps = some (true, ()) := by
  have h1 := h.dl; have h2 := h.pl
  rw [G15_eq, lpPieces_same _ (by omega)]
  simp only [chk_isSome, Option.getD_some, bne_self', Bool.or_self, Bool.not_true, br_false]
  have : lg15_0 (0 : Int) nx sv ds ps nx sv ds ps = some (.inl ()) := by
    refine up (N := ds.length) (P := fun k => lg15_0 (k : Int) nx sv ds ps nx sv ds ps = some (.inl ())) ?_ ?_
    · rw [lg15_0_eq, br_neg (by omega)]
    · intro k hk ih
      rw [lg15_0_eq]
      simp (disch := omega) only [br_pos, chk_pos, chk_or, wrapS]
      simp only [bne_self', Bool.or_self, br_false]
      exact ih
  rw [this]; rfl
theorem HOk.put {nx sv : Int} {ds : List DMapDisk} {ps : List DP} (h : HOk nx sv ds ps) (x : DP) : HOk nx sv ds (putR ps x) := by
  refine ⟨h.n, h.s, h.dl, h.ids, h.dk, h.fr, ?_, ?_⟩
  · unfold putR; split
    · rename_i hb; exact ((bokB_iff _).1 hb).1
    · exact h.pl
  · unfold putR; split
    · rename_i hb; exact ((bokB_iff _).1 hb).2
    · exact h.pk
theorem getR_old {nx sv : Int} {ds : List DMapDisk} {ps : List DP} (h : HOk nx sv ds ps) {x : DP} (hx : KV x) {d b e : Int} (he : e < x.2.2.1) : getL d b e (putR ps x) 0 = getL d b e ps 0 := by
  unfold putR; split
  · exact get_put_old he hx _ fun p hp => (h.pk.ok p hp).kv
  · rfl
theorem hist_read (nx sv : Int) (ds : List DMapDisk) (ps : List DP) (c3 c4 c5 c6 : Int) : histM nx sv ds ps 1 c3 c4 c5 c6 = if judgeM ds c3 c4 c5 false ≠ 0 then (nx, sv, ds, ps, judgeM ds c3 c4 c5 false, 0, ()) else (nx, sv, ds, ps, 0, getL c3 c4 (if c5 = 0 then (atI ds (idxD c3 ds)).2.2.1 else c5) ps 0, ()) := by
  unfold histM
  rw [if_pos (.inl rfl), show ((1 : Int) == 2) = false from rfl, if_neg (show ¬ (1 : Int) = 2 by omega)]
theorem hist_write (nx sv : Int) (ds : List DMapDisk) (ps : List DP) (c3 c4 c5 c6 : Int) : histM nx sv ds ps 2 c3 c4 c5 c6 = if judgeM ds c3 c4 c5 true ≠ 0 then (nx, sv, ds, ps, judgeM ds c3 c4 c5 true, 0, ()) else (nx, sv, ds, putR ps (c3, c4, (atI ds (idxD c3 ds)).2.2.1, c6, ()), 0, 0, ()) := by
  unfold histM
  rw [if_pos (.inr rfl), show ((2 : Int) == 2) = true from rfl, if_pos (rfl : (2 : Int) = 2)]
theorem zero_small : HSmall ([] : List DMapDisk) ([] : List DP) := ⟨fun x hx => by simp at hx, by simp, by simp⟩
theorem idx_set {ds : List DMapDisk} {id : Int} {e : DMapDisk} {k : Nat} (hk : k < ds.length) (hi : idxD id ds = (k : Int)) (he : e.1 = ds[k].1) : idxD id (ds.set k e) = (k : Int) := by
  have key : ∀ (l : List DMapDisk) (k : Nat) (hk : k < l.length) (j : Nat), e.1 = l[k].1 → seekL (fun d : DMapDisk => d.1 == id) (-1) (fun _ i => (i : Int)) (l.set k e) j = seekL (fun d : DMapDisk => d.1 == id) (-1) (fun _ i => (i : Int)) l j := by
    intro l
    induction l with
    | nil => intro k hk; simp at hk
    | cons d l ih =>
      intro k hk j he
      cases k with
      | zero =>
        have he : e.1 = d.1 := he
        simp only [List.set_cons_zero, seekL, he]
      | succ k =>
        have hk' : k < l.length := by simpa using hk
        simp only [List.set_cons_succ, seekL]
        rw [ih k hk' (j + 1) he]
  have := key ds k hk 0 he
  unfold idxD at hi ⊢
  rw [this]; exact hi
theorem snap_loop {nx sv : Int} {ds : List DMapDisk} {ps : List DP} (h : HOk nx sv ds ps) {k : Nat} (hk : k < ds.length) {c0 c1 c3 c4 c5 c6 c7 c8 : Int} {c9 : Bool} {c10 c11 : Int} (hi : idxD c3 ds = (k : Int)) (h9 : ds[k].2.2.1 < 99999)
    (h' : HOk nx sv (ds.set k (ds[k].1, ds[k].2.1, ds[k].2.2.1 + 1, 0, 0, 0, [], ())) ps) : ∀ (n : Nat) (b : Nat), b + n = 8 →
    lg4_0 ds[k].2.2.1 (b : Int) nx sv ds ps c0 c1 4 c3 c4 c5 c6 c7 c8 c9 c10 c11 nx sv (ds.set k (ds[k].1, ds[k].2.1, ds[k].2.2.1 + 1, 0, 0, 0, [], ())) ps = some (.inl ())
  | 0, b, hb => by
    rw [lg4_0_eq, br_neg (by omega)]
  | n + 1, b, hb => by
    have hd := h.dk _ (List.getElem_mem hk)
    have hsz := hd.size
    have hep := hd.epoch
    rw [lg4_0_eq, br_pos (by omega), hist_impl h' _ _ _ _ _ _ _ _ _ _ _ _ ⟨by omega, by omega⟩, hist_impl h _ _ _ _ _ _ _ _ _ _ _ _ ⟨by omega, by omega⟩]
    simp only [Option.bind_some]
    have hi' : idxD c3 (ds.set k (ds[k].1, ds[k].2.1, ds[k].2.2.1 + 1, 0, 0, 0, [], ())) = (k : Int) := idx_set hk hi rfl
    have ha : atI ds (idxD c3 ds) = ds[k] := by rw [hi]; exact getD_get hk
    have ha' : atI (ds.set k (ds[k].1, ds[k].2.1, ds[k].2.2.1 + 1, 0, 0, 0, [], ())) (idxD c3 (ds.set k (ds[k].1, ds[k].2.1, ds[k].2.2.1 + 1, 0, 0, 0, [], ()))) = (ds[k].1, ds[k].2.1, ds[k].2.2.1 + 1, 0, 0, 0, [], ()) := by
      rw [hi']
      show (ds.set k _).getD k _ = _
      rw [getD_get (by simpa using hk), List.getElem_set_self]
    -- what is said of the block, thrice
    have j1 : ∀ (e : Int) (w : Bool), judgeM (ds.set k (ds[k].1, ds[k].2.1, ds[k].2.2.1 + 1, 0, 0, 0, [], ())) c3 (b : Int) e w = if (b : Int) ≤ ds[k].2.1 - 1 then (if w = false ∧ e ≠ 0 ∧ ¬ (1 ≤ e ∧ e ≤ ds[k].2.2.1) then 3 else 0) else 2 := fun e w => by
      unfold judgeM
      rw [ha', hi', if_neg (by omega)]
      by_cases q : (b : Int) ≤ ds[k].2.1 - 1
      · rw [if_neg (by dsimp only; omega), if_pos q]
        dsimp only
        rw [show ds[k].2.2.1 + 1 - 1 = ds[k].2.2.1 by omega]
      · rw [if_pos (by dsimp only; omega), if_neg q]
    have j2 : judgeM ds c3 (b : Int) 0 false = if (b : Int) ≤ ds[k].2.1 - 1 then 0 else 2 := by
      unfold judgeM
      rw [ha, hi, if_neg (by omega)]
      by_cases q : (b : Int) ≤ ds[k].2.1 - 1
      · rw [if_neg (by omega), if_pos q, if_neg (fun hn => hn.2.1 rfl)]
      · rw [if_pos (by omega), if_neg q]
    rw [hist_write, hist_read, j1, j2]
    by_cases q : (b : Int) ≤ ds[k].2.1 - 1
    · have z1 : ¬ ((if true = false ∧ (0 : Int) ≠ 0 ∧ ¬ (1 ≤ (0 : Int) ∧ (0 : Int) ≤ ds[k].2.2.1) then (3 : Int) else 0) ≠ 0) := by simp
      have z2 : ¬ ((0 : Int) ≠ 0) := by simp
      have z4 : ¬ ((if false = false ∧ ds[k].2.2.1 ≠ 0 ∧ ¬ (1 ≤ ds[k].2.2.1 ∧ ds[k].2.2.1 ≤ ds[k].2.2.1) then (3 : Int) else 0) ≠ 0) := by
        rw [if_neg (fun hn => hn.2.2 ⟨by omega, by omega⟩)]; simp
      rw [if_pos q, if_pos q, if_neg z1, if_neg z2]
      dsimp only
      have hkv : KV (c3, (b : Int), (atI (ds.set k (ds[k].1, ds[k].2.1, ds[k].2.2.1 + 1, 0, 0, 0, [], ())) (idxD c3 (ds.set k (ds[k].1, ds[k].2.1, ds[k].2.2.1 + 1, 0, 0, 0, [], ())))).2.2.1, 888, ()) := (histM_kv (c5 := 0) (w := true) h' (by rw [j1, if_pos q, if_neg (by simp)])).1
      rw [hist_impl (h'.put _) _ _ _ _ _ _ _ _ _ _ _ _ ⟨by omega, by omega⟩, hist_read, j1, if_pos q, if_neg z4, if_neg (show ¬ ds[k].2.2.1 = 0 by omega)]
      simp only [Option.bind_some, bne_self', Bool.false_or, if_true]
      rw [getR_old h' hkv (by rw [ha']; dsimp only; omega), ha]
      simp only [bne_self', br_false]
      rw [wrapS (by omega)]
      exact snap_loop h hk hi h9 h' n (b + 1) (by omega)
    · have z3 : (2 : Int) ≠ 0 := by omega
      rw [if_neg q, if_neg q, if_pos z3, if_pos z3]
      dsimp only
      rw [hist_impl h' _ _ _ _ _ _ _ _ _ _ _ _ ⟨by omega, by omega⟩, hist_read, j1, if_neg q, if_pos (by omega)]
      simp only [Option.bind_some, bne_self', Bool.or_self, br_false]
      rw [wrapS (by omega)]
      exact snap_loop h hk hi h9 h' n (b + 1) (by omega)
theorem histSnap_law (code : List (Int × Unit)) (hc : ∀ i, 0 ≤ (code.getD i ((0 : Int), ())).1 ∧ (code.getD i ((0 : Int), ())).1 ≤ 255) :
    G4 code = some (true, ()) := by
  rw [G4_eq]
  by_cases hb : ((code.length : Nat) : Int) > 1048576
  · rw [br_pos hb]
  · rw [br_neg hb]
    obtain ⟨⟨nx, sv, ds, ps, c0, c1, c2, c3, c4, c5, c6, c7, c8, c9, c10, c11, _⟩, e, hs⟩ := drawHist_gives code hc
    rw [e]
    dsimp only at hs
    simp only [Option.bind_some]
    rcases hist_both (nx := nx) (sv := sv) hs c0 c1 4 c3 c4 c5 c6 c7 c8 c9 c10 c11 with ⟨h, _, e1, e2⟩ | ⟨e1, e2⟩
    · rw [e1, e2]
      simp only [Option.bind_some]
      rw [lpState_same (histM_small h _ _ _ _ _)]
      simp only [chk_isSome, Option.getD_some, bne_self', Bool.not_true, Bool.or_self, Bool.false_or, beq_self_eq_true, Bool.and_true]
      have hm : histM nx sv ds ps 4 c3 c4 c5 c6 = if idxD c3 ds < 0 then (nx, sv, ds, ps, 1, 0, ()) else if (atI ds (idxD c3 ds)).2.2.1 = 99999 then (nx, sv, ds, ps, 4, 0, ())
          else (nx, sv, ds.set (idxD c3 ds).toNat ((atI ds (idxD c3 ds)).1, (atI ds (idxD c3 ds)).2.1, (atI ds (idxD c3 ds)).2.2.1 + 1, 0, 0, 0, [], ()), ps, 0, (atI ds (idxD c3 ds)).2.2.1, ()) := by
        unfold histM
        rw [if_neg (by omega), if_neg (by omega), if_neg (by omega), if_pos (rfl : (4 : Int) = 4)]
      rw [hm]
      rcases idxD_cases c3 ds with hi | ⟨k, hk, hi⟩
      · rw [if_pos (by omega)]; rfl
      · rw [if_neg (by omega)]
        have ha : atI ds (idxD c3 ds) = ds[k] := by rw [hi]; exact getD_get hk
        rw [ha, hi, toNat_coe]
        by_cases h9 : ds[k].2.2.1 = 99999
        · rw [if_pos h9]; rfl
        · rw [if_neg h9]
          dsimp only
          simp only [bne_self', br_false]
          have hd := h.dk _ (List.getElem_mem hk)
          have hep := hd.epoch
          have h' : HOk nx sv (ds.set k (ds[k].1, ds[k].2.1, ds[k].2.2.1 + 1, 0, 0, 0, [], ())) ps := by
            refine ⟨h.n, h.s, by rw [List.length_set]; exact h.dl, ?_, fun d hd' => ?_, fun d hd' => ?_, h.pl, h.pk⟩
            · exact (MOk.setD (E := 99999) (m0 := 0) (m1 := 3) (m2 := nx) (vs := vs1) (xs := []) ⟨by omega, by omega, h.n, h.dl, h.ids, h.dk, rfl, fun v hv => by
                simp only [vs1, List.mem_cons, List.not_mem_nil, or_false] at hv
                rcases hv with rfl | rfl | rfl <;> decide, ⟨.nil, fun d h => by simp at h, fun d h => by simp at h⟩, fun d h => by simp at h⟩ hk (d := (ds[k].1, ds[k].2.1, ds[k].2.2.1 + 1, 0, 0, 0, [], ())) rfl ⟨hd.id, hd.size, ⟨by show 1 ≤ ds[k].2.2.1 + 1; omega, by show ds[k].2.2.1 + 1 ≤ 99999; omega⟩, ⟨by show (0 : Int) ≤ 0; omega, by show (0 : Int) ≤ 2; omega⟩, fun _ => ⟨rfl, rfl, rfl⟩, fun e => absurd rfl e⟩).ids
            · rcases List.mem_or_eq_of_mem_set hd' with hd' | rfl
              · exact h.dk d hd'
              · exact ⟨hd.id, hd.size, ⟨by show 1 ≤ ds[k].2.2.1 + 1; omega, by show ds[k].2.2.1 + 1 ≤ 99999; omega⟩, ⟨by show (0 : Int) ≤ 0; omega, by show (0 : Int) ≤ 2; omega⟩, fun _ => ⟨rfl, rfl, rfl⟩, fun e => absurd rfl e⟩
            · rcases List.mem_or_eq_of_mem_set hd' with hd' | rfl
              · exact h.fr d hd'
              · rfl
          have := snap_loop (c0 := c0) (c1 := c1) (c4 := c4) (c5 := c5) (c6 := c6) (c7 := c7) (c8 := c8) (c9 := c9) (c10 := c10) (c11 := c11) h hk hi (by omega) h' 8 0 (by omega)
          have this : lg4_0 ds[k].2.2.1 (0 : Int) nx sv ds ps c0 c1 4 c3 c4 c5 c6 c7 c8 c9 c10 c11 nx sv (ds.set k (ds[k].1, ds[k].2.1, ds[k].2.2.1 + 1, 0, 0, 0, [], ())) ps = _ := this
          rw [this]
          rfl
    · rw [e1, e2]
      simp only [Option.bind_some]
      rw [lpState_same zero_small]
      rfl
theorem pure4 (d) (h : Fits _ d) : F4 d = rTrue := by
  obtain ⟨code, ⟨⟩⟩ := d
  exact histSnap_law code (bytes_of fun x hx => (h.1.2 x hx).1)
end Go.Proofs.Ytaekmccjendfoaa.MO
