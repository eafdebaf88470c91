/- The plain law behind FnExactMapOf; no condition. -/
import Derived.Test.YtaekmccjendfoaaMO1
import Derived.Test.YtaekmccjendfoaaVL
namespace Go.Proofs.Ytaekmccjendfoaa.MO
open Go.PA
set_option linter.unusedSimpArgs false
set_option linter.unusedVariables false

def idxD (id : Int) (ds : List DMapDisk) : Int := seekL (fun d => d.1 == id) (-1) (fun _ k => (k : Int)) ds 0
def lastD (c : Int) (xs : List DMapDone) : DMapDone := seekL (fun d => d.1 == c) (0, 0, 0, 0, ()) (fun d _ => d) xs 0
def hasN (n : Int) (l : List (Int × Unit)) : Bool := seekL (fun d => d.1 == n) false (fun _ _ => true) l 0
def froz (c call : Int) (ds : List DMapDisk) : Bool := seekL (fun d => d.2.2.2.1 != 0 && d.2.2.2.2.1 == c && decide (d.2.2.2.2.2.1 ≥ call)) false (fun _ _ => true) ds 0
theorem disk_spec (id m0 m1 m2 : Int) (ds : List DMapDisk) (vs : List DMapView) (xs : List DMapDone) (hl : ds.length < 9223372036854775807) : G104 m0 m1 m2 ds vs xs id = some (idxD id ds, ()) := by
  rw [G104_eq]
  have h : lg104_0 id (0 : Int) m0 m1 m2 ds vs xs = _ := seek (f := fun k => lg104_0 id (k : Int) m0 m1 m2 ds vs xs) (a := ds) (p := fun d => d.1 == id) (x := some (.inl (()))) (y := fun _ k => some (.inr (.inl ((k : Int), ())))) ?_ ?_
  · rw [h, seekL_map (fun o => Option.bind o _)]
    rw [idxD, seekL_map (fun o => some (o, ()))]
    rfl
  · show lg104_0 _ _ _ _ _ _ _ _ = _
    rw [lg104_0_eq]
    simp (disch := omega) only [br_neg]
  · intro k hk
    show lg104_0 _ _ _ _ _ _ _ _ = if _ then _ else lg104_0 _ _ _ _ _ _ _ _
    rw [lg104_0_eq]
    simp (disch := omega) only [br_pos, chk_pos, wrapS, toNat_coe]
    simp only [getD_get hk]
    unfold br
    cases (ds[k].1 == id) <;> rfl
theorem disk_impl (id : Int) (ds : List DMapDisk) (hl : ds.length < 9223372036854775807) : G131 ds id = some (idxD id ds, ()) := by
  rw [G131_eq]
  have h : lg131_0 id ds ((ds.length : Nat) : Int) (0 : Int) = _ := seek (f := fun k => lg131_0 id ds ((ds.length : Nat) : Int) (k : Int)) (a := ds) (p := fun d => d.1 == id) (x := some (.inl (()))) (y := fun _ k => some (.inr (.inl ((k : Int), ())))) ?_ ?_
  · rw [h, seekL_map (fun o => Option.bind o _)]
    rw [idxD, seekL_map (fun o => some (o, ()))]
    rfl
  · show lg131_0 _ _ _ _ = _
    rw [lg131_0_eq]
    simp (disch := omega) only [br_neg]
  · intro k hk
    show lg131_0 _ _ _ _ = if _ then _ else lg131_0 _ _ _ _
    rw [lg131_0_eq]
    simp (disch := omega) only [br_pos, chk_pos, wrapS, toNat_coe]
    simp only [getD_get hk]
    unfold br
    cases (ds[k].1 == id) <;> rfl
theorem last_spec (c m0 m1 m2 : Int) (ds : List DMapDisk) (vs : List DMapView) (xs : List DMapDone) (hl : xs.length < 9223372036854775807) : G188 m0 m1 m2 ds vs xs c = some (lastD c xs) := by
  rw [G188_eq]
  have h : lg188_0 c (0 : Int) m0 m1 m2 ds vs xs (0 : Int) (0 : Int) (0 : Int) (0 : Int) = _ := seek (f := fun k => lg188_0 c (k : Int) m0 m1 m2 ds vs xs (0 : Int) (0 : Int) (0 : Int) (0 : Int)) (a := xs) (p := fun d => d.1 == c) (x := some (.inl (0, 0, 0, 0, ()))) (y := fun d _ => some (.inr (.inl d))) ?_ ?_
  · rw [h, seekL_map (fun o => Option.bind o _)]
    rw [lastD, seekL_map (fun o => some o)]
    rfl
  · show lg188_0 _ _ _ _ _ _ _ _ _ _ _ _ = _
    rw [lg188_0_eq]
    simp (disch := omega) only [br_neg]
  · intro k hk
    show lg188_0 _ _ _ _ _ _ _ _ _ _ _ _ = if _ then _ else lg188_0 _ _ _ _ _ _ _ _ _ _ _ _
    rw [lg188_0_eq]
    simp (disch := omega) only [br_pos, chk_pos, wrapS, toNat_coe]
    simp only [getD_get hk]
    unfold br
    cases (xs[k].1 == c) <;> rfl
theorem last_impl (c m0 m1 m2 : Int) (ds : List DMapDisk) (vs : List DMapView) (xs : List DMapDone) (hl : xs.length < 9223372036854775807) : G183 m0 m1 m2 ds vs xs c = some (lastD c xs) := by
  rw [G183_eq]
  have h : lg183_0 c xs ((xs.length : Nat) : Int) (0 : Int) (0 : Int) (0 : Int) (0 : Int) (0 : Int) = _ := seek (f := fun k => lg183_0 c xs ((xs.length : Nat) : Int) (k : Int) (0 : Int) (0 : Int) (0 : Int) (0 : Int)) (a := xs) (p := fun d => d.1 == c) (x := some (.inl (0, 0, 0, 0, ()))) (y := fun d _ => some (.inr (.inl d))) ?_ ?_
  · rw [h, seekL_map (fun o => Option.bind o _)]
    rw [lastD, seekL_map (fun o => some o)]
    rfl
  · show lg183_0 _ _ _ _ _ _ _ _ = _
    rw [lg183_0_eq]
    simp (disch := omega) only [br_neg]
  · intro k hk
    show lg183_0 _ _ _ _ _ _ _ _ = if _ then _ else lg183_0 _ _ _ _ _ _ _ _
    rw [lg183_0_eq]
    simp (disch := omega) only [br_pos, chk_pos, wrapS, toNat_coe]
    simp only [getD_get hk]
    unfold br
    cases (xs[k].1 == c) <;> rfl
theorem has_spec (n : Int) (l : List (Int × Unit)) (hl : l.length < 9223372036854775807) : G153 l n = some (hasN n l, ()) := by
  rw [G153_eq]
  have h : lg153_0 l n (0 : Int) = _ := seek (f := fun k => lg153_0 l n (k : Int)) (a := l) (p := fun d => d.1 == n) (x := some (.inl (()))) (y := fun _ _ => some (.inr (.inl (true, ())))) ?_ ?_
  · rw [h, seekL_map (fun o => Option.bind o _)]
    rw [hasN, seekL_map (fun o => some (o, ()))]
    rfl
  · show lg153_0 _ _ _ = _
    rw [lg153_0_eq]
    simp (disch := omega) only [br_neg]
  · intro k hk
    show lg153_0 _ _ _ = if _ then _ else lg153_0 _ _ _
    rw [lg153_0_eq]
    simp (disch := omega) only [br_pos, chk_pos, wrapS, toNat_coe]
    simp only [getD_get hk]
    unfold br
    cases (l[k].1 == n) <;> rfl
theorem has_impl (n : Int) (l : List (Int × Unit)) (hl : l.length < 9223372036854775807) : G182 l n = some (hasN n l, ()) := by
  rw [G182_eq]
  have h : lg182_0 n l ((l.length : Nat) : Int) (0 : Int) = _ := seek (f := fun k => lg182_0 n l ((l.length : Nat) : Int) (k : Int)) (a := l) (p := fun d => d.1 == n) (x := some (.inl (()))) (y := fun _ _ => some (.inr (.inl (true, ())))) ?_ ?_
  · rw [h, seekL_map (fun o => Option.bind o _)]
    rw [hasN, seekL_map (fun o => some (o, ()))]
    rfl
  · show lg182_0 _ _ _ _ = _
    rw [lg182_0_eq]
    simp (disch := omega) only [br_neg]
  · intro k hk
    show lg182_0 _ _ _ _ = if _ then _ else lg182_0 _ _ _ _
    rw [lg182_0_eq]
    simp (disch := omega) only [br_pos, chk_pos, wrapS, toNat_coe]
    simp only [getD_get hk]
    unfold br
    cases (l[k].1 == n) <;> rfl
def pastD (c call : Int) (ds : List DMapDisk) (xs : List DMapDone) : Bool :=
  (decide ((lastD c xs).2.1 > 0) && (decide ((lastD c xs).2.1 > call) || ((lastD c xs).2.1 == call && (lastD c xs).2.2.1 != 6))) || froz c call ds
theorem br_some {ρ : Type} (c : Bool) (x y : ρ) : br c (some x) (some y) = some (if c = true then x else y) := by cases c <;> rfl
theorem past_spec (c call m0 m1 m2 : Int) (ds : List DMapDisk) (vs : List DMapView) (xs : List DMapDone) (hl : xs.length < 9223372036854775807) (hd : ds.length < 9223372036854775807) : G165 m0 m1 m2 ds vs xs c call = some (pastD c call ds xs, ()) := by
  rw [G165_eq, last_spec _ _ _ _ _ _ _ hl]
  have h : lg165_0 c call (0 : Int) m0 m1 m2 ds vs xs = _ := seek (f := fun k => lg165_0 c call (k : Int) m0 m1 m2 ds vs xs) (a := ds) (p := fun d => d.2.2.2.1 != 0 && d.2.2.2.2.1 == c && decide (d.2.2.2.2.2.1 ≥ call)) (x := some (.inl (()))) (y := fun _ _ => some (.inr (.inl (true, ())))) ?_ ?_
  · simp only [Option.bind_some]
    rw [h, seekL_map (fun o => Option.bind o _)]
    have e : seekL (fun d : DMapDisk => d.2.2.2.1 != 0 && d.2.2.2.2.1 == c && decide (d.2.2.2.2.2.1 ≥ call)) (some (false, ())) (fun _ _ => some (true, ())) ds 0 = some (froz c call ds, ()) := by
      rw [froz, seekL_map (fun o => some (o, ()))]
    refine Eq.trans (congrArg (br _ _) e) ?_
    rw [br_some, pastD]
    generalize (decide ((lastD c xs).2.1 > 0) && (decide ((lastD c xs).2.1 > call) || ((lastD c xs).2.1 == call && (lastD c xs).2.2.1 != 6))) = b
    cases b <;> rfl
  · show lg165_0 _ _ _ _ _ _ _ _ _ = _
    rw [lg165_0_eq]
    simp (disch := omega) only [br_neg]
  · intro k hk
    show lg165_0 _ _ _ _ _ _ _ _ _ = if _ then _ else lg165_0 _ _ _ _ _ _ _ _ _
    rw [lg165_0_eq]
    simp (disch := omega) only [br_pos, chk_pos, chk_or, wrapS, toNat_coe]
    simp only [getD_get hk]
    unfold br
    generalize (ds[k].2.2.2.1 != 0 && ds[k].2.2.2.2.1 == c && decide (ds[k].2.2.2.2.2.1 ≥ call)) = b
    cases b <;> rfl
theorem past_impl (c call m0 m1 m2 : Int) (ds : List DMapDisk) (vs : List DMapView) (xs : List DMapDone) (hl : xs.length < 9223372036854775807) (hd : ds.length < 9223372036854775807) : G185 m0 m1 m2 ds vs xs c call = some (pastD c call ds xs, ()) := by
  rw [G185_eq, last_impl _ _ _ _ _ _ _ hl]
  have h : lg185_0 c call ds ((ds.length : Nat) : Int) (0 : Int) = _ := seek (f := fun k => lg185_0 c call ds ((ds.length : Nat) : Int) (k : Int)) (a := ds) (p := fun d => d.2.2.2.1 != 0 && d.2.2.2.2.1 == c && decide (d.2.2.2.2.2.1 ≥ call)) (x := some (.inl (()))) (y := fun _ _ => some (.inr (.inl (true, ())))) ?_ ?_
  · simp only [Option.bind_some]
    rw [h, seekL_map (fun o => Option.bind o _)]
    have e : seekL (fun d : DMapDisk => d.2.2.2.1 != 0 && d.2.2.2.2.1 == c && decide (d.2.2.2.2.2.1 ≥ call)) (some (false, ())) (fun _ _ => some (true, ())) ds 0 = some (froz c call ds, ()) := by
      rw [froz, seekL_map (fun o => some (o, ()))]
    refine Eq.trans (congrArg (br _ _) e) ?_
    rw [br_some, pastD]
    generalize (decide ((lastD c xs).2.1 > 0) && (decide ((lastD c xs).2.1 > call) || ((lastD c xs).2.1 == call && (lastD c xs).2.2.1 != 6))) = b
    cases b <;> rfl
  · show lg185_0 _ _ _ _ _ = _
    rw [lg185_0_eq]
    simp (disch := omega) only [br_neg]
  · intro k hk
    show lg185_0 _ _ _ _ _ = if _ then _ else lg185_0 _ _ _ _ _
    rw [lg185_0_eq]
    simp (disch := omega) only [br_pos, chk_pos, chk_or, wrapS, toNat_coe]
    simp only [getD_get hk]
    unfold br
    generalize (ds[k].2.2.2.1 != 0 && ds[k].2.2.2.2.1 == c && decide (ds[k].2.2.2.2.2.1 ≥ call)) = b
    cases b <;> rfl

def tellL : List DMapDone → DMapDone → List DMapDone
  | [], x => [x]
  | d :: l, x => if d.1 < x.1 then d :: tellL l x else if d.1 = x.1 then x :: l else x :: d :: l
/-- What was told: by client, each once, each well. -/
structure DonesOk (xs : List DMapDone) : Prop where
  sorted : xs.Pairwise fun a b => a.1 < b.1
  cl : ∀ d ∈ xs, 0 ≤ d.1 ∧ d.1 ≤ 3
  call : ∀ d ∈ xs, 1 ≤ d.2.1
theorem split_at (c : Int) : ∀ (xs : List DMapDone), xs.Pairwise (fun a b => a.1 < b.1) → (∀ d ∈ xs, c ≤ d.1) → ∃ p t, xs = p ++ t ∧ (p = [] ∨ ∃ e, p = [e] ∧ e.1 = c) ∧ t.Pairwise (fun a b => a.1 < b.1) ∧ ∀ d ∈ t, c + 1 ≤ d.1
  | [], _, _ => ⟨[], [], rfl, .inl rfl, .nil, fun d h => by simp at h⟩
  | d :: l, hs, hc => by
    obtain ⟨h1, h2⟩ := List.pairwise_cons.1 hs
    by_cases e : d.1 = c
    · exact ⟨[d], l, rfl, .inr ⟨d, rfl, e⟩, h2, fun x hx => by have := h1 x hx; omega⟩
    · refine ⟨[], d :: l, rfl, .inl rfl, hs, fun x hx => ?_⟩
      have h0 := hc d List.mem_cons_self
      rcases List.mem_cons.1 hx with rfl | hx
      · omega
      · have := h1 x hx; omega
theorem DonesOk.four {xs : List DMapDone} (h : DonesOk xs) : ∃ p0 p1 p2 p3 : List DMapDone, xs = p0 ++ (p1 ++ (p2 ++ p3)) ∧ (p0 = [] ∨ ∃ e, p0 = [e] ∧ e.1 = 0) ∧ (p1 = [] ∨ ∃ e, p1 = [e] ∧ e.1 = 1) ∧ (p2 = [] ∨ ∃ e, p2 = [e] ∧ e.1 = 2) ∧ (p3 = [] ∨ ∃ e, p3 = [e] ∧ e.1 = 3) := by
  obtain ⟨p0, t0, e0, c0, s0, g0⟩ := split_at 0 xs h.sorted fun d hd => (h.cl d hd).1
  obtain ⟨p1, t1, e1, c1, s1, g1⟩ := split_at 1 t0 s0 g0
  obtain ⟨p2, t2, e2, c2, s2, g2⟩ := split_at 2 t1 s1 g1
  obtain ⟨p3, t3, e3, c3, s3, g3⟩ := split_at 3 t2 s2 g2
  have ht : t3 = [] := by
    cases t3 with
    | nil => rfl
    | cons d l =>
      have h1 := g3 d List.mem_cons_self
      have h2 := (h.cl d (by rw [e0, e1, e2, e3]; simp)).2
      omega
  subst ht
  exact ⟨p0, p1, p2, p3, by rw [e0, e1, e2, e3, List.append_nil], c0, c1, c2, c3⟩
theorem DonesOk.len {xs : List DMapDone} (h : DonesOk xs) : xs.length ≤ 4 := by
  obtain ⟨p0, p1, p2, p3, rfl, c0, c1, c2, c3⟩ := h.four
  have q : ∀ {p : List DMapDone} {i : Int}, (p = [] ∨ ∃ e, p = [e] ∧ e.1 = i) → p.length ≤ 1 := fun h => by
    rcases h with rfl | ⟨e, rfl, _⟩ <;> simp
  have := q c0; have := q c1; have := q c2; have := q c3
  simp only [List.length_append]; omega
def partL (c : Int) (xs : List DMapDone) (x : DMapDone) : List DMapDone := if c = x.1 then [x] else if (lastD c xs).2.1 > 0 then [lastD c xs] else []
theorem parts_tell {xs : List DMapDone} (h : DonesOk xs) {x : DMapDone} (hx : 0 ≤ x.1 ∧ x.1 ≤ 3) : ((([] ++ partL 0 xs x) ++ partL 1 xs x) ++ partL 2 xs x) ++ partL 3 xs x = tellL xs x := by
  have hcall : ∀ d ∈ xs, 0 < d.2.1 := fun d hd => by have := h.call d hd; omega
  obtain ⟨p0, p1, p2, p3, rfl, c0, c1, c2, c3⟩ := h.four
  clear h
  have hx4 : x.1 = 0 ∨ x.1 = 1 ∨ x.1 = 2 ∨ x.1 = 3 := by omega
  rcases c0 with rfl | ⟨e0, rfl, k0⟩ <;> rcases c1 with rfl | ⟨e1, rfl, k1⟩ <;> rcases c2 with rfl | ⟨e2, rfl, k2⟩ <;> rcases c3 with rfl | ⟨e3, rfl, k3⟩ <;>
    (simp only [List.nil_append, List.cons_append, List.append_nil, List.mem_cons, List.not_mem_nil, or_false, forall_eq_or_imp, forall_eq, false_implies, implies_true] at hcall
     rcases hx4 with g | g | g | g <;> simp_all [partL, lastD, seekL, tellL])
theorem tell_spec (m0 m1 m2 : Int) (ds : List DMapDisk) (vs : List DMapView) {xs : List DMapDone} (h : DonesOk xs) (x0 x1 x2 x3 : Int) (hx : 0 ≤ x0 ∧ x0 ≤ 3) (hc : 1 ≤ x1) :
    G168 m0 m1 m2 ds vs xs x0 x1 x2 x3 = some (m0, m1, m2, ds, vs, tellL xs (x0, x1, x2, x3, ()), ()) := by
  have hl := h.len
  rw [G168_eq]
  have step : ∀ (c : Int) (r : List DMapDone), 0 ≤ c → c < 4 → r.length ≤ 4 → lg168_0 c m0 m1 m2 x0 x1 x2 x3 (0 : Int) (0 : Int) (0 : Int) ds vs xs r = lg168_0 (c + 1) m0 m1 m2 x0 x1 x2 x3 (0 : Int) (0 : Int) (0 : Int) ds vs xs (r ++ partL c xs (x0, x1, x2, x3, ())) := fun c r h0 h4 hr => by
    rw [lg168_0_eq, last_spec _ _ _ _ _ _ _ (by omega)]
    simp (disch := omega) only [br_pos, Option.bind_some, wrap64]
    by_cases hcx : c = x0
    · subst hcx
      simp only [beq_self_eq_true, br_true, partL, if_true]
      simp (disch := omega) only [capOk, br_pos, chk_pos]
    · rw [show (c == x0) = false by simpa using hcx]
      simp only [br_false, partL]
      rw [if_neg (show ¬ (c = (x0, x1, x2, x3, ()).1) from hcx)]
      by_cases hp : (lastD c xs).2.1 > 0
      · rw [if_pos hp]
        simp (disch := omega) only [capOk, br_pos, chk_pos]
      · rw [if_neg hp, List.append_nil]
        simp (disch := omega) only [br_neg]
  have pl : ∀ c, (partL c xs (x0, x1, x2, x3, ())).length ≤ 1 := fun c => by unfold partL; split <;> (try split) <;> simp
  have h0 := pl 0; have h1 := pl 1; have h2 := pl 2
  rw [step 0 _ (by omega) (by omega) (by simp), step (0 + 1) _ (by omega) (by omega) (by simp; omega), step (0 + 1 + 1) _ (by omega) (by omega) (by simp; omega), step (0 + 1 + 1 + 1) _ (by omega) (by omega) (by simp; omega)]
  rw [lg168_0_eq]
  simp (disch := omega) only [br_neg]
  rw [← parts_tell h (x := (x0, x1, x2, x3, ())) hx]
  rfl
theorem tell_put (m0 m1 m2 x0 x1 x2 x3 : Int) (ds : List DMapDisk) (vs : List DMapView) (xs : List DMapDone) (hl : xs.length ≤ 4) : ∀ (n k : Nat) (r : List DMapDone), k + n = xs.length → r.length + n ≤ 10 → (∀ d ∈ xs.drop k, x0 < d.1) →
    lg184_0 true ((xs.length : Nat) : Int) (k : Int) m0 m1 m2 x0 x1 x2 x3 (0 : Int) (0 : Int) (0 : Int) ds vs xs r = some (.inl (true, m0, m1, m2, x0, x1, x2, x3, (0 : Int), (0 : Int), (0 : Int), ds, vs, xs, r ++ xs.drop k, ()))
  | 0, k, r, hk, hr, hd => by
    rw [lg184_0_eq]
    simp (disch := omega) only [br_neg]
    rw [List.drop_eq_nil_of_le (by omega), List.append_nil]
  | n + 1, k, r, hk, hr, hd => by
    have hlt : k < xs.length := by omega
    rw [lg184_0_eq]
    simp (disch := omega) only [br_pos, chk_pos, wrapS, toNat_coe]
    simp only [getD_get hlt]
    rw [List.drop_eq_getElem_cons hlt] at hd ⊢
    have h1 := hd xs[k] List.mem_cons_self
    rw [show (xs[k].1 != x0) = true by simp; omega]
    simp only [Bool.not_true, Bool.false_and, br_false, br_true]
    simp (disch := omega) only [capOk, chk_pos]
    rw [tell_put m0 m1 m2 x0 x1 x2 x3 ds vs xs hl n (k + 1) _ (by omega) (by simp; omega) fun d h => hd d (List.mem_cons_of_mem _ h)]
    rw [List.append_assoc]; rfl
theorem tell_run (m0 m1 m2 x0 x1 x2 x3 : Int) (ds : List DMapDisk) (vs : List DMapView) (xs : List DMapDone) (hl : xs.length ≤ 4) : ∀ (n k : Nat) (r : List DMapDone), k + n = xs.length → r.length + n ≤ 4 → (xs.drop k).Pairwise (fun a b => a.1 < b.1) →
    ∃ put r', lg184_0 false ((xs.length : Nat) : Int) (k : Int) m0 m1 m2 x0 x1 x2 x3 (0 : Int) (0 : Int) (0 : Int) ds vs xs r = some (.inl (put, m0, m1, m2, x0, x1, x2, x3, (0 : Int), (0 : Int), (0 : Int), ds, vs, xs, r', ())) ∧
      (if put = true then r' else r' ++ [(x0, x1, x2, x3, ())]) = r ++ tellL (xs.drop k) (x0, x1, x2, x3, ()) ∧ r'.length ≤ 5
  | 0, k, r, hk, hr, hs => by
    refine ⟨false, r, ?_, ?_, by omega⟩
    · rw [lg184_0_eq]
      simp (disch := omega) only [br_neg]
    · rw [List.drop_eq_nil_of_le (by omega)]; rfl
  | n + 1, k, r, hk, hr, hs => by
    have hlt : k < xs.length := by omega
    rw [lg184_0_eq]
    simp (disch := omega) only [br_pos, chk_pos, wrapS, toNat_coe]
    rw [List.drop_eq_getElem_cons hlt] at hs ⊢
    simp only [getD_get hlt]
    obtain ⟨h1, h2⟩ := List.pairwise_cons.1 hs
    have hd : (xs.drop (k + 1)).length = n := by rw [List.length_drop]; omega
    by_cases hge : xs[k].1 ≥ x0
    · rw [decide_eq_true hge]
      simp only [Bool.not_false, Bool.true_and, br_true]
      simp (disch := omega) only [capOk, chk_pos]
      by_cases he : xs[k].1 = x0
      · rw [show (xs[k].1 != x0) = false by simpa using he]
        simp only [br_false]
        rw [tell_put m0 m1 m2 x0 x1 x2 x3 ds vs xs hl n (k + 1) _ (by omega) (by simp; omega) fun d h => by have := h1 d h; omega]
        refine ⟨true, _, rfl, ?_, by simp; omega⟩
        rw [if_pos rfl]
        simp only [tellL]
        rw [if_neg (by show ¬ xs[k].1 < x0; omega), if_pos (by exact he), List.append_assoc]; rfl
      · rw [show (xs[k].1 != x0) = true by simpa using he]
        simp only [br_true]
        simp (disch := (first | omega | (simp; omega))) only [chk_pos]
        rw [tell_put m0 m1 m2 x0 x1 x2 x3 ds vs xs hl n (k + 1) _ (by omega) (by simp; omega) fun d h => by have := h1 d h; omega]
        refine ⟨true, _, rfl, ?_, by simp; omega⟩
        rw [if_pos rfl]
        simp only [tellL]
        rw [if_neg (by show ¬ xs[k].1 < x0; omega), if_neg (by exact he), List.append_assoc, List.append_assoc]; rfl
    · rw [decide_eq_false hge]
      simp only [Bool.and_false, br_false]
      rw [show (xs[k].1 != x0) = true by simp; omega]
      simp only [br_true]
      simp (disch := omega) only [capOk, chk_pos]
      obtain ⟨put, r', e1, e2, e3⟩ := tell_run m0 m1 m2 x0 x1 x2 x3 ds vs xs hl n (k + 1) (r ++ [xs[k]]) (by omega) (by simp; omega) h2
      refine ⟨put, r', e1, ?_, e3⟩
      rw [e2]
      simp only [tellL]
      rw [if_pos (by show xs[k].1 < x0; omega), List.append_assoc]; rfl
theorem tell_impl (m0 m1 m2 : Int) (ds : List DMapDisk) (vs : List DMapView) {xs : List DMapDone} (h : DonesOk xs) (x0 x1 x2 x3 : Int) :
    G184 m0 m1 m2 ds vs xs x0 x1 x2 x3 = some (m0, m1, m2, ds, vs, tellL xs (x0, x1, x2, x3, ()), ()) := by
  have hl := h.len
  rw [G184_eq]
  obtain ⟨put, r', e1, e2, e3⟩ := tell_run m0 m1 m2 x0 x1 x2 x3 ds vs xs hl xs.length 0 [] (by omega) (by simpa using hl) (by rw [List.drop_zero]; exact h.sorted)
  have e1 : lg184_0 false ((xs.length : Nat) : Int) (0 : Int) m0 m1 m2 x0 x1 x2 x3 (0 : Int) (0 : Int) (0 : Int) ds vs xs [] = _ := e1
  rw [e1]
  simp only [Option.bind_some]
  rw [List.drop_zero, List.nil_append] at e2
  cases put with
  | true =>
    rw [if_pos rfl] at e2
    rw [← e2]; rfl
  | false =>
    rw [if_neg (by decide)] at e2
    rw [← e2]
    simp only [Bool.not_false, br_true]
    simp (disch := omega) only [capOk, chk_pos]
theorem tellL_ok {xs : List DMapDone} (h : DonesOk xs) {x : DMapDone} (hx : 0 ≤ x.1 ∧ x.1 ≤ 3) (hc : 1 ≤ x.2.1) : DonesOk (tellL xs x) := by
  have mem : ∀ (xs : List DMapDone) d, d ∈ tellL xs x → d = x ∨ d ∈ xs := by
    intro xs
    induction xs with
    | nil => intro d hd; simp [tellL] at hd; exact .inl hd
    | cons e l ih =>
      intro d hd
      simp only [tellL] at hd
      split at hd
      · rcases List.mem_cons.1 hd with rfl | hd
        · exact .inr List.mem_cons_self
        · rcases ih d hd with h | h
          · exact .inl h
          · exact .inr (List.mem_cons_of_mem _ h)
      · split at hd
        · rcases List.mem_cons.1 hd with rfl | hd
          · exact .inl rfl
          · exact .inr (List.mem_cons_of_mem _ hd)
        · rcases List.mem_cons.1 hd with rfl | hd
          · exact .inl rfl
          · exact .inr hd
  refine ⟨?_, fun d hd => ?_, fun d hd => ?_⟩
  · have := h.sorted
    revert this
    clear h
    induction xs with
    | nil => intro _; simp [tellL]
    | cons e l ih =>
      intro hs
      obtain ⟨h1, h2⟩ := List.pairwise_cons.1 hs
      simp only [tellL]
      split
      · refine List.pairwise_cons.2 ⟨fun d hd => ?_, ih h2⟩
        rcases mem l d hd with rfl | h
        · assumption
        · exact h1 d h
      · split
        · refine List.pairwise_cons.2 ⟨fun d hd => ?_, h2⟩
          have := h1 d hd; omega
        · refine List.pairwise_cons.2 ⟨fun d hd => ?_, hs⟩
          rcases List.mem_cons.1 hd with rfl | hd
          · omega
          · have := h1 d hd; omega
  · rcases mem xs d hd with rfl | h'
    · exact hx
    · exact h.cl d h'
  · rcases mem xs d hd with rfl | h'
    · exact hc
    · exact h.call d h'
/-- A disk that fits. -/
def DiskFit (e : DMapDisk) : Prop := e.2.2.2.2.2.2.1.length * 8 ≤ 140737488351232
theorem DiskFit.list {e : DMapDisk} (h : DiskFit e) : e.2.2.2.2.2.2.1.length * 8 ≤ 140737488351232 := h
/-- A map state that fits. -/
structure MFit (a0 a1 a2 : Int) (a3 : List DMapDisk) (a4 : List DMapView) (a5 : List DMapDone) : Prop where
  disk : ∀ x, x ∈ a3 → DiskFit x
  l3 : a3.length * 72 ≤ 140737488351232
  l4 : a4.length * 24 ≤ 140737488351232
  l5 : a5.length * 32 ≤ 140737488351232
  i1 : inK .i64 a1
  i2 : inK .i64 a2
theorem chk_prev {ρ : Type} {k n : Nat} {X : Bool} {a : Option ρ} (hk : k < n) (hn : n < 9223372036854775807) : chk ((decide (0 ≤ (IntKind.i64.wrap ((k : Int) - (1 : Int))) ∧ (IntKind.i64.wrap ((k : Int) - (1 : Int))) < ((n : Nat) : Int))) || (!(X && (decide ((k : Int) > (0 : Int)))))) a = a := by
  rw [wrap64 (by omega) (by omega)]
  by_cases h : (k : Int) > 0
  · rw [decide_eq_true (by omega : 0 ≤ (k : Int) - 1 ∧ (k : Int) - 1 < (n : Int))]; rfl
  · rw [decide_eq_false h]
    cases X <;> simp [chk]
theorem br_not {ρ : Type} (c : Bool) {x y : Option ρ} : br c x y = if (!c) = true then y else x := by cases c <;> rfl
theorem chk_isSome {ρ α : Type} {v : α} {c : Bool} {a : Option ρ} : chk ((some v).isSome || c) a = a := rfl
def has (l : List (Int × Unit)) (n : Int) : Bool := !allF (fun k => !((l.getD k ((0 : Int), ())).1 == n)) 0 l.length
theorem G153_has (l : List (Int × Unit)) (n : Int) (hl : l.length < 9223372036854775807) : G153 l n = some (has l n, ()) := by
  rw [G153_eq]
  have := every (f := fun k => lg153_0 l n (k : Int)) (N := l.length) (p := fun k => !((l.getD k ((0 : Int), ())).1 == n)) (x := some (.inl ())) (y := some (.inr (.inl (true, ()))))
    (by show lg153_0 _ _ _ = _
        rw [lg153_0_eq]; simp (disch := omega) only [br_neg])
    (by intro k hk
        show lg153_0 _ _ _ = _
        rw [lg153_0_eq]; simp (disch := omega) only [br_pos, chk_pos, wrapS, toNat_coe]
        generalize ((l.getD k ((0 : Int), ())).1 == n) = c
        cases c <;> rfl)
  have e : lg153_0 l n (0 : Int) = _ := this
  rw [e]; unfold has
  cases allF (fun k => !((l.getD k ((0 : Int), ())).1 == n)) 0 l.length <;> rfl
theorem G182_has (l : List (Int × Unit)) (n : Int) (hl : l.length < 9223372036854775807) : G182 l n = some (has l n, ()) := by
  rw [G182_eq]
  have := every (f := fun k => lg182_0 n l ((l.length : Nat) : Int) (k : Int)) (N := l.length) (p := fun k => !((l.getD k ((0 : Int), ())).1 == n)) (x := some (.inl ())) (y := some (.inr (.inl (true, ()))))
    (by show lg182_0 _ _ _ _ = _
        rw [lg182_0_eq]; simp (disch := omega) only [br_neg])
    (by intro k hk
        show lg182_0 _ _ _ _ = _
        rw [lg182_0_eq]; simp (disch := omega) only [br_pos, chk_pos, wrapS, toNat_coe]
        generalize ((l.getD k ((0 : Int), ())).1 == n) = c
        cases c <;> rfl)
  have e : lg182_0 n l ((l.length : Nat) : Int) (0 : Int) = _ := this
  rw [e]; unfold has
  cases allF (fun k => !((l.getD k ((0 : Int), ())).1 == n)) 0 l.length <;> rfl
def memOk (l : List (Int × Unit)) : Bool := allF (fun k => f56 (l.getD k ((0 : Int), ())).1 0 2 && !has ((l.take k).drop 0) (l.getD k ((0 : Int), ())).1) 0 l.length
theorem lg101_mem (a0 a1 a2 a3 a4 a5 : Int) (l : List (Int × Unit)) (hl : l.length < 9223372036854775807) : lg101_0 (0 : Int) a0 a1 a2 a3 a4 a5 l = if memOk l = true then some (.inl ()) else some (.inr (.inl (false, ()))) := by
  have := every (f := fun k => lg101_0 (k : Int) a0 a1 a2 a3 a4 a5 l) (N := l.length) (p := fun k => f56 (l.getD k ((0 : Int), ())).1 0 2 && !has ((l.take k).drop 0) (l.getD k ((0 : Int), ())).1) (x := some (.inl ())) (y := some (.inr (.inl (false, ()))))
    (by show lg101_0 _ _ _ _ _ _ _ _ = _
        rw [lg101_0_eq]; simp (disch := omega) only [br_neg])
    (by intro k hk
        show lg101_0 _ _ _ _ _ _ _ _ = _
        rw [lg101_0_eq]; simp (disch := omega) only [br_pos, chk_pos, chk_or, wrapS, toNat_coe]
        rw [G153_has _ _ (by simp; omega)]
        simp only [chk_isSome, Option.getD_some]
        generalize f56 (l.getD k ((0 : Int), ())).1 0 2 = c
        generalize has ((l.take k).drop 0) (l.getD k ((0 : Int), ())).1 = d
        cases c <;> cases d <;> rfl)
  exact this
theorem lg172_mem (a0 a1 a2 a3 a4 a5 : Int) (l : List (Int × Unit)) (hl : l.length < 9223372036854775807) : lg172_0 l ((l.length : Nat) : Int) (0 : Int) a0 a1 a2 a3 a4 a5 l = if memOk l = true then some (.inl (a0, a1, a2, a3, a4, a5, l, ())) else some (.inr (.inl (false, ()))) := by
  have := every (f := fun k => lg172_0 l ((l.length : Nat) : Int) (k : Int) a0 a1 a2 a3 a4 a5 l) (N := l.length) (p := fun k => f56 (l.getD k ((0 : Int), ())).1 0 2 && !has ((l.take k).drop 0) (l.getD k ((0 : Int), ())).1) (x := some (.inl (a0, a1, a2, a3, a4, a5, l, ()))) (y := some (.inr (.inl (false, ()))))
    (by show lg172_0 _ _ _ _ _ _ _ _ _ _ = _
        rw [lg172_0_eq]; simp (disch := omega) only [br_neg])
    (by intro k hk
        show lg172_0 _ _ _ _ _ _ _ _ _ _ = _
        rw [lg172_0_eq]; simp (disch := omega) only [br_pos, chk_pos, chk_or, wrapS, toNat_coe]
        rw [G182_has _ _ (by simp; omega)]
        simp only [chk_isSome, Option.getD_some]
        have : f103 (l.getD k ((0 : Int), ())).1 = f56 (l.getD k ((0 : Int), ())).1 0 2 := rfl
        rw [this]
        generalize f56 (l.getD k ((0 : Int), ())).1 0 2 = c
        generalize has ((l.take k).drop 0) (l.getD k ((0 : Int), ())).1 = d
        cases c <;> cases d <;> rfl)
  exact this
def restOk (d3 d4 d5 : Int) (d6 : List (Int × Unit)) : Bool :=
  f56 d3 0 2 && (if (d3 == (0 : Int)) = true then ((((d4 == (0 : Int)) && (d5 == (0 : Int))) && (((d6.length : Nat) : Int) == (0 : Int)))) else (f56 d4 0 3 && f56 d5 1 99999 && !(decide (((d6.length : Nat) : Int) ≥ (3 : Int)))) && memOk d6)
theorem G172_ok (d0 d1 d2 d3 d4 d5 : Int) (d6 : List (Int × Unit)) (hl : d6.length < 9223372036854775807) : G172 d0 d1 d2 d3 d4 d5 d6 = some (restOk d3 d4 d5 d6, ()) := by
  rw [G172_eq, lg172_mem _ _ _ _ _ _ _ hl]
  unfold restOk
  by_cases h : d3 = 0
  · subst h
    rfl
  · have h1 : (d3 == (0 : Int)) = false := by simpa using h
    have h2 : f64 d3 (1 : Int) (2 : Int) = f56 d3 0 2 := by
      unfold f64 f56
      congr 1
      exact decide_eq_decide.2 (by omega)
    have h3 : f143 d4 = f56 d4 0 3 := rfl
    have h4 : f64 d5 (1 : Int) (99999 : Int) = f56 d5 1 99999 := rfl
    have h5 : decide (((d6.length : Nat) : Int) < (3 : Int)) = !(decide (((d6.length : Nat) : Int) ≥ (3 : Int))) := by
      rw [← decide_not]
      exact decide_eq_decide.2 (by omega)
    rw [h1]
    cases memOk d6 with
    | false => simp [br]
    | true =>
      simp only [if_true, br_false, Option.bind_some, h2, h3, h4, h5, Bool.false_eq_true, if_false, Bool.and_true, Bool.and_assoc]
def diskOk (m2 : Int) (e : DMapDisk) : Bool := (f56 e.1 1 (IntKind.i64.wrap (m2 - 1)) && (f56 e.2.1 1 8 && (f56 e.2.2.1 1 99999 && restOk e.2.2.2.1 e.2.2.2.2.1 e.2.2.2.2.2.1 e.2.2.2.2.2.2.1)))
theorem G101_ok (m0 m1 m2 : Int) (m3 : List DMapDisk) (m4 : List DMapView) (m5 : List DMapDone) (d0 d1 d2 d3 d4 d5 : Int) (d6 : List (Int × Unit)) (hl : d6.length < 9223372036854775807) :
    G101 m0 m1 m2 m3 m4 m5 d0 d1 d2 d3 d4 d5 d6 = some (diskOk m2 (d0, d1, d2, d3, d4, d5, d6, ()), ()) := by
  rw [G101_eq, lg101_mem _ _ _ _ _ _ _ hl]
  unfold diskOk restOk
  show _ = some ((f56 d0 1 (IntKind.i64.wrap (m2 - 1)) && (f56 d1 1 8 && (f56 d2 1 99999 && (f56 d3 0 2 && _)))), ())
  cases f56 d0 1 (IntKind.i64.wrap (m2 - 1))
  · rfl
  cases f56 d1 1 8
  · rfl
  cases f56 d2 1 99999
  · rfl
  cases f56 d3 0 2
  · rfl
  cases (d3 == (0 : Int))
  · cases f56 d4 0 3
    · rfl
    cases f56 d5 1 99999
    · rfl
    cases decide (((d6.length : Nat) : Int) ≥ (3 : Int))
    · cases memOk d6 <;> rfl
    · rfl
  · rfl
def prevD (a : List DMapDisk) (k : Nat) : DMapDisk := a.getD (IntKind.i64.wrap ((k : Int) - (1 : Int))).toNat ((0 : Int), (0 : Int), (0 : Int), (0 : Int), (0 : Int), (0 : Int), [], ())
def atD (a : List DMapDisk) (k : Nat) : DMapDisk := a.getD k ((0 : Int), (0 : Int), (0 : Int), (0 : Int), (0 : Int), (0 : Int), [], ())
def disksB (m2 : Int) (a : List DMapDisk) : Bool := allF (fun k => diskOk m2 (atD a k) && !(decide ((k : Int) > 0) && decide ((prevD a k).1 ≥ (atD a k).1))) 0 a.length
theorem atD_fit {a : List DMapDisk} (hf : ∀ x, x ∈ a → DiskFit x) {k : Nat} (hk : k < a.length) : (atD a k).2.2.2.2.2.2.1.length < 9223372036854775807 := by
  unfold atD
  rw [getD_get hk]
  have := (hf a[k] (List.getElem_mem hk)).list
  omega
theorem lg33_0_ok (x0 x1 x2 : Int) (x3 : List DMapDisk) (x4 : List DMapView) (x5 : List DMapDone) (hf : ∀ x, x ∈ x3 → DiskFit x) (hl : x3.length < 9223372036854775807) :
    lg33_0 (0 : Int) x0 x1 x2 x3 x4 x5 = if disksB x2 x3 = true then some (.inl (x0, x1, x2, x3, x4, x5, ())) else some (.inr (.inl (false, ()))) := by
  have := every (f := fun k => lg33_0 (k : Int) x0 x1 x2 x3 x4 x5) (N := x3.length) (p := fun k => diskOk x2 (atD x3 k) && !(decide ((k : Int) > 0) && decide ((prevD x3 k).1 ≥ (atD x3 k).1))) (x := some (.inl (x0, x1, x2, x3, x4, x5, ()))) (y := some (.inr (.inl (false, ()))))
    (by show lg33_0 _ _ _ _ _ _ _ = _
        rw [lg33_0_eq]; simp (disch := omega) only [br_neg])
    (by intro k hk
        show lg33_0 _ _ _ _ _ _ _ = _
        have hq := atD_fit hf hk
        unfold atD at hq
        rw [lg33_0_eq]; simp (disch := omega) only [br_pos, chk_pos, chk_or, wrapS, toNat_coe]
        rw [G101_ok _ _ _ _ _ _ _ _ _ _ _ _ _ hq]
        simp only [Option.bind_some]
        rw [chk_prev hk hl]
        show br ((!(diskOk x2 (atD x3 k))) || ((decide ((k : Int) > (0 : Int))) && (decide ((prevD x3 k).1 ≥ (atD x3 k).1)))) _ _ = _
        generalize diskOk x2 (atD x3 k) = c
        generalize ((decide ((k : Int) > (0 : Int))) && (decide ((prevD x3 k).1 ≥ (atD x3 k).1))) = d
        cases c <;> cases d <;> rfl)
  exact this
theorem lg130_0_ok (x2 : Int) (x3 : List DMapDisk) (hf : ∀ x, x ∈ x3 → DiskFit x) (hl : x3.length < 9223372036854775807) :
    lg130_0 x2 x3 x3 ((x3.length : Nat) : Int) (0 : Int) = if disksB x2 x3 = true then some (.inl ()) else some (.inr (.inl (false, ()))) := by
  have := every (f := fun k => lg130_0 x2 x3 x3 ((x3.length : Nat) : Int) (k : Int)) (N := x3.length) (p := fun k => diskOk x2 (atD x3 k) && !(decide ((k : Int) > 0) && decide ((prevD x3 k).1 ≥ (atD x3 k).1))) (x := some (.inl ())) (y := some (.inr (.inl (false, ()))))
    (by show lg130_0 _ _ _ _ _ = _
        rw [lg130_0_eq]; simp (disch := omega) only [br_neg])
    (by intro k hk
        show lg130_0 _ _ _ _ _ = _
        have hq := atD_fit hf hk
        unfold atD at hq
        rw [lg130_0_eq]; simp (disch := omega) only [br_pos, chk_pos, chk_or, wrapS, toNat_coe]
        rw [G172_ok _ _ _ _ _ _ _ hq]
        simp only [chk_isSome, Option.getD_some]
        rw [chk_prev hk hl]
        show br ((((((!(f56 (atD x3 k).1 (1 : Int) (IntKind.i64.wrap (x2 - (1 : Int))))) || ((decide ((k : Int) > (0 : Int))) && (decide ((prevD x3 k).1 ≥ (atD x3 k).1)))) || (!(f56 (atD x3 k).2.1 (1 : Int) (8 : Int)))) || (!(f56 (atD x3 k).2.2.1 (1 : Int) (99999 : Int)))) || (!(restOk (atD x3 k).2.2.2.1 (atD x3 k).2.2.2.2.1 (atD x3 k).2.2.2.2.2.1 (atD x3 k).2.2.2.2.2.2.1)))) _ _ = _
        unfold diskOk
        generalize ((decide ((k : Int) > (0 : Int))) && (decide ((prevD x3 k).1 ≥ (atD x3 k).1))) = d
        generalize f56 (atD x3 k).1 (1 : Int) (IntKind.i64.wrap (x2 - (1 : Int))) = c1
        generalize f56 (atD x3 k).2.1 (1 : Int) (8 : Int) = c2
        generalize f56 (atD x3 k).2.2.1 (1 : Int) (99999 : Int) = c3
        generalize restOk (atD x3 k).2.2.2.1 (atD x3 k).2.2.2.2.1 (atD x3 k).2.2.2.2.2.1 (atD x3 k).2.2.2.2.2.2.1 = c4
        cases c1 <;> cases c2 <;> cases c3 <;> cases c4 <;> cases d <;> rfl)
  exact this
def viewsB (m1 : Int) (a : List DMapView) : Bool := allF (fun k => let e : DMapView := a.getD k ((0 : Int), (0 : Int), (0 : Int), ()); !((((!(f56 e.1 (1 : Int) (99999 : Int))) || (!(f56 e.2.1 (0 : Int) (IntKind.i64.wrap (m1 - (1 : Int)))))) || (!(f56 e.2.2.1 (-1 : Int) (IntKind.i64.wrap (m1 - (1 : Int)))))) || (e.2.1 == e.2.2.1))) 0 a.length
theorem lg33_1_ok (x0 x1 x2 : Int) (x3 : List DMapDisk) (x4 : List DMapView) (x5 : List DMapDone) (hl : x4.length < 9223372036854775807) :
    lg33_1 (0 : Int) x0 x1 x2 x3 x4 x5 = if viewsB x1 x4 = true then some (.inl (x0, x1, x2, x3, x4, x5, ())) else some (.inr (.inl (false, ()))) := by
  refine every (f := fun k => lg33_1 (k : Int) x0 x1 x2 x3 x4 x5) (N := x4.length) ?_ ?_
  · show lg33_1 _ _ _ _ _ _ _ = _
    rw [lg33_1_eq]; simp (disch := omega) only [br_neg]
  · intro k hk
    show lg33_1 _ _ _ _ _ _ _ = _
    rw [lg33_1_eq]; simp (disch := omega) only [br_pos, chk_pos, chk_or, wrapS, toNat_coe]
    exact br_not _
theorem lg102_0_ok (x0 x1 x2 : Int) (x3 : List DMapDisk) (x4 : List DMapView) (x5 : List DMapDone) (hl : x4.length < 9223372036854775807) :
    lg102_0 x4 ((x4.length : Nat) : Int) (0 : Int) x0 x1 x2 x3 x4 x5 = if viewsB x1 x4 = true then some (.inl (x0, x1, x2, x3, x4, x5, ())) else some (.inr (.inl (false, ()))) := by
  refine every (f := fun k => lg102_0 x4 ((x4.length : Nat) : Int) (k : Int) x0 x1 x2 x3 x4 x5) (N := x4.length) ?_ ?_
  · show lg102_0 _ _ _ _ _ _ _ _ _ = _
    rw [lg102_0_eq]; simp (disch := omega) only [br_neg]
  · intro k hk
    show lg102_0 _ _ _ _ _ _ _ _ _ = _
    rw [lg102_0_eq]; simp (disch := omega) only [br_pos, chk_pos, chk_or, wrapS, toNat_coe]
    have hff : f64 = f56 := rfl
    rw [hff]
    exact br_not _
def atE (a : List DMapDone) (k : Nat) : DMapDone := a.getD k ((0 : Int), (0 : Int), (0 : Int), (0 : Int), ())
def prevE (a : List DMapDone) (k : Nat) : DMapDone := a.getD (IntKind.i64.wrap ((k : Int) - (1 : Int))).toNat ((0 : Int), (0 : Int), (0 : Int), (0 : Int), ())
def doneB (a : List DMapDone) : Bool := allF (fun k => !(((((!(f56 (atE a k).1 (0 : Int) (3 : Int))) || (!(f56 (atE a k).2.1 (1 : Int) (99999 : Int)))) || (!(f56 (atE a k).2.2.1 (0 : Int) (6 : Int)))) || (!(f72 (atE a k).2.2.2.1))) || ((decide ((k : Int) > (0 : Int))) && (decide ((prevE a k).1 ≥ (atE a k).1))))) 0 a.length
theorem lg33_2_ok (x0 x1 x2 : Int) (x3 : List DMapDisk) (x4 : List DMapView) (x5 : List DMapDone) (hl : x5.length < 9223372036854775807) :
    lg33_2 (0 : Int) x0 x1 x2 x3 x4 x5 = if doneB x5 = true then some (.inl ()) else some (.inr (.inl (false, ()))) := by
  refine every (f := fun k => lg33_2 (k : Int) x0 x1 x2 x3 x4 x5) (N := x5.length) ?_ ?_
  · show lg33_2 _ _ _ _ _ _ _ = _
    rw [lg33_2_eq]; simp (disch := omega) only [br_neg]
  · intro k hk
    show lg33_2 _ _ _ _ _ _ _ = _
    rw [lg33_2_eq]; simp (disch := omega) only [br_pos, chk_pos, chk_or, wrapS, toNat_coe]
    rw [chk_prev hk hl]
    show br (((((!(f56 (atE x5 k).1 (0 : Int) (3 : Int))) || (!(f56 (atE x5 k).2.1 (1 : Int) (99999 : Int)))) || (!(f56 (atE x5 k).2.2.1 (0 : Int) (6 : Int)))) || (!(f72 (atE x5 k).2.2.2.1))) || ((decide ((k : Int) > (0 : Int))) && (decide ((prevE x5 k).1 ≥ (atE x5 k).1)))) _ _ = _
    generalize (((((!(f56 (atE x5 k).1 (0 : Int) (3 : Int))) || (!(f56 (atE x5 k).2.1 (1 : Int) (99999 : Int)))) || (!(f56 (atE x5 k).2.2.1 (0 : Int) (6 : Int)))) || (!(f72 (atE x5 k).2.2.2.1))) || ((decide ((k : Int) > (0 : Int))) && (decide ((prevE x5 k).1 ≥ (atE x5 k).1)))) = c
    cases c <;> rfl
theorem lg102_1_ok (x0 x1 x2 : Int) (x3 : List DMapDisk) (x4 : List DMapView) (x5 : List DMapDone) (hl : x5.length < 9223372036854775807) :
    lg102_1 x5 ((x5.length : Nat) : Int) (0 : Int) x0 x1 x2 x3 x4 x5 = if doneB x5 = true then some (.inl ()) else some (.inr (.inl (false, ()))) := by
  refine every (f := fun k => lg102_1 x5 ((x5.length : Nat) : Int) (k : Int) x0 x1 x2 x3 x4 x5) (N := x5.length) ?_ ?_
  · show lg102_1 _ _ _ _ _ _ _ _ _ = _
    rw [lg102_1_eq]; simp (disch := omega) only [br_neg]
  · intro k hk
    show lg102_1 _ _ _ _ _ _ _ _ _ = _
    rw [lg102_1_eq]; simp (disch := omega) only [br_pos, chk_pos, chk_or, wrapS, toNat_coe]
    rw [chk_prev hk hl]
    show br (((((!(f56 (atE x5 k).1 (0 : Int) (3 : Int))) || ((decide ((k : Int) > (0 : Int))) && (decide ((prevE x5 k).1 ≥ (atE x5 k).1)))) || (!(f56 (atE x5 k).2.1 (1 : Int) (99999 : Int)))) || (!(f56 (atE x5 k).2.2.1 (0 : Int) (6 : Int)))) || (!(f72 (atE x5 k).2.2.2.1))) _ _ = _
    generalize f56 (atE x5 k).1 (0 : Int) (3 : Int) = c1
    generalize f56 (atE x5 k).2.1 (1 : Int) (99999 : Int) = c2
    generalize f56 (atE x5 k).2.2.1 (0 : Int) (6 : Int) = c3
    generalize f72 (atE x5 k).2.2.2.1 = c4
    generalize ((decide ((k : Int) > (0 : Int))) && (decide ((prevE x5 k).1 ≥ (atE x5 k).1))) = c5
    cases c1 <;> cases c2 <;> cases c3 <;> cases c4 <;> cases c5 <;> rfl
def mapB (x0 x1 x2 : Int) (x3 : List DMapDisk) (x4 : List DMapView) (x5 : List DMapDone) : Bool :=
  f56 x0 0 60 && (f56 x1 3 5 && (f56 x2 1 5 && (!(decide (((x3.length : Nat) : Int) > (4 : Int))) && (!(((x4.length : Nat) : Int) != (3 : Int)) && (!(decide (((x5.length : Nat) : Int) > (4 : Int))) && (disksB x2 x3 && (viewsB x1 x4 && doneB x5)))))))
theorem G33_ok {a0 a1 a2 : Int} {a3 : List DMapDisk} {a4 : List DMapView} {a5 : List DMapDone} (h : MFit a0 a1 a2 a3 a4 a5) : G33 a0 a1 a2 a3 a4 a5 = some (mapB a0 a1 a2 a3 a4 a5, ()) := by
  have h3 := h.l3; have h4 := h.l4; have h5 := h.l5
  rw [G33_eq, lg33_0_ok _ _ _ _ _ _ h.disk (by omega)]
  unfold mapB
  cases f56 a0 0 60
  · rfl
  cases f56 a1 3 5
  · rfl
  cases f56 a2 1 5
  · rfl
  cases (decide (((a3.length : Nat) : Int) > (4 : Int)))
  rotate_left
  · rfl
  cases (((a4.length : Nat) : Int) != (3 : Int))
  rotate_left
  · rfl
  cases (decide (((a5.length : Nat) : Int) > (4 : Int)))
  rotate_left
  · rfl
  cases disksB a2 a3
  · rfl
  show (lg33_1 (0 : Int) a0 a1 a2 a3 a4 a5).bind _ = _
  rw [lg33_1_ok _ _ _ _ _ _ (by omega)]
  cases viewsB a1 a4
  · rfl
  show (lg33_2 (0 : Int) a0 a1 a2 a3 a4 a5).bind _ = _
  rw [lg33_2_ok _ _ _ _ _ _ (by omega)]
  cases doneB a5 <;> rfl
theorem G130_ok (a1 a2 : Int) (a3 : List DMapDisk) (hf : ∀ x, x ∈ a3 → DiskFit x) (hl : a3.length < 9223372036854775807) : G130 a1 a2 a3 = some (f56 a1 3 5 && (f56 a2 1 5 && (!(decide (((a3.length : Nat) : Int) > (4 : Int))) && disksB a2 a3)), ()) := by
  rw [G130_eq, lg130_0_ok _ _ hf hl]
  have hff : f64 = f56 := rfl
  rw [hff]
  cases f56 a1 3 5
  · rfl
  cases f56 a2 1 5
  · rfl
  cases (decide (((a3.length : Nat) : Int) > (4 : Int)))
  rotate_left
  · rfl
  cases disksB a2 a3 <;> rfl
theorem G102_ok {a0 a1 a2 : Int} {a3 : List DMapDisk} {a4 : List DMapView} {a5 : List DMapDone} (h : MFit a0 a1 a2 a3 a4 a5) : G102 a0 a1 a2 a3 a4 a5 = some (mapB a0 a1 a2 a3 a4 a5, ()) := by
  have h3 := h.l3; have h4 := h.l4; have h5 := h.l5
  rw [G102_eq, G130_ok _ _ _ h.disk (by omega), lg102_0_ok _ _ _ _ _ _ (by omega)]
  have hff : f64 = f56 := rfl
  rw [hff]
  unfold mapB
  cases f56 a0 0 60
  · rfl
  cases f56 a1 3 5
  · rfl
  cases f56 a2 1 5
  · rfl
  cases (decide (((a3.length : Nat) : Int) > (4 : Int)))
  rotate_left
  · rfl
  cases disksB a2 a3
  · cases (((a4.length : Nat) : Int) != (3 : Int)) <;> cases (decide (((a5.length : Nat) : Int) > (4 : Int))) <;> rfl
  cases (((a4.length : Nat) : Int) != (3 : Int))
  rotate_left
  · rfl
  cases (decide (((a5.length : Nat) : Int) > (4 : Int)))
  rotate_left
  · rfl
  cases viewsB a1 a4
  · rfl
  show (lg102_1 a5 ((a5.length : Nat) : Int) (0 : Int) a0 a1 a2 a3 a4 a5).bind _ = _
  rw [lg102_1_ok _ _ _ _ _ _ (by omega)]
  cases doneB a5 <;> rfl

theorem copied_eq {α : Type} (l : List α) (z : α) : l.take (min l.length ((List.replicate ((l.length : Nat) : Int).toNat z)).length) ++ (List.replicate ((l.length : Nat) : Int).toNat z).drop (min l.length ((List.replicate ((l.length : Nat) : Int).toNat z)).length) = l := by simp
theorem br_len {α β : Type} (l : List α) (x y : Option β) (h : l = [] → x = y) : br (((l.length : Nat) : Int) == (0 : Int)) x y = y := by
  cases l with
  | nil => rw [h rfl]; exact br_same _
  | cons a t => rw [show ((((a :: t).length : Nat) : Int) == (0 : Int)) = false by simp; omega]; rfl
theorem copyI (l : List (Int × Unit)) (h : l.length * 8 ≤ 140737488351232) : G176 l = some (l, ()) := by
  rw [G176_eq, copied_eq, chk_pos (by omega)]
  exact br_len l _ _ fun e => by rw [e]
theorem copyV (l : List DMapView) (h : l.length * 24 ≤ 140737488351232) : G180 l = some (l, ()) := by
  rw [G180_eq, copied_eq, chk_pos (by omega)]
  exact br_len l _ _ fun e => by rw [e]
theorem copyE (l : List DMapDone) (h : l.length * 32 ≤ 140737488351232) : G181 l = some (l, ()) := by
  rw [G181_eq, copied_eq, chk_pos (by omega)]
  exact br_len l _ _ fun e => by rw [e]
theorem copyD (l : List DMapDisk) (h : l.length * 72 ≤ 140737488351232) : G175 l = some (l, ()) := by
  rw [G175_eq, copied_eq, chk_pos (by omega)]
  exact br_len l _ _ fun e => by rw [e]
theorem lg_disks (l : List DMapDisk) (hf : ∀ x, x ∈ l → DiskFit x) (h : l.length < 9223372036854775807) : ∀ n k, k + n = l.length → lg133_0 ((l.length : Nat) : Int) (k : Int) (k : Int) l = some (.inl (((l.length : Nat) : Int), l, ()))
  | 0, k, hk => by
    rw [lg133_0_eq]
    simp (disch := omega) only [br_neg]
    rw [show k = l.length by omega]
  | n + 1, k, hk => by
    have hlt : k < l.length := by omega
    rw [lg133_0_eq]
    simp (disch := omega) only [br_pos, chk_pos, wrapS, toNat_coe]
    simp only [getD_get hlt]
    rw [copyI _ (hf _ (List.getElem_mem hlt))]
    simp only [Option.bind_some, decide_true, chk_true]
    have e : l.set k (l[k].1, l[k].2.1, l[k].2.2.1, l[k].2.2.2.1, l[k].2.2.2.2.1, l[k].2.2.2.2.2.1, l[k].2.2.2.2.2.2.1, ()) = l := by
      have : (l[k].1, l[k].2.1, l[k].2.2.1, l[k].2.2.2.1, l[k].2.2.2.2.1, l[k].2.2.2.2.2.1, l[k].2.2.2.2.2.2.1, ()) = l[k] := rfl
      rw [this]; exact List.set_getElem_self hlt
    rw [e]
    exact lg_disks l hf h n (k + 1) (by omega)
theorem copyDs (l : List DMapDisk) (hf : ∀ x, x ∈ l → DiskFit x) (h : l.length * 72 ≤ 140737488351232) : G133 l = some (l, ()) := by
  rw [G133_eq, copyD l h]
  simp only [Option.bind_some]
  have := lg_disks l hf (by omega) l.length 0 (by omega)
  have this : lg133_0 ((l.length : Nat) : Int) (0 : Int) (0 : Int) l = _ := this
  rw [this]
  simp only [Option.bind_some, decide_true, chk_true]
theorem copyM {a0 a1 a2 : Int} {a3 : List DMapDisk} {a4 : List DMapView} {a5 : List DMapDone} (h : MFit a0 a1 a2 a3 a4 a5) : G154 a0 a1 a2 a3 a4 a5 = some (a0, a1, a2, a3, a4, a5, ()) := by
  rw [G154_eq, copyDs _ h.disk h.l3]
  simp only [Option.bind_some]
  rw [copyV _ h.l4]
  simp only [Option.bind_some]
  rw [copyE _ h.l5]
  rfl
/-- A few disks, each with a few numbers. -/
structure MSmall (a3 : List DMapDisk) (a4 : List DMapView) (a5 : List DMapDone) : Prop where
  disk : ∀ x, x ∈ a3 → x.2.2.2.2.2.2.1.length ≤ 10
  l3 : a3.length ≤ 10
  l4 : a4.length ≤ 10
  l5 : a5.length ≤ 10
theorem MSmall.fit {a0 a1 a2 : Int} {a3 : List DMapDisk} {a4 : List DMapView} {a5 : List DMapDone} (h : MSmall a3 a4 a5) (h1 : inK .i64 a1) (h2 : inK .i64 a2) : MFit a0 a1 a2 a3 a4 a5 :=
  ⟨fun x hx => by have := h.disk x hx; unfold DiskFit; omega, by have := h.l3; omega, by have := h.l4; omega, by have := h.l5; omega, h1, h2⟩
theorem lg_copyS (m0 m1 m2 : Int) (ds : List DMapDisk) (vs : List DMapView) (xs : List DMapDone) (h : MSmall ds vs xs) : ∀ n k r, k + n = ds.length → r.length = k →
    lg121_0 (k : Int) m0 m1 m2 ds vs xs (0 : Int) (0 : Int) (0 : Int) m0 m1 m2 vs xs r = some (.inl (m0, m1, m2, ds, vs, xs, (0 : Int), (0 : Int), (0 : Int), m0, m1, m2, vs, xs, r ++ ds.drop k, ()))
  | 0, k, r, hk, hr => by
    rw [lg121_0_eq]
    simp (disch := omega) only [br_neg]
    rw [List.drop_eq_nil_of_le (by omega), List.append_nil]
  | n + 1, k, r, hk, hr => by
    have hlt : k < ds.length := by omega
    have h3 := h.l3
    have hd := h.disk _ (List.getElem_mem hlt)
    rw [lg121_0_eq]
    simp (disch := omega) only [br_pos, chk_pos, wrapS, toNat_coe]
    simp only [getD_get hlt, capOk]
    simp (disch := omega) only [chk_pos]
    rw [lg_copyS m0 m1 m2 ds vs xs h n (k + 1) _ (by omega) (by simp [hr]), List.drop_eq_getElem_cons hlt, List.append_assoc]
    rfl
theorem copyS (m0 m1 m2 : Int) (ds : List DMapDisk) (vs : List DMapView) (xs : List DMapDone) (h : MSmall ds vs xs) : G121 m0 m1 m2 ds vs xs = some (m0, m1, m2, ds, vs, xs, ()) := by
  have h4 := h.l4
  have h5 := h.l5
  rw [G121_eq]
  have := lg_copyS m0 m1 m2 ds vs xs h ds.length 0 [] (by omega) rfl
  have this : lg121_0 (0 : Int) m0 m1 m2 ds vs xs (0 : Int) (0 : Int) (0 : Int) m0 m1 m2 vs xs [] = _ := this
  rw [this]
  simp only [Option.bind_some, capOk]
  simp (disch := omega) only [chk_pos]
  rfl
/-- A disk in form; 'E' is above its epoch. -/
structure DOk (E m2 : Int) (d : DMapDisk) : Prop where
  id : 1 ≤ d.1 ∧ d.1 ≤ m2 - 1
  size : 1 ≤ d.2.1 ∧ d.2.1 ≤ 8
  epoch : 1 ≤ d.2.2.1 ∧ d.2.2.1 ≤ E
  fr : 0 ≤ d.2.2.2.1 ∧ d.2.2.2.1 ≤ 2
  none : d.2.2.2.1 = 0 → d.2.2.2.2.1 = 0 ∧ d.2.2.2.2.2.1 = 0 ∧ d.2.2.2.2.2.2.1 = []
  some : d.2.2.2.1 ≠ 0 → 0 ≤ d.2.2.2.2.1 ∧ d.2.2.2.2.1 ≤ 3 ∧ 1 ≤ d.2.2.2.2.2.1 ∧ d.2.2.2.2.2.1 ≤ 99999 ∧ d.2.2.2.2.2.2.1.length < 3 ∧ memOk d.2.2.2.2.2.2.1 = true
structure MOk (E m0 m1 m2 : Int) (ds : List DMapDisk) (vs : List DMapView) (xs : List DMapDone) : Prop where
  s0 : 0 ≤ m0 ∧ m0 ≤ 60
  s1 : 3 ≤ m1 ∧ m1 ≤ 5
  s2 : 1 ≤ m2 ∧ m2 ≤ 5
  dl : ds.length ≤ 4
  ids : ds.Pairwise fun a b => a.1 < b.1
  dk : ∀ d ∈ ds, DOk E m2 d
  vl : vs.length = 3
  vw : ∀ v ∈ vs, 1 ≤ v.1 ∧ v.1 ≤ E ∧ 0 ≤ v.2.1 ∧ v.2.1 ≤ m1 - 1 ∧ -1 ≤ v.2.2.1 ∧ v.2.2.1 ≤ m1 - 1 ∧ v.2.1 ≠ v.2.2.1
  dn : DonesOk xs
  dc : ∀ d ∈ xs, d.2.1 ≤ 99999 ∧ 0 ≤ d.2.2.1 ∧ d.2.2.1 ≤ 6 ∧ -1 ≤ d.2.2.2.1 ∧ d.2.2.2.1 ≤ 99999
theorem DOk.acks {E m2 : Int} {d : DMapDisk} (h : DOk E m2 d) : d.2.2.2.2.2.2.1.length < 3 := by
  by_cases e : d.2.2.2.1 = 0
  · rw [(h.none e).2.2]; decide
  · exact (h.some e).2.2.2.2.1
theorem MOk.small {E m0 m1 m2 : Int} {ds : List DMapDisk} {vs : List DMapView} {xs : List DMapDone} (h : MOk E m0 m1 m2 ds vs xs) : MSmall ds vs xs :=
  ⟨fun x hx => by have := (h.dk x hx).acks; omega, by have := h.dl; omega, by rw [h.vl]; decide, by have := h.dn.len; omega⟩
theorem inK64 {n : Int} (h : -9223372036854775808 ≤ n) (h' : n ≤ 9223372036854775807) : inK .i64 n := by
  constructor
  · rw [show IntKind.i64.min = -9223372036854775808 by decide]; exact h
  · rw [show IntKind.i64.max = 9223372036854775807 by decide]; exact h'
theorem allF_iff {p : Nat → Bool} : ∀ {n k : Nat}, allF p k n = true ↔ ∀ j, k ≤ j → j < k + n → p j = true
  | 0, k => ⟨fun _ j h1 h2 => by omega, fun _ => rfl⟩
  | n + 1, k => by
    show (p k && allF p (k + 1) n) = true ↔ _
    rw [Bool.and_eq_true, allF_iff]
    constructor
    · rintro ⟨h1, h2⟩ j h3 h4
      by_cases e : j = k
      · rw [e]; exact h1
      · exact h2 j (by omega) (by omega)
    · exact fun h => ⟨h k (Nat.le_refl _) (by omega), fun j h3 h4 => h j (by omega) (by omega)⟩
theorem in_iff (n a b : Int) : f56 n a b = true ↔ a ≤ n ∧ n ≤ b := by
  unfold f56
  rw [Bool.and_eq_true, decide_eq_true_eq, decide_eq_true_eq]
theorem MOk.fit {E m0 m1 m2 : Int} {ds : List DMapDisk} {vs : List DMapView} {xs : List DMapDone} (h : MOk E m0 m1 m2 ds vs xs) : MFit m0 m1 m2 ds vs xs :=
  h.small.fit (inK64 (by have := h.s1; omega) (by have := h.s1; omega)) (inK64 (by have := h.s2; omega) (by have := h.s2; omega))
theorem DOk.diskOk {E m2 : Int} {d : DMapDisk} (h : DOk E m2 d) (hE : E ≤ 99999) (h2 : 1 ≤ m2 ∧ m2 ≤ 5) : diskOk m2 d = true := by
  unfold MO.diskOk
  rw [wrap64 (by omega) (by omega)]
  have h1 := h.id; have h3 := h.size; have h4 := h.epoch; have h5 := h.fr
  simp only [Bool.and_eq_true, in_iff]
  refine ⟨h1, h3, ⟨h4.1, by omega⟩, ?_⟩
  unfold restOk
  simp only [Bool.and_eq_true, in_iff]
  refine ⟨h5, ?_⟩
  by_cases e : d.2.2.2.1 = 0
  · obtain ⟨g1, g2, g3⟩ := h.none e
    rw [if_pos (by simpa using e)]
    simp [g1, g2, g3]
  · obtain ⟨g1, g2, g3, g4, g5, g6⟩ := h.some e
    rw [if_neg (by simpa using e)]
    simp only [Bool.and_eq_true, in_iff, Bool.not_eq_true', decide_eq_false_iff_not]
    exact ⟨⟨⟨⟨g1, g2⟩, g3, g4⟩, by omega⟩, g6⟩
theorem atD_get {a : List DMapDisk} {k : Nat} (h : k < a.length) : atD a k = a[k] := getD_get h
theorem prevD_get {a : List DMapDisk} {k : Nat} (h : k + 1 < a.length) (hl : a.length ≤ 10) : prevD a (k + 1) = a[k] := by
  unfold prevD
  rw [wrap64 (by omega) (by omega), show (((k + 1 : Nat) : Int) - 1).toNat = k by omega, getD_get (by omega)]
theorem atE_get {a : List DMapDone} {k : Nat} (h : k < a.length) : atE a k = a[k] := getD_get h
theorem prevE_get {a : List DMapDone} {k : Nat} (h : k + 1 < a.length) (hl : a.length ≤ 10) : prevE a (k + 1) = a[k] := by
  unfold prevE
  rw [wrap64 (by omega) (by omega), show (((k + 1 : Nat) : Int) - 1).toNat = k by omega, getD_get (by omega)]
theorem MOk.mapB {E m0 m1 m2 : Int} {ds : List DMapDisk} {vs : List DMapView} {xs : List DMapDone} (h : MOk E m0 m1 m2 ds vs xs) (hE : E ≤ 99999) : MO.mapB m0 m1 m2 ds vs xs = true := by
  have hdl := h.dl; have hvl := h.vl; have hxl := h.dn.len; have h1 := h.s1; have h2 := h.s2
  unfold MO.mapB
  simp only [Bool.and_eq_true, in_iff, Bool.not_eq_true', decide_eq_false_iff_not]
  refine ⟨h.s0, h1, h2, by omega, by rw [hvl]; rfl, by omega, ?_, ?_, ?_⟩
  · unfold disksB
    rw [allF_iff]
    intro j _ hj
    have hj : j < ds.length := by omega
    rw [atD_get hj, (h.dk _ (List.getElem_mem hj)).diskOk hE h2, Bool.true_and]
    cases j with
    | zero => rfl
    | succ k =>
      rw [prevD_get hj (by omega)]
      have := (List.pairwise_iff_getElem.1 h.ids) k (k + 1) (by omega) hj (by omega)
      simp; omega
  · unfold viewsB
    rw [allF_iff]
    intro j _ hj
    have hj : j < vs.length := by omega
    simp only [getD_get hj]
    obtain ⟨g1, g2, g3, g4, g5, g6, g7⟩ := h.vw _ (List.getElem_mem hj)
    rw [wrap64 (by omega) (by omega), (in_iff _ _ _).2 ⟨g1, by omega⟩, (in_iff _ _ _).2 ⟨g3, g4⟩, (in_iff _ _ _).2 ⟨g5, g6⟩]
    simpa using g7
  · unfold doneB
    rw [allF_iff]
    intro j _ hj
    have hj : j < xs.length := by omega
    rw [atE_get hj]
    obtain ⟨g1, g2, g3, g4, g5⟩ := h.dc _ (List.getElem_mem hj)
    have g6 := h.dn.cl _ (List.getElem_mem hj)
    have g7 := h.dn.call _ (List.getElem_mem hj)
    rw [(in_iff _ _ _).2 ⟨g6.1, g6.2⟩, (in_iff _ _ _).2 ⟨g7, g1⟩, (in_iff _ _ _).2 ⟨g2, g3⟩]
    have : f72 xs[j].2.2.2.1 = true := by unfold f72; exact (in_iff _ _ _).2 ⟨g4, g5⟩
    rw [this]
    cases j with
    | zero => rfl
    | succ k =>
      rw [prevE_get hj (by omega)]
      have := (List.pairwise_iff_getElem.1 h.dn.sorted) k (k + 1) (by omega) hj (by omega)
      simp; omega

theorem in_iff' (n a b : Int) : f64 n a b = true ↔ a ≤ n ∧ n ≤ b := by
  unfold f64
  rw [Bool.and_eq_true, decide_eq_true_eq, decide_eq_true_eq]
theorem DOk.mono {E E' m2 : Int} {d : DMapDisk} (h : DOk E m2 d) (hE : E ≤ E') : DOk E' m2 d := ⟨h.id, h.size, ⟨h.epoch.1, by have := h.epoch.2; omega⟩, h.fr, h.none, h.some⟩
theorem MOk.mono {E E' m0 m1 m2 : Int} {ds : List DMapDisk} {vs : List DMapView} {xs : List DMapDone} (h : MOk E m0 m1 m2 ds vs xs) (hE : E ≤ E') : MOk E' m0 m1 m2 ds vs xs :=
  ⟨h.s0, h.s1, h.s2, h.dl, h.ids, fun d hd => (h.dk d hd).mono hE, h.vl, fun v hv => by obtain ⟨g1, g2, g3⟩ := h.vw v hv; exact ⟨g1, by omega, g3⟩, h.dn, h.dc⟩
/-- Both come to the same map, and it is ok. -/
def Step (E n : Int) (o1 o2 : Option DMapState) : Prop := ∃ (m1 m2 : Int) (ds : List DMapDisk) (vs : List DMapView) (xs : List DMapDone), o1 = some (n, m1, m2, ds, vs, xs, ()) ∧ o2 = some (n, m1, m2, ds, vs, xs, ()) ∧ MOk E n m1 m2 ds vs xs
theorem or_swap (a b c d e f : Bool) : (((((a || c) || b) || d) || e) || f) = (((((a || b) || c) || d) || e) || f) := by cases a <;> cases b <;> cases c <;> rfl
theorem view_step {E m0 m1 m2 : Int} {ds : List DMapDisk} {vs : List DMapView} {xs : List DMapDone} (h : MOk E m0 m1 m2 ds vs xs) (hE : E ≤ 99999) (c0 c1 c2 c3 c4 c5 c6 c7 c8 c9 : Int) :
    Step (E + 1) m0 (G155 m0 m1 m2 ds vs xs c0 c1 c2 c3 c4 c5 c6 c7 c8 c9) (G122 m0 m1 m2 ds vs xs c0 c1 c2 c3 c4 c5 c6 c7 c8 c9) := by
  have hm := h.mono (show E ≤ E + 1 by omega)
  rw [G155_eq, G122_eq]
  unfold f103
  by_cases hr : 0 ≤ c6 ∧ c6 ≤ 2
  · rw [(in_iff _ _ _).2 hr, (in_iff' _ _ _).2 hr]
    simp only [Bool.not_true, br_false]
    obtain ⟨k, rfl⟩ := Int.eq_ofNat_of_zero_le hr.1
    have hvl := h.vl
    have hk : k < vs.length := by omega
    simp (disch := omega) only [chk_pos, toNat_coe]
    simp only [getD_get hk]
    obtain ⟨g1, g2, g3, g4, g5, g6, g7⟩ := h.vw _ (List.getElem_mem hk)
    rw [wrap64 (by omega) (by omega), show (c9 == c8) = (c8 == c9) from Bool.beq_comm, or_swap]
    by_cases hc : ((((((c7 != vs[k].1 + 1) || ((c8 != vs[k].2.1) && (c8 != vs[k].2.2.1))) || (decide (c8 < (0 : Int)))) || (decide (c9 ≥ m1))) || (c8 == c9)) || ((decide (c9 ≥ (0 : Int))) && (decide (vs[k].2.2.1 ≥ (0 : Int))))) = true
    · rw [hc]
      exact ⟨_, _, _, _, _, rfl, rfl, hm⟩
    · have hc : ((((((c7 != vs[k].1 + 1) || ((c8 != vs[k].2.1) && (c8 != vs[k].2.2.1))) || (decide (c8 < (0 : Int)))) || (decide (c9 ≥ m1))) || (c8 == c9)) || ((decide (c9 ≥ (0 : Int))) && (decide (vs[k].2.2.1 ≥ (0 : Int))))) = false := by simpa using hc
      rw [hc]
      simp only [Bool.or_eq_false_iff, bne_eq_false_iff_eq, Bool.and_eq_false_iff, decide_eq_false_iff_not, beq_eq_false_iff_ne] at hc
      obtain ⟨⟨⟨⟨⟨a1, a2⟩, a3⟩, a4⟩, a5⟩, a6⟩ := hc
      simp only [br_false]
      have key : ∀ b : Int, b = (if c9 ≥ 0 then c9 else -1) → MOk (E + 1) m0 m1 m2 ds (vs.set k (c7, c8, b, ())) xs := fun b hb => by
        refine ⟨hm.s0, hm.s1, hm.s2, hm.dl, hm.ids, hm.dk, by rw [List.length_set]; exact hvl, fun v hv => ?_, hm.dn, hm.dc⟩
        rcases List.mem_or_eq_of_mem_set hv with hv | rfl
        · exact hm.vw v hv
        · show 1 ≤ c7 ∧ c7 ≤ E + 1 ∧ 0 ≤ c8 ∧ c8 ≤ m1 - 1 ∧ -1 ≤ b ∧ b ≤ m1 - 1 ∧ c8 ≠ b
          have h1 := h.s1
          by_cases h9 : c9 ≥ 0
          · rw [if_pos h9] at hb; subst hb
            refine ⟨by omega, by omega, by omega, ?_, by omega, by omega, a5⟩
            rcases a2 with a2 | a2 <;> omega
          · rw [if_neg h9] at hb; subst hb
            refine ⟨by omega, by omega, by omega, ?_, by omega, by omega, by omega⟩
            rcases a2 with a2 | a2 <;> omega
      by_cases h9 : c9 ≥ 0
      · refine ⟨_, _, _, _, _, rfl, ?_, key _ ?_⟩
        · rw [if_pos (show c9 > -1 by omega), decide_eq_true h9]; rfl
        · rw [if_pos (show c9 > -1 by omega), if_pos h9]
      · refine ⟨_, _, _, _, _, rfl, ?_, key _ ?_⟩
        · rw [if_neg (show ¬ c9 > -1 by omega), decide_eq_false h9]; rfl
        · rw [if_neg (show ¬ c9 > -1 by omega), if_neg h9]
  · have e1 : f56 c6 0 2 = false := by rw [← Bool.not_eq_true, in_iff]; exact hr
    have e2 : f64 c6 0 2 = false := by rw [← Bool.not_eq_true, in_iff']; exact hr
    rw [e1, e2]
    exact ⟨_, _, _, _, _, rfl, rfl, hm⟩

theorem idxD_cases (id : Int) (ds : List DMapDisk) : idxD id ds = -1 ∨ ∃ k, k < ds.length ∧ idxD id ds = (k : Int) := by
  have key : ∀ (l : List DMapDisk) (j : Nat), seekL (fun d : DMapDisk => d.1 == id) (-1) (fun _ k => (k : Int)) l j = -1 ∨ ∃ i, i < l.length ∧ seekL (fun d : DMapDisk => d.1 == id) (-1) (fun _ k => (k : Int)) l j = ((j + i : Nat) : Int) := by
    intro l
    induction l with
    | nil => intro j; exact .inl rfl
    | cons d l ih =>
      intro j
      simp only [seekL]
      split
      · exact .inr ⟨0, by simp, by simp⟩
      · rcases ih (j + 1) with h | ⟨i, h1, h2⟩
        · exact .inl h
        · exact .inr ⟨i + 1, by simp; omega, by rw [h2]; congr 1; omega⟩
  rcases key ds 0 with h | ⟨i, h1, h2⟩
  · exact .inl h
  · exact .inr ⟨i, h1, by rw [Nat.zero_add] at h2; exact h2⟩
theorem tellL_mem {x : DMapDone} : ∀ (xs : List DMapDone) d, d ∈ tellL xs x → d = x ∨ d ∈ xs := by
  intro xs
  induction xs with
  | nil => intro d hd; simp [tellL] at hd; exact .inl hd
  | cons e l ih =>
    intro d hd
    simp only [tellL] at hd
    split at hd
    · rcases List.mem_cons.1 hd with rfl | hd
      · exact .inr List.mem_cons_self
      · rcases ih d hd with h | h
        · exact .inl h
        · exact .inr (List.mem_cons_of_mem _ h)
    · split at hd
      · rcases List.mem_cons.1 hd with rfl | hd
        · exact .inl rfl
        · exact .inr (List.mem_cons_of_mem _ hd)
      · rcases List.mem_cons.1 hd with rfl | hd
        · exact .inl rfl
        · exact .inr hd
theorem MOk.tell {E m0 m1 m2 : Int} {ds : List DMapDisk} {vs : List DMapView} {xs : List DMapDone} (h : MOk E m0 m1 m2 ds vs xs) {x0 x1 x2 x3 : Int} (hx : 0 ≤ x0 ∧ x0 ≤ 3) (h1 : 1 ≤ x1 ∧ x1 ≤ 99999) (h2 : 0 ≤ x2 ∧ x2 ≤ 6) (h3 : -1 ≤ x3 ∧ x3 ≤ 99999) :
    MOk E m0 m1 m2 ds vs (tellL xs (x0, x1, x2, x3, ())) :=
  ⟨h.s0, h.s1, h.s2, h.dl, h.ids, h.dk, h.vl, h.vw, tellL_ok h.dn hx h1.1, fun d hd => by
    rcases tellL_mem xs d hd with rfl | hd
    · exact ⟨h1.2, h2.1, h2.2, h3.1, h3.2⟩
    · exact h.dc d hd⟩
theorem tell_step {E m0 m1 m2 : Int} {ds : List DMapDisk} {vs : List DMapView} {xs : List DMapDone} (h : MOk E m0 m1 m2 ds vs xs) {x0 x1 x2 x3 : Int} (hx : 0 ≤ x0 ∧ x0 ≤ 3) (h1 : 1 ≤ x1 ∧ x1 ≤ 99999) (h2 : 0 ≤ x2 ∧ x2 ≤ 6) (h3 : -1 ≤ x3 ∧ x3 ≤ 99999) :
    Step E m0 ((G184 m0 m1 m2 ds vs xs x0 x1 x2 x3).bind fun (y : DMapState) => (some (y.1, y.2.1, y.2.2.1, y.2.2.2.1, y.2.2.2.2.1, y.2.2.2.2.2.1, ()))) ((G168 m0 m1 m2 ds vs xs x0 x1 x2 x3).bind fun (y : DMapState) => (some (y.1, y.2.1, y.2.2.1, y.2.2.2.1, y.2.2.2.2.1, y.2.2.2.2.2.1, ()))) := by
  rw [tell_impl _ _ _ _ _ h.dn, tell_spec _ _ _ _ _ h.dn _ _ _ _ hx h1.1]
  exact ⟨_, _, _, _, _, rfl, rfl, h.tell hx h1 h2 h3⟩
theorem judge_same {E m0 m1 m2 : Int} {ds : List DMapDisk} {vs : List DMapView} {xs : List DMapDone} (h : MOk E m0 m1 m2 ds vs xs) (hE : E ≤ 99999) (disk block epoch : Int) (w : Bool) :
    ∃ r, G105 ds disk block epoch w = some (r, ()) ∧ G36 m0 m1 m2 ds vs xs disk block epoch w = some (r, ()) ∧ 0 ≤ r ∧ r ≤ 3 := by
  have hdl := h.dl
  rw [G105_eq, G36_eq, disk_impl _ _ (by omega), G33_ok h.fit, h.mapB hE]
  simp only [Option.bind_some, Bool.not_true, br_false]
  rw [disk_spec _ _ _ _ _ _ _ (by omega)]
  simp only [Option.bind_some]
  rcases idxD_cases disk ds with e | ⟨k, hk, e⟩
  · rw [e]
    exact ⟨1, rfl, rfl, by omega, by omega⟩
  · rw [e]
    have hd := h.dk _ (List.getElem_mem hk)
    have g1 := hd.size
    have g2 := hd.epoch
    simp (disch := omega) only [br_neg, chk_pos, chk_or, toNat_coe]
    simp only [getD_get hk]
    rw [wrap64 (by omega) (by omega), wrap64 (by omega) (by omega)]
    have e1 : f64 block 0 (ds[k].2.1 - 1) = f56 block 0 (ds[k].2.1 - 1) := rfl
    have e2 : f64 epoch 1 (ds[k].2.2.1 - 1) = f56 epoch 1 (ds[k].2.2.1 - 1) := rfl
    rw [e1, e2]
    generalize (!(f56 block 0 (ds[k].2.1 - 1))) = b1
    generalize ((((!w) && (epoch != (0 : Int))) && (!(f56 epoch 1 (ds[k].2.2.1 - 1))))) = b2
    cases b1 with
    | true => exact ⟨2, rfl, rfl, by omega, by omega⟩
    | false => cases b2 with
      | true => exact ⟨3, rfl, rfl, by omega, by omega⟩
      | false => exact ⟨0, rfl, rfl, by omega, by omega⟩
theorem few (hi : Int) : ∀ (l : List DMapDisk) (lo : Int), lo - 1 ≤ hi → l.Pairwise (fun a b => a.1 < b.1) → (∀ d ∈ l, lo ≤ d.1 ∧ d.1 ≤ hi) → (l.length : Int) ≤ hi - lo + 1
  | [], lo, h, _, _ => by simp; omega
  | d :: l, lo, h, hs, hd => by
    obtain ⟨h1, h2⟩ := List.pairwise_cons.1 hs
    have hd0 := hd d List.mem_cons_self
    have := few hi l (d.1 + 1) (by omega) h2 fun e he => ⟨by have := h1 e he; omega, (hd e (List.mem_cons_of_mem _ he)).2⟩
    simp only [List.length_cons]; omega
theorem MOk.one {E m0 m1 m2 : Int} {ds : List DMapDisk} {vs : List DMapView} {xs : List DMapDone} (h : MOk E m0 m1 m2 ds vs xs) : 1 ≤ E := by
  have hk : 0 < vs.length := by rw [h.vl]; decide
  obtain ⟨g1, g2, _⟩ := h.vw _ (List.getElem_mem hk)
  omega
theorem MOk.create {E m0 m1 m2 : Int} {ds : List DMapDisk} {vs : List DMapView} {xs : List DMapDone} (h : MOk E m0 m1 m2 ds vs xs) {a : Int} (ha : 1 ≤ a ∧ a ≤ 8) (h4 : m2 ≤ 4) : MOk E m0 m1 (m2 + 1) (ds ++ [(m2, a, (1 : Int), (0 : Int), (0 : Int), (0 : Int), [], ())]) vs xs := by
  have h2 := h.s2
  have hlen := few (m2 - 1) ds 1 (by omega) h.ids fun d hd => (h.dk d hd).id
  refine ⟨h.s0, h.s1, ⟨by omega, by omega⟩, by simp; omega, ?_, fun d hd => ?_, h.vl, h.vw, h.dn, h.dc⟩
  · refine List.pairwise_append.2 ⟨h.ids, by simp, fun a ha b hb => ?_⟩
    simp at hb; subst hb
    have := (h.dk a ha).id
    show a.1 < m2
    omega
  · rcases List.mem_append.1 hd with hd | hd
    · have := h.dk d hd
      exact ⟨⟨this.id.1, by have := this.id.2; omega⟩, this.size, this.epoch, this.fr, this.none, this.some⟩
    · simp at hd; subst hd
      exact ⟨⟨by show 1 ≤ m2; omega, by show m2 ≤ m2 + 1 - 1; omega⟩, ha, ⟨by show (1 : Int) ≤ 1; omega, by show (1 : Int) ≤ E; exact h.one⟩, ⟨by show (0 : Int) ≤ 0; omega, by show (0 : Int) ≤ 2; omega⟩, fun _ => ⟨rfl, rfl, rfl⟩, fun e => absurd rfl e⟩
theorem MOk.setD {E m0 m1 m2 : Int} {ds : List DMapDisk} {vs : List DMapView} {xs : List DMapDone} (h : MOk E m0 m1 m2 ds vs xs) {k : Nat} (hk : k < ds.length) {d : DMapDisk} (hid : d.1 = ds[k].1) (hd : DOk E m2 d) : MOk E m0 m1 m2 (ds.set k d) vs xs := by
  refine ⟨h.s0, h.s1, h.s2, by rw [List.length_set]; exact h.dl, ?_, fun e he => ?_, h.vl, h.vw, h.dn, h.dc⟩
  · have hp := h.ids
    rw [List.pairwise_iff_getElem] at hp ⊢
    intro i j hi hj hij
    rw [List.length_set] at hi hj
    have := hp i j hi hj hij
    simp only [List.getElem_set]
    split
    · rename_i e
      split
      · omega
      · subst e; rw [hid]; exact this
    · split
      · rename_i e; subst e; rw [hid]; exact this
      · exact this
  · rcases List.mem_or_eq_of_mem_set he with he | rfl
    · exact h.dk e he
    · exact hd
theorem freeze_step {E m0 m1 m2 : Int} {ds : List DMapDisk} {vs : List DMapView} {xs : List DMapDone} (h : MOk E m0 m1 m2 ds vs xs) (c0 c1 c2 c3 c4 c5 c6 c7 c8 c9 why : Int) (hw : 1 ≤ why ∧ why ≤ 2) (h1 : 0 ≤ c1 ∧ c1 ≤ 3) (h2 : 1 ≤ c2 ∧ c2 ≤ 99999) {o : Option DMapState} :
    Step E m0 (if idxD c3 ds = -1 then ((G184 m0 m1 m2 ds vs xs c1 c2 (1 : Int) (0 : Int)).bind fun (y : DMapState) => (some (y.1, y.2.1, y.2.2.1, y.2.2.2.1, y.2.2.2.2.1, y.2.2.2.2.2.1, ()))) else
        if (ds.getD (idxD c3 ds).toNat ((0 : Int), (0 : Int), (0 : Int), (0 : Int), (0 : Int), (0 : Int), [], ())).2.2.2.1 ≠ 0 then ((G184 m0 m1 m2 ds vs xs c1 c2 (5 : Int) (0 : Int)).bind fun (y : DMapState) => (some (y.1, y.2.1, y.2.2.1, y.2.2.2.1, y.2.2.2.2.1, y.2.2.2.2.2.1, ()))) else
        let e := ds.getD (idxD c3 ds).toNat ((0 : Int), (0 : Int), (0 : Int), (0 : Int), (0 : Int), (0 : Int), [], ())
        some (m0, m1, m2, ds.set (idxD c3 ds).toNat (e.1, e.2.1, e.2.2.1, why, c1, c2, [], ()), vs, xs, ())) (G167 m0 m1 m2 ds vs xs c0 c1 c2 c3 c4 c5 c6 c7 c8 c9 why) := by
  have hdl := h.dl
  rw [G167_eq, disk_spec _ _ _ _ _ _ _ (by omega)]
  simp only [Option.bind_some]
  rcases idxD_cases c3 ds with e | ⟨k, hk, e⟩
  · rw [e, if_pos rfl]
    simp (disch := omega) only [br_pos]
    exact tell_step h h1 h2 (by omega) (by omega)
  · rw [e, if_neg (by omega)]
    simp (disch := omega) only [br_neg, chk_pos, toNat_coe]
    simp only [getD_get hk]
    by_cases hf : ds[k].2.2.2.1 = 0
    · rw [if_neg (by simpa using hf), show (ds[k].2.2.2.1 != 0) = false by simpa using hf]
      obtain ⟨a1, a2, a3⟩ := (h.dk _ (List.getElem_mem hk)).none hf
      simp only [br_false, List.length_set]
      simp (disch := omega) only [chk_pos]
      have hs : ∀ x : DMapDisk, (ds.set k x).getD k ((0 : Int), (0 : Int), (0 : Int), (0 : Int), (0 : Int), (0 : Int), [], ()) = x := fun x => by
        rw [getD_get (by simpa using hk), List.getElem_set_self]
      simp only [hs, List.set_set, a3]
      refine ⟨_, _, _, _, _, rfl, rfl, h.setD hk rfl ?_⟩
      have hd := h.dk _ (List.getElem_mem hk)
      refine ⟨hd.id, hd.size, hd.epoch, ⟨by show 0 ≤ why; omega, by show why ≤ 2; omega⟩, fun e => ?_, fun _ => ⟨h1.1, h1.2, h2.1, h2.2, by show (0 : Nat) < 3; omega, by rfl⟩⟩
      have e : why = 0 := e
      omega
    · rw [if_pos hf, show (ds[k].2.2.2.1 != 0) = true by simpa using hf]
      simp only [br_true]
      exact tell_step h h1 h2 (by omega) (by omega)
theorem step_same {E n m1 m2 : Int} {ds : List DMapDisk} {vs : List DMapView} {xs : List DMapDone} (h : MOk E n m1 m2 ds vs xs) : Step E n (some (n, m1, m2, ds, vs, xs, ())) (some (n, m1, m2, ds, vs, xs, ())) := ⟨_, _, _, _, _, rfl, rfl, h⟩
theorem chk_sel {ρ : Type} {p : Prop} [Decidable p] {b : Bool} {a : Option ρ} (h : b = true → p) : chk (decide p || !b) a = a := by
  cases b with
  | true => rw [decide_eq_true (h rfl)]; rfl
  | false => rw [Bool.not_false, Bool.or_true]; rfl
theorem call_step {E m0 m1 m2 : Int} {ds : List DMapDisk} {vs : List DMapView} {xs : List DMapDone} (h : MOk E m0 m1 m2 ds vs xs) (hE : E ≤ 99999) (c0 c1 c2 c3 c4 c5 c6 c7 c8 c9 : Int) (hc2 : c2 ≤ 99999) :
    Step E m0 (G157 m0 m1 m2 ds vs xs c0 c1 c2 c3 c4 c5 c6 c7 c8 c9) (G124 m0 m1 m2 ds vs xs c0 c1 c2 c3 c4 c5 c6 c7 c8 c9) := by
  have hdl := h.dl; have hxl := h.dn.len; have hs1 := h.s1; have hs2 := h.s2; have hvl := h.vl
  rw [G157_eq, G124_eq, past_impl _ _ _ _ _ _ _ _ (by omega) (by omega), past_spec _ _ _ _ _ _ _ _ (by omega) (by omega), disk_impl _ _ (by omega)]
  simp only [chk_isSome, Option.getD_some, Option.bind_some]
  have e0 : f143 c1 = f56 c1 0 3 := rfl
  have e1 : f103 c6 = f56 c6 0 2 := rfl
  have e2 : f64 c4 1 8 = f56 c4 1 8 := rfl
  simp only [e0, e1, e2]
  by_cases hg : (((!(f56 c1 (0 : Int) (3 : Int))) || (decide (c2 < (1 : Int)))) || pastD c1 c2 ds xs) = true
  · rw [hg]; exact step_same h
  · have hg : (((!(f56 c1 (0 : Int) (3 : Int))) || (decide (c2 < (1 : Int)))) || pastD c1 c2 ds xs) = false := by simpa using hg
    rw [hg]
    simp only [Bool.or_eq_false_iff, Bool.not_eq_false', in_iff, decide_eq_false_iff_not] at hg
    obtain ⟨⟨g1, g2⟩, _⟩ := hg
    have g2 : 1 ≤ c2 ∧ c2 ≤ 99999 := ⟨by omega, hc2⟩
    simp only [br_false]
    by_cases k1 : c0 = 1
    · -- create
      subst k1
      simp only [beq_self_eq_true, br_true]
      rw [G166_eq]
      by_cases hb : ((!(f56 c4 (1 : Int) (8 : Int))) || (decide (m2 > (4 : Int)))) = true
      · rw [hb]
        simp only [br_true]
        obtain ⟨n1, n2, n3, n4, n5, r1, r2, r3⟩ := tell_step h g1 g2 (x2 := 4) (x3 := 0) (by omega) (by omega)
        exact ⟨n1, n2, n3, n4, n5, r1, by rw [r2]; rfl, r3⟩
      · have hb : ((!(f56 c4 (1 : Int) (8 : Int))) || (decide (m2 > (4 : Int)))) = false := by simpa using hb
        rw [hb]
        simp only [Bool.or_eq_false_iff, Bool.not_eq_false', in_iff, decide_eq_false_iff_not] at hb
        simp only [br_false, capOk]
        simp (disch := omega) only [chk_pos, wrap64]
        obtain ⟨n1, n2, n3, n4, n5, r1, r2, r3⟩ := tell_step (h.create hb.1 (by omega)) g1 g2 (x2 := 0) (x3 := m2) (by omega) (by omega)
        refine ⟨n1, n2, n3, n4, n5, r1, ?_, r3⟩
        rw [show m2 + 1 - 1 = m2 by omega, r2]; rfl
    · rw [show (c0 == 1) = false by simpa using k1]
      simp only [br_false]
      have fz : ∀ (why : Int), 1 ≤ why ∧ why ≤ 2 → Step E m0 (br (decide (idxD c3 ds < (0 : Int))) ((G184 m0 m1 m2 ds vs xs c1 c2 (1 : Int) (0 : Int)).bind fun (y : DMapState) => (some (y.1, y.2.1, y.2.2.1, y.2.2.2.1, y.2.2.2.2.1, y.2.2.2.2.2.1, ())))
          (chk (decide (0 ≤ idxD c3 ds ∧ idxD c3 ds < ((ds.length : Nat) : Int))) (let e4 : DMapDisk := (ds.getD (idxD c3 ds).toNat ((0 : Int), (0 : Int), (0 : Int), (0 : Int), (0 : Int), (0 : Int), [], ())); (br (e4.2.2.2.1 != (0 : Int)) ((G184 m0 m1 m2 ds vs xs c1 c2 (5 : Int) (0 : Int)).bind fun (y : DMapState) => (some (y.1, y.2.1, y.2.2.1, y.2.2.2.1, y.2.2.2.2.1, y.2.2.2.2.2.1, ())))
            (chk (decide (0 ≤ idxD c3 ds ∧ idxD c3 ds < ((ds.length : Nat) : Int))) (let e5 : DMapDisk := (ds.getD (idxD c3 ds).toNat ((0 : Int), (0 : Int), (0 : Int), (0 : Int), (0 : Int), (0 : Int), [], ())); (chk (decide (0 ≤ idxD c3 ds ∧ idxD c3 ds < ((ds.length : Nat) : Int))) (some (m0, m1, m2, (ds.set (idxD c3 ds).toNat (e5.1, e5.2.1, e5.2.2.1, why, c1, c2, [], ())), vs, xs, ()))))))))) 
          ((G167 m0 m1 m2 ds vs xs c0 c1 c2 c3 c4 c5 c6 c7 c8 c9 why).bind fun (y2 : DMapState) => (some (y2.1, y2.2.1, y2.2.2.1, y2.2.2.2.1, y2.2.2.2.2.1, y2.2.2.2.2.2.1, ()))) := fun why hw => by
        have F := freeze_step h c0 c1 c2 c3 c4 c5 c6 c7 c8 c9 why hw g1 g2 (o := none)
        rcases idxD_cases c3 ds with e | ⟨k, hk, e⟩
        · rw [e] at F ⊢
          rw [if_pos rfl] at F
          simp (disch := omega) only [br_pos]
          obtain ⟨n1, n2, n3, n4, n5, r1, r2, r3⟩ := F
          exact ⟨n1, n2, n3, n4, n5, r1, by rw [r2]; rfl, r3⟩
        · rw [e] at F ⊢
          rw [if_neg (by omega)] at F
          simp only [toNat_coe, getD_get hk] at F
          simp (disch := omega) only [br_neg, chk_pos, toNat_coe]
          simp only [getD_get hk]
          by_cases hf : ds[k].2.2.2.1 = 0
          · rw [if_neg (by simpa using hf)] at F
            rw [show (ds[k].2.2.2.1 != 0) = false by simpa using hf]
            simp only [br_false]
            obtain ⟨n1, n2, n3, n4, n5, r1, r2, r3⟩ := F
            exact ⟨n1, n2, n3, n4, n5, r1, by rw [r2]; rfl, r3⟩
          · rw [if_pos hf] at F
            rw [show (ds[k].2.2.2.1 != 0) = true by simpa using hf]
            simp only [br_true]
            obtain ⟨n1, n2, n3, n4, n5, r1, r2, r3⟩ := F
            exact ⟨n1, n2, n3, n4, n5, r1, by rw [r2]; rfl, r3⟩
      by_cases k2 : c0 = 2
      · subst k2
        simp only [beq_self_eq_true, br_true, show ((2 : Int) == 3) = false from rfl, br_false]
        exact fz 1 (by omega)
      · rw [show (c0 == 2) = false by simpa using k2]
        simp only [br_false]
        by_cases k3 : c0 = 3
        · subst k3
          simp only [beq_self_eq_true, br_true]
          exact fz 2 (by omega)
        · rw [show (c0 == 3) = false by simpa using k3]
          simp only [br_false]
          by_cases k4 : c0 = 4
          · subst k4
            simp only [beq_self_eq_true, br_true]
            by_cases h5 : m1 = 5
            · rw [show (m1 == 5) = true by simpa using h5]
              simp (disch := omega) only [br_true, br_pos]
              exact tell_step h g1 g2 (by omega) (by omega)
            · rw [show (m1 == 5) = false by simpa using h5]
              simp (disch := omega) only [br_false, br_neg, wrap64]
              refine tell_step (m1 := m1 + 1) ⟨h.s0, ⟨by omega, by omega⟩, h.s2, h.dl, h.ids, h.dk, h.vl, fun v hv => ?_, h.dn, h.dc⟩ g1 g2 (by omega) (by omega)
              obtain ⟨a1, a2, a3, a4, a5, a6, a7⟩ := h.vw v hv
              exact ⟨a1, a2, a3, by omega, a5, by omega, a7⟩
          · rw [show (c0 == 4) = false by simpa using k4]
            simp only [br_false, Bool.not_not]
            rw [chk_sel fun hb => by
              rw [Bool.and_eq_true, in_iff] at hb
              omega]
            rw [chk_sel fun hb => by
              rw [Bool.and_eq_true, in_iff] at hb
              omega]
            generalize ((c8 == (1 : Int)) && ((!(f56 c6 (0 : Int) (2 : Int))) || ((vs.getD c6.toNat ((0 : Int), (0 : Int), (0 : Int), ())).1 != c7))) = b
            cases b with
            | true => exact step_same h
            | false =>
              simp only [br_false]
              obtain ⟨r, j1, j2, j3, j4⟩ := judge_same h hE c3 c4 c5 (c8 == 1)
              rw [j1, j2]
              simp only [Option.bind_some]
              by_cases hr : r = 0
              · subst hr
                simp only [beq_self_eq_true, br_true]
                exact tell_step h g1 g2 (by omega) (by omega)
              · rw [show (r == 0) = false by simpa using hr]
                simp only [br_false]
                exact tell_step h g1 g2 (by omega) (by omega)
theorem hasN_has (n : Int) (l : List (Int × Unit)) (hl : l.length < 9223372036854775807) : hasN n l = has l n := by
  have h1 := has_impl n l hl
  rw [G182_has l n hl] at h1
  simp only [Option.some.injEq, Prod.mk.injEq, and_true] at h1
  exact h1.symm
theorem memOk_append {l : List (Int × Unit)} {n : Int} (h : memOk l = true) (hn : 0 ≤ n ∧ n ≤ 2) (hh : has l n = false) : memOk (l ++ [(n, ())]) = true := by
  unfold memOk at *
  rw [allF_iff] at *
  intro j h1 h2
  simp only [List.length_append, List.length_cons, List.length_nil] at h2
  by_cases hj : j < l.length
  · have := h j h1 (by omega)
    rw [getD_get hj] at this
    rw [getD_get (by simp; omega), List.getElem_append_left hj, List.take_append_of_le_length (by omega)]
    exact this
  · have hj : j = l.length := by omega
    subst hj
    rw [getD_get (by simp), List.getElem_append_right (Nat.le_refl _), List.take_append_of_le_length (Nat.le_refl _)]
    simp only [Nat.sub_self, List.getElem_cons_zero, List.take_length, List.drop_zero, Bool.and_eq_true, in_iff]
    exact ⟨hn, by rw [hh]; rfl⟩
theorem MOk.erase {E m0 m1 m2 : Int} {ds : List DMapDisk} {vs : List DMapView} {xs : List DMapDone} (h : MOk E m0 m1 m2 ds vs xs) (k : Nat) : MOk E m0 m1 m2 (ds.take k ++ ds.drop (k + 1)) vs xs := by
  rw [← List.eraseIdx_eq_take_drop_succ]
  have hs := List.eraseIdx_sublist ds k
  exact ⟨h.s0, h.s1, h.s2, Nat.le_trans hs.length_le h.dl, h.ids.sublist hs, fun d hd => h.dk d (hs.subset hd), h.vl, h.vw, h.dn, h.dc⟩
theorem done_step {E m0 m1 m2 : Int} {ds : List DMapDisk} {vs : List DMapView} {xs : List DMapDone} (h : MOk E m0 m1 m2 ds vs xs) {x0 x1 x3 : Int} (hx : 0 ≤ x0 ∧ x0 ≤ 3) (h1 : 1 ≤ x1 ∧ x1 ≤ 99999) (h3 : -1 ≤ x3 ∧ x3 ≤ 99999) :
    Step E m0 ((G183 m0 m1 m2 ds vs xs x0).bind fun (y6 : DMapDone) => (br (decide (y6.2.1 > x1)) (some (m0, m1, m2, ds, vs, xs, ())) ((G184 m0 m1 m2 ds vs xs x0 x1 (0 : Int) x3).bind fun (y : DMapState) => (some (y.1, y.2.1, y.2.2.1, y.2.2.2.1, y.2.2.2.2.1, y.2.2.2.2.2.1, ())))))
      ((G188 m0 m1 m2 ds vs xs x0).bind fun (y6 : DMapDone) => (br (decide (y6.2.1 > x1)) (some (m0, m1, m2, ds, vs, xs, ())) ((G168 m0 m1 m2 ds vs xs x0 x1 (0 : Int) x3).bind fun (y : DMapState) => (some (y.1, y.2.1, y.2.2.1, y.2.2.2.1, y.2.2.2.2.1, y.2.2.2.2.2.1, ()))))) := by
  have hxl := h.dn.len
  rw [last_impl _ _ _ _ _ _ _ (by omega), last_spec _ _ _ _ _ _ _ (by omega)]
  simp only [Option.bind_some]
  generalize decide ((lastD x0 xs).2.1 > x1) = b
  cases b with
  | true => exact step_same h
  | false => simp only [br_false]; exact tell_step h hx h1 (by omega) h3
theorem ack_step {E m0 m1 m2 : Int} {ds : List DMapDisk} {vs : List DMapView} {xs : List DMapDone} (h : MOk E m0 m1 m2 ds vs xs) (hE : E ≤ 99999) (c0 c1 c2 c3 c4 c5 c6 c7 c8 c9 : Int) :
    Step (E + 1) m0 (G156 m0 m1 m2 ds vs xs c0 c1 c2 c3 c4 c5 c6 c7 c8 c9) (G123 m0 m1 m2 ds vs xs c0 c1 c2 c3 c4 c5 c6 c7 c8 c9) := by
  have hm := h.mono (show E ≤ E + 1 by omega)
  have hdl := h.dl; have hvl := h.vl
  rw [G156_eq, G123_eq, disk_impl _ _ (by omega), disk_spec _ _ _ _ _ _ _ (by omega)]
  simp only [Option.bind_some]
  have e1 : f103 c6 = f56 c6 0 2 := rfl
  rw [e1]
  rcases idxD_cases c3 ds with e | ⟨k, hk, e⟩
  · rw [e]
    simp only [show decide ((-1 : Int) < 0) = true from rfl, Bool.true_or, Bool.not_true, Bool.not_false, Bool.or_true, chk_true, br_true]
    exact step_same hm
  · rw [e]
    have hk0 : decide (((k : Nat) : Int) < 0) = false := decide_eq_false (by omega)
    simp only [hk0, Bool.false_or]
    by_cases hr : 0 ≤ c6 ∧ c6 ≤ 2
    · rw [(in_iff _ _ _).2 hr]
      obtain ⟨j, rfl⟩ := Int.eq_ofNat_of_zero_le hr.1
      have hj : j < vs.length := by omega
      have hd := h.dk _ (List.getElem_mem hk)
      have hacks := hd.acks
      have hgD : ds.getD ((k : Nat) : Int).toNat ((0 : Int), (0 : Int), (0 : Int), (0 : Int), (0 : Int), (0 : Int), [], ()) = ds[k] := getD_get hk
      have hgV : vs.getD ((j : Nat) : Int).toNat ((0 : Int), (0 : Int), (0 : Int), ()) = vs[j] := getD_get hj
      simp only [hgD, hgV]
      simp only [Bool.not_true, br_false, Bool.false_or]
      rw [has_impl _ _ (by omega), has_spec _ _ (by omega)]
      simp (disch := omega) only [chk_pos, chk_or, chk_isSome, Option.getD_some]
      have hperm : ((((vs[j].1 != c7) || (ds[k].2.2.2.1 == (0 : Int))) || (ds[k].2.2.1 != c5)) || hasN ((j : Nat) : Int) ds[k].2.2.2.2.2.2.1) = ((((ds[k].2.2.2.1 == (0 : Int)) || (ds[k].2.2.1 != c5)) || (vs[j].1 != c7)) || hasN ((j : Nat) : Int) ds[k].2.2.2.2.2.2.1) := by
        cases (vs[j].1 != c7) <;> cases (ds[k].2.2.2.1 == (0 : Int)) <;> cases (ds[k].2.2.1 != c5) <;> rfl
      rw [hperm]
      by_cases hc : ((((ds[k].2.2.2.1 == (0 : Int)) || (ds[k].2.2.1 != c5)) || (vs[j].1 != c7)) || hasN ((j : Nat) : Int) ds[k].2.2.2.2.2.2.1) = true
      · rw [hc]; exact step_same hm
      · have hc : ((((ds[k].2.2.2.1 == (0 : Int)) || (ds[k].2.2.1 != c5)) || (vs[j].1 != c7)) || hasN ((j : Nat) : Int) ds[k].2.2.2.2.2.2.1) = false := by simpa using hc
        rw [hc]
        simp only [Bool.or_eq_false_iff, beq_eq_false_iff_ne] at hc
        obtain ⟨⟨⟨f1, f2⟩, f3⟩, f4⟩ := hc
        rw [hasN_has _ _ (by omega)] at f4
        obtain ⟨q1, q2, q3, q4, q5, q6⟩ := hd.some f1
        have hep := hd.epoch
        have hfr := hd.fr
        simp only [br_false, capOk, List.length_set]
        simp (disch := omega) only [chk_pos]
        have hgS : ∀ x : DMapDisk, (ds.set ((k : Nat) : Int).toNat x).getD ((k : Nat) : Int).toNat ((0 : Int), (0 : Int), (0 : Int), (0 : Int), (0 : Int), (0 : Int), [], ()) = x := fun x => by
          show (ds.set k x).getD k _ = x
          rw [getD_get (by simpa using hk), List.getElem_set_self]
        simp only [hgS]
        have hlen : (((ds[k].2.2.2.2.2.2.1 ++ [(((j : Nat) : Int), ())]).length : Nat) : Int) = ((ds[k].2.2.2.2.2.2.1.length : Nat) : Int) + 1 := by simp
        rw [hlen]
        by_cases h3 : ds[k].2.2.2.2.2.2.1.length < 2
        · simp (disch := omega) only [br_pos]
          rw [show ((((ds[k].2.2.2.2.2.2.1.length : Nat) : Int) + 1) == 3) = false by simp; omega]
          simp only [br_false, decide_true, chk_true]
          refine ⟨_, _, _, _, _, rfl, rfl, hm.setD hk rfl ?_⟩
          have hd' := hm.dk _ (List.getElem_mem hk)
          refine ⟨hd'.id, hd'.size, hd'.epoch, hd'.fr, fun e => absurd e f1, fun _ => ⟨q1, q2, q3, q4, ?_, memOk_append q6 hr f4⟩⟩
          show (ds[k].2.2.2.2.2.2.1 ++ [(((j : Nat) : Int), ())]).length < 3
          simp; omega
        · simp (disch := omega) only [br_neg]
          rw [show ((((ds[k].2.2.2.2.2.2.1.length : Nat) : Int) + 1) == 3) = true by simp; omega]
          simp only [br_true]
          rw [G164_eq]
          simp only [List.length_set, hgS, List.set_set]
          simp (disch := omega) only [chk_pos]
          by_cases hs : ds[k].2.2.2.1 = 1
          · rw [show (ds[k].2.2.2.1 == 1) = true by simpa using hs]
            simp only [br_true, decide_true, chk_true]
            simp (disch := omega) only [wrap64]
            have hnew : MOk (E + 1) m0 m1 m2 (ds.set k (ds[k].1, ds[k].2.1, ds[k].2.2.1 + 1, (0 : Int), (0 : Int), (0 : Int), [], ())) vs xs := by
              refine hm.setD hk rfl ?_
              have hd' := hm.dk _ (List.getElem_mem hk)
              exact ⟨hd'.id, hd'.size, ⟨by show 1 ≤ ds[k].2.2.1 + 1; omega, by show ds[k].2.2.1 + 1 ≤ E + 1; omega⟩, ⟨by show (0 : Int) ≤ 0; omega, by show (0 : Int) ≤ 2; omega⟩, fun _ => ⟨rfl, rfl, rfl⟩, fun e => absurd rfl e⟩
            obtain ⟨n1, n2, n3, n4, n5, r1, r2, r3⟩ := done_step hnew ⟨q1, q2⟩ ⟨q3, q4⟩ (x3 := ds[k].2.2.1) ⟨by omega, by omega⟩
            refine ⟨n1, n2, n3, n4, n5, r1, ?_, r3⟩
            have r2' := congrArg (fun o : Option DMapState => o.bind fun (y : DMapState) => (some (y.1, y.2.1, y.2.2.1, y.2.2.2.1, y.2.2.2.2.1, y.2.2.2.2.2.1, ()))) r2
            exact r2'
          · rw [show (ds[k].2.2.2.1 == 1) = false by simpa using hs]
            simp only [br_false]
            have hw : IntKind.i64.wrap (((k : Nat) : Int) + 1) = ((k + 1 : Nat) : Int) := wrapS (by omega)
            simp only [hw]
            simp (disch := omega) only [chk_pos, decide_true, chk_true]
            have t1 : ∀ x : DMapDisk, (ds.set k x).take k = ds.take k := fun x => by
              rw [List.take_set]; exact List.set_eq_of_length_le (by simp; omega)
            have t2 : ∀ x : DMapDisk, ((ds.set k x).take ds.length).drop (k + 1) = ds.drop (k + 1) := fun x => by
              rw [List.take_of_length_le (by simp), List.drop_set_of_lt (by omega)]
            simp only [toNat_coe, List.take_length, List.drop_zero, t1, t2, capOk]
            have hl1 : (ds.take k).length ≤ 4 := by rw [List.length_take]; omega
            have hl2 : (ds.drop (k + 1)).length ≤ 4 := by rw [List.length_drop]; omega
            simp (disch := omega) only [chk_pos]
            obtain ⟨n1, n2, n3, n4, n5, r1, r2, r3⟩ := done_step (hm.erase k) ⟨q1, q2⟩ ⟨q3, q4⟩ (x3 := 0) ⟨by omega, by omega⟩
            refine ⟨n1, n2, n3, n4, n5, r1, ?_, r3⟩
            have r2' := congrArg (fun o : Option DMapState => o.bind fun (y : DMapState) => (some (y.1, y.2.1, y.2.2.1, y.2.2.2.1, y.2.2.2.2.1, y.2.2.2.2.2.1, ()))) r2
            exact r2'
    · have e2 : f56 c6 0 2 = false := by rw [← Bool.not_eq_true, in_iff]; exact hr
      rw [e2]
      simp only [Bool.true_or, Bool.or_true, Bool.not_true, Bool.not_false, chk_true, br_true]
      exact step_same hm
theorem nums_ok (l : List (Int × Unit)) (hl : l.length < 9223372036854775807) : G84 l = some (l.all (fun d => f72 d.1), ()) := by
  rw [G84_eq]
  have h : lg84_0 l ((l.length : Nat) : Int) (0 : Int) = _ := seek (f := fun k => lg84_0 l ((l.length : Nat) : Int) (k : Int)) (a := l) (p := fun d => !(f64 d.1 (-1 : Int) (99999 : Int))) (x := some (.inl (()))) (y := fun _ _ => some (.inr (.inl (false, ())))) ?_ ?_
  · rw [h, seekL_map (fun o => Option.bind o _)]
    have key : ∀ (l : List (Int × Unit)) (k : Nat), seekL (fun d : Int × Unit => !(f64 d.1 (-1 : Int) (99999 : Int))) (some (true, ())) (fun _ _ => some (false, ())) l k = some (l.all (fun d => f72 d.1), ()) := by
      intro l
      induction l with
      | nil => intro k; rfl
      | cons d l ih =>
        intro k
        simp only [seekL, List.all_cons]
        rw [ih (k + 1)]
        have : f72 d.1 = f64 d.1 (-1 : Int) (99999 : Int) := rfl
        rw [this]
        cases f64 d.1 (-1 : Int) (99999 : Int) <;> rfl
    exact key l 0
  · show lg84_0 _ _ _ = _
    rw [lg84_0_eq]
    simp (disch := omega) only [br_neg]
  · intro k hk
    show lg84_0 _ _ _ = if _ then _ else lg84_0 _ _ _
    rw [lg84_0_eq]
    simp (disch := omega) only [br_pos, chk_pos, wrapS, toNat_coe]
    simp only [getD_get hk]
    unfold br
    cases (!(f64 l[k].1 (-1 : Int) (99999 : Int))) <;> rfl
theorem num_iff (n : Int) : f72 n = true ↔ -1 ≤ n ∧ n ≤ 99999 := by unfold f72; exact in_iff _ _ _
theorem cmd_ok (c0 c1 c2 c3 c4 c5 c6 c7 c8 c9 : Int) : G81 c0 c1 c2 c3 c4 c5 c6 c7 c8 c9 = some (f74 c0 c1 c2 c3 c4 c5 c6 c7 c8 c9, ()) := by
  rw [G81_eq, G139_eq]
  simp only [chk_isSome, Option.getD_some]
  rw [nums_ok _ (by simp)]
  simp only [chk_isSome, Option.getD_some, List.all_cons, List.all_nil, Bool.and_true]
  congr 2
  have e : f64 c0 0 7 = f56 c0 0 7 := rfl
  unfold f74
  rw [e]
  by_cases h : f56 c0 0 7 = true
  · have h' := (in_iff _ _ _).1 h
    rw [h, (num_iff c0).2 (by omega)]
    simp only [Bool.true_and, Bool.and_assoc]
  · have h : f56 c0 0 7 = false := by simpa using h
    rw [h]; simp only [Bool.false_and]
theorem cmd_call {c0 c1 c2 c3 c4 c5 c6 c7 c8 c9 : Int} (h : f74 c0 c1 c2 c3 c4 c5 c6 c7 c8 c9 = true) : c2 ≤ 99999 := by
  unfold f74 at h
  simp only [Bool.and_eq_true, num_iff] at h
  exact h.1.1.1.1.1.1.1.2.2
theorem copied_step {E n : Int} {o1 o2 : Option DMapState} (h : Step E n o1 o2) :
    Step E n (o1.bind fun (y : DMapState) => ((G154 y.1 y.2.1 y.2.2.1 y.2.2.2.1 y.2.2.2.2.1 y.2.2.2.2.2.1).bind fun (z : DMapState) => (some (z.1, z.2.1, z.2.2.1, z.2.2.2.1, z.2.2.2.2.1, z.2.2.2.2.2.1, ()))))
      (o2.bind fun (y : DMapState) => ((G121 y.1 y.2.1 y.2.2.1 y.2.2.2.1 y.2.2.2.2.1 y.2.2.2.2.2.1).bind fun (z : DMapState) => (some (z.1, z.2.1, z.2.2.1, z.2.2.2.1, z.2.2.2.2.1, z.2.2.2.2.2.1, ())))) := by
  obtain ⟨m1, m2, ds, vs, xs, rfl, rfl, h⟩ := h
  simp only [Option.bind_some]
  rw [copyM h.fit, copyS _ _ _ _ _ _ h.small]
  exact ⟨_, _, _, _, _, rfl, rfl, h⟩
theorem do_step {E m0 m1 m2 : Int} {ds : List DMapDisk} {vs : List DMapView} {xs : List DMapDone} (h : MOk E m0 m1 m2 ds vs xs) (hE : E ≤ 99999) (hs : m0 < 60) (c0 c1 c2 c3 c4 c5 c6 c7 c8 c9 : Int) :
    Step (E + 1) (m0 + 1) (G108 m0 m1 m2 ds vs xs c0 c1 c2 c3 c4 c5 c6 c7 c8 c9) (G48 m0 m1 m2 ds vs xs c0 c1 c2 c3 c4 c5 c6 c7 c8 c9) := by
  have h0 := h.s0
  have h' : MOk E (m0 + 1) m1 m2 ds vs xs := ⟨⟨by omega, by omega⟩, h.s1, h.s2, h.dl, h.ids, h.dk, h.vl, h.vw, h.dn, h.dc⟩
  have hm := h'.mono (show E ≤ E + 1 by omega)
  rw [G108_eq, G48_eq, copyM h.fit, cmd_ok, G33_ok h.fit, h.mapB hE, copyS _ _ _ _ _ _ h.small]
  simp only [Option.bind_some, Bool.not_true, Bool.false_or]
  simp (disch := omega) only [br_neg, wrap64]
  by_cases hc : f74 c0 c1 c2 c3 c4 c5 c6 c7 c8 c9 = true
  · rw [hc]
    simp only [Bool.not_true, Bool.false_or, br_false]
    by_cases k0 : c0 = 0
    · subst k0
      simp only [beq_self_eq_true, br_true, show ((0 : Int) == 5) = false from rfl, show ((0 : Int) == 6) = false from rfl, show ((0 : Int) != 0) = false from rfl, br_false]
      rw [copyM h'.fit, copyS _ _ _ _ _ _ h'.small]
      exact step_same hm
    · rw [show (c0 == 0) = false by simpa using k0, show (c0 != 0) = true by simpa using k0]
      simp only [br_false, br_true]
      by_cases k5 : c0 = 5
      · rw [show (c0 == 5) = true by simpa using k5]
        simp only [br_true]
        exact copied_step (view_step h' hE c0 c1 c2 c3 c4 c5 c6 c7 c8 c9)
      · rw [show (c0 == 5) = false by simpa using k5]
        simp only [br_false]
        by_cases k6 : c0 = 6
        · rw [show (c0 == 6) = true by simpa using k6]
          simp only [br_true]
          exact copied_step (ack_step h' hE c0 c1 c2 c3 c4 c5 c6 c7 c8 c9)
        · rw [show (c0 == 6) = false by simpa using k6]
          simp only [br_false]
          obtain ⟨n1, n2, n3, n4, n5, r1, r2, r3⟩ := call_step h' hE c0 c1 c2 c3 c4 c5 c6 c7 c8 c9 (cmd_call hc)
          exact copied_step ⟨n1, n2, n3, n4, n5, r1, r2, r3.mono (by omega)⟩
  · have hc : f74 c0 c1 c2 c3 c4 c5 c6 c7 c8 c9 = false := by simpa using hc
    rw [hc]
    simp only [Bool.not_false, Bool.true_or, br_true]
    rw [copyM h'.fit]
    exact step_same hm
/-- A reader: few bytes, few numbers drawn. -/
structure Rd (b : List (Int × Unit)) (p P : Int) : Prop where
  len : b.length ≤ 2000
  byte : ∀ i, 0 ≤ (b.getD i ((0 : Int), ())).1 ∧ (b.getD i ((0 : Int), ())).1 ≤ 255
  pos : 0 ≤ p
  few : p ≤ P
theorem Rd.mono {b : List (Int × Unit)} {p P Q : Int} (h : Rd b p P) (hq : P ≤ Q) : Rd b p Q := ⟨h.len, h.byte, h.pos, by have := h.few; omega⟩
def vs0 : List DMapView := [((1 : Int), (0 : Int), (1 : Int), ()), ((1 : Int), (1 : Int), (2 : Int), ()), ((1 : Int), (2 : Int), (0 : Int), ())]
theorem start_ok : MOk 1 0 3 1 [] vs0 [] := by
  refine ⟨by omega, by omega, by omega, by decide, .nil, fun d h => by simp at h, rfl, fun v hv => ?_, ⟨.nil, fun d h => by simp at h, fun d h => by simp at h⟩, fun d h => by simp at h⟩
  simp only [vs0, List.mem_cons, List.not_mem_nil, or_false] at hv
  rcases hv with rfl | rfl | rfl <;> decide
theorem start_loop : lg106_0 (0 : Int) (0 : Int) (0 : Int) (0 : Int) (0 : Int) (3 : Int) (1 : Int) [] = some (.inl ((0 : Int), (0 : Int), (0 : Int), (0 : Int), (3 : Int), (1 : Int), vs0, ())) := by
  rw [lg106_0_eq, br_pos (by decide), show IntKind.i64.wrap ((0 : Int) + 1) = 1 from by decide]
  rw [show (!((3 : Int) == 0)) = true from rfl, chk_true, chk_true, capOk, chk_pos (by decide)]
  rw [lg106_0_eq, br_pos (by decide), show IntKind.i64.wrap ((1 : Int) + 1) = 2 from by decide]
  rw [show (!((3 : Int) == 0)) = true from rfl, chk_true, chk_true, capOk, chk_pos (by decide)]
  rw [lg106_0_eq, br_pos (by decide), show IntKind.i64.wrap ((2 : Int) + 1) = 3 from by decide]
  rw [show (!((3 : Int) == 0)) = true from rfl, chk_true, chk_true, capOk, chk_pos (by decide)]
  rw [lg106_0_eq, br_neg (by decide)]
  rfl
theorem start_spec : G106 = some ((0 : Int), (3 : Int), (1 : Int), [], vs0, [], ()) := by
  rw [G106_eq, start_loop]; rfl
theorem start_loop' : lg107_0 (0 : Int) (0 : Int) (0 : Int) (0 : Int) (0 : Int) (3 : Int) (1 : Int) [] = some (.inl ((0 : Int), (0 : Int), (0 : Int), (0 : Int), (3 : Int), (1 : Int), vs0, ())) := by
  rw [lg107_0_eq, br_pos (by decide), show IntKind.i64.wrap ((0 : Int) + 1) = 1 from by decide]
  rw [show (!((3 : Int) == 0)) = true from rfl, chk_true, chk_true, capOk, chk_pos (by decide)]
  rw [lg107_0_eq, br_pos (by decide), show IntKind.i64.wrap ((1 : Int) + 1) = 2 from by decide]
  rw [show (!((3 : Int) == 0)) = true from rfl, chk_true, chk_true, capOk, chk_pos (by decide)]
  rw [lg107_0_eq, br_pos (by decide), show IntKind.i64.wrap ((2 : Int) + 1) = 3 from by decide]
  rw [show (!((3 : Int) == 0)) = true from rfl, chk_true, chk_true, capOk, chk_pos (by decide)]
  rw [lg107_0_eq, br_neg (by decide)]
  rfl
theorem start_impl : G107 = some ((0 : Int), (3 : Int), (1 : Int), [], vs0, [], ()) := by
  rw [G107_eq, start_loop']
  simp only [Option.bind_some]
  rw [copyM start_ok.fit]; rfl
/-- One command behind the other. -/
noncomputable def stepD (s : DMapState) (c : DCmd) : Option DMapState := G108 s.1 s.2.1 s.2.2.1 s.2.2.2.1 s.2.2.2.2.1 s.2.2.2.2.2.1 c.1 c.2.1 c.2.2.1 c.2.2.2.1 c.2.2.2.2.1 c.2.2.2.2.2.1 c.2.2.2.2.2.2.1 c.2.2.2.2.2.2.2.1 c.2.2.2.2.2.2.2.2.1 c.2.2.2.2.2.2.2.2.2.1
noncomputable def runD : List DCmd → DMapState → Option DMapState
  | [], s => some s
  | c :: l, s => (stepD s c).bind (runD l)
def SOk (E : Int) (s : DMapState) : Prop := MOk E s.1 s.2.1 s.2.2.1 s.2.2.2.1 s.2.2.2.2.1 s.2.2.2.2.2.1
theorem step_gives {E : Int} {s : DMapState} (h : SOk E s) (hE : E ≤ 99999) (hs : s.1 < 60) (c : DCmd) : ∃ t, stepD s c = some t ∧ SOk (E + 1) t ∧ t.1 = s.1 + 1 ∧
    G48 s.1 s.2.1 s.2.2.1 s.2.2.2.1 s.2.2.2.2.1 s.2.2.2.2.2.1 c.1 c.2.1 c.2.2.1 c.2.2.2.1 c.2.2.2.2.1 c.2.2.2.2.2.1 c.2.2.2.2.2.2.1 c.2.2.2.2.2.2.2.1 c.2.2.2.2.2.2.2.2.1 c.2.2.2.2.2.2.2.2.2.1 = some t ∧
    G51 s.1 s.2.1 s.2.2.1 s.2.2.2.1 s.2.2.2.2.1 s.2.2.2.2.2.1 c.1 c.2.1 c.2.2.1 c.2.2.2.1 c.2.2.2.2.1 c.2.2.2.2.2.1 c.2.2.2.2.2.2.1 c.2.2.2.2.2.2.2.1 c.2.2.2.2.2.2.2.2.1 c.2.2.2.2.2.2.2.2.2.1 = some t := by
  obtain ⟨m1, m2, ds, vs, xs, e1, e2, h'⟩ := do_step h hE hs c.1 c.2.1 c.2.2.1 c.2.2.2.1 c.2.2.2.2.1 c.2.2.2.2.2.1 c.2.2.2.2.2.2.1 c.2.2.2.2.2.2.2.1 c.2.2.2.2.2.2.2.2.1 c.2.2.2.2.2.2.2.2.2.1
  refine ⟨_, e1, h', rfl, e2, ?_⟩
  rw [G51_eq, G102_ok h.fit, h.mapB hE]
  simp only [Option.bind_some, Bool.not_true, Bool.false_or]
  rw [show (s.1 == 60) = false by simp; omega, br_false, e1]
  rfl
theorem run_gives : ∀ (l : List DCmd) {E : Int} {s : DMapState}, SOk E s → E + l.length ≤ 99999 → s.1 + l.length ≤ 60 → ∃ t, runD l s = some t ∧ SOk (E + l.length) t ∧ t.1 = s.1 + l.length
  | [], E, s, h, _, _ => ⟨s, rfl, by simpa using h, by simp⟩
  | c :: l, E, s, h, h1, h2 => by
    simp only [List.length_cons] at h1 h2 ⊢
    obtain ⟨t, e, ht, h3, _⟩ := step_gives h (by omega) (by omega) c
    obtain ⟨u, e', hu, h4⟩ := run_gives l ht (by omega) (by omega)
    refine ⟨u, by simp only [runD, e, Option.bind_some, e'], ?_, by omega⟩
    rw [show E + ((l.length + 1 : Nat) : Int) = E + 1 + (l.length : Int) by omega]; exact hu
theorem impl_loop (list : List DCmd) (hl : list.length ≤ 60) : ∀ (n k : Nat) {E : Int} {s : DMapState}, k + n = list.length → SOk E s → E + n ≤ 99999 → s.1 + n ≤ 60 →
    ∃ t, runD (list.drop k) s = some t ∧ lg41_0 list ((list.length : Nat) : Int) (k : Int) (0 : Int) (0 : Int) (0 : Int) s.1 s.2.1 s.2.2.1 s.2.2.2.1 s.2.2.2.2.1 s.2.2.2.2.2.1 = some (.inl ((0 : Int), (0 : Int), (0 : Int), t.1, t.2.1, t.2.2.1, t.2.2.2.1, t.2.2.2.2.1, t.2.2.2.2.2.1, ()))
  | 0, k, E, s, hk, h, h1, h2 => by
    refine ⟨s, by rw [List.drop_eq_nil_of_le (by omega)]; rfl, ?_⟩
    rw [lg41_0_eq, br_neg (by omega)]
  | n + 1, k, E, s, hk, h, h1, h2 => by
    have hlt : k < list.length := by omega
    obtain ⟨t, e, ht, h3, _⟩ := step_gives h (by omega) (by omega) list[k]
    obtain ⟨u, e1, e2⟩ := impl_loop list hl n (k + 1) (s := t) (by omega) ht (by omega) (by omega)
    refine ⟨u, by rw [List.drop_eq_getElem_cons hlt]; simp only [runD, e, Option.bind_some, e1], ?_⟩
    rw [lg41_0_eq]
    simp (disch := omega) only [br_pos, chk_pos, wrapS, toNat_coe]
    simp only [getD_get hlt]
    unfold stepD at e
    rw [e]
    exact e2
theorem spec_loop (list : List DCmd) (hl : list.length ≤ 60) : ∀ (n k : Nat) {E : Int} {s : DMapState}, k + n = list.length → SOk E s → E + n ≤ 99999 → s.1 + n ≤ 60 →
    ∃ t, runD (list.drop k) s = some t ∧ lg39_0 list (k : Int) (0 : Int) (0 : Int) (0 : Int) s.1 s.2.1 s.2.2.1 s.2.2.2.1 s.2.2.2.2.1 s.2.2.2.2.2.1 = some (.inl ((0 : Int), (0 : Int), (0 : Int), t.1, t.2.1, t.2.2.1, t.2.2.2.1, t.2.2.2.2.1, t.2.2.2.2.2.1, ()))
  | 0, k, E, s, hk, h, h1, h2 => by
    refine ⟨s, by rw [List.drop_eq_nil_of_le (by omega)]; rfl, ?_⟩
    rw [lg39_0_eq, br_neg (by omega)]
  | n + 1, k, E, s, hk, h, h1, h2 => by
    have hlt : k < list.length := by omega
    obtain ⟨t, e, ht, h3, es, _⟩ := step_gives h (by omega) (by omega) list[k]
    obtain ⟨u, e1, e2⟩ := spec_loop list hl n (k + 1) (s := t) (by omega) ht (by omega) (by omega)
    refine ⟨u, by rw [List.drop_eq_getElem_cons hlt]; simp only [runD, e, Option.bind_some, e1], ?_⟩
    rw [lg39_0_eq]
    simp (disch := omega) only [br_pos, chk_pos, wrapS, toNat_coe]
    simp only [getD_get hlt]
    rw [es]
    exact e2
def start : DMapState := ((0 : Int), (3 : Int), (1 : Int), [], vs0, [], ())
theorem start_SOk : SOk 1 start := start_ok
theorem mapOf_both (list : List DCmd) (hl : list.length ≤ 60) : ∃ t, runD list start = some t ∧ G41 list = some t ∧ G39 list = some t := by
  obtain ⟨t, e1, e2⟩ := impl_loop list hl list.length 0 (by omega) start_SOk (by omega) (by show (0 : Int) + _ ≤ 60; omega)
  obtain ⟨u, e3, e4⟩ := spec_loop list hl list.length 0 (by omega) start_SOk (by omega) (by show (0 : Int) + _ ≤ 60; omega)
  rw [List.drop_zero] at e1 e3
  rw [e1] at e3
  simp only [Option.some.injEq] at e3
  subst e3
  refine ⟨t, e1, ?_, ?_⟩
  · rw [G41_eq, br_neg (by omega), start_impl]
    simp only [Option.bind_some]
    have e2 : lg41_0 list ((list.length : Nat) : Int) (0 : Int) (0 : Int) (0 : Int) (0 : Int) (0 : Int) (3 : Int) (1 : Int) [] vs0 [] = _ := e2
    rw [e2]; rfl
  · rw [G39_eq, start_spec]
    simp only [Option.bind_some]
    rw [br_neg (by omega)]
    have e4 : lg39_0 list (0 : Int) (0 : Int) (0 : Int) (0 : Int) (0 : Int) (3 : Int) (1 : Int) [] vs0 [] = _ := e4
    rw [e4]; rfl
theorem bne_same {α : Type} [BEq α] [LawfulBEq α] (a : α) : (a != a) = false := by simp
/-- How many elements a list holds, with what they hold. -/
def cntL {α : Type} (c : α → Int) : List α → Int
  | [] => 0
  | a :: l => 1 + c a + cntL c l
theorem cntL_nn {α : Type} {c : α → Int} (hc : ∀ a, 0 ≤ c a) : ∀ l : List α, (l.length : Int) ≤ cntL c l
  | [] => by simp [cntL]
  | a :: l => by have := cntL_nn hc l; have := hc a; simp only [cntL, List.length_cons]; omega
theorem cntL_zero {α : Type} : ∀ l : List α, cntL (fun _ => 0) l = (l.length : Int)
  | [] => rfl
  | a :: l => by simp only [cntL, List.length_cons, cntL_zero l]; omega
theorem cntL_mem {α : Type} {c : α → Int} (hc : ∀ a, 0 ≤ c a) {x : α} : ∀ {l : List α}, x ∈ l → 1 + c x ≤ cntL c l
  | a :: l, h => by
    have h1 := cntL_nn hc l
    have h2 := hc a
    simp only [cntL]
    rcases List.mem_cons.1 h with rfl | h
    · omega
    · have := cntL_mem hc h; omega
/-- Along a list with a counter: what is counted to, and the list made new. -/
def acc {α : Type} (el : Int → α → Int × α) : Int → List α → Int × List α
  | k, [] => (k, [])
  | k, a :: l => ((acc el (el k a).1 l).1, (el k a).2 :: (acc el (el k a).1 l).2)
theorem acc_len {α : Type} {el : Int → α → Int × α} : ∀ (l : List α) (k : Int), (acc el k l).2.length = l.length
  | [], k => rfl
  | a :: l, k => by simp [acc, acc_len l]
/-- The counter does not fall, and does not rise by more than a thousand for each element. -/
def Cnts {α : Type} (c : α → Int) (el : Int → α → Int × α) : Prop := ∀ k a, 0 ≤ k → k + 1000 * (1 + c a) ≤ 4611686018427387904 → k ≤ (el k a).1 ∧ (el k a).1 ≤ k + 1000 * (1 + c a)
theorem acc_le {α : Type} {c : α → Int} {el : Int → α → Int × α} (hc : ∀ a, 0 ≤ c a) (h : Cnts c el) : ∀ (l : List α) (k : Int), 0 ≤ k → k + 1000 * cntL c l ≤ 4611686018427387904 → k ≤ (acc el k l).1 ∧ (acc el k l).1 ≤ k + 1000 * cntL c l
  | [], k, h0, h1 => by simp [acc, cntL]
  | a :: l, k, h0, h1 => by
    have h2 := cntL_nn hc l
    simp only [acc, cntL] at h1 ⊢
    have h3 := h k a h0 (by omega)
    have h4 := acc_le hc h l (el k a).1 (by omega) (by omega)
    omega
theorem mark_gen {α β : Type} {f : Int → Int → List α → Option (Sum (Int × List α × Unit) β)} {el : Int → α → Int × α}
    (h0 : ∀ k r, f k (len r) r = some (.inl (k, r, ()))) {l0 : List α}
    (hs : ∀ k (i : Nat) (r : List α) x (hi : i < r.length), r.length = l0.length → x ∈ l0 → r[i] = x → f k (i : Int) r = f (el k x).1 ((i + 1 : Nat) : Int) (r.set i (el k x).2)) (k : Int) :
    f k (0 : Int) l0 = some (.inl ((acc el k l0).1, (acc el k l0).2, ())) := by
  have key : ∀ (rest done : List α) (k : Int), (∀ x ∈ rest, x ∈ l0) → (done ++ rest).length = l0.length → f k ((done.length : Nat) : Int) (done ++ rest) = some (.inl ((acc el k rest).1, done ++ (acc el k rest).2, ())) := by
    intro rest
    induction rest with
    | nil =>
      intro done k _ _
      have := h0 k (done ++ [])
      rw [List.append_nil] at this ⊢
      simpa [acc] using this
    | cons a rest ih =>
      intro done k hm hl
      have hi : done.length < (done ++ a :: rest).length := by simp
      rw [hs k done.length _ a hi hl (hm a (by simp)) (by simp)]
      have e : (done ++ a :: rest).set done.length (el k a).2 = (done ++ [(el k a).2]) ++ rest := by simp
      have e2 : ((done.length + 1 : Nat) : Int) = (((done ++ [(el k a).2]).length : Nat) : Int) := by simp
      rw [e, e2, ih _ _ (fun x hx => hm x (List.mem_cons_of_mem _ hx)) (by simpa using hl)]
      simp [acc]
  exact key l0 [] k (fun x h => h) rfl
theorem held_gen {α β : Type} {f : List α → Int → Int → Option (Sum (Int × Unit) β)} {c : α → Int} {el : Int → α → Int × α} (hc : ∀ a, 0 ≤ c a) (h : Cnts c el)
    (h0 : ∀ a k, f a k (len a) = some (.inl (k, ()))) {l0 : List α}
    (hs : ∀ a k (i : Nat) x (hi : i < a.length), a.length = l0.length → x ∈ l0 → 0 ≤ k → k + 1000 * (1 + c x) ≤ 4611686018427387904 → a[i] = (el k x).2 → f a k (i : Int) = f a (el k x).1 ((i + 1 : Nat) : Int))
    (k : Int) (hk : 0 ≤ k) (hM : k + 1000 * cntL c l0 ≤ 4611686018427387904) : f (acc el k l0).2 k (0 : Int) = some (.inl ((acc el k l0).1, ())) := by
  have key : ∀ (rest done : List α) (k : Int), (∀ x ∈ rest, x ∈ l0) → (done ++ rest).length = l0.length → 0 ≤ k → k + 1000 * cntL c rest ≤ 4611686018427387904 → f (done ++ (acc el k rest).2) k ((done.length : Nat) : Int) = some (.inl ((acc el k rest).1, ())) := by
    intro rest
    induction rest with
    | nil =>
      intro done k _ _ _ _
      have := h0 (done ++ []) k
      simpa [acc] using this
    | cons a rest ih =>
      intro done k hm hl h1 h2
      have h3 := cntL_nn hc rest
      simp only [cntL] at h2
      have h4 := h k a h1 (by omega)
      have hi : done.length < (done ++ (acc el k (a :: rest)).2).length := by simp [acc]
      rw [hs _ k done.length a hi (by rw [List.length_append, acc_len, ← hl, List.length_append]) (hm a (by simp)) h1 (by omega) (by simp [acc])]
      have e : done ++ (acc el k (a :: rest)).2 = (done ++ [(el k a).2]) ++ (acc el (el k a).1 rest).2 := by simp [acc]
      have e2 : ((done.length + 1 : Nat) : Int) = (((done ++ [(el k a).2]).length : Nat) : Int) := by simp
      rw [e, e2, ih _ _ (fun x hx => hm x (List.mem_cons_of_mem _ hx)) (by simpa using hl) (by omega) (by omega)]
      simp [acc]
  exact key l0 [] k (fun x h => h) rfl hk hM
theorem eq_gen {β : Type} {f : Int → Option (Sum Unit β)} {N : Nat} (h0 : f (N : Int) = some (.inl ())) (hs : ∀ i : Nat, i < N → f (i : Int) = f ((i + 1 : Nat) : Int)) : f (0 : Int) = some (.inl ()) :=
  up (P := fun k => f (k : Int) = some (.inl ())) h0 fun k hk h => (hs k hk).trans h
theorem to_gen {α β : Type} {f : Int → List α → Option (Sum (List α × Unit) β)} {a : List α} (h0 : f (len a) a = some (.inl (a, ()))) (hs : ∀ (i : Nat) (h : i < a.length) r, r.length = a.length → f (i : Int) r = f ((i + 1 : Nat) : Int) (r.set i a[i])) (z : α) : f (0 : Int) (List.replicate (len a).toNat z) = some (.inl (a, ())) :=
  laid (f := fun k r => f (k : Int) r) h0 hs _ (by simp [len])
theorem inb_set {α : Type} (i : Int) (l : List α) (j : Nat) (x : α) : inb i (l.set j x) = inb i l := by simp [inb, len]
theorem inb_coe {α : Type} {i : Nat} {l : List α} (h : i < l.length) : inb (i : Int) l = true := by simp [inb, len]; omega
theorem getD_set_at {α : Type} {i : Nat} {l : List α} (h : i < l.length) {x z : α} : (l.set i x).getD i z = x := by simp [List.getD, h]
/-- The counter after some steps. -/
def adv : Nat → Int → Int
  | 0, k => k
  | n + 1, k => W (adv n k + (1 : Int))
theorem adv_eq : ∀ (n : Nat) (k : Int), 0 ≤ k → k + n ≤ 9223372036854775807 → adv n k = k + n
  | 0, k, _, _ => by simp [adv]
  | n + 1, k, h0, h1 => by
    simp only [adv]
    rw [adv_eq n k h0 (by omega), W, wrap64 (by omega) (by omega)]
    omega
theorem fit_len {cs : List Ty} {xs : List (Ty.Ds cs)} (h : Fit (.sl cs) xs) (hb : 1 ≤ Ty.bys cs) : xs.length ≤ 140737488351232 := by
  have h1 : xs.length * Ty.bys cs ≤ 140737488351232 := h.1
  exact Nat.le_trans (Nat.le_mul_of_pos_right _ hb) h1
def mkInt (k : Int) (x : Int × Unit) : Int × (Int × Unit) := (adv 1 k, (adv 0 k, ()))
theorem mkInt_cnts : Cnts (fun _ => 0) mkInt := by
  intro k x h0 h1
  dsimp only at h1 ⊢
  have ee : adv 1 k = k + 1 := adv_eq _ _ (by omega) (by omega)
  have er : (mkInt k x).1 = adv 1 k := by
    simp only [mkInt]
  rw [er]; omega
theorem eqIntS_same (l : List (Int × Unit)) (h : cntL (fun _ => 0) l ≤ 2097152) : G186 l l = some (true, ()) := by
  have hl := cntL_nn (fun _ => Int.le_refl 0) l
  rw [G186_eq, bne_same, br_false]
  rw [eq_gen (f := fun i => lg186_0 l l i) (N := l.length) ?_ ?_]
  · rfl
  · show lg186_0 _ _ _ = _; rw [lg186_0_eq]; exact br_neg (by simp [len])
  · intro i hi
    have hm := cntL_mem (fun _ => Int.le_refl 0) (List.getElem_mem hi)
    show lg186_0 _ _ _ = lg186_0 _ _ _
    rw [lg186_0_eq, br_pos (by simp only [len]; omega)]
    simp only [inb_coe hi, chk_true, toNat_coe, getD_get hi]
    rw [bne_same, br_false, W, wrapS (by omega)]
theorem markIntS_is (l : List (Int × Unit)) (h : cntL (fun _ => 0) l ≤ 2097152) (k : Int) : G161 l k = some ((acc mkInt k l).1, (acc mkInt k l).2, k, ()) := by
  have hl := cntL_nn (fun _ => Int.le_refl 0) l
  rw [G161_eq]
  rw [mark_gen (f := fun k i r => lg161_0 k i r) (el := mkInt) ?_ (l0 := l) ?_ k]
  · rfl
  · intro k r; show lg161_0 _ _ _ = _; rw [lg161_0_eq]; exact br_neg (by simp [len])
  · intro k i r x hi hr hx e
    have hm := cntL_mem (fun _ => Int.le_refl 0) hx
    show lg161_0 _ _ _ = lg161_0 _ _ _
    rw [lg161_0_eq, br_pos (by simp only [len]; omega)]
    simp (disch := omega) only [inb_set, inb_coe hi, chk_true, toNat_coe, getD_set_at hi, getD_get hi, e, List.set_set, Option.bind_some]
    rw [show W ((i : Int) + (1 : Int)) = ((i + 1 : Nat) : Int) from wrapS (by omega)]
    simp only [mkInt, adv]
theorem heldIntS_is (l : List (Int × Unit)) (h : cntL (fun _ => 0) l ≤ 2097152) (k : Int) (h0 : 0 ≤ k) (h1 : k + 1000 * cntL (fun _ => 0) l ≤ 4611686018427387904) : G162 (acc mkInt k l).2 k = some ((acc mkInt k l).1, ()) := by
  have hl := cntL_nn (fun _ => Int.le_refl 0) l
  rw [G162_eq]
  rw [held_gen (f := fun a k i => lg162_0 a k i) (c := (fun _ => 0)) (el := mkInt) (fun _ => Int.le_refl 0) mkInt_cnts ?_ (l0 := l) ?_ k h0 (by omega)]
  · rfl
  · intro a k; show lg162_0 _ _ _ = _; rw [lg162_0_eq]; exact br_neg (by simp [len])
  · intro a k i x hi ha hx h2 h3 e
    have hm := cntL_mem (fun _ => Int.le_refl 0) hx
    show lg162_0 _ _ _ = lg162_0 _ _ _
    rw [lg162_0_eq, br_pos (by simp only [len]; omega)]
    simp only [inb_coe hi, chk_true, toNat_coe, getD_get hi, e]
    rw [show (mkInt k x).2.1 = k from rfl, bne_same, br_false]
    rw [show W ((i : Int) + (1 : Int)) = ((i + 1 : Nat) : Int) from wrapS (by omega)]
    rfl
def cntCmd (x : DCmd) : Int := 0
theorem cntCmd_nn (x : DCmd) : 0 ≤ cntCmd x := by
  exact Int.le_refl 0
def mkCmd (k : Int) (x : DCmd) : Int × DCmd := (adv 10 k, (adv 0 k, adv 1 k, adv 2 k, adv 3 k, adv 4 k, adv 5 k, adv 6 k, adv 7 k, adv 8 k, adv 9 k, ()))
theorem mkCmd_cnts : Cnts cntCmd mkCmd := by
  intro k x h0 h1
  unfold cntCmd at h1 ⊢
  have ee : adv 10 k = k + 10 := adv_eq _ _ (by omega) (by omega)
  have er : (mkCmd k x).1 = adv 10 k := by
    simp only [mkCmd]
  rw [er]; omega
theorem eqCmd_same (x : DCmd) (h : cntCmd x ≤ 2097152) : G93 x x = some (true, ()) := by
  unfold cntCmd at h
  rw [G93_eq]
  simp (disch := omega) only [bne_same, br_false, br_true, Bool.not_true, Option.bind_some, DCmd.A, DCmd.Arg, DCmd.B, DCmd.Call, DCmd.Client, DCmd.Disk, DCmd.Epoch, DCmd.Kind, DCmd.Num, DCmd.Range, DCmd.withA, DCmd.withArg, DCmd.withB, DCmd.withCall, DCmd.withClient, DCmd.withDisk, DCmd.withEpoch, DCmd.withKind, DCmd.withNum, DCmd.withRange, DCmd.zero]
theorem eqCmdS_same (l : List (DCmd)) (h : cntL cntCmd l ≤ 2097152) : G43 l l = some (true, ()) := by
  have hl := cntL_nn cntCmd_nn l
  rw [G43_eq, bne_same, br_false]
  rw [eq_gen (f := fun i => lg43_0 l l i) (N := l.length) ?_ ?_]
  · rfl
  · show lg43_0 _ _ _ = _; rw [lg43_0_eq]; exact br_neg (by simp [len])
  · intro i hi
    have hm := cntL_mem cntCmd_nn (List.getElem_mem hi)
    show lg43_0 _ _ _ = lg43_0 _ _ _
    rw [lg43_0_eq, br_pos (by simp only [len]; omega)]
    simp only [inb_coe hi, chk_true, toNat_coe, getD_get hi]
    rw [eqCmd_same _ (by omega)]
    simp only [Option.bind_some, Bool.not_true, br_false]
    rw [W, wrapS (by omega)]
theorem toCmd_same (x : DCmd) (h : cntCmd x ≤ 2097152) : G50 x = some x := by
  unfold cntCmd at h
  rw [G50_eq]
theorem toCmdS_same (l : List (DCmd)) (h : cntL cntCmd l ≤ 2097152) : G40 l = some (l, ()) := by
  have hl := cntL_nn cntCmd_nn l
  rw [G40_eq, chk_pos (by simp only [len]; omega)]
  rw [to_gen (f := fun i r => lg40_0 l i r) (a := l) ?_ ?_]
  · rfl
  · show lg40_0 _ _ _ = _; rw [lg40_0_eq]; exact br_neg (by simp [len])
  · intro i hi r hr
    have hm := cntL_mem cntCmd_nn (List.getElem_mem hi)
    show lg40_0 _ _ _ = lg40_0 _ _ _
    rw [lg40_0_eq, br_pos (by simp only [len]; omega)]
    simp only [inb_coe hi, inb_coe (show i < r.length by omega), chk_true, toNat_coe, getD_get hi]
    rw [toCmd_same _ (by omega)]
    simp only [Option.bind_some]
    rw [W, wrapS (by omega)]
theorem szCmdS_is (l : List (DCmd)) (hF : Fit (.sl Cmd) l) (left : Int) (h1 : 0 ≤ left) (h2 : left ≤ 1048576) : G38 l left = some (if cntL cntCmd l ≤ left then left - cntL cntCmd l else -1, ()) := by
  have hl := cntL_nn cntCmd_nn l
  have hn : l.length ≤ 140737488351232 := fit_len hF (by decide)
  rw [G38_eq]
  rw [show W (left - len l) = left - (l.length : Int) from wrap64 (by simp only [len]; omega) (by simp only [len]; omega)]
  rw [show cntCmd = fun _ => 0 from rfl]
  rw [cntL_zero]
  by_cases q : (l.length : Int) ≤ left
  · rw [br_neg (by omega), if_pos q]
  · rw [br_pos (by omega), if_neg q]
theorem markCmdS_is (l : List (DCmd)) (h : cntL cntCmd l ≤ 2097152) (k : Int) : G44 l k = some ((acc mkCmd k l).1, (acc mkCmd k l).2, k, ()) := by
  have hl := cntL_nn cntCmd_nn l
  rw [G44_eq]
  rw [mark_gen (f := fun k i r => lg44_0 k i r) (el := mkCmd) ?_ (l0 := l) ?_ k]
  · rfl
  · intro k r; show lg44_0 _ _ _ = _; rw [lg44_0_eq]; exact br_neg (by simp [len])
  · intro k i r x hi hr hx e
    have hm := cntL_mem cntCmd_nn hx
    show lg44_0 _ _ _ = lg44_0 _ _ _
    rw [lg44_0_eq, br_pos (by simp only [len]; omega)]
    obtain ⟨x0, x1, x2, x3, x4, x5, x6, x7, x8, x9, ⟨⟩⟩ := x
    have hm : 1 + (0) ≤ cntL cntCmd l := hm
    simp (disch := omega) only [inb_set, inb_coe hi, chk_true, toNat_coe, getD_set_at hi, getD_get hi, e, List.set_set, Option.bind_some, DCmd.A, DCmd.Arg, DCmd.B, DCmd.Call, DCmd.Client, DCmd.Disk, DCmd.Epoch, DCmd.Kind, DCmd.Num, DCmd.Range, DCmd.withA, DCmd.withArg, DCmd.withB, DCmd.withCall, DCmd.withClient, DCmd.withDisk, DCmd.withEpoch, DCmd.withKind, DCmd.withNum, DCmd.withRange, DCmd.zero]
    rw [show W ((i : Int) + (1 : Int)) = ((i + 1 : Nat) : Int) from wrapS (by omega)]
    simp only [mkCmd, adv]
def cntMapDisk (x : DMapDisk) : Int := cntL (fun _ => 0) x.2.2.2.2.2.2.1
theorem cntMapDisk_nn (x : DMapDisk) : 0 ≤ cntMapDisk x := by
  have h6 := cntL_nn (fun _ => Int.le_refl 0) x.2.2.2.2.2.2.1
  unfold cntMapDisk; omega
def mkMapDisk (k : Int) (x : DMapDisk) : Int × DMapDisk := let z6 := acc mkInt (adv 6 k) x.2.2.2.2.2.2.1; (adv 0 z6.1, (adv 0 k, adv 1 k, adv 2 k, adv 3 k, adv 4 k, adv 5 k, z6.2, ()))
theorem mkMapDisk_cnts : Cnts cntMapDisk mkMapDisk := by
  intro k x h0 h1
  unfold cntMapDisk at h1 ⊢
  have h_6 := cntL_nn (fun _ => Int.le_refl 0) x.2.2.2.2.2.2.1
  have e6 : adv 6 k = k + 6 := adv_eq _ _ (by omega) (by omega)
  have b6 := acc_le (fun _ => Int.le_refl 0) mkInt_cnts x.2.2.2.2.2.2.1 (adv 6 k) (by omega) (by omega)
  generalize ey6 : (acc mkInt (adv 6 k) x.2.2.2.2.2.2.1).1 = y6 at b6
  have ee : adv 0 y6 = y6 + 0 := adv_eq _ _ (by omega) (by omega)
  have er : (mkMapDisk k x).1 = adv 0 y6 := by
    simp only [mkMapDisk, ey6]
  rw [er]; omega
theorem eqMapDisk_same (x : DMapDisk) (h : cntMapDisk x ≤ 2097152) : G158 x x = some (true, ()) := by
  have h6 := cntL_nn (fun _ => Int.le_refl 0) x.2.2.2.2.2.2.1
  unfold cntMapDisk at h
  rw [G158_eq]
  simp (disch := omega) only [bne_same, br_false, br_true, Bool.not_true, Option.bind_some, eqIntS_same, DMapDisk.Acks, DMapDisk.Call, DMapDisk.Client, DMapDisk.Epoch, DMapDisk.Frozen, DMapDisk.Id, DMapDisk.Size, DMapDisk.withAcks, DMapDisk.withCall, DMapDisk.withClient, DMapDisk.withEpoch, DMapDisk.withFrozen, DMapDisk.withId, DMapDisk.withSize, DMapDisk.zero]
theorem eqMapDiskS_same (l : List (DMapDisk)) (h : cntL cntMapDisk l ≤ 2097152) : G109 l l = some (true, ()) := by
  have hl := cntL_nn cntMapDisk_nn l
  rw [G109_eq, bne_same, br_false]
  rw [eq_gen (f := fun i => lg109_0 l l i) (N := l.length) ?_ ?_]
  · rfl
  · show lg109_0 _ _ _ = _; rw [lg109_0_eq]; exact br_neg (by simp [len])
  · intro i hi
    have hm := cntL_mem cntMapDisk_nn (List.getElem_mem hi)
    show lg109_0 _ _ _ = lg109_0 _ _ _
    rw [lg109_0_eq, br_pos (by simp only [len]; omega)]
    simp only [inb_coe hi, chk_true, toNat_coe, getD_get hi]
    rw [eqMapDisk_same _ (by omega)]
    simp only [Option.bind_some, Bool.not_true, br_false]
    rw [W, wrapS (by omega)]
theorem markMapDiskS_is (l : List (DMapDisk)) (h : cntL cntMapDisk l ≤ 2097152) (k : Int) : G112 l k = some ((acc mkMapDisk k l).1, (acc mkMapDisk k l).2, k, ()) := by
  have hl := cntL_nn cntMapDisk_nn l
  rw [G112_eq]
  rw [mark_gen (f := fun k i r => lg112_0 k i r) (el := mkMapDisk) ?_ (l0 := l) ?_ k]
  · rfl
  · intro k r; show lg112_0 _ _ _ = _; rw [lg112_0_eq]; exact br_neg (by simp [len])
  · intro k i r x hi hr hx e
    have hm := cntL_mem cntMapDisk_nn hx
    show lg112_0 _ _ _ = lg112_0 _ _ _
    rw [lg112_0_eq, br_pos (by simp only [len]; omega)]
    obtain ⟨x0, x1, x2, x3, x4, x5, x6, ⟨⟩⟩ := x
    have hm : 1 + (cntL (fun _ => 0) x6) ≤ cntL cntMapDisk l := hm
    have h_6 := cntL_nn (fun _ => Int.le_refl 0) x6
    simp (disch := omega) only [inb_set, inb_coe hi, chk_true, toNat_coe, getD_set_at hi, getD_get hi, e, List.set_set, Option.bind_some, markIntS_is, DMapDisk.Acks, DMapDisk.Call, DMapDisk.Client, DMapDisk.Epoch, DMapDisk.Frozen, DMapDisk.Id, DMapDisk.Size, DMapDisk.withAcks, DMapDisk.withCall, DMapDisk.withClient, DMapDisk.withEpoch, DMapDisk.withFrozen, DMapDisk.withId, DMapDisk.withSize, DMapDisk.zero]
    rw [show W ((i : Int) + (1 : Int)) = ((i + 1 : Nat) : Int) from wrapS (by omega)]
    simp only [mkMapDisk, adv]
theorem heldMapDiskS_is (l : List (DMapDisk)) (h : cntL cntMapDisk l ≤ 2097152) (k : Int) (h0 : 0 ≤ k) (h1 : k + 1000 * cntL cntMapDisk l ≤ 4611686018427387904) : G115 (acc mkMapDisk k l).2 k = some ((acc mkMapDisk k l).1, ()) := by
  have hl := cntL_nn cntMapDisk_nn l
  rw [G115_eq]
  rw [held_gen (f := fun a k i => lg115_0 a k i) (c := cntMapDisk) (el := mkMapDisk) cntMapDisk_nn mkMapDisk_cnts ?_ (l0 := l) ?_ k h0 (by omega)]
  · rfl
  · intro a k; show lg115_0 _ _ _ = _; rw [lg115_0_eq]; exact br_neg (by simp [len])
  · intro a k i x hi ha hx h2 h3 e
    have hm := cntL_mem cntMapDisk_nn hx
    show lg115_0 _ _ _ = lg115_0 _ _ _
    rw [lg115_0_eq, br_pos (by simp only [len]; omega)]
    simp only [inb_coe hi, chk_true, toNat_coe, getD_get hi, e]
    obtain ⟨x0, x1, x2, x3, x4, x5, x6, ⟨⟩⟩ := x
    have hm : 1 + (cntL (fun _ => 0) x6) ≤ cntL cntMapDisk l := hm
    have h3 : k + 1000 * (1 + (cntL (fun _ => 0) x6)) ≤ 4611686018427387904 := h3
    have h_6 := cntL_nn (fun _ => Int.le_refl 0) x6
    have e6 : adv 6 k = k + 6 := adv_eq _ _ (by omega) (by omega)
    have b6 := acc_le (fun _ => Int.le_refl 0) mkInt_cnts x6 (adv 6 k) (by omega) (by omega)
    have d6 := heldIntS_is x6 (by omega) (adv 6 k) (by omega) (by omega)
    generalize ey6 : acc mkInt (adv 6 k) x6 = Y6 at b6 d6
    obtain ⟨y6, w6⟩ := Y6
    dsimp only at b6 d6
    have er : mkMapDisk k (x0, x1, x2, x3, x4, x5, x6, ()) = (adv 0 y6, (adv 0 k, adv 1 k, adv 2 k, adv 3 k, adv 4 k, adv 5 k, w6, ())) := by
      simp only [mkMapDisk, ey6]
    rw [er]
    simp only [adv] at d6
    simp (disch := omega) only [adv, bne_same, br_false, br_neg, Option.bind_some, d6, DMapDisk.Acks, DMapDisk.Call, DMapDisk.Client, DMapDisk.Epoch, DMapDisk.Frozen, DMapDisk.Id, DMapDisk.Size, DMapDisk.withAcks, DMapDisk.withCall, DMapDisk.withClient, DMapDisk.withEpoch, DMapDisk.withFrozen, DMapDisk.withId, DMapDisk.withSize, DMapDisk.zero]
    rw [show W ((i : Int) + (1 : Int)) = ((i + 1 : Nat) : Int) from wrapS (by omega)]
def cntMapDone (x : DMapDone) : Int := 0
theorem cntMapDone_nn (x : DMapDone) : 0 ≤ cntMapDone x := by
  exact Int.le_refl 0
def mkMapDone (k : Int) (x : DMapDone) : Int × DMapDone := (adv 4 k, (adv 0 k, adv 1 k, adv 2 k, adv 3 k, ()))
theorem mkMapDone_cnts : Cnts cntMapDone mkMapDone := by
  intro k x h0 h1
  unfold cntMapDone at h1 ⊢
  have ee : adv 4 k = k + 4 := adv_eq _ _ (by omega) (by omega)
  have er : (mkMapDone k x).1 = adv 4 k := by
    simp only [mkMapDone]
  rw [er]; omega
theorem eqMapDone_same (x : DMapDone) (h : cntMapDone x ≤ 2097152) : G160 x x = some (true, ()) := by
  unfold cntMapDone at h
  rw [G160_eq]
  simp (disch := omega) only [bne_same, br_false, br_true, Bool.not_true, Option.bind_some, DMapDone.Call, DMapDone.Client, DMapDone.Code, DMapDone.Value, DMapDone.withCall, DMapDone.withClient, DMapDone.withCode, DMapDone.withValue, DMapDone.zero]
theorem eqMapDoneS_same (l : List (DMapDone)) (h : cntL cntMapDone l ≤ 2097152) : G111 l l = some (true, ()) := by
  have hl := cntL_nn cntMapDone_nn l
  rw [G111_eq, bne_same, br_false]
  rw [eq_gen (f := fun i => lg111_0 l l i) (N := l.length) ?_ ?_]
  · rfl
  · show lg111_0 _ _ _ = _; rw [lg111_0_eq]; exact br_neg (by simp [len])
  · intro i hi
    have hm := cntL_mem cntMapDone_nn (List.getElem_mem hi)
    show lg111_0 _ _ _ = lg111_0 _ _ _
    rw [lg111_0_eq, br_pos (by simp only [len]; omega)]
    simp only [inb_coe hi, chk_true, toNat_coe, getD_get hi]
    rw [eqMapDone_same _ (by omega)]
    simp only [Option.bind_some, Bool.not_true, br_false]
    rw [W, wrapS (by omega)]
theorem markMapDoneS_is (l : List (DMapDone)) (h : cntL cntMapDone l ≤ 2097152) (k : Int) : G114 l k = some ((acc mkMapDone k l).1, (acc mkMapDone k l).2, k, ()) := by
  have hl := cntL_nn cntMapDone_nn l
  rw [G114_eq]
  rw [mark_gen (f := fun k i r => lg114_0 k i r) (el := mkMapDone) ?_ (l0 := l) ?_ k]
  · rfl
  · intro k r; show lg114_0 _ _ _ = _; rw [lg114_0_eq]; exact br_neg (by simp [len])
  · intro k i r x hi hr hx e
    have hm := cntL_mem cntMapDone_nn hx
    show lg114_0 _ _ _ = lg114_0 _ _ _
    rw [lg114_0_eq, br_pos (by simp only [len]; omega)]
    obtain ⟨x0, x1, x2, x3, ⟨⟩⟩ := x
    have hm : 1 + (0) ≤ cntL cntMapDone l := hm
    simp (disch := omega) only [inb_set, inb_coe hi, chk_true, toNat_coe, getD_set_at hi, getD_get hi, e, List.set_set, Option.bind_some, DMapDone.Call, DMapDone.Client, DMapDone.Code, DMapDone.Value, DMapDone.withCall, DMapDone.withClient, DMapDone.withCode, DMapDone.withValue, DMapDone.zero]
    rw [show W ((i : Int) + (1 : Int)) = ((i + 1 : Nat) : Int) from wrapS (by omega)]
    simp only [mkMapDone, adv]
theorem heldMapDoneS_is (l : List (DMapDone)) (h : cntL cntMapDone l ≤ 2097152) (k : Int) (h0 : 0 ≤ k) (h1 : k + 1000 * cntL cntMapDone l ≤ 4611686018427387904) : G117 (acc mkMapDone k l).2 k = some ((acc mkMapDone k l).1, ()) := by
  have hl := cntL_nn cntMapDone_nn l
  rw [G117_eq]
  rw [held_gen (f := fun a k i => lg117_0 a k i) (c := cntMapDone) (el := mkMapDone) cntMapDone_nn mkMapDone_cnts ?_ (l0 := l) ?_ k h0 (by omega)]
  · rfl
  · intro a k; show lg117_0 _ _ _ = _; rw [lg117_0_eq]; exact br_neg (by simp [len])
  · intro a k i x hi ha hx h2 h3 e
    have hm := cntL_mem cntMapDone_nn hx
    show lg117_0 _ _ _ = lg117_0 _ _ _
    rw [lg117_0_eq, br_pos (by simp only [len]; omega)]
    simp only [inb_coe hi, chk_true, toNat_coe, getD_get hi, e]
    obtain ⟨x0, x1, x2, x3, ⟨⟩⟩ := x
    have hm : 1 + (0) ≤ cntL cntMapDone l := hm
    have h3 : k + 1000 * (1 + (0)) ≤ 4611686018427387904 := h3
    simp only [mkMapDone, adv, bne_same, br_false, DMapDone.Call, DMapDone.Client, DMapDone.Code, DMapDone.Value, DMapDone.withCall, DMapDone.withClient, DMapDone.withCode, DMapDone.withValue, DMapDone.zero]
    rw [show W ((i : Int) + (1 : Int)) = ((i + 1 : Nat) : Int) from wrapS (by omega)]
def cntMapView (x : DMapView) : Int := 0
theorem cntMapView_nn (x : DMapView) : 0 ≤ cntMapView x := by
  exact Int.le_refl 0
def mkMapView (k : Int) (x : DMapView) : Int × DMapView := (adv 3 k, (adv 0 k, adv 1 k, adv 2 k, ()))
theorem mkMapView_cnts : Cnts cntMapView mkMapView := by
  intro k x h0 h1
  unfold cntMapView at h1 ⊢
  have ee : adv 3 k = k + 3 := adv_eq _ _ (by omega) (by omega)
  have er : (mkMapView k x).1 = adv 3 k := by
    simp only [mkMapView]
  rw [er]; omega
theorem eqMapView_same (x : DMapView) (h : cntMapView x ≤ 2097152) : G159 x x = some (true, ()) := by
  unfold cntMapView at h
  rw [G159_eq]
  simp (disch := omega) only [bne_same, br_false, br_true, Bool.not_true, Option.bind_some, DMapView.A, DMapView.B, DMapView.Num, DMapView.withA, DMapView.withB, DMapView.withNum, DMapView.zero]
theorem eqMapViewS_same (l : List (DMapView)) (h : cntL cntMapView l ≤ 2097152) : G110 l l = some (true, ()) := by
  have hl := cntL_nn cntMapView_nn l
  rw [G110_eq, bne_same, br_false]
  rw [eq_gen (f := fun i => lg110_0 l l i) (N := l.length) ?_ ?_]
  · rfl
  · show lg110_0 _ _ _ = _; rw [lg110_0_eq]; exact br_neg (by simp [len])
  · intro i hi
    have hm := cntL_mem cntMapView_nn (List.getElem_mem hi)
    show lg110_0 _ _ _ = lg110_0 _ _ _
    rw [lg110_0_eq, br_pos (by simp only [len]; omega)]
    simp only [inb_coe hi, chk_true, toNat_coe, getD_get hi]
    rw [eqMapView_same _ (by omega)]
    simp only [Option.bind_some, Bool.not_true, br_false]
    rw [W, wrapS (by omega)]
theorem markMapViewS_is (l : List (DMapView)) (h : cntL cntMapView l ≤ 2097152) (k : Int) : G113 l k = some ((acc mkMapView k l).1, (acc mkMapView k l).2, k, ()) := by
  have hl := cntL_nn cntMapView_nn l
  rw [G113_eq]
  rw [mark_gen (f := fun k i r => lg113_0 k i r) (el := mkMapView) ?_ (l0 := l) ?_ k]
  · rfl
  · intro k r; show lg113_0 _ _ _ = _; rw [lg113_0_eq]; exact br_neg (by simp [len])
  · intro k i r x hi hr hx e
    have hm := cntL_mem cntMapView_nn hx
    show lg113_0 _ _ _ = lg113_0 _ _ _
    rw [lg113_0_eq, br_pos (by simp only [len]; omega)]
    obtain ⟨x0, x1, x2, ⟨⟩⟩ := x
    have hm : 1 + (0) ≤ cntL cntMapView l := hm
    simp (disch := omega) only [inb_set, inb_coe hi, chk_true, toNat_coe, getD_set_at hi, getD_get hi, e, List.set_set, Option.bind_some, DMapView.A, DMapView.B, DMapView.Num, DMapView.withA, DMapView.withB, DMapView.withNum, DMapView.zero]
    rw [show W ((i : Int) + (1 : Int)) = ((i + 1 : Nat) : Int) from wrapS (by omega)]
    simp only [mkMapView, adv]
theorem heldMapViewS_is (l : List (DMapView)) (h : cntL cntMapView l ≤ 2097152) (k : Int) (h0 : 0 ≤ k) (h1 : k + 1000 * cntL cntMapView l ≤ 4611686018427387904) : G116 (acc mkMapView k l).2 k = some ((acc mkMapView k l).1, ()) := by
  have hl := cntL_nn cntMapView_nn l
  rw [G116_eq]
  rw [held_gen (f := fun a k i => lg116_0 a k i) (c := cntMapView) (el := mkMapView) cntMapView_nn mkMapView_cnts ?_ (l0 := l) ?_ k h0 (by omega)]
  · rfl
  · intro a k; show lg116_0 _ _ _ = _; rw [lg116_0_eq]; exact br_neg (by simp [len])
  · intro a k i x hi ha hx h2 h3 e
    have hm := cntL_mem cntMapView_nn hx
    show lg116_0 _ _ _ = lg116_0 _ _ _
    rw [lg116_0_eq, br_pos (by simp only [len]; omega)]
    simp only [inb_coe hi, chk_true, toNat_coe, getD_get hi, e]
    obtain ⟨x0, x1, x2, ⟨⟩⟩ := x
    have hm : 1 + (0) ≤ cntL cntMapView l := hm
    have h3 : k + 1000 * (1 + (0)) ≤ 4611686018427387904 := h3
    simp only [mkMapView, adv, bne_same, br_false, DMapView.A, DMapView.B, DMapView.Num, DMapView.withA, DMapView.withB, DMapView.withNum, DMapView.zero]
    rw [show W ((i : Int) + (1 : Int)) = ((i + 1 : Nat) : Int) from wrapS (by omega)]
def cntMapState (x : DMapState) : Int := cntL cntMapDisk x.2.2.2.1 + cntL cntMapView x.2.2.2.2.1 + cntL cntMapDone x.2.2.2.2.2.1
theorem eqMapState_same (x : DMapState) (h : cntMapState x ≤ 2097152) : G42 x x = some (true, ()) := by
  have h3 := cntL_nn cntMapDisk_nn x.2.2.2.1
  have h4 := cntL_nn cntMapView_nn x.2.2.2.2.1
  have h5 := cntL_nn cntMapDone_nn x.2.2.2.2.2.1
  unfold cntMapState at h
  rw [G42_eq]
  simp (disch := omega) only [bne_same, br_false, br_true, Bool.not_true, Option.bind_some, eqMapDiskS_same, eqMapViewS_same, eqMapDoneS_same, DMapState.Disks, DMapState.Done, DMapState.Next, DMapState.Servers, DMapState.Slots, DMapState.Views, DMapState.withDisks, DMapState.withDone, DMapState.withViews]
def mtMapState (k : Int) (x : DMapState) : Int × DMapState := let z3 := acc mkMapDisk k x.2.2.2.1; let z4 := acc mkMapView z3.1 x.2.2.2.2.1; let z5 := acc mkMapDone z4.1 x.2.2.2.2.2.1; (z5.1, (x.1, x.2.1, x.2.2.1, z3.2, z4.2, z5.2, ()))
theorem mtMapState_le (k : Int) (x : DMapState) (h0 : 0 ≤ k) (h1 : k ≤ 1000000000000) (h : cntMapState x ≤ 2097152) : k ≤ (mtMapState k x).1 ∧ (mtMapState k x).1 ≤ k + 1000 * cntMapState x := by
  unfold cntMapState at h ⊢
  have h_3 := cntL_nn cntMapDisk_nn x.2.2.2.1
  have h_4 := cntL_nn cntMapView_nn x.2.2.2.2.1
  have h_5 := cntL_nn cntMapDone_nn x.2.2.2.2.2.1
  have b3 := acc_le cntMapDisk_nn mkMapDisk_cnts x.2.2.2.1 k (by omega) (by omega)
  generalize ey3 : (acc mkMapDisk k x.2.2.2.1).1 = y3 at b3
  have b4 := acc_le cntMapView_nn mkMapView_cnts x.2.2.2.2.1 y3 (by omega) (by omega)
  generalize ey4 : (acc mkMapView y3 x.2.2.2.2.1).1 = y4 at b4
  have b5 := acc_le cntMapDone_nn mkMapDone_cnts x.2.2.2.2.2.1 y4 (by omega) (by omega)
  generalize ey5 : (acc mkMapDone y4 x.2.2.2.2.2.1).1 = y5 at b5
  have er : (mtMapState k x).1 = y5 := by simp only [mtMapState, ey3, ey4, ey5]
  rw [er]; omega
theorem markMapState_is (x : DMapState) (h : cntMapState x ≤ 2097152) (k : Int) : G45 x k = some (R45.mk (mtMapState k x).1 (mtMapState k x).2 k) := by
  have h_3 := cntL_nn cntMapDisk_nn x.2.2.2.1
  have h_4 := cntL_nn cntMapView_nn x.2.2.2.2.1
  have h_5 := cntL_nn cntMapDone_nn x.2.2.2.2.2.1
  unfold cntMapState at h
  rw [G45_eq]
  simp (disch := omega) only [Option.bind_some, markMapDiskS_is, markMapViewS_is, markMapDoneS_is, DMapState.Disks, DMapState.Done, DMapState.Next, DMapState.Servers, DMapState.Slots, DMapState.Views, DMapState.withDisks, DMapState.withDone, DMapState.withViews]
  rfl
theorem heldMapState_is (x : DMapState) (h : cntMapState x ≤ 2097152) (k : Int) (h0 : 0 ≤ k) (h1 : k ≤ 1000000000) : G46 (mtMapState k x).2 k = some ((mtMapState k x).1, ()) := by
  unfold cntMapState at h
  have h_3 := cntL_nn cntMapDisk_nn x.2.2.2.1
  have h_4 := cntL_nn cntMapView_nn x.2.2.2.2.1
  have h_5 := cntL_nn cntMapDone_nn x.2.2.2.2.2.1
  have b3 := acc_le cntMapDisk_nn mkMapDisk_cnts x.2.2.2.1 k (by omega) (by omega)
  have d3 := heldMapDiskS_is x.2.2.2.1 (by omega) k (by omega) (by omega)
  generalize ey3 : acc mkMapDisk k x.2.2.2.1 = Y3 at b3 d3
  obtain ⟨y3, w3⟩ := Y3
  dsimp only at b3 d3
  have b4 := acc_le cntMapView_nn mkMapView_cnts x.2.2.2.2.1 y3 (by omega) (by omega)
  have d4 := heldMapViewS_is x.2.2.2.2.1 (by omega) y3 (by omega) (by omega)
  generalize ey4 : acc mkMapView y3 x.2.2.2.2.1 = Y4 at b4 d4
  obtain ⟨y4, w4⟩ := Y4
  dsimp only at b4 d4
  have b5 := acc_le cntMapDone_nn mkMapDone_cnts x.2.2.2.2.2.1 y4 (by omega) (by omega)
  have d5 := heldMapDoneS_is x.2.2.2.2.2.1 (by omega) y4 (by omega) (by omega)
  generalize ey5 : acc mkMapDone y4 x.2.2.2.2.2.1 = Y5 at b5 d5
  obtain ⟨y5, w5⟩ := Y5
  dsimp only at b5 d5
  have er : mtMapState k x = (y5, (x.1, x.2.1, x.2.2.1, w3, w4, w5, ())) := by simp only [mtMapState, ey3, ey4, ey5]
  rw [er, G46_eq]
  simp (disch := omega) only [Option.bind_some, br_neg, d3, d4, d5, DMapState.Disks, DMapState.Done, DMapState.Next, DMapState.Servers, DMapState.Slots, DMapState.Views, DMapState.withDisks, DMapState.withDone, DMapState.withViews]
theorem cntL_le {α : Type} {c : α → Int} {B : Int} : ∀ {l : List α}, (∀ x ∈ l, c x ≤ B) → cntL c l ≤ (1 + B) * (l.length : Int)
  | [], _ => by simp [cntL]
  | a :: l, h => by
    have h1 := h a (by simp)
    have h2 := cntL_le (l := l) fun x hx => h x (List.mem_cons_of_mem _ hx)
    simp only [cntL, List.length_cons]
    have e : (1 + B) * (((l.length + 1 : Nat)) : Int) = (1 + B) * (l.length : Int) + (1 + B) := by
      rw [Int.natCast_add, Int.mul_add]; simp
    omega
theorem MOk.cnt {E m0 m1 m2 : Int} {ds : List DMapDisk} {vs : List DMapView} {xs : List DMapDone} (h : MOk E m0 m1 m2 ds vs xs) : cntMapState (m0, m1, m2, ds, vs, xs, ()) ≤ 100 := by
  have h1 := h.dl
  have h2 := h.vl
  have h3 := h.dn.len
  have a1 : cntL cntMapDisk ds ≤ (1 + 2) * (ds.length : Int) := cntL_le fun d hd => by
    have := (h.dk d hd).acks
    show cntL (fun _ => 0) d.2.2.2.2.2.2.1 ≤ 2
    rw [cntL_zero]; omega
  have a2 : cntL cntMapView vs ≤ (1 + 0) * (vs.length : Int) := cntL_le fun d hd => Int.le_refl 0
  have a3 : cntL cntMapDone xs ≤ (1 + 0) * (xs.length : Int) := cntL_le fun d hd => Int.le_refl 0
  show cntL cntMapDisk ds + cntL cntMapView vs + cntL cntMapDone xs ≤ 100
  omega
theorem mapOf_core (list : List DCmd) : ∃ y : DMapState, G39 list = some y ∧ G41 list = some y ∧ cntMapState y ≤ 100 := by
  by_cases hl : list.length ≤ 60
  · obtain ⟨t, e1, e2, e3⟩ := mapOf_both list hl
    obtain ⟨u, e4, h, _⟩ := run_gives list start_SOk (by omega) (by show (0 : Int) + _ ≤ 60; omega)
    rw [e1] at e4
    simp only [Option.some.injEq] at e4
    subst e4
    exact ⟨t, e3, e2, MOk.cnt h⟩
  · refine ⟨((0 : Int), (0 : Int), (0 : Int), [], [], [], ()), ?_, ?_, ?_⟩
    · rw [G39_eq, start_spec]
      simp only [Option.bind_some]
      rw [br_pos (by omega)]
    · rw [G41_eq, br_pos (by omega)]
    · show (0 : Int) ≤ 100; omega
theorem exactMapOf_law (l : List DCmd) (hF : Fit (.sl Cmd) l) : G10 l = some (true, ()) := by
  rw [G10_eq, szCmdS_is _ hF _ (by decide) (by decide)]
  simp only [Option.bind_some]
  by_cases q : cntL cntCmd l ≤ 1048576
  case neg => rw [if_neg q]; rfl
  have q0 := cntL_nn cntCmd_nn l
  rw [if_pos q, br_neg (by omega)]
  obtain ⟨y, e1, e2, hy⟩ := mapOf_core l
  have b1 := acc_le cntCmd_nn mkCmd_cnts l 1 (by omega) (by omega)
  have b2 := mtMapState_le 1 y (by omega) (by omega) (by omega)
  have b3 := heldMapState_is y (by omega) 1 (by omega) (by omega)
  simp only [toCmdS_same l (by omega), Option.bind_some, e1, e2, eqMapState_same y (by omega), eqCmdS_same l (by omega), Bool.not_true, br_false, Option.isSome_some, Bool.true_or, chk_true, Option.getD_some, Bool.or_false]
  rw [markCmdS_is l (by omega), markMapState_is y (by omega)]
  simp only [Option.bind_some]
  have b4 : G46 (((y.withDisks (R45.mk (mtMapState 1 y).1 (mtMapState 1 y).2 1).r1.Disks).withViews (R45.mk (mtMapState 1 y).1 (mtMapState 1 y).2 1).r1.Views).withDone (R45.mk (mtMapState 1 y).1 (mtMapState 1 y).2 1).r1.Done) 1 = some ((mtMapState 1 y).1, ()) := b3
  rw [b4, br_neg (show ¬ (acc mkCmd 1 l).1 < 0 by omega)]
  simp only [Option.bind_some, R45.r0, R45.mk, bne_same, br_false]
  rw [br_neg (show ¬ (mtMapState 1 y).1 < 0 by omega), br_neg (show ¬ (mtMapState 1 y).1 < 0 by omega)]
theorem pure10 (d) (h : Fits _ d) : F10 d = rTrue := by
  obtain ⟨l, ⟨⟩⟩ := d
  exact exactMapOf_law l h.1
end Go.Proofs.Ytaekmccjendfoaa.MO
