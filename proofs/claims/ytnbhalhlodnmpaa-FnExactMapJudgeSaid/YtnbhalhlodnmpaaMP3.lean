/- Map laws: MapTarget, MapSettled, MapJudge as the program's and as the reference's. No condition. -/
import Derived.Test.YtnbhalhlodnmpaaMP2
namespace Go.Proofs.Ytnbhalhlodnmpaa.MG
open Go.PA
set_option linter.unusedSimpArgs false
set_option linter.unusedVariables false

theorem br_place {ρ : Type} (c1 c2 c3 c4 : Bool) {x y : Option ρ} : br (((!c1) || (!c2)) && ((!c3) || (!c4))) x y = if ((c1 && c2) || (c3 && c4)) = true then y else x := by cases c1 <;> cases c2 <;> cases c3 <;> cases c4 <;> rfl
theorem mapB_m1 {a0 a1 a2 : Int} {a3 : List DMapDisk} {a4 : List DMapView} {a5 : List DMapDone} (h : mapB a0 a1 a2 a3 a4 a5 = true) : (a1 == 0) = false ∧ a4.length = 3 := by
  unfold mapB at h
  simp only [Bool.and_eq_true, Bool.not_eq_true', bne_eq_false_iff_eq] at h
  obtain ⟨h0, h1, h2, h3, h4, h5⟩ := h
  unfold f52 at h1
  simp only [Bool.and_eq_true, decide_eq_true_eq] at h1
  refine ⟨?_, ?_⟩
  · simp; omega
  · omega
def tgt (b : Bool) (m1 r : Int) : Int × Int × Unit := if (b && f52 r 0 2) = true then ((r.tmod m1), ((IntKind.i64.wrap (r + (1 : Int))).tmod m1), ()) else ((0 : Int), (0 : Int), ())
theorem tgt_ok {a0 a1 a2 : Int} {a3 : List DMapDisk} {a4 : List DMapView} {a5 : List DMapDone} (r : Int) : (br ((!(mapB a0 a1 a2 a3 a4 a5)) || (!(f52 r (0 : Int) (2 : Int)))) (some ((0 : Int), (0 : Int), ())) (chk (!(a1 == 0)) (chk (!(a1 == 0)) (some ((r.tmod a1), ((IntKind.i64.wrap (r + (1 : Int))).tmod a1), ())))))
    = some (tgt (mapB a0 a1 a2 a3 a4 a5) a1 r) := by
  unfold tgt
  cases h : mapB a0 a1 a2 a3 a4 a5
  · rfl
  · rw [(mapB_m1 h).1]
    cases f52 r 0 2 <;> rfl
theorem G44_ok {a0 a1 a2 : Int} {a3 : List DMapDisk} {a4 : List DMapView} {a5 : List DMapDone} (h : MFit a0 a1 a2 a3 a4 a5) (r : Int) : G44 a0 a1 a2 a3 a4 a5 r = some (tgt (mapB a0 a1 a2 a3 a4 a5) a1 r) := by
  rw [G44_eq, G41_ok h]
  exact tgt_ok r
theorem G45_ok {a0 a1 a2 : Int} {a3 : List DMapDisk} {a4 : List DMapView} {a5 : List DMapDone} (h : MFit a0 a1 a2 a3 a4 a5) (r : Int) : G45 a0 a1 a2 a3 a4 a5 r = some (tgt (mapB a0 a1 a2 a3 a4 a5) a1 r) := by
  rw [G45_eq, G43_ok h]
  exact tgt_ok r
theorem G10_true {a0 a1 a2 : Int} {a3 : List DMapDisk} {a4 : List DMapView} {a5 : List DMapDone} (h : MFit a0 a1 a2 a3 a4 a5) (r : Int) : G10 a0 a1 a2 a3 a4 a5 r = some (true, ()) := by
  have h3 := h.l3
  obtain ⟨s, hs⟩ := G40_some a0 a1 a2 a3 a4 a5 (1048576 : Int) (by omega)
  rw [G10_eq, hs, G42_copy h]
  simp only [Option.bind_some]
  rw [G44_ok h, G45_ok h]
  simp only [Option.bind_some]
  rw [G33_same h]
  simp only [Option.bind_some, bne_self_eq_false, Bool.or_self, Bool.not_true, br_false, br_same]
theorem pure10 (d) (h : Fits _ d) : F10 d = rTrue := by
  obtain ⟨a0, a1, a2, a3, a4, a5, r, ⟨⟩⟩ := d
  refine G10_true (MFit.of ?_) r
  have h' : Fits [I, I, I, (.sl MapDisk), (.sl MapView), (.sl MapDone), I] (a0, a1, a2, a3, a4, a5, r, ()) := h
  show Fits [I, I, I, (.sl MapDisk), (.sl MapView), (.sl MapDone)] _
  simp only [Fits] at h' ⊢
  exact ⟨h'.1, h'.2.1, h'.2.2.1, h'.2.2.2.1, h'.2.2.2.2.1, h'.2.2.2.2.2.1, trivial⟩

def freeB (a : List DMapDisk) : Bool := allF (fun k => !((atD a k).2.2.2.1 != (0 : Int))) 0 a.length
def placeB (b : Bool) (m1 : Int) (a : List DMapView) : Bool := allF (fun k => let e : DMapView := a.getD k ((0 : Int), (0 : Int), (0 : Int), ()); (((e.2.1 == (tgt b m1 (k : Int)).1) && (e.2.2.1 == (tgt b m1 (k : Int)).2.1)) || ((e.2.1 == (tgt b m1 (k : Int)).2.1) && (e.2.2.1 == (tgt b m1 (k : Int)).1)))) 0 3
theorem lg46_1_ok (x0 x1 x2 : Int) (x3 : List DMapDisk) (x4 : List DMapView) (x5 : List DMapDone) (hl : x3.length < 9223372036854775807) :
    lg46_1 (0 : Int) x0 x1 x2 x3 x4 x5 = if freeB x3 = true then some (.inl ()) else some (.inr (.inl (false, ()))) := by
  refine every (f := fun k => lg46_1 (k : Int) x0 x1 x2 x3 x4 x5) (N := x3.length) ?_ ?_
  · show lg46_1 _ _ _ _ _ _ _ = _
    rw [lg46_1_eq]; simp (disch := omega) only [br_neg]
  · intro k hk
    show lg46_1 _ _ _ _ _ _ _ = _
    rw [lg46_1_eq]; simp (disch := omega) only [br_pos, chk_pos, chk_or, wrapS, toNat_coe]
    exact br_not _
theorem lg47_0_ok (x0 x1 x2 : Int) (x3 : List DMapDisk) (x4 : List DMapView) (x5 : List DMapDone) (hl : x3.length < 9223372036854775807) :
    lg47_0 x3 ((x3.length : Nat) : Int) (0 : Int) x0 x1 x2 x3 x4 x5 = if freeB x3 = true then some (.inl (x0, x1, x2, x3, x4, x5, ())) else some (.inr (.inl (false, ()))) := by
  refine every (f := fun k => lg47_0 x3 ((x3.length : Nat) : Int) (k : Int) x0 x1 x2 x3 x4 x5) (N := x3.length) ?_ ?_
  · show lg47_0 _ _ _ _ _ _ _ _ _ = _
    rw [lg47_0_eq]; simp (disch := omega) only [br_neg]
  · intro k hk
    show lg47_0 _ _ _ _ _ _ _ _ _ = _
    rw [lg47_0_eq]; simp (disch := omega) only [br_pos, chk_pos, chk_or, wrapS, toNat_coe]
    exact br_not _
theorem lg46_0_ok {x0 x1 x2 : Int} {x3 : List DMapDisk} {x4 : List DMapView} {x5 : List DMapDone} (h : MFit x0 x1 x2 x3 x4 x5) (hl : x4.length = 3) :
    lg46_0 (0 : Int) x0 x1 x2 x3 x4 x5 = if placeB (mapB x0 x1 x2 x3 x4 x5) x1 x4 = true then some (.inl (x0, x1, x2, x3, x4, x5, ())) else some (.inr (.inl (false, ()))) := by
  refine every (f := fun k => lg46_0 (k : Int) x0 x1 x2 x3 x4 x5) (N := 3) ?_ ?_
  · show lg46_0 _ _ _ _ _ _ _ = _
    rw [lg46_0_eq]; simp (disch := omega) only [br_neg]
  · intro k hk
    show lg46_0 _ _ _ _ _ _ _ = _
    rw [lg46_0_eq, G44_ok h]; simp (disch := omega) only [br_pos, chk_pos, chk_or, wrapS, toNat_coe, Option.bind_some]
    refine (br_not _).trans ?_
    rw [Bool.not_not]
theorem lg47_1_ok {x0 x1 x2 : Int} {x3 : List DMapDisk} {x4 : List DMapView} {x5 : List DMapDone} (h : MFit x0 x1 x2 x3 x4 x5) (hl : x4.length = 3) :
    lg47_1 x4 ((x4.length : Nat) : Int) (0 : Int) x0 x1 x2 x3 x4 x5 = if placeB (mapB x0 x1 x2 x3 x4 x5) x1 x4 = true then some (.inl ()) else some (.inr (.inl (false, ()))) := by
  refine every (f := fun k => lg47_1 x4 ((x4.length : Nat) : Int) (k : Int) x0 x1 x2 x3 x4 x5) (N := 3) ?_ ?_
  · show lg47_1 _ _ _ _ _ _ _ _ _ = _
    rw [lg47_1_eq]; simp (disch := omega) only [br_neg]
  · intro k hk
    show lg47_1 _ _ _ _ _ _ _ _ _ = _
    rw [lg47_1_eq, G45_ok h]; simp (disch := omega) only [br_pos, chk_pos, chk_or, wrapS, toNat_coe, Option.bind_some]
    simp only [bne]
    exact br_place _ _ _ _
def settB (x0 x1 x2 : Int) (x3 : List DMapDisk) (x4 : List DMapView) (x5 : List DMapDone) : Bool := mapB x0 x1 x2 x3 x4 x5 && (placeB (mapB x0 x1 x2 x3 x4 x5) x1 x4 && freeB x3)
theorem G46_ok {a0 a1 a2 : Int} {a3 : List DMapDisk} {a4 : List DMapView} {a5 : List DMapDone} (h : MFit a0 a1 a2 a3 a4 a5) : G46 a0 a1 a2 a3 a4 a5 = some (settB a0 a1 a2 a3 a4 a5, ()) := by
  have h3 := h.l3
  rw [G46_eq, G41_ok h]
  unfold settB
  cases hm : mapB a0 a1 a2 a3 a4 a5
  · rfl
  · have hl := (mapB_m1 hm).2
    show (lg46_0 (0 : Int) a0 a1 a2 a3 a4 a5).bind _ = _
    rw [lg46_0_ok h hl, hm]
    cases placeB true a1 a4
    · rfl
    show (lg46_1 (0 : Int) a0 a1 a2 a3 a4 a5).bind _ = _
    rw [lg46_1_ok _ _ _ _ _ _ (by omega)]
    cases freeB a3 <;> rfl
theorem G47_ok {a0 a1 a2 : Int} {a3 : List DMapDisk} {a4 : List DMapView} {a5 : List DMapDone} (h : MFit a0 a1 a2 a3 a4 a5) : G47 a0 a1 a2 a3 a4 a5 = some (settB a0 a1 a2 a3 a4 a5, ()) := by
  have h3 := h.l3
  rw [G47_eq, G43_ok h]
  unfold settB
  cases hm : mapB a0 a1 a2 a3 a4 a5
  · rfl
  · have hl := (mapB_m1 hm).2
    show (lg47_0 a3 ((a3.length : Nat) : Int) (0 : Int) a0 a1 a2 a3 a4 a5).bind _ = _
    rw [lg47_0_ok _ _ _ _ _ _ (by omega)]
    cases freeB a3
    · cases placeB true a1 a4 <;> rfl
    show (lg47_1 a4 ((a4.length : Nat) : Int) (0 : Int) a0 a1 a2 a3 a4 a5).bind _ = _
    rw [lg47_1_ok h hl, hm]
    cases placeB true a1 a4 <;> rfl
theorem G11_true {a0 a1 a2 : Int} {a3 : List DMapDisk} {a4 : List DMapView} {a5 : List DMapDone} (h : MFit a0 a1 a2 a3 a4 a5) : G11 a0 a1 a2 a3 a4 a5 = some (true, ()) := by
  have h3 := h.l3
  obtain ⟨s, hs⟩ := G40_some a0 a1 a2 a3 a4 a5 (1048576 : Int) (by omega)
  rw [G11_eq, hs, G42_copy h]
  simp only [Option.bind_some]
  rw [G46_ok h, G47_ok h]
  simp only [Option.bind_some]
  rw [G33_same h]
  simp only [Option.bind_some, beq_self_eq_true, Bool.not_true, br_false, br_same]
theorem pure11 (d) (h : Fits _ d) : F11 d = rTrue := by
  obtain ⟨a0, a1, a2, a3, a4, a5, ⟨⟩⟩ := d
  exact G11_true (MFit.of h)

theorem lg89_109 (id x0 x1 x2 : Int) (x3 : List DMapDisk) (x4 : List DMapView) (x5 : List DMapDone) (hl : x3.length < 9223372036854775807) :
    lg89_0 id (0 : Int) x0 x1 x2 x3 x4 x5 = lg109_0 id x3 ((x3.length : Nat) : Int) (0 : Int) := by
  refine up (N := x3.length) (P := fun k => lg89_0 id (k : Int) x0 x1 x2 x3 x4 x5 = lg109_0 id x3 ((x3.length : Nat) : Int) (k : Int)) ?_ ?_
  · rw [lg89_0_eq, lg109_0_eq]; simp (disch := omega) only [br_neg]
  · intro k hk ih
    rw [lg89_0_eq, lg109_0_eq]; simp (disch := omega) only [br_pos, chk_pos, wrapS, toNat_coe]
    rw [ih]
theorem lg109_in (id : Int) (x3 : List DMapDisk) (hl : x3.length < 9223372036854775807) : ∃ o, lg109_0 id x3 ((x3.length : Nat) : Int) (0 : Int) = some o ∧ ∀ y, o = .inr (.inl y) → y.1 < ((x3.length : Nat) : Int) := by
  refine up (N := x3.length) (P := fun k => ∃ o, lg109_0 id x3 ((x3.length : Nat) : Int) (k : Int) = some o ∧ ∀ y, o = .inr (.inl y) → y.1 < ((x3.length : Nat) : Int)) ?_ ?_
  · rw [lg109_0_eq]; simp (disch := omega) only [br_neg]
    exact ⟨_, rfl, fun y h => by cases h⟩
  · intro k hk ih
    rw [lg109_0_eq]; simp (disch := omega) only [br_pos, chk_pos, wrapS, toNat_coe]
    unfold br
    split
    · exact ⟨_, rfl, fun y h => by cases h; show (k : Int) < _; omega⟩
    · exact ih
theorem G109_in (id : Int) (x3 : List DMapDisk) (hl : x3.length < 9223372036854775807) : ∃ y, G109 x3 id = some (y, ()) ∧ y < ((x3.length : Nat) : Int) := by
  obtain ⟨o, ho, hy⟩ := lg109_in id x3 hl
  rw [G109_eq, ho]
  match o, hy with
  | .inl _, _ => exact ⟨_, rfl, by omega⟩
  | .inr (.inl y), hy => exact ⟨_, rfl, hy y rfl⟩
theorem G89_109 (id x0 x1 x2 : Int) (x3 : List DMapDisk) (x4 : List DMapView) (x5 : List DMapDone) (hl : x3.length < 9223372036854775807) : G89 x0 x1 x2 x3 x4 x5 id = G109 x3 id := by
  rw [G89_eq, G109_eq, lg89_109 _ _ _ _ _ _ _ hl]
theorem G48_49 {a0 a1 a2 : Int} {a3 : List DMapDisk} {a4 : List DMapView} {a5 : List DMapDone} (h : MFit a0 a1 a2 a3 a4 a5) (d b e : Int) (w : Bool) : ∃ s, G48 a0 a1 a2 a3 a4 a5 d b e w = some (s, ()) ∧ G49 a0 a1 a2 a3 a4 a5 d b e w = some (s, ()) := by
  have h3 := h.l3
  rw [G48_eq, G49_eq, G41_ok h, G43_ok h, G90_eq, G89_109 _ _ _ _ _ _ _ (by omega)]
  simp only [Option.bind_some]
  cases mapB a0 a1 a2 a3 a4 a5
  · exact ⟨_, rfl, rfl⟩
  · simp only [Bool.not_true, br_false]
    obtain ⟨y, hy, hlt⟩ := G109_in d a3 (by omega)
    rw [hy]
    simp only [Option.bind_some]
    by_cases hn : y < 0
    · simp only [br_pos hn]
      exact ⟨_, rfl, rfl⟩
    · have hr : 0 ≤ y ∧ y < ((a3.length : Nat) : Int) := ⟨by omega, hlt⟩
      have hff : f53 = f52 := rfl
      rw [hff]
      simp only [br_neg hn, chk_pos hr, chk_or hr]
      generalize f52 b (0 : Int) (IntKind.i64.wrap ((a3.getD y.toNat ((0 : Int), (0 : Int), (0 : Int), (0 : Int), (0 : Int), (0 : Int), [], ())).2.1 - (1 : Int))) = c1
      generalize f52 e (1 : Int) (IntKind.i64.wrap ((a3.getD y.toNat ((0 : Int), (0 : Int), (0 : Int), (0 : Int), (0 : Int), (0 : Int), [], ())).2.2.1 - (1 : Int))) = c2
      generalize ((!w) && (e != (0 : Int))) = c3
      cases c1 <;> cases c2 <;> cases c3 <;> exact ⟨_, rfl, rfl⟩
theorem G12_true {a0 a1 a2 : Int} {a3 : List DMapDisk} {a4 : List DMapView} {a5 : List DMapDone} (h : MFit a0 a1 a2 a3 a4 a5) (d b e : Int) (w : Bool) : G12 a0 a1 a2 a3 a4 a5 d b e w = some (true, ()) := by
  have h3 := h.l3
  obtain ⟨s, hs⟩ := G40_some a0 a1 a2 a3 a4 a5 (1048576 : Int) (by omega)
  obtain ⟨s', k1, k2⟩ := G48_49 h d b e w
  rw [G12_eq, hs, G42_copy h]
  simp only [Option.bind_some]
  rw [k1, k2]
  simp only [Option.bind_some]
  rw [G33_same h]
  simp only [Option.bind_some, bne_self_eq_false, Bool.not_true, br_false, br_same]
theorem pure12 (d) (h : Fits _ d) : F12 d = rTrue := by
  obtain ⟨a0, a1, a2, a3, a4, a5, r, b, e, w, ⟨⟩⟩ := d
  refine G12_true (MFit.of ?_) r b e w
  have h' : Fits [I, I, I, (.sl MapDisk), (.sl MapView), (.sl MapDone), I, I, I, .bool] (a0, a1, a2, a3, a4, a5, r, b, e, w, ()) := h
  show Fits [I, I, I, (.sl MapDisk), (.sl MapView), (.sl MapDone)] _
  simp only [Fits] at h' ⊢
  exact ⟨h'.1, h'.2.1, h'.2.2.1, h'.2.2.2.1, h'.2.2.2.2.1, h'.2.2.2.2.2.1, trivial⟩
end Go.Proofs.Ytnbhalhlodnmpaa.MG
