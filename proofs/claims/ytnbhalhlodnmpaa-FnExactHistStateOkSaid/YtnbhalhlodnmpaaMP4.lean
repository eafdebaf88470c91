/- HistStateOk as the program's and as the reference's. No condition. -/
import Derived.Test.YtnbhalhlodnmpaaMP2
namespace Go.Proofs.Ytnbhalhlodnmpaa.MG
open Go.PA
set_option linter.unusedSimpArgs false
set_option linter.unusedVariables false

theorem G76_some (a : List DMapDone) (left : Int) : ∃ s, G76 a left = some (s, ()) := by
  rw [G76_eq]; unfold br; split <;> exact ⟨_, rfl⟩
theorem G36_some (a0 a1 : Int) (a2 : List DMapDisk) (a3 : List DMapDone) (left : Int) (ha : a2.length < 9223372036854775807) : ∃ s, G36 a0 a1 a2 a3 left = some (s, ()) := by
  rw [G36_eq]
  obtain ⟨s, hs⟩ := G75_some a2 left ha
  rw [hs]
  simp only [Option.bind_some]
  unfold br
  split
  · exact ⟨_, rfl⟩
  · obtain ⟨s, hs⟩ := G76_some a3 s
    rw [hs]
    simp only [Option.bind_some]
    split <;> exact ⟨_, rfl⟩
theorem lg80_copy (a : List DMapDone) (ha : a.length < 9223372036854775807) (r : List DMapDone) (hr : r.length = a.length) : lg80_0 a (0 : Int) r = some (.inl (a, ())) := by
  refine laid (f := fun k r => lg80_0 a (k : Int) r) ?_ ?_ r hr
  · show lg80_0 _ _ _ = _
    rw [lg80_0_eq]
    simp (disch := omega) only [br_neg]
  · intro k hk r hr
    show lg80_0 _ _ _ = lg80_0 _ _ _
    rw [lg80_0_eq]
    simp (disch := omega) only [br_pos, chk_pos, wrapS, toNat_coe]
    rw [getD_get hk]
    rfl
theorem G80_copy (a : List DMapDone) (ha : a.length * 32 ≤ 140737488351232) : G80 a = some (a, ()) := by
  rw [G80_eq]
  simp (disch := omega) only [chk_pos, toNat_coe]
  rw [lg80_copy a (by omega) _ (by simp)]
  rfl
structure HFit (a0 a1 : Int) (a2 : List DMapDisk) (a3 : List DMapDone) : Prop where
  disk : ∀ x, x ∈ a2 → DiskFit x
  l2 : a2.length * 72 ≤ 140737488351232
  l3 : a3.length * 32 ≤ 140737488351232
theorem HFit.of {a0 a1 : Int} {a2 : List DMapDisk} {a3 : List DMapDone} (h : Fits HistState (a0, a1, a2, a3, ())) : HFit a0 a1 a2 a3 := by
  simp only [HistState, I, Fits, Fit] at h
  exact ⟨h.2.2.1.2, h.2.2.1.1, h.2.2.2.1.1⟩
theorem G38_copy {a0 a1 : Int} {a2 : List DMapDisk} {a3 : List DMapDone} (h : HFit a0 a1 a2 a3) : G38 a0 a1 a2 a3 = some (a0, a1, a2, a3, ()) := by
  rw [G38_eq, G79_copy _ h.disk h.l2]
  simp only [Option.bind_some]
  rw [G80_copy _ h.l3]
  rfl
theorem G93_same (a0 a1 a2 a3 : Int) : G93 a0 a1 a2 a3 a0 a1 a2 a3 = some (true, ()) := by
  rw [G93_eq]
  simp only [bne_self_eq_false, br_false, Option.bind_some, Bool.not_true]
theorem lg63_same (a : List DMapDone) (ha : a.length < 9223372036854775807) : lg63_0 a a (0 : Int) = some (.inl ()) := by
  refine up (N := a.length) (P := fun k => lg63_0 a a (k : Int) = some (.inl ())) ?_ ?_
  · rw [lg63_0_eq]
    simp (disch := omega) only [br_neg]
  · intro k hk ih
    rw [lg63_0_eq]
    simp (disch := omega) only [br_pos, chk_pos, wrapS, toNat_coe]
    rw [G93_same]
    simp only [Option.bind_some, Bool.not_true, br_false]
    exact ih
theorem G63_same (a : List DMapDone) (ha : a.length < 9223372036854775807) : G63 a a = some (true, ()) := by
  rw [G63_eq, lg63_same a ha]
  simp only [bne_self_eq_false, br_false]
  rfl
theorem G28_same {a0 a1 : Int} {a2 : List DMapDisk} {a3 : List DMapDone} (h : HFit a0 a1 a2 a3) : G28 a0 a1 a2 a3 a0 a1 a2 a3 = some (true, ()) := by
  have := h.l2; have := h.l3
  rw [G28_eq, G62_same _ h.disk (by omega), G63_same _ (by omega)]
  simp only [bne_self_eq_false, br_false, Option.bind_some, Bool.not_true]

/-! The order of pieces. -/
def before (p e : DMapDone) : Bool := if (p.1 != e.1) = true then decide (p.1 < e.1) else if (p.2.1 != e.2.1) = true then decide (p.2.1 < e.2.1) else decide (p.2.2.1 < e.2.2.1)
theorem G101_ok (p e : DMapDone) : G101 p.1 p.2.1 p.2.2.1 p.2.2.2.1 e.1 e.2.1 e.2.2.1 = some (before p e, ()) := by
  rw [G101_eq]
  unfold before
  cases (p.1 != e.1)
  · cases (p.2.1 != e.2.1) <;> rfl
  · rfl
def w106 (y : Int) : Option (Sum Unit (Sum (Int × Unit) Empty)) := some (.inr (.inl (y, ())))
theorem lg106_step (l : List (Int × Int × Unit)) (n k : Nat) (hk : k < l.length) (hn : k < n) (hl : l.length < 100) : lg106_0 (n : Int) (k : Int) l =
    br (decide ((l.getD k ((0 : Int), (0 : Int), ())).1 < (l.getD k ((0 : Int), (0 : Int), ())).2.1)) (w106 (-1)) (br (decide ((l.getD k ((0 : Int), (0 : Int), ())).1 > (l.getD k ((0 : Int), (0 : Int), ())).2.1)) (w106 1) (lg106_0 (n : Int) ((k + 1 : Nat) : Int) l)) := by
  rw [lg106_0_eq]
  simp (disch := omega) only [br_pos, chk_pos, wrapS, toNat_coe]
  rfl
theorem G106_ok (p e : DMapDone) : ∃ y, G106 p.1 p.2.1 p.2.2.1 p.2.2.2.1 e.1 e.2.1 e.2.2.1 e.2.2.2.1 = some (y, ()) ∧ decide (y ≥ 0) = !(before p e) := by
  rw [G106_eq]
  have e0 := lg106_step [(p.1, e.1, ()), (p.2.1, e.2.1, ()), (p.2.2.1, e.2.2.1, ())] 3 0 (by simp) (by omega) (by simp)
  have e1 := lg106_step [(p.1, e.1, ()), (p.2.1, e.2.1, ()), (p.2.2.1, e.2.2.1, ())] 3 1 (by simp) (by omega) (by simp)
  have e2 := lg106_step [(p.1, e.1, ()), (p.2.1, e.2.1, ()), (p.2.2.1, e.2.2.1, ())] 3 2 (by simp) (by omega) (by simp)
  have e3 : lg106_0 ((3 : Nat) : Int) ((3 : Nat) : Int) [(p.1, e.1, ()), (p.2.1, e.2.1, ()), (p.2.2.1, e.2.2.1, ())] = some (.inl ()) := by
    rw [lg106_0_eq]; simp (disch := omega) only [br_neg]
  have e0' : lg106_0 (((3) : Nat) : Int) (0 : Int) [(p.1, e.1, ()), (p.2.1, e.2.1, ()), (p.2.2.1, e.2.2.1, ())] = _ := e0
  rw [e0', e1, e2, e3]
  show ∃ y, (br (decide (p.1 < e.1)) (w106 (-1)) (br (decide (p.1 > e.1)) (w106 1) (br (decide (p.2.1 < e.2.1)) (w106 (-1)) (br (decide (p.2.1 > e.2.1)) (w106 1) (br (decide (p.2.2.1 < e.2.2.1)) (w106 (-1)) (br (decide (p.2.2.1 > e.2.2.1)) (w106 1) (some (.inl ()) : Option (Sum Unit (Sum (Int × Unit) Empty))))))))).bind _ = _ ∧ _
  unfold before
  by_cases h1 : p.1 < e.1
  · rw [br_pos h1]
    refine ⟨-1, rfl, ?_⟩
    have : (p.1 != e.1) = true := by simp; omega
    rw [if_pos this, decide_eq_true h1]; rfl
  rw [br_neg h1]
  by_cases h2 : p.1 > e.1
  · rw [br_pos h2]
    refine ⟨1, rfl, ?_⟩
    have : (p.1 != e.1) = true := by simp; omega
    rw [if_pos this, decide_eq_false h1]; rfl
  rw [br_neg h2]
  have e1 : ¬ (p.1 != e.1) = true := by simp; omega
  rw [if_neg e1]
  by_cases h3 : p.2.1 < e.2.1
  · rw [br_pos h3]
    refine ⟨-1, rfl, ?_⟩
    have : (p.2.1 != e.2.1) = true := by simp; omega
    rw [if_pos this, decide_eq_true h3]; rfl
  rw [br_neg h3]
  by_cases h4 : p.2.1 > e.2.1
  · rw [br_pos h4]
    refine ⟨1, rfl, ?_⟩
    have : (p.2.1 != e.2.1) = true := by simp; omega
    rw [if_pos this, decide_eq_false h3]; rfl
  rw [br_neg h4]
  have e2 : ¬ (p.2.1 != e.2.1) = true := by simp; omega
  rw [if_neg e2]
  by_cases h5 : p.2.2.1 < e.2.2.1
  · rw [br_pos h5]
    refine ⟨-1, rfl, ?_⟩
    rw [decide_eq_true h5]; rfl
  rw [br_neg h5, decide_eq_false h5]
  by_cases h6 : p.2.2.1 > e.2.2.1
  · rw [br_pos h6]
    exact ⟨1, rfl, rfl⟩
  · rw [br_neg h6]
    exact ⟨0, rfl, rfl⟩
def pieceOk (e : DMapDone) : Bool := f52 e.1 1 99999 && (f52 e.2.1 0 99999 && (f52 e.2.2.1 1 99999 && f52 e.2.2.2.1 0 99999))
def blkB (a : List DMapDone) : Bool := allF (fun k => pieceOk (atE a k) && !(decide ((k : Int) > 0) && !(before (prevE a k) (atE a k)))) 0 a.length
theorem chk_prev1 {ρ : Type} {k n : Nat} {a : Option ρ} (hk : k < n) (hn : n < 9223372036854775807) : chk ((decide (0 ≤ (IntKind.i64.wrap ((k : Int) - (1 : Int))) ∧ (IntKind.i64.wrap ((k : Int) - (1 : Int))) < ((n : Nat) : Int))) || (!(decide ((k : Int) > (0 : Int))))) a = a := by
  have := chk_prev (ρ := ρ) (X := true) (a := a) hk hn
  rwa [Bool.true_and] at this
theorem lg77_ok (l : List DMapDone) (hl : l.length < 9223372036854775807) : lg77_0 l (0 : Int) = if blkB l = true then some (.inl ()) else some (.inr (.inl (false, ()))) := by
  refine every (f := fun k => lg77_0 l (k : Int)) (N := l.length) ?_ ?_
  · show lg77_0 _ _ = _
    rw [lg77_0_eq]; simp (disch := omega) only [br_neg]
  · intro k hk
    show lg77_0 _ _ = _
    rw [lg77_0_eq]; simp (disch := omega) only [br_pos, chk_pos, wrapS, toNat_coe]
    rw [chk_prev1 hk hl]
    rw [G101_ok (l.getD (IntKind.i64.wrap ((k : Int) - (1 : Int))).toNat ((0 : Int), (0 : Int), (0 : Int), (0 : Int), ())) (l.getD k ((0 : Int), (0 : Int), (0 : Int), (0 : Int), ()))]
    simp only [chk_isSome, Option.getD_some]
    show br ((((!(f52 (atE l k).1 (1 : Int) (99999 : Int))) || (!(f52 (atE l k).2.1 (0 : Int) (99999 : Int)))) || (!(f52 (atE l k).2.2.1 (1 : Int) (99999 : Int)))) || (!(f52 (atE l k).2.2.2.1 (0 : Int) (99999 : Int)))) _ (br ((decide ((k : Int) > (0 : Int))) && (!(before (prevE l k) (atE l k)))) _ _) = _
    unfold pieceOk
    generalize f52 (atE l k).1 (1 : Int) (99999 : Int) = c1
    generalize f52 (atE l k).2.1 (0 : Int) (99999 : Int) = c2
    generalize f52 (atE l k).2.2.1 (1 : Int) (99999 : Int) = c3
    generalize f52 (atE l k).2.2.2.1 (0 : Int) (99999 : Int) = c4
    generalize ((decide ((k : Int) > (0 : Int))) && (!(before (prevE l k) (atE l k)))) = c5
    cases c1 <;> cases c2 <;> cases c3 <;> cases c4 <;> cases c5 <;> rfl
theorem G77_ok (l : List DMapDone) (hl : l.length < 9223372036854775807) : G77 l = some (!(decide (((l.length : Nat) : Int) > 60)) && blkB l, ()) := by
  rw [G77_eq, lg77_ok l hl]
  cases decide (((l.length : Nat) : Int) > 60)
  · cases blkB l <;> rfl
  · rfl
theorem lg82_ok (l : List DMapDone) (hl : l.length < 9223372036854775807) : lg82_0 l l ((l.length : Nat) : Int) (0 : Int) = if blkB l = true then some (.inl (l, ())) else some (.inr (.inl (false, ()))) := by
  refine every (f := fun k => lg82_0 l l ((l.length : Nat) : Int) (k : Int)) (N := l.length) ?_ ?_
  · show lg82_0 _ _ _ _ = _
    rw [lg82_0_eq]; simp (disch := omega) only [br_neg]
  · intro k hk
    show lg82_0 _ _ _ _ = _
    rw [lg82_0_eq]; simp (disch := omega) only [br_pos, chk_pos, wrapS, toNat_coe]
    rw [chk_prev hk hl]
    obtain ⟨y, hy, hyb⟩ := G106_ok (l.getD (IntKind.i64.wrap ((k : Int) - (1 : Int))).toNat ((0 : Int), (0 : Int), (0 : Int), (0 : Int), ())) (l.getD k ((0 : Int), (0 : Int), (0 : Int), (0 : Int), ()))
    simp only [hy, chk_isSome, Option.getD_some, hyb]
    have hff : f53 = f52 := rfl
    rw [hff]
    show br (((((!(f52 (atE l k).1 (1 : Int) (99999 : Int))) || (!(f52 (atE l k).2.2.1 (1 : Int) (99999 : Int)))) || (!(f52 (atE l k).2.1 (0 : Int) (99999 : Int)))) || (!(f52 (atE l k).2.2.2.1 (0 : Int) (99999 : Int)))) || ((decide ((k : Int) > (0 : Int))) && (!(before (prevE l k) (atE l k))))) _ _ = _
    unfold pieceOk
    generalize f52 (atE l k).1 (1 : Int) (99999 : Int) = c1
    generalize f52 (atE l k).2.1 (0 : Int) (99999 : Int) = c2
    generalize f52 (atE l k).2.2.1 (1 : Int) (99999 : Int) = c3
    generalize f52 (atE l k).2.2.2.1 (0 : Int) (99999 : Int) = c4
    generalize ((decide ((k : Int) > (0 : Int))) && (!(before (prevE l k) (atE l k)))) = c5
    cases c1 <;> cases c2 <;> cases c3 <;> cases c4 <;> cases c5 <;> rfl
theorem G82_ok (l : List DMapDone) (hl : l.length < 9223372036854775807) : G82 l = some (!(decide (((l.length : Nat) : Int) > 60)) && blkB l, ()) := by
  rw [G82_eq, lg82_ok l hl]
  have : decide (((l.length : Nat) : Int) ≤ (60 : Int)) = !(decide (((l.length : Nat) : Int) > 60)) := by
    rw [← decide_not]
    exact decide_eq_decide.2 (by omega)
  cases blkB l
  · rw [Bool.and_false]; rfl
  · show some (decide (((l.length : Nat) : Int) ≤ (60 : Int)), ()) = _
    rw [this, Bool.and_true]

theorem allF_and {p q : Nat → Bool} {n : Nat} : ∀ {k : Nat}, allF (fun j => p j && q j) k n = (allF p k n && allF q k n) := by
  induction n with
  | zero => intro k; rfl
  | succ n ih =>
    intro k
    show ((p k && q k) && allF (fun j => p j && q j) (k + 1) n) = ((p k && allF p (k + 1) n) && (q k && allF q (k + 1) n))
    rw [ih]
    cases p k <;> cases q k <;> cases allF p (k + 1) n <;> cases allF q (k + 1) n <;> rfl
def freeD (a : List DMapDisk) : Bool := allF (fun k => !((atD a k).2.2.2.1 != (0 : Int))) 0 a.length
theorem lg37_ok {s0 s1 : Int} {s2 : List DMapDisk} {s3 : List DMapDone} (hf : ∀ x, x ∈ s2 → DiskFit x) (hl : s2.length < 9223372036854775807) :
    lg37_0 (0 : Int) s0 s1 s2 s3 = if (freeD s2 && disksB s0 s2) = true then some (.inl ()) else some (.inr (.inl (false, ()))) := by
  unfold freeD disksB
  rw [← allF_and]
  refine every (f := fun k => lg37_0 (k : Int) s0 s1 s2 s3) (N := s2.length) ?_ ?_
  · show lg37_0 _ _ _ _ _ = _
    rw [lg37_0_eq]; simp (disch := omega) only [br_neg]
  · intro k hk
    show lg37_0 _ _ _ _ _ = _
    have hq := atD_fit hf hk
    unfold atD at hq
    rw [lg37_0_eq]; simp (disch := omega) only [br_pos, chk_pos, chk_or, wrapS, toNat_coe]
    rw [G78_ok _ _ _ _ _ _ _ _ _ _ _ _ _ hq]
    simp only [chk_isSome, Option.getD_some]
    rw [chk_prev hk hl]
    show br (((atD s2 k).2.2.2.1 != (0 : Int)) || (!(diskOk s0 (atD s2 k))) || ((decide ((k : Int) > (0 : Int))) && (decide ((prevD s2 k).1 ≥ (atD s2 k).1)))) _ _ = _
    generalize ((atD s2 k).2.2.2.1 != (0 : Int)) = c1
    generalize diskOk s0 (atD s2 k) = c2
    generalize ((decide ((k : Int) > (0 : Int))) && (decide ((prevD s2 k).1 ≥ (atD s2 k).1))) = c3
    cases c1 <;> cases c2 <;> cases c3 <;> rfl
theorem lg39_ok (s0 s1 : Int) (s2 : List DMapDisk) (s3 : List DMapDone) (hl : s2.length < 9223372036854775807) :
    lg39_0 s2 ((s2.length : Nat) : Int) (0 : Int) s0 s1 s2 s3 = if freeD s2 = true then some (.inl (s0, s1, s2, s3, ())) else some (.inr (.inl (false, ()))) := by
  refine every (f := fun k => lg39_0 s2 ((s2.length : Nat) : Int) (k : Int) s0 s1 s2 s3) (N := s2.length) ?_ ?_
  · show lg39_0 _ _ _ _ _ _ _ = _
    rw [lg39_0_eq]; simp (disch := omega) only [br_neg]
  · intro k hk
    show lg39_0 _ _ _ _ _ _ _ = _
    rw [lg39_0_eq]; simp (disch := omega) only [br_pos, chk_pos, wrapS, toNat_coe]
    exact br_not _
def histB (s0 s1 : Int) (s2 : List DMapDisk) (s3 : List DMapDone) : Bool :=
  freeD s2 && ((f52 s1 3 5 && (f52 s0 1 5 && (!(decide (((s2.length : Nat) : Int) > (4 : Int))) && disksB s0 s2))) && (!(decide (((s3.length : Nat) : Int) > 60)) && blkB s3))
theorem G39_ok {a0 a1 : Int} {a2 : List DMapDisk} {a3 : List DMapDone} (h : HFit a0 a1 a2 a3) : G39 a0 a1 a2 a3 = some (histB a0 a1 a2 a3, ()) := by
  have := h.l2; have := h.l3
  rw [G39_eq, lg39_ok _ _ _ _ (by omega)]
  unfold histB
  cases freeD a2
  · rfl
  · rw [if_pos rfl]
    simp only [Option.bind_some]
    rw [G81_ok _ _ _ h.disk (by omega), G82_ok _ (by omega)]
    simp only [Option.bind_some, chk_isSome, Option.getD_some, Bool.true_and]
theorem G37_ok {a0 a1 : Int} {a2 : List DMapDisk} {a3 : List DMapDone} (h : HFit a0 a1 a2 a3) : G37 a0 a1 a2 a3 = some (histB a0 a1 a2 a3, ()) := by
  have := h.l2; have := h.l3
  rw [G37_eq, G77_ok _ (by omega), lg37_ok h.disk (by omega)]
  unfold histB
  simp only [chk_isSome, Option.getD_some]
  generalize (!(decide (((a3.length : Nat) : Int) > 60)) && blkB a3) = c1
  cases f52 a0 (1 : Int) (5 : Int)
  · cases f52 a1 (3 : Int) (5 : Int) <;> cases freeD a2 <;> rfl
  cases f52 a1 (3 : Int) (5 : Int)
  · cases freeD a2 <;> rfl
  cases decide (((a2.length : Nat) : Int) > (4 : Int))
  · cases c1 <;> cases freeD a2 <;> cases disksB a0 a2 <;> rfl
  · cases freeD a2 <;> rfl
theorem G8_true {a0 a1 : Int} {a2 : List DMapDisk} {a3 : List DMapDone} (h : HFit a0 a1 a2 a3) : G8 a0 a1 a2 a3 = some (true, ()) := by
  have := h.l2
  obtain ⟨s, hs⟩ := G36_some a0 a1 a2 a3 (1048576 : Int) (by omega)
  rw [G8_eq, hs, G38_copy h]
  simp only [Option.bind_some]
  rw [G37_ok h, G39_ok h]
  simp only [Option.bind_some]
  rw [G28_same h]
  simp only [Option.bind_some, beq_self_eq_true, Bool.not_true, br_false, br_same]
theorem pure8 (d) (h : Fits _ d) : F8 d = rTrue := by
  obtain ⟨a0, a1, a2, a3, ⟨⟩⟩ := d
  exact G8_true (HFit.of h)
end Go.Proofs.Ytnbhalhlodnmpaa.MG
