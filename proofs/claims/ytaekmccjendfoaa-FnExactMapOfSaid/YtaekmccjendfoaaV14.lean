/- Typed values: answers made anew, met anywhere: as lists that nobody writes, or as rows. No condition. -/
import Derived.Test.YtaekmccjendfoaaV13
namespace Go.PA

/-! An answer made anew, as a value that nobody writes. -/
mutual
def frC : (t : Ty) → t.D → AV
  | .int k, n => .int k n
  | .bool, b => .bool b
  | .str, s => .str s
  | .sl cs, xs => .lit true (xs.map fun x => frCs cs x)
termination_by structural x => x
def frCs : (ts : List Ty) → Ty.Ds ts → List AV
  | [], _ => []
  | t :: ts, d => frC t d.1 :: frCs ts d.2
termination_by structural x => x
end
theorem All2.map_self {α β : Type} {R : α → β → Prop} {f : α → β} (h : ∀ x, R x (f x)) : ∀ xs : List α, All2 R xs (xs.map f)
  | [] => trivial
  | x :: xs => ⟨h x, All2.map_self h xs⟩
mutual
theorem frC_lit {h : Heap} {Z : List Nat} : ∀ (t : Ty) (x : t.D), LitC h Z t x (frC t x)
  | .int _, x => by simp only [LitC, frC]
  | .bool, x => by simp only [LitC, frC]
  | .str, x => by simp only [LitC, frC]
  | .sl cs, x => by simp only [LitC, frC]; exact .inr (.inl ⟨_, _, rfl, All2.map_self (fun y => frCs_lit cs y) x⟩)
theorem frCs_lit {h : Heap} {Z : List Nat} : ∀ (ts : List Ty) (x : Ty.Ds ts), LitCs h Z ts x (frCs ts x)
  | [], x => by simp only [LitCs, frCs]
  | t :: ts, x => by simp only [LitCs, frCs]; exact ⟨frC_lit t x.1, frCs_lit ts x.2⟩
end
section
variable {h : Heap}
theorem decF_nils (h : Heap) (n : Nat) : decF h n .nils = some (.lit true []) := by cases n <;> rfl
theorem decF_lit0 (h : Heap) (n : Nat) (f : Bool) : decF h n (.lit f []) = some (.lit true []) := by cases n <;> cases f <;> rfl
theorem decF_listS {Z : List Nat} {cs : List Ty} {n : Nat} (ih : ∀ {x : Ty.Ds cs} {as : List AV} {F : List Nat}, OwnCs h Z .S cs x as F → decC (decF h n) as = some (frCs cs x)) : ∀ {xs : List (Ty.Ds cs)} {els : List (List AV)} {F : List Nat}, AllF (fun x y G => OwnCs h Z .S cs x y G) xs els F → decX (decF h n) els = some (xs.map fun x => frCs cs x)
  | [], els, F, H => by obtain ⟨rfl, _⟩ := H.nil_left; rfl
  | x :: xs, [], F, H => H.elim
  | x :: xs, e :: els, F, ⟨F1, F2, _, h1, h2⟩ => by simp only [decX, ih h1, decF_listS ih h2, List.map_cons]
mutual
theorem OwnC.decF {Z : List Nat} : ∀ (t : Ty) {x : t.D} {a : AV} {F : List Nat} {n : Nat}, t.dep ≤ n → OwnC h Z .S t x a F → Go.PA.decF h n a = some (frC t x)
  | .int k, x, a, F, n, _, H => by simp only [OwnC] at H; obtain ⟨rfl, _⟩ := H; simp only [frC]; cases n <;> rfl
  | .bool, x, a, F, n, _, H => by simp only [OwnC] at H; obtain ⟨rfl, _⟩ := H; simp only [frC]; cases n <;> rfl
  | .str, x, a, F, n, _, H => by simp only [OwnC] at H; obtain ⟨rfl, _⟩ := H; simp only [frC]; cases n <;> rfl
  | .sl cs, x, a, F, 0, hn, H => by simp only [Ty.dep] at hn; omega
  | .sl cs, x, a, F, n + 1, hn, H => by
    simp only [Ty.dep] at hn
    simp only [OwnC] at H
    simp only [frC]
    rcases H with ⟨h1, rfl, _⟩ | ⟨h1, _⟩ | ⟨_, r, off, row, N, rfl, h2, h3, h4, h5, _⟩
    · subst h1
      exact decF_nils h _
    · simp at h1
    · have g1 := decF_listS (n := n) (fun H => OwnCs.decF cs (n := n) (by omega) H) h5
      have ha : aels h (.ref r off x.length) = some ((row.el.drop off).take x.length) := by simp only [aels, h2]; rw [if_pos h4]
      simp only [Go.PA.decF, ha, g1]
theorem OwnCs.decF {Z : List Nat} : ∀ (ts : List Ty) {x : Ty.Ds ts} {as : List AV} {F : List Nat} {n : Nat}, Ty.deps ts ≤ n → OwnCs h Z .S ts x as F → decC (Go.PA.decF h n) as = some (frCs ts x)
  | [], x, as, F, n, _, H => by simp only [OwnCs] at H; obtain ⟨rfl, _⟩ := H; simp only [frCs]; rfl
  | t :: ts, x, [], F, n, _, H => by simp only [OwnCs] at H
  | t :: ts, x, a :: as, F, n, hn, H => by
    simp only [Ty.deps] at hn
    simp only [OwnCs] at H
    obtain ⟨F1, F2, _, h1, h2⟩ := H
    simp only [decC, OwnC.decF t (n := n) (by omega) h1, OwnCs.decF ts (n := n) (by omega) h2, frCs]
end
/-- A row of strict rows, as a cell. -/
theorem CellRel.own {Z : List Nat} {t : Ty} {x : t.D} {a : AV} {F : List Nat} (H : CellRel h Z (some .S) t x a F) : OwnC h Z .S t x a F := by
  cases t with
  | sl cs =>
    simp only [CellRel] at H
    obtain ⟨N, h1, rfl⟩ := H
    exact h1.toOwn
  | _ => simp only [CellRel, LitC] at H; simp only [OwnC]; exact H
theorem CellRels.own {Z : List Nat} : ∀ (ts : List Ty) {x : Ty.Ds ts} {as : List AV} {F : List Nat}, CellRels h Z (strict ts) ts x as F → OwnCs h Z .S ts x as F
  | [], x, as, F, H => by simp only [CellRels] at H; simp only [OwnCs]; exact H
  | t :: ts, x, [], F, H => by simp only [CellRels] at H
  | t :: ts, x, a :: as, F, H => by
    simp only [CellRels] at H
    obtain ⟨F1, F2, e, h1, h2⟩ := H
    simp only [OwnCs]
    exact ⟨F1, F2, e, h1.own, CellRels.own ts h2⟩
end

/-! Cells, put together again. -/
def grpA : List PK → List AV → List AV
  | [], _ => []
  | p :: ps, l => (if p.agg then .agg (l.take p.cs.length) else l.headD .bad) :: grpA ps (l.drop p.cs.length)
def grp1A : List AV → AV
  | [v] => v
  | l => .tup l
theorem ACells.grp : ∀ (ps : List PK) {as l : List AV}, ACells ps as l → as = grpA ps l ∧ l.length = (ps.flatMap (·.cs)).length
  | [], [], l, H => by simp only [ACells] at H; subst H; exact ⟨rfl, rfl⟩
  | [], _ :: _, l, H => H.elim
  | _ :: _, [], l, H => H.elim
  | p :: ps, a :: as, l, ⟨c1, c2, e, h1, h2, h3⟩ => by
    obtain ⟨g1, g2⟩ := ACells.grp ps h3
    subst e
    have hd : (c1 ++ c2).drop p.cs.length = c2 := by rw [← h2]; simp
    have ht : (c1 ++ c2).take p.cs.length = c1 := by rw [← h2]; simp
    refine ⟨?_, by simp [h2, g2]⟩
    simp only [grpA, hd, ht]
    rw [← g1]
    split at h1
    · rename_i hp; rw [if_pos hp, h1]
    · rename_i hp; rw [if_neg hp, h1]; rfl
theorem Res1.grp {r : AV} {rs : List AV} (H : Res1 r rs) : r = grp1A rs := by
  rcases H with ⟨a, rfl, rfl⟩ | ⟨h1, rfl⟩
  · rfl
  · cases rs with
    | nil => rfl
    | cons a l => cases l with
      | nil => simp at h1
      | cons => rfl
theorem grp_cells : ∀ (ps : List PK) (l : List AV), (∀ p ∈ ps, p.agg = false → p.cs.length = 1) → l.length = (ps.flatMap (·.cs)).length → ACells ps (grpA ps l) l
  | [], l, _, h => by simp at h; subst h; simp only [grpA, ACells]
  | p :: ps, l, hp, h => by
    simp only [List.flatMap_cons, List.length_append] at h
    refine ⟨l.take p.cs.length, l.drop p.cs.length, (List.take_append_drop _ _).symm, ?_, by rw [List.length_take]; omega, grp_cells ps _ (fun q hq => hp q (List.mem_cons_of_mem _ hq)) (by rw [List.length_drop]; omega)⟩
    cases ha : p.agg with
    | true => simp
    | false =>
      have h1 := hp p List.mem_cons_self ha
      cases l with
      | nil => simp at h; omega
      | cons a l => rw [h1]; simp

theorem grp_decF {h' : Heap} {n : Nat} : ∀ (ps : List PK) {as l tl : List AV}, ACells ps as l → decC (decF h' n) l = some tl → (∀ c t, decF h' n c = some t → decF h' (n + 1) c = some t) → decC (decF h' (n + 1)) as = some (grpA ps tl)
  | [], [], l, tl, H, hd, _ => by simp only [decC, grpA]
  | [], _ :: _, l, tl, H, _, _ => H.elim
  | _ :: _, [], l, tl, H, _, _ => H.elim
  | p :: ps, a :: as, l, tl, ⟨c1, c2, e, h1, h2, h3⟩, hd, hm => by
    subst e
    have split_ : ∀ (c1 c2 tl : List AV), decC (decF h' n) (c1 ++ c2) = some tl → ∃ t1 t2, tl = t1 ++ t2 ∧ decC (decF h' n) c1 = some t1 ∧ decC (decF h' n) c2 = some t2 ∧ t1.length = c1.length := by
      intro c1
      induction c1 with
      | nil => intro c2 tl h; exact ⟨[], tl, rfl, rfl, h, rfl⟩
      | cons c c1 ih =>
        intro c2 tl h
        simp only [List.cons_append, decC] at h
        split at h
        · rename_i t ht
          split at h
          · rename_i ts hts
            obtain ⟨t1, t2, e, g1, g2, g3⟩ := ih c2 ts hts
            simp only [Option.some.injEq] at h
            subst h
            exact ⟨t :: t1, t2, by rw [e]; rfl, by simp only [decC, ht, g1], g2, by simp [g3]⟩
          · cases h
        · cases h
    obtain ⟨t1, t2, rfl, g1, g2, g3⟩ := split_ c1 c2 tl hd
    have ih := grp_decF ps h3 g2 hm
    have hd1 : (t1 ++ t2).drop p.cs.length = t2 := by rw [← h2, ← g3]; simp
    have ht1 : (t1 ++ t2).take p.cs.length = t1 := by rw [← h2, ← g3]; simp
    simp only [decC, grpA, hd1, ht1, ih]
    split at h1
    · rename_i hp
      subst h1
      simp only [decF, g1, hp, if_true]
    · rename_i hp
      subst h1
      simp only [decC] at g1
      split at g1
      · rename_i t ht
        simp only [Option.some.injEq] at g1
        subst g1
        rw [hm _ _ ht, if_neg hp]; rfl
      · cases g1

theorem decF_mono {h' : Heap} : ∀ (n : Nat) (c t : AV), decF h' n c = some t → decF h' (n + 1) c = some t := by
  intro n
  induction n with
  | zero =>
    intro c t H
    cases c with
    | lit f xs => cases xs with
      | nil => cases f <;> exact H
      | cons => cases f <;> simp [decF] at H
    | _ => first | exact H | (simp [decF] at H)
  | succ n ih =>
    intro c t H
    have hC : ∀ (cs ts : List AV), decC (decF h' n) cs = some ts → decC (decF h' (n + 1)) cs = some ts := fun cs ts h => decC_ext ih cs ts h
    have hX : ∀ (cs ts : List (List AV)), decX (decF h' n) cs = some ts → decX (decF h' (n + 1)) cs = some ts := fun cs ts h => decX_ext ih cs ts h
    cases c with
    | lit f xs => cases xs with
      | nil => cases f <;> exact H
      | cons x xs =>
        cases f with
        | false => simp [decF] at H
        | true =>
          simp only [decF] at H
          cases h1 : decX (decF h' n) (x :: xs) with
          | none => rw [h1] at H; cases H
          | some ts =>
            rw [h1] at H
            have := hX _ _ h1
            show decF h' (n + 1 + 1) (.lit true (x :: xs)) = _
            simp only [decF] at this ⊢
            rw [this]; exact H
    | agg cs =>
      simp only [decF] at H
      cases h1 : decC (decF h' n) cs with
      | none => rw [h1] at H; cases H
      | some ts =>
        rw [h1] at H
        have := hC _ _ h1
        show decF h' (n + 1 + 1) (.agg cs) = _
        simp only [decF] at this ⊢
        rw [this]; exact H
    | tup cs =>
      simp only [decF] at H
      cases h1 : decC (decF h' n) cs with
      | none => rw [h1] at H; cases H
      | some ts =>
        rw [h1] at H
        have := hC _ _ h1
        show decF h' (n + 1 + 1) (.tup cs) = _
        simp only [decF] at this ⊢
        rw [this]; exact H
    | ref r off len =>
      simp only [decF] at H
      cases h0 : aels h' (.ref r off len) with
      | none => rw [h0] at H; cases H
      | some els =>
        rw [h0] at H
        simp only at H
        cases h1 : decX (decF h' n) els with
        | none => rw [h1] at H; cases H
        | some ts =>
          rw [h1] at H
          have := hX _ _ h1
          show decF h' (n + 1 + 1) (.ref r off len) = _
          simp only [decF, h0] at this ⊢
          rw [this]; exact H
    | _ => first | exact H | (simp [decF] at H)
theorem decF_le {h' : Heap} {n k : Nat} (hk : n ≤ k) {c t : AV} (H : decF h' n c = some t) : decF h' k c = some t := by
  induction hk with
  | refl => exact H
  | step _ ih => exact decF_mono _ _ _ ih

theorem res_decF {h' : Heap} {Z : List Nat} {rsP : List PK} {r : AV} {rs l : List AV} {F : List Nat} {y : Ty.Ds (rsP.flatMap (·.cs))} (hdep : Ty.deps (rsP.flatMap (·.cs)) ≤ 7) (h1 : Res1 r rs) (h2 : ACells rsP rs l) (h3 : CellRels h' Z (strict (rsP.flatMap (·.cs))) (rsP.flatMap (·.cs)) y l F) :
    decF h' 9 r = some (grp1A (grpA rsP (frCs _ y))) := by
  have a1 := OwnCs.decF _ hdep (CellRels.own _ h3)
  have a2 := grp_decF rsP h2 a1 (decF_mono 7)
  rcases h1 with ⟨a, rfl, rfl⟩ | ⟨hne, rfl⟩
  · simp only [decC] at a2
    split at a2
    · rename_i t ht
      simp only [Option.some.injEq] at a2
      rw [← a2]
      exact decF_mono _ _ _ ht
    · cases a2
  · have hl : rs.length = (grpA rsP (frCs _ y)).length := by rw [(decC_get _ _ a2).1]
    simp only [decF, a2]
    congr 1
    generalize grpA rsP (frCs _ y) = g at *
    cases g with
    | nil => rfl
    | cons a l => cases l with
      | nil => simp at hl; exact absurd hl hne
      | cons => rfl

/-- A call that makes its answer anew, by its contract. -/
theorem CtrOk.fr {P : Program} {f : FuncId} {c : Ctr} (H : CtrOk P f c) (hf : c.fresh = true) {d : Ty.Ds (c.ps.flatMap (·.cs))} {y : Ty.Ds (c.rs.flatMap (·.cs))} (hy : c.fn d = some y) {ts tl : List AV} (h1 : ACells c.ps ts tl) (h2 : L0s _ d tl) :
    FR P f ts (grp1A (grpA c.rs (frCs _ y))) := by
  unfold CtrOk at H
  rw [hf] at H
  exact ⟨(H.2 d y hy ts tl h1 h2).mono fun r h' ⟨rs, l, F, k1, k2, k3, _⟩ => res_decF H.1.1 k1 k2 k3⟩

theorem seen_of_dec {h : Heap} {k : Nat} {a t : AV} (H : dec h k a = some t) : Seen h a t := fun h' X => dec_view h' k a t (dec_ext X k a t H)
/-- Arguments, seen. -/
theorem ACells.seens {h : Heap} {n : Nat} : ∀ (ps : List PK) {as l tl : List AV}, ACells ps as l → decC (dec h n) l = some tl → ACells ps (grpA ps tl) tl ∧ Seens h as (grpA ps tl)
  | [], [], l, tl, H, hd => by
    simp only [ACells] at H
    subst H
    simp only [decC, Option.some.injEq] at hd
    subst hd
    exact ⟨rfl, trivial⟩
  | [], _ :: _, l, tl, H, _ => H.elim
  | _ :: _, [], l, tl, H, _ => H.elim
  | p :: ps, a :: as, l, tl, ⟨c1, c2, e, h1, h2, h3⟩, hd => by
    subst e
    have split_ : ∀ (c1 c2 tl : List AV), decC (dec h n) (c1 ++ c2) = some tl → ∃ t1 t2, tl = t1 ++ t2 ∧ decC (dec h n) c1 = some t1 ∧ decC (dec h n) c2 = some t2 ∧ t1.length = c1.length := by
      intro c1
      induction c1 with
      | nil => intro c2 tl h; exact ⟨[], tl, rfl, rfl, h, rfl⟩
      | cons c c1 ih =>
        intro c2 tl h
        simp only [List.cons_append, decC] at h
        split at h
        · rename_i t ht
          split at h
          · rename_i ts hts
            obtain ⟨t1, t2, e, g1, g2, g3⟩ := ih c2 ts hts
            simp only [Option.some.injEq] at h
            subst h
            exact ⟨t :: t1, t2, by rw [e]; rfl, by simp only [decC, ht, g1], g2, by simp [g3]⟩
          · cases h
        · cases h
    obtain ⟨t1, t2, rfl, g1, g2, g3⟩ := split_ c1 c2 tl hd
    obtain ⟨i1, i2⟩ := ACells.seens ps h3 g2
    have hd1 : (t1 ++ t2).drop p.cs.length = t2 := by rw [← h2, ← g3]; simp
    have ht1 : (t1 ++ t2).take p.cs.length = t1 := by rw [← h2, ← g3]; simp
    simp only [grpA, hd1, ht1]
    refine ⟨⟨t1, t2, rfl, ?_, by rw [g3, h2], i1⟩, ?_, i2⟩
    · split at h1
      · rename_i hp; rw [if_pos hp, if_pos hp]
      · rename_i hp
        rw [if_neg hp, if_neg hp]
        subst h1
        cases t1 with
        | nil => simp at g3
        | cons t t1 => cases t1 with
          | nil => rfl
          | cons => simp at g3
    · split at h1
      · rename_i hp
        subst h1
        rw [if_pos hp]
        exact seen_of_dec (k := n + 1) (by simp only [dec, g1])
      · rename_i hp
        subst h1
        rw [if_neg hp]
        simp only [decC] at g1
        split at g1
        · rename_i t ht
          simp only [Option.some.injEq] at g1
          subst g1
          exact seen_of_dec ht
        · cases g1
end Go.PA
