/- Structs and lists that are built out of parts. No condition. -/
import Derived.Test.YtaekmccjendfoaaK8
namespace Go.PA
section
variable {P : Program} {w : World} {m : Maps} {h : Heap}

theorem run_mapML {α β : Type} (f : α → Sem β) (g : α → β) (w2 : World) : ∀ (l : List α), (∀ x ∈ l, (f x).run P w2 = .ok (g x) w2) → (l.mapM f).run P w2 = .ok (l.map g) w2
  | [], _ => rfl
  | x :: l, hf => by
    rw [List.mapM_cons, Sem.run_bind, hf x List.mem_cons_self]
    simp only [Result.andThen_ok]
    rw [Sem.run_bind, run_mapML f g w2 l fun y hy => hf y (List.mem_cons_of_mem _ hy)]
    rfl
theorem run_mapM {α β : Type} (f : α → Sem β) (g : α → β) (as : Array α) (w2 : World) (hf : ∀ x ∈ as, (f x).run P w2 = .ok (g x) w2) : (as.mapM f).run P w2 = .ok (as.map g) w2 := by
  obtain ⟨l⟩ := as
  rw [List.mapM_toArray]
  have := run_mapML (P := P) f g w2 l fun x hx => hf x (by simpa using hx)
  show (List.mapM f l >>= fun x => pure x.toArray).run P w2 = _
  rw [Sem.run_bind, this]
  simp

/-- Cells that stand for plain cells. -/
def CR (w : World) (m : Maps) (h : Heap) (vs : List Value) (cs : List AV) : Prop :=
  vs.length = cs.length ∧ (∀ v ∈ vs, cellV v = true) ∧ ∀ (j : Nat) v c, vs[j]? = some v → cs[j]? = some c → VR w m h v c

theorem CR.set {vs : List Value} {cs : List AV} (H : CR w m h vs cs) (i : Nat) {v : Value} {c : AV} (hv : cellV v = true) (hr : VR w m h v c) : CR w m h (vs.set i v) (cs.set i c) := by
  refine ⟨by simp [H.1], fun x hx => ?_, fun j x y h1 h2 => ?_⟩
  · rcases List.mem_or_eq_of_mem_set hx with hx | rfl
    · exact H.2.1 x hx
    · exact hv
  · by_cases hji : j = i
    · subst hji
      have hlt : j < cs.length := by have := (List.getElem?_eq_some_iff.1 h2).1; simpa using this
      rw [List.getElem?_set_self hlt] at h2
      rw [List.getElem?_set_self (by rw [H.1]; exact hlt)] at h1
      cases h1; cases h2; exact hr
    · rw [List.getElem?_set_ne (fun e => hji e.symm)] at h1 h2
      exact H.2.2 j x y h1 h2

theorem CR.splice (us : List Value) : ∀ (ds : List AV) (vs : List Value) (cs : List AV) (off : Nat), CR w m h vs cs → CR w m h us ds → CR w m h (spliceV vs off us) (splice cs off ds) := by
  induction us with
  | nil =>
    intro ds vs cs off H U
    cases ds with
    | nil => exact H
    | cons d ds => have := U.1; simp at this
  | cons u us ih =>
    intro ds vs cs off H U
    cases ds with
    | nil => have := U.1; simp at this
    | cons d ds =>
      have h0 := U.2.2 0 u d rfl rfl
      refine ih ds _ _ (off + 1) (H.set off (U.2.1 u List.mem_cons_self) h0) ⟨by have := U.1; simpa using this, fun v hv => U.2.1 v (List.mem_cons_of_mem _ hv), fun j v c h1 h2 => U.2.2 (j + 1) v c (by simpa using h1) (by simpa using h2)⟩

theorem splice_len (ds : List AV) : ∀ (cs : List AV) (off : Nat), (splice cs off ds).length = cs.length := by
  induction ds with
  | nil => intro cs off; rfl
  | cons d ds ih => intro cs off; show (splice (cs.set off d) (off + 1) ds).length = _; rw [ih]; simp

theorem cells_CR {v : Value} {a : AV} {cs : List AV} (hv : VR w m h v a) (hc : acells a = some cs) : CR w m h v.cells.toList cs := by
  obtain ⟨h1, h2, h3⟩ := cells_rel hv hc
  refine ⟨by simpa using h1, fun x hx => ?_, fun j x c e1 e2 => h3 j x c (by simpa using e1) e2⟩
  obtain ⟨j, hj⟩ := List.mem_iff_getElem?.1 hx
  exact h2 j x (by simpa using hj)

theorem zero_CR (z : Value) (hc : z.cells.all cellV = true) : CR w m h z.cells.toList (z.cells.toList.map of1) := by
  refine ⟨by simp, fun v hv => (Array.all_eq_true_iff_forall_mem.1 hc) v (by simpa using hv), fun j v c h1 h2 => ?_⟩
  rw [List.getElem?_map, h1] at h2
  simp only [Option.map_some, Option.some.injEq] at h2
  subst h2
  exact of1_rel w m h v

/-- Parts filled in. -/
theorem fill_CR {a : Act} {env : List AV} (E : ERel w m h a env) (pl : Nat → Option (Nat × Nat)) : ∀ (ps : List (Nat × Operand)) (qs : List (Nat × Nat × Operand)) (vs : Array Value) (zs cs : List AV),
    CR w m h vs.toList zs → qs.length = ps.length → (∀ (k : Nat) p q, ps[k]? = some p → qs[k]? = some q → q.2.2 = p.2 ∧ pl p.1 = some (q.1, q.2.1)) →
    fillP zs (qs.map fun p => (p.1, p.2.1, aeval env p.2.2)) = some cs →
    ∃ us, Instr.fill pl vs (ps.map fun p => (p.1, a.eval p.2)) = some us ∧ CR w m h us.toList cs := by
  intro ps
  induction ps with
  | nil =>
    intro qs vs zs cs H hl _ hf
    cases qs with
    | nil => simp only [List.map_nil, fillP, Option.some.injEq] at hf; subst hf; exact ⟨vs, rfl, H⟩
    | cons q qs => simp at hl
  | cons p ps ih =>
    intro qs vs zs cs H hl hp hf
    cases qs with
    | nil => simp at hl
    | cons q qs =>
      obtain ⟨e1, e2⟩ := hp 0 p q rfl rfl
      simp only [List.map_cons, fillP] at hf
      cases hac : acells (aeval env q.2.2) with
      | none => rw [hac] at hf; cases hf
      | some ds =>
        rw [hac] at hf
        simp only at hf
        split at hf
        · rename_i hb
          have U := cells_CR (E.ev q.2.2) hac
          rw [e1] at U
          have hsz : (a.eval p.2).cells.size = q.2.1 := by have := U.1; simp at this; omega
          have hvs : vs.size = zs.length := by have := H.1; simpa using this
          obtain ⟨us, f1, f2⟩ := ih qs ((a.eval p.2).cells.zipIdx.foldl (fun cs (c, j) => cs.setIfInBounds (q.1 + j) c) vs) (splice zs q.1 ds) cs (by
            rw [← Array.foldl_toList, Array.toList_zipIdx]
            have := foldl_set (a.eval p.2).cells.toList vs.toList vs q.1 0 rfl
            simp only [Nat.add_zero] at this
            show CR w m h (List.foldl (fun (cs : Array Value) (p : Value × Nat) => cs.setIfInBounds (q.1 + p.2) p.1) vs ((a.eval p.2).cells.toList.zipIdx)).toList _
            rw [this]
            exact CR.splice _ _ _ _ _ H U) (by simpa using hl) (fun k p' q' h1 h2 => hp (k + 1) p' q' (by simpa using h1) (by simpa using h2)) hf
          refine ⟨us, ?_, f2⟩
          simp only [List.map_cons, Instr.fill, e2]
          rw [if_neg (by simp [hsz]; omega)]
          exact f1
        · cases hf

theorem TrP_get (P : Program) (fs : Array Field) : ∀ (ps : List (Nat × Operand)), (∀ p ∈ ps, p.1 < fs.size) → (TrP P fs ps).length = ps.length ∧
    ∀ (k : Nat) p q, ps[k]? = some p → (TrP P fs ps)[k]? = some q → q.2.2 = p.2 ∧ (fs[p.1]?).map (fun f => (f.offset, P.cellsOf f.type)) = some (q.1, q.2.1) := by
  intro ps
  induction ps with
  | nil => intro _; exact ⟨rfl, fun k p q h1 _ => by simp at h1⟩
  | cons p ps ih =>
    intro hp
    obtain ⟨i1, i2⟩ := ih fun p hp' => hp p (List.mem_cons_of_mem _ hp')
    obtain ⟨j, x⟩ := p
    have hj : j < fs.size := hp (j, x) List.mem_cons_self
    have e : TrP P fs ((j, x) :: ps) = (fs[j].offset, P.cellsOf fs[j].type, x) :: TrP P fs ps := by
      show (match fs[j]? with | some f => (f.offset, P.cellsOf f.type, x) :: TrP P fs ps | none => TrP P fs ps) = _
      rw [Array.getElem?_eq_getElem hj]
    rw [e]
    refine ⟨by simp [i1], fun k p q h1 h2 => ?_⟩
    cases k with
    | zero =>
      simp only [List.getElem?_cons_zero, Option.some.injEq] at h1 h2
      subst h1; subst h2
      exact ⟨rfl, by simp [Array.getElem?_eq_getElem hj]⟩
    | succ k => exact i2 k p q (by simpa using h1) (by simpa using h2)

theorem q_build {a : Act} {env : List AV} (E : ERel w m h a env) {t : TypeId} {i : TypeInfo} {z : Value} (hi : P.info? t = some i) (hz : i.zero = some z) (hc : z.cells.all cellV = true) {parts : Array (Nat × Operand)} {cs : List AV} :
    (∀ (fs : Array Field), P.underlying t = some (.struct fs) → fs.all (fun f => (P.info? f.type).isSome) = true → parts.all (fun p => decide (p.1 < fs.size)) = true →
      fillP (z.cells.toList.map of1) ((TrP P fs parts.toList).map fun p => (p.1, p.2.1, aeval env p.2.2)) = some cs → Quiet P w m h (Instr.build t (parts.map fun (i, x) => (i, a.eval x))) (.agg cs)) ∧
    (∀ (n : Nat) (e : TypeId) (ie : TypeInfo), P.underlying t = some (.array n e) → P.info? e = some ie →
      fillP (z.cells.toList.map of1) ((parts.toList.map fun p => (p.1 * ie.size, ie.size, p.2)).map fun p => (p.1, p.2.1, aeval env p.2.2)) = some cs → Quiet P w m h (Instr.build t (parts.map fun (i, x) => (i, a.eval x))) (.agg cs)) := by
  have hzero : ∀ w2, (zeroValue t).run P w2 = .ok z w2 := fun w2 => by simp [zeroValue, typeInfo, hi, hz]
  have hparts : (parts.map fun (i, x) => (i, a.eval x)).toList = parts.toList.map fun p => (p.1, a.eval p.2) := by simp
  refine ⟨fun fs ht hfs hps hf => ?_, fun n e ie ht he hf => ?_⟩
  · have hp : ∀ p ∈ parts.toList, p.1 < fs.size := fun p hp => of_decide_eq_true ((Array.all_eq_true_iff_forall_mem.1 hps) p (by simpa using hp))
    obtain ⟨g1, g2⟩ := TrP_get P fs parts.toList hp
    obtain ⟨us, f1, f2⟩ := fill_CR E (fun j => (fs.map fun f => (f.offset, P.cellsOf f.type))[j]?) parts.toList (TrP P fs parts.toList) z.cells _ cs (zero_CR z hc) g1 (fun k p q h1 h2 => by
      obtain ⟨e1, e2⟩ := g2 k p q h1 h2
      exact ⟨e1, by rw [Array.getElem?_map]; exact e2⟩) hf
    refine .purely (.agg us cs (by simpa using f2.1) (fun j v hj => f2.2.1 v (by simpa using Array.mem_of_getElem? hj)) (fun j v c h1 h2 => f2.2.2 j v c (by simpa using h1) h2)) fun w2 => ?_
    have hm : (fs.mapM fun (f : Field) => (do pure (f.offset, ← sizeOf f.type) : Sem (Nat × Nat))).run P w2 = .ok (fs.map fun f => (f.offset, P.cellsOf f.type)) w2 := by
      refine run_mapM _ _ fs w2 fun f hf => ?_
      have hs := (Array.all_eq_true_iff_forall_mem.1 hfs) f hf
      cases hq : P.info? f.type with
      | none => rw [hq] at hs; cases hs
      | some ik => simp [sizeOf, typeInfo, hq, Program.cellsOf]
    unfold Instr.build
    rw [Sem.run_bind, hzero, Result.andThen_ok]
    dsimp only
    rw [Sem.run_bind, run_underlying ht, Result.andThen_ok]
    dsimp only
    rw [Sem.run_bind, hm, Result.andThen_ok, hparts, f1]
    rfl
  · obtain ⟨us, f1, f2⟩ := fill_CR E (fun j => some (j * ie.size, ie.size)) parts.toList (parts.toList.map fun p => (p.1 * ie.size, ie.size, p.2)) z.cells _ cs (zero_CR z hc) (by simp) (fun k p q h1 h2 => by
      rw [List.getElem?_map, h1] at h2
      simp only [Option.map_some, Option.some.injEq] at h2
      subst h2; exact ⟨rfl, rfl⟩) hf
    refine .purely (.agg us cs (by simpa using f2.1) (fun j v hj => f2.2.1 v (by simpa using Array.mem_of_getElem? hj)) (fun j v c h1 h2 => f2.2.2 j v c (by simpa using h1) h2)) fun w2 => ?_
    unfold Instr.build
    rw [Sem.run_bind, hzero, Result.andThen_ok]
    dsimp only
    rw [Sem.run_bind, run_underlying ht, Result.andThen_ok]
    dsimp only
    have hs : (sizeOf e).run P w2 = .ok ie.size w2 := by simp [sizeOf, typeInfo, he]
    rw [Sem.run_bind, hs, Result.andThen_ok, hparts, f1]
    rfl

end
end Go.PA
