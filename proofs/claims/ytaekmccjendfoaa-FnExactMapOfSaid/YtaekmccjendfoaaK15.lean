/- The plain code: what a piece of code does to a plain state, and that the machine's code does it. No condition. -/
import Derived.Test.YtaekmccjendfoaaK14
namespace Go.PA

structure ASt where
  env : List AV
  heap : Heap
inductive AExit where
  | normal
  | exit (id : Nat)
  | ret

/-- A value that is known whole. -/
def sca1 : AV → Option Value
  | .int k n => some (.int k n)
  | .bool b => some (.bool b)
  | .str s => some (.string s)
  | _ => none
def scaL : List AV → Option (List Value)
  | [] => some []
  | a :: l => match sca1 a with
    | some v => match scaL l with
      | some vs => some (v :: vs)
      | none => none
    | none => none
def sca : AV → Option Value
  | .agg cs => match scaL cs with
    | some vs => some (.agg vs.toArray)
    | none => none
  | .tup cs => match scaL cs with
    | some vs => some (.tuple vs.toArray)
    | none => none
  | a => sca1 a

/-- A value read by who owns nothing. -/
def View (h : Heap) (a t : AV) : Prop := ∀ (w : World) (m m' : Maps) (v : Value), HRel w m h → VR w m h v a → VRel w (fun _ => False) m' 0 0 v t
def Views (h : Heap) : List AV → List AV → Prop
  | [], [] => True
  | a :: as, t :: ts => View h a t ∧ Views h as ts
  | _, _ => False
/-- **A CALL THAT ONLY READS.** -/
structure RO (P : Program) (f : FuncId) (ts : List AV) (r : AV) : Prop where
  call : PCall P f ts Heap.nil fun r' _ => r' = r

def decC (d : AV → Option AV) : List AV → Option (List AV)
  | [] => some []
  | c :: l => match d c with
    | some t => match decC d l with
      | some ts => some (t :: ts)
      | none => none
    | none => none
def decX (d : AV → Option AV) : List (List AV) → Option (List (List AV))
  | [] => some []
  | c :: l => match decC d c with
    | some t => match decX d l with
      | some ts => some (t :: ts)
      | none => none
    | none => none
/-- A value that owns all that it reaches. -/
def decF (h : Heap) : Nat → AV → Option AV
  | _, .int k n => some (.int k n)
  | _, .bool b => some (.bool b)
  | _, .str s => some (.str s)
  | _, .nils => some (.lit true [])
  | _, .lit _ [] => some (.lit true [])
  | n + 1, .lit true (x :: xs) => match decX (decF h n) (x :: xs) with
    | some ts => some (.lit true ts)
    | none => none
  | n + 1, .agg cs => match decC (decF h n) cs with
    | some ts => some (.agg ts)
    | none => none
  | n + 1, .tup cs => match decC (decF h n) cs with
    | some ts => some (.tup ts)
    | none => none
  | n + 1, .ref r off len => match aels h (.ref r off len) with
    | some els => match decX (decF h n) els with
      | some ts => some (.lit true ts)
      | none => none
    | none => none
  | _, _ => none

/-- **A CALL THAT MAKES ITS ANSWER ANEW.** -/
structure FR (P : Program) (f : FuncId) (ts : List AV) (t : AV) : Prop where
  call : PCall P f ts Heap.nil fun r h' => decF h' 9 r = some t

/-- A heap that holds all that another holds. -/
def HExt (h h' : Heap) : Prop := (∀ (b : Nat) cs, h.boxes[b]? = some cs → h'.boxes[b]? = some cs) ∧ ∀ r row, h.rows r = some row → h'.rows r = some row
/-- A value read by who owns nothing, now and when more is there. -/
def Seen (h : Heap) (a t : AV) : Prop := ∀ h', HExt h h' → View h' a t
def Seens (h : Heap) : List AV → List AV → Prop
  | [], [] => True
  | a :: as, t :: ts => Seen h a t ∧ Seens h as ts
  | _, _ => False
def guardB (env : List AV) : Option (Tmp × Bool) → Option Bool
  | none => some true
  | some (t, want) => match env.getD t .bad with
    | .bool b => some (if b = want then true else false)
    | .tup [] => some false
    | _ => none

def aguard (env : List AV) (g : Option (Tmp × Bool)) (yes no : Prop) : Prop :=
  match g with
  | none => yes
  | some (t, want) => match env.getD t .bad with
    | .bool b => if b = want then yes else no
    | .tup [] => no
    | _ => False

def astep (P : Program) (env : List AV) (h : Heap) (o : AOp) (K : AV → Heap → Prop) : Prop :=
  match o with
  | .call f args => ∃ R, PCall P f (args.map (aeval env)) h R ∧ ∀ r h', R r h' → K r h'
  | .callv x args => match aeval env x with
    | .fn f cap => ∃ R, PCall P f (args.map (aeval env) ++ cap) h R ∧ ∀ r h', R r h' → K r h'
    | _ => False
  | o => match adet env h o with
    | some (r, h') => K r h'
    | none => False

def aops (P : Program) : List AOper → (List AV → Heap → Prop) → List AV → Heap → Prop
  | [], K, env, h => K env h
  | o :: l, K, env, h => aguard env o.guard (astep P env h o.op fun v h' => aops P l K (aput env o.dst v) h') (aops P l K (aput env o.dst (.tup [])) h)

/-- The operations of a region that draws its order: they only read. -/
def adops (P : Program) (h : Heap) : List AOper → (List AV → Prop) → List AV → Prop
  | [], K, env => K env
  | o :: l, K, env => aguard env o.guard
      (match o.op with
        | .call f args => ∃ r ts, RO P f ts r ∧ Views h (args.map (aeval env)) ts ∧ (sca r).isSome = true ∧ adops P h l K (aput env o.dst r)
        | op => if quietB op then (match adet env h op with
            | some (r, _) => adops P h l K (aput env o.dst r)
            | none => False) else False)
      (adops P h l K (aput env o.dst (.tup [])))

/-- What is there stays. -/
def HExtN (h h' : Heap) : Prop := (∀ (b : Nat) cs, h.boxes[b]? = some cs → h'.boxes[b]? = some cs) ∧ ∀ r row, r < h.next → h.rows r = some row → h'.rows r = some row
/-- One operation of a region that draws its order. A call there makes its answer anew: a value that nobody writes ('FR'), or, where calls are kept in order ('c'), rows of its own. -/
def xstp (P : Program) (c : Bool) (env : List AV) (h : Heap) (o : AOp) (K : AV → Heap → Prop) : Prop :=
  match o with
  | .call f args => (∃ r ts, FR P f ts r ∧ Seens h (args.map (aeval env)) ts ∧ K r h) ∨ (c = true ∧ ∃ R, PCall P f (args.map (aeval env)) h R ∧ ∀ r h', R r h' → K r h')
  | .callv _ _ => False
  | o => match adet env h o with
    | some (r, h') => K r h'
    | none => False
/-- A place is left alone. -/
def SameAt (h h' : Heap) : AV → Prop
  | .box b _ => h'.boxes[b]? = h.boxes[b]?
  | .rptr r _ _ => h'.rows r = h.rows r
  | .ref r _ _ => h'.rows r = h.rows r
  | _ => True
theorem SameAt.refl (h : Heap) (a : AV) : SameAt h h a := by cases a <;> first | rfl | trivial
def xrun (P : Program) (c : Bool) : List XOp → (List AV → Heap → Prop) → List AV → Heap → Prop
  | [], K, env, h => K env h
  | o :: l, K, env, h => aguard env o.o.guard (xstp P c env h o.o.op fun v h' => (∀ t ∈ o.us, t < env.length ∧ SameAt h h' (env.getD t .bad)) ∧ xrun P c l K (aput env o.o.dst v) h') (xrun P c l K (aput env o.o.dst (.tup [])) h)

/-- The least state property that a loop's body keeps up. -/
def ALoop (f : (AExit → ASt → Prop) → ASt → Prop) (Q : AExit → ASt → Prop) (st : ASt) : Prop :=
  ∀ X : ASt → Prop, (∀ st, f (fun e st => match e with
    | .normal => X st
    | e => Q e st) st → X st) → X st

def acode (P : Program) : ACode → (AExit → ASt → Prop) → ASt → Prop
  | .skip, Q, st => Q .normal st
  | .ops l, Q, st => aops P l (fun env h => Q .normal ⟨env, h⟩) st.env st.heap
  | .dops l, Q, st => adops P st.heap l (fun env => Q .normal ⟨env, st.heap⟩) st.env
  | .xops c l, Q, st => xrun P c l (fun env h => Q .normal ⟨env, h⟩) st.env st.heap
  | .seq a b, Q, st => acode P a (fun e st => match e with
    | .normal => acode P b Q st
    | e => Q e st) st
  | .cond c a b, Q, st => match aeval st.env c with
    | .bool t => if t = true then acode P a Q st else acode P b Q st
    | _ => False
  | .block id a, Q, st => acode P a (fun e st => match e with
    | .exit j => if j = id then Q .normal st else Q (.exit j) st
    | e => Q e st) st
  | .loop a, Q, st => ALoop (acode P a) Q st
  | .exit id, Q, st => Q (.exit id) st
  | .ret, Q, st => Q .ret st

section
variable {P : Program}

theorem aguard_mono {env : List AV} {g : Option (Tmp × Bool)} {y n y' n' : Prop} (hy : y → y') (hn : n → n') (h : aguard env g y n) : aguard env g y' n' := by
  unfold aguard at *
  split
  · exact hy h
  · simp only at h
    split
    · rename_i b hb
      rw [hb] at h
      simp only at h
      split
      · rename_i hbw; rw [if_pos hbw] at h; exact hy h
      · rename_i hbw; rw [if_neg hbw] at h; exact hn h
    · rename_i hb; rw [hb] at h; exact hn h
    · split at h <;> simp_all

theorem astep_mono {env : List AV} {h : Heap} {o : AOp} {K K' : AV → Heap → Prop} (hK : ∀ v h, K v h → K' v h) (H : astep P env h o K) : astep P env h o K' := by
  unfold astep at *
  split
  · obtain ⟨R, a, b⟩ := H; exact ⟨R, a, fun r h' hr => hK _ _ (b r h' hr)⟩
  · simp only at H
    split
    · rename_i f cap hf
      rw [hf] at H
      obtain ⟨R, a, b⟩ := H; exact ⟨R, a, fun r h' hr => hK _ _ (b r h' hr)⟩
    · split at H <;> simp_all
  · rename_i o h1 h2
    split at H
    · exact absurd rfl (h1 _ _)
    · exact absurd rfl (h2 _ _)
    · split
      · rename_i r h' hd
        rw [hd] at H
        exact hK _ _ H
      · rename_i hd
        rw [hd] at H
        exact H

theorem aops_mono (l : List AOper) : ∀ {K K' : List AV → Heap → Prop} (_ : ∀ env h, K env h → K' env h) {env : List AV} {h : Heap}, aops P l K env h → aops P l K' env h := by
  induction l with
  | nil => intro K K' hK env h H; exact hK _ _ H
  | cons o l ih => intro K K' hK env h H; exact aguard_mono (astep_mono fun v h' => ih hK) (ih hK) H

theorem adops_mono (h : Heap) (l : List AOper) : ∀ {K K' : List AV → Prop} (_ : ∀ env, K env → K' env) {env : List AV}, adops P h l K env → adops P h l K' env := by
  induction l with
  | nil => intro K K' hK env H; exact hK _ H
  | cons o l ih =>
    intro K K' hK env H
    refine aguard_mono (fun H => ?_) (ih hK) H
    split
    · rename_i f args he
      simp only [he] at H
      obtain ⟨r, ts, a, b, c, d⟩ := H; exact ⟨r, ts, a, b, c, ih hK d⟩
    · rename_i he
      split at H
      · exact absurd (by assumption) (he _ _)
      · split
        · rename_i hq
          rw [if_pos hq] at H
          split
          · rename_i hd; rw [hd] at H; exact ih hK H
          · rename_i hd; rw [hd] at H; exact H
        · rename_i hq
          rw [if_neg hq] at H
          exact H

theorem xstp_mono {c : Bool} {env : List AV} {h : Heap} {o : AOp} {K K' : AV → Heap → Prop} (hK : ∀ v h, K v h → K' v h) (H : xstp P c env h o K) : xstp P c env h o K' := by
  unfold xstp at *
  split
  · rcases H with ⟨r, ts, a, b, c⟩ | ⟨e, R, a, c⟩
    · exact .inl ⟨r, ts, a, b, hK _ _ c⟩
    · exact .inr ⟨e, R, a, fun r h' h => hK _ _ (c r h' h)⟩
  · exact H
  · rename_i o h1 h2
    split at H
    · exact absurd rfl (h1 _ _)
    · exact absurd rfl (h2 _ _)
    · split
      · rename_i r h' hd
        rw [hd] at H
        exact hK _ _ H
      · rename_i hd
        rw [hd] at H
        exact H
theorem xrun_mono {c : Bool} (l : List XOp) : ∀ {K K' : List AV → Heap → Prop} (_ : ∀ env h, K env h → K' env h) {env : List AV} {h : Heap}, xrun P c l K env h → xrun P c l K' env h := by
  induction l with
  | nil => intro K K' hK env h H; exact hK _ _ H
  | cons o l ih => intro K K' hK env h H; exact aguard_mono (xstp_mono fun v h' H => ⟨H.1, ih hK H.2⟩) (ih hK) H

theorem acode_mono (c : ACode) : ∀ {Q Q' : AExit → ASt → Prop} (_ : ∀ e st, Q e st → Q' e st) {st : ASt}, acode P c Q st → acode P c Q' st := by
  induction c with
  | skip => intro Q Q' hQ st H; exact hQ _ _ H
  | ops l => intro Q Q' hQ st H; exact aops_mono l (fun _ _ => hQ _ _) H
  | dops l => intro Q Q' hQ st H; exact adops_mono _ l (fun _ => hQ _ _) H
  | xops c l => intro Q Q' hQ st H; exact xrun_mono l (fun _ _ => hQ _ _) H
  | seq a b iha ihb =>
    intro Q Q' hQ st H
    refine iha (fun e st H => ?_) H
    cases e with
    | normal => exact ihb hQ H
    | exit id => exact hQ _ _ H
    | ret => exact hQ _ _ H
  | cond c a b iha ihb =>
    intro Q Q' hQ st H
    simp only [acode] at *
    split
    · rename_i t ht
      rw [ht] at H
      simp only at H
      split
      · rename_i htt; rw [if_pos htt] at H; exact iha hQ H
      · rename_i htt; rw [if_neg htt] at H; exact ihb hQ H
    · split at H <;> simp_all
  | block id a iha =>
    intro Q Q' hQ st H
    refine iha (fun e st H => ?_) H
    cases e with
    | normal => exact hQ _ _ H
    | exit j =>
      simp only at *
      split
      · rename_i hj; rw [if_pos hj] at H; exact hQ _ _ H
      · rename_i hj; rw [if_neg hj] at H; exact hQ _ _ H
    | ret => exact hQ _ _ H
  | loop a iha =>
    intro Q Q' hQ st H X hX
    refine H X fun st h => hX st (iha (fun e st h => ?_) h)
    cases e with
    | normal => exact h
    | exit id => exact hQ _ _ h
    | ret => exact hQ _ _ h
  | exit id => intro Q Q' hQ st H; exact hQ _ _ H
  | ret => intro Q Q' hQ st H; exact hQ _ _ H

/-- One round of a loop. -/
theorem ALoop.step {a : ACode} {Q : AExit → ASt → Prop} {st : ASt} (H : acode P a (fun e st => match e with
    | .normal => ALoop (acode P a) Q st
    | e => Q e st) st) : ALoop (acode P a) Q st := fun X hX => hX st (acode_mono a (fun e st h => by
      cases e with
      | normal => exact h X hX
      | exit id => exact h
      | ret => exact h) H)

end
end Go.PA
