/- Regions that draw their order and write: whatever order the tape picks. No condition. -/
import Derived.Test.YtaekmccjendfoaaK16X
namespace Go.PA
set_option linter.unusedVariables false

def edges (ops : Array Oper) (j : Nat) : List Nat := match ops[j]? with
  | some o => (o.after.toList.filter (Region.binds .any)).map (·.on)
  | none => []
/-- 'i' comes before 'j', by the region's own edges. -/
def reach (ops : Array Oper) (i : Nat) : Nat → Nat → Bool
  | 0, _ => false
  | n + 1, j => if j ≤ i then false else (edges ops j).contains i || (edges ops j).any fun e => reach ops i n e
def sameD (a b : AOper) : Bool := match a.dst with
  | some d => b.dst == some d
  | none => false
def hitsD (a b : AOper) : Bool := match a.dst with
  | some d => (aoLooks b).contains d
  | none => false
/-- What changes the plain heap, and calls that may: these come in one order. -/
def chainB (cf : Bool) : AOp → Bool
  | .call _ _ => cf
  | op => mutB op
/-- Whose place must be left alone until it has come. -/
def watch (o : AOper) : Option Tmp := match readRoot o.op with
  | some x => tmpOf x
  | none => if floatB o.op then o.dst else none
def watched (a b : XOp) : Bool := match watch a.o with
  | some t => b.us.contains t
  | none => false
/-- Two operations whose order matters; 'a' stands first. -/
def conf (cf : Bool) (a b : XOp) : Bool := hitsD a.o b.o || hitsD b.o a.o || chainB cf a.o.op || (chainB cf b.o.op && !pureB a.o.op && !watched a b)
def keepB (a : XOp) (l : List XOp) : Bool := match watch a.o with
  | some t => l.all (fun b => !b.us.contains t) || (l.all (fun b => !(b.o.dst == some t)) && (floatB a.o.op || !(a.o.dst == some t)))
  | none => true
def pairsB (cf : Bool) (ops : Array Oper) : List XOp → Bool
  | [] => true
  | a :: l => l.all (fun p => !(p.n == a.n) && !sameD a.o p.o && (!conf cf a p || reach ops a.n ops.size p.n)) && keepB a l && pairsB cf ops l
def depsB (ops : Array Oper) : List Nat → List XOp → Bool
  | _, [] => true
  | seen, a :: l => (edges ops a.n).all (fun e => seen.contains e) && depsB ops (a.n :: seen) l
def coverB (ops : Array Oper) (l : List XOp) : Bool := (List.range ops.size).all fun i => l.any fun p => p.n == i
def regB (cf : Bool) (ops : Array Oper) (l : List XOp) : Bool := pairsB cf ops l && depsB ops [] l && coverB ops l && decide (l.length ≤ ops.size)

theorem pairsB_spec {cf : Bool} {ops : Array Oper} : ∀ {l : List XOp}, pairsB cf ops l = true → ∀ (j k : Nat) (a b : XOp), j < k → l[j]? = some a → l[k]? = some b →
    b.n ≠ a.n ∧ sameD a.o b.o = false ∧ (conf cf a b = true → reach ops a.n ops.size b.n = true) := by
  intro l
  induction l with
  | nil => intro _ j k a b _ h; simp at h
  | cons p l ih =>
    intro h j k a b hjk ha hb
    simp only [pairsB, Bool.and_eq_true, List.all_eq_true] at h
    cases j with
    | zero =>
      simp only [List.getElem?_cons_zero, Option.some.injEq] at ha
      subst ha
      cases k with
      | zero => omega
      | succ k =>
        have := h.1.1 b (List.mem_of_getElem? (by simpa using hb))
        simp only [Bool.not_eq_true', beq_eq_false_iff_ne, Bool.or_eq_true] at this
        refine ⟨this.1.1, this.1.2, fun hc => ?_⟩
        rcases this.2 with h1 | h1
        · rw [hc] at h1; cases h1
        · exact h1
    | succ j =>
      cases k with
      | zero => omega
      | succ k => exact ih h.2 j k a b (by omega) (by simpa using ha) (by simpa using hb)
theorem keepB_spec {cf : Bool} {ops : Array Oper} : ∀ {l : List XOp}, pairsB cf ops l = true → ∀ (j k : Nat) (a b : XOp) (t : Tmp), j < k → l[j]? = some a → l[k]? = some b → watch a.o = some t → b.us.contains t = true →
    (∀ (q : Nat) (c : XOp), j < q → l[q]? = some c → c.o.dst ≠ some t) ∧ (floatB a.o.op = false → a.o.dst ≠ some t) := by
  intro l
  induction l with
  | nil => intro _ j k a b t _ h; simp at h
  | cons p l ih =>
    intro h j k a b t hjk ha hb hw hu
    simp only [pairsB, Bool.and_eq_true, List.all_eq_true] at h
    cases j with
    | zero =>
      simp only [List.getElem?_cons_zero, Option.some.injEq] at ha
      subst ha
      cases k with
      | zero => omega
      | succ k =>
        have hb := List.mem_of_getElem? (l := l) (i := k) (by simpa using hb)
        have hk := h.1.2
        simp only [keepB, hw, Bool.or_eq_true, List.all_eq_true, Bool.and_eq_true] at hk
        rcases hk with hk | hk
        · have := hk b hb; rw [hu] at this; cases this
        · refine ⟨fun q c hq hc e => ?_, fun hf e => ?_⟩
          · cases q with
            | zero => omega
            | succ q =>
              have := hk.1 c (List.mem_of_getElem? (by simpa using hc))
              rw [e] at this; simp at this
          · have := hk.2
            rw [hf, e] at this; simp at this
    | succ j =>
      cases k with
      | zero => omega
      | succ k =>
        obtain ⟨g1, g2⟩ := ih h.2 j k a b t (by omega) (by simpa using ha) (by simpa using hb) hw hu
        refine ⟨fun q c hq hc => ?_, g2⟩
        cases q with
        | zero => omega
        | succ q => exact g1 q c (by omega) (by simpa using hc)
theorem depsB_spec {ops : Array Oper} : ∀ {l : List XOp} {seen : List Nat}, depsB ops seen l = true → ∀ (k : Nat) (a : XOp), l[k]? = some a → ∀ e ∈ edges ops a.n, e ∈ seen ∨ ∃ j b, j < k ∧ l[j]? = some b ∧ b.n = e := by
  intro l
  induction l with
  | nil => intro seen _ k a h; simp at h
  | cons p l ih =>
    intro seen h k a ha e he
    simp only [depsB, Bool.and_eq_true, List.all_eq_true] at h
    cases k with
    | zero =>
      simp only [List.getElem?_cons_zero, Option.some.injEq] at ha
      subst ha
      exact .inl (by simpa using h.1 e he)
    | succ k =>
      rcases ih h.2 k a (by simpa using ha) e he with h1 | ⟨j, b, h1, h2, h3⟩
      · rcases List.mem_cons.1 h1 with h1 | h1
        · exact .inr ⟨0, p, by omega, rfl, h1.symm⟩
        · exact .inl h1
      · exact .inr ⟨j + 1, b, by omega, by simpa using h2, h3⟩

/-- All that an operation waits for has come. -/
def Closed (ops : Array Oper) (L : Array Bool) : Prop := ∀ j, L.getD j false = true → ∀ e ∈ edges ops j, L.getD e false = true
theorem reach_closed {ops : Array Oper} {L : Array Bool} (C : Closed ops L) (i : Nat) : ∀ (n j : Nat), (∀ e ∈ edges ops j, L.getD e false = true) → reach ops i n j = true → L.getD i false = true := by
  intro n
  induction n with
  | zero => intro j _ h; cases h
  | succ n ih =>
    intro j hj h
    simp only [reach] at h
    split at h
    · cases h
    · simp only [Bool.or_eq_true, List.any_eq_true, List.contains_iff_mem] at h
      rcases h with h | ⟨e, he, h⟩
      · exact hj _ h
      · exact ih e (C e (hj e he)) h

theorem edges_of {ops : Array Oper} {j : Nat} {o : Oper} (ho : ops[j]? = some o) (e : Nat) : e ∈ edges ops j ↔ ∃ d ∈ o.after, Region.binds .any d = true ∧ d.on = e := by
  simp only [edges, ho, List.mem_map, List.mem_filter, Array.mem_toList_iff]
  exact ⟨fun ⟨d, ⟨a, b⟩, c⟩ => ⟨d, a, b, c⟩, fun ⟨d, a, b, c⟩ => ⟨d, ⟨a, b⟩, c⟩⟩

theorem getD_set_same {L : Array Bool} {i : Nat} (h : i < L.size) : (L.setIfInBounds i true).getD i false = true := by
  simp [h]
theorem getD_set_other {L : Array Bool} {i j : Nat} (h : j ≠ i) : (L.setIfInBounds i true).getD j false = L.getD j false := by
  simp [Array.getElem?_setIfInBounds_ne (Ne.symm h)]

def unl (n : Nat) (S : Nat → Bool) : Nat := ((List.range n).filter fun k => !S k).length
theorem filter_less (k : Nat) (S S' : Nat → Bool) (hS : ∀ j, j ≠ k → S' j = S j) (hk : S k = false) (hk' : S' k = true) : ∀ l : List Nat, (l.filter fun j => !S' j).length ≤ (l.filter fun j => !S j).length ∧
    (k ∈ l → (l.filter fun j => !S' j).length < (l.filter fun j => !S j).length) := by
  intro l
  induction l with
  | nil => exact ⟨Nat.le_refl _, fun h => by cases h⟩
  | cons x l ih =>
    by_cases hx : x = k
    · subst hx
      simp only [List.filter_cons, hk, hk', Bool.not_true, Bool.not_false, Bool.false_eq_true, if_true, if_false, List.length_cons]
      exact ⟨by omega, fun _ => by omega⟩
    · have := hS x hx
      simp only [List.filter_cons, this]
      refine ⟨?_, fun h => ?_⟩
      · split <;> (try simp only [List.length_cons]) <;> omega
      · have h2 := ih.2 ((List.mem_cons.1 h).resolve_left (Ne.symm hx))
        split <;> (try simp only [List.length_cons]) <;> omega

theorem Seens.ext {h h' : Heap} (X : HExt h h') : ∀ (as ts : List AV), Seens h as ts → Views h' as ts
  | [], [], _ => trivial
  | [], _ :: _, h => False.elim h
  | _ :: _, [], h => False.elim h
  | _ :: as, _ :: ts, h => ⟨h.1 _ X, Seens.ext X as ts h.2⟩

section
variable {P : Program}

theorem quiet_of {cf : Bool} {op : AOp} (hl : chainB cf op = false) (hf : floatB op = false) (h1 : ∀ f args, op ≠ .call f args) : loudB op = false := by
  cases op <;> first | rfl | exact hl | exact absurd rfl (h1 _ _) | exact absurd (show true = false from hf) (by decide)
theorem quiet_still {cf : Bool} {env : List AV} {h h' : Heap} {o : AOper} {r : AV} (W : wstep P env h o r h') (hl : chainB cf o.op = false) (hf : floatB o.op = false) : h' = h := by
  rcases W with ⟨_, _, e⟩ | ⟨_, W⟩
  · exact e
  · split at W
    · exact W.1
    · exact False.elim W
    · rename_i op h1 h2
      have hl' : loudB o.op = false := quiet_of hl hf fun f args e => h1 f args e
      exact (adet_ext (HExt.refl h) hl' W).1
theorem float_alloc {op : AOp} (hf : floatB op = true) : loudB op = true ∧ mutB op = false ∧ readRoot op = none ∧ pureB op = false := by cases op <;> simp only [floatB, Bool.false_eq_true] at hf <;> exact ⟨rfl, rfl, rfl, rfl⟩
theorem chain_not {cf : Bool} {op : AOp} (hc : chainB cf op = true) : floatB op = false ∧ pureB op = false ∧ readRoot op = none := by cases op <;> first | exact ⟨rfl, rfl, rfl⟩ | (simp [chainB, mutB] at hc; done)
theorem read_not {op : AOp} (h : (readRoot op).isSome = true) : floatB op = false ∧ pureB op = false ∧ loudB op = false := by cases op <;> first | exact ⟨rfl, rfl, rfl⟩ | (simp [readRoot] at h; done)

structure Stat (P : Program) (cf : Bool) (ops : Array Oper) (l : List XOp) : Prop where
  tr : ∀ p ∈ l, ∃ o, ops[p.n]? = some o ∧ TrOper P ops o p.o
  ok : regB cf ops l = true

theorem getD_in' {L : Array Bool} {i : Nat} (h : i < L.size) (hf : L.getD i false = false) : L.getD i true = false := by
  rw [Array.getD_eq_getD_getElem?] at hf ⊢
  rw [Array.getElem?_eq_getElem h] at hf ⊢
  exact hf
theorem ready_nil {ops : Array Oper} {l : List XOp} {L : Array Bool} (hsz : L.size = ops.size) (cover : ∀ i, i < ops.size → ∃ (k : Nat) (b : XOp), l[k]? = some b ∧ b.n = i)
    (hall : ∀ (k : Nat) (b : XOp), l[k]? = some b → L.getD b.n false = true) : Region.ready .any ops L = [] := by
  cases hr : Region.ready .any ops L with
  | nil => rfl
  | cons i t =>
    exfalso
    have hi : i ∈ Region.ready .any ops L := by rw [hr]; exact List.mem_cons_self
    obtain ⟨h1, o, ho, _⟩ := mem_ready.1 hi
    have hio : i < ops.size := (Array.getElem?_eq_some_iff.1 ho).1
    obtain ⟨k, b, hk, rfl⟩ := cover i hio
    have h2 := hall k b hk
    rw [Array.getD_eq_getD_getElem?] at h1 h2
    rw [Array.getElem?_eq_getElem (by rw [hsz]; exact hio)] at h1 h2
    simp only [Option.getD_some] at h1 h2
    rw [h2] at h1; cases h1

/-- A list or variable that the machine has not made yet. -/
def Gh (m : Maps) (h0 : Heap) : AV → Prop
  | .ref r _ _ => m.gr r = true ∧ h0.next ≤ r
  | .box b _ => m.gb b = true ∧ h0.boxes.length ≤ b
  | _ => True
def sameO : AV → AV → Prop
  | .ref r _ _, .ref r' _ _ => r = r'
  | .box b _, .box b' _ => b = b'
  | _, _ => False
theorem Gh.turn {w w' : World} {m m' : Maps} {h h' h0 : Heap} (T : Turn w m h w' m' h') (hlt : ∀ r row, h.rows r = some row → r < h.next) {a : AV} (ha : LiveAt h a) (G : Gh m h0 a) : Gh m' h0 a := by
  cases a <;> simp only [Gh, LiveAt] at *
  · obtain ⟨row, hr⟩ := ha; rw [T.gr _ (hlt _ _ hr)]; exact G
  · obtain ⟨cs, hb⟩ := ha; rw [T.gb _ (List.getElem?_eq_some_iff.1 hb).1]; exact G
theorem float_spook {w : World} {m : Maps} {h h' h0 : Heap} (H : HRel w m h) {env : List AV} {op : AOp} {r : AV} (hf : floatB op = true) (hd : adet env h op = some (r, h')) (hn : h0.next ≤ h.next) (hb : h0.boxes.length ≤ h.boxes.length) :
    ∃ m', HRel w m' h' ∧ Turn w m h w m' h' ∧ Gh m' h0 r ∧ LiveAt h' r ∧ ∀ a, LiveAt h a → ¬ sameO a r := by
  rcases float_shape hf hd with ⟨cs, rfl, rfl⟩ | ⟨row, n, rfl, rfl⟩
  · obtain ⟨G, T⟩ := H.box_spook cs
    refine ⟨_, G, T, ⟨by simp, hb⟩, ⟨cs, by simp⟩, fun a ha => ?_⟩
    cases a <;> simp only [sameO, LiveAt, not_false_eq_true] at *
    obtain ⟨cs', h1⟩ := ha
    have := (List.getElem?_eq_some_iff.1 h1).1
    omega
  · obtain ⟨G, T⟩ := H.row_spook row
    refine ⟨_, G, T, ⟨by simp, hn⟩, ⟨row, by simp [upd]⟩, fun a ha => ?_⟩
    cases a <;> simp only [sameO, LiveAt, not_false_eq_true] at *
    obtain ⟨row', h1⟩ := ha
    have := H.lt _ _ h1
    omega
theorem watch_read {o : AOper} {t : Tmp} (h : watch o = some t) (hf : floatB o.op = false) : ∃ x, readRoot o.op = some x ∧ tmpOf x = some t := by
  unfold watch at h
  split at h
  · rename_i x hx; exact ⟨x, hx, h⟩
  · rw [hf] at h; cases h
theorem watch_float {o : AOper} {t : Tmp} (h : watch o = some t) (hf : floatB o.op = true) : o.dst = some t := by
  unfold watch at h
  rw [(float_alloc hf).2.2.1, hf] at h
  exact h
theorem tmpOf_eval {x : Operand} {t : Tmp} (h : tmpOf x = some t) (env : List AV) : aeval env x = env.getD t .bad := by
  cases x <;> simp only [tmpOf, Option.some.injEq, reduceCtorEq] at h
  subst h; rfl
theorem wstep_det {env : List AV} {h h' : Heap} {o : AOper} {r : AV} (W : wstep P env h o r h') (g : guardB env o.guard = some true) (hn : ∀ f args, o.op ≠ .call f args) : adet env h o.op = some (r, h') := by
  rcases W with ⟨e, _⟩ | ⟨_, W⟩
  · rw [g] at e; cases e
  · split at W
    · rename_i f args he; exact absurd he (hn _ _)
    · exact W.elim
    · exact W
theorem float_nc {op : AOp} (h : floatB op = true) : ∀ f args, op ≠ .call f args := by intro f args e; subst e; cases h
theorem read_nc {op : AOp} {x : Operand} (h : readRoot op = some x) : ∀ f args, op ≠ .call f args := by intro f args e; subst e; cases h

/-- The temporaries before the 'k'th. -/
def envA (l : List XOp) (R : Nat → AV) (env0 : List AV) (k : Nat) : List AV := puts (dl R 0 l) (fun j => decide (j < k)) env0
def doneS (l : List XOp) (L : Array Bool) (k : Nat) : Bool := match l[k]? with
  | some b => L.getD b.n false
  | none => false
def envS (l : List XOp) (R : Nat → AV) (env0 : List AV) (L : Array Bool) : List AV := puts (dl R 0 l) (doneS l L) env0
theorem dl0 {l : List XOp} {R : Nat → AV} {k : Nat} {b : XOp} (h : l[k]? = some b) : (dl R 0 l)[k]? = some (b.o.dst, R k) := by rw [dl_get, h, Nat.zero_add]; rfl
theorem dl0_of {l : List XOp} {R : Nat → AV} {k : Nat} {d : Option Tmp} {r : AV} (h : (dl R 0 l)[k]? = some (d, r)) : ∃ b, l[k]? = some b ∧ b.o.dst = d := by
  rw [dl_get, Option.map_eq_some_iff] at h
  obtain ⟨b, h1, h2⟩ := h
  simp only [Prod.mk.injEq] at h2
  exact ⟨b, h1, h2.1⟩
theorem envA_congr {l : List XOp} {R R' : Nat → AV} {env0 : List AV} {k : Nat} (h : ∀ j, j < k → R j = R' j) : envA l R env0 k = envA l R' env0 k :=
  puts_dl l 0 _ env0 fun j hj => by rw [Nat.zero_add]; exact h j (by simpa using hj)
theorem envA_next {l : List XOp} {R : Nat → AV} {env0 : List AV} {k : Nat} {b : XOp} (hk : l[k]? = some b)
    (hd : ∀ (t : Tmp) (k' : Nat) (r' : AV), b.o.dst = some t → k' ≠ k → (dl R 0 l)[k']? ≠ some (some t, r')) : envA l R env0 (k + 1) = aput (envA l R env0 k) b.o.dst (R k) :=
  puts_more (dl R 0 l) k b.o.dst (R k) _ _ env0 (dl0 hk) (fun j hj => by simp only [decide_eq_decide]; omega) (by simp) hd

/-- Where a region stands that draws its order: the plain heap is that of the walk, before the first of the chain that has not come. -/
structure Inv (P : Program) (cf : Bool) (l : List XOp) (K : List AV → Heap → Prop) (env0 : List AV) (w0 : World) (m0 : Maps) (h0 : Heap) (R : Nat → AV) (G : Nat → Heap) (L : Array Bool) (a : Act) (w : World) (m : Maps) (p : Nat) : Prop where
  le : p ≤ l.length
  chain : ∀ (k : Nat) (b : XOp), k < p → l[k]? = some b → chainB cf b.o.op = true → L.getD b.n false = true
  rest : ∀ (k : Nat) (b : XOp), p ≤ k → l[k]? = some b → L.getD b.n false = false
  W : ∀ (k : Nat) (b : XOp), k < p → l[k]? = some b → chainB cf b.o.op = false → wstep P (envA l R env0 k) (G k) b.o (R k) (G (k + 1))
  A : xrun P cf (l.drop p) K (envA l R env0 p) (G p)
  float : ∀ (k : Nat) (b : XOp), k < p → l[k]? = some b → floatB b.o.op = true → guardB (envA l R env0 k) b.o.guard = some true → L.getD b.n false = false →
    Gh m h0 (R k) ∧ LiveAt (G (k + 1)) (R k) ∧ SameAt (G (k + 1)) (G p) (R k)
  dist : ∀ (j k : Nat) (b c : XOp), j < k → k < p → l[j]? = some b → l[k]? = some c → floatB b.o.op = true → floatB c.o.op = true → guardB (envA l R env0 j) b.o.guard = some true → guardB (envA l R env0 k) c.o.guard = some true →
    L.getD b.n false = false → L.getD c.n false = false → ¬ sameO (R j) (R k)
  read : ∀ (k : Nat) (b : XOp) (t : Tmp), k < p → l[k]? = some b → watch b.o = some t → floatB b.o.op = false → guardB (envA l R env0 k) b.o.guard = some true → L.getD b.n false = false →
    LiveAt (G k) ((envA l R env0 k).getD t .bad) ∧ SameAt (G k) (G p) ((envA l R env0 k).getD t .bad)
  wide : ∀ (k : Nat) (b : XOp), k < p → l[k]? = some b → pureB b.o.op = false → watch b.o = none → floatB b.o.op = false → L.getD b.n false = false → HExt (G k) (G p)
  E : ERel w m (G p) a (envS l R env0 L)
  H : HRel w m (G p)
  T : Turn w0 m0 h0 w m (G p)

theorem doneS_lt {l : List XOp} {L : Array Bool} {p : Nat}
    (rest : ∀ (k : Nat) (b : XOp), p ≤ k → l[k]? = some b → L.getD b.n false = false) {k : Nat} (h : doneS l L k = true) : k < p := by
  unfold doneS at h
  split at h
  · rename_i b hb
    rcases Nat.lt_or_ge k p with h1 | h1
    · exact h1
    · rw [rest k b h1 hb] at h; cases h
  · cases h
theorem Inv.congr {cf : Bool} {l : List XOp} {K : List AV → Heap → Prop} {env0 : List AV} {w0 : World} {m0 : Maps} {h0 : Heap} {R R' : Nat → AV} {G G' : Nat → Heap} {L : Array Bool} {a : Act} {w : World} {m : Maps} {p : Nat}
    (I : Inv P cf l K env0 w0 m0 h0 R G L a w m p) (hR : ∀ k, k < p → R k = R' k) (hG : ∀ k, k ≤ p → G k = G' k) : Inv P cf l K env0 w0 m0 h0 R' G' L a w m p := by
  have hA : ∀ k, k ≤ p → envA l R env0 k = envA l R' env0 k := fun k hk => envA_congr fun j hj => hR j (by omega)
  have hS : envS l R env0 L = envS l R' env0 L := puts_dl l 0 _ env0 fun j hj => by
    rw [Nat.zero_add]; exact hR j (doneS_lt I.rest hj)
  refine ⟨I.le, I.chain, I.rest, fun k b hk hl hc => ?_, ?_, fun k b hk hl hf hg hu => ?_, fun j k b c hj hk hl1 hl2 f1 f2 g1 g2 u1 u2 => ?_, fun k b t hk hl hw hf hg hu => ?_, fun k b hk hl hp hw hf hu => ?_, ?_, ?_, ?_⟩
  · rw [← hA k (by omega), ← hG k (by omega), ← hG (k + 1) (by omega), ← hR k hk]; exact I.W k b hk hl hc
  · rw [← hA p (Nat.le_refl _), ← hG p (Nat.le_refl _)]; exact I.A
  · rw [← hA k (by omega)] at hg
    rw [← hR k hk, ← hG (k + 1) (by omega), ← hG p (Nat.le_refl _)]; exact I.float k b hk hl hf hg hu
  · rw [← hA j (by omega)] at g1; rw [← hA k (by omega)] at g2
    rw [← hR j (by omega), ← hR k hk]; exact I.dist j k b c hj hk hl1 hl2 f1 f2 g1 g2 u1 u2
  · rw [← hA k (by omega)] at hg ⊢
    rw [← hG k (by omega), ← hG p (Nat.le_refl _)]; exact I.read k b t hk hl hw hf hg hu
  · rw [← hG k (by omega), ← hG p (Nat.le_refl _)]; exact I.wide k b hk hl hp hw hf hu
  · rw [← hG p (Nat.le_refl _), ← hS]; exact I.E
  · rw [← hG p (Nat.le_refl _)]; exact I.H
  · rw [← hG p (Nat.le_refl _)]; exact I.T

/-- The walk's next one, where it is not of the chain. -/
theorem xrun_step {cf : Bool} {o : XOp} {l : List XOp} {K : List AV → Heap → Prop} {env : List AV} {h : Heap} (A : xrun P cf (o :: l) K env h) (hc : chainB cf o.o.op = false) : ∃ r h', wstep P env h o.o r h' ∧ xrun P cf l K (aput env o.o.dst r) h' := by
  simp only [xrun] at A
  rcases aguard_B A with ⟨g, A⟩ | ⟨g, A⟩
  · unfold xstp at A
    split at A
    · rename_i f args hop
      rcases A with ⟨r, ts, a, b, d⟩ | ⟨e, _⟩
      · exact ⟨r, h, .inr ⟨g, by rw [hop]; exact ⟨rfl, ts, a, b⟩⟩, d.2⟩
      · rw [hop] at hc; simp only [chainB] at hc; rw [e] at hc; cases hc
    · exact A.elim
    · rename_i o' h1 h2
      split at A
      · rename_i r h' hd
        refine ⟨r, h', .inr ⟨g, ?_⟩, A.2⟩
        split
        · rename_i e; exact absurd e (h1 _ _)
        · rename_i e; exact absurd e (h2 _ _)
        · exact hd
      · exact A.elim
  · exact ⟨_, h, .inl ⟨g, rfl, rfl⟩, A⟩

theorem Inv.phase {cf : Bool} {ops : Array Oper} {l : List XOp} (hpairs : pairsB cf ops l = true) {K : List AV → Heap → Prop} {env0 : List AV} {w0 : World} {m0 : Maps} {h0 : Heap} {R0 : Nat → AV} {G0 : Nat → Heap} {L : Array Bool} {a : Act} {w : World} {m : Maps} {p : Nat}
    (I0 : Inv P cf l K env0 w0 m0 h0 R0 G0 L a w m p) {b : XOp} (hp : l[p]? = some b) (hc : chainB cf b.o.op = false) : ∃ R G m', Inv P cf l K env0 w0 m0 h0 R G L a w m' (p + 1) := by
  have hpl : p < l.length := (List.getElem?_eq_some_iff.1 hp).1
  have hdrop : l.drop p = b :: l.drop (p + 1) := by
    rw [List.drop_eq_getElem_cons hpl]
    congr 1
    rw [List.getElem?_eq_getElem hpl] at hp
    exact Option.some.inj hp
  have A0 := I0.A
  rw [hdrop] at A0
  obtain ⟨r, hn, hs0, A'⟩ := xrun_step A0 hc
  have hup : ∃ (R : Nat → AV) (G : Nat → Heap), (∀ k, k < p → R0 k = R k) ∧ (∀ k, k ≤ p → G0 k = G k) ∧ R p = r ∧ G (p + 1) = hn :=
    ⟨fun k => if k = p then r else R0 k, fun k => if k = p + 1 then hn else G0 k, fun k hk => (if_neg (by omega)).symm, fun k hk => (if_neg (by omega)).symm, if_pos rfl, if_pos rfl⟩
  obtain ⟨R, G, hR, hG, hRp, hGp⟩ := hup
  have I := I0.congr hR hG
  have eA : envA l R0 env0 p = envA l R env0 p := envA_congr hR
  have hs : wstep P (envA l R env0 p) (G p) b.o (R p) (G (p + 1)) := by rw [← eA, ← hG p (Nat.le_refl _), hRp, hGp]; exact hs0
  refine ⟨R, G, ?_⟩
  have hdist : ∀ (t : Tmp) (k' : Nat) (r' : AV), b.o.dst = some t → k' ≠ p → (dl R 0 l)[k']? ≠ some (some t, r') := fun t k' r' ht hne hd => by
    obtain ⟨c, hc, hcd⟩ := dl0_of hd
    rcases Nat.lt_trichotomy k' p with h | h | h
    · have := (pairsB_spec hpairs k' p c b h hc hp).2.1
      simp [sameD, hcd, ht] at this
    · exact hne h
    · have := (pairsB_spec hpairs p k' b c h hp hc).2.1
      simp [sameD, hcd, ht] at this
  -- what this step does
  have step : ∃ m', HRel w m' (G (p + 1)) ∧ Turn w m (G p) w m' (G (p + 1)) ∧ HExt (G p) (G (p + 1)) ∧ (∀ x, LiveAt (G p) x → SameAt (G p) (G (p + 1)) x) ∧
      (floatB b.o.op = false → G (p + 1) = G p) ∧
      (floatB b.o.op = true → guardB (envA l R env0 p) b.o.guard = some true → Gh m' h0 (R p) ∧ LiveAt (G (p + 1)) (R p) ∧ ∀ x, LiveAt (G p) x → ¬ sameO x (R p)) := by
    by_cases hg : floatB b.o.op = true ∧ guardB (envA l R env0 p) b.o.guard = some true
    · have hd := wstep_det hs hg.2 (float_nc hg.1)
      obtain ⟨m', H', T, h1, h2, h3⟩ := float_spook (h0 := h0) I.H hg.1 hd I.T.nr I.T.nb
      exact ⟨m', H', T, alloc_ext (float_alloc hg.1).1 (float_alloc hg.1).2.1 I.H.lt hd, fun x hx => float_same hg.1 hd I.H.lt hx, (fun e => by rw [hg.1] at e; cases e), fun _ _ => ⟨h1, h2, h3⟩⟩
    · have e : G (p + 1) = G p := by
        by_cases hf : floatB b.o.op = true
        · rcases hs with ⟨_, _, e⟩ | ⟨g, _⟩
          · exact e
          · exact absurd ⟨hf, g⟩ hg
        · exact quiet_still (cf := cf) hs hc (by simpa using hf)
      rw [e]
      exact ⟨m, I.H, Turn.refl _ _ _, HExt.refl _, fun x _ => SameAt.refl _ _, fun _ => rfl, fun h1 h2 => absurd ⟨h1, h2⟩ hg⟩
  obtain ⟨m', H', T, X, S, s1, s2⟩ := step
  refine ⟨m', ⟨hpl, fun k c hk hl hcc => ?_, fun k c hk hl => I.rest k c (by omega) hl, fun k c hk hl hcc => ?_, ?_, fun k c hk hl hf hg hu => ?_, fun j k b1 c1 hjk hk hl1 hl2 f1 f2 g1 g2 u1 u2 => ?_, fun k c t hk hl hw hf hg hu => ?_, fun k c hk hl hpu hw hf hu => ?_, I.E.turn T, H', I.T.trans T⟩⟩
  · rcases Nat.lt_or_ge k p with h | h
    · exact I.chain k c h hl hcc
    · have : k = p := by omega
      subst this; rw [hp] at hl; cases hl; rw [hc] at hcc; cases hcc
  · rcases Nat.lt_or_ge k p with h | h
    · exact I.W k c h hl hcc
    · have : k = p := by omega
      subst this; rw [hp] at hl; cases hl; exact hs
  · rw [envA_next hp hdist, hRp, hGp, ← eA]; exact A'
  · rcases Nat.lt_or_ge k p with h | h
    · obtain ⟨i1, i2, i3⟩ := I.float k c h hl hf hg hu
      exact ⟨i1.turn T I.H.lt (i2.same i3), i2, i3.trans (S _ (i2.same i3))⟩
    · have : k = p := by omega
      subst this; rw [hp] at hl; cases hl
      obtain ⟨i1, i2, _⟩ := s2 hf hg
      exact ⟨i1, i2, SameAt.refl _ _⟩
  · rcases Nat.lt_or_ge k p with h | h
    · exact I.dist j k b1 c1 hjk h hl1 hl2 f1 f2 g1 g2 u1 u2
    · have : k = p := by omega
      subst this; rw [hp] at hl2; cases hl2
      obtain ⟨_, i2, i3⟩ := I.float j b1 hjk hl1 f1 g1 u1
      exact (s2 f2 g2).2.2 _ (i2.same i3)
  · rcases Nat.lt_or_ge k p with h | h
    · obtain ⟨i1, i2⟩ := I.read k c t h hl hw hf hg hu
      exact ⟨i1, i2.trans (S _ (i1.same i2))⟩
    · have : k = p := by omega
      subst this; rw [hp] at hl; cases hl
      obtain ⟨x, hx, ht⟩ := watch_read hw hf
      have hlv := read_live hx (wstep_det hs hg (read_nc hx))
      rw [tmpOf_eval ht] at hlv
      rw [s1 hf]
      exact ⟨hlv, SameAt.refl _ _⟩
  · rcases Nat.lt_or_ge k p with h | h
    · exact (I.wide k c h hl hpu hw hf hu).trans X
    · have : k = p := by omega
      subst this; exact X

theorem Inv.on {cf : Bool} {ops : Array Oper} {l : List XOp} (hpairs : pairsB cf ops l = true) {K : List AV → Heap → Prop} {env0 : List AV} {w0 : World} {m0 : Maps} {h0 : Heap} {L : Array Bool} {a : Act} {w : World} :
    ∀ (n : Nat) {R : Nat → AV} {G : Nat → Heap} {m : Maps} {p : Nat}, l.length ≤ p + n → Inv P cf l K env0 w0 m0 h0 R G L a w m p → ∃ R' G' m' p', Inv P cf l K env0 w0 m0 h0 R' G' L a w m' p' ∧ (p' = l.length ∨ ∃ b, l[p']? = some b ∧ chainB cf b.o.op = true)
  | 0, R, G, m, p, hn, I => ⟨R, G, m, p, I, .inl (by have := I.le; omega)⟩
  | n + 1, R, G, m, p, hn, I => by
    rcases Nat.lt_or_ge p l.length with h | h
    · have hp := List.getElem?_eq_getElem h
      by_cases hc : chainB cf (l[p]'h).o.op = true
      · exact ⟨R, G, m, p, I, .inr ⟨_, hp, hc⟩⟩
      · obtain ⟨R', G', m', I'⟩ := I.phase hpairs hp (by simpa using hc)
        exact Inv.on hpairs n (by omega) I'
    · exact ⟨R, G, m, p, I, .inl (by have := I.le; omega)⟩

/-- **WHATEVER ORDER THE TAPE PICKS.** -/
theorem any_ok {cf : Bool} {ops : Array Oper} {l : List XOp} (ST : Stat P cf ops l) {K : List AV → Heap → Prop} {env0 : List AV} {w0 : World} {m0 : Maps} {h0 : Heap} {Q : Exit → Act → World → Prop}
    (hQ : ∀ env h a w m, ERel w m h a env → HRel w m h → Turn w0 m0 h0 w m h → K env h → Q .normal a w) :
    ∀ (fuel : Nat) (R : Nat → AV) (G : Nat → Heap) (L : Array Bool) (a : Act) (w : World) (m : Maps) (p : Nat), L.size = ops.size → Closed ops L → Inv P cf l K env0 w0 m0 h0 R G L a w m p → (p = l.length ∨ ∃ b, l[p]? = some b ∧ chainB cf b.o.op = true) →
      unl l.length (doneS l L) ≤ fuel → wpAny P .any ops Q fuel L a w := by
  have hreg := ST.ok
  simp only [regB, Bool.and_eq_true] at hreg
  obtain ⟨⟨⟨hpairs, hdeps⟩, hcover⟩, _⟩ := hreg
  have idxInj : ∀ (j k : Nat) (a b : XOp), l[j]? = some a → l[k]? = some b → a.n = b.n → j = k := fun j k a b h1 h2 e => by
    rcases Nat.lt_trichotomy j k with h | h | h
    · exact absurd e.symm (pairsB_spec hpairs j k a b h h1 h2).1
    · exact h
    · exact absurd e (pairsB_spec hpairs k j b a h h2 h1).1
  have cover : ∀ i, i < ops.size → ∃ (k : Nat) (b : XOp), l[k]? = some b ∧ b.n = i := fun i hi => by
    simp only [coverB, List.all_eq_true, List.any_eq_true, beq_iff_eq] at hcover
    obtain ⟨b, hb, e⟩ := hcover i (List.mem_range.2 hi)
    obtain ⟨k, hk⟩ := List.getElem?_of_mem hb
    exact ⟨k, b, hk, e⟩
  have done : ∀ (R : Nat → AV) (G : Nat → Heap) (L : Array Bool) (a : Act) (w : World) (m : Maps) (p : Nat), (∀ (k : Nat) (b : XOp), l[k]? = some b → L.getD b.n false = true) → Inv P cf l K env0 w0 m0 h0 R G L a w m p → (p = l.length ∨ ∃ b, l[p]? = some b ∧ chainB cf b.o.op = true) → Q .normal a w := by
    intro R G L a w m p hall I hpp
    have e : p = l.length := by
      rcases hpp with h | ⟨b, hb, hc⟩
      · exact h
      · have h1 := I.rest p b (Nat.le_refl _) hb
        rw [hall p b hb] at h1; cases h1
    subst e
    have E := I.E
    have A := I.A
    have h1 : envS l R env0 L = envA l R env0 l.length := by
      rw [envS, envA, puts_all _ _ _ fun k hk => by
        rw [dl_len] at hk
        have h1 := List.getElem?_eq_getElem (l := l) (i := k) hk
        simp only [doneS, h1]
        exact hall k _ h1, puts_all _ _ _ fun k hk => by rw [dl_len] at hk; simpa using hk]
    rw [h1] at E
    rw [List.drop_length] at A
    exact hQ _ _ a w m E I.H I.T A
  intro fuel
  induction fuel with
  | zero =>
    intro R G L a w m p hsz hC I hpp hu
    have hall : ∀ (k : Nat) (b : XOp), l[k]? = some b → L.getD b.n false = true := fun k b hk => by
      have h1 : k ∈ List.range l.length := List.mem_range.2 (List.getElem?_eq_some_iff.1 hk).1
      simp only [unl, Nat.le_zero, List.length_eq_zero_iff, List.filter_eq_nil_iff] at hu
      have := hu k h1
      simpa [doneS, hk] using this
    exact ⟨ready_nil hsz cover hall, done R G L a w m p hall I hpp⟩
  | succ fuel ih =>
    intro R G L a w m p hsz hC I hpp hu
    refine ⟨fun hr => ?_, fun i hi => ?_⟩
    · refine done R G L a w m p ?_ I hpp
      intro k
      induction k using Nat.strongRecOn with
      | ind k ihk =>
        intro b hk
        by_cases hb : L.getD b.n false = true
        · exact hb
        · exfalso
          obtain ⟨o, ho, _⟩ := ST.tr b (List.mem_of_getElem? hk)
          have hlt : b.n < L.size := by rw [hsz]; exact (Array.getElem?_eq_some_iff.1 ho).1
          have : b.n ∈ Region.ready .any ops L := mem_ready.2 ⟨getD_in' hlt (by simpa using hb), o, ho, fun d hd hbd => by
            rcases depsB_spec hdeps k b hk d.on ((edges_of ho d.on).2 ⟨d, hd, hbd, rfl⟩) with h1 | ⟨j, c, h1, h2, h3⟩
            · cases h1
            · rw [← h3]; exact ihk j h1 c h2⟩
          rw [hr] at this; cases this
    · obtain ⟨hun, o, ho, hde⟩ := mem_ready.1 hi
      have hio : i < ops.size := (Array.getElem?_eq_some_iff.1 ho).1
      have hun' : L.getD i false = false := by
        rw [Array.getD_eq_getD_getElem?] at hun ⊢
        rw [Array.getElem?_eq_getElem (by rw [hsz]; exact hio)] at hun ⊢
        exact hun
      obtain ⟨k, b, hk, hbi⟩ := cover i hio
      obtain ⟨o', ho', To⟩ := ST.tr b (List.mem_of_getElem? hk)
      rw [hbi, ho] at ho'
      cases ho'
      have hkl : k < l.length := (List.getElem?_eq_some_iff.1 hk).1
      have hedge : ∀ e ∈ edges ops i, L.getD e false = true := fun e he => by
        obtain ⟨d, h1, h2, rfl⟩ := (edges_of ho e).1 he
        exact hde d h1 h2
      -- who must come before has come; who must come behind has not
      have before : ∀ (j : Nat) (c : XOp), j < k → l[j]? = some c → conf cf c b = true → L.getD c.n false = true := fun j c hjk hj hc => by
        have := (pairsB_spec hpairs j k c b hjk hj hk).2.2 hc
        rw [hbi] at this
        exact reach_closed hC c.n _ i hedge this
      have behind : ∀ (j : Nat) (c : XOp), k < j → l[j]? = some c → conf cf b c = true → L.getD c.n false = false := fun j c hkj hj hc => by
        have := (pairsB_spec hpairs k j b c hkj hk hj).2.2 hc
        rw [hbi] at this
        by_cases h1 : L.getD c.n false = true
        · have := reach_closed hC i _ c.n (hC c.n h1) this
          rw [hun'] at this; cases this
        · simpa using h1
      -- where it stands
      have hkp : k < p ∨ (k = p ∧ chainB cf b.o.op = true) := by
        rcases Nat.lt_trichotomy k p with h | h | h
        · exact .inl h
        · subst h
          rcases hpp with e | ⟨c, hc, hcc⟩
          · omega
          · rw [hk] at hc; cases hc; exact .inr ⟨rfl, hcc⟩
        · exfalso
          rcases hpp with e | ⟨c, hc, hcc⟩
          · omega
          · have h1 := before p c h hc (by simp [conf, hcc])
            have h2 := I.rest p c (Nat.le_refl _) hc
            rw [h1] at h2; cases h2
      have hchain : chainB cf b.o.op = true → k = p := fun hc => by
        rcases hkp with h | h
        · have := I.chain k b h hk hc
          rw [hbi, hun'] at this; cases this
        · exact h.1
      have hless : chainB cf b.o.op = false → k < p := fun hc => by
        rcases hkp with h | h
        · exact h
        · rw [hc] at h; cases h.2
      -- what it looks at is there
      have look : ∀ t ∈ aoLooks b.o, (envS l R env0 L)[t]? = (envA l R env0 k)[t]? := fun t ht => by
        refine puts_agree _ t _ _ _ _ (fun j r' hj => ?_) rfl rfl
        obtain ⟨c, hc, hcd⟩ := dl0_of hj
        simp only [doneS, hc]
        rcases Nat.lt_trichotomy j k with h | h | h
        · rw [before j c h hc (by simp [conf, hitsD, hcd, ht])]; simp [h]
        · subst h
          rw [hk] at hc; cases hc
          rw [hbi, hun']; simp
        · rw [behind j c h hc (by simp [conf, hitsD, hcd, ht])]
          simp; omega
      have lookD : ∀ t ∈ aoLooks b.o, (envA l R env0 k).getD t .bad = (envS l R env0 L).getD t .bad := fun t ht => by
        rw [List.getD_eq_getElem?_getD, List.getD_eq_getElem?_getD, look t ht]
      have lookE : ∀ x ∈ aoOps b.o.op, aeval (envA l R env0 k) x = aeval (envS l R env0 L) x := fun x hx =>
        aeval_congr fun t ht => lookD t (List.mem_append_left _ (List.mem_filterMap.2 ⟨x, hx, ht⟩))
      have lookG : guardB (envA l R env0 k) b.o.guard = guardB (envS l R env0 L) b.o.guard := by
        have : ∀ t want, b.o.guard = some (t, want) → t ∈ aoLooks b.o := fun t want h => List.mem_append_right _ (by rw [h]; exact List.mem_cons_self)
        generalize b.o.guard = g at this
        cases g with
        | none => rfl
        | some tw => simp only [guardB, lookD tw.1 (this tw.1 tw.2 rfl)]
      -- the next
      have hset : ∀ (j : Nat) (c : XOp), l[j]? = some c → j ≠ k → (L.setIfInBounds i true).getD c.n false = L.getD c.n false := fun j c hj hne =>
        getD_set_other fun e => hne (idxInj j k c b hj hk (e.trans hbi.symm))
      have hself : (L.setIfInBounds i true).getD b.n false = true := by rw [hbi]; exact getD_set_same (by rw [hsz]; exact hio)
      have hund : ∀ (j : Nat) (c : XOp), l[j]? = some c → (L.setIfInBounds i true).getD c.n false = false → j ≠ k ∧ L.getD c.n false = false := fun j c hj hu => by
        have hne : j ≠ k := fun e => by subst e; rw [hk] at hj; cases hj; rw [hself] at hu; cases hu
        exact ⟨hne, by rw [← hset j c hj hne]; exact hu⟩
      have hdist : ∀ (R : Nat → AV) (t : Tmp) (k' : Nat) (r' : AV), b.o.dst = some t → k' ≠ k → (dl R 0 l)[k']? ≠ some (some t, r') := fun R t k' r' ht hne hd => by
        obtain ⟨c, hc, hcd⟩ := dl0_of hd
        rcases Nat.lt_trichotomy k' k with h | h | h
        · have := (pairsB_spec hpairs k' k c b h hc hk).2.1
          simp [sameD, hcd, ht] at this
        · exact hne h
        · have := (pairsB_spec hpairs k k' b c h hk hc).2.1
          simp [sameD, hcd, ht] at this
      have hC' : Closed ops (L.setIfInBounds i true) := fun j hj e he => by
        by_cases hji : j = i
        · subst hji
          by_cases hei : e = j
          · subst hei; exact getD_set_same (by rw [hsz]; exact hio)
          · rw [getD_set_other hei]; exact hedge e he
        · rw [getD_set_other hji] at hj
          by_cases hei : e = i
          · subst hei; exact getD_set_same (by rw [hsz]; exact hio)
          · rw [getD_set_other hei]; exact hC j hj e he
      have hu' : unl l.length (doneS l (L.setIfInBounds i true)) ≤ fuel := by
        have := (filter_less k (doneS l L) (doneS l (L.setIfInBounds i true)) (fun j hne => by
            cases hj : l[j]? with
            | none => simp only [doneS, hj]
            | some c => simp only [doneS, hj]; exact hset j c hj hne) (by simp only [doneS, hk, hbi, hun']) (by simp only [doneS, hk]; exact hself) (List.range l.length)).2 (List.mem_range.2 hkl)
        simp only [unl] at hu ⊢
        omega
      have henv : ∀ R : Nat → AV, envS l R env0 (L.setIfInBounds i true) = aput (envS l R env0 L) b.o.dst (R k) := fun R =>
        puts_more (dl R 0 l) k b.o.dst (R k) (doneS l L) (doneS l (L.setIfInBounds i true)) env0
          (dl0 hk) (fun j hne => by
            cases hj : l[j]? with
            | none => simp only [doneS, hj]
            | some c => simp only [doneS, hj]; exact hset j c hj hne) (by simp only [doneS, hk]; exact hself) (hdist R)
      -- the plain heap stays where it is
      have stay : chainB cf b.o.op = false → ∀ (v : Value) (w' : World) (m' : Maps), (∀ u x, VR w m (G p) u x → VR w' m' (G p) u x) → HRel w' m' (G p) → VR w' m' (G p) v (R k) → Turn w0 m0 h0 w' m' (G p) →
          (∀ (k' : Nat) (c : XOp), k' ≠ k → k' < p → l[k']? = some c → floatB c.o.op = true → guardB (envA l R env0 k') c.o.guard = some true → L.getD c.n false = false → Gh m' h0 (R k')) →
          wpAny P .any ops Q fuel (L.setIfInBounds i true) (a.put o.dst v) w' := fun hc v w' m' conv H' V T' hgh => by
        have hlt := hless hc
        refine ih R G _ _ _ m' p (by simpa using hsz) hC' ⟨I.le, fun j c hj hl hcc => ?_, fun j c hj hl => ?_, I.W, I.A, fun j c hj hl hf hg hu => ?_, fun j j' b1 c1 hjk hk' hl1 hl2 f1 f2 g1 g2 u1 u2 => ?_, fun j c t hj hl hw hf hg hu => ?_, fun j c hj hl hpu hw hf hu => ?_, ?_, H', T'⟩ hpp hu'
        · have hne : j ≠ k := fun e => by subst e; rw [hk] at hl; cases hl; rw [hc] at hcc; cases hcc
          rw [hset j c hl hne]; exact I.chain j c hj hl hcc
        · rw [hset j c hl (by omega)]; exact I.rest j c hj hl
        · obtain ⟨hne, hu⟩ := hund j c hl hu
          obtain ⟨_, i2, i3⟩ := I.float j c hj hl hf hg hu
          exact ⟨hgh j c hne hj hl hf hg hu, i2, i3⟩
        · exact I.dist j j' b1 c1 hjk hk' hl1 hl2 f1 f2 g1 g2 (hund j b1 hl1 u1).2 (hund j' c1 hl2 u2).2
        · exact I.read j c t hj hl hw hf hg (hund j c hl hu).2
        · exact I.wide j c hj hl hpu hw hf (hund j c hl hu).2
        · rw [henv, ← To.dst]
          exact ERel.put ⟨I.E.defers, I.E.size, fun j v' x h1 h2 => conv _ _ (I.E.at_ j v' x h1 h2)⟩ _ V
      have stayT : chainB cf b.o.op = false → ∀ (v : Value) (w' : World) (m' : Maps), HRel w' m' (G p) → VR w' m' (G p) v (R k) → Turn w m (G p) w' m' (G p) → wpAny P .any ops Q fuel (L.setIfInBounds i true) (a.put o.dst v) w' := fun hc v w' m' H' V T' =>
        stay hc v w' m' (fun u x h => h.turn T') H' V (I.T.trans T') fun k' c _ hk' hl hf hg hu => by
          obtain ⟨i1, i2, i3⟩ := I.float k' c hk' hl hf hg hu
          exact i1.turn T' I.H.lt (i2.same i3)
      -- one of the chain
      have hdrop : l.drop k = b :: l.drop (k + 1) := by
        rw [List.drop_eq_getElem_cons hkl]
        congr 1
        rw [List.getElem?_eq_getElem hkl] at hk
        exact Option.some.inj hk
      have go : k = p → chainB cf b.o.op = true → ∀ (r : AV) (hn : Heap), (guardB (envA l R env0 k) b.o.guard = some false → hn = G k) →
          (guardB (envA l R env0 k) b.o.guard = some true → ∀ t ∈ b.us, t < (envA l R env0 k).length ∧ SameAt (G k) hn ((envA l R env0 k).getD t .bad)) → (guardB (envA l R env0 k) b.o.guard = some true ∨ guardB (envA l R env0 k) b.o.guard = some false) →
          xrun P cf (l.drop (k + 1)) K (aput (envA l R env0 k) b.o.dst r) hn → ∀ (v : Value) (w' : World) (m' : Maps), HRel w' m' hn → VR w' m' hn v r → Turn w m (G p) w' m' hn → wpAny P .any ops Q fuel (L.setIfInBounds i true) (a.put o.dst v) w' := fun hkp hc r hn hgf hus hgg A' v w' m' H' V T' => by
        subst hkp
        have hup : ∃ (R' : Nat → AV) (G' : Nat → Heap), (∀ j, j < k → R j = R' j) ∧ (∀ j, j ≤ k → G j = G' j) ∧ R' k = r ∧ G' (k + 1) = hn :=
          ⟨fun j => if j = k then r else R j, fun j => if j = k + 1 then hn else G j, fun j hk => (if_neg (by omega)).symm, fun j hk => (if_neg (by omega)).symm, if_pos rfl, if_pos rfl⟩
        obtain ⟨R', G', hR, hG, hRp, hGp⟩ := hup
        have eA : ∀ j, j ≤ k → envA l R env0 j = envA l R' env0 j := fun j hj => envA_congr fun q hq => hR q (by omega)
        have I := I.congr hR hG
        rw [eA k (Nat.le_refl _), hG k (Nat.le_refl _)] at hus
        rw [eA k (Nat.le_refl _)] at hgf hgg A'
        rw [hG k (Nat.le_refl _)] at T' hgf
        subst hGp; subst hRp
        -- who has not come is watched
        have wat : ∀ (j : Nat) (c : XOp), j < k → l[j]? = some c → pureB c.o.op = false → L.getD c.n false = false → ∃ t, watch c.o = some t ∧ b.us.contains t = true := fun j c hj hl hpu hu => by
          by_cases hw : watched c b = true
          · unfold watched at hw
            split at hw
            · rename_i t ht; exact ⟨t, ht, hw⟩
            · cases hw
          · have := before j c hj hl (by simp [conf, hc, hpu, hw])
            rw [hu] at this; cases this
        have sm : ∀ t, b.us.contains t = true → t < (envA l R' env0 k).length ∧ SameAt (G' k) (G' (k + 1)) ((envA l R' env0 k).getD t .bad) ∨ G' (k + 1) = G' k := fun t ht => by
          rcases hgg with g | g
          · exact .inl (hus g t (List.contains_iff_mem.1 ht))
          · exact .inr (hgf g)
        have I' : Inv P cf l K env0 w0 m0 h0 R' G' (L.setIfInBounds i true) (a.put o.dst v) w' m' (k + 1) := by
          refine ⟨hkl, fun j c hj hl hcc => ?_, fun j c hj hl => ?_, fun j c hj hl hcc => ?_, ?_, fun j c hj hl hf hg' hu => ?_, fun j j' b1 c1 hjk hk' hl1 hl2 f1 f2 g1 g2 u1 u2 => ?_, fun j c t hj hl hw hf hg' hu => ?_, fun j c hj hl hpu hw hf hu => ?_, ?_, H', I.T.trans T'⟩
          · by_cases hne : j = k
            · subst hne; rw [hk] at hl; cases hl; exact hself
            · rw [hset j c hl hne]; exact I.chain j c (by omega) hl hcc
          · rw [hset j c hl (by omega)]; exact I.rest j c (by omega) hl
          · have hne : j ≠ k := fun e => by subst e; rw [hk] at hl; cases hl; rw [hc] at hcc; cases hcc
            exact I.W j c (by omega) hl hcc
          · rw [envA_next hk (hdist R')]; exact A'
          · obtain ⟨hne, hu⟩ := hund j c hl hu
            have hjk : j < k := by omega
            obtain ⟨i1, i2, i3⟩ := I.float j c hjk hl hf hg' hu
            refine ⟨i1.turn T' I.H.lt (i2.same i3), i2, i3.trans ?_⟩
            obtain ⟨t, ht, hct⟩ := wat j c hjk hl (float_alloc hf).2.2.2 hu
            rcases sm t hct with ⟨hlen, hsm⟩ | e
            · have hdt := watch_float ht hf
              have he : (envA l R' env0 k)[t]? = some (R' j) := puts_at (dl R' 0 l) t (R' j) j _ env0 (by rw [dl0 hl, hdt]) (by simpa using hjk) (fun k' r'' hne' hd => by
                obtain ⟨c', hc', hcd⟩ := dl0_of hd
                rcases Nat.lt_trichotomy k' j with h | h | h
                · have := (pairsB_spec hpairs k' j c' c h hc' hl).2.1
                  simp [sameD, hcd, hdt] at this
                · exact hne' h
                · have := (pairsB_spec hpairs j k' c c' h hl hc').2.1
                  simp [sameD, hcd, hdt] at this) (by rw [envA, puts_len] at hlen; exact hlen)
              rw [List.getD_eq_getElem?_getD, he] at hsm
              exact hsm
            · rw [e]; exact SameAt.refl _ _
          · have a1 := hund j b1 hl1 u1
            have a2 := hund j' c1 hl2 u2
            exact I.dist j j' b1 c1 hjk (by omega) hl1 hl2 f1 f2 g1 g2 a1.2 a2.2
          · obtain ⟨hne, hu⟩ := hund j c hl hu
            have hjk : j < k := by omega
            obtain ⟨i1, i2⟩ := I.read j c t hjk hl hw hf hg' hu
            refine ⟨i1, i2.trans ?_⟩
            obtain ⟨x, hx, _⟩ := watch_read hw hf
            obtain ⟨t', ht', hct⟩ := wat j c hjk hl (read_not (by rw [hx]; rfl)).2.1 hu
            rw [hw] at ht'; cases ht'
            rcases sm t hct with ⟨hlen, hsm⟩ | e
            · obtain ⟨k1, k2⟩ := keepB_spec hpairs j k c b t hjk hl hk hw hct
              have he : (envA l R' env0 k)[t]? = (envA l R' env0 j)[t]? := puts_agree _ t _ _ _ _ (fun q r'' hq => by
                obtain ⟨c', hc', hcd⟩ := dl0_of hq
                rcases Nat.lt_trichotomy q j with h | h | h
                · simp [h]; omega
                · subst h; rw [hl] at hc'; cases hc'; exact absurd hcd (k2 hf)
                · exact absurd hcd (k1 q c' h hc')) rfl rfl
              rw [List.getD_eq_getElem?_getD, he, ← List.getD_eq_getElem?_getD] at hsm
              exact hsm
            · rw [e]; exact SameAt.refl _ _
          · obtain ⟨hne, hu⟩ := hund j c hl hu
            obtain ⟨t, ht, _⟩ := wat j c (by omega) hl hpu hu
            rw [hw] at ht; cases ht
          · rw [henv, ← To.dst]
            exact (I.E.turn T').put _ V
        obtain ⟨R2, G2, m2, p2, I2, hp2⟩ := I'.on hpairs l.length (by omega)
        exact ih R2 G2 _ _ _ m2 p2 (by simpa using hsz) hC' I2 hp2 hu'
      unfold wpOp
      simp only [ho]
      have gF : guardB (envA l R env0 k) b.o.guard = some false → Region.wanted o (yielded ops a.tmps) = false := fun hg => by
        rcases guard_ok I.E To.guard (guardB_ok (y := False) (n := True) false (by rw [← lookG]; exact hg) (fun h => by cases h) (fun _ => trivial)) with ⟨_, hf⟩ | ⟨hw, _⟩
        · exact hf.elim
        · exact hw
      have gT : guardB (envA l R env0 k) b.o.guard = some true → Region.wanted o (yielded ops a.tmps) = true := fun hg => by
        rcases guard_ok I.E To.guard (guardB_ok (y := True) (n := False) true (by rw [← lookG]; exact hg) (fun _ => trivial) (fun h => by cases h)) with ⟨hw, _⟩ | ⟨_, hf⟩
        · exact hw
        · exact hf.elim
      have V0 : ∀ h, VR w m h undef (.tup []) := fun h => .tup #[] [] rfl (fun j v c h1 _ => by simp at h1)
      have hT := To.op
      have det : ∀ r h', adet (envS l R env0 L) (G p) b.o.op = some (r, h') →
          (∀ (v : Value) (w' : World) (m' : Maps), HRel w' m' h' → VR w' m' h' v r → Turn w m (G p) w' m' h' → wpAny P .any ops Q fuel (L.setIfInBounds i true) (a.put o.dst v) w') → o.wp P a w (wpAny P .any ops Q fuel (L.setIfInBounds i true)) Q := fun r h' hd hn => by
        obtain ⟨nx, v, w', m', hrun, hnx, G', V, T'⟩ := det_ok I.H I.E hT hd
        unfold Oper.wp
        rw [hrun]
        rcases hnx with rfl | ⟨rfl, rfl⟩
        · exact hn v w' m' G' V T'
        · exact hn undef w' m' G' V T'
      have meet : ∀ f args, b.o.op = .call f args → ∀ S, PCall P f (args.map (aeval (envS l R env0 L))) (G p) S →
          (∀ (v : Value) (w' : World) (m' : Maps) (r' : AV) (h' : Heap), S r' h' → HRel w' m' h' → VR w' m' h' v r' → Turn w m (G p) w' m' h' → wpAny P .any ops Q fuel (L.setIfInBounds i true) (a.put o.dst v) w') → o.wp P a w (wpAny P .any ops Q fuel (L.setIfInBounds i true)) Q := fun f args hop S HS hn => by
        rw [hop] at hT
        generalize hmo : o.op = mop at hT
        cases hT with
        | call c f hc =>
          refine call_wp (caps := #[]) hmo hc rfl HS.1 ?_
          rw [Array.append_empty]
          exact (HS.2 w m _ I.H (args_rel I.E c.args)).mono fun e w' ⟨v, m', r', h', he, G', V', T', hr'⟩ => ⟨v, he, hn v w' m' r' h' hr' G' V' T'⟩
      have hargs : ∀ f args, b.o.op = .call f args → args.map (aeval (envA l R env0 k)) = args.map (aeval (envS l R env0 L)) := fun f args hop =>
        List.map_congr_left fun x hx => lookE x (by rw [hop]; exact hx)
      by_cases hc : chainB cf b.o.op = true
      · have hkp := hchain hc
        have A := I.A
        rw [← hkp, hdrop] at A
        simp only [xrun] at A
        rcases aguard_B A with ⟨hg, A⟩ | ⟨hg, A⟩
        · rw [if_pos (gT hg)]
          refine .inl ?_
          unfold xstp at A
          split at A
          · rename_i f args hop
            rcases A with ⟨r, ts, Rf, V, A⟩ | ⟨_, S, HS, A⟩
            · rw [hargs f args hop] at V
              refine meet f args hop _ (Rf.lift (V.ext (by rw [hkp]; exact HExt.refl _))) fun v w' m' r' h' hr' H' V' T' => ?_
              obtain ⟨rfl, rfl⟩ := hr'
              exact go hkp hc _ _ (fun e => by rw [hg] at e; cases e) (fun _ => by rw [← hkp]; exact A.1) (.inl hg) (by rw [← hkp]; exact A.2) v w' m' H' V' T'
            · rw [hargs f args hop, hkp] at HS
              refine meet f args hop _ HS fun v w' m' r' h' hr' H' V' T' => ?_
              obtain ⟨A1, A2⟩ := A r' h' hr'
              exact go hkp hc _ _ (fun e => by rw [hg] at e; cases e) (fun _ => A1) (.inl hg) A2 v w' m' H' V' T'
          · exact A.elim
          · rename_i op h1 h2
            split at A
            · rename_i r h' hd
              rw [adet_congr lookE, hkp] at hd
              exact det r h' hd fun v w' m' H' V' T' => go hkp hc _ _ (fun e => by rw [hg] at e; cases e) (fun _ => A.1) (.inl hg) A.2 v w' m' H' V' T'
            · exact A.elim
        · rw [if_neg (by rw [gF hg]; decide)]
          exact go hkp hc (.tup []) (G k) (fun _ => rfl) (fun e => by rw [hg] at e; cases e) (.inr hg) A undef w m (by rw [hkp]; exact I.H) (V0 _) (by rw [hkp]; exact Turn.refl _ _ _)
      · have hc : chainB cf b.o.op = false := by simpa using hc
        have hlt := hless hc
        have hs := I.W k b hlt hk hc
        have hub : L.getD b.n false = false := by rw [hbi]; exact hun'
        rcases hs with ⟨hg, hr, hhe⟩ | ⟨hg, hs⟩
        · rw [if_neg (by rw [gF hg]; decide)]
          exact stayT hc undef w m I.H (by rw [hr]; exact V0 _) (Turn.refl _ _ _)
        · rw [if_pos (gT hg)]
          refine .inl ?_
          have fin : (∀ f args, b.o.op ≠ .call f args) → adet (envA l R env0 k) (G k) b.o.op = some (R k, G (k + 1)) → o.wp P a w (wpAny P .any ops Q fuel (L.setIfInBounds i true)) Q := fun hnc hd => by
            by_cases hpu : pureB b.o.op = true
            · rw [adet_congr lookE] at hd
              exact det _ _ (pure_adet hpu hd).2 fun v w' m' G V T' => stayT hc v w' m' G V T'
            · have hpu : pureB b.o.op = false := by simpa using hpu
              by_cases hf : floatB b.o.op = true
              · -- made at last
                obtain ⟨i1, i2, i3⟩ := I.float k b hlt hk hf hg hub
                have others : ∀ (k' : Nat) (c : XOp), k' ≠ k → k' < p → l[k']? = some c → floatB c.o.op = true → guardB (envA l R env0 k') c.o.guard = some true → L.getD c.n false = false → Gh m h0 (R k') ∧ ¬ sameO (R k') (R k) := fun k' c hne hk' hl hf' hg' hu => by
                  refine ⟨(I.float k' c hk' hl hf' hg' hu).1, ?_⟩
                  rcases Nat.lt_trichotomy k' k with h | h | h
                  · exact I.dist k' k c b h hlt hl hk hf' hf hg' hg hu hub
                  · exact absurd h hne
                  · have := I.dist k k' b c h hk' hk hl hf hf' hg hg' hub hu
                    intro e
                    refine this ?_
                    revert e
                    generalize R k = x
                    generalize R k' = y
                    intro e
                    cases y <;> cases x <;> simp only [sameO] at e ⊢ <;> exact e.symm
                rw [adet_congr lookE] at hd
                obtain ⟨v, w', hrun, hv⟩ := float_run I.E hT hf hd
                unfold Oper.wp
                rw [hrun]
                show wpAny P .any ops Q fuel (L.setIfInBounds i true) (a.put o.dst v) w'
                rcases hv with ⟨cs, hr, hh', rfl, B⟩ | ⟨sz, el, hr, hh', rfl, B⟩
                · rw [hr] at i1 i3
                  rw [hh'] at i3
                  have hr0 : (G p).boxes[(G k).boxes.length]? = some cs := by
                    have i3 : (G p).boxes[(G k).boxes.length]? = ((G k).boxes ++ [cs])[(G k).boxes.length]? := i3
                    rw [i3]; simp
                  obtain ⟨G', conv, Tn, V⟩ := I.H.box_ghost i1.1 hr0 B
                  refine stay hc _ w' _ conv G' (by rw [hr]; exact V) (Tn _ _ _ I.T i1.2) fun k' c hne hk' hl hf' hg' hu => ?_
                  obtain ⟨j1, j2⟩ := others k' c hne hk' hl hf' hg' hu
                  rw [hr] at j2
                  revert j1 j2
                  generalize R k' = y
                  intro j1 j2
                  cases y <;> simp only [Gh, sameO] at * <;> first | exact j1 | trivial | skip
                  simp only [Maps.setBox, j2, if_false]; exact j1
                · rw [hr] at i1 i3
                  rw [hh'] at i3
                  have hr0 : (G p).rows (G k).next = some ⟨sz, el⟩ := by
                    have i3 : (G p).rows (G k).next = upd (G k).rows (G k).next (some ⟨sz, el⟩) (G k).next := i3
                    rw [i3, upd_same]
                  obtain ⟨G', conv, Tn, V⟩ := I.H.row_ghost i1.1 hr0 B
                  refine stay hc _ w' _ conv G' (by rw [hr]; exact V) (Tn _ _ _ I.T i1.2) fun k' c hne hk' hl hf' hg' hu => ?_
                  obtain ⟨j1, j2⟩ := others k' c hne hk' hl hf' hg' hu
                  rw [hr] at j2
                  revert j1 j2
                  generalize R k' = y
                  intro j1 j2
                  cases y <;> simp only [Gh, sameO] at * <;> first | exact j1 | trivial | skip
                  simp only [Maps.setRow, j2, if_false]; exact j1
              · have hf : floatB b.o.op = false := by simpa using hf
                have hd' : adet (envS l R env0 L) (G p) b.o.op = some (R k, G p) := by
                  rw [← adet_congr lookE]
                  cases hw : watch b.o with
                  | some t =>
                    obtain ⟨x, hx, ht⟩ := watch_read hw hf
                    have := (I.read k b t hlt hk hw hf hg hub).2
                    rw [← tmpOf_eval ht] at this
                    exact (read_same hx this hd).2
                  | none =>
                    have hl : loudB b.o.op = false := quiet_of hc hf hnc
                    exact (adet_ext (I.wide k b hlt hk hpu hw hf hub) hl hd).2
                exact det _ _ hd' fun v w' m' G V T' => stayT hc v w' m' G V T'
          split at hs
          · rename_i f args hop
            obtain ⟨_, ts, Rf, V⟩ := hs
            rw [hargs f args hop] at V
            refine meet f args hop _ (Rf.lift (V.ext (I.wide k b hlt hk (by rw [hop]; rfl) (by simp [watch, hop, readRoot, floatB]) (by rw [hop]; rfl) hub))) fun v w' m' r' h' hr' H' V' T' => ?_
            obtain ⟨hr1, rfl⟩ := hr'
            exact stayT hc v w' m' H' (by rw [← hr1]; exact V') T'
          · exact hs.elim
          · rename_i h1 h2; exact fin (fun f args e => h1 f args e) hs

/-- A region that draws its order, by one walk. -/
theorem xops_ok {cf : Bool} {ops : Array Oper} {l : List XOp} (ST : Stat P cf ops l) (hm : P.follows .mixedOrders = true) {id : Nat} {w0 : World} {m0 : Maps} {h0 : Heap} {Q : Exit → Act → World → Prop} {K : List AV → Heap → Prop}
    (hK : ∀ env h a w m, ERel w m h a env → HRel w m h → Turn w0 m0 h0 w m h → K env h → Q .normal a w) {env : List AV} {h : Heap} {a : Act} {w : World} {m : Maps}
    (E : ERel w m h a env) (H : HRel w m h) (T : Turn w0 m0 h0 w m h) (A : xrun P cf l K env h) : (Code.region id ops true).wp P Q a w := by
  refine wp_region_any hm ?_
  obtain ⟨H2, T2⟩ := H.drew
  have hreg := ST.ok
  simp only [regB, Bool.and_eq_true, decide_eq_true_eq] at hreg
  have hno : ∀ j, (Array.replicate ops.size false).getD j false = false := fun j => by
    rw [Array.getD_eq_getD_getElem?, Array.getElem?_replicate]; split <;> rfl
  have hp0 : ∀ (l : List (Option Tmp × AV)) env, puts l (fun _ => false) env = env := fun l => by
    induction l with
    | nil => intro env; rfl
    | cons p l ih => intro env; simp only [puts, Bool.false_eq_true, if_false]; exact ih env
  have I : Inv P cf l K env w0 m0 h0 (fun _ => .bad) (fun _ => h) (Array.replicate ops.size false) a w.drew m 0 := by
    have e0 : envA l (fun _ => .bad) env 0 = env := by
      have : (fun j : Nat => decide (j < 0)) = fun _ => false := by funext j; simp
      rw [envA, this]; exact hp0 _ _
    have e1 : envS l (fun _ => .bad) env (Array.replicate ops.size false) = env := by
      have e : doneS l (Array.replicate ops.size false) = fun _ => false := by
        funext k; unfold doneS; cases l[k]? with
        | none => rfl
        | some b => exact hno _
      rw [envS, e]; exact hp0 _ _
    exact ⟨Nat.zero_le _, fun j b hj => absurd hj (Nat.not_lt_zero _), fun j b _ _ => hno _, fun j b hj => absurd hj (Nat.not_lt_zero _), by rw [e0]; exact A, fun j b hj => absurd hj (Nat.not_lt_zero _), fun j j' b c _ hj => absurd hj (Nat.not_lt_zero _), fun j b t hj => absurd hj (Nat.not_lt_zero _), fun j b hj => absurd hj (Nat.not_lt_zero _), by rw [e1]; exact E.turn T2, H2, T.trans T2⟩
  obtain ⟨R', G', m', p', I', hp'⟩ := I.on hreg.1.1.1 l.length (by omega)
  refine any_ok ST (w0 := w0) (m0 := m0) (h0 := h0) hK ops.size R' G' _ a _ m' p' (by simp) (fun j hj => by rw [hno] at hj; cases hj) I' hp' ?_
  refine Nat.le_trans ?_ hreg.2
  unfold unl
  exact Nat.le_trans (List.length_filter_le _ _) (by simp)
end
end Go.PA
