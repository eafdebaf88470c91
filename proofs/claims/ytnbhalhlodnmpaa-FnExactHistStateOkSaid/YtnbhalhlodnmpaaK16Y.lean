/- Regions that draw their order and write: whatever order the tape picks. No condition. -/
import Derived.Test.YtnbhalhlodnmpaaK16X
namespace Go.PA

def edges (ops : Array Oper) (j : Nat) : List Nat := match ops[j]? with
  | some o => (o.after.toList.filter (Region.binds .any)).map (·.on)
  | none => []
/-- 'i' comes before 'j', by the region's own edges. -/
def reach (ops : Array Oper) (i : Nat) : Nat → Nat → Bool
  | 0, _ => false
  | n + 1, j => (edges ops j).any fun e => e == i || reach ops i n e
def sameD (a b : AOper) : Bool := match a.dst with
  | some d => b.dst == some d
  | none => false
def hitsD (a b : AOper) : Bool := match a.dst with
  | some d => (aoLooks b).contains d
  | none => false
/-- Calls may be held to make rows of their own. -/
def loudC (cf : Bool) : AOp → Bool
  | .call _ _ => cf
  | op => loudB op
/-- Two operations whose order matters; 'a' stands first. -/
def conf (cf : Bool) (a b : AOper) : Bool := hitsD a b || hitsD b a || (loudC cf a.op && !pureB b.op) || (!pureB a.op && mutB b.op)
def pairsB (cf : Bool) (ops : Array Oper) : List (Nat × AOper) → Bool
  | [] => true
  | (i, a) :: l => l.all (fun p => !(p.1 == i) && !sameD a p.2 && (!conf cf a p.2 || reach ops i ops.size p.1)) && pairsB cf ops l
def depsB (ops : Array Oper) : List Nat → List (Nat × AOper) → Bool
  | _, [] => true
  | seen, (i, _) :: l => (edges ops i).all (fun e => seen.contains e) && depsB ops (i :: seen) l
def coverB (ops : Array Oper) (l : List (Nat × AOper)) : Bool := (List.range ops.size).all fun i => l.any fun p => p.1 == i
def regB (cf : Bool) (ops : Array Oper) (l : List (Nat × AOper)) : Bool := pairsB cf ops l && depsB ops [] l && coverB ops l && decide (l.length ≤ ops.size)

theorem pairsB_spec {cf : Bool} {ops : Array Oper} : ∀ {l : List (Nat × AOper)}, pairsB cf ops l = true → ∀ (j k : Nat) (a b : Nat × AOper), j < k → l[j]? = some a → l[k]? = some b →
    b.1 ≠ a.1 ∧ sameD a.2 b.2 = false ∧ (conf cf a.2 b.2 = true → reach ops a.1 ops.size b.1 = true) := by
  intro l
  induction l with
  | nil => intro _ j k a b _ h; simp at h
  | cons p l ih =>
    obtain ⟨i, o⟩ := p
    intro h j k a b hjk ha hb
    simp only [pairsB, Bool.and_eq_true, List.all_eq_true] at h
    cases j with
    | zero =>
      simp only [List.getElem?_cons_zero, Option.some.injEq] at ha
      subst ha
      cases k with
      | zero => omega
      | succ k =>
        have := h.1 b (List.mem_of_getElem? (by simpa using hb))
        simp only [Bool.not_eq_true', beq_eq_false_iff_ne, Bool.or_eq_true] at this
        refine ⟨this.1.1, this.1.2, fun hc => ?_⟩
        rcases this.2 with h1 | h1
        · rw [hc] at h1; cases h1
        · exact h1
    | succ j =>
      cases k with
      | zero => omega
      | succ k => exact ih h.2 j k a b (by omega) (by simpa using ha) (by simpa using hb)
theorem depsB_spec {ops : Array Oper} : ∀ {l : List (Nat × AOper)} {seen : List Nat}, depsB ops seen l = true → ∀ (k : Nat) (a : Nat × AOper), l[k]? = some a → ∀ e ∈ edges ops a.1, e ∈ seen ∨ ∃ j b, j < k ∧ l[j]? = some b ∧ b.1 = e := by
  intro l
  induction l with
  | nil => intro seen _ k a h; simp at h
  | cons p l ih =>
    obtain ⟨i, o⟩ := p
    intro seen h k a ha e he
    simp only [depsB, Bool.and_eq_true, List.all_eq_true] at h
    cases k with
    | zero =>
      simp only [List.getElem?_cons_zero, Option.some.injEq] at ha
      subst ha
      exact .inl (by simpa using h.1 e he)
    | succ k =>
      rcases ih h.2 k a (by simpa using ha) e he with h1 | ⟨j, b, h1, h2, h3⟩
      · rcases List.mem_cons.1 h1 with rfl | h1
        · exact .inr ⟨0, (e, o), by omega, rfl, rfl⟩
        · exact .inl h1
      · exact .inr ⟨j + 1, b, by omega, by simpa using h2, h3⟩

/-- All that an operation waits for has come. -/
def Closed (ops : Array Oper) (L : Array Bool) : Prop := ∀ j, L.getD j false = true → ∀ e ∈ edges ops j, L.getD e false = true
theorem reach_closed {ops : Array Oper} {L : Array Bool} (C : Closed ops L) (i : Nat) : ∀ (n j : Nat), (∀ e ∈ edges ops j, L.getD e false = true) → reach ops i n j = true → L.getD i false = true := by
  intro n
  induction n with
  | zero => intro j _ h; cases h
  | succ n ih =>
    intro j hj h
    simp only [reach, List.any_eq_true, Bool.or_eq_true, beq_iff_eq] at h
    obtain ⟨e, he, h⟩ := h
    rcases h with rfl | h
    · exact hj _ he
    · exact ih e (C e (hj e he)) h

theorem edges_of {ops : Array Oper} {j : Nat} {o : Oper} (ho : ops[j]? = some o) (e : Nat) : e ∈ edges ops j ↔ ∃ d ∈ o.after, Region.binds .any d = true ∧ d.on = e := by
  simp only [edges, ho, List.mem_map, List.mem_filter, Array.mem_toList_iff]
  exact ⟨fun ⟨d, ⟨a, b⟩, c⟩ => ⟨d, a, b, c⟩, fun ⟨d, a, b, c⟩ => ⟨d, ⟨a, b⟩, c⟩⟩

theorem getD_set_same {L : Array Bool} {i : Nat} (h : i < L.size) : (L.setIfInBounds i true).getD i false = true := by
  simp [h]
theorem getD_set_other {L : Array Bool} {i j : Nat} (h : j ≠ i) : (L.setIfInBounds i true).getD j false = L.getD j false := by
  simp [Array.getElem?_setIfInBounds_ne (Ne.symm h)]

def unl (n : Nat) (S : Nat → Bool) : Nat := ((List.range n).filter fun k => !S k).length
theorem filter_less (k : Nat) (S S' : Nat → Bool) (hS : ∀ j, j ≠ k → S' j = S j) (hk : S k = false) (hk' : S' k = true) : ∀ l : List Nat, (l.filter fun j => !S' j).length ≤ (l.filter fun j => !S j).length ∧
    (k ∈ l → (l.filter fun j => !S' j).length < (l.filter fun j => !S j).length) := by
  intro l
  induction l with
  | nil => exact ⟨Nat.le_refl _, fun h => by cases h⟩
  | cons x l ih =>
    by_cases hx : x = k
    · subst hx
      simp only [List.filter_cons, hk, hk', Bool.not_true, Bool.not_false, Bool.false_eq_true, if_true, if_false, List.length_cons]
      exact ⟨by omega, fun _ => by omega⟩
    · have := hS x hx
      simp only [List.filter_cons, this]
      refine ⟨?_, fun h => ?_⟩
      · split <;> (try simp only [List.length_cons]) <;> omega
      · have h2 := ih.2 ((List.mem_cons.1 h).resolve_left (Ne.symm hx))
        split <;> (try simp only [List.length_cons]) <;> omega

theorem Seens.ext {h h' : Heap} (X : HExt h h') : ∀ (as ts : List AV), Seens h as ts → Views h' as ts
  | [], [], _ => trivial
  | [], _ :: _, h => False.elim h
  | _ :: _, [], h => False.elim h
  | _ :: as, _ :: ts, h => ⟨h.1 _ X, Seens.ext X as ts h.2⟩

section
variable {P : Program}

theorem wstep_quiet {cf : Bool} {env : List AV} {h h' : Heap} {o : AOper} {r : AV} (W : wstep P cf env h o r h') (hl : loudC cf o.op = false) : h' = h := by
  rcases W with ⟨_, _, e⟩ | ⟨_, W⟩
  · exact e
  · split at W
    · rename_i f args he
      rcases W with W | ⟨e, _⟩
      · exact W.1
      · rw [he] at hl; simp only [loudC] at hl; rw [e] at hl; cases hl
    · exact False.elim W
    · rename_i op h1 h2
      have hl' : loudB o.op = false := by
        revert hl
        generalize o.op = op at *
        cases op <;> intro hl <;> first | exact hl | rfl
      exact (adet_ext (HExt.refl h) hl' W).1

theorem pure_loud {cf : Bool} {op : AOp} (h : pureB op = true) : loudC cf op = false := by cases op <;> simp [pureB] at h <;> rfl
theorem mut_loud {cf : Bool} {op : AOp} (h : mutB op = true) : loudC cf op = true := by cases op <;> simp [mutB] at h <;> rfl

structure Stat (P : Program) (cf : Bool) (ops : Array Oper) (l : List (Nat × AOper)) : Prop where
  tr : ∀ p ∈ l, ∃ o, ops[p.1]? = some o ∧ TrOper P ops o p.2
  ok : regB cf ops l = true

theorem getD_in' {L : Array Bool} {i : Nat} (h : i < L.size) (hf : L.getD i false = false) : L.getD i true = false := by
  rw [Array.getD_eq_getD_getElem?] at hf ⊢
  rw [Array.getElem?_eq_getElem h] at hf ⊢
  exact hf
theorem ready_nil {ops : Array Oper} {l : List (Nat × AOper)} {L : Array Bool} (hsz : L.size = ops.size) (cover : ∀ i, i < ops.size → ∃ (k : Nat) (b : Nat × AOper), l[k]? = some b ∧ b.1 = i)
    (hall : ∀ (k : Nat) (b : Nat × AOper), l[k]? = some b → L.getD b.1 false = true) : Region.ready .any ops L = [] := by
  cases hr : Region.ready .any ops L with
  | nil => rfl
  | cons i t =>
    exfalso
    have hi : i ∈ Region.ready .any ops L := by rw [hr]; exact List.mem_cons_self
    obtain ⟨h1, o, ho, _⟩ := mem_ready.1 hi
    have hio : i < ops.size := (Array.getElem?_eq_some_iff.1 ho).1
    obtain ⟨k, b, hk, rfl⟩ := cover i hio
    have h2 := hall k b hk
    rw [Array.getD_eq_getD_getElem?] at h1 h2
    rw [Array.getElem?_eq_getElem (by rw [hsz]; exact hio)] at h1 h2
    simp only [Option.getD_some] at h1 h2
    rw [h2] at h1; cases h1

/-- **WHATEVER ORDER THE TAPE PICKS.** -/
theorem any_ok {cf : Bool} {ops : Array Oper} {l : List (Nat × AOper)} (ST : Stat P cf ops l) {env0 : List AV} {hh : Heap} {rs : List (AV × Heap)} (W : Walk P cf l env0 hh rs)
    {w0 : World} {m0 : Maps} {h0 : Heap} {Q : Exit → Act → World → Prop}
    (hQ : ∀ a w m, ERel w m (hAt hh rs l.length) a ((dls l rs).foldl (fun e p => aput e p.1 p.2) env0) → HRel w m (hAt hh rs l.length) → Turn w0 m0 h0 w m (hAt hh rs l.length) → Q .normal a w) :
    ∀ (fuel : Nat) (L : Array Bool) (a : Act) (w : World) (m : Maps) (p : Nat), L.size = ops.size → Closed ops L → p ≤ l.length →
      (∀ (k : Nat) (b : Nat × AOper), l[k]? = some b → loudC cf b.2.op = true → (L.getD b.1 false = true ↔ k < p)) →
      (∀ (k : Nat) (b : Nat × AOper), k < p → l[k]? = some b → loudC cf b.2.op = true → mutB b.2.op = false → HExt (hAt hh rs k) (hAt hh rs (k + 1))) →
      ERel w m (hAt hh rs p) a (puts (dls l rs) (fun k => match l[k]? with | some b => L.getD b.1 false | none => false) env0) → HRel w m (hAt hh rs p) → Turn w0 m0 h0 w m (hAt hh rs p) →
      unl l.length (fun k => match l[k]? with | some b => L.getD b.1 false | none => false) ≤ fuel →
      wpAny P .any ops Q fuel L a w := by
  have hreg := ST.ok
  simp only [regB, Bool.and_eq_true] at hreg
  obtain ⟨⟨⟨hpairs, hdeps⟩, hcover⟩, _⟩ := hreg
  obtain ⟨hrl, hW⟩ := W.at_
  have hdl : (dls l rs).length = l.length := by simp [dls, hrl]
  have dlAt : ∀ (k : Nat) (b : Nat × AOper) (r : AV) (h' : Heap), l[k]? = some b → rs[k]? = some (r, h') → (dls l rs)[k]? = some (b.2.dst, r) := fun k b r h' h1 h2 => by
    simp only [dls, List.getElem?_zipWith, h1, h2]
  have dlOf : ∀ (k : Nat) (d : Option Tmp) (r : AV), (dls l rs)[k]? = some (d, r) → ∃ b, l[k]? = some b ∧ b.2.dst = d := fun k d r h => by
    have hk : k < l.length := by rw [← hdl]; exact (List.getElem?_eq_some_iff.1 h).1
    have h1 := List.getElem?_eq_getElem hk
    have h2 := List.getElem?_eq_getElem (l := rs) (by rw [hrl]; exact hk)
    rw [dlAt k _ _ _ h1 h2] at h
    simp only [Option.some.injEq, Prod.mk.injEq] at h
    exact ⟨_, h1, h.1⟩
  have idxInj : ∀ (j k : Nat) (a b : Nat × AOper), l[j]? = some a → l[k]? = some b → a.1 = b.1 → j = k := fun j k a b h1 h2 e => by
    rcases Nat.lt_trichotomy j k with h | h | h
    · exact absurd e.symm (pairsB_spec hpairs j k a b h h1 h2).1
    · exact h
    · exact absurd e (pairsB_spec hpairs k j b a h h2 h1).1
  have cover : ∀ i, i < ops.size → ∃ (k : Nat) (b : Nat × AOper), l[k]? = some b ∧ b.1 = i := fun i hi => by
    simp only [coverB, List.all_eq_true, List.any_eq_true, beq_iff_eq] at hcover
    obtain ⟨b, hb, e⟩ := hcover i (List.mem_range.2 hi)
    obtain ⟨k, hk⟩ := List.getElem?_of_mem hb
    exact ⟨k, b, hk, e⟩
  -- heaps that no loud operation parts are one
  have still : ∀ (p q : Nat), p ≤ q → q ≤ l.length → (∀ (k : Nat) (b : Nat × AOper), p ≤ k → k < q → l[k]? = some b → loudC cf b.2.op = false) → hAt hh rs q = hAt hh rs p := fun p q hpq => by
    induction q with
    | zero => intro _ _; rw [Nat.le_zero.1 hpq]
    | succ q ih =>
      intro hq hl
      rcases Nat.lt_or_ge p (q + 1) with h | h
      · have hlq : q < l.length := by omega
        have h1 := List.getElem?_eq_getElem hlq
        obtain ⟨r, _, hs⟩ := hW q _ _ h1
        rw [wstep_quiet hs (hl q _ (by omega) (by omega) h1)]
        exact ih (by omega) (by omega) fun k b h1 h2 => hl k b h1 (by omega)
      · have : p = q + 1 := by omega
        rw [this]
  have done : ∀ (L : Array Bool) (a : Act) (w : World) (m : Maps) (p : Nat), (∀ (k : Nat) (b : Nat × AOper), l[k]? = some b → L.getD b.1 false = true) → p ≤ l.length →
      (∀ (k : Nat) (b : Nat × AOper), l[k]? = some b → loudC cf b.2.op = true → (L.getD b.1 false = true ↔ k < p)) →
      ERel w m (hAt hh rs p) a (puts (dls l rs) (fun k => match l[k]? with | some b => L.getD b.1 false | none => false) env0) → HRel w m (hAt hh rs p) → Turn w0 m0 h0 w m (hAt hh rs p) → Q .normal a w := by
    intro L a w m p hall hp hloud E H T
    have e : hAt hh rs l.length = hAt hh rs p := still p l.length hp (Nat.le_refl _) fun k b h1 h2 hk => by
      by_cases hl : loudC cf b.2.op = true
      · have := (hloud k b hk hl).1 (hall k b hk); omega
      · simpa using hl
    rw [puts_all _ _ _ fun k hk => by
      have h1 := List.getElem?_eq_getElem (l := l) (i := k) (by omega)
      simp only [h1]
      exact hall k _ h1] at E
    rw [← e] at E H T
    exact hQ a w m E H T
  intro fuel
  induction fuel with
  | zero =>
    intro L a w m p hsz hC hp hloud hext E H T hu
    -- all have come
    have hall : ∀ (k : Nat) (b : Nat × AOper), l[k]? = some b → L.getD b.1 false = true := fun k b hk => by
      have h1 : k ∈ List.range l.length := List.mem_range.2 (List.getElem?_eq_some_iff.1 hk).1
      simp only [unl, Nat.le_zero, List.length_eq_zero_iff, List.filter_eq_nil_iff] at hu
      have := hu k h1
      simpa [hk] using this
    exact ⟨ready_nil hsz cover hall, done L a w m p hall hp hloud E H T⟩
  | succ fuel ih =>
    intro L a w m p hsz hC hp hloud hext E H T hu
    refine ⟨fun hr => ?_, fun i hi => ?_⟩
    · refine done L a w m p ?_ hp hloud E H T
      -- the first that has not come would be ready
      intro k
      induction k using Nat.strongRecOn with
      | ind k ihk =>
        intro b hk
        by_cases hb : L.getD b.1 false = true
        · exact hb
        · exfalso
          obtain ⟨o, ho, _⟩ := ST.tr b (List.mem_of_getElem? hk)
          have hlt : b.1 < L.size := by rw [hsz]; exact (Array.getElem?_eq_some_iff.1 ho).1
          have : b.1 ∈ Region.ready .any ops L := mem_ready.2 ⟨getD_in' hlt (by simpa using hb), o, ho, fun d hd hbd => by
            rcases depsB_spec hdeps k b hk d.on ((edges_of ho d.on).2 ⟨d, hd, hbd, rfl⟩) with h1 | ⟨j, c, h1, h2, h3⟩
            · cases h1
            · rw [← h3]; exact ihk j h1 c h2⟩
          rw [hr] at this; cases this
    · obtain ⟨hun, o, ho, hde⟩ := mem_ready.1 hi
      have hio : i < ops.size := (Array.getElem?_eq_some_iff.1 ho).1
      have hun' : L.getD i false = false := by
        rw [Array.getD_eq_getD_getElem?] at hun ⊢
        rw [Array.getElem?_eq_getElem (by rw [hsz]; exact hio)] at hun ⊢
        exact hun
      obtain ⟨k, b, hk, hbi⟩ := cover i hio
      obtain ⟨o', ho', To⟩ := ST.tr b (List.mem_of_getElem? hk)
      rw [hbi, ho] at ho'
      cases ho'
      have hkl : k < l.length := (List.getElem?_eq_some_iff.1 hk).1
      have hedge : ∀ e ∈ edges ops i, L.getD e false = true := fun e he => by
        obtain ⟨d, h1, h2, rfl⟩ := (edges_of ho e).1 he
        exact hde d h1 h2
      -- who must come before has come; who must come behind has not
      have before : ∀ (j : Nat) (c : Nat × AOper), j < k → l[j]? = some c → conf cf c.2 b.2 = true → L.getD c.1 false = true := fun j c hjk hj hc => by
        have := (pairsB_spec hpairs j k c b hjk hj hk).2.2 hc
        rw [hbi] at this
        exact reach_closed hC c.1 _ i hedge this
      have behind : ∀ (j : Nat) (c : Nat × AOper), k < j → l[j]? = some c → conf cf b.2 c.2 = true → L.getD c.1 false = false := fun j c hkj hj hc => by
        have := (pairsB_spec hpairs k j b c hkj hk hj).2.2 hc
        rw [hbi] at this
        by_cases h1 : L.getD c.1 false = true
        · have := reach_closed hC i _ c.1 (hC c.1 h1) this
          rw [hun'] at this; cases this
        · simpa using h1
      obtain ⟨r, hrk, hs⟩ := hW k b.1 b.2 hk
      -- what it looks at is there
      have look : ∀ t ∈ aoLooks b.2, (puts (dls l rs) (fun k => match l[k]? with | some b => L.getD b.1 false | none => false) env0)[t]? = (puts (dls l rs) (fun j => decide (j < k)) env0)[t]? := fun t ht => by
        refine puts_agree _ t _ _ _ _ (fun j r' hj => ?_) rfl rfl
        obtain ⟨c, hc, hcd⟩ := dlOf j _ _ hj
        simp only [hc]
        rcases Nat.lt_trichotomy j k with h | h | h
        · rw [before j c h hc (by simp [conf, hitsD, hcd, ht])]; simp [h]
        · subst h
          rw [hk] at hc; cases hc
          rw [hbi, hun']; simp
        · rw [behind j c h hc (by simp [conf, hitsD, hcd, ht])]
          simp; omega
      have lookD : ∀ t ∈ aoLooks b.2, (puts (dls l rs) (fun j => decide (j < k)) env0).getD t .bad = (puts (dls l rs) (fun k => match l[k]? with | some b => L.getD b.1 false | none => false) env0).getD t .bad := fun t ht => by
        rw [List.getD_eq_getElem?_getD, List.getD_eq_getElem?_getD, look t ht]
      have lookE : ∀ x ∈ aoOps b.2.op, aeval (puts (dls l rs) (fun j => decide (j < k)) env0) x = aeval (puts (dls l rs) (fun k => match l[k]? with | some b => L.getD b.1 false | none => false) env0) x := fun x hx =>
        aeval_congr fun t ht => lookD t (List.mem_append_left _ (List.mem_filterMap.2 ⟨x, hx, ht⟩))
      have lookG : guardB (puts (dls l rs) (fun j => decide (j < k)) env0) b.2.guard = guardB (puts (dls l rs) (fun k => match l[k]? with | some b => L.getD b.1 false | none => false) env0) b.2.guard := by
        have : ∀ t want, b.2.guard = some (t, want) → t ∈ aoLooks b.2 := fun t want h => List.mem_append_right _ (by rw [h]; exact List.mem_cons_self)
        generalize b.2.guard = g at this
        cases g with
        | none => rfl
        | some tw => simp only [guardB, lookD tw.1 (this tw.1 tw.2 rfl)]
      -- where the heap stands
      have heapQ : loudC cf b.2.op = false → pureB b.2.op = false → HExt (hAt hh rs k) (hAt hh rs p) := fun hl hpu => by
        rcases Nat.lt_or_ge k p with h | h
        · -- more is there
          have : ∀ q, k ≤ q → q ≤ p → HExt (hAt hh rs k) (hAt hh rs q) := fun q => by
            induction q with
            | zero => intro h1 _; rw [Nat.le_zero.1 h1]; exact HExt.refl _
            | succ q ihq =>
              intro h1 h2
              rcases Nat.lt_or_ge k (q + 1) with h3 | h3
              · refine (ihq (by omega) (by omega)).trans ?_
                have hq := List.getElem?_eq_getElem (l := l) (i := q) (by omega)
                by_cases hlq : loudC cf (l[q]'(by omega)).2.op = true
                · refine hext q _ (by omega) hq hlq ?_
                  by_cases hm : mutB (l[q]'(by omega)).2.op = true
                  · exfalso
                    have hne : k ≠ q := fun e => by
                      subst e; rw [hk] at hq; simp only [Option.some.injEq] at hq; rw [← hq, hl] at hlq; cases hlq
                    have := behind q _ (by omega) hq (by simp [conf, hpu, hm])
                    have h5 := (hloud q _ hq hlq).2 (by omega)
                    rw [this] at h5; cases h5
                  · simpa using hm
                · obtain ⟨_, _, hs'⟩ := hW q _ _ hq
                  rw [wstep_quiet hs' (by simpa using hlq)]; exact HExt.refl _
              · have : k = q + 1 := by omega
                rw [this]; exact HExt.refl _
          exact this p (by omega) (Nat.le_refl _)
        · rw [still p k h (by omega) fun q c h1 h2 hq => ?_]
          · exact HExt.refl _
          · by_cases hlq : loudC cf c.2.op = true
            · exfalso
              have := before q c h2 hq (by simp [conf, hlq, hpu])
              have := (hloud q c hq hlq).1 this
              omega
            · simpa using hlq
      have heapL : loudC cf b.2.op = true → hAt hh rs p = hAt hh rs k ∧ p ≤ k := fun hl => by
        have hpk : p ≤ k := by
          rcases Nat.lt_or_ge k p with h | h
          · have := (hloud k b hk hl).2 h
            rw [hbi, hun'] at this; cases this
          · exact h
        have hpu : pureB b.2.op = false := by
          cases hx : pureB b.2.op with
          | false => rfl
          | true => rw [pure_loud hx] at hl; cases hl
        refine ⟨(still p k hpk (by omega) fun q c h1 h2 hq => ?_).symm, hpk⟩
        by_cases hlq : loudC cf c.2.op = true
        · exfalso
          have := before q c h2 hq (by simp [conf, hlq, hpu])
          have := (hloud q c hq hlq).1 this
          omega
        · simpa using hlq
      -- the next
      have hset : ∀ (j : Nat) (c : Nat × AOper), l[j]? = some c → j ≠ k → (L.setIfInBounds i true).getD c.1 false = L.getD c.1 false := fun j c hj hne =>
        getD_set_other fun e => hne (idxInj j k c b hj hk (e.trans hbi.symm))
      have hself : (L.setIfInBounds i true).getD b.1 false = true := by rw [hbi]; exact getD_set_same (by rw [hsz]; exact hio)
      have hdist : ∀ (t : Tmp) (k' : Nat) (r' : AV), b.2.dst = some t → k' ≠ k → (dls l rs)[k']? ≠ some (some t, r') := fun t k' r' ht hne hd => by
        obtain ⟨c, hc, hcd⟩ := dlOf k' _ _ hd
        rcases Nat.lt_trichotomy k' k with h | h | h
        · have := (pairsB_spec hpairs k' k c b h hc hk).2.1
          simp [sameD, hcd, ht] at this
        · exact hne h
        · have := (pairsB_spec hpairs k k' b c h hk hc).2.1
          simp [sameD, hcd, ht] at this
      have next : ∀ (v : Value) (w' : World) (m' : Maps) (p' : Nat), p' ≤ l.length → hAt hh rs p' = hAt hh rs p' →
          (∀ (j : Nat) (c : Nat × AOper), l[j]? = some c → loudC cf c.2.op = true → ((L.setIfInBounds i true).getD c.1 false = true ↔ j < p')) →
          (∀ (j : Nat) (c : Nat × AOper), j < p' → l[j]? = some c → loudC cf c.2.op = true → mutB c.2.op = false → HExt (hAt hh rs j) (hAt hh rs (j + 1))) →
          HRel w' m' (hAt hh rs p') → VR w' m' (hAt hh rs p') v r → Turn w m (hAt hh rs p) w' m' (hAt hh rs p') → wpAny P .any ops Q fuel (L.setIfInBounds i true) (a.put o.dst v) w' := fun v w' m' p' hp' _ hl' he' H' V T' => by
        refine ih _ _ _ m' p' (by simpa using hsz) (fun j hj e he => ?_) hp' hl' he' ?_ H' (T.trans T') ?_
        · by_cases hji : j = i
          · subst hji
            by_cases hei : e = j
            · subst hei; exact getD_set_same (by rw [hsz]; exact hio)
            · rw [getD_set_other hei]; exact hedge e he
          · rw [getD_set_other hji] at hj
            by_cases hei : e = i
            · subst hei; exact getD_set_same (by rw [hsz]; exact hio)
            · rw [getD_set_other hei]; exact hC j hj e he
        · have h1 := (E.turn T').put o.dst V
          have h2 := puts_more (dls l rs) k b.2.dst r (fun k => match l[k]? with | some b => L.getD b.1 false | none => false) (fun k => match l[k]? with | some b => (L.setIfInBounds i true).getD b.1 false | none => false) env0
            (dlAt k b r _ hk hrk) (fun j hne => by
              cases hj : l[j]? with
              | none => rfl
              | some c => simp only; exact hset j c hj hne) (by simp only [hk]; exact hself) hdist
          rw [h2, To.dst]
          exact h1
        · have := (filter_less k (fun k => match l[k]? with | some b => L.getD b.1 false | none => false) (fun k => match l[k]? with | some b => (L.setIfInBounds i true).getD b.1 false | none => false) (fun j hne => by
              cases hj : l[j]? with
              | none => rfl
              | some c => simp only; exact hset j c hj hne) (by simp only [hk, hbi, hun']) (by simp only [hk]; exact hself) (List.range l.length)).2 (List.mem_range.2 hkl)
          simp only [unl] at hu ⊢
          omega
      have stay : loudC cf b.2.op = false → ∀ (j : Nat) (c : Nat × AOper), l[j]? = some c → loudC cf c.2.op = true → ((L.setIfInBounds i true).getD c.1 false = true ↔ j < p) := fun hl j c hj hlj => by
        have hne : j ≠ k := fun e => by subst e; rw [hk] at hj; cases hj; rw [hl] at hlj; cases hlj
        rw [hset j c hj hne]; exact hloud j c hj hlj
      have nextLoud : loudC cf b.2.op = true → (mutB b.2.op = false → HExt (hAt hh rs k) (hAt hh rs (k + 1))) → ∀ (v : Value) (w' : World) (m' : Maps),
          HRel w' m' (hAt hh rs (k + 1)) → VR w' m' (hAt hh rs (k + 1)) v r → Turn w m (hAt hh rs p) w' m' (hAt hh rs (k + 1)) → wpAny P .any ops Q fuel (L.setIfInBounds i true) (a.put o.dst v) w' := fun hl hx v w' m' H' V T' => by
        obtain ⟨hpk, hpl⟩ := heapL hl
        have hpu : pureB b.2.op = false := by
          cases hx : pureB b.2.op with
          | false => rfl
          | true => rw [pure_loud hx] at hl; cases hl
        refine next v w' m' (k + 1) (by omega) rfl (fun j c hj hlj => ?_) (fun j c hjk hj hlj hmj => ?_) H' V T'
        · by_cases hne : j = k
          · subst hne; rw [hk] at hj; cases hj; rw [hself]; simp
          · rw [hset j c hj hne]
            rcases Nat.lt_or_ge j k with h | h
            · rw [before j c h hj (by simp [conf, hlj, hpu])]; simp; omega
            · rw [behind j c (by omega) hj (by
                have : pureB c.2.op = false := by
                  cases hx : pureB c.2.op with
                  | false => rfl
                  | true => rw [pure_loud hx] at hlj; cases hlj
                simp [conf, hl, this])]
              simp; omega
        · by_cases hne : j = k
          · subst hne; rw [hk] at hj; cases hj; exact hx hmj
          · refine hext j c ((hloud j c hj hlj).1 ?_) hj hlj hmj
            exact before j c (by omega) hj (by simp [conf, hlj, hpu])
      unfold wpOp
      simp only [ho]
      rcases hs with ⟨hg, hr, hhe⟩ | ⟨hg, hs⟩
      · rcases guard_ok E To.guard (guardB_ok (y := False) (n := True) false (by rw [← lookG]; exact hg) (fun h => by cases h) (fun _ => trivial)) with ⟨_, hf⟩ | ⟨hw, _⟩
        · exact hf.elim
        rw [if_neg (by rw [hw]; decide)]
        have V : ∀ h, VR w m h undef r := fun h => by rw [hr]; exact .tup #[] [] rfl (fun j v c h1 _ => by simp at h1)
        by_cases hl : loudC cf b.2.op = true
        · have he : hAt hh rs (k + 1) = hAt hh rs p := by rw [hhe, (heapL hl).1]
          refine nextLoud hl (fun _ => by rw [hhe]; exact HExt.refl _) undef w m (by rw [he]; exact H) (V _) (by rw [he]; exact Turn.refl _ _ _)
        · have hl : loudC cf b.2.op = false := by simpa using hl
          exact next undef w m p hp rfl (stay hl) hext H (V _) (Turn.refl _ _ _)
      · have hw : Region.wanted o (yielded ops a.tmps) = true := by
          rcases guard_ok E To.guard (guardB_ok (y := True) (n := False) true (by rw [← lookG]; exact hg) (fun _ => trivial) (fun h => by cases h)) with ⟨hw, _⟩ | ⟨_, hf⟩
          · exact hw
          · exact hf.elim
        rw [if_pos hw]
        refine .inl ?_
        have hT := To.op
        have det : ∀ h', adet (puts (dls l rs) (fun k => match l[k]? with | some b => L.getD b.1 false | none => false) env0) (hAt hh rs p) b.2.op = some (r, h') →
            (∀ (v : Value) (w' : World) (m' : Maps), HRel w' m' h' → VR w' m' h' v r → Turn w m (hAt hh rs p) w' m' h' → wpAny P .any ops Q fuel (L.setIfInBounds i true) (a.put o.dst v) w') → o.wp P a w (wpAny P .any ops Q fuel (L.setIfInBounds i true)) Q := fun h' hd hn => by
          obtain ⟨nx, v, w', m', hrun, hnx, G, V, T'⟩ := det_ok H E hT hd
          unfold Oper.wp
          rw [hrun]
          rcases hnx with rfl | ⟨rfl, rfl⟩
          · exact hn v w' m' G V T'
          · exact hn undef w' m' G V T'
        have hcl : (∀ f args, b.2.op ≠ .call f args) → loudC cf b.2.op = loudB b.2.op := fun h => by
          generalize b.2.op = op at *
          cases op <;> first | rfl | exact absurd rfl (h _ _)
        have fin : (∀ f args, b.2.op ≠ .call f args) → adet (puts (dls l rs) (fun j => decide (j < k)) env0) (hAt hh rs k) b.2.op = some (r, hAt hh rs (k + 1)) → o.wp P a w (wpAny P .any ops Q fuel (L.setIfInBounds i true)) Q := fun hnc hd => by
          by_cases hl : loudC cf b.2.op = true
          · obtain ⟨hpk, _⟩ := heapL hl
            rw [adet_congr lookE, ← hpk] at hd
            refine det _ hd fun v w' m' G V T' => nextLoud hl (fun hm => ?_) v w' m' G V T'
            rw [← hpk]
            exact alloc_ext (by rw [← hcl hnc]; exact hl) hm H.lt hd
          · have hl : loudC cf b.2.op = false := by simpa using hl
            have hd' : adet (puts (dls l rs) (fun k => match l[k]? with | some b => L.getD b.1 false | none => false) env0) (hAt hh rs p) b.2.op = some (r, hAt hh rs p) := by
              rw [adet_congr lookE] at hd
              cases hpu : pureB b.2.op with
              | true => exact (pure_adet hpu hd).2
              | false => exact (adet_ext (heapQ hl hpu) (by rw [← hcl hnc]; exact hl) hd).2
            exact det _ hd' fun v w' m' G V T' => next v w' m' p hp rfl (stay hl) hext G V T'
        split at hs
        · rename_i f args hop
          have hpu : pureB b.2.op = false := by rw [hop]; rfl
          have hmu : mutB b.2.op = false := by rw [hop]; rfl
          have hargs : args.map (aeval (puts (dls l rs) (fun j => decide (j < k)) env0)) = args.map (aeval (puts (dls l rs) (fun k => match l[k]? with | some b => L.getD b.1 false | none => false) env0)) :=
            List.map_congr_left fun x hx => lookE x (by rw [hop]; exact hx)
          -- the call, met
          have meet : ∀ h', PCall P f (args.map (aeval (puts (dls l rs) (fun k => match l[k]? with | some b => L.getD b.1 false | none => false) env0))) (hAt hh rs p) (fun r' h'' => r' = r ∧ h'' = h') →
              (∀ (v : Value) (w' : World) (m' : Maps), HRel w' m' h' → VR w' m' h' v r → Turn w m (hAt hh rs p) w' m' h' → wpAny P .any ops Q fuel (L.setIfInBounds i true) (a.put o.dst v) w') → o.wp P a w (wpAny P .any ops Q fuel (L.setIfInBounds i true)) Q := fun h' S hn => by
            rw [hop] at hT
            generalize hmo : o.op = mop at hT
            cases hT with
            | call c f hc =>
              refine call_wp (caps := #[]) hmo hc rfl S.1 ?_
              rw [Array.append_empty]
              exact (S.2 w m _ H (args_rel E c.args)).mono fun e w' ⟨v, m', r', h', he, G, V', T', hr', hh'⟩ => by
                subst hr'; subst hh'
                exact ⟨v, he, hn v w' m' G V' T'⟩
          by_cases hl : loudC cf b.2.op = true
          · obtain ⟨hpk, _⟩ := heapL hl
            have hx : HExt (hAt hh rs k) (hAt hh rs (k + 1)) := by
              rcases hs with ⟨e, _⟩ | ⟨_, _, e⟩
              · rw [e]; exact HExt.refl _
              · rw [← hpk] at e ⊢
                exact ⟨e.1, fun r row hr => e.2 r row (H.lt r row hr) hr⟩
            refine meet (hAt hh rs (k + 1)) ?_ fun v w' m' G V T' => nextLoud hl (fun _ => hx) v w' m' G V T'
            rcases hs with ⟨e, ts, R, V⟩ | ⟨_, S, _⟩
            · rw [e, ← hpk]
              rw [hargs, ← hpk] at V
              exact R.lift (V.ext (HExt.refl _))
            · rw [hargs, ← hpk] at S; exact S
          · have hl : loudC cf b.2.op = false := by simpa using hl
            rcases hs with ⟨_, ts, R, V⟩ | ⟨e, _⟩
            · rw [hargs] at V
              exact meet (hAt hh rs p) (R.lift (V.ext (heapQ hl hpu))) fun v w' m' G V T' => next v w' m' p hp rfl (stay hl) hext G V T'
            · rw [hop] at hl; simp only [loudC] at hl; rw [e] at hl; cases hl
        · exact hs.elim
        · rename_i h1 h2; exact fin (fun f args e => h1 f args e) hs

/-- A region that draws its order, by one walk. -/
theorem xops_ok {cf : Bool} {ops : Array Oper} {l : List (Nat × AOper)} (ST : Stat P cf ops l) (hm : P.follows .mixedOrders = true) {id : Nat} {w0 : World} {m0 : Maps} {h0 : Heap} {Q : Exit → Act → World → Prop} {K : List AV → Heap → Prop}
    (hK : ∀ env h a w m, ERel w m h a env → HRel w m h → Turn w0 m0 h0 w m h → K env h → Q .normal a w) {env : List AV} {h : Heap} {a : Act} {w : World} {m : Maps}
    (E : ERel w m h a env) (H : HRel w m h) (T : Turn w0 m0 h0 w m h) (A : xrun P cf l K env h) : (Code.region id ops true).wp P Q a w := by
  obtain ⟨rs, W, k⟩ := walk_of l A
  refine wp_region_any hm ?_
  obtain ⟨H2, T2⟩ := H.drew
  have hno : ∀ j, (Array.replicate ops.size false).getD j false = false := fun j => by
    rw [Array.getD_eq_getD_getElem?, Array.getElem?_replicate]; split <;> rfl
  refine any_ok ST W (w0 := w0) (m0 := m0) (h0 := h0) (fun a w m E H T => hK _ _ a w m E H T k) ops.size _ a _ m 0 (by simp) (fun j hj => by rw [hno] at hj; cases hj) (Nat.zero_le _) (fun k b _ _ => by rw [hno]; simp) (fun k b hk => absurd hk (Nat.not_lt_zero _)) ?_ H2 (T.trans T2) ?_
  · have : puts (dls l rs) (fun k : Nat => match l[k]? with | some b => (Array.replicate ops.size false).getD b.1 false | none => false) env = env := by
      have e : (fun k : Nat => match l[k]? with | some b => (Array.replicate ops.size false).getD b.1 false | none => false) = fun _ => false := by
        funext k; cases l[k]? with
        | none => rfl
        | some b => exact hno _
      rw [e]
      have : ∀ (l : List (Option Tmp × AV)) env, puts l (fun _ => false) env = env := fun l => by
        induction l with
        | nil => intro env; rfl
        | cons p l ih => intro env; simp only [puts, Bool.false_eq_true, if_false]; exact ih env
      exact this _ _
    rw [this]
    exact E.turn T2
  · have := ST.ok
    simp only [regB, Bool.and_eq_true, decide_eq_true_eq] at this
    refine Nat.le_trans ?_ this.2
    unfold unl
    exact Nat.le_trans (List.length_filter_le _ _) (by simp)
end
end Go.PA
