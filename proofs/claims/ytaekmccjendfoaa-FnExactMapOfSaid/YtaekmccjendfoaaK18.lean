/- Values read whole out of the plain heap, and a run of plain code that needs no proof. No condition. -/
import Derived.Test.YtaekmccjendfoaaK17
namespace Go.PA

/-- A value with all that it reaches. -/
def dec (h : Heap) : Nat → AV → Option AV
  | _, .int k n => some (.int k n)
  | _, .bool b => some (.bool b)
  | _, .str s => some (.str s)
  | _, .nils => some .nils
  | n + 1, .agg cs => match decC (dec h n) cs with
    | some ts => some (.agg ts)
    | none => none
  | n + 1, .lit _ xs => match decX (dec h n) xs with
    | some ts => some (.lit false ts)
    | none => none
  | n + 1, .ref r off len => match aels h (.ref r off len) with
    | some els => match decX (dec h n) els with
      | some ts => some (.lit false ts)
      | none => none
    | none => none
  | _, _ => none
def decs (h : Heap) (n : Nat) (as : List AV) : Option (List AV) := decC (dec h n) as

/-- Elements that lie in the machine, read by who owns nothing. -/
theorem lit_view {w : World} {m m' : Maps} {h : Heap} {els ts : List (List AV)} {d : AV → Option AV} (hd : ∀ c t, d c = some t → View h c t) (H : HRel w m h)
    {a : Option Addr} {cap sz : Nat} (hc : els.length ≤ cap) (ha : els ≠ [] → a ≠ none) (hsz : ∀ cs ∈ els, cs.length = sz) {vs : List Value}
    (hcell : ∀ (j : Nat) u, vs[j]? = some u → ∃ ad, a = some ad ∧ w.cell? (ad.add j) = some u) (hcv : ∀ u ∈ vs, cellV u = true)
    (hv : ∀ (i j : Nat) cs c, els[i]? = some cs → cs[j]? = some c → ∃ u, vs[i * sz + j]? = some u ∧ VR w m h u c) (hx : decX d els = some ts) :
    VRel w (fun _ => False) m' 0 0 (.slice a els.length cap) (.lit false ts) := by
  obtain ⟨e1, e2⟩ := decX_get els ts hx
  rw [← e1]
  have key : ∀ (i j : Nat) cs c, ts[i]? = some cs → cs[j]? = some c → ∃ u, vs[i * sz + j]? = some u ∧ VRel w (fun _ => False) m' 0 0 u c := fun i j cs c h1 h2 => by
    obtain ⟨es, f1, f2⟩ := e2 i cs h1
    obtain ⟨c0, g1, g2⟩ := (decC_get es cs f2).2 j c h2
    obtain ⟨u, k1, k2⟩ := hv i j es c0 f1 g1
    exact ⟨u, k1, hd c0 c g2 w m m' u H k2⟩
  refine .lit false a cap sz ts (fun i j => (vs[i * sz + j]?).getD undef) (by omega) (fun hne => ha fun e => hne (List.eq_nil_of_length_eq_zero (by rw [e1, e]; rfl))) (fun cs hcs => ?_) (fun i j cs c h1 h2 => ?_) (fun i j cs c h1 h2 => ?_) (fun h => by cases h)
  · obtain ⟨i, hi⟩ := List.getElem?_of_mem hcs
    obtain ⟨es, f1, f2⟩ := e2 i cs hi
    rw [(decC_get es cs f2).1]
    exact hsz es (List.mem_of_getElem? f1)
  · obtain ⟨u, k1, k2⟩ := key i j cs c h1 h2
    simp only [k1, Option.getD_some]
    exact k2
  · obtain ⟨u, k1, k2⟩ := key i j cs c h1 h2
    obtain ⟨ad, g1, g2⟩ := hcell _ u k1
    simp only [k1, Option.getD_some]
    exact ⟨ad, g1, id, g2, hcv u (List.mem_of_getElem? k1)⟩

theorem dec_view (h : Heap) : ∀ (n : Nat) (a t : AV), dec h n a = some t → View h a t := by
  intro n
  induction n with
  | zero =>
    intro a t hd w m m' v H hv
    cases a <;> simp only [dec, Option.some.injEq, reduceCtorEq] at hd <;> subst hd
    · cases hv; exact .int _ _
    · cases hv; exact .bool _
    · cases hv; exact .str _
    · cases hv; exact .nils
  | succ n ih =>
    intro a t hd w m m' v H hv
    cases a with
    | int k i => simp only [dec, Option.some.injEq] at hd; subst hd; cases hv; exact .int _ _
    | bool b => simp only [dec, Option.some.injEq] at hd; subst hd; cases hv; exact .bool _
    | str s => simp only [dec, Option.some.injEq] at hd; subst hd; cases hv; exact .str _
    | nils => simp only [dec, Option.some.injEq] at hd; subst hd; cases hv; exact .nils
    | agg cs =>
      simp only [dec] at hd
      cases h1 : decC (dec h n) cs with
      | none => rw [h1] at hd; cases hd
      | some ts =>
        rw [h1] at hd
        simp only [Option.some.injEq] at hd
        subst hd
        obtain ⟨e1, e2⟩ := decC_get cs ts h1
        cases hv with
        | agg vs _ hs hcv hr =>
          refine .agg vs ts (by rw [hs, e1]) hcv fun j u c h2 h3 => ?_
          obtain ⟨c0, f1, f2⟩ := e2 j c h3
          exact ih c0 c f2 w m m' u H (hr j u c0 h2 f1)
    | lit f xs =>
      simp only [dec] at hd
      cases h1 : decX (dec h n) xs with
      | none => rw [h1] at hd; cases hd
      | some ts =>
        rw [h1] at hd
        simp only [Option.some.injEq] at hd
        subst hd
        have hv0 := hv
        cases hv with
        | lit f a cap sz _ vs hc ha hsz hr hm hf =>
          obtain ⟨a', cap', us, e, f1, f2, f3, f4, f5⟩ := aels_rel (sz := sz) H hv0 rfl hsz
          injection e with e3 _ e4
          subst e3; subst e4
          exact lit_view ih H hc ha hsz f3 f4 f5 h1
    | ref r off len =>
      simp only [dec] at hd
      cases h0 : aels h (.ref r off len) with
      | none => rw [h0] at hd; cases hd
      | some els =>
        rw [h0] at hd
        simp only at hd
        cases h1 : decX (dec h n) els with
        | none => rw [h1] at hd; cases hd
        | some ts =>
          rw [h1] at hd
          simp only [Option.some.injEq] at hd
          subst hd
          have hg : m.gr r = false := by cases hv with | ref r off len cap h1 hg h2 h3 => exact hg
          have hex : ∃ sz, ∀ cs ∈ els, cs.length = sz := by
            simp only [aels] at h0
            cases hrx : h.rows r with
            | none => rw [hrx] at h0; cases h0
            | some row =>
              rw [hrx] at h0
              simp only at h0
              split at h0
              · simp only [Option.some.injEq] at h0
                subst h0
                obtain ⟨_, _, _, _, _, _, hels, _⟩ := H.rows r row hg hrx
                exact ⟨row.sz, fun cs hcs => hels cs (List.mem_of_mem_drop (List.mem_of_mem_take hcs))⟩
              · cases h0
          obtain ⟨sz, hsz⟩ := hex
          obtain ⟨a', cap', us, e, f1, f2, f3, f4, f5⟩ := aels_rel (sz := sz) H hv h0 hsz
          have ha : a' ≠ none := by
            cases hv with
            | ref => injection e with e3; rw [← e3]; exact Option.some_ne_none _
          rw [e]
          exact lit_view ih H f1 (fun _ => ha) hsz f3 f4 f5 h1
    | _ => simp only [dec, reduceCtorEq] at hd

theorem decs_views (h : Heap) (n : Nat) : ∀ (as ts : List AV), decs h n as = some ts → Views h as ts := by
  intro as
  induction as with
  | nil => intro ts hd; simp only [decs, decC, Option.some.injEq] at hd; subst hd; exact trivial
  | cons a l ih =>
    intro ts hd
    simp only [decs, decC] at hd
    cases h1 : dec h n a with
    | none => rw [h1] at hd; cases hd
    | some t =>
      rw [h1] at hd
      simp only at hd
      cases h2 : decC (dec h n) l with
      | none => rw [h2] at hd; cases hd
      | some ts' =>
        rw [h2] at hd
        simp only [Option.some.injEq] at hd
        subst hd
        exact ⟨dec_view h n a t h1, ih ts' h2⟩

theorem decC_ext {d d' : AV → Option AV} (hd : ∀ c t, d c = some t → d' c = some t) : ∀ (cs ts : List AV), decC d cs = some ts → decC d' cs = some ts := by
  intro cs
  induction cs with
  | nil => intro ts h; exact h
  | cons c l ih =>
    intro ts h
    simp only [decC] at h ⊢
    cases h1 : d c with
    | none => rw [h1] at h; cases h
    | some t =>
      rw [h1] at h
      rw [hd c t h1]
      simp only at h ⊢
      cases h2 : decC d l with
      | none => rw [h2] at h; cases h
      | some us => rw [h2] at h; rw [ih us h2]; exact h
theorem decX_ext {d d' : AV → Option AV} (hd : ∀ c t, d c = some t → d' c = some t) : ∀ (cs ts : List (List AV)), decX d cs = some ts → decX d' cs = some ts := by
  intro cs
  induction cs with
  | nil => intro ts h; exact h
  | cons c l ih =>
    intro ts h
    simp only [decX] at h ⊢
    cases h1 : decC d c with
    | none => rw [h1] at h; cases h
    | some t =>
      rw [h1] at h
      rw [decC_ext hd c t h1]
      simp only at h ⊢
      cases h2 : decX d l with
      | none => rw [h2] at h; cases h
      | some us => rw [h2] at h; rw [ih us h2]; exact h
theorem dec_ext {h h' : Heap} (X : HExt h h') : ∀ (n : Nat) (a t : AV), dec h n a = some t → dec h' n a = some t := by
  intro n
  induction n with
  | zero => intro a t hd; cases a <;> exact hd
  | succ n ih =>
    intro a t hd
    cases a with
    | agg cs =>
      simp only [dec] at hd ⊢
      cases h1 : decC (dec h n) cs with
      | none => rw [h1] at hd; cases hd
      | some ts => rw [h1] at hd; rw [decC_ext ih cs ts h1]; exact hd
    | lit f xs =>
      simp only [dec] at hd ⊢
      cases h1 : decX (dec h n) xs with
      | none => rw [h1] at hd; cases hd
      | some ts => rw [h1] at hd; rw [decX_ext ih xs ts h1]; exact hd
    | ref r off len =>
      simp only [dec] at hd ⊢
      cases h0 : aels h (.ref r off len) with
      | none => rw [h0] at hd; cases hd
      | some els =>
        rw [h0] at hd
        rw [aels_ext X h0]
        simp only at hd ⊢
        cases h1 : decX (dec h n) els with
        | none => rw [h1] at hd; cases hd
        | some ts => rw [h1] at hd; rw [decX_ext ih els ts h1]; exact hd
    | _ => exact hd
theorem decs_seens (h : Heap) (n : Nat) : ∀ (as ts : List AV), decs h n as = some ts → Seens h as ts := by
  intro as
  induction as with
  | nil => intro ts hd; simp only [decs, decC, Option.some.injEq] at hd; subst hd; exact trivial
  | cons a l ih =>
    intro ts hd
    simp only [decs, decC] at hd
    cases h1 : dec h n a with
    | none => rw [h1] at hd; cases hd
    | some t =>
      rw [h1] at hd
      simp only at hd
      cases h2 : decC (dec h n) l with
      | none => rw [h2] at hd; cases hd
      | some ts' =>
        rw [h2] at hd
        simp only [Option.some.injEq] at hd
        subst hd
        exact ⟨fun h' X => dec_view h' n a t (dec_ext X n a t h1), ih ts' h2⟩

mutual
def eqA : AV → AV → Bool
  | .int k n, .int k' n' => decide (k = k') && n == n'
  | .bool b, .bool b' => b == b'
  | .str s, .str s' => decide (s = s')
  | .nils, .nils => true
  | .lit f xs, .lit g ys => f == g && eqX xs ys
  | .ref r o n, .ref r' o' n' => r == r' && o == o' && n == n'
  | .box b o, .box b' o' => b == b' && o == o'
  | .rptr r i o, .rptr r' i' o' => r == r' && i == i' && o == o'
  | .lptr cs, .lptr ds => eqC cs ds
  | .agg cs, .agg ds => eqC cs ds
  | .tup cs, .tup ds => eqC cs ds
  | .fn f cs, .fn g ds => f == g && eqC cs ds
  | .bad, .bad => true
  | _, _ => false
def eqC : List AV → List AV → Bool
  | [], [] => true
  | a :: as, b :: bs => eqA a b && eqC as bs
  | _, _ => false
def eqX : List (List AV) → List (List AV) → Bool
  | [], [] => true
  | a :: as, b :: bs => eqC a b && eqX as bs
  | _, _ => false
end
mutual
theorem eqA_ok : ∀ (a b : AV), eqA a b = true → a = b
  | .int k n, b, h => by cases b <;> simp [eqA] at h <;> simp [h]
  | .bool x, b, h => by cases b <;> simp [eqA] at h <;> simp [h]
  | .str s, b, h => by cases b <;> simp [eqA] at h <;> simp [h]
  | .nils, b, h => by cases b <;> simp [eqA] at h <;> rfl
  | .lit f xs, b, h => by cases b <;> simp [eqA] at h; rw [eqX_ok _ _ h.2, h.1]
  | .ref r o n, b, h => by cases b <;> simp [eqA] at h <;> simp [h]
  | .box x o, b, h => by cases b <;> simp [eqA] at h <;> simp [h]
  | .rptr r i o, b, h => by cases b <;> simp [eqA] at h <;> simp [h]
  | .lptr cs, b, h => by cases b <;> simp [eqA] at h; rw [eqC_ok _ _ h]
  | .agg cs, b, h => by cases b <;> simp [eqA] at h; rw [eqC_ok _ _ h]
  | .tup cs, b, h => by cases b <;> simp [eqA] at h; rw [eqC_ok _ _ h]
  | .fn f cs, b, h => by cases b <;> simp [eqA] at h; rw [eqC_ok _ _ h.2, h.1]
  | .bad, b, h => by cases b <;> simp [eqA] at h <;> rfl
theorem eqC_ok : ∀ (a b : List AV), eqC a b = true → a = b
  | [], b, h => by cases b <;> simp [eqC] at h <;> rfl
  | x :: xs, b, h => by
    cases b with
    | nil => simp [eqC] at h
    | cons y ys => simp only [eqC, Bool.and_eq_true] at h; rw [eqA_ok _ _ h.1, eqC_ok _ _ h.2]
theorem eqX_ok : ∀ (a b : List (List AV)), eqX a b = true → a = b
  | [], b, h => by cases b <;> simp [eqX] at h <;> rfl
  | x :: xs, b, h => by
    cases b with
    | nil => simp [eqX] at h
    | cons y ys => simp only [eqX, Bool.and_eq_true] at h; rw [eqC_ok _ _ h.1, eqX_ok _ _ h.2]
end
def rowB (a b : Option Row) : Bool := match a with
  | none => true
  | some r => match b with
    | some r' => r.sz == r'.sz && eqX r.el r'.el
    | none => false
def extB (h h' : Heap) : Bool := eqX h.boxes (h'.boxes.take h.boxes.length) && (List.range h.next).all fun r => rowB (h.rows r) (h'.rows r)
theorem extB_ok {h h' : Heap} (hx : extB h h' = true) : HExtN h h' := by
  simp only [extB, Bool.and_eq_true, List.all_eq_true] at hx
  refine ⟨fun b cs hb => ?_, fun r row hr hrow => ?_⟩
  · have e := eqX_ok _ _ hx.1
    rw [e, List.getElem?_take] at hb
    split at hb
    · exact hb
    · cases hb
  · have := hx.2 r (List.mem_range.2 hr)
    rw [hrow] at this
    simp only [rowB] at this
    split at this
    · rename_i r' hr'
      simp only [Bool.and_eq_true, beq_iff_eq] at this
      rw [hr']
      cases row; cases r'
      simp only at this
      rw [this.1, eqX_ok _ _ this.2]
    · cases this

/-! A run. -/
abbrev Tab := FuncId → Option (ACode × List AR × Nat)
abbrev CallF := FuncId → List AV → Heap → Option (AV × Heap)
def runOp (C : CallF) (env : List AV) (h : Heap) : AOp → Option (AV × Heap)
  | .call f args => C f (args.map (aeval env)) h
  | .callv x args => match aeval env x with
    | .fn f cap => C f (args.map (aeval env) ++ cap) h
    | _ => none
  | o => adet env h o
def runOps (C : CallF) : List AOper → List AV → Heap → Option (List AV × Heap)
  | [], env, h => some (env, h)
  | o :: l, env, h => match guardB env o.guard with
    | some true => match runOp C env h o.op with
      | some (r, h') => runOps C l (aput env o.dst r) h'
      | none => none
    | some false => runOps C l (aput env o.dst (.tup [])) h
    | none => none
def runDop (C : CallF) (env : List AV) (h : Heap) : AOp → Option AV
  | .call f args => match decs h 8 (args.map (aeval env)) with
    | some ts => match C f ts Heap.nil with
      | some (r, _) => if (sca r).isSome = true then some r else none
      | none => none
    | none => none
  | op => if quietB op then (match adet env h op with
    | some (r, _) => some r
    | none => none) else none
def runDops (C : CallF) (h : Heap) : List AOper → List AV → Option (List AV)
  | [], env => some env
  | o :: l, env => match guardB env o.guard with
    | some true => match runDop C env h o.op with
      | some r => runDops C h l (aput env o.dst r)
      | none => none
    | some false => runDops C h l (aput env o.dst (.tup []))
    | none => none
def eqR (a b : Option Row) : Bool := match a with
  | none => b.isNone
  | some _ => rowB a b
theorem eqR_ok {a b : Option Row} (h : eqR a b = true) : a = b := by
  cases a with
  | none => cases b with
    | none => rfl
    | some => cases h
  | some r =>
    cases b with
    | none => simp [eqR, rowB] at h
    | some r' =>
      simp only [eqR, rowB, Bool.and_eq_true, beq_iff_eq] at h
      cases r; cases r'
      simp only at h
      rw [h.1, eqX_ok _ _ h.2]
def runXop (C : CallF) (cf : Bool) (env : List AV) (h : Heap) : AOp → Option (AV × Heap)
  | .call f args => if cf then (match C f (args.map (aeval env)) h with
    | some (r, h') => some (r, h')
    | none => none) else match decs h 8 (args.map (aeval env)) with
    | some ts => match C f ts Heap.nil with
      | some (r, h') => match decF h' 9 r with
        | some t => some (t, h)
        | none => none
      | none => none
    | none => none
  | .callv _ _ => none
  | op => adet env h op
def sameB (h h' : Heap) : AV → Bool
  | .box b _ => match h.boxes[b]?, h'.boxes[b]? with
    | some x, some y => eqC x y
    | none, none => true
    | _, _ => false
  | .rptr r _ _ => eqR (h.rows r) (h'.rows r)
  | .ref r _ _ => eqR (h.rows r) (h'.rows r)
  | _ => true
theorem sameB_ok {h h' : Heap} {a : AV} (hs : sameB h h' a = true) : SameAt h h' a := by
  cases a <;> simp only [sameB, SameAt] at *
  · exact (eqR_ok hs).symm
  · split at hs
    · rename_i e1 e2; rw [e1, e2, eqC_ok _ _ hs]
    · rename_i e1 e2; rw [e1, e2]
    · cases hs
  · exact (eqR_ok hs).symm
def runX (C : CallF) (cf : Bool) : List XOp → List AV → Heap → Option (List AV × Heap)
  | [], env, h => some (env, h)
  | o :: l, env, h => match guardB env o.o.guard with
    | some true => match runXop C cf env h o.o.op with
      | some (r, h') => if (o.us.all fun t => decide (t < env.length) && sameB h h' (env.getD t .bad)) = true then runX C cf l (aput env o.o.dst r) h' else none
      | none => none
    | some false => runX C cf l (aput env o.o.dst (.tup [])) h
    | none => none
def runLoop (f : ASt → Option (AExit × ASt)) : Nat → ASt → Option (AExit × ASt)
  | 0, _ => none
  | n + 1, st => match f st with
    | some (.normal, st') => runLoop f n st'
    | r => r
def runCode (C : CallF) (N : Nat) : ACode → ASt → Option (AExit × ASt)
  | .skip, st => some (.normal, st)
  | .ops l, st => match runOps C l st.env st.heap with
    | some (env, h) => some (.normal, ⟨env, h⟩)
    | none => none
  | .dops l, st => match runDops C st.heap l st.env with
    | some env => some (.normal, ⟨env, st.heap⟩)
    | none => none
  | .xops cf l, st => match runX C cf l st.env st.heap with
    | some (env, h) => some (.normal, ⟨env, h⟩)
    | none => none
  | .seq a b, st => match runCode C N a st with
    | some (.normal, st') => runCode C N b st'
    | r => r
  | .cond c a b, st => match aeval st.env c with
    | .bool true => runCode C N a st
    | .bool false => runCode C N b st
    | _ => none
  | .block id a, st => match runCode C N a st with
    | some (.exit j, st') => if j = id then some (.normal, st') else some (.exit j, st')
    | r => r
  | .loop a, st => runLoop (runCode C N a) N st
  | .exit id, st => some (.exit id, st)
  | .ret, st => some (.ret, st)
def runFn (T : Tab) (N : Nat) : Nat → CallF
  | 0, _, _, _ => none
  | d + 1, f, args, h => match T f with
    | some (ac, rs, k) => match runCode (runFn T N d) N ac ⟨args ++ List.replicate (k - args.length) (.tup []), h⟩ with
      | some (.exit _, _) => none
      | some (_, st) => match ares st.env st.heap rs with
        | some r => some (r, st.heap)
        | none => none
      | none => none
    | none => none

section
variable {P : Program}

def CallsOk (P : Program) (C : CallF) : Prop := ∀ f args h r h', C f args h = some (r, h') → PCall P f args h fun r1 h1 => r1 = r ∧ h1 = h'
/-- The table's plain code is the program's. -/
def TabOk (P : Program) (T : Tab) : Prop := ∀ f ac rs k, T f = some (ac, rs, k) → ∃ fn, P.funcs[f]? = some fn ∧ (fn.name == "runtime.NumGoroutine") = false ∧ fn.body.bind (trCode P) = some ac ∧
  trRes P fn.results.toList = some rs ∧ fn.ntmps = k

theorem runOp_ok {C : CallF} (hC : CallsOk P C) {env : List AV} {h : Heap} {o : AOp} {r : AV} {h' : Heap} {K : AV → Heap → Prop} (hr : runOp C env h o = some (r, h')) (H : K r h') : astep P env h o K := by
  unfold astep
  unfold runOp at hr
  split
  · exact ⟨_, hC _ _ _ _ _ hr, fun _ _ ⟨e1, e2⟩ => by rw [e1, e2]; exact H⟩
  · simp only at hr
    split
    · rename_i hf
      rw [hf] at hr
      exact ⟨_, hC _ _ _ _ _ hr, fun _ _ ⟨e1, e2⟩ => by rw [e1, e2]; exact H⟩
    · split at hr
      · simp_all
      · cases hr
  · rename_i o' h1 h2
    split at hr
    · exact absurd rfl (h1 _ _)
    · exact absurd rfl (h2 _ _)
    · rw [hr]; exact H

theorem runOps_ok {C : CallF} (hC : CallsOk P C) : ∀ (l : List AOper) {env env' : List AV} {h h' : Heap} {K : List AV → Heap → Prop}, runOps C l env h = some (env', h') → K env' h' → aops P l K env h := by
  intro l
  induction l with
  | nil => intro env env' h h' K hr H; simp only [runOps, Option.some.injEq, Prod.mk.injEq] at hr; obtain ⟨rfl, rfl⟩ := hr; exact H
  | cons o l ih =>
    intro env env' h h' K hr H
    simp only [runOps] at hr
    cases hg : guardB env o.guard with
    | none => rw [hg] at hr; cases hr
    | some b =>
      rw [hg] at hr
      refine guardB_ok b hg (fun e => ?_) (fun e => ?_)
      · subst e
        simp only at hr
        cases ho : runOp C env h o.op with
        | none => rw [ho] at hr; cases hr
        | some p =>
          rw [ho] at hr
          exact runOp_ok hC ho (ih hr H)
      · subst e
        exact ih hr H

theorem runDops_ok {C : CallF} (hC : CallsOk P C) (h : Heap) : ∀ (l : List AOper) {env env' : List AV} {K : List AV → Prop}, runDops C h l env = some env' → K env' → adops P h l K env := by
  intro l
  induction l with
  | nil => intro env env' K hr H; simp only [runDops, Option.some.injEq] at hr; subst hr; exact H
  | cons o l ih =>
    intro env env' K hr H
    simp only [runDops] at hr
    cases hg : guardB env o.guard with
    | none => rw [hg] at hr; cases hr
    | some b =>
      rw [hg] at hr
      refine guardB_ok b hg (fun e => ?_) (fun e => ?_)
      · subst e
        simp only at hr
        cases ho : runDop C env h o.op with
        | none => rw [ho] at hr; cases hr
        | some r =>
          rw [ho] at hr
          have A := ih (K := K) hr H
          unfold runDop at ho
          split
          · rename_i f args he
            simp only [he] at ho
            cases hd : decs h 8 (args.map (aeval env)) with
            | none => rw [hd] at ho; cases ho
            | some ts =>
              rw [hd] at ho
              simp only at ho
              cases hc : C f ts Heap.nil with
              | none => rw [hc] at ho; cases ho
              | some p =>
                rw [hc] at ho
                simp only at ho
                split at ho
                · rename_i hs
                  simp only [Option.some.injEq] at ho
                  subst ho
                  exact ⟨p.1, ts, ⟨(hC _ _ _ _ _ hc).mono fun _ _ e => e.1⟩, decs_views h 8 _ _ hd, hs, A⟩
                · cases ho
          · rename_i he
            split at ho
            · exact absurd (by assumption) (he _ _)
            · split at ho
              · rename_i hq
                rw [if_pos hq]
                cases hd : adet env h o.op with
                | none => rw [hd] at ho; cases ho
                | some p =>
                  rw [hd] at ho
                  simp only [Option.some.injEq] at ho
                  subst ho
                  exact A
              · cases ho
      · subst e
        exact ih hr H

theorem runX_ok {C : CallF} {cf : Bool} (hC : CallsOk P C) : ∀ (l : List XOp) {env env' : List AV} {h h' : Heap} {K : List AV → Heap → Prop}, runX C cf l env h = some (env', h') → K env' h' → xrun P cf l K env h := by
  intro l
  induction l with
  | nil => intro env env' h h' K hr H; simp only [runX, Option.some.injEq, Prod.mk.injEq] at hr; obtain ⟨rfl, rfl⟩ := hr; exact H
  | cons o l ih =>
    intro env env' h h' K hr H
    simp only [runX] at hr
    cases hg : guardB env o.o.guard with
    | none => rw [hg] at hr; cases hr
    | some b =>
      rw [hg] at hr
      refine guardB_ok b hg (fun e => ?_) (fun e => ?_)
      · subst e
        simp only at hr
        cases ho : runXop C cf env h o.o.op with
        | none => rw [ho] at hr; cases hr
        | some p =>
          rw [ho] at hr
          simp only at hr
          split at hr
          case isFalse => cases hr
          rename_i hus
          have A : (∀ t ∈ o.us, t < env.length ∧ SameAt h p.2 (env.getD t .bad)) ∧ xrun P cf l K (aput env o.o.dst p.1) p.2 := ⟨fun t ht => by
            have := List.all_eq_true.1 hus t ht
            simp only [Bool.and_eq_true, decide_eq_true_eq] at this
            exact ⟨this.1, sameB_ok this.2⟩, ih (K := K) hr H⟩
          unfold runXop at ho
          unfold xstp
          split
          · rename_i f args he
            simp only [he] at ho
            cases cf with
            | true =>
              simp only [if_true] at ho
              cases hc : C f (args.map (aeval env)) h with
              | none => rw [hc] at ho; cases ho
              | some q =>
                rw [hc] at ho
                simp only [Option.some.injEq] at ho
                subst ho
                exact .inr ⟨rfl, _, hC _ _ _ _ _ hc, fun r h' e => by rw [e.1, e.2]; exact A⟩
            | false =>
            simp only [Bool.false_eq_true, if_false] at ho
            cases hd : decs h 8 (args.map (aeval env)) with
            | none => rw [hd] at ho; cases ho
            | some ts =>
              rw [hd] at ho
              simp only at ho
              cases hc : C f ts Heap.nil with
              | none => rw [hc] at ho; cases ho
              | some q =>
                rw [hc] at ho
                simp only at ho
                cases hf : decF q.2 9 q.1 with
                | none => rw [hf] at ho; cases ho
                | some t =>
                  rw [hf] at ho
                  simp only [Option.some.injEq] at ho
                  subst ho
                  exact .inl ⟨t, ts, ⟨(hC _ _ _ _ _ hc).mono fun _ _ e => by rw [e.1, e.2]; exact hf⟩, decs_seens h 8 _ _ hd, A⟩
          · rename_i he; rw [he] at ho; cases ho
          · rename_i h1 h2
            split at ho
            · rename_i he; exact absurd he (h1 _ _)
            · cases ho
            · rw [ho]; exact A
      · subst e
        exact ih hr H
theorem runLoop_ok {a : ACode} {f : ASt → Option (AExit × ASt)} (hf : ∀ {st e st'} {Q : AExit → ASt → Prop}, f st = some (e, st') → Q e st' → acode P a Q st) : ∀ (n : Nat) {st e st'} {Q : AExit → ASt → Prop},
    runLoop f n st = some (e, st') → Q e st' → e ≠ .normal → ALoop (acode P a) Q st := by
  intro n
  induction n with
  | zero => intro st e st' Q hr; cases hr
  | succ n ih =>
    intro st e st' Q hr H hne
    simp only [runLoop] at hr
    refine ALoop.step ?_
    cases h1 : f st with
    | none => rw [h1] at hr; cases hr
    | some p =>
      obtain ⟨e1, st1⟩ := p
      rw [h1] at hr
      refine hf h1 ?_
      cases e1 with
      | normal => exact ih hr H hne
      | exit id => simp only [Option.some.injEq, Prod.mk.injEq] at hr; obtain ⟨rfl, rfl⟩ := hr; exact H
      | ret => simp only [Option.some.injEq, Prod.mk.injEq] at hr; obtain ⟨rfl, rfl⟩ := hr; exact H

theorem runLoop_ne {f : ASt → Option (AExit × ASt)} : ∀ (n : Nat) {st e st'}, runLoop f n st = some (e, st') → e ≠ .normal := by
  intro n
  induction n with
  | zero => intro st e st' hr; cases hr
  | succ n ih =>
    intro st e st' hr
    simp only [runLoop] at hr
    cases h1 : f st with
    | none => rw [h1] at hr; cases hr
    | some p =>
      obtain ⟨e1, st1⟩ := p
      rw [h1] at hr
      cases e1 with
      | normal => exact ih hr
      | exit id => simp only [Option.some.injEq, Prod.mk.injEq] at hr; obtain ⟨rfl, rfl⟩ := hr; intro h; cases h
      | ret => simp only [Option.some.injEq, Prod.mk.injEq] at hr; obtain ⟨rfl, rfl⟩ := hr; intro h; cases h

theorem runCode_ok {C : CallF} (hC : CallsOk P C) (N : Nat) (c : ACode) : ∀ {st e st'} {Q : AExit → ASt → Prop}, runCode C N c st = some (e, st') → Q e st' → acode P c Q st := by
  induction c with
  | skip => intro st e st' Q hr H; simp only [runCode, Option.some.injEq, Prod.mk.injEq] at hr; obtain ⟨rfl, rfl⟩ := hr; exact H
  | exit id => intro st e st' Q hr H; simp only [runCode, Option.some.injEq, Prod.mk.injEq] at hr; obtain ⟨rfl, rfl⟩ := hr; exact H
  | ret => intro st e st' Q hr H; simp only [runCode, Option.some.injEq, Prod.mk.injEq] at hr; obtain ⟨rfl, rfl⟩ := hr; exact H
  | ops l =>
    intro st e st' Q hr H
    simp only [runCode] at hr
    cases h1 : runOps C l st.env st.heap with
    | none => rw [h1] at hr; cases hr
    | some p =>
      rw [h1] at hr
      simp only [Option.some.injEq, Prod.mk.injEq] at hr; obtain ⟨rfl, rfl⟩ := hr
      exact runOps_ok hC l (env' := p.1) (h' := p.2) h1 H
  | dops l =>
    intro st e st' Q hr H
    simp only [runCode] at hr
    cases h1 : runDops C st.heap l st.env with
    | none => rw [h1] at hr; cases hr
    | some p =>
      rw [h1] at hr
      simp only [Option.some.injEq, Prod.mk.injEq] at hr; obtain ⟨rfl, rfl⟩ := hr
      exact runDops_ok hC _ l h1 H
  | xops cf l =>
    intro st e st' Q hr H
    simp only [runCode] at hr
    cases h1 : runX C cf l st.env st.heap with
    | none => rw [h1] at hr; cases hr
    | some p =>
      rw [h1] at hr
      simp only [Option.some.injEq, Prod.mk.injEq] at hr; obtain ⟨rfl, rfl⟩ := hr
      exact runX_ok hC l (env' := p.1) (h' := p.2) h1 H
  | seq a b iha ihb =>
    intro st e st' Q hr H
    simp only [runCode] at hr
    cases h1 : runCode C N a st with
    | none => rw [h1] at hr; cases hr
    | some p =>
      obtain ⟨e1, st1⟩ := p
      rw [h1] at hr
      refine iha h1 ?_
      cases e1 with
      | normal => exact ihb hr H
      | exit id => simp only [Option.some.injEq, Prod.mk.injEq] at hr; obtain ⟨rfl, rfl⟩ := hr; exact H
      | ret => simp only [Option.some.injEq, Prod.mk.injEq] at hr; obtain ⟨rfl, rfl⟩ := hr; exact H
  | cond c a b iha ihb =>
    intro st e st' Q hr H
    simp only [runCode] at hr
    simp only [acode]
    split at hr
    · rename_i he; rw [he]; exact iha hr H
    · rename_i he; rw [he]; exact ihb hr H
    · cases hr
  | block id a iha =>
    intro st e st' Q hr H
    simp only [runCode] at hr
    cases h1 : runCode C N a st with
    | none => rw [h1] at hr; cases hr
    | some p =>
      obtain ⟨e1, st1⟩ := p
      rw [h1] at hr
      refine iha h1 ?_
      cases e1 with
      | normal => simp only [Option.some.injEq, Prod.mk.injEq] at hr; obtain ⟨rfl, rfl⟩ := hr; exact H
      | ret => simp only [Option.some.injEq, Prod.mk.injEq] at hr; obtain ⟨rfl, rfl⟩ := hr; exact H
      | exit j =>
        simp only at hr ⊢
        split
        · rename_i hj; rw [if_pos hj] at hr; simp only [Option.some.injEq, Prod.mk.injEq] at hr; obtain ⟨rfl, rfl⟩ := hr; exact H
        · rename_i hj; rw [if_neg hj] at hr; simp only [Option.some.injEq, Prod.mk.injEq] at hr; obtain ⟨rfl, rfl⟩ := hr; exact H
  | loop a iha =>
    intro st e st' Q hr H
    exact runLoop_ok iha N hr H (runLoop_ne N hr)

/-- **WHAT RUNS, IS SO.** -/
theorem runFn_ok {T : Tab} (hT : TabOk P T) (N : Nat) : ∀ d, CallsOk P (runFn T N d) := by
  intro d
  induction d with
  | zero => intro f args h r h' hr; cases hr
  | succ d ih =>
    intro f args h r h' hr
    simp only [runFn] at hr
    cases h1 : T f with
    | none => rw [h1] at hr; cases hr
    | some p =>
      obtain ⟨ac, rs, k⟩ := p
      rw [h1] at hr
      simp only at hr
      obtain ⟨fn, g1, g2, g3, g4, g5⟩ := hT f ac rs k h1
      refine PCall.of_fn g1 g2 g3 g4 g5 ?_
      cases h2 : runCode (runFn T N d) N ac ⟨args ++ List.replicate (k - args.length) (.tup []), h⟩ with
      | none => rw [h2] at hr; cases hr
      | some p =>
        obtain ⟨e, st⟩ := p
        rw [h2] at hr
        refine runCode_ok ih N ac h2 ?_
        cases e with
        | exit id => cases hr
        | normal =>
          simp only [Ends] at hr ⊢
          cases h3 : ares st.env st.heap rs with
          | none => rw [h3] at hr; cases hr
          | some v => rw [h3] at hr; simp only [Option.some.injEq, Prod.mk.injEq] at hr; exact hr
        | ret =>
          simp only [Ends] at hr ⊢
          cases h3 : ares st.env st.heap rs with
          | none => rw [h3] at hr; cases hr
          | some v => rw [h3] at hr; simp only [Option.some.injEq, Prod.mk.injEq] at hr; exact hr

/-- A run's word: the call returns that value. -/
def runTo (T : Tab) (N d : Nat) (f : FuncId) (args : List AV) (h : Heap) (p : AV → Bool) : Bool :=
  match runFn T N d f args h with
  | some (r, _) => p r
  | none => false
theorem runTo_ok {T : Tab} (hT : TabOk P T) {N d : Nat} {f : FuncId} {args : List AV} {h : Heap} {p : AV → Bool} (hr : runTo T N d f args h p = true) : PCall P f args h fun r _ => p r = true := by
  unfold runTo at hr
  split at hr
  · rename_i r h' he
    exact (runFn_ok hT N d f args h r h' he).mono fun _ _ e => by rw [e.1]; exact hr
  · cases hr


def Good (P : Program) (e : FuncId × ACode × List AR × Nat) : Prop := ∃ fn, P.funcs[e.1]? = some fn ∧ (fn.name == "runtime.NumGoroutine") = false ∧ fn.body.bind (trCode P) = some e.2.1 ∧
  trRes P fn.results.toList = some e.2.2.1 ∧ fn.ntmps = e.2.2.2
def AllGood (P : Program) : List (FuncId × ACode × List AR × Nat) → Prop
  | [] => True
  | e :: l => Good P e ∧ AllGood P l
def tabOf : List (FuncId × ACode × List AR × Nat) → Tab
  | [], _ => none
  | e :: l, f => if e.1 = f then some e.2 else tabOf l f
theorem tabOf_ok : ∀ (l : List (FuncId × ACode × List AR × Nat)), AllGood P l → TabOk P (tabOf l) := by
  intro l
  induction l with
  | nil => intro _ f ac rs k h; cases h
  | cons e l ih =>
    intro hg f ac rs k h
    simp only [tabOf] at h
    split at h
    · rename_i he
      simp only [Option.some.injEq] at h
      subst he
      have := hg.1
      unfold Good at this
      rw [h] at this
      exact this
    · exact ih hg.2 f ac rs k h

end
end Go.PA
