/- Values read whole out of the plain heap, and a run of plain code that needs no proof. No condition. -/
import Derived.Test.YtnbhalhlodnmpaaK17
namespace Go.PA

def decC (d : AV → Option AV) : List AV → Option (List AV)
  | [] => some []
  | c :: l => match d c with
    | some t => match decC d l with
      | some ts => some (t :: ts)
      | none => none
    | none => none
def decX (d : AV → Option AV) : List (List AV) → Option (List (List AV))
  | [] => some []
  | c :: l => match decC d c with
    | some t => match decX d l with
      | some ts => some (t :: ts)
      | none => none
    | none => none
/-- A value with all that it reaches. -/
def dec (h : Heap) : Nat → AV → Option AV
  | _, .int k n => some (.int k n)
  | _, .bool b => some (.bool b)
  | _, .str s => some (.str s)
  | _, .nils => some .nils
  | n + 1, .agg cs => match decC (dec h n) cs with
    | some ts => some (.agg ts)
    | none => none
  | n + 1, .lit xs => match decX (dec h n) xs with
    | some ts => some (.lit ts)
    | none => none
  | n + 1, .ref r off len => match aels h (.ref r off len) with
    | some els => match decX (dec h n) els with
      | some ts => some (.lit ts)
      | none => none
    | none => none
  | _, _ => none
def decs (h : Heap) (n : Nat) (as : List AV) : Option (List AV) := decC (dec h n) as

theorem decC_get {d : AV → Option AV} : ∀ (cs ts : List AV), decC d cs = some ts → ts.length = cs.length ∧ ∀ (j : Nat) t, ts[j]? = some t → ∃ c, cs[j]? = some c ∧ d c = some t := by
  intro cs
  induction cs with
  | nil => intro ts h; simp only [decC, Option.some.injEq] at h; subst h; exact ⟨rfl, fun j t hj => by simp at hj⟩
  | cons c l ih =>
    intro ts h
    simp only [decC] at h
    cases h1 : d c with
    | none => rw [h1] at h; cases h
    | some t =>
      rw [h1] at h
      simp only at h
      cases h2 : decC d l with
      | none => rw [h2] at h; cases h
      | some ts' =>
        rw [h2] at h
        simp only [Option.some.injEq] at h
        subst h
        obtain ⟨e1, e2⟩ := ih ts' h2
        refine ⟨by simp [e1], fun j u hj => ?_⟩
        cases j with
        | zero => simp at hj; subst hj; exact ⟨c, rfl, h1⟩
        | succ j => simpa using e2 j u (by simpa using hj)
theorem decX_get {d : AV → Option AV} : ∀ (cs ts : List (List AV)), decX d cs = some ts → ts.length = cs.length ∧ ∀ (j : Nat) t, ts[j]? = some t → ∃ c, cs[j]? = some c ∧ decC d c = some t := by
  intro cs
  induction cs with
  | nil => intro ts h; simp only [decX, Option.some.injEq] at h; subst h; exact ⟨rfl, fun j t hj => by simp at hj⟩
  | cons c l ih =>
    intro ts h
    simp only [decX] at h
    cases h1 : decC d c with
    | none => rw [h1] at h; cases h
    | some t =>
      rw [h1] at h
      simp only at h
      cases h2 : decX d l with
      | none => rw [h2] at h; cases h
      | some ts' =>
        rw [h2] at h
        simp only [Option.some.injEq] at h
        subst h
        obtain ⟨e1, e2⟩ := ih ts' h2
        refine ⟨by simp [e1], fun j u hj => ?_⟩
        cases j with
        | zero => simp at hj; subst hj; exact ⟨c, rfl, h1⟩
        | succ j => simpa using e2 j u (by simpa using hj)

/-- Elements that lie in the machine, read by who owns nothing. -/
theorem lit_view {w : World} {m m' : Maps} {h : Heap} {els ts : List (List AV)} {d : AV → Option AV} (hd : ∀ c t, d c = some t → View h c t) (H : HRel w m h)
    {a : Option Addr} {cap sz : Nat} (hc : els.length ≤ cap) (ha : els ≠ [] → a ≠ none) (hsz : ∀ cs ∈ els, cs.length = sz) {vs : List Value}
    (hcell : ∀ (j : Nat) u, vs[j]? = some u → ∃ ad, a = some ad ∧ w.cell? (ad.add j) = some u) (hcv : ∀ u ∈ vs, cellV u = true)
    (hv : ∀ (i j : Nat) cs c, els[i]? = some cs → cs[j]? = some c → ∃ u, vs[i * sz + j]? = some u ∧ VR w m h u c) (hx : decX d els = some ts) :
    VRel w (fun _ => False) m' 0 0 (.slice a els.length cap) (.lit ts) := by
  obtain ⟨e1, e2⟩ := decX_get els ts hx
  rw [← e1]
  have key : ∀ (i j : Nat) cs c, ts[i]? = some cs → cs[j]? = some c → ∃ u, vs[i * sz + j]? = some u ∧ VRel w (fun _ => False) m' 0 0 u c := fun i j cs c h1 h2 => by
    obtain ⟨es, f1, f2⟩ := e2 i cs h1
    obtain ⟨c0, g1, g2⟩ := (decC_get es cs f2).2 j c h2
    obtain ⟨u, k1, k2⟩ := hv i j es c0 f1 g1
    exact ⟨u, k1, hd c0 c g2 w m m' u H k2⟩
  refine .lit a cap sz ts (fun i j => (vs[i * sz + j]?).getD undef) (by omega) (fun hne => ha fun e => hne (List.eq_nil_of_length_eq_zero (by rw [e1, e]; rfl))) (fun cs hcs => ?_) (fun i j cs c h1 h2 => ?_) (fun i j cs c h1 h2 => ?_)
  · obtain ⟨i, hi⟩ := List.getElem?_of_mem hcs
    obtain ⟨es, f1, f2⟩ := e2 i cs hi
    rw [(decC_get es cs f2).1]
    exact hsz es (List.mem_of_getElem? f1)
  · obtain ⟨u, k1, k2⟩ := key i j cs c h1 h2
    simp only [k1, Option.getD_some]
    exact k2
  · obtain ⟨u, k1, k2⟩ := key i j cs c h1 h2
    obtain ⟨ad, g1, g2⟩ := hcell _ u k1
    simp only [k1, Option.getD_some]
    exact ⟨ad, g1, id, g2, hcv u (List.mem_of_getElem? k1)⟩

theorem dec_view (h : Heap) : ∀ (n : Nat) (a t : AV), dec h n a = some t → View h a t := by
  intro n
  induction n with
  | zero =>
    intro a t hd w m m' v H hv
    cases a <;> simp only [dec, Option.some.injEq, reduceCtorEq] at hd <;> subst hd
    · cases hv; exact .int _ _
    · cases hv; exact .bool _
    · cases hv; exact .str _
    · cases hv; exact .nils
  | succ n ih =>
    intro a t hd w m m' v H hv
    cases a with
    | int k i => simp only [dec, Option.some.injEq] at hd; subst hd; cases hv; exact .int _ _
    | bool b => simp only [dec, Option.some.injEq] at hd; subst hd; cases hv; exact .bool _
    | str s => simp only [dec, Option.some.injEq] at hd; subst hd; cases hv; exact .str _
    | nils => simp only [dec, Option.some.injEq] at hd; subst hd; cases hv; exact .nils
    | agg cs =>
      simp only [dec] at hd
      cases h1 : decC (dec h n) cs with
      | none => rw [h1] at hd; cases hd
      | some ts =>
        rw [h1] at hd
        simp only [Option.some.injEq] at hd
        subst hd
        obtain ⟨e1, e2⟩ := decC_get cs ts h1
        cases hv with
        | agg vs _ hs hcv hr =>
          refine .agg vs ts (by rw [hs, e1]) hcv fun j u c h2 h3 => ?_
          obtain ⟨c0, f1, f2⟩ := e2 j c h3
          exact ih c0 c f2 w m m' u H (hr j u c0 h2 f1)
    | lit xs =>
      simp only [dec] at hd
      cases h1 : decX (dec h n) xs with
      | none => rw [h1] at hd; cases hd
      | some ts =>
        rw [h1] at hd
        simp only [Option.some.injEq] at hd
        subst hd
        have hv0 := hv
        cases hv with
        | lit a cap sz _ vs hc ha hsz hr hm =>
          obtain ⟨a', cap', us, e, f1, f2, f3, f4, f5⟩ := aels_rel (sz := sz) H hv0 rfl hsz
          injection e with e3 _ e4
          subst e3; subst e4
          exact lit_view ih H hc ha hsz f3 f4 f5 h1
    | ref r off len =>
      simp only [dec] at hd
      cases h0 : aels h (.ref r off len) with
      | none => rw [h0] at hd; cases hd
      | some els =>
        rw [h0] at hd
        simp only at hd
        cases h1 : decX (dec h n) els with
        | none => rw [h1] at hd; cases hd
        | some ts =>
          rw [h1] at hd
          simp only [Option.some.injEq] at hd
          subst hd
          have hex : ∃ sz, ∀ cs ∈ els, cs.length = sz := by
            simp only [aels] at h0
            cases hrx : h.rows r with
            | none => rw [hrx] at h0; cases h0
            | some row =>
              rw [hrx] at h0
              simp only at h0
              split at h0
              · simp only [Option.some.injEq] at h0
                subst h0
                obtain ⟨_, _, _, _, _, _, hels, _⟩ := H.rows r row hrx
                exact ⟨row.sz, fun cs hcs => hels cs (List.mem_of_mem_drop (List.mem_of_mem_take hcs))⟩
              · cases h0
          obtain ⟨sz, hsz⟩ := hex
          obtain ⟨a', cap', us, e, f1, f2, f3, f4, f5⟩ := aels_rel (sz := sz) H hv h0 hsz
          have ha : a' ≠ none := by
            cases hv with
            | ref => injection e with e3; rw [← e3]; exact Option.some_ne_none _
          rw [e]
          exact lit_view ih H f1 (fun _ => ha) hsz f3 f4 f5 h1
    | _ => simp only [dec, reduceCtorEq] at hd

theorem decs_views (h : Heap) (n : Nat) : ∀ (as ts : List AV), decs h n as = some ts → Views h as ts := by
  intro as
  induction as with
  | nil => intro ts hd; simp only [decs, decC, Option.some.injEq] at hd; subst hd; exact trivial
  | cons a l ih =>
    intro ts hd
    simp only [decs, decC] at hd
    cases h1 : dec h n a with
    | none => rw [h1] at hd; cases hd
    | some t =>
      rw [h1] at hd
      simp only at hd
      cases h2 : decC (dec h n) l with
      | none => rw [h2] at hd; cases hd
      | some ts' =>
        rw [h2] at hd
        simp only [Option.some.injEq] at hd
        subst hd
        exact ⟨dec_view h n a t h1, ih ts' h2⟩

/-! A run. -/
abbrev Tab := FuncId → Option (ACode × List AR × Nat)
abbrev CallF := FuncId → List AV → Heap → Option (AV × Heap)
def guardB (env : List AV) : Option (Tmp × Bool) → Option Bool
  | none => some true
  | some (t, want) => match env.getD t .bad with
    | .bool b => some (if b = want then true else false)
    | .tup [] => some false
    | _ => none
def runOp (C : CallF) (env : List AV) (h : Heap) : AOp → Option (AV × Heap)
  | .call f args => C f (args.map (aeval env)) h
  | .callv x args => match aeval env x with
    | .fn f cap => C f (args.map (aeval env) ++ cap) h
    | _ => none
  | o => adet env h o
def runOps (C : CallF) : List AOper → List AV → Heap → Option (List AV × Heap)
  | [], env, h => some (env, h)
  | o :: l, env, h => match guardB env o.guard with
    | some true => match runOp C env h o.op with
      | some (r, h') => runOps C l (aput env o.dst r) h'
      | none => none
    | some false => runOps C l (aput env o.dst (.tup [])) h
    | none => none
def runDop (C : CallF) (env : List AV) (h : Heap) : AOp → Option AV
  | .call f args => match decs h 8 (args.map (aeval env)) with
    | some ts => match C f ts Heap.nil with
      | some (r, _) => if (sca r).isSome = true then some r else none
      | none => none
    | none => none
  | op => if quietB op then (match adet env h op with
    | some (r, _) => some r
    | none => none) else none
def runDops (C : CallF) (h : Heap) : List AOper → List AV → Option (List AV)
  | [], env => some env
  | o :: l, env => match guardB env o.guard with
    | some true => match runDop C env h o.op with
      | some r => runDops C h l (aput env o.dst r)
      | none => none
    | some false => runDops C h l (aput env o.dst (.tup []))
    | none => none
def runLoop (f : ASt → Option (AExit × ASt)) : Nat → ASt → Option (AExit × ASt)
  | 0, _ => none
  | n + 1, st => match f st with
    | some (.normal, st') => runLoop f n st'
    | r => r
def runCode (C : CallF) (N : Nat) : ACode → ASt → Option (AExit × ASt)
  | .skip, st => some (.normal, st)
  | .ops l, st => match runOps C l st.env st.heap with
    | some (env, h) => some (.normal, ⟨env, h⟩)
    | none => none
  | .dops l, st => match runDops C st.heap l st.env with
    | some env => some (.normal, ⟨env, st.heap⟩)
    | none => none
  | .seq a b, st => match runCode C N a st with
    | some (.normal, st') => runCode C N b st'
    | r => r
  | .cond c a b, st => match aeval st.env c with
    | .bool true => runCode C N a st
    | .bool false => runCode C N b st
    | _ => none
  | .block id a, st => match runCode C N a st with
    | some (.exit j, st') => if j = id then some (.normal, st') else some (.exit j, st')
    | r => r
  | .loop a, st => runLoop (runCode C N a) N st
  | .exit id, st => some (.exit id, st)
  | .ret, st => some (.ret, st)
def runFn (T : Tab) (N : Nat) : Nat → CallF
  | 0, _, _, _ => none
  | d + 1, f, args, h => match T f with
    | some (ac, rs, k) => match runCode (runFn T N d) N ac ⟨args ++ List.replicate (k - args.length) (.tup []), h⟩ with
      | some (.exit _, _) => none
      | some (_, st) => match ares st.env st.heap rs with
        | some r => some (r, st.heap)
        | none => none
      | none => none
    | none => none

section
variable {P : Program}

def CallsOk (P : Program) (C : CallF) : Prop := ∀ f args h r h', C f args h = some (r, h') → PCall P f args h fun r1 h1 => r1 = r ∧ h1 = h'
/-- The table's plain code is the program's. -/
def TabOk (P : Program) (T : Tab) : Prop := ∀ f ac rs k, T f = some (ac, rs, k) → ∃ fn, P.funcs[f]? = some fn ∧ (fn.name == "runtime.NumGoroutine") = false ∧ fn.body.bind (trCode P) = some ac ∧
  trRes P fn.results.toList = some rs ∧ fn.ntmps = k

theorem guardB_ok {env : List AV} {g : Option (Tmp × Bool)} {y n : Prop} : ∀ b, guardB env g = some b → (b = true → y) → (b = false → n) → aguard env g y n := by
  intro b hb hy hn
  unfold aguard
  unfold guardB at hb
  split
  · simp only [Option.some.injEq] at hb; exact hy hb.symm
  · simp only at hb
    split
    · rename_i b' hb'
      rw [hb'] at hb
      simp only [Option.some.injEq] at hb
      split
      · rename_i hc; rw [if_pos hc] at hb; exact hy hb.symm
      · rename_i hc; rw [if_neg hc] at hb; exact hn hb.symm
    · rename_i hb'
      rw [hb'] at hb
      simp only [Option.some.injEq] at hb
      exact hn hb.symm
    · split at hb <;> simp_all

theorem runOp_ok {C : CallF} (hC : CallsOk P C) {env : List AV} {h : Heap} {o : AOp} {r : AV} {h' : Heap} {K : AV → Heap → Prop} (hr : runOp C env h o = some (r, h')) (H : K r h') : astep P env h o K := by
  unfold astep
  unfold runOp at hr
  split
  · exact ⟨_, hC _ _ _ _ _ hr, fun _ _ ⟨e1, e2⟩ => by rw [e1, e2]; exact H⟩
  · simp only at hr
    split
    · rename_i hf
      rw [hf] at hr
      exact ⟨_, hC _ _ _ _ _ hr, fun _ _ ⟨e1, e2⟩ => by rw [e1, e2]; exact H⟩
    · split at hr
      · simp_all
      · cases hr
  · rename_i o' h1 h2
    split at hr
    · exact absurd rfl (h1 _ _)
    · exact absurd rfl (h2 _ _)
    · rw [hr]; exact H

theorem runOps_ok {C : CallF} (hC : CallsOk P C) : ∀ (l : List AOper) {env env' : List AV} {h h' : Heap} {K : List AV → Heap → Prop}, runOps C l env h = some (env', h') → K env' h' → aops P l K env h := by
  intro l
  induction l with
  | nil => intro env env' h h' K hr H; simp only [runOps, Option.some.injEq, Prod.mk.injEq] at hr; obtain ⟨rfl, rfl⟩ := hr; exact H
  | cons o l ih =>
    intro env env' h h' K hr H
    simp only [runOps] at hr
    cases hg : guardB env o.guard with
    | none => rw [hg] at hr; cases hr
    | some b =>
      rw [hg] at hr
      refine guardB_ok b hg (fun e => ?_) (fun e => ?_)
      · subst e
        simp only at hr
        cases ho : runOp C env h o.op with
        | none => rw [ho] at hr; cases hr
        | some p =>
          rw [ho] at hr
          exact runOp_ok hC ho (ih hr H)
      · subst e
        exact ih hr H

theorem runDops_ok {C : CallF} (hC : CallsOk P C) (h : Heap) : ∀ (l : List AOper) {env env' : List AV} {K : List AV → Prop}, runDops C h l env = some env' → K env' → adops P h l K env := by
  intro l
  induction l with
  | nil => intro env env' K hr H; simp only [runDops, Option.some.injEq] at hr; subst hr; exact H
  | cons o l ih =>
    intro env env' K hr H
    simp only [runDops] at hr
    cases hg : guardB env o.guard with
    | none => rw [hg] at hr; cases hr
    | some b =>
      rw [hg] at hr
      refine guardB_ok b hg (fun e => ?_) (fun e => ?_)
      · subst e
        simp only at hr
        cases ho : runDop C env h o.op with
        | none => rw [ho] at hr; cases hr
        | some r =>
          rw [ho] at hr
          have A := ih (K := K) hr H
          unfold runDop at ho
          split
          · rename_i f args he
            simp only [he] at ho
            cases hd : decs h 8 (args.map (aeval env)) with
            | none => rw [hd] at ho; cases ho
            | some ts =>
              rw [hd] at ho
              simp only at ho
              cases hc : C f ts Heap.nil with
              | none => rw [hc] at ho; cases ho
              | some p =>
                rw [hc] at ho
                simp only at ho
                split at ho
                · rename_i hs
                  simp only [Option.some.injEq] at ho
                  subst ho
                  exact ⟨p.1, ts, (hC _ _ _ _ _ hc).mono fun _ _ e => e.1, decs_views h 8 _ _ hd, hs, A⟩
                · cases ho
          · rename_i he
            split at ho
            · exact absurd (by assumption) (he _ _)
            · split at ho
              · rename_i hq
                rw [if_pos hq]
                cases hd : adet env h o.op with
                | none => rw [hd] at ho; cases ho
                | some p =>
                  rw [hd] at ho
                  simp only [Option.some.injEq] at ho
                  subst ho
                  exact A
              · cases ho
      · subst e
        exact ih hr H

theorem runLoop_ok {a : ACode} {f : ASt → Option (AExit × ASt)} (hf : ∀ {st e st'} {Q : AExit → ASt → Prop}, f st = some (e, st') → Q e st' → acode P a Q st) : ∀ (n : Nat) {st e st'} {Q : AExit → ASt → Prop},
    runLoop f n st = some (e, st') → Q e st' → e ≠ .normal → ALoop (acode P a) Q st := by
  intro n
  induction n with
  | zero => intro st e st' Q hr; cases hr
  | succ n ih =>
    intro st e st' Q hr H hne
    simp only [runLoop] at hr
    refine ALoop.step ?_
    cases h1 : f st with
    | none => rw [h1] at hr; cases hr
    | some p =>
      obtain ⟨e1, st1⟩ := p
      rw [h1] at hr
      refine hf h1 ?_
      cases e1 with
      | normal => exact ih hr H hne
      | exit id => simp only [Option.some.injEq, Prod.mk.injEq] at hr; obtain ⟨rfl, rfl⟩ := hr; exact H
      | ret => simp only [Option.some.injEq, Prod.mk.injEq] at hr; obtain ⟨rfl, rfl⟩ := hr; exact H

theorem runLoop_ne {f : ASt → Option (AExit × ASt)} : ∀ (n : Nat) {st e st'}, runLoop f n st = some (e, st') → e ≠ .normal := by
  intro n
  induction n with
  | zero => intro st e st' hr; cases hr
  | succ n ih =>
    intro st e st' hr
    simp only [runLoop] at hr
    cases h1 : f st with
    | none => rw [h1] at hr; cases hr
    | some p =>
      obtain ⟨e1, st1⟩ := p
      rw [h1] at hr
      cases e1 with
      | normal => exact ih hr
      | exit id => simp only [Option.some.injEq, Prod.mk.injEq] at hr; obtain ⟨rfl, rfl⟩ := hr; intro h; cases h
      | ret => simp only [Option.some.injEq, Prod.mk.injEq] at hr; obtain ⟨rfl, rfl⟩ := hr; intro h; cases h

theorem runCode_ok {C : CallF} (hC : CallsOk P C) (N : Nat) (c : ACode) : ∀ {st e st'} {Q : AExit → ASt → Prop}, runCode C N c st = some (e, st') → Q e st' → acode P c Q st := by
  induction c with
  | skip => intro st e st' Q hr H; simp only [runCode, Option.some.injEq, Prod.mk.injEq] at hr; obtain ⟨rfl, rfl⟩ := hr; exact H
  | exit id => intro st e st' Q hr H; simp only [runCode, Option.some.injEq, Prod.mk.injEq] at hr; obtain ⟨rfl, rfl⟩ := hr; exact H
  | ret => intro st e st' Q hr H; simp only [runCode, Option.some.injEq, Prod.mk.injEq] at hr; obtain ⟨rfl, rfl⟩ := hr; exact H
  | ops l =>
    intro st e st' Q hr H
    simp only [runCode] at hr
    cases h1 : runOps C l st.env st.heap with
    | none => rw [h1] at hr; cases hr
    | some p =>
      rw [h1] at hr
      simp only [Option.some.injEq, Prod.mk.injEq] at hr; obtain ⟨rfl, rfl⟩ := hr
      exact runOps_ok hC l (env' := p.1) (h' := p.2) h1 H
  | dops l =>
    intro st e st' Q hr H
    simp only [runCode] at hr
    cases h1 : runDops C st.heap l st.env with
    | none => rw [h1] at hr; cases hr
    | some p =>
      rw [h1] at hr
      simp only [Option.some.injEq, Prod.mk.injEq] at hr; obtain ⟨rfl, rfl⟩ := hr
      exact runDops_ok hC _ l h1 H
  | seq a b iha ihb =>
    intro st e st' Q hr H
    simp only [runCode] at hr
    cases h1 : runCode C N a st with
    | none => rw [h1] at hr; cases hr
    | some p =>
      obtain ⟨e1, st1⟩ := p
      rw [h1] at hr
      refine iha h1 ?_
      cases e1 with
      | normal => exact ihb hr H
      | exit id => simp only [Option.some.injEq, Prod.mk.injEq] at hr; obtain ⟨rfl, rfl⟩ := hr; exact H
      | ret => simp only [Option.some.injEq, Prod.mk.injEq] at hr; obtain ⟨rfl, rfl⟩ := hr; exact H
  | cond c a b iha ihb =>
    intro st e st' Q hr H
    simp only [runCode] at hr
    simp only [acode]
    split at hr
    · rename_i he; rw [he]; exact iha hr H
    · rename_i he; rw [he]; exact ihb hr H
    · cases hr
  | block id a iha =>
    intro st e st' Q hr H
    simp only [runCode] at hr
    cases h1 : runCode C N a st with
    | none => rw [h1] at hr; cases hr
    | some p =>
      obtain ⟨e1, st1⟩ := p
      rw [h1] at hr
      refine iha h1 ?_
      cases e1 with
      | normal => simp only [Option.some.injEq, Prod.mk.injEq] at hr; obtain ⟨rfl, rfl⟩ := hr; exact H
      | ret => simp only [Option.some.injEq, Prod.mk.injEq] at hr; obtain ⟨rfl, rfl⟩ := hr; exact H
      | exit j =>
        simp only at hr ⊢
        split
        · rename_i hj; rw [if_pos hj] at hr; simp only [Option.some.injEq, Prod.mk.injEq] at hr; obtain ⟨rfl, rfl⟩ := hr; exact H
        · rename_i hj; rw [if_neg hj] at hr; simp only [Option.some.injEq, Prod.mk.injEq] at hr; obtain ⟨rfl, rfl⟩ := hr; exact H
  | loop a iha =>
    intro st e st' Q hr H
    exact runLoop_ok iha N hr H (runLoop_ne N hr)

/-- **WHAT RUNS, IS SO.** -/
theorem runFn_ok {T : Tab} (hT : TabOk P T) (N : Nat) : ∀ d, CallsOk P (runFn T N d) := by
  intro d
  induction d with
  | zero => intro f args h r h' hr; cases hr
  | succ d ih =>
    intro f args h r h' hr
    simp only [runFn] at hr
    cases h1 : T f with
    | none => rw [h1] at hr; cases hr
    | some p =>
      obtain ⟨ac, rs, k⟩ := p
      rw [h1] at hr
      simp only at hr
      obtain ⟨fn, g1, g2, g3, g4, g5⟩ := hT f ac rs k h1
      refine PCall.of_fn g1 g2 g3 g4 g5 ?_
      cases h2 : runCode (runFn T N d) N ac ⟨args ++ List.replicate (k - args.length) (.tup []), h⟩ with
      | none => rw [h2] at hr; cases hr
      | some p =>
        obtain ⟨e, st⟩ := p
        rw [h2] at hr
        refine runCode_ok ih N ac h2 ?_
        cases e with
        | exit id => cases hr
        | normal =>
          simp only [Ends] at hr ⊢
          cases h3 : ares st.env st.heap rs with
          | none => rw [h3] at hr; cases hr
          | some v => rw [h3] at hr; simp only [Option.some.injEq, Prod.mk.injEq] at hr; exact hr
        | ret =>
          simp only [Ends] at hr ⊢
          cases h3 : ares st.env st.heap rs with
          | none => rw [h3] at hr; cases hr
          | some v => rw [h3] at hr; simp only [Option.some.injEq, Prod.mk.injEq] at hr; exact hr

/-- A run's word: the call returns that value. -/
def runTo (T : Tab) (N d : Nat) (f : FuncId) (args : List AV) (h : Heap) (p : AV → Bool) : Bool :=
  match runFn T N d f args h with
  | some (r, _) => p r
  | none => false
theorem runTo_ok {T : Tab} (hT : TabOk P T) {N d : Nat} {f : FuncId} {args : List AV} {h : Heap} {p : AV → Bool} (hr : runTo T N d f args h p = true) : PCall P f args h fun r _ => p r = true := by
  unfold runTo at hr
  split at hr
  · rename_i r h' he
    exact (runFn_ok hT N d f args h r h' he).mono fun _ _ e => by rw [e.1]; exact hr
  · cases hr


def Good (P : Program) (e : FuncId × ACode × List AR × Nat) : Prop := ∃ fn, P.funcs[e.1]? = some fn ∧ (fn.name == "runtime.NumGoroutine") = false ∧ fn.body.bind (trCode P) = some e.2.1 ∧
  trRes P fn.results.toList = some e.2.2.1 ∧ fn.ntmps = e.2.2.2
def AllGood (P : Program) : List (FuncId × ACode × List AR × Nat) → Prop
  | [] => True
  | e :: l => Good P e ∧ AllGood P l
def tabOf : List (FuncId × ACode × List AR × Nat) → Tab
  | [], _ => none
  | e :: l, f => if e.1 = f then some e.2 else tabOf l f
theorem tabOf_ok : ∀ (l : List (FuncId × ACode × List AR × Nat)), AllGood P l → TabOk P (tabOf l) := by
  intro l
  induction l with
  | nil => intro _ f ac rs k h; cases h
  | cons e l ih =>
    intro hg f ac rs k h
    simp only [tabOf] at h
    split at h
    · rename_i he
      simp only [Option.some.injEq] at h
      subst he
      have := hg.1
      unfold Good at this
      rw [h] at this
      exact this
    · exact ih hg.2 f ac rs k h

end
end Go.PA
