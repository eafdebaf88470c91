/- A function's body gives its call. No condition. -/
import Derived.Test.YtaekmccjendfoaaK16C
namespace Go.PA

inductive AR where
  | tmp (t : Tmp)
  | cell (a : Tmp) (agg : Bool) (n : Nat)
def trRes (P : Program) : List ResultVar → Option (List AR)
  | [] => some []
  | .tmp t :: l => match trRes P l with
    | some rs => some (.tmp t :: rs)
    | none => none
  | .cell a t :: l => match P.underlying t with
    | some d => match P.info? t with
      | some i => match trRes P l with
        | some rs => some ((if d.isRow then .cell a true i.size else .cell a false 1) :: rs)
        | none => none
      | none => none
    | none => none
def ares1 (env : List AV) (h : Heap) : AR → Option AV
  | .tmp t => some (env.getD t .bad)
  | .cell a agg n => match place h (env.getD a .bad) with
    | some cs => aload agg n cs
    | none => none
def aresL (env : List AV) (h : Heap) : List AR → Option (List AV)
  | [] => some []
  | r :: l => match ares1 env h r with
    | some v => match aresL env h l with
      | some vs => some (v :: vs)
      | none => none
    | none => none
def ares (env : List AV) (h : Heap) (rs : List AR) : Option AV :=
  match aresL env h rs with
  | some [v] => some v
  | some vs => some (.tup vs)
  | none => none

/-- What a body must come to. -/
def Ends (rs : List AR) (R : AV → Heap → Prop) : AExit → ASt → Prop
  | .exit _, _ => False
  | _, st => match ares st.env st.heap rs with
    | some r => R r st.heap
    | none => False

section
variable {P : Program}

def resF (tmps : Array Value) : ResultVar → Sem Value
  | .tmp t => pure (tmps.getD t undef)
  | .cell x t => do loadVar t (← asAddr (tmps.getD x undef))
theorem results_eq (fn : Func) (tmps : Array Value) : results fn tmps = (do let vs ← fn.results.mapM (resF tmps); pure (if h : vs.size = 1 then vs[0] else .tuple vs) : Sem Value) := rfl

theorem results_ok {w : World} {m : Maps} {h : Heap} (H : HRel w m h) {a : Act} {env : List AV} (E : ERel w m h a env) : ∀ (l : List ResultVar) (rs : List AR) (vs : List AV), trRes P l = some rs → aresL env h rs = some vs →
    ∃ us : List Value, (l.mapM (resF a.tmps)).run P w = .ok us w ∧ us.length = vs.length ∧
      ∀ (j : Nat) u c, us[j]? = some u → vs[j]? = some c → VR w m h u c := by
  intro l
  induction l with
  | nil =>
    intro rs vs ht ha
    simp only [trRes, Option.some.injEq] at ht; subst ht
    simp only [aresL, Option.some.injEq] at ha; subst ha
    exact ⟨[], rfl, rfl, fun j u c h1 _ => by simp at h1⟩
  | cons rv l ih =>
    intro rs vs ht ha
    have step : ∀ (r : AR) (rs' : List AR), rs = r :: rs' → trRes P l = some rs' → (∀ v, ares1 env h r = some v → ∃ u, (resF a.tmps rv).run P w = .ok u w ∧ VR w m h u v) →
        ∃ us : List Value, ((rv :: l).mapM (resF a.tmps)).run P w = .ok us w ∧ us.length = vs.length ∧
          ∀ (j : Nat) u c, us[j]? = some u → vs[j]? = some c → VR w m h u c := by
      intro r rs' e1 e2 hv
      subst e1
      simp only [aresL] at ha
      cases h1 : ares1 env h r with
      | none => rw [h1] at ha; cases ha
      | some v =>
        rw [h1] at ha
        simp only at ha
        cases h2 : aresL env h rs' with
        | none => rw [h2] at ha; cases ha
        | some vs' =>
          rw [h2] at ha
          simp only [Option.some.injEq] at ha
          subst ha
          obtain ⟨u, f1, f2⟩ := hv v h1
          obtain ⟨us, g1, g2, g3⟩ := ih rs' vs' e2 h2
          refine ⟨u :: us, ?_, by simp [g2], fun j x c k1 k2 => ?_⟩
          · rw [List.mapM_cons, Sem.run_bind, f1, Result.andThen_ok, Sem.run_bind, g1]; rfl
          · cases j with
            | zero => simp at k1 k2; subst k1; subst k2; exact f2
            | succ j => exact g3 j x c (by simpa using k1) (by simpa using k2)
    have ev : ∀ t, VR w m h (a.tmps.getD t undef) (env.getD t .bad) := fun t => E.ev (.tmp t)
    cases rv with
    | tmp t =>
      simp only [trRes] at ht
      cases h1 : trRes P l with
      | none => rw [h1] at ht; cases ht
      | some rs' =>
        rw [h1] at ht
        simp only [Option.some.injEq] at ht
        refine step _ rs' ht.symm h1 fun v hv => ?_
        simp only [ares1, Option.some.injEq] at hv
        subst hv
        exact ⟨_, rfl, ev t⟩
    | cell x t =>
      simp only [trRes] at ht
      cases hu : P.underlying t with
      | none => rw [hu] at ht; cases ht
      | some d =>
        rw [hu] at ht
        simp only at ht
        cases hi : P.info? t with
        | none => rw [hi] at ht; cases ht
        | some i =>
          rw [hi] at ht
          simp only at ht
          cases h1 : trRes P l with
          | none => rw [h1] at ht; cases ht
          | some rs' =>
            rw [h1] at ht
            simp only [Option.some.injEq] at ht
            refine step _ rs' ht.symm h1 fun v hv => ?_
            -- a load, as an operation of its own
            have hld : ∀ (agg : Bool) (n : Nat), TrOp P (.load t (.tmp x)) (.load agg n (.tmp x)) → ares1 env h (.cell x agg n) = some v → ∃ u, ((do loadVar t (← asAddr (a.tmps.getD x undef)) : Sem Value)).run P w = .ok u w ∧ VR w m h u v := by
              intro agg n hT hv
              have hd : adet env h (.load agg n (.tmp x)) = some (v, h) := by
                simp only [ares1] at hv
                simp only [adet, aeval]
                cases hp : place h (env.getD x .bad) with
                | none => rw [hp] at hv; cases hv
                | some cs =>
                  rw [hp] at hv
                  simp only at hv ⊢
                  rw [hv]
              obtain ⟨_, u, hu2, hrun⟩ := q_load (P := P) H E hT hd
              have hrun' : (Instr.loadAt t (a.tmps.getD x undef)).run P w = .ok u w := hrun w (Qw.refl w)
              refine ⟨u, ?_, hu2⟩
              have hp : ∃ ad, a.tmps.getD x undef = .pointer (some ad) := by
                simp only [ares1] at hv
                cases hp : place h (env.getD x .bad) with
                | none => rw [hp] at hv; cases hv
                | some cs =>
                  obtain ⟨ad, _, e, _⟩ := place_rel H (ev x) hp
                  exact ⟨ad, e⟩
              obtain ⟨ad, e⟩ := hp
              rw [e] at hrun' ⊢
              exact hrun'
            by_cases hd : d.isRow = true
            · rw [if_pos hd] at hv
              exact hld true i.size (.loadA t d i _ hu hd hi) hv
            · rw [if_neg hd] at hv
              exact hld false 1 (.load1 t d _ hu (Bool.eq_false_iff.mpr hd)) hv

/-- **A BODY GIVES ITS CALL.** -/
theorem PCall.of_body {f : FuncId} {fn : Func} {c : Code} {ac : ACode} {rs : List AR} (hf : P.funcs[f]? = some fn) (hb : fn.body = some c) (hn : (fn.name == "runtime.NumGoroutine") = false)
    (htr : trCode P c = some ac) (hres : trRes P fn.results.toList = some rs) {k : Nat} (hk : fn.ntmps = k) {args : List AV} {h : Heap} {R : AV → Heap → Prop}
    (A : acode P ac (Ends rs R) ⟨args ++ List.replicate (k - args.length) (.tup []), h⟩) : PCall P f args h R := by
  refine ⟨⟨fn, hf, by rw [hb]; rfl, hn⟩, fun w m vs H hvs => ?_⟩
  refine calls_of_wp hf hb ?_
  have E : ERel w m h { tmps := vs ++ Array.replicate (fn.ntmps - vs.size) undef, defers := [] } (args ++ List.replicate (k - args.length) (.tup [])) := by
    refine ⟨rfl, by simp [hvs.1, hk], fun t v c h1 h2 => ?_⟩
    simp only at h1
    by_cases ht : t < vs.size
    · rw [Array.getElem?_append_left ht] at h1
      rw [List.getElem?_append_left (by rw [← hvs.1]; exact ht)] at h2
      exact hvs.2 t v c h1 h2
    · rw [List.getElem?_append_right (by rw [← hvs.1]; omega), List.getElem?_replicate] at h2
      rw [Array.getElem?_append_right (by omega), Array.getElem?_replicate] at h1
      split at h2
      · split at h1
        · cases h1; cases h2
          exact .tup #[] [] rfl (fun j v c h1 _ => by simp at h1)
        · cases h1
      · cases h2
  refine Code.wp_mono (fun e a w' he => ?_) (code_ok (w0 := w) (m0 := m) (h0 := h) (trCode_ok P c ac htr) E H (Turn.refl w m h) A)
  have fin : (∃ (st : ASt) (m' : Maps), ERel w' m' st.heap a st.env ∧ HRel w' m' st.heap ∧ Turn w m h w' m' st.heap ∧ (match ares st.env st.heap rs with | some r => R r st.heap | none => False)) →
      a.defers = [] ∧ ∃ v, (results fn a.tmps).run P w' = .ok v w' ∧ ∃ u m' r h', Ending.returned v = .returned u ∧ HRel w' m' h' ∧ VR w' m' h' u r ∧ Turn w m h w' m' h' ∧ R r h' := by
    rintro ⟨st, m', E', H', T', A'⟩
    refine ⟨E'.defers, ?_⟩
    cases hL : aresL st.env st.heap rs with
    | none => simp only [ares, hL] at A'
    | some vs' =>
      obtain ⟨us, g1, g2, g3⟩ := results_ok (P := P) H' E' fn.results.toList rs vs' hres hL
      have hrun : (fn.results.mapM (resF a.tmps)).run P w' = .ok us.toArray w' := by
        have : fn.results = fn.results.toList.toArray := by simp
        rw [this, List.mapM_toArray]
        show ((List.mapM (resF a.tmps) fn.results.toList >>= fun x => pure x.toArray : Sem (Array Value))).run P w' = _
        rw [Sem.run_bind, g1]; rfl
      have hone : ∀ u c, us = [u] → vs' = [c] → (results fn a.tmps).run P w' = .ok u w' := fun u c e1 _ => by
        rw [results_eq, Sem.run_bind, hrun, Result.andThen_ok, e1]; rfl
      have hmany : us.length ≠ 1 → (results fn a.tmps).run P w' = .ok (.tuple us.toArray) w' := fun hne => by
        rw [results_eq, Sem.run_bind, hrun, Result.andThen_ok, dif_neg (by simpa using hne)]; rfl
      match vs', us, g2, g3, hL, hone, hmany with
      | [c], [u], _, g3, hL, hone, _ =>
        simp only [ares, hL] at A'
        exact ⟨u, hone u c rfl rfl, u, m', c, st.heap, rfl, H', g3 0 u c rfl rfl, T', A'⟩
      | [], us, g2, g3, hL, _, hmany =>
        simp only [ares, hL] at A'
        exact ⟨_, hmany (by rw [g2]; decide), _, m', _, st.heap, rfl, H', .tup us.toArray [] (by simpa using g2) (fun j v c h1 h2 => by simp at h2), T', A'⟩
      | c1 :: c2 :: cs, us, g2, g3, hL, _, hmany =>
        simp only [ares, hL] at A'
        exact ⟨_, hmany (by rw [g2]; simp), _, m', _, st.heap, rfl, H', .tup us.toArray _ (by simpa using g2) (fun j v c h1 h2 => g3 j v c (by simpa using h1) h2), T', A'⟩
  cases e with
  | normal =>
    obtain ⟨st, m', E', H', T', A'⟩ := he
    exact fin ⟨st, m', E', H', T', A'⟩
  | ret =>
    obtain ⟨st, m', E', H', T', A'⟩ := he
    exact fin ⟨st, m', E', H', T', A'⟩
  | exit id => obtain ⟨st, m', E', H', T', A'⟩ := he; exact False.elim A'
  | _ => exact False.elim he


theorem PCall.of_fn {f : FuncId} {fn : Func} {ac : ACode} {rs : List AR} (hf : P.funcs[f]? = some fn) (hn : (fn.name == "runtime.NumGoroutine") = false)
    (htr : fn.body.bind (trCode P) = some ac) (hres : trRes P fn.results.toList = some rs) {k : Nat} (hk : fn.ntmps = k) {args : List AV} {h : Heap} {R : AV → Heap → Prop}
    (A : acode P ac (Ends rs R) ⟨args ++ List.replicate (k - args.length) (.tup []), h⟩) : PCall P f args h R := by
  cases hb : fn.body with
  | none => rw [hb] at htr; cases htr
  | some c => rw [hb] at htr; exact .of_body hf hb hn htr hres hk A

end
end Go.PA
