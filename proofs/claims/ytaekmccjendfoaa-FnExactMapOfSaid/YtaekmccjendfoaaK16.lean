/- The machine's code does what the plain code does; so does a function's body. No condition. -/
import Derived.Test.YtaekmccjendfoaaK15
namespace Go.PA

def TrGuard (ops : Array Oper) : Option (Nat × Bool) → Option (Tmp × Bool) → Prop
  | none, none => True
  | some (j, want), some (t, want') => (ops[j]?).bind (·.dst) = some t ∧ want' = want
  | _, _ => False
structure TrOper (P : Program) (ops : Array Oper) (o : Oper) (ao : AOper) : Prop where
  op : TrOp P o.op ao.op
  dst : ao.dst = o.dst
  guard : TrGuard ops o.guard ao.guard
inductive TrOps (P : Program) (ops : Array Oper) : List Oper → List AOper → Prop
  | nil : TrOps P ops [] []
  | cons (o ao l al) (h : TrOper P ops o ao) (t : TrOps P ops l al) : TrOps P ops (o :: l) (ao :: al)
def trOps (P : Program) (ops : Array Oper) : List Oper → Option (List AOper)
  | [] => some []
  | o :: l => match trOp P o.op with
    | some op => match (match o.guard with
        | none => some none
        | some (j, want) => match (ops[j]?).bind (·.dst) with
          | some t => some (some (t, want))
          | none => none) with
      | some g => match trOps P ops l with
        | some al => some (⟨o.dst, op, g⟩ :: al)
        | none => none
      | none => none
    | none => none
theorem trOps_ok (P : Program) (ops : Array Oper) (l : List Oper) : ∀ al, trOps P ops l = some al → TrOps P ops l al := by
  induction l with
  | nil => intro al h; simp only [trOps, Option.some.injEq] at h; subst h; exact .nil
  | cons o l ih =>
    intro al h
    simp only [trOps] at h
    cases h1 : trOp P o.op with
    | none => rw [h1] at h; cases h
    | some op =>
      rw [h1] at h
      simp only at h
      cases hg : o.guard with
      | none =>
        rw [hg] at h
        simp only at h
        cases h2 : trOps P ops l with
        | none => rw [h2] at h; cases h
        | some al' =>
          rw [h2] at h
          simp only [Option.some.injEq] at h
          subst h
          exact .cons _ _ _ _ ⟨trOp_ok P _ _ h1, rfl, by rw [hg]; exact True.intro⟩ (ih al' h2)
      | some jw =>
        obtain ⟨j, want⟩ := jw
        rw [hg] at h
        simp only at h
        cases h3 : (ops[j]?).bind (·.dst) with
        | none => rw [h3] at h; cases h
        | some t =>
          rw [h3] at h
          simp only at h
          cases h2 : trOps P ops l with
          | none => rw [h2] at h; cases h
          | some al' =>
            rw [h2] at h
            simp only [Option.some.injEq] at h
            subst h
            exact .cons _ _ _ _ ⟨trOp_ok P _ _ h1, rfl, by rw [hg]; exact ⟨h3, rfl⟩⟩ (ih al' h2)

section
variable {P : Program}

theorem guard_ok {w : World} {m : Maps} {h : Heap} {a : Act} {env : List AV} (E : ERel w m h a env) {ops : Array Oper} {o : Oper} {g : Option (Tmp × Bool)} (G : TrGuard ops o.guard g) {y n : Prop} (H : aguard env g y n) :
    (Region.wanted o (yielded ops a.tmps) = true ∧ y) ∨ (Region.wanted o (yielded ops a.tmps) = false ∧ n) := by
  unfold Region.wanted
  cases hg : o.guard with
  | none =>
    rw [hg] at G
    cases g with
    | none => exact .inl ⟨rfl, H⟩
    | some tw => exact False.elim G
  | some jw =>
    obtain ⟨j, want⟩ := jw
    rw [hg] at G
    cases g with
    | none => exact False.elim G
    | some tw =>
      obtain ⟨t, want'⟩ := tw
      obtain ⟨g1, rfl⟩ := G
      simp only [aguard] at H
      have hv : ∀ c, env.getD t .bad = c → c ≠ .bad → ∃ v, a.tmps[t]? = some v ∧ VR w m h v c := fun c hc hne => by
        by_cases ht : t < env.length
        · have h1 : a.tmps[t]? = some (a.tmps[t]'(by rw [E.size]; exact ht)) := Array.getElem?_eq_getElem _
          have h2 : env[t]? = some c := by rw [← hc, List.getD_eq_getElem?_getD, List.getElem?_eq_getElem ht]; rfl
          exact ⟨_, h1, E.at_ t _ _ h1 h2⟩
        · rw [List.getD_eq_getElem?_getD, List.getElem?_eq_none (Nat.not_lt.mp ht)] at hc
          exact absurd hc.symm hne
      have hy : ∀ v, a.tmps[t]? = some v → yielded ops a.tmps j = match v with
          | .bool b => some b
          | _ => none := fun v hv => by
        unfold yielded
        rw [g1]
        simp only [Option.bind_some, hv]
        cases v <;> rfl
      split at H
      · rename_i b hb
        obtain ⟨v, h1, h2⟩ := hv _ hb (by simp)
        cases h2
        simp only [hy _ h1]
        split at H
        · rename_i hbw; subst hbw; exact .inl ⟨by simp, H⟩
        · rename_i hbw; exact .inr ⟨by simpa using hbw, H⟩
      · rename_i hb
        obtain ⟨v, h1, h2⟩ := hv _ hb (by simp)
        cases h2
        simp only [hy _ h1]
        exact .inr ⟨rfl, H⟩
      · exact False.elim H

theorem skip_put {w : World} {m : Maps} {h : Heap} {a : Act} {env : List AV} (E : ERel w m h a env) (d : Option Tmp) : ERel w m h (a.put d undef) (aput env d (.tup [])) :=
  E.put d (.tup #[] [] rfl (fun j v c h1 _ => by simp at h1))

/-- A call, carried out. -/
theorem call_wp {w : World} {o : Oper} {c : Call} (ho : o.op = .call c) {a : Act} {f : FuncId} {caps : Array Value} {x : Operand} (hc : c.callee = .value x) (hx : a.eval x = .func (.func f) #[] caps) (hf : Callable P f) {next : Act → World → Prop} {Q : Exit → Act → World → Prop}
    (hcall : Calls P f (c.args.map a.eval ++ caps) w fun e w' => ∃ v, e = .returned v ∧ next (a.put o.dst v) w') : o.wp P a w next Q := by
  obtain ⟨fn, h1, h2, h3⟩ := hf
  have hrun : (execOp a.eval o).run P w = .ok (.enter f (c.args.map a.eval ++ caps)) w := by
    obtain ⟨dst, op, ty, pos, aft, gd⟩ := o
    simp only at ho
    subst ho
    show (do let d ← resolve a.eval c ty; invoke d.target d.args : Sem Next).run P w = _
    have hr : resolve a.eval c ty = pure { target := .fn (.func f) caps, args := #[] ++ c.args.map a.eval } := by
      unfold resolve; simp only [hc, hx]; rfl
    rw [hr]
    show (callFunc f ((#[] ++ c.args.map a.eval) ++ caps)).run P w = _
    rw [Array.empty_append]
    unfold callFunc
    rw [Sem.run_bind]
    show ((Result.ok P w).andThen _) = _
    rw [Result.andThen_ok, h1]
    simp only [h3, h2]
    rfl
  unfold Oper.wp
  rw [hrun, Oper.upon_enter]
  refine hcall.mono fun e w' ⟨v, he, hn⟩ => ?_
  subst he; exact hn

theorem args_rel {w : World} {m : Maps} {h : Heap} {a : Act} {env : List AV} (E : ERel w m h a env) (xs : Array Operand) : VRs w m h (xs.map a.eval) (xs.toList.map (aeval env)) := by
  refine ⟨by simp, fun j v c h1 h2 => ?_⟩
  rw [Array.getElem?_map] at h1
  rw [List.getElem?_map, Array.getElem?_toList] at h2
  cases hx : xs[j]? with
  | none => rw [hx] at h1; cases h1
  | some x =>
    rw [hx] at h1 h2
    simp only [Option.map_some, Option.some.injEq] at h1 h2
    subst h1; subst h2
    exact E.ev x

theorem VRs.append {w : World} {m : Maps} {h : Heap} {vs us : Array Value} {as bs : List AV} (A : VRs w m h vs as) (B : VRs w m h us bs) : VRs w m h (vs ++ us) (as ++ bs) := by
  refine ⟨by rw [Array.size_append, List.length_append, A.1, B.1], fun j v c h1 h2 => ?_⟩
  by_cases hj : j < vs.size
  · rw [Array.getElem?_append_left hj] at h1
    rw [List.getElem?_append_left (by rw [← A.1]; exact hj)] at h2
    exact A.2 j v c h1 h2
  · rw [Array.getElem?_append_right (by omega)] at h1
    rw [List.getElem?_append_right (by rw [← A.1]; omega), ← A.1] at h2
    exact B.2 _ v c h1 h2

theorem ops_ok {w0 : World} {m0 : Maps} {h0 : Heap} {ops : Array Oper} {Q : Exit → Act → World → Prop} {K : List AV → Heap → Prop}
    (hK : ∀ env h a w m, ERel w m h a env → HRel w m h → Turn w0 m0 h0 w m h → K env h → Q .normal a w) (l : List Oper) : ∀ (al : List AOper), TrOps P ops l al →
    ∀ (env : List AV) (h : Heap) (a : Act) (w : World) (m : Maps), ERel w m h a env → HRel w m h → Turn w0 m0 h0 w m h → aops P al K env h → wpList P ops Q l a w := by
  induction l with
  | nil => intro al T env h a w m E H Tn A; cases T; exact wpList_nil (hK env h a w m E H Tn A)
  | cons o l ih =>
    intro al T env h a w m E H Tn A
    cases T with
    | cons _ ao _ al' To Tl =>
      simp only [aops] at A
      rcases guard_ok E To.guard A with ⟨hw, A⟩ | ⟨hw, A⟩
      · unfold wpList
        rw [if_pos hw]
        refine .inl ?_
        have hnext : ∀ v r w' m' h', HRel w' m' h' → VR w' m' h' v r → Turn w m h w' m' h' → aops P al' K (aput env ao.dst r) h' → wpList P ops Q l (a.put o.dst v) w' := fun v r w' m' h' H' V T' A' => by
          have := (E.turn T').put o.dst V
          rw [← To.dst] at this ⊢
          exact ih al' Tl _ h' _ w' m' this H' (Tn.trans T') A'
        have hT := To.op
        generalize hao : ao.op = op at hT A
        have det : ∀ r h', adet env h op = some (r, h') → aops P al' K (aput env ao.dst r) h' → o.wp P a w (wpList P ops Q l) Q := fun r h' hd A' => by
          obtain ⟨nx, v, w', m', hrun, hnx, G, V, T'⟩ := det_ok H E hT hd
          unfold Oper.wp
          rw [hrun]
          rcases hnx with rfl | ⟨rfl, rfl⟩
          · exact hnext v r w' m' h' G V T' A'
          · exact hnext undef r w' m' h' G V T' A'
        generalize hmo : o.op = mop at hT
        cases hT with
        | call c f hc =>
          obtain ⟨R, S, A'⟩ := A
          refine call_wp (caps := #[]) hmo hc rfl S.1 ?_
          rw [Array.append_empty]
          exact (S.2 w m _ H (args_rel E c.args)).mono fun e w' ⟨v, m', r, h', he, G, V, T', hR⟩ => ⟨v, he, hnext v r w' m' h' G V T' (A' r h' hR)⟩
        | callv c x hc =>
          simp only [astep] at A
          have hx := E.ev x
          generalize aeval env x = ax at hx A
          generalize hvx : a.eval x = vx at hx
          cases hx with
          | fn f vs cs q1 q2 =>
            obtain ⟨R, S, A'⟩ := A
            exact call_wp hmo hc hvx S.1 ((S.2 w m _ H ((args_rel E c.args).append ⟨q1, q2⟩)).mono fun e w' ⟨v, m', r, h', he, G, V, T', hR⟩ => ⟨v, he, hnext v r w' m' h' G V T' (A' r h' hR)⟩)
          | _ => exact False.elim A
        | _ =>
          simp only [astep] at A
          split at A
          · rename_i r h' hd; exact det r h' hd A
          · exact False.elim A
      · unfold wpList
        rw [if_neg (by rw [hw]; decide)]
        have := skip_put E o.dst
        rw [← To.dst] at this ⊢
        exact ih al' Tl _ h _ w m this H Tn A


/-- What was there stays, whole. -/
theorem HRel.same {w w' : World} {m : Maps} {h : Heap} (H : HRel w m h) (hs : w.heap.size ≤ w'.heap.size) (hq : Qw w w') (ho : w'.os = w.os) (ht : w'.tape = w.tape) (hu : w'.output = w.output) : HRel w' m h ∧ Turn w m h w' m h := by
  have T : Turn w m h w' m h := ⟨ho, ht, hu, hs, fun b hb _ => hq b hb, fun _ _ h => h, fun _ _ => rfl, fun _ _ => rfl, Nat.le_refl _, Nat.le_refl _, rfl, fun _ _ => rfl, fun _ _ => rfl⟩
  refine ⟨⟨fun i cs hg hi => ?_, fun r row hg hr => ?_, H.lt, H.bb, H.br, H.rr, Nat.le_trans H.base hs⟩, T⟩
  · obtain ⟨vs, ty, e, hsz, hv⟩ := H.boxes i cs hg hi
    exact ⟨vs, ty, by rw [hq _ (Array.getElem?_eq_some_iff.1 e).1]; exact e, hsz, fun j v c h1 h2 => ⟨(hv j v c h1 h2).1, (hv j v c h1 h2).2.turn T⟩⟩
  · obtain ⟨vs, ty, e, hsz, he, hle, hels, hv⟩ := H.rows r row hg hr
    refine ⟨vs, ty, by rw [hq _ (Array.getElem?_eq_some_iff.1 e).1]; exact e, hsz, he, hle, hels, fun i j cs c h1 h2 => ?_⟩
    obtain ⟨v, e1, e2, e3⟩ := hv i j cs c h1 h2
    exact ⟨v, e1, e2, e3.turn T⟩

theorem own_nil (m : Maps) (b : Nat) : ¬ own m Heap.nil b := by
  rintro (⟨i, hi, _⟩ | ⟨r, row, hr, _⟩)
  · exact absurd hi (Nat.not_lt_zero i)
  · cases hr
theorem HRel.nil (w : World) (m : Maps) (hb : m.base ≤ w.heap.size) : HRel w m Heap.nil :=
  ⟨fun i cs _ hi => (by simp [Heap.nil] at hi), fun r row _ hr => (by cases hr), fun r row hr => (by cases hr), fun i j _ _ hi => absurd hi (Nat.not_lt_zero i), fun i r row _ _ hi => absurd hi (Nat.not_lt_zero i), fun r r' row row' _ _ hr => (by cases hr), hb⟩

theorem sca1_val {w : World} {O : Nat → Prop} {m : Maps} {nb nr : Nat} {a : AV} {v u : Value} (hs : sca1 a = some v) (h : VRel w O m nb nr u a) : u = v := by
  cases h <;> simp [sca1] at hs <;> exact hs
theorem sca1_rel {a : AV} {v : Value} (hs : sca1 a = some v) (w : World) (O : Nat → Prop) (m : Maps) (nb nr : Nat) : VRel w O m nb nr v a ∧ cellV v = true := by
  cases a <;> simp [sca1] at hs <;> subst hs
  · exact ⟨.int _ _, rfl⟩
  · exact ⟨.bool _, rfl⟩
  · exact ⟨.str _, rfl⟩
theorem scaL_val (w : World) (O : Nat → Prop) (m : Maps) (nb nr : Nat) : ∀ (cs : List AV) (vs : List Value), scaL cs = some vs → vs.length = cs.length ∧ (∀ (j : Nat) v c, vs[j]? = some v → cs[j]? = some c → sca1 c = some v)
  | [], vs, hs => by simp only [scaL, Option.some.injEq] at hs; subst hs; exact ⟨rfl, fun j v c h1 _ => by simp at h1⟩
  | a :: l, vs, hs => by
    simp only [scaL] at hs
    cases h1 : sca1 a with
    | none => rw [h1] at hs; cases hs
    | some v =>
      rw [h1] at hs
      simp only at hs
      cases h2 : scaL l with
      | none => rw [h2] at hs; cases hs
      | some vs' =>
        rw [h2] at hs
        simp only [Option.some.injEq] at hs
        subst hs
        obtain ⟨e1, e2⟩ := scaL_val w O m nb nr l vs' h2
        refine ⟨by simp [e1], fun j u c h3 h4 => ?_⟩
        cases j with
        | zero => simp at h3 h4; subst h3; subst h4; exact h1
        | succ j => exact e2 j u c (by simpa using h3) (by simpa using h4)
theorem sca_val {w : World} {O : Nat → Prop} {m : Maps} {nb nr : Nat} {a : AV} {v u : Value} (hs : sca a = some v) (h : VRel w O m nb nr u a) : u = v := by
  cases h with
  | agg vs cs q1 q2 q3 =>
    simp only [sca] at hs
    cases h2 : scaL cs with
    | none => rw [h2] at hs; cases hs
    | some us =>
      rw [h2] at hs
      simp only [Option.some.injEq] at hs
      subst hs
      obtain ⟨e1, e2⟩ := scaL_val w O m nb nr cs us h2
      congr 1
      apply Array.ext_getElem?
      intro j
      by_cases hj : j < cs.length
      · have h3 : vs[j]? = some (vs[j]'(by omega)) := Array.getElem?_eq_getElem _
        have h4 : us[j]? = some (us[j]'(by omega)) := List.getElem?_eq_getElem _
        rw [h3]
        have h5 := e2 j _ _ h4 (List.getElem?_eq_getElem hj)
        have h6 := q3 j _ _ h3 (List.getElem?_eq_getElem hj)
        rw [sca1_val h5 h6]
        simp [h4]
      · rw [Array.getElem?_eq_none (by omega), Array.getElem?_eq_none (by simp; omega)]
  | tup vs cs q1 q3 =>
    simp only [sca] at hs
    cases h2 : scaL cs with
    | none => rw [h2] at hs; cases hs
    | some us =>
      rw [h2] at hs
      simp only [Option.some.injEq] at hs
      subst hs
      obtain ⟨e1, e2⟩ := scaL_val w O m nb nr cs us h2
      congr 1
      apply Array.ext_getElem?
      intro j
      by_cases hj : j < cs.length
      · have h3 : vs[j]? = some (vs[j]'(by omega)) := Array.getElem?_eq_getElem _
        have h4 : us[j]? = some (us[j]'(by omega)) := List.getElem?_eq_getElem _
        rw [h3]
        have h5 := e2 j _ _ h4 (List.getElem?_eq_getElem hj)
        have h6 := q3 j _ _ h3 (List.getElem?_eq_getElem hj)
        rw [sca1_val h5 h6]
        simp [h4]
      · rw [Array.getElem?_eq_none (by omega), Array.getElem?_eq_none (by simp; omega)]
  | int k n => exact sca1_val (a := .int k n) hs (.int k n : VRel w O m nb nr _ _)
  | bool b => exact sca1_val (a := .bool b) hs (.bool b : VRel w O m nb nr _ _)
  | str s => exact sca1_val (a := .str s) hs (.str s : VRel w O m nb nr _ _)
  | _ => simp [sca, sca1] at hs
theorem sca_rel {a : AV} {v : Value} (hs : sca a = some v) (w : World) (O : Nat → Prop) (m : Maps) (nb nr : Nat) : VRel w O m nb nr v a := by
  cases a with
  | agg cs =>
    simp only [sca] at hs
    cases h2 : scaL cs with
    | none => rw [h2] at hs; cases hs
    | some us =>
      rw [h2] at hs
      simp only [Option.some.injEq] at hs
      subst hs
      obtain ⟨e1, e2⟩ := scaL_val w O m nb nr cs us h2
      refine .agg _ _ (by simpa using e1) (fun j v hj => ?_) (fun j v c h3 h4 => (sca1_rel (e2 j v c (by simpa using h3) h4) w O m nb nr).1)
      have hlt : j < cs.length := by rw [← e1]; exact (List.getElem?_eq_some_iff.1 (by simpa using hj : us[j]? = some v)).1
      exact (sca1_rel (e2 j v _ (by simpa using hj) (List.getElem?_eq_getElem hlt)) w O m nb nr).2
  | tup cs =>
    simp only [sca] at hs
    cases h2 : scaL cs with
    | none => rw [h2] at hs; cases hs
    | some us =>
      rw [h2] at hs
      simp only [Option.some.injEq] at hs
      subst hs
      obtain ⟨e1, e2⟩ := scaL_val w O m nb nr cs us h2
      exact .tup _ _ (by simpa using e1) (fun j v c h3 h4 => (sca1_rel (e2 j v c (by simpa using h3) h4) w O m nb nr).1)
  | int k n => exact (sca1_rel (a := .int k n) hs w O m nb nr).1
  | bool b => exact (sca1_rel (a := .bool b) hs w O m nb nr).1
  | str s => exact (sca1_rel (a := .str s) hs w O m nb nr).1
  | _ => simp [sca, sca1] at hs

/-- A reading call in any world: nothing that was there turns. -/
theorem Views.rel {h : Heap} {w : World} {m : Maps} (H : HRel w m h) (m' : Maps) : ∀ (as ts : List AV), Views h as ts → ∀ vs : Array Value, VRs w m h vs as → VRs w m' Heap.nil vs ts := by
  have key : ∀ (as ts : List AV), Views h as ts → as.length = ts.length ∧ ∀ (j : Nat) a t, as[j]? = some a → ts[j]? = some t → View h a t := by
    intro as
    induction as with
    | nil => intro ts hv; cases ts with
      | nil => exact ⟨rfl, fun j a t h1 _ => by simp at h1⟩
      | cons t ts => exact False.elim hv
    | cons a as ih =>
      intro ts hv
      cases ts with
      | nil => exact False.elim hv
      | cons t ts =>
        obtain ⟨h1, h2⟩ := hv
        obtain ⟨e1, e2⟩ := ih ts h2
        refine ⟨by simp [e1], fun j a' t' h3 h4 => ?_⟩
        cases j with
        | zero => simp at h3 h4; subst h3; subst h4; exact h1
        | succ j => exact e2 j a' t' (by simpa using h3) (by simpa using h4)
  intro as ts hv vs V
  obtain ⟨e1, e2⟩ := key as ts hv
  refine ⟨by rw [V.1, e1], fun j v t h1 h2 => ?_⟩
  have hj : j < as.length := by rw [e1]; exact (List.getElem?_eq_some_iff.1 h2).1
  have := e2 j _ t (List.getElem?_eq_getElem hj) h2 w m m' v H (V.2 j v _ h1 (List.getElem?_eq_getElem hj))
  exact this.mono (fun _ _ _ => rfl) (fun b _ _ => own_nil m' b) (fun _ _ h => ⟨rfl, h⟩) (fun _ _ h => ⟨rfl, h⟩) (Nat.le_refl _) (Nat.le_refl _) (Nat.le_refl _)

theorem ro_calls {f : FuncId} {ts as : List AV} {r : AV} (R : RO P f ts r) {v : Value} (hv : sca r = some v) {h : Heap} {w : World} {m : Maps} (H : HRel w m h) (V : Views h as ts) {vs : Array Value} (hvs : VRs w m h vs as) :
    Calls P f vs w fun e w' => e = .returned v ∧ w'.os = w.os ∧ w'.tape = w.tape ∧ w'.output = w.output ∧ w.heap.size ≤ w'.heap.size ∧ Qw w w' := by
  refine (R.call.2 w m vs (HRel.nil w m H.base) (V.rel H m as ts vs hvs)).mono fun e w' ⟨u, m', r', h', he, _, hu, T, hr⟩ => ?_
  subst hr
  exact ⟨by rw [he, sca_val hv hu], T.os, T.tape, T.output, T.size, fun b hb => T.frame b hb (own_nil m b)⟩

/-- A reading call, met anywhere. -/
theorem RO.lift {f : FuncId} {ts as : List AV} {r : AV} {h : Heap} (R : RO P f ts r) (hr : (sca r).isSome = true) (V : Views h as ts) : PCall P f as h fun r' h' => r' = r ∧ h' = h := by
  obtain ⟨v, hv⟩ := Option.isSome_iff_exists.1 hr
  refine ⟨R.call.1, fun w m vs H hvs => (ro_calls R hv H V hvs).mono fun e w' ⟨he, h1, h2, h3, h4, h5⟩ => ?_⟩
  obtain ⟨G, T⟩ := H.same h4 h5 h1 h2 h3
  exact ⟨v, m, r, h, he, G, sca_rel hv _ _ _ _ _, T, rfl, rfl⟩

theorem decC_get {d : AV → Option AV} : ∀ (cs ts : List AV), decC d cs = some ts → ts.length = cs.length ∧ ∀ (j : Nat) t, ts[j]? = some t → ∃ c, cs[j]? = some c ∧ d c = some t := by
  intro cs
  induction cs with
  | nil => intro ts h; simp only [decC, Option.some.injEq] at h; subst h; exact ⟨rfl, fun j t hj => by simp at hj⟩
  | cons c l ih =>
    intro ts h
    simp only [decC] at h
    cases h1 : d c with
    | none => rw [h1] at h; cases h
    | some t =>
      rw [h1] at h
      simp only at h
      cases h2 : decC d l with
      | none => rw [h2] at h; cases h
      | some ts' =>
        rw [h2] at h
        simp only [Option.some.injEq] at h
        subst h
        obtain ⟨e1, e2⟩ := ih ts' h2
        refine ⟨by simp [e1], fun j u hj => ?_⟩
        cases j with
        | zero => simp at hj; subst hj; exact ⟨c, rfl, h1⟩
        | succ j => simpa using e2 j u (by simpa using hj)
theorem decX_get {d : AV → Option AV} : ∀ (cs ts : List (List AV)), decX d cs = some ts → ts.length = cs.length ∧ ∀ (j : Nat) t, ts[j]? = some t → ∃ c, cs[j]? = some c ∧ decC d c = some t := by
  intro cs
  induction cs with
  | nil => intro ts h; simp only [decX, Option.some.injEq] at h; subst h; exact ⟨rfl, fun j t hj => by simp at hj⟩
  | cons c l ih =>
    intro ts h
    simp only [decX] at h
    cases h1 : decC d c with
    | none => rw [h1] at h; cases h
    | some t =>
      rw [h1] at h
      simp only at h
      cases h2 : decX d l with
      | none => rw [h2] at h; cases h
      | some ts' =>
        rw [h2] at h
        simp only [Option.some.injEq] at h
        subst h
        obtain ⟨e1, e2⟩ := ih ts' h2
        refine ⟨by simp [e1], fun j u hj => ?_⟩
        cases j with
        | zero => simp at hj; subst hj; exact ⟨c, rfl, h1⟩
        | succ j => simpa using e2 j u (by simpa using hj)

theorem cells_lit (f : Bool) {w : World} {O' : Nat → Prop} {m m' : Maps} {nb nr : Nat} {h : Heap} {els ts : List (List AV)} {d : AV → Option AV} (hd : ∀ c t v, d c = some t → VR w m h v c → VRel w O' m' nb nr v t)
    {a : Option Addr} {cap sz : Nat} (hc : els.length ≤ cap) (ha : els ≠ [] → a ≠ none) (hno : ∀ ad, a = some ad → ¬ O' ad.block ∧ (f = true → m'.base ≤ ad.block)) (hsz : ∀ cs ∈ els, cs.length = sz) {vs : List Value}
    (hcell : ∀ (j : Nat) u, vs[j]? = some u → ∃ ad, a = some ad ∧ w.cell? (ad.add j) = some u) (hcv : ∀ u ∈ vs, cellV u = true)
    (hv : ∀ (i j : Nat) cs c, els[i]? = some cs → cs[j]? = some c → ∃ u, vs[i * sz + j]? = some u ∧ VR w m h u c) (hx : decX d els = some ts) :
    VRel w O' m' nb nr (.slice a els.length cap) (.lit f ts) := by
  obtain ⟨e1, e2⟩ := decX_get els ts hx
  rw [← e1]
  have key : ∀ (i j : Nat) cs c, ts[i]? = some cs → cs[j]? = some c → ∃ u, vs[i * sz + j]? = some u ∧ VRel w O' m' nb nr u c := fun i j cs c h1 h2 => by
    obtain ⟨es, f1, f2⟩ := e2 i cs h1
    obtain ⟨c0, g1, g2⟩ := (decC_get es cs f2).2 j c h2
    obtain ⟨u, k1, k2⟩ := hv i j es c0 f1 g1
    exact ⟨u, k1, hd c0 c u g2 k2⟩
  refine .lit f a cap sz ts (fun i j => (vs[i * sz + j]?).getD undef) (by omega) (fun hne => ha fun e => hne (List.eq_nil_of_length_eq_zero (by rw [e1, e]; rfl))) (fun cs hcs => ?_) (fun i j cs c h1 h2 => ?_) (fun i j cs c h1 h2 => ?_) (fun hf _ ad had => (hno ad had).2 hf)
  · obtain ⟨i, hi⟩ := List.getElem?_of_mem hcs
    obtain ⟨es, f1, f2⟩ := e2 i cs hi
    rw [(decC_get es cs f2).1]
    exact hsz es (List.mem_of_getElem? f1)
  · obtain ⟨u, k1, k2⟩ := key i j cs c h1 h2
    simp only [k1, Option.getD_some]
    exact k2
  · obtain ⟨u, k1, k2⟩ := key i j cs c h1 h2
    obtain ⟨ad, g1, g2⟩ := hcell _ u k1
    simp only [k1, Option.getD_some]
    exact ⟨ad, g1, (hno ad g1).1, g2, hcv u (List.mem_of_getElem? k1)⟩

theorem nil_lit (f : Bool) (w : World) (O' : Nat → Prop) (m' : Maps) (nb nr : Nat) (a : Option Addr) (cap : Nat) : VRel w O' m' nb nr (.slice a 0 cap) (.lit f []) :=
  .lit f a cap 0 [] (fun _ _ => undef) (Nat.zero_le _) (fun h => absurd rfl h) (fun cs h => by simp at h) (fun i j cs c h1 _ => by simp at h1) (fun i j cs c h1 _ => by simp at h1) (fun _ h => absurd rfl h)

/-- What an owned value holds, it holds in any world's eyes that own nothing of it. -/
theorem decF_rel {w : World} {m : Maps} {h : Heap} (H : HRel w m h) {O' : Nat → Prop} {m' : Maps} {nb nr : Nat} (hO : ∀ b, own m h b → ¬ O' b ∧ m'.base ≤ b) (hB : ∀ b, m.base ≤ b → ¬ O' b ∧ m'.base ≤ b) :
    ∀ (n : Nat) (a t : AV) (v : Value), decF h n a = some t → VR w m h v a → VRel w O' m' nb nr v t := by
  intro n
  induction n with
  | zero =>
    intro a t v hd hv
    cases a with
    | int k i => simp only [decF, Option.some.injEq] at hd; subst hd; cases hv; exact .int _ _
    | bool b => simp only [decF, Option.some.injEq] at hd; subst hd; cases hv; exact .bool _
    | str s => simp only [decF, Option.some.injEq] at hd; subst hd; cases hv; exact .str _
    | nils => simp only [decF, Option.some.injEq] at hd; subst hd; cases hv; exact nil_lit ..
    | lit f xs =>
      cases xs with
      | nil => simp only [decF, Option.some.injEq] at hd; subst hd; cases hv; exact nil_lit ..
      | cons x xs => simp only [decF, reduceCtorEq] at hd
    | _ => simp only [decF, reduceCtorEq] at hd
  | succ n ih =>
    intro a t v hd hv
    cases a with
    | int k i => simp only [decF, Option.some.injEq] at hd; subst hd; cases hv; exact .int _ _
    | bool b => simp only [decF, Option.some.injEq] at hd; subst hd; cases hv; exact .bool _
    | str s => simp only [decF, Option.some.injEq] at hd; subst hd; cases hv; exact .str _
    | nils => simp only [decF, Option.some.injEq] at hd; subst hd; cases hv; exact nil_lit ..
    | lit f xs =>
      cases xs with
      | nil => simp only [decF, Option.some.injEq] at hd; subst hd; cases hv; exact nil_lit ..
      | cons x xs =>
        cases f with
        | false => simp only [decF, reduceCtorEq] at hd
        | true =>
          simp only [decF] at hd
          cases h1 : decX (decF h n) (x :: xs) with
          | none => rw [h1] at hd; cases hd
          | some ts =>
            rw [h1] at hd
            simp only [Option.some.injEq] at hd
            subst hd
            have hv0 := hv
            cases hv with
            | lit f a cap sz _ vs hc ha hsz hr hm hf =>
              obtain ⟨a', cap', us, e, f1, f2, f3, f4, f5⟩ := aels_rel (sz := sz) H hv0 rfl hsz
              injection e with e3 _ e4
              subst e3; subst e4
              exact cells_lit true (fun c t v hd hv => ih c t v hd hv) hc ha (fun ad had => ⟨(hB _ (hf rfl (List.cons_ne_nil _ _) ad had)).1, fun _ => (hB _ (hf rfl (List.cons_ne_nil _ _) ad had)).2⟩) hsz f3 f4 f5 h1
    | agg cs =>
      simp only [decF] at hd
      cases h1 : decC (decF h n) cs with
      | none => rw [h1] at hd; cases hd
      | some ts =>
        rw [h1] at hd
        simp only [Option.some.injEq] at hd
        subst hd
        obtain ⟨e1, e2⟩ := decC_get cs ts h1
        cases hv with
        | agg vs _ hs hcv hr =>
          refine .agg vs ts (by rw [hs, e1]) hcv fun j u c h2 h3 => ?_
          obtain ⟨c0, f1, f2⟩ := e2 j c h3
          exact ih c0 c u f2 (hr j u c0 h2 f1)
    | tup cs =>
      simp only [decF] at hd
      cases h1 : decC (decF h n) cs with
      | none => rw [h1] at hd; cases hd
      | some ts =>
        rw [h1] at hd
        simp only [Option.some.injEq] at hd
        subst hd
        obtain ⟨e1, e2⟩ := decC_get cs ts h1
        cases hv with
        | tup vs _ hs hr =>
          refine .tup vs ts (by rw [hs, e1]) fun j u c h2 h3 => ?_
          obtain ⟨c0, f1, f2⟩ := e2 j c h3
          exact ih c0 c u f2 (hr j u c0 h2 f1)
    | ref r off len =>
      simp only [decF] at hd
      cases h0 : aels h (.ref r off len) with
      | none => rw [h0] at hd; cases hd
      | some els =>
        rw [h0] at hd
        simp only at hd
        cases h1 : decX (decF h n) els with
        | none => rw [h1] at hd; cases hd
        | some ts =>
          rw [h1] at hd
          simp only [Option.some.injEq] at hd
          subst hd
          have hg : m.gr r = false := by cases hv with | ref r off len cap h1 hg h2 h3 => exact hg
          have hex : (∃ row, h.rows r = some row) ∧ ∃ sz, ∀ cs ∈ els, cs.length = sz := by
            simp only [aels] at h0
            cases hrx : h.rows r with
            | none => rw [hrx] at h0; cases h0
            | some row =>
              rw [hrx] at h0
              simp only at h0
              split at h0
              · simp only [Option.some.injEq] at h0
                subst h0
                obtain ⟨_, _, _, _, _, _, hels, _⟩ := H.rows r row hg hrx
                exact ⟨⟨row, rfl⟩, row.sz, fun cs hcs => hels cs (List.mem_of_mem_drop (List.mem_of_mem_take hcs))⟩
              · cases h0
          obtain ⟨⟨row, hrow⟩, sz, hsz⟩ := hex
          obtain ⟨a', cap', us, e, f1, f2, f3, f4, f5⟩ := aels_rel (sz := sz) H hv h0 hsz
          have ha : ∃ o, a' = some ⟨(m.row r).blk, o, none⟩ := by
            cases hv with
            | ref => injection e with e3; exact ⟨_, e3.symm⟩
          obtain ⟨o, ha⟩ := ha
          rw [e]
          refine cells_lit true (fun c t v hd hv => ih c t v hd hv) f1 (fun _ => by rw [ha]; exact Option.some_ne_none _) (fun ad had => ?_) hsz f3 f4 f5 h1
          rw [ha] at had
          cases had
          exact ⟨(hO _ (.inr ⟨r, row, hrow, hg, rfl⟩)).1, fun _ => (hO _ (.inr ⟨r, row, hrow, hg, rfl⟩)).2⟩
    | _ => simp only [decF, reduceCtorEq] at hd

theorem FR.lift {f : FuncId} {ts as : List AV} {t : AV} {h : Heap} (R : FR P f ts t) (V : Views h as ts) : PCall P f as h fun r' h' => r' = t ∧ h' = h := by
  refine ⟨R.call.1, fun w m vs H hvs => (R.call.2 w { m with base := w.heap.size } vs (HRel.nil w _ (Nat.le_refl _)) (V.rel H _ as ts vs hvs)).mono fun e w' ⟨v, m', r, h', he, H', hv, T, hr⟩ => ?_⟩
  obtain ⟨G, T'⟩ := H.same T.size (fun b hb => T.frame b hb (own_nil _ b)) T.os T.tape T.output
  have fresh : ∀ b, w.heap.size ≤ b → ¬ own m h b ∧ m.base ≤ b := fun b hb => ⟨fun ho => by have := H.own_lt ho; omega, Nat.le_trans H.base hb⟩
  refine ⟨v, m, t, h, he, G, decF_rel H' (fun b hb => ?_) (fun b hb => fresh b (by rw [T.base] at hb; exact hb)) 9 r t v hr hv, T', rfl, rfl⟩
  refine fresh b ?_
  rcases Nat.lt_or_ge b w.heap.size with hlt | hge
  · exact absurd (T.own b hlt hb) (own_nil _ b)
  · exact hge
theorem guardB_ok {env : List AV} {g : Option (Tmp × Bool)} {y n : Prop} : ∀ b, guardB env g = some b → (b = true → y) → (b = false → n) → aguard env g y n := by
  intro b hb hy hn
  unfold aguard
  unfold guardB at hb
  split
  · simp only [Option.some.injEq] at hb; exact hy hb.symm
  · simp only at hb
    split
    · rename_i b' hb'
      rw [hb'] at hb
      simp only [Option.some.injEq] at hb
      split
      · rename_i hc; rw [if_pos hc] at hb; exact hy hb.symm
      · rename_i hc; rw [if_neg hc] at hb; exact hn hb.symm
    · rename_i hb'
      rw [hb'] at hb
      simp only [Option.some.injEq] at hb
      exact hn hb.symm
    · split at hb <;> simp_all

theorem dops_ok {w0 : World} {m : Maps} {h : Heap} {ops : Array Oper} {Q : Act → Prop} {K : List AV → Prop} (H0 : HRel w0 m h)
    (C : World → Prop) (hC : ∀ w, C w → w.os = w0.os ∧ w.tape = w0.tape ∧ w.output = w0.output ∧ w0.heap.size ≤ w.heap.size ∧ Qw w0 w) (hC2 : ∀ w, (w.os = w0.os ∧ w.tape = w0.tape ∧ w.output = w0.output ∧ w0.heap.size ≤ w.heap.size ∧ Qw w0 w) → C w)
    (hK : ∀ env a, ERel w0 m h a env → K env → Q a) (l : List Oper) : ∀ (al : List AOper), TrOps P ops l al →
    ∀ (env : List AV) (a : Act), ERel w0 m h a env → adops P h al K env → wpQuiet P ops C Q l a := by
  induction l with
  | nil => intro al T env a E A; cases T; exact hK env a E A
  | cons o l ih =>
    intro al T env a E A
    cases T with
    | cons _ ao _ al' To Tl =>
      simp only [adops] at A
      unfold wpQuiet
      rcases guard_ok E To.guard A with ⟨hw, A⟩ | ⟨hw, A⟩
      · rw [if_pos hw]
        have hnext : ∀ v r, VR w0 m h v r → adops P h al' K (aput env ao.dst r) → wpQuiet P ops C Q l (a.put o.dst v) := fun v r V A' => by
          have := E.put o.dst V
          rw [← To.dst] at this ⊢
          exact ih al' Tl _ _ this A'
        have hT := To.op
        have quiet : quietB ao.op = true → ∀ r h', adet env h ao.op = some (r, h') → adops P h al' K (aput env ao.dst r) → o.quiet P a C (wpQuiet P ops C Q l) := fun hq r h' hd A' => by
          obtain ⟨_, v, V, hrun⟩ := quiet_ok H0 E hT hq hd
          refine ⟨v, fun w2 hw2 => ?_, hnext v r V A'⟩
          unfold Oper.quietAt
          rw [hrun w2 (hC w2 hw2).2.2.2.2]
          exact ⟨rfl, rfl⟩
        split at A
        · rename_i f args hop
          obtain ⟨r, ts, R, V, hs, A'⟩ := A
          obtain ⟨v, hv⟩ := Option.isSome_iff_exists.1 hs
          refine ⟨v, fun w2 hw2 => ?_, hnext v r (sca_rel hv _ _ _ _ _) A'⟩
          rw [hop] at hT
          obtain ⟨c1, c2, c3, c4, c5⟩ := hC w2 hw2
          obtain ⟨H2, T2⟩ := H0.same c4 c5 c1 c2 c3
          obtain ⟨dst, mop, ty, pos, aft, gd⟩ := o
          simp only at hT
          cases hT with
          | call c f hc =>
            obtain ⟨fn, g1, g2, g3⟩ := R.call.1
            have hrun : (execOp a.eval ⟨dst, .call c, ty, pos, aft, gd⟩).run P w2 = .ok (.enter f (c.args.map a.eval)) w2 := by
              show (do let d ← resolve a.eval c ty; invoke d.target d.args : Sem Next).run P w2 = _
              have hr : resolve a.eval c ty = pure { target := .fn (.func f) #[], args := #[] ++ c.args.map a.eval } := by
                unfold resolve; simp only [hc]; rfl
              rw [hr]
              show (callFunc f ((#[] ++ c.args.map a.eval) ++ #[])).run P w2 = _
              rw [Array.empty_append, Array.append_empty]
              unfold callFunc
              rw [Sem.run_bind]
              show ((Result.ok P w2).andThen _) = _
              rw [Result.andThen_ok, g1]
              simp only [g3, g2]
              rfl
            unfold Oper.quietAt
            rw [hrun]
            refine ⟨rfl, (ro_calls R hv H2 V ((args_rel E c.args).turn T2)).mono fun e w' ⟨he, d1, d2, d3, d4, d5⟩ => ⟨he, hC2 w' ⟨d1.trans c1, d2.trans c2, d3.trans c3, Nat.le_trans c4 d4, fun b hb => (d5 b (Nat.lt_of_lt_of_le hb c4)).trans (c5 b hb)⟩⟩⟩
        · rename_i hne
          split at A
          · rename_i hq
            split at A
            · rename_i r h' hd
              exact quiet hq r h' hd A
            · exact False.elim A
          · exact False.elim A
      · rw [if_neg (by rw [hw]; decide)]
        have := skip_put E o.dst
        rw [← To.dst] at this ⊢
        exact ih al' Tl _ _ this A

end
end Go.PA
