/- The machine's code does what the plain code does. No condition. -/
import Derived.Test.YtaekmccjendfoaaK16Y
namespace Go.PA
inductive TrCode (P : Program) : Code → ACode → Prop
  | skip : TrCode P .skip .skip
  | ops (id : Nat) (ops : Array Oper) (al) (h : TrOps P ops ops.toList al) : TrCode P (.region id ops false) (.ops al)
  | dops (id : Nat) (ops : Array Oper) (al) (h : TrOps P ops ops.toList al) (hm : P.follows .mixedOrders = true) (hB : Region.lexB .any ops = true) : TrCode P (.region id ops true) (.dops al)
  | xops (id : Nat) (cf : Bool) (ops : Array Oper) (l) (h : Stat P cf ops l) (hm : P.follows .mixedOrders = true) : TrCode P (.region id ops true) (.xops cf l)
  | seq (a b a' b') (h : TrCode P a a') (k : TrCode P b b') : TrCode P (.seq a b) (.seq a' b')
  | cond (c a b a' b') (h : TrCode P a a') (k : TrCode P b b') : TrCode P (.cond c a b) (.cond c a' b')
  | block (id a a') (h : TrCode P a a') : TrCode P (.block id a) (.block id a')
  | loop (a a') (h : TrCode P a a') : TrCode P (.loop a) (.loop a')
  | exit (id) : TrCode P (.exit id) (.exit id)
  | ret : TrCode P .ret .ret

def readyL (ops : Array Oper) (done : List Nat) (p : Nat × AOper) : Bool := (edges ops p.1).all fun e => done.contains e
/-- One order: what is not of the chain comes as soon as it may. -/
def orderL (cf : Bool) (ops : Array Oper) : Nat → List Nat → List (Nat × AOper) → List (Nat × AOper)
  | 0, _, _ => []
  | n + 1, done, l => match l.find? (fun p => readyL ops done p && !chainB cf p.2.op) with
    | some p => p :: orderL cf ops n (p.1 :: done) (l.filter fun q => !(q.1 == p.1))
    | none => match l.find? (readyL ops done) with
      | some p => p :: orderL cf ops n (p.1 :: done) (l.filter fun q => !(q.1 == p.1))
      | none => []
/-- Whose places one of the chain must leave alone. -/
def toX (cf : Bool) (ops : Array Oper) : List (Nat × Tmp) → List (Nat × AOper) → List XOp
  | _, [] => []
  | seen, p :: l => ⟨p.1, if chainB cf p.2.op then (seen.filter fun q => !reach ops q.1 ops.size p.1).map (·.2) else [], p.2⟩ :: toX cf ops (match watch p.2 with
    | some t => seen ++ [(p.1, t)]
    | none => seen) l
theorem toX_mem {cf : Bool} {ops : Array Oper} : ∀ (l : List (Nat × AOper)) (seen : List (Nat × Tmp)), ∀ p ∈ toX cf ops seen l, (p.n, p.o) ∈ l
  | [], _, p, h => by cases h
  | q :: l, seen, p, h => by
    simp only [toX] at h
    rcases List.mem_cons.1 h with rfl | h
    · exact List.mem_cons_self
    · exact List.mem_cons_of_mem _ (toX_mem l _ p h)
def numL : Nat → List AOper → List (Nat × AOper)
  | _, [] => []
  | n, o :: l => (n, o) :: numL (n + 1) l
theorem numL_mem {P : Program} {ops : Array Oper} : ∀ {os : List Oper} {al : List AOper} {n : Nat}, TrOps P ops os al → (∀ j, os[j]? = ops[n + j]?) → ∀ p ∈ numL n al, ∃ o, ops[p.1]? = some o ∧ TrOper P ops o p.2 := by
  intro os al n T
  induction T generalizing n with
  | nil => intro _ p h; cases h
  | cons o ao l al h t ih =>
    intro hj p hp
    rcases List.mem_cons.1 hp with rfl | hp
    · exact ⟨o, by simpa using (hj 0).symm, h⟩
    · exact ih (n := n + 1) (fun j => by have := hj (j + 1); simpa [Nat.add_assoc, Nat.add_comm 1 j] using this) p hp
theorem orderL_mem {cf : Bool} {ops : Array Oper} : ∀ (n : Nat) (done : List Nat) (l : List (Nat × AOper)), ∀ p ∈ orderL cf ops n done l, p ∈ l := by
  intro n
  induction n with
  | zero => intro done l p h; cases h
  | succ n ih =>
    intro done l p h
    have sub : ∀ (q : Nat × AOper) d, q ∈ l → p ∈ q :: orderL cf ops n d (l.filter fun x => !(x.1 == q.1)) → p ∈ l := fun q d hq hp => by
      rcases List.mem_cons.1 hp with rfl | hp
      · exact hq
      · exact (List.mem_filter.1 (ih _ _ p hp)).1
    simp only [orderL] at h
    split at h
    · rename_i q hq; exact sub q _ (List.mem_of_find?_eq_some hq) h
    · split at h
      · rename_i q hq; exact sub q _ (List.mem_of_find?_eq_some hq) h
      · cases h
def trCode (P : Program) : Code → Option ACode
  | .skip => some .skip
  | .region _ ops draw => match trOps P ops ops.toList with
    | some al => if draw then
        (if P.follows .mixedOrders = true then
          (if regB true ops (toX true ops [] (orderL true ops ops.size [] (numL 0 al))) = true then some (.xops true (toX true ops [] (orderL true ops ops.size [] (numL 0 al))))
          else if regB false ops (toX false ops [] (orderL false ops ops.size [] (numL 0 al))) = true then some (.xops false (toX false ops [] (orderL false ops ops.size [] (numL 0 al))))
          else if Region.lexB .any ops = true then some (.dops al) else none)
        else none)
      else some (.ops al)
    | none => none
  | .seq a b => match trCode P a with
    | some a' => match trCode P b with
      | some b' => some (.seq a' b')
      | none => none
    | none => none
  | .cond c a b => match trCode P a with
    | some a' => match trCode P b with
      | some b' => some (.cond c a' b')
      | none => none
    | none => none
  | .block id a => match trCode P a with
    | some a' => some (.block id a')
    | none => none
  | .loop a => match trCode P a with
    | some a' => some (.loop a')
    | none => none
  | .exit id => some (.exit id)
  | .ret => some .ret
  | _ => none

theorem trCode_ok (P : Program) (c : Code) : ∀ ac, trCode P c = some ac → TrCode P c ac := by
  induction c with
  | skip => intro ac h; simp only [trCode, Option.some.injEq] at h; subst h; exact .skip
  | region id ops draw =>
    intro ac h
    simp only [trCode] at h
    cases h1 : trOps P ops ops.toList with
    | none => rw [h1] at h; cases h
    | some al =>
      rw [h1] at h
      simp only at h
      cases draw with
      | false => simp only [Bool.false_eq_true, if_false, Option.some.injEq] at h; subst h; exact .ops _ _ _ (trOps_ok P ops _ al h1)
      | true =>
        simp only [if_true] at h
        split at h
        · rename_i hm
          split at h
          · rename_i hr
            simp only [Option.some.injEq] at h; subst h
            exact .xops _ _ _ _ ⟨fun p hp => numL_mem (trOps_ok P ops _ al h1) (fun j => by simp) (p.n, p.o) (orderL_mem _ _ _ _ (toX_mem _ _ p hp)), hr⟩ hm
          · split at h
            · rename_i hr
              simp only [Option.some.injEq] at h; subst h
              exact .xops _ _ _ _ ⟨fun p hp => numL_mem (trOps_ok P ops _ al h1) (fun j => by simp) (p.n, p.o) (orderL_mem _ _ _ _ (toX_mem _ _ p hp)), hr⟩ hm
            split at h
            · rename_i hb
              simp only [Option.some.injEq] at h; subst h
              exact .dops _ _ _ (trOps_ok P ops _ al h1) hm hb
            · cases h
        · cases h
  | seq a b iha ihb =>
    intro ac h
    simp only [trCode] at h
    cases h1 : trCode P a with
    | none => rw [h1] at h; cases h
    | some a' =>
      rw [h1] at h
      simp only at h
      cases h2 : trCode P b with
      | none => rw [h2] at h; cases h
      | some b' => rw [h2] at h; simp only [Option.some.injEq] at h; subst h; exact .seq _ _ _ _ (iha _ h1) (ihb _ h2)
  | cond c a b iha ihb =>
    intro ac h
    simp only [trCode] at h
    cases h1 : trCode P a with
    | none => rw [h1] at h; cases h
    | some a' =>
      rw [h1] at h
      simp only at h
      cases h2 : trCode P b with
      | none => rw [h2] at h; cases h
      | some b' => rw [h2] at h; simp only [Option.some.injEq] at h; subst h; exact .cond _ _ _ _ _ (iha _ h1) (ihb _ h2)
  | block id a iha =>
    intro ac h
    simp only [trCode] at h
    cases h1 : trCode P a with
    | none => rw [h1] at h; cases h
    | some a' => rw [h1] at h; simp only [Option.some.injEq] at h; subst h; exact .block _ _ _ (iha _ h1)
  | loop a iha =>
    intro ac h
    simp only [trCode] at h
    cases h1 : trCode P a with
    | none => rw [h1] at h; cases h
    | some a' => rw [h1] at h; simp only [Option.some.injEq] at h; subst h; exact .loop _ _ (iha _ h1)
  | exit id => intro ac h; simp only [trCode, Option.some.injEq] at h; subst h; exact .exit _
  | ret => intro ac h; simp only [trCode, Option.some.injEq] at h; subst h; exact .ret
  | _ => intro ac h; simp [trCode] at h

section
variable {P : Program}
/-- The machine's post. -/
def Meets (w0 : World) (m0 : Maps) (h0 : Heap) (Q : AExit → ASt → Prop) : Exit → Act → World → Prop
  | .normal, a, w => ∃ st m, ERel w m st.heap a st.env ∧ HRel w m st.heap ∧ Turn w0 m0 h0 w m st.heap ∧ Q .normal st
  | .exit id, a, w => ∃ st m, ERel w m st.heap a st.env ∧ HRel w m st.heap ∧ Turn w0 m0 h0 w m st.heap ∧ Q (.exit id) st
  | .ret, a, w => ∃ st m, ERel w m st.heap a st.env ∧ HRel w m st.heap ∧ Turn w0 m0 h0 w m st.heap ∧ Q .ret st
  | _, _, _ => False

/-- A loop of the machine from its body on. -/
def LoopAt (P : Program) (c : Code) (Q : Exit → Act → World → Prop) (a : Act) (w : World) : Prop :=
  ∀ (b : Frame) (k : List Item) (cs : List Frame), ∃ e a' w', Q e a' w' ∧ Arrives P (lone (b.at a (.code c :: .inLoop c :: k)) cs w) b k cs e a' w'
theorem loop_of_at {c : Code} {Q : Exit → Act → World → Prop} {a : Act} {w : World} (h : LoopAt P c Q a w) : (Code.loop c).wp P Q a w :=
  fun b k cs => let ⟨e, a', w', q, r⟩ := h b k cs; ⟨e, a', w', q, .of_steps (.one step_loop) r⟩
theorem loopAt_step {c : Code} {Q : Exit → Act → World → Prop} {a : Act} {w : World} (h : c.wp P (Exit.then (LoopAt P c Q) Q) a w) : LoopAt P c Q a w := by
  intro b k cs
  obtain ⟨e, a₁, w₁, hq, harr⟩ := h b (.inLoop c :: k) cs
  cases e with
  | normal =>
    obtain ⟨e₂, a₂, w₂, hq₂, harr₂⟩ := hq b k cs
    exact ⟨e₂, a₂, w₂, hq₂, .of_steps (Steps.trans harr (.one step_inLoop)) harr₂⟩
  | exit id => exact ⟨_, a₁, w₁, hq, .pass (x := .inLoop c) rfl (fun _ _ => .inl (by simp)) harr⟩
  | goto l => exact ⟨_, a₁, w₁, hq, .pass (x := .inLoop c) rfl (fun _ _ => .inl (by simp)) harr⟩
  | ret => exact ⟨_, a₁, w₁, hq, .pass (x := .inLoop c) rfl (fun _ _ => .inl (by simp)) harr⟩
  | panic ch => exact ⟨_, a₁, w₁, hq, .pass (x := .inLoop c) rfl (fun _ _ => .inl (by simp)) harr⟩
  | outgrown => exact ⟨_, a₁, w₁, hq, .pass (x := .inLoop c) rfl (fun _ _ => .inl (by simp)) harr⟩

theorem code_ok {w0 : World} {m0 : Maps} {h0 : Heap} {c : Code} {ac : ACode} (T : TrCode P c ac) : ∀ {Q : AExit → ASt → Prop} {st : ASt} {a : Act} {w : World} {m : Maps},
    ERel w m st.heap a st.env → HRel w m st.heap → Turn w0 m0 h0 w m st.heap → acode P ac Q st → c.wp P (Meets w0 m0 h0 Q) a w := by
  induction T with
  | skip => intro Q st a w m E H Tn A; exact wp_skip ⟨st, m, E, H, Tn, A⟩
  | ops id ops al hT =>
    intro Q st a w m E H Tn A
    exact wp_region_list (ops_ok (K := fun env h => Q .normal ⟨env, h⟩) (fun env h a w m E H Tn A => ⟨⟨env, h⟩, m, E, H, Tn, A⟩) _ _ hT _ _ a w m E H Tn A)
  | dops id ops al hT hm hB =>
    intro Q st a w m E H Tn A
    refine wp_region_quiet (C := fun w2 => w2.os = w.os ∧ w2.tape = w.tape ∧ w2.output = w.output ∧ w.heap.size ≤ w2.heap.size ∧ Qw w w2) hm hB ⟨rfl, rfl, rfl, Nat.le_refl _, fun _ _ => rfl⟩ ?_
    refine dops_ok (K := fun env => Q .normal ⟨env, st.heap⟩) H _ (fun _ h => h) (fun _ h => h) (fun env a' E' A' w' hw' => ?_) _ _ hT _ a E A
    obtain ⟨c1, c2, c3, c4, c5⟩ := hw'
    obtain ⟨H2, T2⟩ := H.same c4 c5 c1 c2 c3
    exact ⟨⟨env, st.heap⟩, m, E'.turn T2, H2, Tn.trans T2, A'⟩
  | xops id cf ops l hS hm =>
    intro Q st a w m E H Tn A
    exact xops_ok hS hm (K := fun env h => Q .normal ⟨env, h⟩) (fun env h a w m E H Tn A => ⟨⟨env, h⟩, m, E, H, Tn, A⟩) E H Tn A
  | seq x y x' y' _ _ ihx ihy =>
    intro Q st a w m E H Tn A
    refine wp_seq (Code.wp_mono (fun e a w he => ?_) (ihx E H Tn A))
    cases e with
    | normal => obtain ⟨st', m', E', H', T', A'⟩ := he; exact ihy E' H' T' A'
    | exit id => exact he
    | ret => exact he
    | _ => exact False.elim he
  | cond c x y x' y' _ _ ihx ihy =>
    intro Q st a w m E H Tn A
    simp only [acode] at A
    have hc := E.ev c
    split at A
    · rename_i t ht
      rw [ht] at hc
      generalize hv : a.eval c = v at hc
      cases hc
      refine wp_cond hv ?_
      cases t with
      | true => exact ihx E H Tn A
      | false => exact ihy E H Tn A
    · exact False.elim A
  | block id x x' _ ihx =>
    intro Q st a w m E H Tn A
    refine wp_block (Code.wp_mono (fun e a w he => ?_) (ihx E H Tn A))
    cases e with
    | normal => exact he
    | exit j =>
      obtain ⟨st', m', E', H', T', A'⟩ := he
      simp only [Exit.inBlock]
      split
      · rename_i hj; simp only [hj, if_true] at A'; exact ⟨st', m', E', H', T', A'⟩
      · rename_i hj; simp only [hj, if_false] at A'; exact ⟨st', m', E', H', T', A'⟩
    | ret => exact he
    | _ => exact False.elim he
  | loop x x' _ ihx =>
    intro Q st a w m E H Tn A
    refine loop_of_at ?_
    refine A (fun st => ∀ a w m, ERel w m st.heap a st.env → HRel w m st.heap → Turn w0 m0 h0 w m st.heap → LoopAt P x (Meets w0 m0 h0 Q) a w) (fun st hst a w m E H Tn => ?_) a w m E H Tn
    refine loopAt_step (Code.wp_mono (fun e a w he => ?_) (ihx E H Tn hst))
    cases e with
    | normal => obtain ⟨st', m', E', H', T', A'⟩ := he; exact A' a w m' E' H' T'
    | exit id => exact he
    | ret => exact he
    | _ => exact False.elim he
  | exit id => intro Q st a w m E H Tn A; exact wp_exit ⟨st, m, E, H, Tn, A⟩
  | ret => intro Q st a w m E H Tn A; exact wp_ret ⟨st, m, E, H, Tn, A⟩

end
end Go.PA
