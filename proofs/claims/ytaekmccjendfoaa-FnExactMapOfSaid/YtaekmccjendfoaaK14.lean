/- All operations that are no call: what the machine does is what the plain operation does. No condition. -/
import Derived.Test.YtaekmccjendfoaaK13
namespace Go.PA
section
variable {P : Program} {w : World} {m : Maps} {h : Heap}

def quietB : AOp → Bool
  | .alloc _ | .box _ | .bslice .. | .store .. | .mks .. | .app .. | .cpy .. | .call .. | .callv .. => false
  | _ => true

def QuietN (P : Program) (w : World) (m : Maps) (h : Heap) (s : Sem Next) (r : AV) : Prop :=
  ∃ v, VR w m h v r ∧ ∀ w2, Qw w w2 → s.run P w2 = .ok (.value v) w2
def LoudN (P : Program) (w : World) (m : Maps) (h : Heap) (s : Sem Next) (r : AV) (h' : Heap) : Prop :=
  ∃ nx v w' m', s.run P w = .ok nx w' ∧ (nx = .value v ∨ (nx = .skip ∧ v = undef)) ∧ HRel w' m' h' ∧ VR w' m' h' v r ∧ Turn w m h w' m' h'

theorem Quiet.next {s : Sem Value} {r : AV} (q : Quiet P w m h s r) : QuietN P w m h (do pure (Next.value (← s)) : Sem Next) r := by
  obtain ⟨v, hv, hs⟩ := q
  exact ⟨v, hv, fun w2 hq => by rw [Sem.run_bind, hs w2 hq]; rfl⟩
theorem QuietN.loud (H : HRel w m h) {s : Sem Next} {r : AV} (q : QuietN P w m h s r) : LoudN P w m h s r h := by
  obtain ⟨v, hv, hs⟩ := q
  exact ⟨_, v, w, m, hs w (Qw.refl w), .inl rfl, H, hv, Turn.refl _ _ _⟩
theorem Loud.next {s : Sem Value} {r : AV} {h' : Heap} (q : Loud P w m h s id r h') : LoudN P w m h (do pure (Next.value (← s)) : Sem Next) r h' := by
  obtain ⟨v, w', m', hs, G, V, T⟩ := q
  exact ⟨.value v, v, w', m', by rw [Sem.run_bind, hs]; rfl, .inl rfl, G, V, T⟩
theorem Loud.skip {s : Sem Unit} {r : AV} {h' : Heap} (q : Loud P w m h s (fun _ => undef) r h') : LoudN P w m h (do s; pure Next.skip : Sem Next) r h' := by
  obtain ⟨v, w', m', hs, G, V, T⟩ := q
  exact ⟨.skip, undef, w', m', by rw [Sem.run_bind, hs]; rfl, .inr ⟨rfl, rfl⟩, G, V, T⟩

theorem execOp_builtin {o : Oper} {c : Call} {b : Builtin} (ho : o.op = .call c) (hc : c.callee = .builtin b) (ρ : Operand → Value) (w2 : World) :
    (execOp ρ o).run P w2 = (builtin b c.argTypes o.type (c.args.map fun | .const _ => true | _ => false) (c.args.map ρ)).run P w2 := by
  obtain ⟨dst, op, ty, pos, aft, gd⟩ := o
  simp only at ho
  subst ho
  show (do let d ← resolve ρ c ty; invoke d.target d.args : Sem Next).run P w2 = _
  have hr : resolve ρ c ty = pure { target := .builtin b c.argTypes ty (c.args.map fun | .const _ => true | _ => false), args := c.args.map ρ } := by
    unfold resolve; simp only [hc]; rfl
  rw [hr]; rfl

theorem args_one {c : Call} {x : Operand} (hx : c.args.toList = [x]) (ρ : Operand → Value) : c.args.map ρ = #[ρ x] := by
  apply Array.ext'
  rw [Array.toList_map, hx]; rfl
theorem args_two {c : Call} {x y : Operand} (hx : c.args.toList = [x, y]) (ρ : Operand → Value) : c.args.map ρ = #[ρ x, ρ y] := by
  apply Array.ext'
  rw [Array.toList_map, hx]; rfl

theorem QuietN.congr {s s' : Sem Next} {r : AV} (q : QuietN P w m h s r) (he : ∀ w2, s'.run P w2 = s.run P w2) : QuietN P w m h s' r := by
  obtain ⟨v, hv, hs⟩ := q
  exact ⟨v, hv, fun w2 hq => by rw [he]; exact hs w2 hq⟩
theorem LoudN.congr {s s' : Sem Next} {r : AV} {h' : Heap} (q : LoudN P w m h s r h') (he : ∀ w2, s'.run P w2 = s.run P w2) : LoudN P w m h s' r h' := by
  obtain ⟨nx, v, w', m', hs, rest⟩ := q
  exact ⟨nx, v, w', m', by rw [he]; exact hs, rest⟩

theorem quiet_ok (H : HRel w m h) {a : Act} {env : List AV} (E : ERel w m h a env) {o : Oper} {op : AOp} (T : TrOp P o.op op) (hq : quietB op = true) {r : AV} {h' : Heap} (hd : adet env h op = some (r, h')) :
    h' = h ∧ QuietN P w m h (execOp a.eval o) r := by
  obtain ⟨dst, mop, ty, pos, aft, gd⟩ := o
  simp only at T
  cases T with
  | mv x => simp only [adet, Option.some.injEq, Prod.mk.injEq] at hd; obtain ⟨rfl, rfl⟩ := hd; exact ⟨rfl, _, E.ev x, fun w2 _ => rfl⟩
  | asg x => simp only [adet, Option.some.injEq, Prod.mk.injEq] at hd; obtain ⟨rfl, rfl⟩ := hd; exact ⟨rfl, _, E.ev x, fun w2 _ => rfl⟩
  | pick c x y =>
    simp only [adet] at hd
    have hc := E.ev c
    have hx := E.ev x
    have hy := E.ev y
    have hrun : ∀ (t : Bool) w2, a.eval c = .bool t → (execOp a.eval ⟨dst, .pick c x y, ty, pos, aft, gd⟩).run P w2 = .ok (.value (if t then a.eval x else a.eval y)) w2 := fun t w2 ht => by
      show (do pure (.value (if ← asBool (a.eval c) then a.eval x else a.eval y)) : Sem Next).run P w2 = _
      rw [ht]; cases t <;> rfl
    generalize aeval env c = ac at hc hd
    generalize hvc : a.eval c = vc at hc
    cases hc with
    | bool t =>
      simp only [Option.some.injEq, Prod.mk.injEq] at hd; obtain ⟨rfl, rfl⟩ := hd
      refine ⟨rfl, if t then a.eval x else a.eval y, ?_, fun w2 _ => hrun t w2 hvc⟩
      cases t
      · exact hy
      · exact hx
    | _ => cases hd
  | alloc e i z hi hz hc => cases hq
  | box e x => cases hq
  | bslice => cases hq
  | store => cases hq
  | mks => cases hq
  | app => cases hq
  | cpy => cases hq
  | call => cases hq
  | callv => cases hq
  | build t i z fs parts ht hi hz hc hf hp =>
    simp only [adet] at hd
    cases hfp : fillP (z.cells.toList.map of1) ((TrP P fs parts.toList).map fun p => (p.1, p.2.1, aeval env p.2.2)) with
    | none => rw [hfp] at hd; cases hd
    | some cs =>
      rw [hfp] at hd
      simp only [Option.some.injEq, Prod.mk.injEq] at hd; obtain ⟨rfl, rfl⟩ := hd
      exact ⟨rfl, ((q_build E hi hz hc).1 fs ht hf hp hfp).next⟩
  | buildA t e i ie z n parts ht hi hz hc he =>
    simp only [adet] at hd
    cases hfp : fillP (z.cells.toList.map of1) ((parts.toList.map fun p => (p.1 * ie.size, ie.size, p.2)).map fun p => (p.1, p.2.1, aeval env p.2.2)) with
    | none => rw [hfp] at hd; cases hd
    | some cs =>
      rw [hfp] at hd
      simp only [Option.some.injEq, Prod.mk.injEq] at hd; obtain ⟨rfl, rfl⟩ := hd
      exact ⟨rfl, ((q_build E hi hz hc).2 n e ie ht he hfp).next⟩
  | load1 t d x ht hd' => obtain ⟨e, q⟩ := q_load (P := P) H E (.load1 t d x ht hd') hd; exact ⟨e, q.next⟩
  | loadA t d i x ht hd' hi => obtain ⟨e, q⟩ := q_load (P := P) H E (.loadA t d i x ht hd' hi) hd; exact ⟨e, q.next⟩
  | nilchk x =>
    simp only [adet] at hd
    have hx := E.ev x
    have hrun : ∀ v w2, a.eval x = v → (match v with | .pointer none | .nilIface | .nilFunc => False | .func (.method _) _ _ => False | _ => True) → (execOp a.eval ⟨dst, .nilCheck x, ty, pos, aft, gd⟩).run P w2 = .ok (.value v) w2 := fun v w2 hv hm => by
      unfold execOp
      simp only [hv]
      split <;> first | (simp only at hm; done) | rfl | simp_all
    generalize aeval env x = ax at hx hd
    generalize hvx : a.eval x = vx at hx
    cases hx with
    | box b off hb hg => simp only [Option.some.injEq, Prod.mk.injEq] at hd; obtain ⟨rfl, rfl⟩ := hd; exact ⟨rfl, _, .box b off hb hg, fun w2 _ => hrun _ w2 hvx trivial⟩
    | rptr rr i off hr hg => simp only [Option.some.injEq, Prod.mk.injEq] at hd; obtain ⟨rfl, rfl⟩ := hd; exact ⟨rfl, _, .rptr rr i off hr hg, fun w2 _ => hrun _ w2 hvx trivial⟩
    | lptr ad cs vs q1 q2 => simp only [Option.some.injEq, Prod.mk.injEq] at hd; obtain ⟨rfl, rfl⟩ := hd; exact ⟨rfl, _, .lptr ad cs vs q1 q2, fun w2 _ => hrun _ w2 hvx trivial⟩
    | fn f vs cs q1 q2 => simp only [Option.some.injEq, Prod.mk.injEq] at hd; obtain ⟨rfl, rfl⟩ := hd; exact ⟨rfl, _, .fn f vs cs q1 q2, fun w2 _ => hrun _ w2 hvx trivial⟩
    | _ => cases hd
  | bin op t x y ty' =>
    simp only [adet] at hd
    cases hb : abin op (aeval env x) (aeval env y) with
    | none => rw [hb] at hd; cases hd
    | some v =>
      rw [hb] at hd
      simp only [Option.some.injEq, Prod.mk.injEq] at hd; obtain ⟨rfl, rfl⟩ := hd
      exact ⟨rfl, (q_bin (t := t) (E.ev x) (E.ev y) x y hb).next⟩
  | beq t x y ty' ht =>
    simp only [adet] at hd
    have hx := E.ev x
    have hy := E.ev y
    generalize aeval env x = ax at hx hd
    generalize hvx : a.eval x = vx at hx
    generalize aeval env y = ay at hy hd
    generalize hvy : a.eval y = vy at hy
    cases hx with
    | bool p =>
      cases hy with
      | bool q =>
        simp only [Option.some.injEq, Prod.mk.injEq] at hd; obtain ⟨rfl, rfl⟩ := hd
        refine ⟨rfl, ?_⟩
        have := (q_beq (P := P) (w := w) (m := m) (h := h) ht false p q x y).next
        refine this.congr fun w2 => ?_
        show (do pure (.value (← (do eqGuard .eql t x y (a.eval x) (a.eval y); binOp .eql t (a.eval x) (a.eval y)))) : Sem Next).run P w2 = _
        rw [hvx, hvy]; rfl
      | _ => cases hd
    | _ => cases hd
  | bne t x y ty' ht =>
    simp only [adet] at hd
    have hx := E.ev x
    have hy := E.ev y
    generalize aeval env x = ax at hx hd
    generalize hvx : a.eval x = vx at hx
    generalize aeval env y = ay at hy hd
    generalize hvy : a.eval y = vy at hy
    cases hx with
    | bool p =>
      cases hy with
      | bool q =>
        simp only [Option.some.injEq, Prod.mk.injEq] at hd; obtain ⟨rfl, rfl⟩ := hd
        refine ⟨rfl, ?_⟩
        have := (q_beq (P := P) (w := w) (m := m) (h := h) ht true p q x y).next
        refine this.congr fun w2 => ?_
        show (do pure (.value (← (do eqGuard .neq t x y (a.eval x) (a.eval y); binOp .neq t (a.eval x) (a.eval y)))) : Sem Next).run P w2 = _
        rw [hvx, hvy]; rfl
      | _ => cases hd
    | _ => cases hd
  | seq t x y ty' fs ks ht hk h1 h2 =>
    simp only [adet] at hd
    have hx := E.ev x
    have hy := E.ev y
    generalize aeval env x = ax at hx hd
    generalize hvx : a.eval x = vx at hx
    generalize aeval env y = ay at hy hd
    generalize hvy : a.eval y = vy at hy
    cases ax <;> try (cases hd; done)
    cases ay <;> try (cases hd; done)
    simp only at hd
    split at hd
    · rename_i hl
      split at hd
      · rename_i b hb
        simp only [Option.some.injEq, Prod.mk.injEq] at hd; obtain ⟨rfl, rfl⟩ := hd
        refine ⟨rfl, ?_⟩
        have := (q_seq (P := P) (w := w) (m := m) (h := h) ht hk h1 h2 hx hy hl.2.2 hb false x y).next
        refine this.congr fun w2 => ?_
        show (do pure (.value (← (do eqGuard .eql t x y (a.eval x) (a.eval y); binOp .eql t (a.eval x) (a.eval y)))) : Sem Next).run P w2 = _
        rw [hvx, hvy]; rfl
      · cases hd
    · cases hd
  | sne t x y ty' fs ks ht hk h1 h2 =>
    simp only [adet] at hd
    have hx := E.ev x
    have hy := E.ev y
    generalize aeval env x = ax at hx hd
    generalize hvx : a.eval x = vx at hx
    generalize aeval env y = ay at hy hd
    generalize hvy : a.eval y = vy at hy
    cases ax <;> try (cases hd; done)
    cases ay <;> try (cases hd; done)
    simp only at hd
    split at hd
    · rename_i hl
      split at hd
      · rename_i b hb
        simp only [Option.some.injEq, Prod.mk.injEq] at hd; obtain ⟨rfl, rfl⟩ := hd
        refine ⟨rfl, ?_⟩
        have := (q_seq (P := P) (w := w) (m := m) (h := h) ht hk h1 h2 hx hy hl.2.2 hb true x y).next
        refine this.congr fun w2 => ?_
        show (do pure (.value (← (do eqGuard .neq t x y (a.eval x) (a.eval y); binOp .neq t (a.eval x) (a.eval y)))) : Sem Next).run P w2 = _
        rw [hvx, hvy]; rfl
      · cases hd
    · cases hd
  | un op t x =>
    simp only [adet] at hd
    cases hb : aun op (aeval env x) with
    | none => rw [hb] at hd; cases hd
    | some v =>
      rw [hb] at hd
      simp only [Option.some.injEq, Prod.mk.injEq] at hd; obtain ⟨rfl, rfl⟩ := hd
      exact ⟨rfl, (q_un (P := P) (E.ev x) hb).next⟩
  | ii s t d k x hs ht =>
    simp only [adet] at hd
    have hx := E.ev x
    generalize aeval env x = ax at hx hd
    generalize hvx : a.eval x = vx at hx
    cases hx with
    | int k' n =>
      simp only [Option.some.injEq, Prod.mk.injEq] at hd; obtain ⟨rfl, rfl⟩ := hd
      refine ⟨rfl, ?_⟩
      have := (q_ii (w := w) (m := m) (h := h) hs ht k' n).next
      refine this.congr fun w2 => ?_
      show (do pure (.value (← convert s t (a.eval x))) : Sem Next).run P w2 = _
      rw [hvx]
    | _ => cases hd
  | b2s s t e x hs he hi ht =>
    simp only [adet] at hd
    cases hel : aels h (aeval env x) with
    | none => rw [hel] at hd; cases hd
    | some xs =>
      rw [hel] at hd
      simp only at hd
      cases hb : bytes1 xs with
      | none => rw [hb] at hd; cases hd
      | some ns =>
        rw [hb] at hd
        simp only [Option.some.injEq, Prod.mk.injEq] at hd; obtain ⟨rfl, rfl⟩ := hd
        exact ⟨rfl, (q_b2s H hs he ht (E.ev x) hel hb).next⟩
  | sl t e i x lo hi' ht hi => obtain ⟨e1, q⟩ := q_sl H E ht hi hd; exact ⟨e1, q.next⟩
  | slstr t x lo hi' ht =>
    simp only [adet] at hd
    have hx := E.ev x
    generalize aeval env x = ax at hx hd
    generalize hvx : a.eval x = vx at hx
    cases hx with
    | str s =>
      simp only at hd
      cases hl : bnd env lo 0 with
      | none => rw [hl] at hd; cases hd
      | some p =>
        rw [hl] at hd
        cases hh : bnd env hi' s.size with
        | none => rw [hh] at hd; cases hd
        | some q =>
          rw [hh] at hd
          simp only at hd
          split at hd
          · rename_i hpq
            simp only [Option.some.injEq, Prod.mk.injEq] at hd; obtain ⟨rfl, rfl⟩ := hd
            refine ⟨rfl, ?_⟩
            have := (q_slstr (w := w) (m := m) (h := h) ht hpq.1 hpq.2.1 hpq.2.2 _ _ (bound_rel E lo 0 p hl) (bound_rel E hi' _ q hh)).next
            refine this.congr fun w2 => ?_
            show (do pure (.value (← Instr.sliceAt t (a.eval x) (lo.map a.eval) (hi'.map a.eval) none)) : Sem Next).run P w2 = _
            rw [hvx]
          · cases hd
    | _ => cases hd
  | fa t fs f i x j ht hf hi hs => obtain ⟨e1, q⟩ := q_fa ht hf hi hs (E.ev x) rfl hd; exact ⟨e1, q.next⟩
  | iaA t e n i x k a ht hi hm => obtain ⟨e1, q⟩ := q_iaA ht hi hm (E.ev x) rfl hd; exact ⟨e1, q.next⟩
  | ia t e i x y ht hi => obtain ⟨e1, q⟩ := q_ia H ht hi (E.ev x) (E.ev y) rfl rfl hd; exact ⟨e1, q.next⟩
  | idx1 t e d i n x y ht hi he hd' hs =>
    simp only [adet] at hd
    have hx := E.ev x
    have hy := E.ev y
    generalize aeval env x = ax at hx hd
    generalize hvx : a.eval x = vx at hx
    generalize aeval env y = ay at hy hd
    generalize hvy : a.eval y = vy at hy
    cases hx with
    | agg vs cs q1 q2 q3 =>
      cases hy with
      | int k z =>
        simp only at hd
        split at hd
        · rename_i hb
          cases ha : aload false 1 (cs.drop (z.toNat * 1)) with
          | none => rw [ha] at hd; cases hd
          | some v =>
            rw [ha] at hd
            simp only [Option.some.injEq, Prod.mk.injEq] at hd; obtain ⟨rfl, rfl⟩ := hd
            refine ⟨rfl, ?_⟩
            rw [Nat.mul_one] at ha
            have hcl : cs.length = n := by rw [hb.2.2, Nat.mul_one]
            have := (q_idx1 ht hi he hd' hs hcl q1 q2 q3 (k := k) hb.1 (by rw [hcl]; exact hb.2.1) ha).next
            refine this.congr fun w2 => ?_
            show (do pure (.value (← Instr.index t (a.eval x) (a.eval y))) : Sem Next).run P w2 = _
            rw [hvx, hvy]
        · cases hd
      | _ => cases hd
    | _ => cases hd
  | idxs t x y ht =>
    simp only [adet] at hd
    have hx := E.ev x
    have hy := E.ev y
    generalize aeval env x = ax at hx hd
    generalize hvx : a.eval x = vx at hx
    generalize aeval env y = ay at hy hd
    generalize hvy : a.eval y = vy at hy
    cases hx with
    | str s =>
      cases hy with
      | int k z =>
        simp only at hd
        split at hd
        · rename_i hb
          simp only [Option.some.injEq, Prod.mk.injEq] at hd; obtain ⟨rfl, rfl⟩ := hd
          refine ⟨rfl, ?_⟩
          have := (q_idxs (w := w) (m := m) (h := h) ht (k := k) hb.1 hb.2).next
          refine this.congr fun w2 => ?_
          show (do pure (.value (← Instr.index t (a.eval x) (a.eval y))) : Sem Next).run P w2 = _
          rw [hvx, hvy]
        · cases hd
      | _ => cases hd
    | _ => cases hd
  | fld1 t fs f d x j ht hf he hd' =>
    simp only [adet] at hd
    have hx := E.ev x
    generalize aeval env x = ax at hx hd
    generalize hvx : a.eval x = vx at hx
    cases hx with
    | agg vs cs q1 q2 q3 =>
      simp only at hd
      cases ha : aload false 1 (cs.drop f.offset) with
      | none => rw [ha] at hd; cases hd
      | some v =>
        rw [ha] at hd
        simp only [Option.some.injEq, Prod.mk.injEq] at hd; obtain ⟨rfl, rfl⟩ := hd
        refine ⟨rfl, ?_⟩
        have := ((q_part he q1 q2 q3 f.offset).1 hd' ha).next
        refine this.congr fun w2 => ?_
        show (do pure (.value (← Instr.field t (a.eval x) j)) : Sem Next).run P w2 = _
        rw [hvx]
        have : ∀ w3, (Instr.field t (.agg vs) j).run P w3 = (part f.type vs f.offset).run P w3 := fun w3 => by
          simp [Instr.field, run_underlying ht, hf, asAgg]
        rw [Sem.run_bind, Sem.run_bind, this]
    | _ => cases hd
  | fldA t fs f d i x j ht hf he hd' hi =>
    simp only [adet] at hd
    have hx := E.ev x
    generalize aeval env x = ax at hx hd
    generalize hvx : a.eval x = vx at hx
    cases hx with
    | agg vs cs q1 q2 q3 =>
      simp only at hd
      cases ha : aload true i.size (cs.drop f.offset) with
      | none => rw [ha] at hd; cases hd
      | some v =>
        rw [ha] at hd
        simp only [Option.some.injEq, Prod.mk.injEq] at hd; obtain ⟨rfl, rfl⟩ := hd
        refine ⟨rfl, ?_⟩
        have := ((q_part he q1 q2 q3 f.offset).2 i hd' hi ha).next
        refine this.congr fun w2 => ?_
        show (do pure (.value (← Instr.field t (a.eval x) j)) : Sem Next).run P w2 = _
        rw [hvx]
        have : ∀ w3, (Instr.field t (.agg vs) j).run P w3 = (part f.type vs f.offset).run P w3 := fun w3 => by
          simp [Instr.field, run_underlying ht, hf, asAgg]
        rw [Sem.run_bind, Sem.run_bind, this]
    | _ => cases hd
  | ext x i =>
    simp only [adet] at hd
    have hx := E.ev x
    generalize aeval env x = ax at hx hd
    generalize hvx : a.eval x = vx at hx
    cases hx with
    | tup vs cs q1 q2 =>
      simp only at hd
      cases hc : cs[i]? with
      | none => rw [hc] at hd; cases hd
      | some c =>
        rw [hc] at hd
        simp only [Option.some.injEq, Prod.mk.injEq] at hd; obtain ⟨rfl, rfl⟩ := hd
        have hlt : i < vs.size := by rw [q1]; exact (List.getElem?_eq_some_iff.1 hc).1
        refine ⟨rfl, vs[i], q2 i _ c (Array.getElem?_eq_getElem hlt) hc, fun w2 _ => ?_⟩
        show (do pure (.value (← Instr.extract (a.eval x) i)) : Sem Next).run P w2 = _
        rw [hvx]
        simp [Instr.extract, Array.getElem?_eq_getElem hlt]
    | _ => cases hd
  | lens c t x hc hx ha ht =>
    obtain ⟨e1, q⟩ := q_len (P := P) (st := true) (by simpa using ht) ha ty (E.ev x) rfl hd
    refine ⟨e1, q.next.congr fun w2 => ?_⟩
    rw [execOp_builtin rfl hc, args_one hx]; rfl
  | len c t e x hc hx ha ht =>
    obtain ⟨e1, q⟩ := q_len (P := P) (st := false) (by simpa using ⟨e, ht⟩) ha ty (E.ev x) rfl hd
    refine ⟨e1, q.next.congr fun w2 => ?_⟩
    rw [execOp_builtin rfl hc, args_one hx]; rfl
  | mn c x y hc hx =>
    simp only [adet] at hd
    have h1 := E.ev x
    have h2 := E.ev y
    generalize aeval env x = ax at h1 hd
    generalize hvx : a.eval x = vx at h1
    generalize aeval env y = ay at h2 hd
    generalize hvy : a.eval y = vy at h2
    cases h1 with
    | int k p =>
      cases h2 with
      | int k' q =>
        simp only at hd
        split at hd
        · rename_i hk
          subst hk
          simp only [Option.some.injEq, Prod.mk.injEq] at hd; obtain ⟨rfl, rfl⟩ := hd
          refine ⟨rfl, (q_mnx (P := P) (w := w) (m := m) (h := h) false k p q c.argTypes ty).next.congr fun w2 => ?_⟩
          rw [execOp_builtin rfl hc, args_two hx, hvx, hvy]; rfl
        · cases hd
      | _ => cases hd
    | _ => cases hd
  | mx c x y hc hx =>
    simp only [adet] at hd
    have h1 := E.ev x
    have h2 := E.ev y
    generalize aeval env x = ax at h1 hd
    generalize hvx : a.eval x = vx at h1
    generalize aeval env y = ay at h2 hd
    generalize hvy : a.eval y = vy at h2
    cases h1 with
    | int k p =>
      cases h2 with
      | int k' q =>
        simp only at hd
        split at hd
        · rename_i hk
          subst hk
          simp only [Option.some.injEq, Prod.mk.injEq] at hd; obtain ⟨rfl, rfl⟩ := hd
          refine ⟨rfl, (q_mnx (P := P) (w := w) (m := m) (h := h) true k p q c.argTypes ty).next.congr fun w2 => ?_⟩
          rw [execOp_builtin rfl hc, args_two hx, hvx, hvy]; rfl
        · cases hd
      | _ => cases hd
    | _ => cases hd
  | mkf f first caps hf =>
    simp only [adet, Option.some.injEq, Prod.mk.injEq] at hd; obtain ⟨rfl, rfl⟩ := hd
    have hf' : first = #[] := Array.ext' (by simpa using hf)
    subst hf'
    refine ⟨rfl, .func (.func f) #[] (caps.map a.eval), ?_, fun w2 _ => by simp [execOp, Instr.makeFunc]⟩
    refine .fn f (caps.map a.eval) (caps.toList.map (aeval env)) (by simp) (fun j v c h1 h2 => ?_)
    rw [Array.getElem?_map] at h1
    rw [List.getElem?_map, Array.getElem?_toList] at h2
    cases hc : caps[j]? with
    | none => rw [hc] at h1; cases h1
    | some x =>
      rw [hc] at h1 h2
      simp only [Option.map_some, Option.some.injEq] at h1 h2
      subst h1; subst h2
      exact E.ev x


/-- Any operation that is no call. -/
theorem det_ok (H : HRel w m h) {a : Act} {env : List AV} (E : ERel w m h a env) {o : Oper} {op : AOp} (T : TrOp P o.op op) {r : AV} {h' : Heap} (hd : adet env h op = some (r, h')) :
    LoudN P w m h (execOp a.eval o) r h' := by
  by_cases hq : quietB op = true
  · obtain ⟨rfl, q⟩ := quiet_ok H E T hq hd
    exact q.loud H
  · obtain ⟨dst, mop, ty, pos, aft, gd⟩ := o
    simp only at T
    cases T with
    | alloc e i z hi hz hc =>
      simp only [adet, Option.some.injEq, Prod.mk.injEq] at hd; obtain ⟨rfl, rfl⟩ := hd
      obtain ⟨w', m', hr, G, V, Tn⟩ := l_box (P := P) H (zero_CR z hc) e
      refine Loud.next (s := Instr.alloc e true (.tuple #[])) ⟨_, w', m', ?_, G, V, Tn⟩
      have hz2 : (zeroValue e).run P w = .ok z w := by simp [zeroValue, typeInfo, hi, hz]
      show (do let zero ← zeroValue e; pure (.pointer (some (← newVar e zero))) : Sem Value).run P w = _
      rw [Sem.run_bind, hz2, Result.andThen_ok, Sem.run_bind]
      show ((newRow e z.cells).run P w).andThen _ = _
      rw [hr]; rfl
    | box e x =>
      simp only [adet] at hd
      cases hac : acells (aeval env x) with
      | none => rw [hac] at hd; cases hd
      | some cs =>
        rw [hac] at hd
        simp only [Option.some.injEq, Prod.mk.injEq] at hd; obtain ⟨rfl, rfl⟩ := hd
        obtain ⟨w', m', hr, G, V, Tn⟩ := l_box (P := P) H (cells_CR (E.ev x) hac) e
        refine Loud.next (s := Instr.box e (a.eval x)) ⟨_, w', m', ?_, G, V, Tn⟩
        show (do pure (.pointer (some (← newVar e (a.eval x)))) : Sem Value).run P w = _
        rw [Sem.run_bind]
        show ((newRow e (a.eval x).cells).run P w).andThen _ = _
        rw [hr]; rfl
    | bslice t e i z n parts ht hi hz hc hs hs0 hn =>
      simp only [adet] at hd
      cases hf : fillE i.size (List.replicate n (z.cells.toList.map of1)) (parts.toList.map fun p => (p.1, aeval env p.2)) with
      | none => rw [hf] at hd; cases hd
      | some el =>
        rw [hf] at hd
        simp only [Option.some.injEq, Prod.mk.injEq] at hd; obtain ⟨rfl, rfl⟩ := hd
        exact (l_bslice H E ht hi hz hc hs hs0 hn hf).next
    | store t i x y hi => exact (l_store H E hi hd).skip
    | mks t e i z x y ht hi hz hc hs hs0 =>
      simp only [adet] at hd
      have h1 := E.ev x
      have h2 := E.ev y
      generalize aeval env x = ax at h1 hd
      generalize hvx : a.eval x = vx at h1
      generalize aeval env y = ay at h2 hd
      generalize hvy : a.eval y = vy at h2
      cases h1 with
      | int k p =>
        cases h2 with
        | int k' q =>
          cases k <;> first | (cases hd; done) | skip
          cases k' <;> first | (cases hd; done) | skip
          simp only at hd
          split at hd
          · rename_i hb
            obtain ⟨b1, rfl, b3, b4⟩ := hb
            simp only [Option.some.injEq, Prod.mk.injEq] at hd; obtain ⟨rfl, rfl⟩ := hd
            refine (l_mks H ht hi hz hc hs hs0 b1 b3 b4).next.congr fun w2 => ?_
            show (do pure (.value (← Instr.makeSlice t (a.eval x) (a.eval y))) : Sem Next).run P w2 = _
            rw [hvx, hvy]
          · cases hd
        | _ => cases k <;> cases hd
      | _ => cases hd
    | app c t u e e' i z x y hc hx ha ht hu hi hz hs hs0 =>
      have ha' : c.argTypes = #[t, u] := Array.ext' (by simpa using ha)
      refine (l_app H E ht hu hi hz hs ty hd).next.congr fun w2 => ?_
      rw [execOp_builtin rfl hc, args_two hx, ha']; rfl
    | cpy c t u e e' i x y hc hx ha ht hu hi hs0 =>
      have ha' : c.argTypes = #[t, u] := Array.ext' (by simpa using ha)
      refine (l_cpy (u := u) H E ht hi hs0 ty hd).next.congr fun w2 => ?_
      rw [execOp_builtin rfl hc, args_two hx, ha']; rfl
    | call c f hc => cases hd
    | callv c x hc => cases hd
    | _ => exact absurd rfl hq

end
end Go.PA
