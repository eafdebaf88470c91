/- The quiet operations, the last: cuts of slices, structs built; and the theorem over all of them. No condition. -/
import Derived.Test.YtaekmccjendfoaaK7
namespace Go.PA
section
variable {P : Program} {w : World} {m : Maps} {h : Heap}

/-- 'splice' of the machine's values. -/
def spliceV : List Value → Nat → List Value → List Value
  | l, _, [] => l
  | l, off, c :: cs => spliceV (l.set off c) (off + 1) cs

theorem run_sl {t e : TypeId} {i : TypeInfo} (ht : P.underlying t = some (.slice e)) (hi : P.info? e = some i) (a : Option Addr) (len cap : Nat) {x y : Int} (h0 : 0 ≤ x) (hxy : x ≤ y) (hy : y ≤ cap) (lo hi' : Option Value)
    (hlo : (lo = none ∧ x = 0) ∨ ∃ k, lo = some (.int k x)) (hhi : (hi' = none ∧ y = len) ∨ ∃ k, hi' = some (.int k y)) (w2 : World) :
    (Instr.sliceAt t (.slice a len cap) lo hi' none).run P w2 = .ok (.slice (if cap = x.toNat then a else a.map (·.add (x.toNat * i.size))) (y.toNat - x.toNat) (cap - x.toNat)) w2 := by
  have hy0 : (0 : Int) ≤ y := by omega
  have hyt : (y.toNat : Int) = y := by omega
  rcases hlo with ⟨rfl, rfl⟩ | ⟨k, rfl⟩ <;> rcases hhi with ⟨rfl, rfl⟩ | ⟨k', rfl⟩ <;>
    simp [Instr.sliceAt, Instr.slice, Instr.sliceBounds, Instr.sliceBound, asIntOf, Sem.run_bind, run_underlying ht, sizeOf, typeInfo, hi, h0, hy, hy0] <;>
    (try simp [hyt, hxy])
  all_goals (intro hcon; omega)

/-- Bounds of a cut. -/
theorem bound_rel {a : Act} {env : List AV} (E : ERel w m h a env) (o : Option Operand) (d n : Int) (hb : bnd env o d = some n) :
    ((o.map a.eval) = none ∧ n = d) ∨ ∃ k, (o.map a.eval) = some (.int k n) := by
  cases o with
  | none => simp only [bnd, Option.some.injEq] at hb; exact .inl ⟨rfl, hb.symm⟩
  | some o =>
    simp only [bnd] at hb
    rw [Option.map_some]
    have := E.ev o
    generalize aeval env o = y at *
    generalize a.eval o = z at *
    unfold intOf? at hb
    split at hb
    · rename_i k x
      simp only [Option.some.injEq] at hb; subst hb
      refine .inr ⟨k, ?_⟩
      cases this; rfl
    · cases hb

theorem q_sl (H : HRel w m h) {a : Act} {env : List AV} (E : ERel w m h a env) {t e : TypeId} {i : TypeInfo} (ht : P.underlying t = some (.slice e)) (hi : P.info? e = some i) {x : Operand} {lo hi' : Option Operand} {r : AV} {h' : Heap}
    (hd : adet env h (.sl i.size x lo hi') = some (r, h')) : h' = h ∧ Quiet P w m h (Instr.sliceAt t (a.eval x) (lo.map a.eval) (hi'.map a.eval) none) r := by
  have hv := E.ev x
  simp only [adet] at hd
  generalize aeval env x = ax at hv hd
  generalize a.eval x = vx at hv ⊢
  cases hv with
  | nils =>
    simp only at hd
    cases hl : bnd env lo 0 with
    | none => rw [hl] at hd; cases hd
    | some p =>
      rw [hl] at hd
      cases hh : bnd env hi' 0 with
      | none => rw [hh] at hd; cases hd
      | some q =>
        rw [hh] at hd
        simp only at hd
        split at hd
        · rename_i hpq
          obtain ⟨rfl, rfl⟩ := hpq
          simp only [Option.some.injEq, Prod.mk.injEq] at hd; obtain ⟨rfl, rfl⟩ := hd
          exact ⟨rfl, .purely .nils fun w2 => by
            rw [run_sl ht hi none 0 0 (Int.le_refl 0) (Int.le_refl 0) (by simp) _ _ (bound_rel E lo 0 0 hl) (bound_rel E hi' 0 0 hh)]; rfl⟩
        · cases hd
  | lit f ad cap sz xs vs hc ha hs hr hm hf =>
    simp only at hd
    cases hl : bnd env lo 0 with
    | none => rw [hl] at hd; cases hd
    | some p =>
      rw [hl] at hd
      cases hh : bnd env hi' xs.length with
      | none => rw [hh] at hd; cases hd
      | some q =>
        rw [hh] at hd
        simp only at hd
        split at hd
        · rename_i hpq
          obtain ⟨h0, h1, h2, h3⟩ := hpq
          simp only [Option.some.injEq, Prod.mk.injEq] at hd; obtain ⟨rfl, rfl⟩ := hd
          have hlen : ((xs.take q.toNat).drop p.toNat).length = q.toNat - p.toNat := by rw [List.length_drop, List.length_take]; omega
          have hget : ∀ (k : Nat) cs, ((xs.take q.toNat).drop p.toNat)[k]? = some cs → xs[p.toNat + k]? = some cs := fun k cs hk => by
            rw [drop_get, List.getElem?_take] at hk
            split at hk
            · exact hk
            · cases hk
          have hszs : xs ≠ [] → sz = i.size := fun hne => by
            obtain ⟨cs, hcs⟩ := List.exists_mem_of_ne_nil _ hne
            rw [← hs cs hcs]
            have := List.all_eq_true.1 h3 cs hcs
            exact eq_of_beq this
          have hrun := run_sl ht hi ad xs.length cap h0 h1 (by omega : q ≤ cap) _ _ (bound_rel E lo 0 p hl) (bound_rel E hi' _ q hh)
          rw [← hlen] at hrun
          refine ⟨rfl, .purely (.lit f _ _ sz _ (fun k j => vs (p.toNat + k) j) (by rw [hlen]; omega) (fun hne => ?_) (fun cs hcs => hs cs (List.mem_of_mem_take (List.mem_of_mem_drop hcs))) (fun k j cs c e1 e2 => hr _ j cs c (hget k cs e1) e2) (fun k j cs c e1 e2 => ?_) (fun hft hne ad' had => ?_)) hrun⟩
          · have hxne : xs ≠ [] := by intro e; subst e; simp at hne
            have := ha hxne
            split
            · exact this
            · cases ad with
              | none => exact absurd rfl this
              | some ad => simp
          · have e3 := hget k cs e1
            obtain ⟨ad', f1, f2, f3, f4⟩ := hm _ j cs c e3 e2
            subst f1
            have hk : k < q.toNat - p.toNat := by rw [← hlen]; exact (List.getElem?_eq_some_iff.1 e1).1
            rw [if_neg (by omega)]
            have hxne : xs ≠ [] := by intro e; subst e; simp at e3
            refine ⟨_, rfl, by rw [add_block]; exact f2, ?_, f4⟩
            rw [add_add, ← hszs hxne, ← Nat.add_assoc, ← Nat.add_mul]; exact f3
          · have hxne : xs ≠ [] := by intro e; subst e; simp at hne
            split at had
            · exact hf hft hxne ad' had
            · cases ad with
              | none => cases had
              | some ad0 =>
                simp only [Option.map_some, Option.some.injEq] at had
                rw [← had, add_block]
                exact hf hft hxne ad0 rfl
        · cases hd
  | ref rr off len cap h1 hg h2 h3 =>
    simp only at hd
    cases hl : bnd env lo 0 with
    | none => rw [hl] at hd; cases hd
    | some p =>
      rw [hl] at hd
      cases hh : bnd env hi' len with
      | none => rw [hh] at hd; cases hd
      | some q =>
        rw [hh] at hd
        simp only at hd
        cases hrx : h.rows rr with
        | none => rw [hrx] at hd; cases hd
        | some row =>
          rw [hrx] at hd
          simp only at hd
          split at hd
          · rename_i hpq
            obtain ⟨h4, h5, h6, h7⟩ := hpq
            obtain ⟨_, _, _, _, hz, _⟩ := H.rows rr row hg hrx
            have hrun := run_sl ht hi (some ⟨(m.row rr).blk, (m.row rr).start + off * (m.row rr).sz, none⟩) len cap h4 h5 (by omega : q ≤ cap) _ _ (bound_rel E lo 0 p hl) (bound_rel E hi' _ q hh)
            simp only [Option.some.injEq, Prod.mk.injEq] at hd; obtain ⟨rfl, rfl⟩ := hd
            refine ⟨rfl, ?_⟩
            split
            · rename_i hpq
              obtain ⟨rfl, _⟩ := hpq
              have := VRel.lit (w := w) (O := own m h) (m := m) (nb := h.boxes.length) (nr := h.next) true (if cap = p.toNat then (some ⟨(m.row rr).blk, (m.row rr).start + off * (m.row rr).sz, none⟩) else (some ⟨(m.row rr).blk, (m.row rr).start + off * (m.row rr).sz, none⟩ : Option Addr).map (·.add (p.toNat * i.size))) (cap - p.toNat) 0 [] (fun _ _ => undef)
                (Nat.zero_le _) (fun hne => absurd rfl hne) (fun cs hcs => by cases hcs) (fun k j cs c e1 _ => by simp at e1) (fun k j cs c e1 _ => by simp at e1) (fun _ hne => absurd rfl hne)
              exact .purely this (fun w2 => by rw [hrun w2, Nat.sub_self]; rfl)
            · rename_i hpq
              have := VRel.ref (w := w) (O := own m h) (m := m) (nb := h.boxes.length) (nr := h.next) rr (off + p.toNat) (q.toNat - p.toNat) (cap - p.toNat) h1 hg (by omega) (by
                rw [show off + p.toNat + (cap - p.toNat) = off + cap by omega]; exact h3)
              refine .purely this (fun w2 => ?_)
              rw [hrun w2]
              have haddr : (if cap = p.toNat then (some ⟨(m.row rr).blk, (m.row rr).start + off * (m.row rr).sz, none⟩ : Option Addr) else (some ⟨(m.row rr).blk, (m.row rr).start + off * (m.row rr).sz, none⟩ : Option Addr).map (·.add (p.toNat * i.size))) =
                  some ⟨(m.row rr).blk, (m.row rr).start + (off + p.toNat) * (m.row rr).sz, none⟩ := by
                have hz' : (m.row rr).sz = i.size := by rw [hz, h7]
                split
                · rename_i hcp
                  have : p = 0 := Classical.byContradiction fun hne => hpq ⟨by omega, hne⟩
                  subst this
                  simp
                · rw [Option.map_some, Addr.add_mid, ← hz', Nat.add_assoc, ← Nat.add_mul]
              rw [haddr]
          · cases hd
  | int k n => cases hd
  | bool b => cases hd
  | str s => cases hd
  | box b off hb hg => cases hd
  | rptr r idx off hr0 hg => cases hd
  | lptr ad cs vs hr hm => cases hd
  | agg vs cs' hs hv' hr => cases hd
  | tup vs cs' hs hr => cases hd
  | fn f vs cs' hs hr => cases hd
  | bad v => cases hd


theorem foldl_set (cs : List Value) : ∀ (l : List Value) (acc : Array Value) (off k : Nat), acc.toList = l → 
    ((cs.zipIdx k).foldl (fun (cs : Array Value) (p : Value × Nat) => cs.setIfInBounds (off + p.2) p.1) acc).toList = spliceV l (off + k) cs := by
  induction cs with
  | nil => intro l acc off k he; simpa [spliceV] using he
  | cons c cs ih =>
    intro l acc off k he
    simp only [List.zipIdx_cons, List.foldl_cons, spliceV]
    rw [Nat.add_assoc off k 1]
    exact ih _ _ off (k + 1) (by simp [he])
end
end Go.PA
