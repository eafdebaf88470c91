/- New lists and variables, apart from where the plain heap holds them; rows and boxes that the plain heap holds before the machine does. No condition. -/
import Derived.Test.YtaekmccjendfoaaK14
namespace Go.PA
section
variable {P : Program} {w w' : World} {m : Maps} {h : Heap}

/-- A new block. -/
structure Blk (w w' : World) (m : Maps) (h : Heap) (sz : Nat) (el : List (List AV)) : Prop where
  q : Qw w w'
  os : w'.os = w.os
  tape : w'.tape = w.tape
  output : w'.output = w.output
  size : w.heap.size ≤ w'.heap.size
  new : ∃ vs T, w'.heap[w.heap.size]? = some (.cells vs T (0, 0)) ∧ vs.size = el.length * sz ∧ (∀ cs ∈ el, cs.length = sz) ∧
    ∀ (i j : Nat) cs c, el[i]? = some cs → cs[j]? = some c → ∃ v, vs[i * sz + j]? = some v ∧ cellV v = true ∧ VR w m h v c

theorem Blk.of_CR {vs : Array Value} {cs : List AV} (U : CR w m h vs.toList cs) (e : TypeId) : Blk w (w.alloc (.cells vs e)) m h cs.length [cs] :=
  ⟨fun b hb => heap_push_old w _ b hb, rfl, rfl, rfl, heap_push_size w _, vs, e, heap_push_new w _, by have := U.1; simp at this ⊢; exact this, fun c hc => by simp at hc; rw [hc], fun i j c x h1 h2 => by
    cases i with
    | zero =>
      simp at h1; subst h1
      have hlt : j < vs.size := by
        have := (List.getElem?_eq_some_iff.1 h2).1
        have h3 := U.1
        simp at h3; omega
      refine ⟨vs[j], by simp [hlt], U.2.1 _ (by simp), U.2.2 j _ x (by simp [hlt]) h2⟩
    | succ i => simp at h1⟩
theorem Blk.of_row {us : Array Value} {el : List (List AV)} {sz : Nat} (hu : us.size = el.length * sz) (R : ER w m h us.toList 0 sz el) (e : TypeId) : Blk w (w.alloc (.cells us e)) m h sz el :=
  ⟨fun b hb => heap_push_old w _ b hb, rfl, rfl, rfl, heap_push_size w _, us, e, heap_push_new w _, hu, R.2.1, fun i j cs c h1 h2 => by
    obtain ⟨v, e1, e2, e3⟩ := R.2.2 i j cs c h1 h2
    exact ⟨v, by simpa using e1, e2, e3⟩⟩

def floatB : AOp → Bool
  | .alloc _ | .box _ | .bslice _ _ _ _ | .mks _ _ _ _ _ => true
  | _ => false
/-- What a new list or variable is, whatever plain heap it is told of. -/
theorem float_run {a : Act} {env : List AV} (E : ERel w m h a env) {o : Oper} {op : AOp} (T : TrOp P o.op op) (hf : floatB op = true) {hk hk' : Heap} {r : AV} (hd : adet env hk op = some (r, hk')) :
    ∃ v w', (execOp a.eval o).run P w = .ok (.value v) w' ∧
      ((∃ cs, r = .box hk.boxes.length 0 ∧ hk' = { hk with boxes := hk.boxes ++ [cs] } ∧ v = .pointer (some ⟨w.heap.size, 0, none⟩) ∧ Blk w w' m h cs.length [cs]) ∨
       ∃ sz el, r = .ref hk.next 0 el.length ∧ hk' = { hk with rows := upd hk.rows hk.next (some ⟨sz, el⟩), next := hk.next + 1 } ∧ v = .slice (some ⟨w.heap.size, 0, none⟩) el.length el.length ∧ Blk w w' m h sz el) := by
  obtain ⟨dst, mop, ty, pos, aft, gd⟩ := o
  simp only at T
  cases T with
  | alloc e i z hi hz hc =>
    simp only [adet, Option.some.injEq, Prod.mk.injEq] at hd; obtain ⟨rfl, rfl⟩ := hd
    refine ⟨_, _, ?_, .inl ⟨_, rfl, rfl, rfl, Blk.of_CR (zero_CR z hc) e⟩⟩
    have hz2 : (zeroValue e).run P w = .ok z w := by simp [zeroValue, typeInfo, hi, hz]
    show (do pure (Next.value (← (do let zero ← zeroValue e; pure (.pointer (some (← newVar e zero))) : Sem Value))) : Sem Next).run P w = _
    rw [Sem.run_bind, Sem.run_bind, hz2, Result.andThen_ok, Sem.run_bind]
    rfl
  | box e x =>
    simp only [adet] at hd
    cases hac : acells (aeval env x) with
    | none => rw [hac] at hd; cases hd
    | some cs =>
      rw [hac] at hd
      simp only [Option.some.injEq, Prod.mk.injEq] at hd; obtain ⟨rfl, rfl⟩ := hd
      refine ⟨_, _, ?_, .inl ⟨_, rfl, rfl, rfl, Blk.of_CR (cells_CR (E.ev x) hac) e⟩⟩
      show (do pure (Next.value (← (do pure (.pointer (some (← newVar e (a.eval x)))) : Sem Value))) : Sem Next).run P w = _
      rw [Sem.run_bind, Sem.run_bind]
      rfl
  | bslice t e i z n parts ht hi hz hc hs hs0 hn =>
    simp only [adet] at hd
    cases hf : fillE i.size (List.replicate n (z.cells.toList.map of1)) (parts.toList.map fun p => (p.1, aeval env p.2)) with
    | none => rw [hf] at hd; cases hd
    | some el =>
      rw [hf] at hd
      simp only [Option.some.injEq, Prod.mk.injEq] at hd; obtain ⟨rfl, rfl⟩ := hd
      obtain ⟨Z, Zc⟩ := zeros_ER (w := w) (m := m) (h := h) (n := n) hc hs hs0
      obtain ⟨us, f1, f2, f3, f4, f5⟩ := fillE_ER E i.size parts.toList _ _ el Z hf
      have hel : el.length = n := by rw [f4, List.length_replicate]
      have hus : us.size = el.length * i.size := by rw [f3, hel]; simp
      have hparts : (parts.map fun (i, x) => (i, a.eval x)).toList = parts.toList.map fun p => (p.1, a.eval p.2) := by simp
      have hrun : (Instr.buildSlice t n (parts.map fun (i, x) => (i, a.eval x))).run P w = .ok (.slice (some ⟨w.heap.size, 0, none⟩) n n) (w.alloc (.cells us e)) := by
        unfold Instr.buildSlice
        rw [Sem.run_bind, run_underlying ht, Result.andThen_ok]
        dsimp only
        have h1 : (sizeOf e).run P w = .ok i.size w := by simp [sizeOf, typeInfo, hi]
        rw [Sem.run_bind, h1, Result.andThen_ok]
        have hn' : ¬ (n * i.size > 2 ^ 24) := by omega
        rw [if_neg hn']
        by_cases h0 : n * i.size = 0
        · have hn0 : n = 0 := by
            rcases Nat.mul_eq_zero.1 h0 with h0 | h0
            · exact h0
            · omega
          subst hn0
          have hr0 : Array.range (0 * i.size) = #[] := by rw [Nat.zero_mul]; rfl
          rw [hr0, Array.map_empty] at f1
          simp only [Nat.zero_mul, if_true, hparts]
          rw [Sem.run_bind]
          show ((Result.ok (#[] : Array Value) w).andThen _) = _
          rw [Result.andThen_ok]
          have hr1 : Array.range 0 = #[] := rfl
          rw [hr1, Array.map_empty, f1]
          rfl
        · have hz2 : (zeroValue e).run P w = .ok z w := by simp [zeroValue, typeInfo, hi, hz]
          simp only [h0, if_false, hparts]
          rw [Sem.run_bind]
          rw [hz2, Result.andThen_ok, Sem.run_bind]
          show ((Result.ok z.cells w).andThen _) = _
          rw [Result.andThen_ok, f1]
          rfl
      refine ⟨_, _, ?_, .inr ⟨i.size, el, by rw [hel], rfl, rfl, Blk.of_row hus f2 e⟩⟩
      rw [hel]
      show (do pure (Next.value (← Instr.buildSlice t n (parts.map fun (i, x) => (i, a.eval x)))) : Sem Next).run P w = _
      rw [Sem.run_bind, hrun]; rfl
  | mks t e i z x y ht hi hz hc hs hs0 =>
    simp only [adet] at hd
    have h1 := E.ev x
    have h2 := E.ev y
    generalize aeval env x = ax at h1 hd
    generalize hvx : a.eval x = vx at h1
    generalize aeval env y = ay at h2 hd
    generalize hvy : a.eval y = vy at h2
    cases h1 with
    | int k p =>
      cases h2 with
      | int k' q =>
        cases k <;> first | (cases hd; done) | skip
        cases k' <;> first | (cases hd; done) | skip
        simp only at hd
        split at hd
        · rename_i hb
          obtain ⟨b1, rfl, b3, b4⟩ := hb
          simp only [Option.some.injEq, Prod.mk.injEq] at hd; obtain ⟨rfl, rfl⟩ := hd
          have hrun := run_make (P := P) w t e i z ht hi hz .i64 .i64 p p b1 (Int.le_refl _) b3 (by omega)
          obtain ⟨Z, Zc⟩ := zeros_ER (w := w) (m := m) (h := h) (n := p.toNat) hc hs hs0
          have hlr : (List.replicate p.toNat (z.cells.toList.map of1)).length = p.toNat := List.length_replicate
          refine ⟨_, _, ?_, .inr ⟨i.size, List.replicate p.toNat (z.cells.toList.map of1), by rw [hlr], rfl, rfl, Blk.of_row (us := madeCells z.cells (p.toNat * i.size)) ?_ Z e⟩⟩
          · rw [hlr]
            show (do pure (Next.value (← Instr.makeSlice t (a.eval x) (a.eval y))) : Sem Next).run P w = _
            rw [hvx, hvy, Sem.run_bind, hrun]; rfl
          · rw [hlr]; simp [madeCells]
        · cases hd
      | _ => cases k <;> cases hd
    | _ => cases hd
  | _ => cases hf

/-- The machine makes what the plain heap holds already. -/
theorem HRel.row_ghost (H : HRel w m h) {g : Nat} (hg : m.gr g = true) {sz : Nat} {el : List (List AV)} (hr : h.rows g = some ⟨sz, el⟩) (B : Blk w w' m h sz el) :
    HRel w' (m.setRow g ⟨w.heap.size, 0, sz, el.length * sz⟩) h ∧ (∀ u a, VR w m h u a → VR w' (m.setRow g ⟨w.heap.size, 0, sz, el.length * sz⟩) h u a) ∧
    (∀ w0 m0 h0, Turn w0 m0 h0 w m h → h0.next ≤ g → Turn w0 m0 h0 w' (m.setRow g ⟨w.heap.size, 0, sz, el.length * sz⟩) h) ∧
    VR w' (m.setRow g ⟨w.heap.size, 0, sz, el.length * sz⟩) h (.slice (some ⟨w.heap.size, 0, none⟩) el.length el.length) (.ref g 0 el.length) := by
  generalize hm' : m.setRow g ⟨w.heap.size, 0, sz, el.length * sz⟩ = m'
  have rne : ∀ r, r ≠ g → m'.row r = m.row r ∧ m'.gr r = m.gr r := fun r hn => by subst hm'; simp [Maps.setRow, hn]
  have req : m'.row g = ⟨w.heap.size, 0, sz, el.length * sz⟩ ∧ m'.gr g = false := by subst hm'; simp [Maps.setRow]
  have hbx : m'.box = m.box ∧ m'.gb = m.gb ∧ m'.base = m.base := by subst hm'; exact ⟨rfl, rfl, rfl⟩
  obtain ⟨hbx, hgb, hbase⟩ := hbx
  have down : ∀ b, b < w.heap.size → own m' h b → own m h b := fun b hb ho => by
    rcases ho with ⟨i, hi, h1, e⟩ | ⟨r, row, hr', h1, e⟩
    · rw [hbx] at e; rw [hgb] at h1; exact .inl ⟨i, hi, h1, e⟩
    · by_cases hrg : r = g
      · subst hrg; rw [req.1] at e; have e : w.heap.size = b := e; omega
      · rw [(rne r hrg).1] at e; rw [(rne r hrg).2] at h1; exact .inr ⟨r, row, hr', h1, e⟩
  have conv : ∀ u a, VR w m h u a → VR w' m' h u a := fun u a H => H.mono (fun b hb _ => B.q b hb) (fun b hb hn ho => hn (down b hb ho)) (fun i _ h1 => ⟨by rw [hbx], by rw [hgb]; exact h1⟩)
    (fun r _ h1 => by
      have hn : r ≠ g := fun e => by subst e; rw [hg] at h1; cases h1
      exact ⟨(rne r hn).1, by rw [(rne r hn).2]; exact h1⟩) (Nat.le_refl _) (Nat.le_refl _) (Nat.le_of_eq hbase)
  refine ⟨⟨fun i cs h1 hi => ?_, fun r row h1 hr' => ?_, H.lt, fun i j h1 h2 hi hj e => ?_, fun i r row h1 h2 hi hr' => ?_, fun r r' row row' h1 h2 hr1 hr2 e => ?_, by rw [hbase]; exact Nat.le_trans H.base B.size⟩, conv, fun w0 m0 h0 T hge => ?_, ?_⟩
  · rw [hgb] at h1
    obtain ⟨vs, T, e, hs, hv⟩ := H.boxes i cs h1 hi
    exact ⟨vs, T, by rw [hbx, B.q _ (H.lt_box h1 (List.getElem?_eq_some_iff.1 hi).1)]; exact e, hs, fun j v c g1 g2 => ⟨(hv j v c g1 g2).1, conv _ _ (hv j v c g1 g2).2⟩⟩
  · by_cases hrg : r = g
    · subst hrg
      rw [hr] at hr'; simp only [Option.some.injEq] at hr'; subst hr'
      obtain ⟨vs, T, e, hs, hels, hv⟩ := B.new
      rw [req.1]
      refine ⟨vs, T, e, hs, rfl, by rw [hs]; simp, hels, fun i j cs c g1 g2 => ?_⟩
      obtain ⟨v, e1, e2, e3⟩ := hv i j cs c g1 g2
      exact ⟨v, by rw [Nat.zero_add]; exact e1, e2, conv _ _ e3⟩
    · rw [(rne r hrg).2] at h1
      obtain ⟨vs, T, e, hs, hz, hle, hels, hv⟩ := H.rows r row h1 hr'
      rw [(rne r hrg).1]
      refine ⟨vs, T, by rw [B.q _ (H.lt_row h1 hr')]; exact e, hs, hz, hle, hels, fun i j cs c g1 g2 => ?_⟩
      obtain ⟨v, e1, e2, e3⟩ := hv i j cs c g1 g2
      exact ⟨v, e1, e2, conv _ _ e3⟩
  · rw [hgb] at h1 h2; rw [hbx] at e; exact H.bb i j h1 h2 hi hj e
  · rw [hgb] at h1; rw [hbx]
    by_cases hrg : r = g
    · subst hrg; rw [req.1]; have := H.lt_box h1 hi; exact Nat.ne_of_lt this
    · rw [(rne r hrg).2] at h2; rw [(rne r hrg).1]; exact H.br i r row h1 h2 hi hr'
  · by_cases a1 : r = g <;> by_cases a2 : r' = g
    · rw [a1, a2]
    · subst a1; rw [req.1, (rne r' a2).1] at e; rw [(rne r' a2).2] at h2
      have := H.lt_row h2 hr2; have e : w.heap.size = (m.row r').blk := e; omega
    · subst a2; rw [req.1, (rne r a1).1] at e; rw [(rne r a1).2] at h1
      have := H.lt_row h1 hr1; have e : (m.row r).blk = w.heap.size := e; omega
    · rw [(rne r a1).1, (rne r' a2).1] at e; rw [(rne r a1).2] at h1; rw [(rne r' a2).2] at h2
      exact H.rr r r' row row' h1 h2 hr1 hr2 e
  · exact ⟨B.os.trans T.os, B.tape.trans T.tape, B.output.trans T.output, Nat.le_trans T.size B.size, fun b hb hn => (B.q b (Nat.lt_of_lt_of_le hb T.size)).trans (T.frame b hb hn), fun b hb ho => T.own b hb (down b (Nat.lt_of_lt_of_le hb T.size) ho),
      fun i hi => by rw [hbx]; exact T.box i hi, fun r hr => by rw [(rne r (by omega)).1]; exact T.row r hr, T.nb, T.nr, hbase.trans T.base, fun i hi => by rw [hgb]; exact T.gb i hi, fun r hr => by rw [(rne r (by omega)).2]; exact T.gr r hr⟩
  · have := VRel.ref (w := w') (O := own m' h) (m := m') (nb := h.boxes.length) (nr := h.next) g 0 el.length el.length (H.lt g _ hr) req.2 (Nat.le_refl _) (by rw [req.1]; simp)
    rw [req.1] at this
    simpa using this

theorem HRel.box_ghost (H : HRel w m h) {g : Nat} (hg : m.gb g = true) {cs : List AV} (hr : h.boxes[g]? = some cs) (B : Blk w w' m h cs.length [cs]) :
    HRel w' (m.setBox g w.heap.size) h ∧ (∀ u a, VR w m h u a → VR w' (m.setBox g w.heap.size) h u a) ∧
    (∀ w0 m0 h0, Turn w0 m0 h0 w m h → h0.boxes.length ≤ g → Turn w0 m0 h0 w' (m.setBox g w.heap.size) h) ∧
    VR w' (m.setBox g w.heap.size) h (.pointer (some ⟨w.heap.size, 0, none⟩)) (.box g 0) := by
  generalize hm' : m.setBox g w.heap.size = m'
  have rne : ∀ r, r ≠ g → m'.box r = m.box r ∧ m'.gb r = m.gb r := fun r hn => by subst hm'; simp [Maps.setBox, hn]
  have req : m'.box g = w.heap.size ∧ m'.gb g = false := by subst hm'; simp [Maps.setBox]
  have hbx : m'.row = m.row ∧ m'.gr = m.gr ∧ m'.base = m.base := by subst hm'; exact ⟨rfl, rfl, rfl⟩
  obtain ⟨hbx, hgb, hbase⟩ := hbx
  have hgl : g < h.boxes.length := (List.getElem?_eq_some_iff.1 hr).1
  have down : ∀ b, b < w.heap.size → own m' h b → own m h b := fun b hb ho => by
    rcases ho with ⟨r, hr', h1, e⟩ | ⟨i, row, hi, h1, e⟩
    · by_cases hrg : r = g
      · subst hrg; rw [req.1] at e; omega
      · rw [(rne r hrg).1] at e; rw [(rne r hrg).2] at h1; exact .inl ⟨r, hr', h1, e⟩
    · rw [hbx] at e; rw [hgb] at h1; exact .inr ⟨i, row, hi, h1, e⟩
  have conv : ∀ u a, VR w m h u a → VR w' m' h u a := fun u a H => H.mono (fun b hb _ => B.q b hb) (fun b hb hn ho => hn (down b hb ho)) (fun r _ h1 => by
      have hn : r ≠ g := fun e => by subst e; rw [hg] at h1; cases h1
      exact ⟨(rne r hn).1, by rw [(rne r hn).2]; exact h1⟩) (fun i _ h1 => ⟨by rw [hbx], by rw [hgb]; exact h1⟩) (Nat.le_refl _) (Nat.le_refl _) (Nat.le_of_eq hbase)
  refine ⟨⟨fun i cs' h1 hi => ?_, fun r row h1 hr' => ?_, H.lt, fun i j h1 h2 hi hj e => ?_, fun i r row h1 h2 hi hr' => ?_, fun r r' row row' h1 h2 hr1 hr2 e => ?_, by rw [hbase]; exact Nat.le_trans H.base B.size⟩, conv, fun w0 m0 h0 T hge => ?_, ?_⟩
  · by_cases hrg : i = g
    · subst hrg
      rw [hr] at hi; simp only [Option.some.injEq] at hi; subst hi
      obtain ⟨vs, T, e, hs, hels, hv⟩ := B.new
      rw [req.1]
      refine ⟨vs, T, e, by simpa using hs, fun j v c g1 g2 => ?_⟩
      obtain ⟨v', e1, e2, e3⟩ := hv 0 j cs c rfl g2
      rw [Nat.zero_mul, Nat.zero_add, g1] at e1
      simp only [Option.some.injEq] at e1; subst e1
      exact ⟨e2, conv _ _ e3⟩
    · rw [(rne i hrg).2] at h1
      obtain ⟨vs, T, e, hs, hv⟩ := H.boxes i cs' h1 hi
      rw [(rne i hrg).1]
      exact ⟨vs, T, by rw [B.q _ (H.lt_box h1 (List.getElem?_eq_some_iff.1 hi).1)]; exact e, hs, fun j v c g1 g2 => ⟨(hv j v c g1 g2).1, conv _ _ (hv j v c g1 g2).2⟩⟩
  · rw [hgb] at h1
    obtain ⟨vs, T, e, hs, hz, hle, hels, hv⟩ := H.rows r row h1 hr'
    rw [hbx]
    refine ⟨vs, T, by rw [B.q _ (H.lt_row h1 hr')]; exact e, hs, hz, hle, hels, fun i j cs c g1 g2 => ?_⟩
    obtain ⟨v, e1, e2, e3⟩ := hv i j cs c g1 g2
    exact ⟨v, e1, e2, conv _ _ e3⟩
  · by_cases a1 : i = g <;> by_cases a2 : j = g
    · rw [a1, a2]
    · subst a1; rw [req.1, (rne j a2).1] at e; rw [(rne j a2).2] at h2
      have := H.lt_box h2 hj; omega
    · subst a2; rw [req.1, (rne i a1).1] at e; rw [(rne i a1).2] at h1
      have := H.lt_box h1 hi; omega
    · rw [(rne i a1).1, (rne j a2).1] at e; rw [(rne i a1).2] at h1; rw [(rne j a2).2] at h2
      exact H.bb i j h1 h2 hi hj e
  · rw [hgb] at h2; rw [hbx]
    by_cases hrg : i = g
    · subst hrg; rw [req.1]; have := H.lt_row h2 hr'; exact (Nat.ne_of_lt this).symm
    · rw [(rne i hrg).2] at h1; rw [(rne i hrg).1]; exact H.br i r row h1 h2 hi hr'
  · rw [hgb] at h1 h2; rw [hbx] at e; exact H.rr r r' row row' h1 h2 hr1 hr2 e
  · exact ⟨B.os.trans T.os, B.tape.trans T.tape, B.output.trans T.output, Nat.le_trans T.size B.size, fun b hb hn => (B.q b (Nat.lt_of_lt_of_le hb T.size)).trans (T.frame b hb hn), fun b hb ho => T.own b hb (down b (Nat.lt_of_lt_of_le hb T.size) ho),
      fun r hr => by rw [(rne r (by omega)).1]; exact T.box r hr, fun i hi => by rw [hbx]; exact T.row i hi, T.nb, T.nr, hbase.trans T.base, fun r hr => by rw [(rne r (by omega)).2]; exact T.gb r hr, fun i hi => by rw [hgb]; exact T.gr i hi⟩
  · have := VRel.box (w := w') (O := own m' h) (m := m') (nb := h.boxes.length) (nr := h.next) g 0 hgl req.2
    rw [req.1] at this
    exact this

/-- The plain heap holds what the machine has not made yet. -/
theorem HRel.row_spook (H : HRel w m h) (row : Row) :
    HRel w { m with gr := fun x => if x = h.next then true else m.gr x } { h with rows := upd h.rows h.next (some row), next := h.next + 1 } ∧
    Turn w m h w { m with gr := fun x => if x = h.next then true else m.gr x } { h with rows := upd h.rows h.next (some row), next := h.next + 1 } := by
  generalize hm' : { m with gr := fun x => if x = h.next then true else m.gr x } = m'
  have hf : m'.row = m.row ∧ m'.box = m.box ∧ m'.gb = m.gb ∧ m'.base = m.base := by subst hm'; exact ⟨rfl, rfl, rfl, rfl⟩
  obtain ⟨f1, f2, f3, f4⟩ := hf
  have gne : ∀ r, r ≠ h.next → m'.gr r = m.gr r := fun r hn => by subst hm'; simp [hn]
  have gnx : m'.gr h.next = true := by subst hm'; simp
  have live : ∀ r row', m'.gr r = false → upd h.rows h.next (some row) r = some row' → m.gr r = false ∧ h.rows r = some row' := fun r row' h1 h2 => by
    by_cases e : r = h.next
    · subst e; rw [gnx] at h1; cases h1
    · rw [gne r e] at h1; rw [upd_ne _ _ _ _ e] at h2; exact ⟨h1, h2⟩
  have down : ∀ b, own m' { h with rows := upd h.rows h.next (some row), next := h.next + 1 } b → own m h b := fun b ho => by
    rcases ho with ⟨i, hi, h1, e⟩ | ⟨r, row', hr, h1, e⟩
    · rw [f2] at e; rw [f3] at h1; exact .inl ⟨i, hi, h1, e⟩
    · obtain ⟨h1, h2⟩ := live r row' h1 hr
      rw [f1] at e; exact .inr ⟨r, row', h2, h1, e⟩
  have T : Turn w m h w m' { h with rows := upd h.rows h.next (some row), next := h.next + 1 } :=
    ⟨rfl, rfl, rfl, Nat.le_refl _, fun _ _ _ => rfl, fun b _ ho => down b ho, fun i _ => by rw [f2], fun r _ => by rw [f1], Nat.le_refl _, Nat.le_succ _, f4, fun i _ => by rw [f3], fun r hr => gne r (by omega)⟩
  refine ⟨⟨fun i cs h1 hi => ?_, fun r row' h1 hr => ?_, fun r row' hr => ?_, fun i j h1 h2 hi hj e => ?_, fun i r row' h1 h2 hi hr => ?_, fun r r' row1 row2 h1 h2 hr1 hr2 e => ?_, by rw [f4]; exact H.base⟩, T⟩
  · rw [f3] at h1
    obtain ⟨vs, ty, e, hs, hv⟩ := H.boxes i cs h1 hi
    exact ⟨vs, ty, by rw [f2]; exact e, hs, fun j v c g1 g2 => ⟨(hv j v c g1 g2).1, (hv j v c g1 g2).2.turn T⟩⟩
  · obtain ⟨h1, h2⟩ := live r row' h1 hr
    obtain ⟨vs, ty, e, hs, hz, hle, hels, hv⟩ := H.rows r row' h1 h2
    rw [f1]
    refine ⟨vs, ty, e, hs, hz, hle, hels, fun i j cs c g1 g2 => ?_⟩
    obtain ⟨v, e1, e2, e3⟩ := hv i j cs c g1 g2
    exact ⟨v, e1, e2, e3.turn T⟩
  · by_cases e : r = h.next
    · subst e; exact Nat.lt_succ_self _
    · have hr : upd h.rows h.next (some row) r = some row' := hr
      rw [upd_ne _ _ _ _ e] at hr; exact Nat.lt_succ_of_lt (H.lt r row' hr)
  · rw [f3] at h1 h2; rw [f2] at e; exact H.bb i j h1 h2 hi hj e
  · rw [f3] at h1; rw [f1, f2]
    obtain ⟨g1, g2⟩ := live r row' h2 hr
    exact H.br i r row' h1 g1 hi g2
  · rw [f1] at e
    obtain ⟨g1, g2⟩ := live r row1 h1 hr1
    obtain ⟨g3, g4⟩ := live r' row2 h2 hr2
    exact H.rr r r' row1 row2 g1 g3 g2 g4 e
theorem HRel.box_spook (H : HRel w m h) (cs : List AV) :
    HRel w { m with gb := fun x => if x = h.boxes.length then true else m.gb x } { h with boxes := h.boxes ++ [cs] } ∧
    Turn w m h w { m with gb := fun x => if x = h.boxes.length then true else m.gb x } { h with boxes := h.boxes ++ [cs] } := by
  generalize hm' : { m with gb := fun x => if x = h.boxes.length then true else m.gb x } = m'
  have hf : m'.row = m.row ∧ m'.box = m.box ∧ m'.gr = m.gr ∧ m'.base = m.base := by subst hm'; exact ⟨rfl, rfl, rfl, rfl⟩
  obtain ⟨f1, f2, f3, f4⟩ := hf
  have gne : ∀ r, r ≠ h.boxes.length → m'.gb r = m.gb r := fun r hn => by subst hm'; simp [hn]
  have gnx : m'.gb h.boxes.length = true := by subst hm'; simp
  have live : ∀ i, m'.gb i = false → i < (h.boxes ++ [cs]).length → m.gb i = false ∧ i < h.boxes.length := fun i h1 h2 => by
    by_cases e : i = h.boxes.length
    · subst e; rw [gnx] at h1; cases h1
    · rw [gne i e] at h1
      simp only [List.length_append, List.length_cons, List.length_nil] at h2
      exact ⟨h1, by omega⟩
  have down : ∀ b, own m' { h with boxes := h.boxes ++ [cs] } b → own m h b := fun b ho => by
    rcases ho with ⟨i, hi, h1, e⟩ | ⟨r, row', hr, h1, e⟩
    · obtain ⟨h1, h2⟩ := live i h1 hi
      rw [f2] at e; exact .inl ⟨i, h2, h1, e⟩
    · rw [f1] at e; rw [f3] at h1; exact .inr ⟨r, row', hr, h1, e⟩
  have T : Turn w m h w m' { h with boxes := h.boxes ++ [cs] } :=
    ⟨rfl, rfl, rfl, Nat.le_refl _, fun _ _ _ => rfl, fun b _ ho => down b ho, fun i _ => by rw [f2], fun r _ => by rw [f1], by simp, Nat.le_refl _, f4, fun i hi => gne i (by omega), fun r _ => by rw [f3]⟩
  refine ⟨⟨fun i cs' h1 hi => ?_, fun r row' h1 hr => ?_, H.lt, fun i j h1 h2 hi hj e => ?_, fun i r row' h1 h2 hi hr => ?_, fun r r' row1 row2 h1 h2 hr1 hr2 e => ?_, by rw [f4]; exact H.base⟩, T⟩
  · obtain ⟨h1, h2⟩ := live i h1 (List.getElem?_eq_some_iff.1 hi).1
    have hi : (h.boxes ++ [cs])[i]? = some cs' := hi
    rw [List.getElem?_append_left h2] at hi
    obtain ⟨vs, ty, e, hs, hv⟩ := H.boxes i cs' h1 hi
    exact ⟨vs, ty, by rw [f2]; exact e, hs, fun j v c g1 g2 => ⟨(hv j v c g1 g2).1, (hv j v c g1 g2).2.turn T⟩⟩
  · rw [f3] at h1
    obtain ⟨vs, ty, e, hs, hz, hle, hels, hv⟩ := H.rows r row' h1 hr
    rw [f1]
    refine ⟨vs, ty, e, hs, hz, hle, hels, fun i j cs c g1 g2 => ?_⟩
    obtain ⟨v, e1, e2, e3⟩ := hv i j cs c g1 g2
    exact ⟨v, e1, e2, e3.turn T⟩
  · obtain ⟨g1, g2⟩ := live i h1 hi
    obtain ⟨g3, g4⟩ := live j h2 hj
    rw [f2] at e; exact H.bb i j g1 g3 g2 g4 e
  · obtain ⟨g1, g2⟩ := live i h1 hi
    rw [f3] at h2; rw [f1, f2]
    exact H.br i r row' g1 h2 g2 hr
  · rw [f1] at e; rw [f3] at h1 h2; exact H.rr r r' row1 row2 h1 h2 hr1 hr2 e
end
end Go.PA
