/- The loud operations, one by one. No condition. -/
import Derived.Test.YtaekmccjendfoaaK10
namespace Go.PA
section
variable {P : Program} {w : World} {m : Maps} {h : Heap}

/-- A row's elements, in a block's cells from 'start' on. -/
def ER (w : World) (m : Maps) (h : Heap) (vs : List Value) (start sz : Nat) (el : List (List AV)) : Prop :=
  start + el.length * sz ≤ vs.length ∧ (∀ cs ∈ el, cs.length = sz) ∧ ∀ (i j : Nat) cs c, el[i]? = some cs → cs[j]? = some c → ∃ v, vs[start + i * sz + j]? = some v ∧ cellV v = true ∧ VR w m h v c

theorem splice_get (us : List AV) : ∀ (vs : List AV) (off j : Nat), off + us.length ≤ vs.length → (splice vs off us)[j]? = if j < off then vs[j]? else if j < off + us.length then us[j - off]? else vs[j]? := by
  induction us with
  | nil => intro vs off j _; simp only [splice, List.length_nil, Nat.add_zero]; split <;> rfl
  | cons u us ih =>
    intro vs off j hle
    simp only [List.length_cons] at hle
    simp only [splice, List.length_cons]
    rw [ih _ _ _ (by simp; omega)]
    by_cases h1 : j < off
    · rw [if_pos (by omega), if_pos h1, List.getElem?_set_ne (by omega)]
    · by_cases h2 : j = off
      · subst h2
        rw [if_pos (by omega), if_neg (by omega), if_pos (by omega), List.getElem?_set_self (by omega), Nat.sub_self]; rfl
      · rw [if_neg (by omega), if_neg h1]
        by_cases h3 : j < off + (us.length + 1)
        · rw [if_pos (by omega), if_pos h3]
          rw [show j - off = (j - (off + 1)) + 1 by omega]; rfl
        · rw [if_neg (by omega), if_neg h3, List.getElem?_set_ne (by omega)]

theorem ER.put {vs : List Value} {start sz : Nat} {el : List (List AV)} (H : ER w m h vs start sz el) {idx off : Nat} {cs ds : List AV} {us : List Value} (hi : el[idx]? = some cs) (U : CR w m h us ds) (ho : off + ds.length ≤ sz) :
    ER w m h (spliceV vs (start + idx * sz + off) us) start sz (el.set idx (splice cs off ds)) := by
  have hidx : idx < el.length := (List.getElem?_eq_some_iff.1 hi).1
  have hcs : cs.length = sz := H.2.1 cs (List.mem_of_getElem? hi)
  have hmul : (idx + 1) * sz ≤ el.length * sz := Nat.mul_le_mul_right sz hidx
  rw [Nat.add_mul] at hmul
  have hus : us.length = ds.length := U.1
  have hroom : start + idx * sz + off + us.length ≤ vs.length := by have := H.1; omega
  refine ⟨by rw [spliceV_len, List.length_set]; exact H.1, fun cs' hc' => ?_, fun i j cs' c h1 h2 => ?_⟩
  · rcases List.mem_or_eq_of_mem_set hc' with hc' | rfl
    · exact H.2.1 cs' hc'
    · rw [splice_len]; exact hcs
  · rw [spliceV_get us vs _ _ hroom]
    by_cases hii : i = idx
    · subst hii
      rw [List.getElem?_set_self hidx] at h1
      simp only [Option.some.injEq] at h1
      subst h1
      rw [splice_get ds cs off j (by omega)] at h2
      by_cases h3 : j < off
      · rw [if_pos h3] at h2
        rw [if_pos (by omega)]
        exact H.2.2 i j cs c hi h2
      · rw [if_neg h3] at h2
        by_cases h4 : j < off + ds.length
        · rw [if_pos h4] at h2
          rw [if_neg (by omega), if_pos (by omega)]
          rw [show start + i * sz + j - (start + i * sz + off) = j - off by omega]
          have hlt : j - off < us.length := by omega
          refine ⟨us[j - off], List.getElem?_eq_getElem hlt, U.2.1 _ (List.getElem_mem hlt), U.2.2 _ _ c (List.getElem?_eq_getElem hlt) h2⟩
        · rw [if_neg h4] at h2
          rw [if_neg (by omega), if_neg (by omega)]
          exact H.2.2 i j cs c hi h2
    · rw [List.getElem?_set_ne (fun e => hii e.symm)] at h1
      have hj : j < sz := by have := (List.getElem?_eq_some_iff.1 h2).1; rw [H.2.1 cs' (List.mem_of_getElem? h1)] at this; exact this
      have hp : start + i * sz + j < start + idx * sz + off ∨ start + idx * sz + off + us.length ≤ start + i * sz + j := by
        rcases Nat.lt_or_ge i idx with hlt | hge
        · left
          have := Nat.mul_le_mul_right sz hlt
          rw [Nat.succ_mul] at this
          omega
        · right
          have hgt : idx + 1 ≤ i := by omega
          have := Nat.mul_le_mul_right sz hgt
          rw [Nat.add_mul] at this
          omega
      rcases hp with hp | hp
      · rw [if_pos hp]; exact H.2.2 i j cs' c h1 h2
      · rw [if_neg (by omega), if_neg (by omega)]; exact H.2.2 i j cs' c h1 h2

theorem splice_full (cs ds : List AV) (hl : ds.length = cs.length) : splice cs 0 ds = ds := by
  apply List.ext_getElem?
  intro j
  rw [splice_get ds cs 0 j (by omega), if_neg (Nat.not_lt_zero j), Nat.zero_add, Nat.sub_zero]
  split
  · rfl
  · rw [List.getElem?_eq_none (by omega), List.getElem?_eq_none (by omega)]

theorem fillE_ER {a : Act} {env : List AV} (E : ERel w m h a env) (sz : Nat) : ∀ (ps : List (Nat × Operand)) (vs : Array Value) (el el' : List (List AV)),
    ER w m h vs.toList 0 sz el → fillE sz el (ps.map fun p => (p.1, aeval env p.2)) = some el' →
    ∃ us, Instr.fill (fun i => some (i * sz, sz)) vs (ps.map fun p => (p.1, a.eval p.2)) = some us ∧ ER w m h us.toList 0 sz el' ∧ us.size = vs.size ∧ el'.length = el.length ∧ (vs.all cellV = true → us.all cellV = true) := by
  intro ps
  induction ps with
  | nil => intro vs el el' H hf; simp only [List.map_nil, fillE, Option.some.injEq] at hf; subst hf; exact ⟨vs, rfl, H, rfl, rfl, id⟩
  | cons p ps ih =>
    intro vs el el' H hf
    simp only [List.map_cons, fillE] at hf
    cases hac : acells (aeval env p.2) with
    | none => rw [hac] at hf; cases hf
    | some ds =>
      rw [hac] at hf
      simp only at hf
      split at hf
      · rename_i hb
        have U := cells_CR (E.ev p.2) hac
        have hsz : (a.eval p.2).cells.size = sz := by have := U.1; simp at this; omega
        have hmul : (p.1 + 1) * sz ≤ el.length * sz := Nat.mul_le_mul_right sz hb.2
        rw [Nat.add_mul] at hmul
        have hvs : el.length * sz ≤ vs.size := by have := H.1; simpa using this
        have hfold := foldl_set (a.eval p.2).cells.toList vs.toList vs (p.1 * sz) 0 rfl
        simp only [Nat.add_zero] at hfold
        obtain ⟨us, f1, f2, f3, f4, f5⟩ := ih ((a.eval p.2).cells.zipIdx.foldl (fun cs (c, j) => cs.setIfInBounds (p.1 * sz + j) c) vs) (el.set p.1 ds) el' (by
          rw [← Array.foldl_toList, Array.toList_zipIdx]
          show ER w m h (List.foldl (fun (cs : Array Value) (q : Value × Nat) => cs.setIfInBounds (p.1 * sz + q.2) q.1) vs ((a.eval p.2).cells.toList.zipIdx)).toList _ _ _
          rw [hfold]
          have hget := List.getElem?_eq_getElem hb.2
          have := ER.put H (idx := p.1) (off := 0) hget U (by omega)
          rw [splice_full _ ds (hb.1.trans (H.2.1 _ (List.getElem_mem hb.2)).symm), Nat.zero_add, Nat.add_zero] at this
          exact this) hf
        have hlen : ((a.eval p.2).cells.zipIdx.foldl (fun cs (c, j) => cs.setIfInBounds (p.1 * sz + j) c) vs).size = vs.size := by
          rw [← Array.foldl_toList, Array.toList_zipIdx, ← Array.length_toList]
          show (List.foldl (fun (cs : Array Value) (q : Value × Nat) => cs.setIfInBounds (p.1 * sz + q.2) q.1) vs ((a.eval p.2).cells.toList.zipIdx)).toList.length = _
          rw [hfold, spliceV_len]; simp
        refine ⟨us, ?_, f2, f3.trans hlen, by rw [f4, List.length_set], fun hall => f5 ?_⟩
        · simp only [List.map_cons, Instr.fill]
          rw [if_neg (by simp [hsz]; omega)]
          exact f1
        · rw [← Array.foldl_toList, Array.toList_zipIdx, ← Array.all_toList]
          show (List.foldl (fun (cs : Array Value) (q : Value × Nat) => cs.setIfInBounds (p.1 * sz + q.2) q.1) vs ((a.eval p.2).cells.toList.zipIdx)).toList.all cellV = true
          rw [hfold, List.all_eq_true]
          intro v hv
          obtain ⟨j, hj⟩ := List.mem_iff_getElem?.1 hv
          rw [spliceV_get _ _ _ _ (by simp [hsz]; omega)] at hj
          have hold : ∀ j v, vs.toList[j]? = some v → cellV v = true := fun j v hj => (Array.all_eq_true_iff_forall_mem.1 hall) v (by simpa using List.mem_of_getElem? hj)
          split at hj
          · exact hold _ _ hj
          · split at hj
            · exact U.2.1 v (List.mem_of_getElem? hj)
            · exact hold _ _ hj
      · cases hf

theorem zeros_ER {z : Value} {sz n : Nat} (hc : z.cells.all cellV = true) (hs : z.cells.size = sz) (hs0 : 0 < sz) :
    ER w m h ((Array.range (n * sz)).map (z.cells[· % z.cells.size]!)).toList 0 sz (List.replicate n (z.cells.toList.map of1)) ∧ ((Array.range (n * sz)).map (z.cells[· % z.cells.size]!)).all cellV = true := by
  have hget : ∀ k, k < n * sz → ((Array.range (n * sz)).map (z.cells[· % z.cells.size]!))[k]? = some (z.cells[k % sz]'(by rw [hs]; exact Nat.mod_lt _ hs0)) := fun k hk => by
    have h1 : k % sz < z.cells.size := by rw [hs]; exact Nat.mod_lt _ hs0
    rw [Array.getElem?_map, Array.getElem?_range, if_pos hk]
    simp only [Option.map_some, hs, Option.some.injEq]
    exact getElem!_pos z.cells (k % sz) h1
  refine ⟨⟨by simp, fun cs hcs => ?_, fun i j cs c h1 h2 => ?_⟩, ?_⟩
  · rw [List.eq_of_mem_replicate hcs]; simp [hs]
  · have hi : i < n := by have := (List.getElem?_eq_some_iff.1 h1).1; simpa using this
    rw [List.getElem?_replicate, if_pos hi] at h1
    simp only [Option.some.injEq] at h1
    subst h1
    have hj : j < sz := by have := (List.getElem?_eq_some_iff.1 h2).1; simpa [hs] using this
    have hlt : i * sz + j < n * sz := by
      have := Nat.mul_le_mul_right sz hi
      rw [Nat.succ_mul] at this; omega
    have hmd : (i * sz + j) % sz = j := by rw [Nat.mul_comm, Nat.mul_add_mod, Nat.mod_eq_of_lt hj]
    have hjz : j < z.cells.size := by omega
    refine ⟨z.cells[j], ?_, (Array.all_eq_true_iff_forall_mem.1 hc) _ (Array.getElem_mem hjz), ?_⟩
    · rw [Nat.zero_add, Array.getElem?_toList, hget _ hlt]
      simp only [hmd]
    · rw [List.getElem?_map, Array.getElem?_toList, Array.getElem?_eq_getElem hjz] at h2
      simp only [Option.map_some, Option.some.injEq] at h2
      subst h2
      exact of1_rel w m h _
  · rw [Array.all_eq_true_iff_forall_mem]
    intro v hv
    obtain ⟨k, hk⟩ := Array.mem_iff_getElem?.1 hv
    have hlt : k < n * sz := by have := (Array.getElem?_eq_some_iff.1 hk).1; simpa using this
    rw [hget k hlt] at hk
    simp only [Option.some.injEq] at hk
    subst hk
    exact (Array.all_eq_true_iff_forall_mem.1 hc) _ (Array.getElem_mem _)

/-- 'make'. -/
theorem l_mks (H : HRel w m h) {t e : TypeId} {i : TypeInfo} {z : Value} (ht : P.underlying t = some (.slice e)) (hi : P.info? e = some i) (hz : i.zero = some z) (hc : z.cells.all cellV = true) (hs : z.cells.size = i.size) (hs0 : 0 < i.size)
    {n : Int} (h0 : 0 ≤ n) (hb : (i.bytes : Int) * n ≤ 281474976710656) (hn : n ≤ 281474976710656) :
    Loud P w m h (Instr.makeSlice t (.int .i64 n) (.int .i64 n)) id (.ref h.next 0 n.toNat) { h with rows := upd h.rows h.next (some ⟨i.size, List.replicate n.toNat (z.cells.toList.map of1)⟩), next := h.next + 1 } := by
  have hrun := run_make (P := P) w t e i z ht hi hz .i64 .i64 n n h0 (Int.le_refl _) hb (by omega)
  obtain ⟨Z, Zc⟩ := zeros_ER (w := w) (m := m) (h := h) (n := n.toNat) hc hs hs0
  have hlr : (List.replicate n.toNat (z.cells.toList.map of1)).length = n.toNat := List.length_replicate
  obtain ⟨m', G, V, T⟩ := l_row H (vs := ((Array.range (n.toNat * i.size)).map (z.cells[· % z.cells.size]!)).toList) (el := List.replicate n.toNat (z.cells.toList.map of1)) (sz := i.size) (by simp) Z.2.1
    (fun v hv => (Array.all_eq_true_iff_forall_mem.1 Zc) v (by simpa using hv)) (fun a b cs c h1 h2 => by
      obtain ⟨v, e1, _, e3⟩ := Z.2.2 a b cs c h1 h2
      rw [Nat.zero_add] at e1
      exact ⟨v, e1, e3⟩) h.rows (fun _ _ hx => hx) e #[] (w.alloc (.cells (madeCells z.cells (n.toNat * i.size)) e)) (.inl (by rw [Array.toArray_toList, Array.append_empty]; rfl)) n.toNat (by rw [hlr]; exact Nat.le_refl _) (by simp)
  rw [hlr] at V
  exact ⟨_, _, m', hrun, G, V, T⟩

/-- A list written out. -/
theorem l_bslice (H : HRel w m h) {a : Act} {env : List AV} (E : ERel w m h a env) {t e : TypeId} {i : TypeInfo} {z : Value} {n : Nat} {parts : Array (Nat × Operand)} (ht : P.underlying t = some (.slice e)) (hi : P.info? e = some i) (hz : i.zero = some z)
    (hc : z.cells.all cellV = true) (hs : z.cells.size = i.size) (hs0 : 0 < i.size) (hn : n * i.size ≤ 16777216) {el : List (List AV)}
    (hf : fillE i.size (List.replicate n (z.cells.toList.map of1)) (parts.toList.map fun p => (p.1, aeval env p.2)) = some el) :
    Loud P w m h (Instr.buildSlice t n (parts.map fun (i, x) => (i, a.eval x))) id (.ref h.next 0 n) { h with rows := upd h.rows h.next (some ⟨i.size, el⟩), next := h.next + 1 } := by
  obtain ⟨Z, Zc⟩ := zeros_ER (w := w) (m := m) (h := h) (n := n) hc hs hs0
  obtain ⟨us, f1, f2, f3, f4, f5⟩ := fillE_ER E i.size parts.toList _ _ el Z hf
  have hel : el.length = n := by rw [f4, List.length_replicate]
  have hus : us.size = n * i.size := by rw [f3]; simp
  have hparts : (parts.map fun (i, x) => (i, a.eval x)).toList = parts.toList.map fun p => (p.1, a.eval p.2) := by simp
  have hrun : (Instr.buildSlice t n (parts.map fun (i, x) => (i, a.eval x))).run P w = .ok (.slice (some ⟨w.heap.size, 0, none⟩) n n) (w.alloc (.cells us e)) := by
    unfold Instr.buildSlice
    rw [Sem.run_bind, run_underlying ht, Result.andThen_ok]
    dsimp only
    have h1 : (sizeOf e).run P w = .ok i.size w := by simp [sizeOf, typeInfo, hi]
    rw [Sem.run_bind, h1, Result.andThen_ok]
    have hn' : ¬ (n * i.size > 2 ^ 24) := by omega
    rw [if_neg hn']
    by_cases h0 : n * i.size = 0
    · have hn0 : n = 0 := by
        rcases Nat.mul_eq_zero.1 h0 with h0 | h0
        · exact h0
        · omega
      subst hn0
      have hr0 : Array.range (0 * i.size) = #[] := by rw [Nat.zero_mul]; rfl
      rw [hr0, Array.map_empty] at f1
      simp only [Nat.zero_mul, if_true, hparts]
      rw [Sem.run_bind]
      show ((Result.ok (#[] : Array Value) w).andThen _) = _
      rw [Result.andThen_ok]
      have hr1 : Array.range 0 = #[] := rfl
      rw [hr1, Array.map_empty, f1]
      rfl
    · have hz2 : (zeroValue e).run P w = .ok z w := by simp [zeroValue, typeInfo, hi, hz]
      simp only [h0, if_false, hparts]
      rw [Sem.run_bind]
      rw [hz2, Result.andThen_ok, Sem.run_bind]
      show ((Result.ok z.cells w).andThen _) = _
      rw [Result.andThen_ok, f1]
      rfl
  obtain ⟨m', G, V, T⟩ := l_row H (vs := us.toList) (el := el) (sz := i.size) (by simp [hus, hel]) f2.2.1
    (fun v hv => (Array.all_eq_true_iff_forall_mem.1 (f5 Zc)) v (by simpa using hv)) (fun a b cs c h1 h2 => by
      obtain ⟨v, e1, _, e3⟩ := f2.2.2 a b cs c h1 h2
      rw [Nat.zero_add] at e1
      exact ⟨v, e1, e3⟩) h.rows (fun _ _ hx => hx) e #[] (w.alloc (.cells us e)) (.inl (by simp)) n (by rw [hel]; exact Nat.le_refl _) (by simp [hus])
  rw [hel] at V
  exact ⟨_, _, m', hrun, G, V, T⟩

end
end Go.PA
