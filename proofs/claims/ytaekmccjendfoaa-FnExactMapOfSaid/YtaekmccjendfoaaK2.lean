/- How the plain heap's changes stand for changes of the machine's world: a new row, a new box, a store. No condition. -/
import Derived.Test.YtaekmccjendfoaaK1
import Derived.Deep.AppendSrc
import Derived.Deep.MidRow
import Derived.Laws.IdiomCopy
namespace Go.PA

/-- A new row at block 'blk': a fresh one, or that of a row that is given up. -/
theorem HRel.row_new {w w' : World} {m : Maps} {h : Heap} (H : HRel w m h) (K : Nat → Option Row) (hK : ∀ x row, K x = some row → h.rows x = some row)
    (blk start sz bsz : Nat) (el : List (List AV)) (hb1 : ∀ x row, m.gr x = false → K x = some row → (m.row x).blk ≠ blk) (hb2 : ∀ i, m.gb i = false → i < h.boxes.length → m.box i ≠ blk)
    (hb3 : blk < w.heap.size → own m h blk) (hw : ∀ b, b < w.heap.size → b ≠ blk → w'.heap[b]? = w.heap[b]?) (hs : w.heap.size ≤ w'.heap.size)
    (ho : w'.os = w.os) (ht : w'.tape = w.tape) (hu : w'.output = w.output)
    (hc : ∃ vs T, w'.heap[blk]? = some (.cells vs T (0, 0)) ∧ vs.size = bsz ∧ start + el.length * sz ≤ vs.size ∧ (∀ cs ∈ el, cs.length = sz) ∧
      ∀ (i j : Nat) cs c, el[i]? = some cs → cs[j]? = some c → ∃ v, vs[start + i * sz + j]? = some v ∧ cellV v = true ∧ VR w m h v c) :
    HRel w' (m.setRow h.next ⟨blk, start, sz, bsz⟩) { h with rows := upd K h.next (some ⟨sz, el⟩), next := h.next + 1 } ∧
    Turn w m h w' (m.setRow h.next ⟨blk, start, sz, bsz⟩) { h with rows := upd K h.next (some ⟨sz, el⟩), next := h.next + 1 } := by
  have hKlt : ∀ x row, K x = some row → x ≠ h.next := fun x row hx => by have := H.lt x row (hK x row hx); omega
  have T : Turn w m h w' (m.setRow h.next ⟨blk, start, sz, bsz⟩) { h with rows := upd K h.next (some ⟨sz, el⟩), next := h.next + 1 } := by
    refine ⟨ho, ht, hu, hs, fun b hb hn => hw b hb fun e => hn (e ▸ hb3 (e ▸ hb)), fun b hb hb' => ?_, fun _ _ => rfl, fun r hr => ?_, Nat.le_refl _, Nat.le_succ _, rfl, fun _ _ => rfl, fun r hr => ?_⟩
    · rcases hb' with ⟨i, hi, hg, e⟩ | ⟨r, row, hr, hg, e⟩
      · exact .inl ⟨i, hi, hg, e⟩
      · by_cases hrn : r = h.next
        · subst hrn
          simp only [Maps.setRow, if_true] at e
          subst e
          exact hb3 hb
        · simp only [upd, Maps.setRow, hrn, if_false] at hr e hg
          exact .inr ⟨r, row, hK r row hr, hg, e⟩
    · have : r ≠ h.next := by omega
      simp only [Maps.setRow, this, if_false]
    · have : r ≠ h.next := by omega
      simp only [Maps.setRow, this, if_false]
  refine ⟨⟨fun i cs hg hi => ?_, fun r row hg hr => ?_, fun r row hr => ?_, H.bb, fun i r row hg hg' hi hr => ?_, fun r r' row row' hg hg' hr hr' e => ?_, Nat.le_trans H.base hs⟩, T⟩
  · obtain ⟨vs, ty, e, hsz, hv⟩ := H.boxes i cs hg hi
    have hil : i < h.boxes.length := (List.getElem?_eq_some_iff.1 hi).1
    refine ⟨vs, ty, ?_, hsz, fun j v c h1 h2 => ⟨(hv j v c h1 h2).1, (hv j v c h1 h2).2.turn T⟩⟩
    show w'.heap[m.box i]? = _
    rw [hw _ (H.lt_box hg hil) (hb2 i hg hil)]; exact e
  · by_cases hrn : r = h.next
    · subst hrn
      simp only [upd_same, Option.some.injEq] at hr
      subst hr
      obtain ⟨vs, ty, e, hsz, hle, hels, hv⟩ := hc
      refine ⟨vs, ty, by simpa [Maps.setRow] using e, by simpa [Maps.setRow] using hsz, by simp [Maps.setRow], by simpa [Maps.setRow] using hle, hels, fun i j cs c h1 h2 => ?_⟩
      obtain ⟨v, e1, e2, e3⟩ := hv i j cs c h1 h2
      exact ⟨v, by simpa [Maps.setRow] using e1, e2, e3.turn T⟩
    · simp only [upd, Maps.setRow, hrn, if_false] at hr hg
      have hrow : ((m.setRow h.next ⟨blk, start, sz, bsz⟩).row r) = m.row r := by simp only [Maps.setRow, hrn, if_false]
      rw [hrow]
      obtain ⟨vs, ty, e, hsz, he, hle, hels, hv⟩ := H.rows r row hg (hK r row hr)
      refine ⟨vs, ty, ?_, hsz, he, hle, hels, fun i j cs c h1 h2 => ?_⟩
      · rw [hw _ (H.lt_row hg (hK r row hr)) (hb1 r row hg hr)]; exact e
      · obtain ⟨v, e1, e2, e3⟩ := hv i j cs c h1 h2
        exact ⟨v, e1, e2, e3.turn T⟩
  · by_cases hrn : r = h.next
    · subst hrn; simp
    · simp only [upd, hrn, if_false] at hr
      have := H.lt r row (hK r row hr)
      show r < h.next + 1
      omega
  · by_cases hrn : r = h.next
    · subst hrn; simpa [Maps.setRow] using hb2 i hg hi
    · simp only [upd, Maps.setRow, hrn, if_false] at hr hg' ⊢
      exact H.br i r row hg hg' hi (hK r row hr)
  · by_cases hrn : r = h.next
    · subst hrn
      by_cases hrn' : r' = h.next
      · exact hrn'.symm
      · simp only [upd, Maps.setRow, hrn', if_false] at hr' hg'
        simp only [Maps.setRow, if_true, hrn', if_false] at e
        exact absurd e.symm (hb1 r' row' hg' hr')
    · simp only [upd, Maps.setRow, hrn, if_false] at hr hg
      by_cases hrn' : r' = h.next
      · subst hrn'
        simp only [Maps.setRow, if_true, hrn, if_false] at e
        exact absurd e (hb1 r row hg hr)
      · simp only [upd, Maps.setRow, hrn', if_false] at hr' hg'
        simp only [Maps.setRow, hrn', hrn, if_false] at e
        exact H.rr r r' row row' hg hg' (hK r row hr) (hK r' row' hr') e

/-- A store into a row. -/
theorem HRel.row_put {w w' : World} {m : Maps} {h : Heap} (H : HRel w m h) {r : Nat} {row : Row} (hg0 : m.gr r = false) (hr0 : h.rows r = some row) (el : List (List AV))
    (hw : ∀ b, b < w.heap.size → b ≠ (m.row r).blk → w'.heap[b]? = w.heap[b]?) (hs : w'.heap.size = w.heap.size)
    (ho : w'.os = w.os) (ht : w'.tape = w.tape) (hu : w'.output = w.output)
    (hc : ∃ vs T, w'.heap[(m.row r).blk]? = some (.cells vs T (0, 0)) ∧ vs.size = (m.row r).bsz ∧ (m.row r).start + el.length * row.sz ≤ vs.size ∧ (∀ cs ∈ el, cs.length = row.sz) ∧
      ∀ (i j : Nat) cs c, el[i]? = some cs → cs[j]? = some c → ∃ v, vs[(m.row r).start + i * row.sz + j]? = some v ∧ cellV v = true ∧ VR w m h v c) :
    HRel w' m { h with rows := upd h.rows r (some ⟨row.sz, el⟩) } ∧ Turn w m h w' m { h with rows := upd h.rows r (some ⟨row.sz, el⟩) } := by
  have T : Turn w m h w' m { h with rows := upd h.rows r (some ⟨row.sz, el⟩) } := by
    refine ⟨ho, ht, hu, Nat.le_of_eq hs.symm, fun b hb hn => hw b hb fun e => hn (.inr ⟨r, row, hr0, hg0, e.symm⟩), fun b hb hb' => ?_, fun _ _ => rfl, fun _ _ => rfl, Nat.le_refl _, Nat.le_refl _, rfl, fun _ _ => rfl, fun _ _ => rfl⟩
    rcases hb' with ⟨i, hi, hg, e⟩ | ⟨x, rowx, hx, hg, e⟩
    · exact .inl ⟨i, hi, hg, e⟩
    · by_cases hxr : x = r
      · subst hxr; exact .inr ⟨x, row, hr0, hg0, e⟩
      · simp only [upd, hxr, if_false] at hx; exact .inr ⟨x, rowx, hx, hg, e⟩
  refine ⟨⟨fun i cs hg hi => ?_, fun x rowx hg hx => ?_, fun x rowx hx => ?_, H.bb, fun i x rowx hg hg' hi hx => ?_, fun x x' rowx rowx' hg hg' hx hx' e => ?_, Nat.le_trans H.base (Nat.le_of_eq hs.symm)⟩, T⟩
  · obtain ⟨vs, ty, e, hsz, hv⟩ := H.boxes i cs hg hi
    have hil : i < h.boxes.length := (List.getElem?_eq_some_iff.1 hi).1
    exact ⟨vs, ty, by rw [hw _ (H.lt_box hg hil) (H.br i r row hg hg0 hil hr0)]; exact e, hsz, fun j v c h1 h2 => ⟨(hv j v c h1 h2).1, (hv j v c h1 h2).2.turn T⟩⟩
  · by_cases hxr : x = r
    · subst hxr
      simp only [upd_same, Option.some.injEq] at hx
      subst hx
      obtain ⟨vs, ty, e, hsz, hle, hels, hv⟩ := hc
      obtain ⟨_, _, _, _, he, _⟩ := H.rows x row hg hr0
      refine ⟨vs, ty, e, hsz, he, hle, hels, fun i j cs c h1 h2 => ?_⟩
      obtain ⟨v, e1, e2, e3⟩ := hv i j cs c h1 h2
      exact ⟨v, e1, e2, e3.turn T⟩
    · simp only [upd, hxr, if_false] at hx
      obtain ⟨vs, ty, e, hsz, he, hle, hels, hv⟩ := H.rows x rowx hg hx
      refine ⟨vs, ty, ?_, hsz, he, hle, hels, fun i j cs c h1 h2 => ?_⟩
      · rw [hw _ (H.lt_row hg hx) (fun e => hxr (H.rr x r rowx row hg hg0 hx hr0 e))]; exact e
      · obtain ⟨v, e1, e2, e3⟩ := hv i j cs c h1 h2
        exact ⟨v, e1, e2, e3.turn T⟩
  · by_cases hxr : x = r
    · subst hxr; exact H.lt x row hr0
    · simp only [upd, hxr, if_false] at hx; exact H.lt x rowx hx
  · by_cases hxr : x = r
    · subst hxr; exact H.br i x row hg hg' hi hr0
    · simp only [upd, hxr, if_false] at hx; exact H.br i x rowx hg hg' hi hx
  · have old : ∀ x rowx, upd h.rows r (some ⟨row.sz, el⟩) x = some rowx → ∃ ro, h.rows x = some ro := fun x rowx hx => by
      by_cases hxr : x = r
      · subst hxr; exact ⟨row, hr0⟩
      · simp only [upd, hxr, if_false] at hx; exact ⟨rowx, hx⟩
    obtain ⟨o1, h1⟩ := old x rowx hx
    obtain ⟨o2, h2⟩ := old x' rowx' hx'
    exact H.rr x x' o1 o2 hg hg' h1 h2 e

/-- A new box. -/
theorem HRel.box_new {w w' : World} {m : Maps} {h : Heap} (H : HRel w m h) (cs : List AV) (hw : ∀ b, b < w.heap.size → w'.heap[b]? = w.heap[b]?) (hs : w.heap.size ≤ w'.heap.size)
    (ho : w'.os = w.os) (ht : w'.tape = w.tape) (hu : w'.output = w.output)
    (hc : ∃ vs T, w'.heap[w.heap.size]? = some (.cells vs T (0, 0)) ∧ vs.size = cs.length ∧
      ∀ (j : Nat) v c, vs[j]? = some v → cs[j]? = some c → cellV v = true ∧ VR w m h v c) :
    HRel w' (m.setBox h.boxes.length w.heap.size) { h with boxes := h.boxes ++ [cs] } ∧
    Turn w m h w' (m.setBox h.boxes.length w.heap.size) { h with boxes := h.boxes ++ [cs] } := by
  have T : Turn w m h w' (m.setBox h.boxes.length w.heap.size) { h with boxes := h.boxes ++ [cs] } := by
    refine ⟨ho, ht, hu, hs, fun b hb _ => hw b hb, fun b hb hb' => ?_, fun i hi => ?_, fun _ _ => rfl, by simp, Nat.le_refl _, rfl, fun i hi => ?_, fun _ _ => rfl⟩
    · rcases hb' with ⟨i, hi, hg, e⟩ | ⟨x, rowx, hx, hg, e⟩
      · by_cases hin : i = h.boxes.length
        · subst hin; simp only [Maps.setBox, if_true] at e; omega
        · simp only [Maps.setBox, hin, if_false] at e hg
          simp only [List.length_append, List.length_cons, List.length_nil] at hi
          exact .inl ⟨i, by omega, hg, e⟩
      · exact .inr ⟨x, rowx, hx, hg, e⟩
    · have : i ≠ h.boxes.length := by omega
      simp only [Maps.setBox, this, if_false]
    · have : i ≠ h.boxes.length := by omega
      simp only [Maps.setBox, this, if_false]
  have hlen : ∀ i, i < (h.boxes ++ [cs]).length → i ≠ h.boxes.length → i < h.boxes.length := fun i hi hn => by
    simp only [List.length_append, List.length_cons, List.length_nil] at hi; omega
  have hgo : ∀ i, i ≠ h.boxes.length → (m.setBox h.boxes.length w.heap.size).gb i = false → m.gb i = false := fun i hn hg => by
    simp only [Maps.setBox, hn, if_false] at hg; exact hg
  have hbo : ∀ i, i ≠ h.boxes.length → (m.setBox h.boxes.length w.heap.size).box i = m.box i := fun i hn => by
    simp only [Maps.setBox, hn, if_false]
  have hbn : (m.setBox h.boxes.length w.heap.size).box h.boxes.length = w.heap.size := by simp only [Maps.setBox, if_true]
  refine ⟨⟨fun i cs' hg hi => ?_, fun r row hg hr => ?_, H.lt, fun i j hg hg' hi hj e => ?_, fun i r row hg hg' hi hr => ?_, H.rr, Nat.le_trans H.base hs⟩, T⟩
  · by_cases hin : i = h.boxes.length
    · subst hin
      simp only [List.getElem?_concat_length, Option.some.injEq] at hi
      subst hi
      obtain ⟨vs, ty, e, hsz, hv⟩ := hc
      exact ⟨vs, ty, by rw [hbn]; exact e, hsz, fun j v c h1 h2 => ⟨(hv j v c h1 h2).1, (hv j v c h1 h2).2.turn T⟩⟩
    · have hil := hlen i (List.getElem?_eq_some_iff.1 hi).1 hin
      have hg := hgo i hin hg
      rw [List.getElem?_append_left hil] at hi
      obtain ⟨vs, ty, e, hsz, hv⟩ := H.boxes i cs' hg hi
      exact ⟨vs, ty, by rw [hbo i hin, hw _ (H.lt_box hg hil)]; exact e, hsz, fun j v c h1 h2 => ⟨(hv j v c h1 h2).1, (hv j v c h1 h2).2.turn T⟩⟩
  · obtain ⟨vs, ty, e, hsz, he, hle, hels, hv⟩ := H.rows r row hg hr
    refine ⟨vs, ty, by rw [show (m.setBox h.boxes.length w.heap.size).row r = m.row r from rfl, hw _ (H.lt_row hg hr)]; exact e, hsz, he, hle, hels, fun i j cs c h1 h2 => ?_⟩
    obtain ⟨v, e1, e2, e3⟩ := hv i j cs c h1 h2
    exact ⟨v, e1, e2, e3.turn T⟩
  · by_cases hi' : i = h.boxes.length <;> by_cases hj' : j = h.boxes.length
    · omega
    · have := H.lt_box (hgo j hj' hg') (hlen j hj hj'); rw [hi', hbn, hbo j hj'] at e; omega
    · have := H.lt_box (hgo i hi' hg) (hlen i hi hi'); rw [hj', hbn, hbo i hi'] at e; omega
    · rw [hbo i hi', hbo j hj'] at e; exact H.bb i j (hgo i hi' hg) (hgo j hj' hg') (hlen i hi hi') (hlen j hj hj') e
  · by_cases hi' : i = h.boxes.length
    · rw [hi', hbn]; have := H.lt_row (m := m) hg' hr; intro e; exact absurd e.symm (Nat.ne_of_lt this)
    · rw [hbo i hi']; exact H.br i r row (hgo i hi' hg) hg' (hlen i hi hi') hr

/-- A store into a box. -/
theorem HRel.box_put {w w' : World} {m : Maps} {h : Heap} (H : HRel w m h) {b : Nat} (hgb : m.gb b = false) (hb : b < h.boxes.length) (cs : List AV)
    (hw : ∀ x, x < w.heap.size → x ≠ m.box b → w'.heap[x]? = w.heap[x]?) (hs : w'.heap.size = w.heap.size)
    (ho : w'.os = w.os) (ht : w'.tape = w.tape) (hu : w'.output = w.output)
    (hc : ∃ vs T, w'.heap[m.box b]? = some (.cells vs T (0, 0)) ∧ vs.size = cs.length ∧
      ∀ (j : Nat) v c, vs[j]? = some v → cs[j]? = some c → cellV v = true ∧ VR w m h v c) :
    HRel w' m { h with boxes := h.boxes.set b cs } ∧ Turn w m h w' m { h with boxes := h.boxes.set b cs } := by
  have hl : (h.boxes.set b cs).length = h.boxes.length := List.length_set
  have T : Turn w m h w' m { h with boxes := h.boxes.set b cs } := by
    refine ⟨ho, ht, hu, Nat.le_of_eq hs.symm, fun x hx hn => hw x hx fun e => hn (.inl ⟨b, hb, hgb, e.symm⟩), fun x hx hx' => ?_, fun _ _ => rfl, fun _ _ => rfl, Nat.le_of_eq hl.symm, Nat.le_refl _, rfl, fun _ _ => rfl, fun _ _ => rfl⟩
    rcases hx' with ⟨i, hi, hg, e⟩ | hx'
    · exact .inl ⟨i, by rw [← hl]; exact hi, hg, e⟩
    · exact .inr hx'
  refine ⟨⟨fun i cs' hg hi => ?_, fun r row hg hr => ?_, H.lt, fun i j hg hg' hi hj e => ?_, fun i r row hg hg' hi hr => ?_, H.rr, Nat.le_trans H.base (Nat.le_of_eq hs.symm)⟩, T⟩
  · have hil : i < h.boxes.length := by rw [← hl]; exact (List.getElem?_eq_some_iff.1 hi).1
    by_cases hin : i = b
    · subst hin
      have hi2 : (h.boxes.set i cs)[i]? = some cs' := hi
      rw [List.getElem?_set_self hb] at hi2
      obtain rfl := Option.some.inj hi2
      obtain ⟨vs, ty, e, hsz, hv⟩ := hc
      exact ⟨vs, ty, e, hsz, fun j v c h1 h2 => ⟨(hv j v c h1 h2).1, (hv j v c h1 h2).2.turn T⟩⟩
    · have hi2 : (h.boxes.set b cs)[i]? = some cs' := hi
      rw [List.getElem?_set_ne (fun e => hin e.symm)] at hi2
      obtain ⟨vs, ty, e, hsz, hv⟩ := H.boxes i cs' hg hi2
      exact ⟨vs, ty, by rw [hw _ (H.lt_box hg hil) (fun e => hin (H.bb i b hg hgb hil hb e))]; exact e, hsz, fun j v c h1 h2 => ⟨(hv j v c h1 h2).1, (hv j v c h1 h2).2.turn T⟩⟩
  · obtain ⟨vs, ty, e, hsz, he, hle, hels, hv⟩ := H.rows r row hg hr
    refine ⟨vs, ty, by rw [hw _ (H.lt_row hg hr) (fun e => H.br b r row hgb hg hb hr e.symm)]; exact e, hsz, he, hle, hels, fun i j cs c h1 h2 => ?_⟩
    obtain ⟨v, e1, e2, e3⟩ := hv i j cs c h1 h2
    exact ⟨v, e1, e2, e3.turn T⟩
  · have hi2 : i < (h.boxes.set b cs).length := hi
    have hj2 : j < (h.boxes.set b cs).length := hj
    exact H.bb i j hg hg' (by omega) (by omega) e
  · have hi2 : i < (h.boxes.set b cs).length := hi
    exact H.br i r row hg hg' (by omega) hr

/-- The world after a draw. -/
theorem HRel.drew {w : World} {m : Maps} {h : Heap} (H : HRel w m h) : HRel w.drew m h ∧ Turn w m h w.drew m h := by
  have T : Turn w m h w.drew m h := ⟨rfl, rfl, rfl, Nat.le_refl _, fun _ _ _ => rfl, fun _ _ h => h, fun _ _ => rfl, fun _ _ => rfl, Nat.le_refl _, Nat.le_refl _, rfl, fun _ _ => rfl, fun _ _ => rfl⟩
  refine ⟨⟨fun i cs hg hi => ?_, fun r row hg hr => ?_, H.lt, H.bb, H.br, H.rr, H.base⟩, T⟩
  · obtain ⟨vs, ty, e, hsz, hv⟩ := H.boxes i cs hg hi
    exact ⟨vs, ty, e, hsz, fun j v c h1 h2 => ⟨(hv j v c h1 h2).1, (hv j v c h1 h2).2.turn T⟩⟩
  · obtain ⟨vs, ty, e, hsz, he, hle, hels, hv⟩ := H.rows r row hg hr
    refine ⟨vs, ty, e, hsz, he, hle, hels, fun i j cs c h1 h2 => ?_⟩
    obtain ⟨v, e1, e2, e3⟩ := hv i j cs c h1 h2
    exact ⟨v, e1, e2, e3.turn T⟩

end Go.PA
