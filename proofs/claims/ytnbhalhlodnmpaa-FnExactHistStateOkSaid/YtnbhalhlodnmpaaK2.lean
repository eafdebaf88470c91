/- How the plain heap's changes stand for changes of the machine's world: a new row, a new box, a store. No condition. -/
import Derived.Test.YtnbhalhlodnmpaaK1
import Derived.Deep.AppendSrc
import Derived.Deep.MidRow
import Derived.Laws.IdiomCopy
namespace Go.PA

/-- A new row at block 'blk': a fresh one, or that of a row that is given up. -/
theorem HRel.row_new {w w' : World} {m : Maps} {h : Heap} (H : HRel w m h) (K : Nat → Option Row) (hK : ∀ x row, K x = some row → h.rows x = some row)
    (blk start sz bsz : Nat) (el : List (List AV)) (hb1 : ∀ x row, K x = some row → (m.row x).blk ≠ blk) (hb2 : ∀ i, i < h.boxes.length → m.box i ≠ blk)
    (hb3 : blk < w.heap.size → own m h blk) (hw : ∀ b, b < w.heap.size → b ≠ blk → w'.heap[b]? = w.heap[b]?) (hs : w.heap.size ≤ w'.heap.size)
    (ho : w'.os = w.os) (ht : w'.tape = w.tape) (hu : w'.output = w.output)
    (hc : ∃ vs T, w'.heap[blk]? = some (.cells vs T (0, 0)) ∧ vs.size = bsz ∧ start + el.length * sz ≤ vs.size ∧ (∀ cs ∈ el, cs.length = sz) ∧
      ∀ (i j : Nat) cs c, el[i]? = some cs → cs[j]? = some c → ∃ v, vs[start + i * sz + j]? = some v ∧ cellV v = true ∧ VR w m h v c) :
    HRel w' { m with row := fun x => if x = h.next then ⟨blk, start, sz, bsz⟩ else m.row x } { h with rows := upd K h.next (some ⟨sz, el⟩), next := h.next + 1 } ∧
    Turn w m h w' { m with row := fun x => if x = h.next then ⟨blk, start, sz, bsz⟩ else m.row x } { h with rows := upd K h.next (some ⟨sz, el⟩), next := h.next + 1 } := by
  have hKlt : ∀ x row, K x = some row → x ≠ h.next := fun x row hx => by have := H.lt x row (hK x row hx); omega
  have T : Turn w m h w' { m with row := fun x => if x = h.next then ⟨blk, start, sz, bsz⟩ else m.row x } { h with rows := upd K h.next (some ⟨sz, el⟩), next := h.next + 1 } := by
    refine ⟨ho, ht, hu, hs, fun b hb hn => hw b hb fun e => hn (e ▸ hb3 (e ▸ hb)), fun b hb hb' => ?_, fun _ _ => rfl, fun r hr => ?_, Nat.le_refl _, Nat.le_succ _, rfl⟩
    · rcases hb' with ⟨i, hi, e⟩ | ⟨r, row, hr, e⟩
      · exact .inl ⟨i, hi, e⟩
      · by_cases hrn : r = h.next
        · subst hrn
          simp only [if_true] at e
          subst e
          exact hb3 hb
        · simp only [upd, hrn, if_false] at hr e
          exact .inr ⟨r, row, hK r row hr, e⟩
    · have : r ≠ h.next := by omega
      simp only [this, if_false]
  refine ⟨⟨fun i cs hi => ?_, fun r row hr => ?_, fun r row hr => ?_, H.bb, fun i r row hi hr => ?_, fun r r' row row' hr hr' e => ?_, Nat.le_trans H.base hs⟩, T⟩
  · obtain ⟨vs, ty, e, hsz, hv⟩ := H.boxes i cs hi
    have hil : i < h.boxes.length := (List.getElem?_eq_some_iff.1 hi).1
    refine ⟨vs, ty, ?_, hsz, fun j v c h1 h2 => ⟨(hv j v c h1 h2).1, (hv j v c h1 h2).2.turn T⟩⟩
    show w'.heap[m.box i]? = _
    rw [hw _ (H.lt_box hil) (hb2 i hil)]; exact e
  · by_cases hrn : r = h.next
    · subst hrn
      simp only [upd_same, Option.some.injEq] at hr
      subst hr
      obtain ⟨vs, ty, e, hsz, hle, hels, hv⟩ := hc
      refine ⟨vs, ty, by simpa using e, by simpa using hsz, by simp, by simpa using hle, hels, fun i j cs c h1 h2 => ?_⟩
      obtain ⟨v, e1, e2, e3⟩ := hv i j cs c h1 h2
      exact ⟨v, by simpa using e1, e2, e3.turn T⟩
    · simp only [upd, hrn, if_false] at hr ⊢
      obtain ⟨vs, ty, e, hsz, he, hle, hels, hv⟩ := H.rows r row (hK r row hr)
      refine ⟨vs, ty, ?_, hsz, he, hle, hels, fun i j cs c h1 h2 => ?_⟩
      · rw [hw _ (H.lt_row (hK r row hr)) (hb1 r row hr)]; exact e
      · obtain ⟨v, e1, e2, e3⟩ := hv i j cs c h1 h2
        exact ⟨v, e1, e2, e3.turn T⟩
  · by_cases hrn : r = h.next
    · subst hrn; simp
    · simp only [upd, hrn, if_false] at hr
      have := H.lt r row (hK r row hr)
      show r < h.next + 1
      omega
  · by_cases hrn : r = h.next
    · subst hrn; simpa using hb2 i hi
    · simp only [upd, hrn, if_false] at hr ⊢
      exact H.br i r row hi (hK r row hr)
  · by_cases hrn : r = h.next
    · subst hrn
      by_cases hrn' : r' = h.next
      · exact hrn'.symm
      · simp only [upd, hrn', if_false] at hr'
        simp only [if_true, hrn', if_false] at e
        exact absurd e.symm (hb1 r' row' hr')
    · simp only [upd, hrn, if_false] at hr
      by_cases hrn' : r' = h.next
      · subst hrn'
        simp only [if_true, hrn, if_false] at e
        exact absurd e (hb1 r row hr)
      · simp only [upd, hrn', if_false] at hr'
        simp only [hrn', hrn, if_false] at e
        exact H.rr r r' row row' (hK r row hr) (hK r' row' hr') e

/-- A store into a row. -/
theorem HRel.row_put {w w' : World} {m : Maps} {h : Heap} (H : HRel w m h) {r : Nat} {row : Row} (hr0 : h.rows r = some row) (el : List (List AV))
    (hw : ∀ b, b < w.heap.size → b ≠ (m.row r).blk → w'.heap[b]? = w.heap[b]?) (hs : w'.heap.size = w.heap.size)
    (ho : w'.os = w.os) (ht : w'.tape = w.tape) (hu : w'.output = w.output)
    (hc : ∃ vs T, w'.heap[(m.row r).blk]? = some (.cells vs T (0, 0)) ∧ vs.size = (m.row r).bsz ∧ (m.row r).start + el.length * row.sz ≤ vs.size ∧ (∀ cs ∈ el, cs.length = row.sz) ∧
      ∀ (i j : Nat) cs c, el[i]? = some cs → cs[j]? = some c → ∃ v, vs[(m.row r).start + i * row.sz + j]? = some v ∧ cellV v = true ∧ VR w m h v c) :
    HRel w' m { h with rows := upd h.rows r (some ⟨row.sz, el⟩) } ∧ Turn w m h w' m { h with rows := upd h.rows r (some ⟨row.sz, el⟩) } := by
  have T : Turn w m h w' m { h with rows := upd h.rows r (some ⟨row.sz, el⟩) } := by
    refine ⟨ho, ht, hu, Nat.le_of_eq hs.symm, fun b hb hn => hw b hb fun e => hn (.inr ⟨r, row, hr0, e.symm⟩), fun b hb hb' => ?_, fun _ _ => rfl, fun _ _ => rfl, Nat.le_refl _, Nat.le_refl _, rfl⟩
    rcases hb' with ⟨i, hi, e⟩ | ⟨x, rowx, hx, e⟩
    · exact .inl ⟨i, hi, e⟩
    · by_cases hxr : x = r
      · subst hxr; exact .inr ⟨x, row, hr0, e⟩
      · simp only [upd, hxr, if_false] at hx; exact .inr ⟨x, rowx, hx, e⟩
  refine ⟨⟨fun i cs hi => ?_, fun x rowx hx => ?_, fun x rowx hx => ?_, H.bb, fun i x rowx hi hx => ?_, fun x x' rowx rowx' hx hx' e => ?_, Nat.le_trans H.base (Nat.le_of_eq hs.symm)⟩, T⟩
  · obtain ⟨vs, ty, e, hsz, hv⟩ := H.boxes i cs hi
    have hil : i < h.boxes.length := (List.getElem?_eq_some_iff.1 hi).1
    exact ⟨vs, ty, by rw [hw _ (H.lt_box hil) (H.br i r row hil hr0)]; exact e, hsz, fun j v c h1 h2 => ⟨(hv j v c h1 h2).1, (hv j v c h1 h2).2.turn T⟩⟩
  · by_cases hxr : x = r
    · subst hxr
      simp only [upd_same, Option.some.injEq] at hx
      subst hx
      obtain ⟨vs, ty, e, hsz, hle, hels, hv⟩ := hc
      obtain ⟨_, _, _, _, he, _⟩ := H.rows x row hr0
      refine ⟨vs, ty, e, hsz, he, hle, hels, fun i j cs c h1 h2 => ?_⟩
      obtain ⟨v, e1, e2, e3⟩ := hv i j cs c h1 h2
      exact ⟨v, e1, e2, e3.turn T⟩
    · simp only [upd, hxr, if_false] at hx
      obtain ⟨vs, ty, e, hsz, he, hle, hels, hv⟩ := H.rows x rowx hx
      refine ⟨vs, ty, ?_, hsz, he, hle, hels, fun i j cs c h1 h2 => ?_⟩
      · rw [hw _ (H.lt_row hx) (fun e => hxr (H.rr x r rowx row hx hr0 e))]; exact e
      · obtain ⟨v, e1, e2, e3⟩ := hv i j cs c h1 h2
        exact ⟨v, e1, e2, e3.turn T⟩
  · by_cases hxr : x = r
    · subst hxr; exact H.lt x row hr0
    · simp only [upd, hxr, if_false] at hx; exact H.lt x rowx hx
  · by_cases hxr : x = r
    · subst hxr; exact H.br i x row hi hr0
    · simp only [upd, hxr, if_false] at hx; exact H.br i x rowx hi hx
  · have old : ∀ x rowx, upd h.rows r (some ⟨row.sz, el⟩) x = some rowx → ∃ ro, h.rows x = some ro := fun x rowx hx => by
      by_cases hxr : x = r
      · subst hxr; exact ⟨row, hr0⟩
      · simp only [upd, hxr, if_false] at hx; exact ⟨rowx, hx⟩
    obtain ⟨o1, h1⟩ := old x rowx hx
    obtain ⟨o2, h2⟩ := old x' rowx' hx'
    exact H.rr x x' o1 o2 h1 h2 e

/-- A new box. -/
theorem HRel.box_new {w w' : World} {m : Maps} {h : Heap} (H : HRel w m h) (cs : List AV) (hw : ∀ b, b < w.heap.size → w'.heap[b]? = w.heap[b]?) (hs : w.heap.size ≤ w'.heap.size)
    (ho : w'.os = w.os) (ht : w'.tape = w.tape) (hu : w'.output = w.output)
    (hc : ∃ vs T, w'.heap[w.heap.size]? = some (.cells vs T (0, 0)) ∧ vs.size = cs.length ∧
      ∀ (j : Nat) v c, vs[j]? = some v → cs[j]? = some c → cellV v = true ∧ VR w m h v c) :
    HRel w' { m with box := fun i => if i = h.boxes.length then w.heap.size else m.box i } { h with boxes := h.boxes ++ [cs] } ∧
    Turn w m h w' { m with box := fun i => if i = h.boxes.length then w.heap.size else m.box i } { h with boxes := h.boxes ++ [cs] } := by
  have T : Turn w m h w' { m with box := fun i => if i = h.boxes.length then w.heap.size else m.box i } { h with boxes := h.boxes ++ [cs] } := by
    refine ⟨ho, ht, hu, hs, fun b hb _ => hw b hb, fun b hb hb' => ?_, fun i hi => ?_, fun _ _ => rfl, by simp, Nat.le_refl _, rfl⟩
    · rcases hb' with ⟨i, hi, e⟩ | ⟨x, rowx, hx, e⟩
      · by_cases hin : i = h.boxes.length
        · subst hin; simp only [if_true] at e; omega
        · simp only [hin, if_false] at e
          simp only [List.length_append, List.length_cons, List.length_nil] at hi
          exact .inl ⟨i, by omega, e⟩
      · exact .inr ⟨x, rowx, hx, e⟩
    · have : i ≠ h.boxes.length := by omega
      simp only [this, if_false]
  have hlen : ∀ i, i < (h.boxes ++ [cs]).length → i ≠ h.boxes.length → i < h.boxes.length := fun i hi hn => by
    simp only [List.length_append, List.length_cons, List.length_nil] at hi; omega
  refine ⟨⟨fun i cs' hi => ?_, fun r row hr => ?_, H.lt, fun i j hi hj e => ?_, fun i r row hi hr => ?_, H.rr, Nat.le_trans H.base hs⟩, T⟩
  · by_cases hin : i = h.boxes.length
    · subst hin
      simp only [List.getElem?_concat_length, Option.some.injEq] at hi
      subst hi
      obtain ⟨vs, ty, e, hsz, hv⟩ := hc
      exact ⟨vs, ty, by simpa using e, hsz, fun j v c h1 h2 => ⟨(hv j v c h1 h2).1, (hv j v c h1 h2).2.turn T⟩⟩
    · have hil := hlen i (List.getElem?_eq_some_iff.1 hi).1 hin
      rw [List.getElem?_append_left hil] at hi
      obtain ⟨vs, ty, e, hsz, hv⟩ := H.boxes i cs' hi
      simp only [hin, if_false]
      exact ⟨vs, ty, by rw [hw _ (H.lt_box hil)]; exact e, hsz, fun j v c h1 h2 => ⟨(hv j v c h1 h2).1, (hv j v c h1 h2).2.turn T⟩⟩
  · obtain ⟨vs, ty, e, hsz, he, hle, hels, hv⟩ := H.rows r row hr
    refine ⟨vs, ty, by rw [hw _ (H.lt_row hr)]; exact e, hsz, he, hle, hels, fun i j cs c h1 h2 => ?_⟩
    obtain ⟨v, e1, e2, e3⟩ := hv i j cs c h1 h2
    exact ⟨v, e1, e2, e3.turn T⟩
  · by_cases hi' : i = h.boxes.length <;> by_cases hj' : j = h.boxes.length
    · omega
    · have := H.lt_box (hlen j hj hj'); simp only [hi', if_true, hj', if_false] at e; omega
    · have := H.lt_box (hlen i hi hi'); simp only [hi', if_false, hj', if_true] at e; omega
    · simp only [hi', hj', if_false] at e; exact H.bb i j (hlen i hi hi') (hlen j hj hj') e
  · by_cases hi' : i = h.boxes.length
    · simp only [hi', if_true]; have := H.lt_row hr; intro e; omega
    · simp only [hi', if_false]; exact H.br i r row (hlen i hi hi') hr

/-- A store into a box. -/
theorem HRel.box_put {w w' : World} {m : Maps} {h : Heap} (H : HRel w m h) {b : Nat} (hb : b < h.boxes.length) (cs : List AV)
    (hw : ∀ x, x < w.heap.size → x ≠ m.box b → w'.heap[x]? = w.heap[x]?) (hs : w'.heap.size = w.heap.size)
    (ho : w'.os = w.os) (ht : w'.tape = w.tape) (hu : w'.output = w.output)
    (hc : ∃ vs T, w'.heap[m.box b]? = some (.cells vs T (0, 0)) ∧ vs.size = cs.length ∧
      ∀ (j : Nat) v c, vs[j]? = some v → cs[j]? = some c → cellV v = true ∧ VR w m h v c) :
    HRel w' m { h with boxes := h.boxes.set b cs } ∧ Turn w m h w' m { h with boxes := h.boxes.set b cs } := by
  have hl : (h.boxes.set b cs).length = h.boxes.length := List.length_set
  have T : Turn w m h w' m { h with boxes := h.boxes.set b cs } := by
    refine ⟨ho, ht, hu, Nat.le_of_eq hs.symm, fun x hx hn => hw x hx fun e => hn (.inl ⟨b, hb, e.symm⟩), fun x hx hx' => ?_, fun _ _ => rfl, fun _ _ => rfl, Nat.le_of_eq hl.symm, Nat.le_refl _, rfl⟩
    rcases hx' with ⟨i, hi, e⟩ | hx'
    · exact .inl ⟨i, by rw [← hl]; exact hi, e⟩
    · exact .inr hx'
  refine ⟨⟨fun i cs' hi => ?_, fun r row hr => ?_, H.lt, fun i j hi hj e => ?_, fun i r row hi hr => ?_, H.rr, Nat.le_trans H.base (Nat.le_of_eq hs.symm)⟩, T⟩
  · have hil : i < h.boxes.length := by rw [← hl]; exact (List.getElem?_eq_some_iff.1 hi).1
    by_cases hin : i = b
    · subst hin
      have hi2 : (h.boxes.set i cs)[i]? = some cs' := hi
      rw [List.getElem?_set_self hb] at hi2
      obtain rfl := Option.some.inj hi2
      obtain ⟨vs, ty, e, hsz, hv⟩ := hc
      exact ⟨vs, ty, e, hsz, fun j v c h1 h2 => ⟨(hv j v c h1 h2).1, (hv j v c h1 h2).2.turn T⟩⟩
    · have hi2 : (h.boxes.set b cs)[i]? = some cs' := hi
      rw [List.getElem?_set_ne (fun e => hin e.symm)] at hi2
      obtain ⟨vs, ty, e, hsz, hv⟩ := H.boxes i cs' hi2
      exact ⟨vs, ty, by rw [hw _ (H.lt_box hil) (fun e => hin (H.bb i b hil hb e))]; exact e, hsz, fun j v c h1 h2 => ⟨(hv j v c h1 h2).1, (hv j v c h1 h2).2.turn T⟩⟩
  · obtain ⟨vs, ty, e, hsz, he, hle, hels, hv⟩ := H.rows r row hr
    refine ⟨vs, ty, by rw [hw _ (H.lt_row hr) (fun e => H.br b r row hb hr e.symm)]; exact e, hsz, he, hle, hels, fun i j cs c h1 h2 => ?_⟩
    obtain ⟨v, e1, e2, e3⟩ := hv i j cs c h1 h2
    exact ⟨v, e1, e2, e3.turn T⟩
  · have hi2 : i < (h.boxes.set b cs).length := hi
    have hj2 : j < (h.boxes.set b cs).length := hj
    exact H.bb i j (by omega) (by omega) e
  · have hi2 : i < (h.boxes.set b cs).length := hi
    exact H.br i r row (by omega) hr

/-- The world after a draw. -/
theorem HRel.drew {w : World} {m : Maps} {h : Heap} (H : HRel w m h) : HRel w.drew m h ∧ Turn w m h w.drew m h := by
  have T : Turn w m h w.drew m h := ⟨rfl, rfl, rfl, Nat.le_refl _, fun _ _ _ => rfl, fun _ _ h => h, fun _ _ => rfl, fun _ _ => rfl, Nat.le_refl _, Nat.le_refl _, rfl⟩
  refine ⟨⟨fun i cs hi => ?_, fun r row hr => ?_, H.lt, H.bb, H.br, H.rr, H.base⟩, T⟩
  · obtain ⟨vs, ty, e, hsz, hv⟩ := H.boxes i cs hi
    exact ⟨vs, ty, e, hsz, fun j v c h1 h2 => ⟨(hv j v c h1 h2).1, (hv j v c h1 h2).2.turn T⟩⟩
  · obtain ⟨vs, ty, e, hsz, he, hle, hels, hv⟩ := H.rows r row hr
    refine ⟨vs, ty, e, hsz, he, hle, hels, fun i j cs c h1 h2 => ?_⟩
    obtain ⟨v, e1, e2, e3⟩ := hv i j cs c h1 h2
    exact ⟨v, e1, e2, e3.turn T⟩

end Go.PA
