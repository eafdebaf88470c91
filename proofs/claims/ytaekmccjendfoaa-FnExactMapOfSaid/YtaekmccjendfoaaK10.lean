/- The loud operations: new boxes and rows, stores, appends, copies. No condition. -/
import Derived.Test.YtaekmccjendfoaaK9
import Derived.Laws.OwnMore
namespace Go.PA
section
variable {P : Program} {w : World} {m : Maps} {h : Heap}

def Loud (P : Program) (w : World) (m : Maps) (h : Heap) {α : Type} (s : Sem α) (f : α → Value) (r : AV) (h' : Heap) : Prop :=
  ∃ v w' m', s.run P w = .ok v w' ∧ HRel w' m' h' ∧ VR w' m' h' (f v) r ∧ Turn w m h w' m' h'

theorem heap_push_old (w : World) (o : Obj) (b : Nat) (hb : b < w.heap.size) : (w.alloc o).heap[b]? = w.heap[b]? := by
  show (w.heap.push o)[b]? = _
  rw [Array.getElem?_push, if_neg (Nat.ne_of_lt hb)]
theorem heap_push_new (w : World) (o : Obj) : (w.alloc o).heap[w.heap.size]? = some o := by
  show (w.heap.push o)[w.heap.size]? = _
  rw [Array.getElem?_push, if_pos rfl]
theorem heap_push_size (w : World) (o : Obj) : w.heap.size ≤ (w.alloc o).heap.size := by
  show _ ≤ (w.heap.push o).size
  rw [Array.size_push]; exact Nat.le_succ _

/-- A new box. -/
theorem l_box (H : HRel w m h) {vs : Array Value} {cs : List AV} (U : CR w m h vs.toList cs) (e : TypeId) :
    ∃ w' m', (newRow e vs).run P w = .ok ⟨w.heap.size, 0, none⟩ w' ∧ HRel w' m' { h with boxes := h.boxes ++ [cs] } ∧ VR w' m' { h with boxes := h.boxes ++ [cs] } (.pointer (some ⟨w.heap.size, 0, none⟩)) (.box h.boxes.length 0) ∧
      Turn w m h w' m' { h with boxes := h.boxes ++ [cs] } := by
  obtain ⟨G, T⟩ := H.box_new (w' := w.alloc (.cells vs e)) cs (fun b hb => heap_push_old w _ b hb) (heap_push_size w _) rfl rfl rfl
    ⟨vs, e, heap_push_new w _, by simpa using U.1, fun j v c h1 h2 => ⟨U.2.1 v (by simpa using Array.mem_of_getElem? h1), U.2.2 j v c (by simpa using h1) h2⟩⟩
  refine ⟨_, _, rfl, G, ?_, T⟩
  have := VRel.box (w := w.alloc (.cells vs e)) (O := own (m.setBox h.boxes.length w.heap.size) { h with boxes := h.boxes ++ [cs] }) (m := (m.setBox h.boxes.length w.heap.size))
    (nb := (h.boxes ++ [cs]).length) (nr := h.next) h.boxes.length 0 (by simp) (by simp [Maps.setBox])
  simp only [Maps.setBox, if_true] at this
  exact this

/-- A new row. -/
theorem l_row (H : HRel w m h) {vs : List Value} {el : List (List AV)} {sz : Nat} (hl : vs.length = el.length * sz) (hsz : ∀ cs ∈ el, cs.length = sz) (hcv : ∀ v ∈ vs, cellV v = true)
    (hr : ∀ (i j : Nat) cs c, el[i]? = some cs → cs[j]? = some c → ∃ v, vs[i * sz + j]? = some v ∧ VR w m h v c) (K : Nat → Option Row) (hK : ∀ x row, K x = some row → h.rows x = some row) (e : TypeId) (extra : Array Value) (w1 : World)
    (hw1 : w1 = w.alloc (.cells (vs.toArray ++ extra) e) ∨ w1 = w.drew.alloc (.cells (vs.toArray ++ extra) e)) (cap : Nat) (hcap : el.length ≤ cap) (hcs : cap * sz ≤ (vs.toArray ++ extra).size) :
    ∃ m', HRel w1 m' { h with rows := upd K h.next (some ⟨sz, el⟩), next := h.next + 1 } ∧
      VR w1 m' { h with rows := upd K h.next (some ⟨sz, el⟩), next := h.next + 1 } (.slice (some ⟨w.heap.size, 0, none⟩) el.length cap) (.ref h.next 0 el.length) ∧
      Turn w m h w1 m' { h with rows := upd K h.next (some ⟨sz, el⟩), next := h.next + 1 } := by
  have hold : ∀ b, b < w.heap.size → w1.heap[b]? = w.heap[b]? := by
    rcases hw1 with rfl | rfl
    · exact fun b hb => heap_push_old w _ b hb
    · exact fun b hb => heap_push_old w.drew _ b hb
  have hnew : w1.heap[w.heap.size]? = some (.cells (vs.toArray ++ extra) e) := by
    rcases hw1 with rfl | rfl
    · exact heap_push_new w _
    · exact heap_push_new w.drew _
  have hsize : w.heap.size ≤ w1.heap.size := by
    rcases hw1 with rfl | rfl
    · exact heap_push_size w _
    · exact heap_push_size w.drew _
  obtain ⟨G, T⟩ := H.row_new (w' := w1) K hK w.heap.size 0 sz (vs.toArray ++ extra).size el (fun x row hg hx e => by have := H.lt_row hg (hK x row hx); omega) (fun i hg hi e => by have := H.lt_box hg hi; omega)
    (fun hb => absurd hb (Nat.lt_irrefl _)) (fun b hb _ => hold b hb) hsize (by rcases hw1 with rfl | rfl <;> rfl) (by rcases hw1 with rfl | rfl <;> rfl) (by rcases hw1 with rfl | rfl <;> rfl)
    ⟨_, e, hnew, rfl, by simp [hl], hsz, fun i j cs c h1 h2 => by
      obtain ⟨v, e1, e2⟩ := hr i j cs c h1 h2
      refine ⟨v, ?_, hcv v (List.mem_of_getElem? e1), e2⟩
      have hlt : i * sz + j < vs.length := (List.getElem?_eq_some_iff.1 e1).1
      rw [Nat.zero_add, Array.getElem?_append_left (by simpa using hlt)]
      simpa using e1⟩
  refine ⟨_, G, ?_, T⟩
  have := VRel.ref (w := w1) (O := own (m.setRow h.next ⟨w.heap.size, 0, sz, (vs.toArray ++ extra).size⟩) { h with rows := upd K h.next (some ⟨sz, el⟩), next := h.next + 1 })
    (m := (m.setRow h.next ⟨w.heap.size, 0, sz, (vs.toArray ++ extra).size⟩)) (nb := h.boxes.length) (nr := h.next + 1) h.next 0 el.length cap (Nat.lt_succ_self _) (by simp [Maps.setRow]) hcap (by simpa [Maps.setRow] using hcs)
  simp only [Maps.setRow, if_true, Nat.zero_mul, Nat.add_zero] at this
  exact this

theorem setCells_frame (b : Nat) : ∀ (vs : List Value) (o : Nat) (w : World), (w.setCells b o vs).os = w.os ∧ (w.setCells b o vs).tape = w.tape ∧ (w.setCells b o vs).output = w.output ∧ (w.setCells b o vs).heap.size = w.heap.size ∧
    (∀ x, x ≠ b → (w.setCells b o vs).heap[x]? = w.heap[x]?) ∧ ∀ cs T fr, w.heap[b]? = some (.cells cs T fr) → ∃ cs', (w.setCells b o vs).heap[b]? = some (.cells cs' T fr) ∧ cs'.toList = spliceV cs.toList o vs
  | [], _, w => ⟨rfl, rfl, rfl, rfl, fun _ _ => rfl, fun cs _ _ hb => ⟨cs, hb, rfl⟩⟩
  | v :: r, o, w => by
    obtain ⟨h1, h2, h3, h4, h5, h6⟩ := setCells_frame b r (o + 1) (w.setCell ⟨b, o, none⟩ v)
    refine ⟨h1, h2, h3, h4.trans (by show (w.heap.modify b _).size = _; rw [Array.size_modify]), fun x hx => (h5 x hx).trans ?_, fun cs T fr hb => ?_⟩
    · show (w.heap.modify b _)[x]? = _
      rw [Array.getElem?_modify, if_neg (Ne.symm hx)]
    · have hb' : (w.setCell ⟨b, o, none⟩ v).heap[b]? = some (.cells (cs.setIfInBounds o v) T fr) := by
        show (w.heap.modify b _)[b]? = _
        rw [Array.getElem?_modify, if_pos rfl, hb]; rfl
      obtain ⟨cs', e1, e2⟩ := h6 _ _ _ hb'
      exact ⟨cs', e1, by rw [e2]; simp [spliceV]⟩

theorem spliceV_get (us : List Value) : ∀ (vs : List Value) (off j : Nat), off + us.length ≤ vs.length → (spliceV vs off us)[j]? = if j < off then vs[j]? else if j < off + us.length then us[j - off]? else vs[j]? := by
  induction us with
  | nil => intro vs off j _; simp only [spliceV, List.length_nil, Nat.add_zero]; split <;> rfl
  | cons u us ih =>
    intro vs off j hle
    simp only [List.length_cons] at hle
    simp only [spliceV, List.length_cons]
    rw [ih _ _ _ (by simp; omega)]
    by_cases h1 : j < off
    · rw [if_pos (by omega), if_pos h1, List.getElem?_set_ne (by omega)]
    · by_cases h2 : j = off
      · subst h2
        rw [if_pos (by omega), if_neg (by omega), if_pos (by omega), List.getElem?_set_self (by omega), Nat.sub_self]; rfl
      · rw [if_neg (by omega), if_neg h1]
        by_cases h3 : j < off + (us.length + 1)
        · rw [if_pos (by omega), if_pos h3]
          rw [show j - off = (j - (off + 1)) + 1 by omega]; rfl
        · rw [if_neg (by omega), if_neg h3, List.getElem?_set_ne (by omega)]
theorem spliceV_len (us : List Value) : ∀ (vs : List Value) (off : Nat), (spliceV vs off us).length = vs.length := by
  induction us with
  | nil => intro vs off; rfl
  | cons u us ih => intro vs off; show (spliceV (vs.set off u) (off + 1) us).length = _; rw [ih]; simp

end
end Go.PA
