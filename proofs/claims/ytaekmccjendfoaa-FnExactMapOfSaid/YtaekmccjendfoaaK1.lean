/- The plain heap: values, rows and boxes without addresses, and how the machine's world stands for them. No condition. -/
import Derived.Calls
import Derived.Tactics
import Derived.Deep.Quiet
namespace Go.PA

/-- A value as a plain proof sees it. 'lit': a slice that nobody writes, by its elements' cells ('true': made since the function began); 'ref': a slice over a row of the plain heap; 'bad': any value. -/
inductive AV where
  | int (k : IntKind) (n : Int)
  | bool (b : Bool)
  | str (s : ByteArray)
  | nils
  | lit (f : Bool) (xs : List (List AV))
  | ref (r off len : Nat)
  | box (b off : Nat)
  | rptr (r idx off : Nat)
  | lptr (cs : List AV)
  | agg (cs : List AV)
  | tup (vs : List AV)
  | fn (f : FuncId) (cap : List AV)
  | bad
  deriving Inhabited

/-- A row: how many cells an element has, and the elements. -/
structure Row where
  sz : Nat
  el : List (List AV)

structure Heap where
  boxes : List (List AV)
  rows : Nat → Option Row
  next : Nat

def Heap.nil : Heap := ⟨[], fun _ => none, 0⟩
def upd (f : Nat → Option Row) (i : Nat) (v : Option Row) : Nat → Option Row := fun j => if j = i then v else f j
theorem upd_same (f : Nat → Option Row) (i : Nat) (v : Option Row) : upd f i v i = v := by simp [upd]
theorem upd_ne (f : Nat → Option Row) (i j : Nat) (v : Option Row) (h : j ≠ i) : upd f i v j = f j := by simp [upd, h]

/-- Where a row lies in the machine: its block, the cell at which it begins, an element's cells, the block's cells. -/
structure RowAt where
  blk : Nat
  start : Nat
  sz : Nat
  bsz : Nat
structure Maps where
  row : Nat → RowAt
  box : Nat → Nat
  base : Nat
  gr : Nat → Bool
  gb : Nat → Bool
/-- A row that comes to lie somewhere. -/
def Maps.setRow (m : Maps) (x : Nat) (a : RowAt) : Maps := { m with row := fun y => if y = x then a else m.row y, gr := fun y => if y = x then false else m.gr y }
def Maps.setBox (m : Maps) (x : Nat) (a : Nat) : Maps := { m with box := fun y => if y = x then a else m.box y, gb := fun y => if y = x then false else m.gb y }

def own (m : Maps) (h : Heap) (b : Nat) : Prop :=
  (∃ i, i < h.boxes.length ∧ m.gb i = false ∧ m.box i = b) ∨ (∃ r row, h.rows r = some row ∧ m.gr r = false ∧ (m.row r).blk = b)

/-- The value of one cell. -/
def cellV : Value → Bool
  | .agg _ | .tuple _ => false
  | _ => true

/-- The machine's value stands for the plain one, in a world, with blocks 'O' owned. -/
inductive VRel (w : World) (O : Nat → Prop) (m : Maps) (nb nr : Nat) : Value → AV → Prop
  | int (k : IntKind) (n : Int) : VRel w O m nb nr (.int k n) (.int k n)
  | bool (b : Bool) : VRel w O m nb nr (.bool b) (.bool b)
  | str (s : ByteArray) : VRel w O m nb nr (.string s) (.str s)
  | nils : VRel w O m nb nr (.slice none 0 0) .nils
  | lit (f : Bool) (a : Option Addr) (cap sz : Nat) (xs : List (List AV)) (vs : Nat → Nat → Value) (hc : xs.length ≤ cap) (ha : xs ≠ [] → a ≠ none) (hsz : ∀ cs ∈ xs, cs.length = sz)
      (hr : ∀ (i j : Nat) cs c, xs[i]? = some cs → cs[j]? = some c → VRel w O m nb nr (vs i j) c)
      (hm : ∀ (i j : Nat) cs c, xs[i]? = some cs → cs[j]? = some c → ∃ ad, a = some ad ∧ ¬ O ad.block ∧ w.cell? (ad.add (i * sz + j)) = some (vs i j) ∧ cellV (vs i j) = true)
      (hf : f = true → xs ≠ [] → ∀ ad, a = some ad → m.base ≤ ad.block) :
      VRel w O m nb nr (.slice a xs.length cap) (.lit f xs)
  | ref (r off len cap : Nat) (hr : r < nr) (hg : m.gr r = false) (hl : len ≤ cap) (hc : (m.row r).start + (off + cap) * (m.row r).sz ≤ (m.row r).bsz) :
      VRel w O m nb nr (.slice (some ⟨(m.row r).blk, (m.row r).start + off * (m.row r).sz, none⟩) len cap) (.ref r off len)
  | box (b off : Nat) (hb : b < nb) (hg : m.gb b = false) : VRel w O m nb nr (.pointer (some ⟨m.box b, off, none⟩)) (.box b off)
  | rptr (r idx off : Nat) (hr : r < nr) (hg : m.gr r = false) : VRel w O m nb nr (.pointer (some ⟨(m.row r).blk, (m.row r).start + idx * (m.row r).sz + off, none⟩)) (.rptr r idx off)
  | lptr (ad : Addr) (cs : List AV) (vs : Nat → Value) (hr : ∀ (j : Nat) c, cs[j]? = some c → VRel w O m nb nr (vs j) c)
      (hm : ∀ (j : Nat) c, cs[j]? = some c → ¬ O ad.block ∧ w.cell? (ad.add j) = some (vs j) ∧ cellV (vs j) = true) : VRel w O m nb nr (.pointer (some ad)) (.lptr cs)
  | agg (vs : Array Value) (cs : List AV) (hs : vs.size = cs.length) (hv : ∀ (j : Nat) v, vs[j]? = some v → cellV v = true) (h : ∀ (j : Nat) v c, vs[j]? = some v → cs[j]? = some c → VRel w O m nb nr v c) :
      VRel w O m nb nr (.agg vs) (.agg cs)
  | tup (vs : Array Value) (cs : List AV) (hs : vs.size = cs.length) (h : ∀ (j : Nat) v c, vs[j]? = some v → cs[j]? = some c → VRel w O m nb nr v c) :
      VRel w O m nb nr (.tuple vs) (.tup cs)
  | fn (f : FuncId) (vs : Array Value) (cs : List AV) (hs : vs.size = cs.length) (h : ∀ (j : Nat) v c, vs[j]? = some v → cs[j]? = some c → VRel w O m nb nr v c) :
      VRel w O m nb nr (.func (.func f) #[] vs) (.fn f cs)
  | bad (v : Value) : VRel w O m nb nr v .bad

theorem block_lt {w : World} {a : Addr} {v : Value} (h : w.cell? a = some v) : a.block < w.heap.size := by
  unfold World.cell? at h
  cases hb : w.heap[a.block]? with
  | none => rw [hb] at h; simp at h
  | some o => exact (Array.getElem?_eq_some_iff.1 hb).1
theorem add_block (a : Addr) (n : Nat) : (a.add n).block = a.block := by unfold Addr.add; split <;> rfl
theorem cell_same {w w' : World} {a : Addr} (h : w'.heap[a.block]? = w.heap[a.block]?) : w'.cell? a = w.cell? a := by unfold World.cell?; rw [h]
theorem add_add (a : Addr) (i j : Nat) : (a.add i).add j = a.add (i + j) := by
  unfold Addr.add
  by_cases h1 : i = 0 <;> by_cases h2 : j = 0 <;> simp [h1, h2, Nat.add_assoc]

theorem VRel.mono {w w' : World} {O O' : Nat → Prop} {m m' : Maps} {nb nb' nr nr' : Nat}
    (hw : ∀ b, b < w.heap.size → ¬ O b → w'.heap[b]? = w.heap[b]?) (hO : ∀ b, b < w.heap.size → ¬ O b → ¬ O' b)
    (hb : ∀ i, i < nb → m.gb i = false → m'.box i = m.box i ∧ m'.gb i = false) (hr : ∀ r, r < nr → m.gr r = false → m'.row r = m.row r ∧ m'.gr r = false) (hnb : nb ≤ nb') (hnr : nr ≤ nr') (hbase : m'.base ≤ m.base)
    {v : Value} {a : AV} (h : VRel w O m nb nr v a) : VRel w' O' m' nb' nr' v a := by
  induction h with
  | int k n => exact .int k n
  | bool b => exact .bool b
  | str s => exact .str s
  | nils => exact .nils
  | lit f a cap sz xs vs hc ha hsz _ hm hf ih =>
    refine .lit f a cap sz xs vs hc ha hsz ih (fun i j cs c h1 h2 => ?_) fun h1 h2 ad h3 => Nat.le_trans hbase (hf h1 h2 ad h3)
    obtain ⟨ad, e, hno, hcell, hv⟩ := hm i j cs c h1 h2
    have hlt := block_lt hcell
    rw [add_block] at hlt
    exact ⟨ad, e, hO _ hlt hno, by rw [cell_same (w := w) (by rw [add_block]; exact hw _ hlt hno)]; exact hcell, hv⟩
  | ref r off len cap h1 hg h2 h3 =>
    have := VRel.ref (w := w') (O := O') (m := m') (nb := nb') (nr := nr') r off len cap (by omega) (hr r h1 hg).2 h2 (by rw [(hr r h1 hg).1]; exact h3)
    rw [(hr r h1 hg).1] at this; exact this
  | box b off h1 hg =>
    have := VRel.box (w := w') (O := O') (m := m') (nb := nb') (nr := nr') b off (by omega) (hb b h1 hg).2
    rw [(hb b h1 hg).1] at this; exact this
  | rptr r idx off h1 hg =>
    have := VRel.rptr (w := w') (O := O') (m := m') (nb := nb') (nr := nr') r idx off (by omega) (hr r h1 hg).2
    rw [(hr r h1 hg).1] at this; exact this
  | lptr ad cs vs _ hm ih =>
    refine .lptr ad cs vs ih fun j c h1 => ?_
    obtain ⟨hno, hcell, hv⟩ := hm j c h1
    have hlt := block_lt hcell
    rw [add_block] at hlt
    exact ⟨hO _ hlt hno, by rw [cell_same (w := w) (by rw [add_block]; exact hw _ hlt hno)]; exact hcell, hv⟩
  | agg vs cs hs hv _ ih => exact .agg vs cs hs hv ih
  | tup vs cs hs _ ih => exact .tup vs cs hs ih
  | fn f vs cs hs _ ih => exact .fn f vs cs hs ih
  | bad v => exact .bad v

/-- The world holds the plain heap. -/
structure HRel (w : World) (m : Maps) (h : Heap) : Prop where
  boxes : ∀ (i : Nat) cs, m.gb i = false → h.boxes[i]? = some cs → ∃ vs T, w.heap[m.box i]? = some (.cells vs T (0, 0)) ∧ vs.size = cs.length ∧
    ∀ (j : Nat) v c, vs[j]? = some v → cs[j]? = some c → cellV v = true ∧ VRel w (own m h) m h.boxes.length h.next v c
  rows : ∀ r row, m.gr r = false → h.rows r = some row → ∃ vs T, w.heap[(m.row r).blk]? = some (.cells vs T (0, 0)) ∧ vs.size = (m.row r).bsz ∧ (m.row r).sz = row.sz ∧
    (m.row r).start + row.el.length * row.sz ≤ vs.size ∧ (∀ cs ∈ row.el, cs.length = row.sz) ∧
    ∀ (i j : Nat) cs c, row.el[i]? = some cs → cs[j]? = some c → ∃ v, vs[(m.row r).start + i * row.sz + j]? = some v ∧ cellV v = true ∧ VRel w (own m h) m h.boxes.length h.next v c
  lt : ∀ r row, h.rows r = some row → r < h.next
  bb : ∀ i j, m.gb i = false → m.gb j = false → i < h.boxes.length → j < h.boxes.length → m.box i = m.box j → i = j
  br : ∀ i r row, m.gb i = false → m.gr r = false → i < h.boxes.length → h.rows r = some row → m.box i ≠ (m.row r).blk
  rr : ∀ r r' row row', m.gr r = false → m.gr r' = false → h.rows r = some row → h.rows r' = some row' → (m.row r).blk = (m.row r').blk → r = r'
  base : m.base ≤ w.heap.size

theorem HRel.lt_box {w : World} {m : Maps} {h : Heap} (H : HRel w m h) {i : Nat} (hg : m.gb i = false) (hi : i < h.boxes.length) : m.box i < w.heap.size := by
  obtain ⟨vs, T, e, _⟩ := H.boxes i _ hg (List.getElem?_eq_getElem hi)
  exact (Array.getElem?_eq_some_iff.1 e).1
theorem HRel.lt_row {w : World} {m : Maps} {h : Heap} (H : HRel w m h) {r : Nat} {row : Row} (hg : m.gr r = false) (hr : h.rows r = some row) : (m.row r).blk < w.heap.size := by
  obtain ⟨vs, T, e, _⟩ := H.rows r row hg hr
  exact (Array.getElem?_eq_some_iff.1 e).1
theorem HRel.own_lt {w : World} {m : Maps} {h : Heap} (H : HRel w m h) {b : Nat} (hb : own m h b) : b < w.heap.size := by
  rcases hb with ⟨i, hi, hg, rfl⟩ | ⟨r, row, hr, hg, rfl⟩
  · exact H.lt_box hg hi
  · exact H.lt_row hg hr

/-- What one piece of code may do to a world that holds a plain heap. -/
structure Turn (w : World) (m : Maps) (h : Heap) (w' : World) (m' : Maps) (h' : Heap) : Prop where
  os : w'.os = w.os
  tape : w'.tape = w.tape
  output : w'.output = w.output
  size : w.heap.size ≤ w'.heap.size
  frame : ∀ b, b < w.heap.size → ¬ own m h b → w'.heap[b]? = w.heap[b]?
  own : ∀ b, b < w.heap.size → own m' h' b → own m h b
  box : ∀ i, i < h.boxes.length → m'.box i = m.box i
  row : ∀ r, r < h.next → m'.row r = m.row r
  nb : h.boxes.length ≤ h'.boxes.length
  nr : h.next ≤ h'.next
  base : m'.base = m.base
  gb : ∀ i, i < h.boxes.length → m'.gb i = m.gb i
  gr : ∀ r, r < h.next → m'.gr r = m.gr r

theorem Turn.refl (w : World) (m : Maps) (h : Heap) : Turn w m h w m h :=
  ⟨rfl, rfl, rfl, Nat.le_refl _, fun _ _ _ => rfl, fun _ _ h => h, fun _ _ => rfl, fun _ _ => rfl, Nat.le_refl _, Nat.le_refl _, rfl, fun _ _ => rfl, fun _ _ => rfl⟩
theorem Turn.trans {w w1 w2 : World} {m m1 m2 : Maps} {h h1 h2 : Heap} (a : Turn w m h w1 m1 h1) (b : Turn w1 m1 h1 w2 m2 h2) : Turn w m h w2 m2 h2 where
  os := b.os.trans a.os
  tape := b.tape.trans a.tape
  output := b.output.trans a.output
  size := Nat.le_trans a.size b.size
  frame x hx hn := (b.frame x (Nat.lt_of_lt_of_le hx a.size) fun ho => hn (a.own x hx ho)).trans (a.frame x hx hn)
  own x hx ho := a.own x hx (b.own x (Nat.lt_of_lt_of_le hx a.size) ho)
  box i hi := (b.box i (Nat.lt_of_lt_of_le hi a.nb)).trans (a.box i hi)
  row r hr := (b.row r (Nat.lt_of_lt_of_le hr a.nr)).trans (a.row r hr)
  nb := Nat.le_trans a.nb b.nb
  nr := Nat.le_trans a.nr b.nr
  base := b.base.trans a.base
  gb i hi := (b.gb i (Nat.lt_of_lt_of_le hi a.nb)).trans (a.gb i hi)
  gr r hr := (b.gr r (Nat.lt_of_lt_of_le hr a.nr)).trans (a.gr r hr)

/-- A value that was told stays told. -/
theorem VRel.turn {w w' : World} {m m' : Maps} {h h' : Heap} (T : Turn w m h w' m' h') {v : Value} {a : AV}
    (H : VRel w (own m h) m h.boxes.length h.next v a) : VRel w' (own m' h') m' h'.boxes.length h'.next v a :=
  H.mono T.frame (fun b hb hn ho => hn (T.own b hb ho)) (fun i hi hg => ⟨T.box i hi, (T.gb i hi).trans hg⟩) (fun r hr hg => ⟨T.row r hr, (T.gr r hr).trans hg⟩) T.nb T.nr (Nat.le_of_eq T.base)

abbrev VR (w : World) (m : Maps) (h : Heap) (v : Value) (a : AV) : Prop := VRel w (own m h) m h.boxes.length h.next v a
def VRs (w : World) (m : Maps) (h : Heap) (vs : Array Value) (as : List AV) : Prop :=
  vs.size = as.length ∧ ∀ (j : Nat) v c, vs[j]? = some v → as[j]? = some c → VR w m h v c

theorem VRs.turn {w w' : World} {m m' : Maps} {h h' : Heap} (T : Turn w m h w' m' h') {vs : Array Value} {as : List AV}
    (H : VRs w m h vs as) : VRs w' m' h' vs as := ⟨H.1, fun j v c h1 h2 => (H.2 j v c h1 h2).turn T⟩

/-- A function with a body of its own. -/
def Callable (P : Program) (f : FuncId) : Prop := ∃ fn, P.funcs[f]? = some fn ∧ fn.body.isNone = false ∧ (fn.name == "runtime.NumGoroutine") = false

/-- **A CALL, AS A PLAIN PROOF SEES IT**: it returns; what comes back and the heap behind it meet 'R'. -/
def PCall (P : Program) (f : FuncId) (args : List AV) (h : Heap) (R : AV → Heap → Prop) : Prop :=
  Callable P f ∧ ∀ (w : World) (m : Maps) (vs : Array Value), HRel w m h → VRs w m h vs args →
    Calls P f vs w fun e w' => ∃ v m' r h', e = .returned v ∧ HRel w' m' h' ∧ VR w' m' h' v r ∧ Turn w m h w' m' h' ∧ R r h'

theorem PCall.mono {P : Program} {f : FuncId} {args : List AV} {h : Heap} {R R' : AV → Heap → Prop} (H : PCall P f args h R) (hR : ∀ r h', R r h' → R' r h') : PCall P f args h R' :=
  ⟨H.1, fun w m vs a b => (H.2 w m vs a b).mono fun _ _ ⟨v, m', r, h', c1, c2, c3, c4, c5⟩ => ⟨v, m', r, h', c1, c2, c3, c4, hR r h' c5⟩⟩

end Go.PA
