/- Typed values: an answer made anew, met in any heap as rows of its own. No condition. -/
import Derived.Test.YtaekmccjendfoaaV14
namespace Go.PA

mutual
def shA (k : Nat) : AV → AV
  | .int q n => .int q n
  | .bool b => .bool b
  | .str s => .str s
  | .nils => .nils
  | .lit f [] => .lit f []
  | .ref r off len => .ref (k + r) off len
  | .agg cs => .agg (shAs k cs)
  | .tup cs => .tup (shAs k cs)
  | _ => .bad
termination_by structural x => x
def shAs (k : Nat) : List AV → List AV
  | [] => []
  | a :: l => shA k a :: shAs k l
termination_by structural x => x
end
theorem shAs_get (k : Nat) : ∀ (l : List AV) (j : Nat), (shAs k l)[j]? = (l[j]?).map (shA k)
  | [], j => by simp [shAs]
  | a :: l, 0 => by simp [shAs]
  | a :: l, j + 1 => by simp [shAs, shAs_get k l j]
theorem shAs_len (k : Nat) : ∀ (l : List AV), (shAs k l).length = l.length
  | [] => rfl
  | a :: l => by simp [shAs, shAs_len k l]
theorem shAs_map (k : Nat) (l : List AV) : shAs k l = l.map (shA k) := List.ext_getElem? fun j => by rw [shAs_get, List.getElem?_map]

theorem VRel.shift {w' : World} {O O2 : Nat → Prop} {m' m2 : Maps} {nb nr nb2 nr2 k : Nat} (hrow : ∀ r, r < nr → m2.row (k + r) = m'.row r ∧ k + r < nr2 ∧ (m'.gr r = false → m2.gr (k + r) = false)) {v : Value} {a : AV} (H : VRel w' O m' nb nr v a) : VRel w' O2 m2 nb2 nr2 v (shA k a) := by
  induction H with
  | int q n => simp only [shA]; exact .int q n
  | bool b => simp only [shA]; exact .bool b
  | str s => simp only [shA]; exact .str s
  | nils => simp only [shA]; exact .nils
  | lit f a cap sz xs vs hc ha hsz _ hm hf ih =>
    cases xs with
    | nil => simp only [shA]; exact .lit f a cap sz [] vs hc (fun h => absurd rfl h) (fun cs h => by simp at h) (fun i j cs c h => by simp at h) (fun i j cs c h => by simp at h) (fun _ h => absurd rfl h)
    | cons => simp only [shA]; exact .bad _
  | ref r off len cap h1 hg h2 h3 =>
    simp only [shA]
    obtain ⟨e, hl, hgg⟩ := hrow r h1
    have := VRel.ref (w := w') (O := O2) (m := m2) (nb := nb2) (nr := nr2) (k + r) off len cap hl (hgg hg) h2 (by rw [e]; exact h3)
    rw [e] at this; exact this
  | agg vs cs hs hv _ ih =>
    simp only [shA]
    refine .agg vs _ (by rw [shAs_len]; exact hs) hv fun j v c h1 h2 => ?_
    rw [shAs_get, Option.map_eq_some_iff] at h2
    obtain ⟨c', h2, rfl⟩ := h2
    exact ih j v c' h1 h2
  | tup vs cs hs _ ih =>
    simp only [shA]
    refine .tup vs _ (by rw [shAs_len]; exact hs) fun j v c h1 h2 => ?_
    rw [shAs_get, Option.map_eq_some_iff] at h2
    obtain ⟨c', h2, rfl⟩ := h2
    exact ih j v c' h1 h2
  | box => simp only [shA]; exact .bad _
  | rptr => simp only [shA]; exact .bad _
  | lptr => simp only [shA]; exact .bad _
  | fn => simp only [shA]; exact .bad _
  | bad => simp only [shA]; exact .bad _

def shHeap (h hs : Heap) : Heap := { boxes := h.boxes, rows := fun x => if x < h.next then h.rows x else (hs.rows (x - h.next)).map fun row => ⟨row.sz, row.el.map (shAs h.next)⟩, next := h.next + hs.next }
def shMaps (h : Heap) (m m' : Maps) : Maps := { row := fun x => if x < h.next then m.row x else m'.row (x - h.next), box := m.box, base := m.base, gr := fun x => if x < h.next then m.gr x else m'.gr (x - h.next), gb := m.gb }

theorem HRel.shift {w w' : World} {m m' : Maps} {h hs : Heap} (H : HRel w m h) (H' : HRel w' m' hs) (T : Turn w m Heap.nil w' m' hs) : HRel w' (shMaps h m m') (shHeap h hs) ∧ Turn w m h w' (shMaps h m m') (shHeap h hs) := by
  have fresh : ∀ b, own m' hs b → w.heap.size ≤ b := fun b hb => by
    rcases Nat.lt_or_ge b w.heap.size with hlt | hge
    · exact absurd (T.own b hlt hb) (own_nil _ b)
    · exact hge
  have hq : ∀ b, b < w.heap.size → w'.heap[b]? = w.heap[b]? := fun b hb => T.frame b hb (own_nil _ b)
  have hge : ∀ x, ¬ x < h.next → (shHeap h hs).rows x = (hs.rows (x - h.next)).map fun row => ⟨row.sz, row.el.map (shAs h.next)⟩ := fun x hx => by simp only [shHeap, hx, if_false]
  have hlt : ∀ x, x < h.next → (shHeap h hs).rows x = h.rows x := fun x hx => by simp only [shHeap, hx, if_true]
  have mlt : ∀ x, x < h.next → (shMaps h m m').row x = m.row x := fun x hx => by simp only [shMaps, hx, if_true]
  have mge : ∀ x, ¬ x < h.next → (shMaps h m m').row x = m'.row (x - h.next) := fun x hx => by simp only [shMaps, hx, if_false]
  have glt : ∀ x, x < h.next → (shMaps h m m').gr x = m.gr x := fun x hx => by simp only [shMaps, hx, if_true]
  have gge : ∀ x, ¬ x < h.next → (shMaps h m m').gr x = m'.gr (x - h.next) := fun x hx => by simp only [shMaps, hx, if_false]
  have Tn : Turn w m h w' (shMaps h m m') (shHeap h hs) := by
    refine ⟨T.os, T.tape, T.output, T.size, fun b hb _ => hq b hb, fun b hb ho => ?_, fun _ _ => rfl, fun r hr => mlt r hr, Nat.le_refl _, Nat.le_add_right _ _, rfl, fun _ _ => rfl, fun r hr => glt r hr⟩
    rcases ho with ⟨i, hi, hg, e⟩ | ⟨r, row, hr, hg, e⟩
    · exact .inl ⟨i, hi, hg, e⟩
    · by_cases hrl : r < h.next
      · rw [hlt r hrl] at hr
        rw [mlt r hrl] at e
        rw [glt r hrl] at hg
        exact .inr ⟨r, row, hr, hg, e⟩
      · rw [hge r hrl, Option.map_eq_some_iff] at hr
        obtain ⟨row', hr, rfl⟩ := hr
        rw [mge r hrl] at e
        rw [gge r hrl] at hg
        have := fresh b (.inr ⟨_, row', hr, hg, e⟩)
        omega
  refine ⟨⟨fun i cs hg hi => ?_, fun r row hg hr => ?_, fun r row hr => ?_, H.bb, fun i r row hg hg' hi hr => ?_, fun r r' row row' hg hg' hr hr' e => ?_, Nat.le_trans H.base T.size⟩, Tn⟩
  · obtain ⟨vs, ty, e, hsz, hv⟩ := H.boxes i cs hg hi
    have hil : i < h.boxes.length := (List.getElem?_eq_some_iff.1 hi).1
    exact ⟨vs, ty, by show w'.heap[m.box i]? = _; rw [hq _ (H.lt_box hg hil)]; exact e, hsz, fun j v c h1 h2 => ⟨(hv j v c h1 h2).1, (hv j v c h1 h2).2.turn Tn⟩⟩
  · by_cases hrl : r < h.next
    · rw [hlt r hrl] at hr
      rw [mlt r hrl]
      rw [glt r hrl] at hg
      obtain ⟨vs, ty, e, hsz, he, hle, hels, hv⟩ := H.rows r row hg hr
      refine ⟨vs, ty, by rw [hq _ (H.lt_row hg hr)]; exact e, hsz, he, hle, hels, fun i j cs c h1 h2 => ?_⟩
      obtain ⟨v, e1, e2, e3⟩ := hv i j cs c h1 h2
      exact ⟨v, e1, e2, e3.turn Tn⟩
    · rw [hge r hrl, Option.map_eq_some_iff] at hr
      obtain ⟨row', hr, rfl⟩ := hr
      rw [mge r hrl]
      rw [gge r hrl] at hg
      obtain ⟨vs, ty, e, hsz, he, hle, hels, hv⟩ := H'.rows _ row' hg hr
      refine ⟨vs, ty, e, hsz, he, by simpa using hle, fun cs hcs => ?_, fun i j cs c h1 h2 => ?_⟩
      · simp only [List.mem_map] at hcs
        obtain ⟨cs', hcs', rfl⟩ := hcs
        rw [shAs_len]; exact hels cs' hcs'
      · simp only [List.getElem?_map, Option.map_eq_some_iff] at h1
        obtain ⟨cs', h1, rfl⟩ := h1
        rw [shAs_get, Option.map_eq_some_iff] at h2
        obtain ⟨c', h2, rfl⟩ := h2
        obtain ⟨v, e1, e2, e3⟩ := hv i j cs' c' h1 h2
        refine ⟨v, e1, e2, VRel.shift (fun r hr => ⟨?_, ?_, fun hg => ?_⟩) e3⟩
        · rw [mge _ (by omega)]; congr 1; omega
        · show h.next + r < h.next + hs.next; omega
        · rw [gge _ (by omega)]; rw [show h.next + r - h.next = r by omega]; exact hg
  · by_cases hrl : r < h.next
    · show r < h.next + hs.next; omega
    · rw [hge r hrl, Option.map_eq_some_iff] at hr
      obtain ⟨row', hr, rfl⟩ := hr
      have := H'.lt _ row' hr
      show r < h.next + hs.next; omega
  · by_cases hrl : r < h.next
    · rw [hlt r hrl] at hr
      rw [mlt r hrl]
      rw [glt r hrl] at hg'
      exact H.br i r row hg hg' hi hr
    · rw [hge r hrl, Option.map_eq_some_iff] at hr
      obtain ⟨row', hr, rfl⟩ := hr
      rw [mge r hrl]
      rw [gge r hrl] at hg'
      have h1 := fresh _ (.inr ⟨_, row', hr, hg', rfl⟩)
      have h2 := H.lt_box hg hi
      intro e
      have e : m.box i = (m'.row (r - h.next)).blk := e
      omega
  · by_cases h1 : r < h.next <;> by_cases h2 : r' < h.next
    · rw [hlt r h1] at hr; rw [hlt r' h2] at hr'; rw [mlt r h1, mlt r' h2] at e
      rw [glt r h1] at hg; rw [glt r' h2] at hg'
      exact H.rr r r' row row' hg hg' hr hr' e
    · rw [hlt r h1] at hr
      rw [hge r' h2, Option.map_eq_some_iff] at hr'
      obtain ⟨row2, hr', rfl⟩ := hr'
      rw [mlt r h1, mge r' h2] at e
      rw [glt r h1] at hg; rw [gge r' h2] at hg'
      have g1 := fresh _ (.inr ⟨_, row2, hr', hg', rfl⟩)
      have g2 := H.lt_row hg hr
      omega
    · rw [hlt r' h2] at hr'
      rw [hge r h1, Option.map_eq_some_iff] at hr
      obtain ⟨row2, hr, rfl⟩ := hr
      rw [mlt r' h2, mge r h1] at e
      rw [gge r h1] at hg; rw [glt r' h2] at hg'
      have g1 := fresh _ (.inr ⟨_, row2, hr, hg, rfl⟩)
      have g2 := H.lt_row hg' hr'
      omega
    · rw [hge r h1, Option.map_eq_some_iff] at hr
      obtain ⟨row2, hr, rfl⟩ := hr
      rw [hge r' h2, Option.map_eq_some_iff] at hr'
      obtain ⟨row3, hr', rfl⟩ := hr'
      rw [mge r h1, mge r' h2] at e
      rw [gge r h1] at hg; rw [gge r' h2] at hg'
      have := H'.rr _ _ row2 row3 hg hg' hr hr' e
      omega

/-! What is owned, elsewhere. -/
section
variable {h hs : Heap}
theorem AllF.sh {Z : List Nat} {cs : List Ty} (ih : ∀ {x : Ty.Ds cs} {as : List AV} {F : List Nat}, OwnCs hs Z .S cs x as F → OwnCs (shHeap h hs) Z .S cs x (shAs h.next as) (F.map (h.next + ·))) : ∀ {xs : List (Ty.Ds cs)} {els : List (List AV)} {F : List Nat}, AllF (fun x y G => OwnCs hs Z .S cs x y G) xs els F →
    AllF (fun x y G => OwnCs (shHeap h hs) Z .S cs x y G) xs (els.map (shAs h.next)) (F.map (h.next + ·))
  | [], els, F, H => by obtain ⟨rfl, rfl⟩ := H.nil_left; rfl
  | x :: xs, [], F, H => H.elim
  | x :: xs, e :: els, F, ⟨F1, F2, e', h1, h2⟩ => ⟨F1.map (h.next + ·), F2.map (h.next + ·), by rw [e', List.map_append], ih h1, AllF.sh ih h2⟩
theorem shRows {r : Nat} {row : Row} (hr : hs.rows r = some row) : (shHeap h hs).rows (h.next + r) = some ⟨row.sz, row.el.map (shAs h.next)⟩ := by
  simp only [shHeap]
  rw [if_neg (by omega), show h.next + r - h.next = r by omega, hr]; rfl
mutual
theorem OwnC.sh {Z : List Nat} : ∀ (t : Ty) {x : t.D} {a : AV} {F : List Nat}, OwnC hs Z .S t x a F → OwnC (shHeap h hs) Z .S t x (shA h.next a) (F.map (h.next + ·))
  | .int _, x, a, F, H => by simp only [OwnC] at *; obtain ⟨rfl, rfl⟩ := H; exact ⟨by simp only [shA], rfl⟩
  | .bool, x, a, F, H => by simp only [OwnC] at *; obtain ⟨rfl, rfl⟩ := H; exact ⟨by simp only [shA], rfl⟩
  | .str, x, a, F, H => by simp only [OwnC] at *; obtain ⟨rfl, rfl⟩ := H; exact ⟨by simp only [shA], rfl⟩
  | .sl cs, x, a, F, H => by
    simp only [OwnC] at *
    rcases H with ⟨h1, h2, rfl⟩ | ⟨h1, _⟩ | ⟨hm, r, off, row, N, rfl, h2, h3, h4, h5, rfl⟩
    · subst h1
      exact .inl ⟨by simp only [shA], h2, rfl⟩
    · simp at h1
    · refine .inr (.inr ⟨hm, h.next + r, off, _, N.map (h.next + ·), by simp only [shA], shRows h2, h3, by simpa using h4, ?_, rfl⟩)
      have := AllF.sh (fun H => OwnCs.sh cs H) h5
      simpa [List.map_take, List.map_drop] using this
theorem OwnCs.sh {Z : List Nat} : ∀ (ts : List Ty) {x : Ty.Ds ts} {as : List AV} {F : List Nat}, OwnCs hs Z .S ts x as F → OwnCs (shHeap h hs) Z .S ts x (shAs h.next as) (F.map (h.next + ·))
  | [], x, as, F, H => by simp only [OwnCs] at *; obtain ⟨rfl, rfl⟩ := H; exact ⟨by simp only [shAs], rfl⟩
  | t :: ts, x, [], F, H => by simp only [OwnCs] at H
  | t :: ts, x, a :: as, F, H => by
    simp only [OwnCs] at H
    obtain ⟨F1, F2, rfl, h1, h2⟩ := H
    simp only [shAs, OwnCs]
    exact ⟨_, _, by rw [List.map_append], OwnC.sh t h1, OwnCs.sh ts h2⟩
end
theorem CellRel.sh {Z : List Nat} {t : Ty} {x : t.D} {a : AV} {F : List Nat} (H : CellRel hs Z (some .S) t x a F) : CellRel (shHeap h hs) Z (some .S) t x (shA h.next a) (F.map (h.next + ·)) := by
  cases t with
  | sl cs =>
    simp only [CellRel] at *
    obtain ⟨N, H, rfl⟩ := H
    rcases H with ⟨rfl, h2, rfl⟩ | ⟨r, off, row, rfl, h2, h3, h4, h5⟩
    · exact ⟨[], .inl ⟨by simp only [shA], h2, rfl⟩, by simp [rid, shA]⟩
    · refine ⟨N.map (h.next + ·), .inr ⟨h.next + r, off, _, by simp only [shA], shRows h2, h3, by simpa using h4, ?_⟩, by simp [rid, shA]⟩
      have := AllF.sh (h := h) (fun H => OwnCs.sh cs H) h5
      simpa [List.map_take, List.map_drop] using this
  | _ => simp only [CellRel, LitC] at *; obtain ⟨rfl, rfl⟩ := H; exact ⟨by simp only [shA], rfl⟩
theorem CellRels.sh {Z : List Nat} : ∀ (ts : List Ty) {x : Ty.Ds ts} {as : List AV} {F : List Nat}, CellRels hs Z (strict ts) ts x as F → CellRels (shHeap h hs) Z (strict ts) ts x (shAs h.next as) (F.map (h.next + ·))
  | [], x, as, F, H => by simp only [CellRels] at *; obtain ⟨rfl, rfl⟩ := H; exact ⟨by simp only [shAs], rfl⟩
  | t :: ts, x, [], F, H => by simp only [CellRels] at H
  | t :: ts, x, a :: as, F, H => by
    simp only [CellRels] at H
    obtain ⟨F1, F2, rfl, h1, h2⟩ := H
    simp only [shAs, CellRels]
    exact ⟨_, _, by rw [List.map_append], h1.sh, CellRels.sh ts h2⟩
theorem ACells.sh {k : Nat} : ∀ (ps : List PK) {as l : List AV}, ACells ps as l → ACells ps (shAs k as) (shAs k l)
  | [], [], l, H => by simp only [ACells] at H; subst H; simp only [shAs, ACells]
  | [], _ :: _, l, H => H.elim
  | _ :: _, [], l, H => H.elim
  | p :: ps, a :: as, l, ⟨c1, c2, e, h1, h2, h3⟩ => by
    subst e
    refine ⟨shAs k c1, shAs k c2, by simp [shAs_map], ?_, by rw [shAs_len]; exact h2, ACells.sh ps h3⟩
    split at h1
    · rename_i hp; rw [if_pos hp, h1]; simp only [shA]
    · rename_i hp; rw [if_neg hp, h1]; simp only [shAs]
end

/-! What is owned is there. -/
theorem AllF.live {h : Heap} {Z : List Nat} {m : NM} {cs : List Ty} (ih : ∀ {x : Ty.Ds cs} {as : List AV} {F : List Nat}, OwnCs h Z m cs x as F → ∀ y ∈ F, ∃ row, h.rows y = some row) : ∀ {xs : List (Ty.Ds cs)} {els : List (List AV)} {F : List Nat}, AllF (fun x y G => OwnCs h Z m cs x y G) xs els F → ∀ y ∈ F, ∃ row, h.rows y = some row
  | [], els, F, H => by obtain ⟨rfl, rfl⟩ := H.nil_left; intro y hy; simp at hy
  | x :: xs, [], F, H => H.elim
  | x :: xs, e :: els, F, ⟨F1, F2, e', h1, h2⟩ => by
    intro y hy
    rw [e'] at hy
    rcases List.mem_append.1 hy with hy | hy
    · exact ih h1 y hy
    · exact AllF.live ih h2 y hy
mutual
theorem OwnC.live {h : Heap} {Z : List Nat} {m : NM} : ∀ (t : Ty) {x : t.D} {a : AV} {F : List Nat}, OwnC h Z m t x a F → ∀ y ∈ F, ∃ row, h.rows y = some row
  | .int _, x, a, F, H => by simp only [OwnC] at H; obtain ⟨_, rfl⟩ := H; intro y hy; simp at hy
  | .bool, x, a, F, H => by simp only [OwnC] at H; obtain ⟨_, rfl⟩ := H; intro y hy; simp at hy
  | .str, x, a, F, H => by simp only [OwnC] at H; obtain ⟨_, rfl⟩ := H; intro y hy; simp at hy
  | .sl cs, x, a, F, H => by
    simp only [OwnC] at H
    rcases H with ⟨_, _, rfl⟩ | ⟨_, _, rfl⟩ | ⟨_, r, off, row, N, _, h2, _, _, h5, rfl⟩
    · intro y hy; simp at hy
    · intro y hy; simp at hy
    · intro y hy
      rcases List.mem_cons.1 hy with rfl | hy
      · exact ⟨row, h2⟩
      · exact AllF.live (fun H => OwnCs.live cs H) h5 y hy
theorem OwnCs.live {h : Heap} {Z : List Nat} {m : NM} : ∀ (ts : List Ty) {x : Ty.Ds ts} {as : List AV} {F : List Nat}, OwnCs h Z m ts x as F → ∀ y ∈ F, ∃ row, h.rows y = some row
  | [], x, as, F, H => by simp only [OwnCs] at H; obtain ⟨_, rfl⟩ := H; intro y hy; simp at hy
  | t :: ts, x, [], F, H => by simp only [OwnCs] at H
  | t :: ts, x, a :: as, F, H => by
    simp only [OwnCs] at H
    obtain ⟨F1, F2, rfl, h1, h2⟩ := H
    intro y hy
    rcases List.mem_append.1 hy with hy | hy
    · exact OwnC.live t h1 y hy
    · exact OwnCs.live ts h2 y hy
end
/-- An answer made anew, as rows. -/
theorem CtrOk.rows {P : Program} {f : FuncId} {c : Ctr} (H : CtrOk P f c) (hf : c.fresh = true) {d : Ty.Ds (c.ps.flatMap (·.cs))} {y : Ty.Ds (c.rs.flatMap (·.cs))} (hy : c.fn d = some y) {ts tl : List AV} (h1 : ACells c.ps ts tl) (h2 : L0s _ d tl)
    {h : Heap} {as : List AV} (V : Views h as ts) : PCall P f as h fun r h' => ∃ rs l' F, Res1 r rs ∧ ACells c.rs rs l' ∧ CellRels h' [] (strict (c.rs.flatMap (·.cs))) (c.rs.flatMap (·.cs)) y l' F ∧ F.Nodup ∧ Fr h [] [] h' ∧ ∀ x ∈ F, x < h'.next ∧ h.next ≤ x := by
  unfold CtrOk at H
  rw [hf] at H
  have R := H.2 d y hy ts tl h1 h2
  refine ⟨R.1, fun w m vs HR hvs => (R.2 w m vs (HRel.nil w _ HR.base) (V.rel HR _ as ts vs hvs)).mono fun e w' ⟨v, m', r, hs, he, H', hv, T, hr⟩ => ?_⟩
  obtain ⟨rs, l, F, k1, k2, k3, k4⟩ := hr
  obtain ⟨G, Tn⟩ := HR.shift H' T
  have hlt : ∀ x ∈ F, x < hs.next := by
    intro x hx
    obtain ⟨row, hrow⟩ := OwnCs.live _ (CellRels.own _ k3) x hx
    exact H'.lt x row hrow
  refine ⟨v, _, shA h.next r, _, he, G, VRel.shift (fun r hr => ⟨?_, ?_, fun hg => ?_⟩) hv, Tn, shAs h.next rs, shAs h.next l, F.map (h.next + ·), ?_, ACells.sh c.rs k2, CellRels.sh _ k3, ?_, ⟨fun x hx _ => by simp only [shHeap, hx, if_true], fun b _ _ => rfl, Nat.le_add_right _ _, Nat.le_refl _⟩, fun x hx => ?_⟩
  · simp only [shMaps]
    rw [if_neg (by omega)]; congr 1; omega
  · show h.next + r < h.next + hs.next; omega
  · simp only [shMaps]
    rw [if_neg (by omega), show h.next + r - h.next = r by omega]; exact hg
  · rcases k1 with ⟨a, rfl, rfl⟩ | ⟨k1, rfl⟩
    · exact .inl ⟨_, by simp only [shAs], rfl⟩
    · exact .inr ⟨by rw [shAs_len]; exact k1, by simp only [shA]⟩
  · exact List.Pairwise.map _ (fun a b hab => by omega) k4
  · simp only [List.mem_map] at hx
    obtain ⟨y, hy, rfl⟩ := hx
    have := hlt y hy
    exact ⟨by show _ < h.next + hs.next; omega, by omega⟩
end Go.PA
