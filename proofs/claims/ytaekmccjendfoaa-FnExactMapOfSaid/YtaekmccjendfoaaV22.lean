/- Arguments out of the machine's memory, as typed data; a law's call with arguments. No condition. -/
import Derived.Test.YtaekmccjendfoaaV21
import Derived.Test.YtaekmccjendfoaaK19
import Derived.Deep.Slices
import Derived.SizedLaws
import Derived.ChangeArms
import Derived.ChangeShapes
import Derived.WideShapes
import Derived.Carry
import Derived.OpenShut
namespace Go.PA
set_option linter.unusedVariables false
set_option linter.unusedSimpArgs false
open Go.ChangeShapes Go.WideShapes Go.RowKit

/-- How many bytes a cell takes at least. -/
def Ty.by : Ty → Nat
  | .int .i64 => 8
  | .int _ => 1
  | .bool => 1
  | .str => 16
  | .sl _ => 24
def Ty.bys : List Ty → Nat
  | [] => 0
  | t :: ts => t.by + Ty.bys ts
def inK (k : IntKind) (n : Int) : Prop := k.min ≤ n ∧ n ≤ k.max
def fitS (s : ByteArray) : Prop := s.size ≤ 140737488351232
def fitL {α : Type} (b : Nat) (R : α → Prop) (xs : List α) : Prop := xs.length * b ≤ 140737488351232 ∧ ∀ x, x ∈ xs → R x
mutual
def Fit : (t : Ty) → t.D → Prop
  | .int k, n => inK k n
  | .bool, _ => True
  | .str, s => fitS s
  | .sl cs, xs => fitL (Ty.bys cs) (fun x => Fits cs x) xs
termination_by structural x => x
def Fits : (ts : List Ty) → Ty.Ds ts → Prop
  | [], _ => True
  | t :: ts, d => Fit t d.1 ∧ Fits ts d.2
termination_by structural x => x
end

def fldB (P : Program) (r : TypeId → List Ty → Bool) : List Field → Nat → List Ty → Bool
  | [], _, cs => cs.isEmpty
  | f :: fs, off, cs => Nat.beq f.offset off && (r f.type (cs.take (P.cellsOf f.type)) && fldB P r fs (off + P.cellsOf f.type) (cs.drop (P.cellsOf f.type)))
/-- A type's cells. -/
def tyB (P : Program) : Nat → TypeId → List Ty → Bool
  | 0, _, _ => false
  | n + 1, t, cs => match P.underlying t with
    | some (.int k) => match cs with
      | [.int k'] => decide (k = k')
      | _ => false
    | some .bool => match cs with
      | [.bool] => true
      | _ => false
    | some .string => match cs with
      | [.str] => true
      | _ => false
    | some (.slice e) => match cs with
      | [.sl es] => tyB P n e es && (Nat.beq (P.cellsOf e) es.length && Nat.ble (Ty.bys es) (P.bytesOf e))
      | _ => false
    | some (.struct fs) => Nat.beq (P.cellsOf t) cs.length && fldB P (tyB P n) fs.toList 0 cs
    | _ => false

/-- Cells, read as typed data. -/
def Opn (W : World) (cs : List Ty) (vs : List Value) : Prop := ∃ d as, LitCs Heap.nil [] cs d as ∧ Fits cs d ∧ CR W Maps.none Heap.nil vs as

theorem CR.nil' {W : World} {m : Maps} {h : Heap} : CR W m h [] [] := ⟨rfl, fun _ h => (List.not_mem_nil h).elim, fun j v c h => by simp at h⟩
theorem CR.app {W : World} {m : Maps} {h : Heap} {vs us : List Value} {as bs : List AV} (H : CR W m h vs as) (K : CR W m h us bs) : CR W m h (vs ++ us) (as ++ bs) := by
  refine ⟨by simp [H.1, K.1], fun v hv => ?_, fun j v c h1 h2 => ?_⟩
  · rcases List.mem_append.1 hv with hv | hv
    · exact H.2.1 v hv
    · exact K.2.1 v hv
  · by_cases hj : j < vs.length
    · rw [List.getElem?_append_left hj] at h1
      rw [List.getElem?_append_left (by rw [← H.1]; exact hj)] at h2
      exact H.2.2 j v c h1 h2
    · have hj' := Nat.le_of_not_lt hj
      rw [List.getElem?_append_right hj'] at h1
      rw [List.getElem?_append_right (by rw [← H.1]; exact hj'), ← H.1] at h2
      exact K.2.2 _ v c h1 h2
theorem lits_app : ∀ {a b : List Ty} {x : Ty.Ds a} {y : Ty.Ds b} {as bs : List AV}, LitCs Heap.nil [] a x as → LitCs Heap.nil [] b y bs → Fits a x → Fits b y → ∃ z : Ty.Ds (a ++ b), LitCs Heap.nil [] (a ++ b) z (as ++ bs) ∧ Fits (a ++ b) z
  | [], b, x, y, as, bs, h, k, f, g => by simp only [LitCs] at h; subst h; exact ⟨y, k, g⟩
  | t :: a, b, x, y, [], bs, h, k, f, g => by simp only [LitCs] at h
  | t :: a, b, x, y, c :: as, bs, h, k, f, g => by
    simp only [LitCs] at h
    simp only [Fits] at f
    obtain ⟨z, h1, h2⟩ := lits_app h.2 k f.2 g
    refine ⟨(x.1, z), ?_, ?_⟩
    · show LitCs Heap.nil [] (t :: (a ++ b)) _ (c :: (as ++ bs))
      simp only [LitCs]
      exact ⟨h.1, h1⟩
    · show Fits (t :: (a ++ b)) _
      simp only [Fits]
      exact ⟨f.1, h2⟩
theorem Opn.app {W : World} {a b : List Ty} {vs us : List Value} (H : Opn W a vs) (K : Opn W b us) : Opn W (a ++ b) (vs ++ us) := by
  obtain ⟨d, as, h1, h2, h3⟩ := H
  obtain ⟨e, bs, k1, k2, k3⟩ := K
  obtain ⟨z, z1, z2⟩ := lits_app h1 k1 h2 k2
  exact ⟨z, _, z1, z2, h3.app k3⟩
theorem Opn.one {W : World} {t : Ty} (x : t.D) (a : AV) {v : Value} (h1 : LitC Heap.nil [] t x a) (h2 : Fit t x) (h3 : cellV v = true) (h4 : VR W Maps.none Heap.nil v a) : Opn W [t] [v] := by
  refine ⟨(x, ()), [a], ?_, ?_, rfl, ?_, ?_⟩
  · simp only [LitCs]; exact ⟨h1, trivial⟩
  · simp only [Fits]; exact ⟨h2, trivial⟩
  · intro u hu; cases List.mem_singleton.1 hu; exact h3
  · intro j u c e1 e2
    cases j with
    | zero => simp at e1 e2; subst e1; subst e2; exact h4
    | succ j => simp at e1
theorem All2.map2 {α β γ : Type} {R : β → γ → Prop} {f : α → β} {g : α → γ} : ∀ {l : List α}, (∀ a, a ∈ l → R (f a) (g a)) → All2 R (l.map f) (l.map g)
  | [], _ => trivial
  | a :: l, h => ⟨h a (List.mem_cons_self ..), All2.map2 fun b hb => h b (List.mem_cons_of_mem _ hb)⟩
theorem weightsAll_mem {H : Type} {P : Program} {e : TypeId} : ∀ {l : List (DataW H)} {d : DataW H}, d ∈ l → ∀ n ∈ d.weights P e, n ∈ DataW.weightsAll P e l
  | x :: l, d, hd, n, hn => by
    simp only [DataW.weightsAll, List.mem_append]
    rcases List.mem_cons.1 hd with rfl | hd
    · exact .inl hn
    · exact .inr (weightsAll_mem hd n hn)

section
variable {H : Type} {enc : TypeId × Value → H} {P : Program} {W : World} {base : Nat} {spare : Nat → Bool} {held : Bool}
theorem fld_open {r : TypeId → List Ty → Bool} {n : Nat} {vs : List Value} (ih : ∀ t cs us x, r t cs = true → DataW.trod enc P W base spare held n t us = some x → (∀ w, w ∈ x.1.weights P t → w ≤ reachBytes) → Opn W cs us) :
    ∀ (fs : List Field) (off : Nat) (cs : List Ty) (xs : List (DataW H × List MemPlace)), fldB P r fs off cs = true →
      (∀ (i : Nat) (f : Field), fs[i]? = some f → DataW.trod enc P W base spare held n f.type ((vs.drop f.offset).take (P.cellsOf f.type)) = xs[i]?) → xs.length = fs.length →
      (∀ w, w ∈ DataW.weightsEach P (fs.map (·.type)) (xs.map (·.1)) → w ≤ reachBytes) → (vs.drop off).length = cs.length → Opn W cs (vs.drop off)
  | [], off, cs, xs, hb, hx, hl, hw, hn => by
    simp only [fldB, List.isEmpty_iff] at hb
    subst hb
    rw [List.length_nil, List.length_eq_zero_iff] at hn
    rw [hn]
    refine ⟨(), [], ?_, ?_, CR.nil'⟩
    · simp only [LitCs]
    · simp only [Fits]
  | f :: fs, off, cs, [], hb, hx, hl, hw, hn => by simp at hl
  | f :: fs, off, cs, x :: xs, hb, hx, hl, hw, hn => by
    simp only [fldB, Bool.and_eq_true] at hb
    obtain ⟨ho, hr, hb⟩ := hb
    have ho' : f.offset = off := Nat.eq_of_beq_eq_true ho
    have h0 := hx 0 f rfl
    rw [ho'] at h0
    have O := ih _ _ _ x hr h0 fun w hw' => hw w (by simp only [List.map_cons, DataW.weightsEach, List.mem_append]; exact .inl hw')
    have R := fld_open ih fs (off + P.cellsOf f.type) (cs.drop (P.cellsOf f.type)) xs hb (fun i g hg => hx (i + 1) g hg) (by simpa using hl)
      (fun w hw' => hw w (by simp only [List.map_cons, DataW.weightsEach, List.mem_append]; exact .inr hw')) (by simp only [List.length_drop] at hn ⊢; omega)
    have A := O.app R
    rw [List.take_append_drop, ← List.drop_drop, List.take_append_drop] at A
    exact A

theorem trod_open : ∀ (k n : Nat) (t : TypeId) (cs : List Ty) (vs : List Value) (x : DataW H × List MemPlace), tyB P k t cs = true → DataW.trod enc P W base spare held n t vs = some x →
    (∀ w, w ∈ x.1.weights P t → w ≤ reachBytes) → Opn W cs vs
  | 0, n, t, cs, vs, x, hb, _, _ => by simp [tyB] at hb
  | k + 1, n, t, cs, vs, x, hb, hx, hw => by
    unfold tyB at hb
    split at hb
    · rename_i kk hu
      split at hb
      · obtain ⟨i, rfl, rfl, hwf⟩ := DataW.trod_int hu hx
        have e := of_decide_eq_true hb
        subst e
        simp only [Lit.wf, Bool.and_eq_true, decide_eq_true_eq] at hwf
        exact Opn.one (t := .int _) (i : Int) (.int _ i) (by simp only [LitC]) (by simp only [Fit]; exact hwf) rfl (.int _ _)
      · cases hb
    · rename_i hu
      split at hb
      · obtain ⟨b, rfl, rfl⟩ := DataW.trod_bool hu hx
        exact Opn.one (t := .bool) (b : Bool) (.bool b) (by simp only [LitC]) (by simp only [Fit]) rfl (.bool _)
      · cases hb
    · rename_i hu
      split at hb
      · obtain ⟨s, rfl, rfl, hs⟩ := DataW.trod_string hu hx
        refine Opn.one (t := .str) (s : ByteArray) (.str s) (by simp only [LitC]) ?_ rfl (.str _)
        simp only [Fit]
        have h1 : s.data.toList.length ≤ reachBytes := hw _ (by simp only [DataW.weights]; exact List.mem_cons_self ..)
        have h2 : s.data.toList.length = s.size := Array.length_toList
        have h3 : reachBytes = 140737488351232 := by rfl
        show s.size ≤ 140737488351232
        omega
      · cases hb
    · rename_i e hu
      split at hb
      · rename_i es
        simp only [Bool.and_eq_true] at hb
        obtain ⟨hb, hc, hby⟩ := hb
        have hc' : P.cellsOf e = es.length := Nat.eq_of_beq_eq_true hc
        have hby' : Ty.bys es ≤ P.bytesOf e := Nat.le_of_ble_eq_true hby
        rcases Deep.open_slice hu hx with ⟨rfl, rfl⟩ | ⟨a, len, cap, m, n', D, Pl, rfl, _, hl, _, hm, rfl, hel⟩
        · refine Opn.one (t := .sl es) ([] : List (Ty.Ds es)) .nils ?_ ?_ rfl .nils
          · simp only [LitC]; exact .inl ⟨trivial, rfl⟩
          · simp only [Fit]; exact ⟨by rw [List.length_nil, Nat.zero_mul]; exact Nat.zero_le _, fun x hx => (List.not_mem_nil hx).elim⟩
        · have hlm : len ≤ m := by rw [hm]; split <;> omega
          have hw0 : (len + (m - len)) * P.bytesOf e ≤ reachBytes := hw _ (by simp only [DataW.weights, hu, List.length_map, List.length_range]; exact List.mem_cons_self ..)
          have hwe : ∀ i, i < len → ∀ w, w ∈ (D i).weights P e → w ≤ reachBytes := by
            intro i hi w hw'
            refine hw _ ?_
            simp only [DataW.weights, hu]
            refine List.mem_cons_of_mem _ (List.mem_append.2 (.inl ?_))
            exact weightsAll_mem (List.mem_map.2 ⟨i, List.mem_range.2 hi, rfl⟩) w hw'
          haveI : Inhabited (Ty.Ds es × List AV × List Value) := ⟨(Ty.ds0 es, [], [])⟩
          obtain ⟨f, hf⟩ := Deep.choose_lt (α := Ty.Ds es × List AV × List Value) (n := len) (p := fun i z => LitCs Heap.nil [] es z.1 z.2.1 ∧ Fits es z.1 ∧ CR W Maps.none Heap.nil z.2.2 z.2.1 ∧ W.cells? base (a.add (i * P.cellsOf e)) (P.cellsOf e) = some z.2.2) (by
            intro i hi
            obtain ⟨cs', h1, h2⟩ := hel i (Nat.lt_of_lt_of_le hi hlm)
            obtain ⟨d, as, o1, o2, o3⟩ := trod_open k _ e es cs' _ hb h2 (hwe i hi)
            exact ⟨(d, as, cs'), o1, o2, o3, h1⟩)
          refine Opn.one (t := .sl es) ((List.range len).map (fun i => (f i).1) : List (Ty.Ds es)) (.lit false ((List.range len).map fun i => (f i).2.1)) ?_ ?_ rfl ?_
          · simp only [LitC]
            exact .inr (.inl ⟨_, _, rfl, All2.map2 fun i hi => (hf i (List.mem_range.1 hi)).1⟩)
          · simp only [Fit]
            refine ⟨?_, fun x hx => ?_⟩
            · rw [List.length_map, List.length_range]
              have h1 : len * Ty.bys es ≤ (len + (m - len)) * P.bytesOf e := Nat.mul_le_mul (by omega) hby'
              have h2 : reachBytes = 140737488351232 := by rfl
              omega
            · obtain ⟨i, hi, rfl⟩ := List.mem_map.1 hx
              exact (hf i (List.mem_range.1 hi)).2.1
          · have hget : ∀ (i : Nat) as, ((List.range len).map fun i => (f i).2.1)[i]? = some as → i < len ∧ as = (f i).2.1 := by
              intro i as h
              rw [List.getElem?_map] at h
              by_cases hi : i < len
              · rw [List.getElem?_range hi] at h
                simp at h
                exact ⟨hi, h.symm⟩
              · rw [List.getElem?_eq_none (by simpa using hi)] at h
                cases h
            have hl' : ((List.range len).map fun i => (f i).2.1).length = len := by simp
            have key : ∀ (i j : Nat) as c, ((List.range len).map fun i => (f i).2.1)[i]? = some as → as[j]? = some c → (f i).2.2[j]? = some ((f i).2.2.getD j (.bool false)) ∧ j < es.length ∧ i < len ∧ as = (f i).2.1 := by
              intro i j as c h1 h2
              obtain ⟨hi, rfl⟩ := hget i as h1
              obtain ⟨q1, q2, q3, q4⟩ := hf i hi
              have hj : j < (f i).2.2.length := by rw [q3.1]; exact (List.getElem?_eq_some_iff.1 h2).1
              have := (World.cells?_some q4).2.1
              refine ⟨?_, by omega, hi, rfl⟩
              rw [List.getElem?_eq_getElem hj]
              simp [List.getD, List.getElem?_eq_getElem hj]
            have V := VRel.lit (w := W) (O := own Maps.none Heap.nil) (m := Maps.none) (nb := Heap.nil.boxes.length) (nr := Heap.nil.next) false (some a) cap es.length ((List.range len).map fun i => (f i).2.1) (fun i j => (f i).2.2.getD j (.bool false))
              (by rw [hl']; exact hl) (fun _ => by simp) (by
                intro as has
                obtain ⟨i, hi, rfl⟩ := List.mem_map.1 has
                obtain ⟨q1, q2, q3, q4⟩ := hf i (List.mem_range.1 hi)
                rw [← q3.1, (World.cells?_some q4).2.1, hc'])
              (by
                intro i j as c h1 h2
                obtain ⟨e1, _, hi, rfl⟩ := key i j as c h1 h2
                exact (hf i hi).2.2.1.2.2 j _ c e1 h2)
              (by
                intro i j as c h1 h2
                obtain ⟨e1, hj, hi, rfl⟩ := key i j as c h1 h2
                obtain ⟨q1, q2, q3, q4⟩ := hf i hi
                refine ⟨a, rfl, own_nil _ _, ?_, q3.2.1 _ (List.mem_of_getElem? e1)⟩
                have := (World.cells?_some q4).2.2 j (by rw [hc']; exact hj)
                rw [Go.PA.add_add, hc'] at this
                rw [this]
                exact e1)
              (fun h => by cases h)
            rw [hl'] at V
            exact V
      · cases hb
    · rename_i fs hu
      simp only [Bool.and_eq_true] at hb
      obtain ⟨hc, hb⟩ := hb
      have hc' : P.cellsOf t = cs.length := Nat.eq_of_beq_eq_true hc
      obtain ⟨xs, n', rfl, rfl, hl, hxl, hxs⟩ := DataW.trod_struct hu hx
      have := fld_open (vs := vs) (fun t cs us x h1 h2 h3 => trod_open k n' t cs us x h1 h2 h3) fs.toList 0 cs xs hb (fun i f hf => hxs i f (by simpa using hf)) (by simpa using hxl)
        (fun w hw' => hw w (by simp only [DataW.weights, hu]; exact hw')) (by simp only [List.drop_zero]; omega)
      simpa using this
    · cases hb

/-! ### Arguments -/
def pkB (P : Program) (t : TypeId) (p : PK) : Bool := tyB P 20 t p.cs && (match P.underlying t with
  | some (.struct _) => p.agg
  | some (.array _ _) => false
  | _ => !p.agg)
def pksB (P : Program) : List TypeId → List PK → Bool
  | [], [] => true
  | t :: ts, p :: ps => pkB P t p && pksB P ts ps
  | _, _ => false
theorem arg_open {t : TypeId} {p : PK} {v : Value} {d : DataW H} {pl : List MemPlace} {b : Nat} {r : Reach} (hp : pkB P t p = true) (hv : Value.okWide P W r b t v) (h : DataW.Trod enc P W base spare held t v d pl)
    (hw : ∀ w, w ∈ d.weights P t → w ≤ reachBytes) : ∃ x l a, LitCs Heap.nil [] p.cs x l ∧ Fits p.cs x ∧ (if p.agg = true then a = .agg l else l = [a]) ∧ l.length = p.cs.length ∧ VR W Maps.none Heap.nil v a := by
  simp only [pkB, Bool.and_eq_true] at hp
  obtain ⟨hb, ha⟩ := hp
  obtain ⟨n, hn⟩ := h
  obtain ⟨x, l, h1, h2, h3⟩ := trod_open 20 n t p.cs _ _ hb hn hw
  have hlen : ∀ (cs : List Ty) (x : Ty.Ds cs) (l : List AV), LitCs Heap.nil [] cs x l → l.length = cs.length := by
    intro cs
    induction cs with
    | nil => intro x l h; simp only [LitCs] at h; simp [h]
    | cons c cs ih =>
      intro x l h
      cases l with
      | nil => simp only [LitCs] at h
      | cons a l => simp only [LitCs] at h; simp [ih _ _ h.2]
  have hll := hlen _ _ _ h1
  have single : p.agg = false → v.cells.toList = [v] → ∃ x l a, LitCs Heap.nil [] p.cs x l ∧ Fits p.cs x ∧ (if p.agg = true then a = .agg l else l = [a]) ∧ l.length = p.cs.length ∧ VR W Maps.none Heap.nil v a := by
    intro hag hc
    rw [hc] at h3
    match l, h3.1 with
    | [a], _ => exact ⟨x, [a], a, h1, h2, by rw [hag]; rfl, hll, h3.2.2 0 v a rfl rfl⟩
  unfold tyB at hb
  split at hb
  · rename_i hu
    obtain ⟨i, rfl⟩ := okWide_int hu hv
    rw [hu] at ha
    exact single (by simpa using ha) rfl
  · rename_i hu
    obtain ⟨i, rfl⟩ := okWide_bool hu hv
    rw [hu] at ha
    exact single (by simpa using ha) rfl
  · rename_i hu
    obtain ⟨i, rfl⟩ := okWide_string hu hv
    rw [hu] at ha
    exact single (by simpa using ha) rfl
  · rename_i hu
    obtain ⟨a, len, cap, rfl⟩ := okWide_slice hu hv
    rw [hu] at ha
    exact single (by simpa using ha) rfl
  · rename_i hu
    obtain ⟨cs, rfl, hcs⟩ := okWide_struct hu hv
    rw [hu] at ha
    have ha' : p.agg = true := ha
    have h3' : CR W Maps.none Heap.nil cs.toList l := h3
    refine ⟨x, l, .agg l, h1, h2, by rw [ha']; rfl, hll, .agg cs l (by rw [← h3'.1]; simp) (fun j v hv => h3'.2.1 v ?_) fun j v c e1 e2 => h3'.2.2 j v c (by simpa using e1) e2⟩
    have : cs.toList[j]? = some v := by simpa using hv
    exact List.mem_of_getElem? this
  · cases hb
theorem weightsEach_left {ts us : List TypeId} {ds gs : List (DataW H)} : ∀ w, w ∈ DataW.weightsEach P ts ds → w ∈ DataW.weightsEach P (ts ++ us) (ds ++ gs) := by
  induction ts generalizing ds with
  | nil => intro w hw; simp [DataW.weightsEach] at hw
  | cons t ts ih =>
    cases ds with
    | nil => intro w hw; simp [DataW.weightsEach] at hw
    | cons d ds =>
      intro w hw
      simp only [DataW.weightsEach, List.cons_append, List.mem_append] at hw ⊢
      rcases hw with hw | hw
      · exact .inl hw
      · exact .inr (ih w hw)
theorem args_open {b : Nat} {r : Reach} : ∀ (ts : List TypeId) (ps : List PK) (vs : List Value) (ds : List (DataW H)) (pl : List MemPlace), pksB P ts ps = true → DataW.TrodAll enc P W base spare held ts vs ds pl →
    (∀ (j : Nat) t v, ts[j]? = some t → vs[j]? = some v → Value.okWide P W r b t v) → (∀ w, w ∈ DataW.weightsEach P ts ds → w ≤ reachBytes) →
    ∃ x l as, LitCs Heap.nil [] (ps.flatMap (·.cs)) x l ∧ Fits (ps.flatMap (·.cs)) x ∧ ACells ps as l ∧ vs.length = as.length ∧ ∀ (j : Nat) v c, vs[j]? = some v → as[j]? = some c → VR W Maps.none Heap.nil v c
  | [], [], vs, ds, pl, hb, h, hv, hw => by
    obtain ⟨rfl, rfl, rfl⟩ := trodAll_nil h
    refine ⟨(), [], [], ?_, ?_, ?_, rfl, fun j v c h => by simp at h⟩
    · show LitCs Heap.nil [] [] _ _
      simp only [LitCs]
    · show Fits [] _
      simp only [Fits]
    · simp only [ACells]
  | t :: ts, p :: ps, vs, ds, pl, hb, h, hv, hw => by
    obtain ⟨v, vs', d, ds', p0, q, rfl, rfl, rfl, h0, hr⟩ := trodAll_cons h
    simp only [pksB, Bool.and_eq_true] at hb
    obtain ⟨x, l, a, a1, a2, a3, a4, a5⟩ := arg_open hb.1 (hv 0 t v rfl rfl) h0 fun w hw' => hw w (by simp only [DataW.weightsEach, List.mem_append]; exact .inl hw')
    obtain ⟨y, l', as, b1, b2, b3, b4, b5⟩ := args_open ts ps vs' ds' q hb.2 hr (fun j t v e1 e2 => hv (j + 1) t v e1 e2) fun w hw' => hw w (by simp only [DataW.weightsEach, List.mem_append]; exact .inr hw')
    obtain ⟨z, z1, z2⟩ := lits_app a1 b1 a2 b2
    refine ⟨z, l ++ l', a :: as, z1, z2, ?_, by simp [b4], fun j u c e1 e2 => ?_⟩
    · simp only [ACells]
      exact ⟨l, l', rfl, a3, a4, b3⟩
    · cases j with
      | zero => simp at e1 e2; subst e1; subst e2; exact a5
      | succ j => exact b5 j u c e1 e2
  | [], _ :: _, _, _, _, hb, _, _, _ => by simp [pksB] at hb
  | _ :: _, [], _, _, _, hb, _, _, _ => by simp [pksB] at hb

def rTrue : Option (Ty.Ds ([PK.mk (some .S) false [Ty.bool] false].flatMap (·.cs))) := some ((true, ()) : Bool × Unit)
theorem tabC_head (f : FuncId) (c : Ctr) (l : List (FuncId × Ctr)) : tabC ((f, c) :: l) f = some c := by
  have h : Nat.beq f f = true := Nat.beq_refl f
  simp only [tabC, h]
/-- **A law with arguments.** -/
theorem AllC.law {T : List (FuncId × Ctr)} {f : FuncId} {ps : List PK} {F : Ty.Ds (ps.flatMap (·.cs)) → Option (Ty.Ds ([PK.mk (some .S) false [Ty.bool] false].flatMap (·.cs)))}
    (hT : AllC P ((f, ⟨true, false, 1, ps, [⟨some .S, false, [.bool], false⟩], F⟩) :: T)) {ts : List TypeId} (hB : pksB P ts ps = true) (pure : ∀ d, Fits (ps.flatMap (·.cs)) d → F d = rTrue)
    {b : Nat} {r : Reach} {args : Array Value} {ds gs : List (DataW H)} {us : List TypeId} {pl : List MemPlace} (hA : DataW.TrodAll enc P W base spare held ts args.toList ds pl)
    (hval : ∀ (j : Nat) t v, ts[j]? = some t → args[j]? = some v → Value.okWide P W r b t v) (hsz : (DataW.weightsEach P (ts ++ us) (ds ++ gs)).all (· ≤ reachBytes) = true) :
    Calls P f args W fun e W' => e = .returned (.bool true) ∧ Below W.heap.size W W' := by
  obtain ⟨x, l, as, a1, a2, a3, a4, a5⟩ := args_open ts ps args.toList ds pl hB hA (fun j t v e1 e2 => hval j t v e1 (by simpa using e2)) fun w hw => by
    have := List.all_eq_true.1 hsz w (weightsEach_left w hw)
    simpa using this
  have C := hT f _ (tabC_head _ _ _)
  unfold CtrOk at C
  refine PCall.law (ts := as) ((C.2 x _ (pure x a2) as l a3 a1).mono ?_) W args ⟨by simpa using a4, fun j v c e1 e2 => a5 j v c (by simpa using e1) e2⟩
  rintro r h' ⟨rs, l', F', k1, k2, k3, _⟩
  obtain ⟨a, rfl, rfl⟩ : ∃ a, rs = [a] ∧ l' = [a] := by
    match rs with
    | [] => exact k2.elim
    | a :: rs =>
      obtain ⟨c1, c2, rfl, e1, e2, k⟩ := k2
      match rs, k with
      | [], k =>
        have k : c2 = [] := k
        subst k
        have e1 : c1 = [a] := e1
        exact ⟨a, rfl, by rw [e1]; rfl⟩
  have k3' : ∃ F1 F2, F' = F1 ++ F2 ∧ CellRel h' [] (some .S) .bool (true : Bool) a F1 ∧ CellRels h' [] [] [] () [] F2 := k3
  obtain ⟨F1, F2, _, k4, _⟩ := k3'
  simp only [CellRel, LitC] at k4
  rcases k1 with ⟨a', e3, rfl⟩ | ⟨e3, _⟩
  · cases e3
    rw [k4.1]
    rfl
  · exact absurd rfl e3
/-- Arguments read behind the call as they did before. -/
theorem args_below {W' : World} (hl : laidOutB P = true) : ∀ (ts : List TypeId) (vs : List Value) (ds : List (DataW H)) (pl : List MemPlace), (ts.all fun t => P.readableRec t && decide (t < P.types.size)) = true →
    DataW.TrodAll enc P W 0 (fun _ => true) true ts vs ds pl → Below W.heap.size W W' → DataW.TrodAll enc P W' 0 (fun b => decide (b < W.heap.size)) true ts vs ds pl
  | [], vs, ds, pl, hb, h, B => by
    obtain ⟨rfl, rfl, rfl⟩ := trodAll_nil h
    exact trodAll_mk0
  | t :: ts, vs, ds, pl, hb, h, B => by
    obtain ⟨v, vs', d, ds', p0, q, rfl, rfl, rfl, h0, hr⟩ := trodAll_cons h
    simp only [List.all_cons, Bool.and_eq_true, decide_eq_true_eq] at hb
    have lt0 : ∀ x ∈ p0, x.block < W.heap.size := by obtain ⟨m, hm⟩ := h0; exact DataW.trod_lt m _ _ _ hm
    exact trodAll_cons_mk (Below.trod hl hb.1.1 hb.1.2 h0 B lt0) (args_below hl ts vs' ds' q hb.2 hr B)
theorem args_len : ∀ (ts : List TypeId) (vs : List Value) (ds : List (DataW H)) (pl : List MemPlace), DataW.TrodAll enc P W base spare held ts vs ds pl → ds.length = ts.length
  | [], vs, ds, pl, h => by obtain ⟨rfl, rfl, rfl⟩ := trodAll_nil h; rfl
  | t :: ts, vs, ds, pl, h => by
    obtain ⟨v, vs', d, ds', p0, q, rfl, rfl, rfl, h0, hr⟩ := trodAll_cons h
    simp only [List.length_cons, args_len ts vs' ds' q hr]
end
end Go.PA
