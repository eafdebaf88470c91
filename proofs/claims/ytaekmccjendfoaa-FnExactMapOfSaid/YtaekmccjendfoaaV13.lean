/- Typed values: contracts; calls that only read, met anywhere. No condition. -/
import Derived.Test.YtaekmccjendfoaaV12
namespace Go.PA

mutual
def Ty.dep : Ty → Nat
  | .sl cs => Ty.deps cs + 1
  | _ => 0
termination_by structural x => x
def Ty.deps : List Ty → Nat
  | [] => 0
  | t :: ts => Ty.dep t + Ty.deps ts
termination_by structural x => x
end

/-- An argument's or an answer's cells. -/
def ACells : List PK → List AV → List AV → Prop
  | [], [], l => l = []
  | p :: ps, a :: as, l => ∃ c1 c2, l = c1 ++ c2 ∧ (if p.agg = true then a = .agg c1 else c1 = [a]) ∧ c1.length = p.cs.length ∧ ACells ps as c2
  | _, _, _ => False
def Res1 (r : AV) (rs : List AV) : Prop := (∃ a, rs = [a] ∧ r = a) ∨ (rs.length ≠ 1 ∧ r = .tup rs)
def CellRel (h : Heap) (Z : List Nat) (o : Option NM) : (t : Ty) → t.D → AV → List Nat → Prop
  | .sl cs, x, a, F => match o with
    | some m => ∃ N, RowRel h Z m cs x a N ∧ F = rid a ++ N
    | none => LitC h Z (.sl cs) x a ∧ F = []
  | t, x, a, F => LitC h Z t x a ∧ F = []
def CellRels (h : Heap) (Z : List Nat) : (os : List (Option NM)) → (ts : List Ty) → Ty.Ds ts → List AV → List Nat → Prop
  | _, [], _, as, F => as = [] ∧ F = []
  | os, t :: ts, d, as, F => match as with
    | [] => False
    | a :: as => ∃ F1 F2, F = F1 ++ F2 ∧ CellRel h Z (hdO os) t d.1 a F1 ∧ CellRels h Z os.tail ts d.2 as F2
/-- Arguments' or answers' cells; a pointer leads to a box. -/
def PCells (h : Heap) : List PK → List AV → List AV → List Nat → Prop
  | [], [], l, bs => l = [] ∧ bs = []
  | p :: ps, a :: as, l, bs => ∃ c1 c2, l = c1 ++ c2 ∧ c1.length = p.cs.length ∧ match p.ptr with
    | true => ∃ b bs', bs = b :: bs' ∧ a = .box b 0 ∧ h.boxes[b]? = some c1 ∧ PCells h ps as c2 bs'
    | false => (if p.agg = true then a = .agg c1 else c1 = [a]) ∧ PCells h ps as c2 bs
  | _, _, _, _ => False
/-- What boxes hold. -/
def OutC (h : Heap) : List PK → List Nat → List AV → Prop
  | [], [], l => l = []
  | q :: qs, b :: bs, l => ∃ c1 c2, l = c1 ++ c2 ∧ c1.length = q.cs.length ∧ h.boxes[b]? = some c1 ∧ OutC h qs bs c2
  | _, _, _ => False
/-- What stays as it was. -/
structure Fr (h : Heap) (F bs : List Nat) (h' : Heap) : Prop where
  rows : ∀ x, x < h.next → x ∉ F → h'.rows x = h.rows x
  boxes : ∀ b, b < h.boxes.length → b ∉ bs → h'.boxes[b]? = h.boxes[b]?
  nx : h.next ≤ h'.next
  bx : h.boxes.length ≤ h'.boxes.length
def strict (ts : List Ty) : List (Option NM) := ts.map fun _ => some .S

/-- **A CONTRACT.** -/
def CtrOk (P : Program) (f : FuncId) (c : Ctr) : Prop := match c.fresh with
  | true => (Ty.deps (c.rs.flatMap (·.cs)) ≤ 7 ∧ ∀ p ∈ c.rs, p.agg = false → p.cs.length = 1) ∧ ∀ d y, c.fn d = some y → ∀ as l, ACells c.ps as l → LitCs Heap.nil [] (c.ps.flatMap (·.cs)) d l →
      PCall P f as Heap.nil fun r h' => ∃ rs l' F, Res1 r rs ∧ ACells c.rs rs l' ∧ CellRels h' [] (strict (c.rs.flatMap (·.cs))) (c.rs.flatMap (·.cs)) y l' F ∧ F.Nodup
  | false => match c.io with
    | false => ∀ d y, c.fn d = some y → ∀ h as l F bs Z, PCells h c.ps as l bs → CellRels h Z (PK.owns c.ps) (c.ps.flatMap (·.cs)) d l F → F.Nodup → (∀ x ∈ F, x < h.next) → bs.Nodup → (∀ z ∈ Z, z < h.next ∧ z ∉ F) →
      PCall P f as h fun r h' => ∃ rs l1 l2 F' cb Z', Res1 r rs ∧ PCells h' (c.rs.take c.na) rs l1 cb ∧ OutC h' (c.rs.drop c.na) bs l2 ∧ CellRels h' Z' (PK.owns c.rs) (c.rs.flatMap (·.cs)) y (l1 ++ l2) F' ∧ F'.Nodup ∧ cb.Nodup ∧ (∀ b ∈ cb, h.boxes.length ≤ b) ∧
        Fr h F bs h' ∧ (∀ x ∈ F', x < h'.next ∧ (x ∈ F ∨ h.next ≤ x)) ∧ ∀ z ∈ Z', z < h'.next ∧ z ∉ F' ∧ (z ∈ Z ∨ z ∈ F ∨ h.next ≤ z)
    | true => hasSl ((c.rs.take c.na).flatMap (·.cs)) = false ∧ (c.rs.drop c.na).flatMap (·.cs) = c.ps.flatMap (·.cs) ∧ ∀ d y, c.fn d = some y → ∀ h as l F, ACells c.ps as l → CellRels h [] (strict (c.ps.flatMap (·.cs))) (c.ps.flatMap (·.cs)) d l F → F.Nodup → (∀ x ∈ F, x < h.next) →
      PCall P f as h fun r h' => ∃ rs l1 F', Res1 r rs ∧ ACells (c.rs.take c.na) rs l1 ∧ CellRels h' [] (strict (c.rs.flatMap (·.cs))) (c.rs.flatMap (·.cs)) y (l1 ++ l) F' ∧ F'.Nodup ∧ Fr h F [] h' ∧ ∀ x ∈ F', x < h'.next ∧ (x ∈ F ∨ h.next ≤ x)

section
variable {h : Heap}
theorem LitC.nils {Z : List Nat} {cs : List Ty} {xs : List (Ty.Ds cs)} (e : xs = []) : LitC h Z (.sl cs) xs .nils := by simp only [LitC]; exact .inl ⟨trivial, e⟩
/-- Lists as they are told to a call that only reads. -/
abbrev L0 := LitC Heap.nil []
abbrev L0s := LitCs Heap.nil []
/-! Lists read whole. -/
theorem dec_list {Z : List Nat} {m : NM} {cs : List Ty} {n : Nat} (ih : ∀ {x : Ty.Ds cs} {as : List AV} {F : List Nat}, OwnCs h Z m cs x as F → ∃ ts, decC (dec h n) as = some ts ∧ L0s cs x ts) : ∀ {xs : List (Ty.Ds cs)} {els : List (List AV)} {F : List Nat}, AllF (fun x y G => OwnCs h Z m cs x y G) xs els F → ∃ ts, decX (dec h n) els = some ts ∧ All2 (fun x y => L0s cs x y) xs ts
  | [], els, F, H => by obtain ⟨rfl, _⟩ := H.nil_left; exact ⟨[], rfl, trivial⟩
  | x :: xs, [], F, H => H.elim
  | x :: xs, e :: els, F, ⟨F1, F2, _, h1, h2⟩ => by
    obtain ⟨t, g1, g2⟩ := ih h1
    obtain ⟨ts, g3, g4⟩ := dec_list ih h2
    exact ⟨t :: ts, by simp only [decX, g1, g3], g2, g4⟩
theorem dec_lits {Z : List Nat} {cs : List Ty} {n : Nat} (ih : ∀ {x : Ty.Ds cs} {as : List AV}, LitCs h Z cs x as → ∃ ts, decC (dec h n) as = some ts ∧ L0s cs x ts) : ∀ {xs : List (Ty.Ds cs)} {els : List (List AV)}, All2 (fun x y => LitCs h Z cs x y) xs els → ∃ ts, decX (dec h n) els = some ts ∧ All2 (fun x y => L0s cs x y) xs ts
  | [], [], _ => ⟨[], rfl, trivial⟩
  | [], _ :: _, H => H.elim
  | x :: xs, [], H => H.elim
  | x :: xs, e :: els, H => by
    obtain ⟨t, g1, g2⟩ := ih H.1
    obtain ⟨ts, g3, g4⟩ := dec_lits ih H.2
    exact ⟨t :: ts, by simp only [decX, g1, g3], g2, g4⟩
theorem dec_scalar_int (h : Heap) (n : Nat) (k : IntKind) (i : Int) : dec h n (.int k i) = some (.int k i) := by cases n <;> rfl
theorem dec_scalar_bool (h : Heap) (n : Nat) (b : Bool) : dec h n (.bool b) = some (.bool b) := by cases n <;> rfl
theorem dec_scalar_str (h : Heap) (n : Nat) (s : ByteArray) : dec h n (.str s) = some (.str s) := by cases n <;> rfl
theorem dec_nils (h : Heap) (n : Nat) : dec h n .nils = some .nils := by cases n <;> rfl
theorem dec_aels {n : Nat} {a : AV} {els ts : List (List AV)} (ha : aels h a = some els) (ht : decX (dec h n) els = some ts) : (a = .nils ∧ ts = [] ∧ dec h (n + 1) a = some .nils) ∨ dec h (n + 1) a = some (.lit false ts) := by
  cases a <;> simp only [aels, reduceCtorEq, Option.some.injEq] at ha
  case nils => subst ha; simp only [decX, Option.some.injEq] at ht; exact .inl ⟨rfl, ht.symm, rfl⟩
  case lit f xs => subst ha; exact .inr (by simp only [dec, ht])
  case ref r off len => exact .inr (by simp only [dec, aels, ha, ht])
mutual
theorem OwnC.dec {Z : List Nat} {m : NM} : ∀ (t : Ty) {x : t.D} {a : AV} {F : List Nat} {n : Nat}, t.dep ≤ n → OwnC h Z m t x a F → ∃ t', Go.PA.dec h n a = some t' ∧ L0 t x t'
  | .int k, x, a, F, n, _, H => by simp only [OwnC] at H; obtain ⟨rfl, _⟩ := H; exact ⟨_, dec_scalar_int h n k x, by simp only [LitC]⟩
  | .bool, x, a, F, n, _, H => by simp only [OwnC] at H; obtain ⟨rfl, _⟩ := H; exact ⟨_, dec_scalar_bool h n x, by simp only [LitC]⟩
  | .str, x, a, F, n, _, H => by simp only [OwnC] at H; obtain ⟨rfl, _⟩ := H; exact ⟨_, dec_scalar_str h n x, by simp only [LitC]⟩
  | .sl cs, x, a, F, 0, hn, H => by simp only [Ty.dep] at hn; omega
  | .sl cs, x, a, F, n + 1, hn, H => by
    simp only [OwnC] at H
    rcases H with ⟨rfl, rfl, _⟩ | ⟨_, H, _⟩ | ⟨_, r, off, row, N, rfl, h2, h3, h4, h5, _⟩
    · exact ⟨.nils, dec_nils h _, LitC.nils rfl⟩
    · exact LitC.dec (.sl cs) hn H
    · simp only [Ty.dep] at hn
      obtain ⟨ts, g1, g2⟩ := dec_list (n := n) (fun H => OwnCs.dec cs (n := n) (by omega) H) h5
      have ha : aels h (.ref r off x.length) = some ((row.el.drop off).take x.length) := by simp only [aels, h2]; rw [if_pos h4]
      rcases dec_aels ha g1 with ⟨e, _⟩ | g3
      · cases e
      · exact ⟨_, g3, by simp only [LitC]; exact .inr (.inl ⟨_, _, rfl, g2⟩)⟩
theorem OwnCs.dec {Z : List Nat} {m : NM} : ∀ (ts : List Ty) {x : Ty.Ds ts} {as : List AV} {F : List Nat} {n : Nat}, Ty.deps ts ≤ n → OwnCs h Z m ts x as F → ∃ ts', decC (Go.PA.dec h n) as = some ts' ∧ L0s ts x ts'
  | [], x, as, F, n, _, H => by simp only [OwnCs] at H; obtain ⟨rfl, _⟩ := H; exact ⟨[], rfl, by simp only [LitCs]⟩
  | t :: ts, x, [], F, n, _, H => by simp only [OwnCs] at H
  | t :: ts, x, a :: as, F, n, hn, H => by
    simp only [Ty.deps] at hn
    simp only [OwnCs] at H
    obtain ⟨F1, F2, _, h1, h2⟩ := H
    obtain ⟨t', g1, g2⟩ := OwnC.dec t (n := n) (by omega) h1
    obtain ⟨ts', g3, g4⟩ := OwnCs.dec ts (n := n) (by omega) h2
    exact ⟨t' :: ts', by simp only [decC, g1, g3], by simp only [LitCs]; exact ⟨g2, g4⟩⟩
theorem LitC.dec {Z : List Nat} : ∀ (t : Ty) {x : t.D} {a : AV} {n : Nat}, t.dep ≤ n → LitC h Z t x a → ∃ t', Go.PA.dec h n a = some t' ∧ L0 t x t'
  | .int k, x, a, n, _, H => by simp only [LitC] at H; subst H; exact ⟨_, dec_scalar_int h n k x, by simp only [LitC]⟩
  | .bool, x, a, n, _, H => by simp only [LitC] at H; subst H; exact ⟨_, dec_scalar_bool h n x, by simp only [LitC]⟩
  | .str, x, a, n, _, H => by simp only [LitC] at H; subst H; exact ⟨_, dec_scalar_str h n x, by simp only [LitC]⟩
  | .sl cs, x, a, 0, hn, H => by simp only [Ty.dep] at hn; omega
  | .sl cs, x, a, n + 1, hn, H => by
    simp only [Ty.dep] at hn
    simp only [LitC] at H
    rcases H with ⟨rfl, rfl⟩ | ⟨f, ys, rfl, H⟩ | ⟨r, off, row, rfl, h1, h2, h3, h4, H⟩
    · exact ⟨_, dec_nils h _, LitC.nils rfl⟩
    · obtain ⟨ts, g1, g2⟩ := dec_lits (h := h) (n := n) (fun H => LitCs.dec cs (n := n) (by omega) H) H
      exact ⟨.lit false ts, by simp only [Go.PA.dec, g1], by simp only [LitC]; exact .inr (.inl ⟨_, _, rfl, g2⟩)⟩
    · obtain ⟨ts, g1, g2⟩ := dec_lits (h := h) (n := n) (fun H => LitCs.dec cs (n := n) (by omega) H) H
      have ha : aels h (.ref r off x.length) = some ((row.el.drop off).take x.length) := by simp only [aels, h2]; rw [if_pos h4]
      rcases dec_aels ha g1 with ⟨e, _⟩ | g3
      · cases e
      · exact ⟨_, g3, by simp only [LitC]; exact .inr (.inl ⟨_, _, rfl, g2⟩)⟩
theorem LitCs.dec {Z : List Nat} : ∀ (ts : List Ty) {x : Ty.Ds ts} {as : List AV} {n : Nat}, Ty.deps ts ≤ n → LitCs h Z ts x as → ∃ ts', decC (Go.PA.dec h n) as = some ts' ∧ L0s ts x ts'
  | [], x, as, n, _, H => by simp only [LitCs] at H; subst H; exact ⟨[], rfl, by simp only [LitCs]⟩
  | t :: ts, x, [], n, _, H => by simp only [LitCs] at H
  | t :: ts, x, a :: as, n, hn, H => by
    simp only [Ty.deps] at hn
    simp only [LitCs] at H
    obtain ⟨t', g1, g2⟩ := LitC.dec t (n := n) (by omega) H.1
    obtain ⟨ts', g3, g4⟩ := LitCs.dec ts (n := n) (by omega) H.2
    exact ⟨t' :: ts', by simp only [decC, g1, g3], by simp only [LitCs]; exact ⟨g2, g4⟩⟩
end
end
end Go.PA
