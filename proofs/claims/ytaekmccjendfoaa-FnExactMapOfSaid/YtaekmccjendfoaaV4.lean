/- Typed values: what they say of plain values and of the plain heap. No condition. -/
import Derived.Test.YtaekmccjendfoaaV3
namespace Go.PA

def All2 {α β : Type} (R : α → β → Prop) : List α → List β → Prop
  | [], [] => True
  | a :: as, b :: bs => R a b ∧ All2 R as bs
  | _, _ => False
/-- As 'All2', each with what it owns. -/
def AllF {α β : Type} (R : α → β → List Nat → Prop) : List α → List β → List Nat → Prop
  | [], [], F => F = []
  | a :: as, b :: bs, F => ∃ F1 F2, F = F1 ++ F2 ∧ R a b F1 ∧ AllF R as bs F2
  | _, _, _ => False

section
variable {α β : Type}
theorem All2.len {R : α → β → Prop} : ∀ {as : List α} {bs : List β}, All2 R as bs → as.length = bs.length
  | [], [], _ => rfl
  | _ :: _, _ :: _, h => by simp [All2.len h.2]
  | [], _ :: _, h => h.elim
  | _ :: _, [], h => h.elim
theorem All2.mono {R S : α → β → Prop} (hR : ∀ a b, R a b → S a b) : ∀ {as : List α} {bs : List β}, All2 R as bs → All2 S as bs
  | [], [], _ => trivial
  | _ :: _, _ :: _, h => ⟨hR _ _ h.1, All2.mono hR h.2⟩
  | [], _ :: _, h => h.elim
  | _ :: _, [], h => h.elim
theorem All2.get {R : α → β → Prop} : ∀ {as : List α} {bs : List β}, All2 R as bs → ∀ (i : Nat) a b, as[i]? = some a → bs[i]? = some b → R a b
  | [], [], _, i, a, b, h, _ => by simp at h
  | x :: as, y :: bs, h, 0, a, b, h1, h2 => by simp at h1 h2; subst h1; subst h2; exact h.1
  | x :: as, y :: bs, h, i + 1, a, b, h1, h2 => All2.get h.2 i a b (by simpa using h1) (by simpa using h2)
  | [], _ :: _, h, _, _, _, _, _ => h.elim
  | _ :: _, [], h, _, _, _, _, _ => h.elim
theorem All2.of_get {R : α → β → Prop} : ∀ {as : List α} {bs : List β}, as.length = bs.length → (∀ (i : Nat) a b, as[i]? = some a → bs[i]? = some b → R a b) → All2 R as bs
  | [], [], _, _ => trivial
  | x :: as, y :: bs, h, H => ⟨H 0 x y rfl rfl, All2.of_get (by simpa using h) fun i a b h1 h2 => H (i + 1) a b (by simpa using h1) (by simpa using h2)⟩
  | [], _ :: _, h, _ => by simp at h
  | _ :: _, [], h, _ => by simp at h
theorem All2.drop {R : α → β → Prop} {as : List α} {bs : List β} (n : Nat) (h : All2 R as bs) : All2 R (as.drop n) (bs.drop n) :=
  .of_get (by simp [h.len]) fun i a b h1 h2 => h.get (n + i) a b (by simpa using h1) (by simpa using h2)
theorem All2.take {R : α → β → Prop} {as : List α} {bs : List β} (n : Nat) (h : All2 R as bs) : All2 R (as.take n) (bs.take n) :=
  .of_get (by simp [h.len]) fun i a b h1 h2 => by
    rw [List.getElem?_take] at h1 h2
    split at h1
    · rename_i hi; rw [if_pos hi] at h2; exact h.get i a b h1 h2
    · cases h1
theorem All2.append {R : α → β → Prop} : ∀ {as : List α} {bs : List β} {as' : List α} {bs' : List β}, All2 R as bs → All2 R as' bs' → All2 R (as ++ as') (bs ++ bs')
  | [], [], _, _, _, h' => h'
  | _ :: _, _ :: _, _, _, h, h' => ⟨h.1, All2.append h.2 h'⟩
  | [], _ :: _, _, _, h, _ => h.elim
  | _ :: _, [], _, _, h, _ => h.elim
theorem All2.set {R : α → β → Prop} {as : List α} {bs : List β} (h : All2 R as bs) (i : Nat) {a : α} {b : β} (hab : R a b) : All2 R (as.set i a) (bs.set i b) :=
  .of_get (by simp [h.len]) fun j x y h1 h2 => by
    rw [List.getElem?_set] at h1 h2
    split at h1
    · rename_i hi
      rw [if_pos hi] at h2
      split at h1
      · split at h2
        · simp at h1 h2; subst h1; subst h2; exact hab
        · cases h2
      · cases h1
    · rename_i hi
      rw [if_neg hi] at h2
      exact h.get j x y h1 h2
theorem All2.splitAt {R : α → β → Prop} {as : List α} : ∀ {as' : List α} {bs : List β}, All2 R (as ++ as') bs → ∃ b1 b2, bs = b1 ++ b2 ∧ All2 R as b1 ∧ All2 R as' b2 := by
  induction as with
  | nil => intro as' bs h; exact ⟨[], bs, rfl, trivial, h⟩
  | cons a as ih =>
    intro as' bs h
    cases bs with
    | nil => exact h.elim
    | cons b bs =>
      obtain ⟨b1, b2, e, h1, h2⟩ := ih h.2
      exact ⟨b :: b1, b2, by rw [e]; rfl, ⟨h.1, h1⟩, h2⟩

theorem AllF.len {R : α → β → List Nat → Prop} : ∀ {as : List α} {bs : List β} {F}, AllF R as bs F → as.length = bs.length
  | [], [], _, _ => rfl
  | _ :: _, _ :: _, _, ⟨_, _, _, _, h⟩ => by simp [AllF.len h]
  | [], _ :: _, _, h => h.elim
  | _ :: _, [], _, h => h.elim
theorem AllF.mono {R S : α → β → List Nat → Prop} : ∀ {as : List α} {bs : List β} {F}, (∀ a b G, (∀ x ∈ G, x ∈ F) → R a b G → S a b G) → AllF R as bs F → AllF S as bs F
  | [], [], _, _, h => h
  | _ :: _, _ :: _, F, hR, ⟨F1, F2, e, h1, h2⟩ => ⟨F1, F2, e, hR _ _ _ (fun x hx => by rw [e]; exact List.mem_append_left _ hx) h1,
      AllF.mono (fun a b G hG => hR a b G fun x hx => by rw [e]; exact List.mem_append_right _ (hG x hx)) h2⟩
  | [], _ :: _, _, _, h => h.elim
  | _ :: _, [], _, _, h => h.elim
theorem AllF.append {R : α → β → List Nat → Prop} : ∀ {as : List α} {bs : List β} {as' : List α} {bs' : List β} {F F'}, AllF R as bs F → AllF R as' bs' F' → AllF R (as ++ as') (bs ++ bs') (F ++ F')
  | [], [], _, _, F, F', h, h' => by cases h; exact h'
  | _ :: _, _ :: _, _, _, _, F', ⟨F1, F2, e, h1, h2⟩, h' => ⟨F1, F2 ++ F', by rw [e, List.append_assoc], h1, h2.append h'⟩
  | [], _ :: _, _, _, _, _, h, _ => h.elim
  | _ :: _, [], _, _, _, _, h, _ => h.elim
theorem AllF.split {R : α → β → List Nat → Prop} : ∀ {as : List α} {bs : List β} {F} (_ : AllF R as bs F) (n : Nat), ∃ F1 F2, F = F1 ++ F2 ∧ AllF R (as.take n) (bs.take n) F1 ∧ AllF R (as.drop n) (bs.drop n) F2
  | [], [], F, h, n => ⟨[], F, rfl, by simp [AllF], by simpa using h⟩
  | _ :: _, _ :: _, F, h, 0 => ⟨[], F, rfl, rfl, h⟩
  | a :: as, b :: bs, F, ⟨F1, F2, e, h1, h2⟩, n + 1 => by
    obtain ⟨G1, G2, e', g1, g2⟩ := AllF.split h2 n
    exact ⟨F1 ++ G1, G2, by rw [e, e', List.append_assoc], ⟨F1, G1, rfl, h1, g1⟩, g2⟩
  | [], _ :: _, _, h, _ => h.elim
  | _ :: _, [], _, h, _ => h.elim
theorem AllF.mono' {R S : α → β → List Nat → Prop} (hR : ∀ a b G, R a b G → S a b G) {as : List α} {bs : List β} {F} (H : AllF R as bs F) : AllF S as bs F := H.mono fun a b G _ => hR a b G
theorem AllF.at_ {R : α → β → List Nat → Prop} : ∀ {as : List α} {bs : List β} {F} (_ : AllF R as bs F) (i : Nat) {a : α}, as[i]? = some a → ∃ b A B C, bs[i]? = some b ∧ F = A ++ B ++ C ∧ R a b B ∧
    ∀ (S : α → β → List Nat → Prop), (∀ a b G, R a b G → S a b G) → ∀ a' b' B', S a' b' B' → AllF S (as.set i a') (bs.set i b') (A ++ B' ++ C)
  | [], [], _, _, i, a, h => by simp at h
  | x :: as, y :: bs, F, ⟨F1, F2, e, h1, h2⟩, 0, a, h => by
    simp at h; subst h
    exact ⟨y, [], F1, F2, rfl, by simpa using e, h1, fun S hS a' b' B' h' => ⟨B', F2, by simp, h', h2.mono' hS⟩⟩
  | x :: as, y :: bs, F, ⟨F1, F2, e, h1, h2⟩, i + 1, a, h => by
    obtain ⟨b, A, B, C, g1, g2, g3, g4⟩ := AllF.at_ h2 i (by simpa using h)
    exact ⟨b, F1 ++ A, B, C, by simpa using g1, by rw [e, g2]; simp [List.append_assoc], g3, fun S hS a' b' B' h' => ⟨F1, A ++ B' ++ C, by simp [List.append_assoc], hS _ _ _ h1, g4 S hS a' b' B' h'⟩⟩
  | [], _ :: _, _, h, _, _, _ => h.elim
  | _ :: _, [], _, h, _, _, _ => h.elim
theorem AllF.of_all2 {R : α → β → List Nat → Prop} : ∀ {as : List α} {bs : List β}, All2 (fun a b => R a b []) as bs → AllF R as bs []
  | [], [], _ => rfl
  | _ :: _, _ :: _, h => ⟨[], [], rfl, h.1, AllF.of_all2 h.2⟩
  | [], _ :: _, h => h.elim
  | _ :: _, [], h => h.elim
theorem AllF.to_all2 {R : α → β → List Nat → Prop} {S : α → β → Prop} : ∀ {as : List α} {bs : List β} {F}, (∀ a b G, (∀ x ∈ G, x ∈ F) → R a b G → S a b) → AllF R as bs F → All2 S as bs
  | [], [], _, _, _ => trivial
  | _ :: _, _ :: _, F, hR, ⟨F1, F2, e, h1, h2⟩ => ⟨hR _ _ _ (fun x hx => by rw [e]; exact List.mem_append_left _ hx) h1,
      AllF.to_all2 (fun a b G hG => hR a b G fun x hx => by rw [e]; exact List.mem_append_right _ (hG x hx)) h2⟩
  | [], _ :: _, _, _, h => h.elim
  | _ :: _, [], _, _, h => h.elim
end

/-! Lists that nobody writes: 'Z' is the rows that nobody writes any more. -/
mutual
def LitC (h : Heap) (Z : List Nat) : (t : Ty) → t.D → AV → Prop
  | .int k, n, a => a = .int k n
  | .bool, b, a => a = .bool b
  | .str, s, a => a = .str s
  | .sl cs, xs, a => (a = .nils ∧ xs = []) ∨ (∃ f ys, a = .lit f ys ∧ All2 (fun x y => LitCs h Z cs x y) xs ys) ∨
      ∃ r off row, a = .ref r off xs.length ∧ r ∈ Z ∧ h.rows r = some row ∧ row.sz = cs.length ∧ off + xs.length ≤ row.el.length ∧ All2 (fun x y => LitCs h Z cs x y) xs ((row.el.drop off).take xs.length)
termination_by structural x => x
def LitCs (h : Heap) (Z : List Nat) : (ts : List Ty) → Ty.Ds ts → List AV → Prop
  | [], _, as => as = []
  | t :: ts, d, as => match as with
    | [] => False
    | a :: as => LitC h Z t d.1 a ∧ LitCs h Z ts d.2 as
termination_by structural x => x
end
/-! Lists in rows: 'F' is the rows. -/
mutual
def OwnC (h : Heap) (Z : List Nat) (m : NM) : (t : Ty) → t.D → AV → List Nat → Prop
  | .int k, n, a, F => a = .int k n ∧ F = []
  | .bool, b, a, F => a = .bool b ∧ F = []
  | .str, s, a, F => a = .str s ∧ F = []
  | .sl cs, xs, a, F => (a = .nils ∧ xs = [] ∧ F = []) ∨
      ((m = .L ∨ m = .A) ∧ LitC h Z (.sl cs) xs a ∧ F = []) ∨
      ((m = .S ∨ m = .A) ∧ ∃ r off row N, a = .ref r off xs.length ∧ h.rows r = some row ∧ row.sz = cs.length ∧ off + xs.length ≤ row.el.length ∧
        AllF (fun x y G => OwnCs h Z m cs x y G) xs ((row.el.drop off).take xs.length) N ∧ F = r :: N)
termination_by structural x => x
def OwnCs (h : Heap) (Z : List Nat) (m : NM) : (ts : List Ty) → Ty.Ds ts → List AV → List Nat → Prop
  | [], _, as, F => as = [] ∧ F = []
  | t :: ts, d, as, F => match as with
    | [] => False
    | a :: as => ∃ F1 F2, F = F1 ++ F2 ∧ OwnC h Z m t d.1 a F1 ∧ OwnCs h Z m ts d.2 as F2
termination_by structural x => x
end

/-- A row and what it holds: 'a' is its slice, 'N' what its elements own. -/
def RowRel (h : Heap) (Z : List Nat) (m : NM) (cs : List Ty) (xs : List (Ty.Ds cs)) (a : AV) (N : List Nat) : Prop :=
  (a = .nils ∧ xs = [] ∧ N = []) ∨ ∃ r off row, a = .ref r off xs.length ∧ h.rows r = some row ∧ row.sz = cs.length ∧ off + xs.length ≤ row.el.length ∧
    AllF (fun x y G => OwnCs h Z m cs x y G) xs ((row.el.drop off).take xs.length) N
def blankD : (ts : List Ty) → Ty.Ds ts → Nat → Ty.Ds ts
  | [], d, _ => d
  | t :: _, d, 0 => (t.d0, d.2)
  | _ :: ts, d, n + 1 => (d.1, blankD ts d.2 n)
/-- Its first elements own their lists, the others' nobody writes. -/
def SpRel (h : Heap) (Z : List Nat) (p : Int) (cs : List Ty) (xs : List (Ty.Ds cs)) (a : AV) (N : List Nat) : Prop :=
  (a = .nils ∧ xs = [] ∧ p = 0 ∧ N = []) ∨ ∃ r off row, a = .ref r off xs.length ∧ h.rows r = some row ∧ row.sz = cs.length ∧ off + xs.length ≤ row.el.length ∧ 0 ≤ p ∧ p ≤ (xs.length : Int) ∧
    AllF (fun x y G => OwnCs h Z .S cs x y G) (xs.take p.toNat) (((row.el.drop off).take xs.length).take p.toNat) N ∧ All2 (fun x y => LitCs h Z cs x y) (xs.drop p.toNat) (((row.el.drop off).take xs.length).drop p.toNat)
/-- Out of one of its elements a list was taken. -/
def HoRel (h : Heap) (Z : List Nat) (k : Int) (fo : Nat) (cs : List Ty) (xs : List (Ty.Ds cs)) (a : AV) (N : List Nat) : Prop :=
  ∃ r off row es, a = .ref r off xs.length ∧ h.rows r = some row ∧ row.sz = cs.length ∧ off + xs.length ≤ row.el.length ∧ 0 ≤ k ∧ k < (xs.length : Int) ∧ row.el[off + k.toNat]? = some es ∧ es.length = cs.length ∧
    AllF (fun x y G => OwnCs h Z .S cs x y G) (xs.set k.toNat (blankD cs (xs.getD k.toNat (Ty.ds0 cs)) fo)) (((row.el.drop off).take xs.length).set k.toNat (es.set fo .nils)) N
def SlotRel (h : Heap) (Z : List Nat) (s : VSlot) (a : AV) (N : List Nat) : Prop := match s with
  | .row r => RowRel h Z r.nm r.cs r.xs a N
  | .sp p r => SpRel h Z p r.cs r.xs a N
  | .ho k fo r => HoRel h Z k fo r.cs r.xs a N
def rid : AV → List Nat
  | .ref r _ _ => [r]
  | _ => []

/-- What is written no more stays, and stays as it is. -/
def ZUp (h : Heap) (Z : List Nat) (h' : Heap) (Z' : List Nat) : Prop := ∀ r ∈ Z, r ∈ Z' ∧ h'.rows r = h.rows r
theorem ZUp.refl (h : Heap) (Z : List Nat) : ZUp h Z h Z := fun _ h => ⟨h, rfl⟩
theorem ZUp.trans {h h' h'' : Heap} {Z Z' Z'' : List Nat} (a : ZUp h Z h' Z') (b : ZUp h' Z' h'' Z'') : ZUp h Z h'' Z'' :=
  fun r hr => ⟨(b r (a r hr).1).1, (b r (a r hr).1).2.trans (a r hr).2⟩
section
variable {h h' : Heap} {Z Z' : List Nat}
mutual
theorem LitC.up (hz : ZUp h Z h' Z') : ∀ (t : Ty) {x : t.D} {a : AV}, LitC h Z t x a → LitC h' Z' t x a
  | .int _, x, a, H => by simpa only [LitC] using H
  | .bool, x, a, H => by simpa only [LitC] using H
  | .str, x, a, H => by simpa only [LitC] using H
  | .sl cs, x, a, H => by
    simp only [LitC] at H ⊢
    rcases H with H | ⟨f, ys, e, H⟩ | ⟨r, off, row, e, h1, h2, h3, h4, H⟩
    · exact .inl H
    · exact .inr (.inl ⟨f, ys, e, H.mono fun x y => LitCs.up hz cs⟩)
    · exact .inr (.inr ⟨r, off, row, e, (hz r h1).1, by rw [(hz r h1).2]; exact h2, h3, h4, H.mono fun x y => LitCs.up hz cs⟩)
theorem LitCs.up (hz : ZUp h Z h' Z') : ∀ (ts : List Ty) {x : Ty.Ds ts} {as : List AV}, LitCs h Z ts x as → LitCs h' Z' ts x as
  | [], x, as, H => by simpa only [LitCs] using H
  | t :: ts, x, [], H => by simp only [LitCs] at H
  | t :: ts, x, a :: as, H => by
    simp only [LitCs] at H ⊢
    exact ⟨LitC.up hz t H.1, LitCs.up hz ts H.2⟩
end
mutual
theorem OwnC.heap {m : NM} (hz : ZUp h Z h' Z') : ∀ (t : Ty) {x : t.D} {a : AV} {F : List Nat}, (∀ r ∈ F, h'.rows r = h.rows r) → OwnC h Z m t x a F → OwnC h' Z' m t x a F
  | .int _, x, a, F, _, H => by simpa only [OwnC] using H
  | .bool, x, a, F, _, H => by simpa only [OwnC] using H
  | .str, x, a, F, _, H => by simpa only [OwnC] using H
  | .sl cs, x, a, F, hs, H => by
    simp only [OwnC] at H ⊢
    rcases H with H | ⟨g, H, e⟩ | ⟨hm, r, off, row, N, h1, h2, h3, h4, h5, h6⟩
    · exact .inl H
    · exact .inr (.inl ⟨g, LitC.up hz _ H, e⟩)
    · refine .inr (.inr ⟨hm, r, off, row, N, h1, ?_, h3, h4, ?_, h6⟩)
      · rw [hs r (by rw [h6]; exact List.mem_cons_self)]; exact h2
      · exact h5.mono fun a b G hG => OwnCs.heap hz cs fun x hx => hs x (by rw [h6]; exact List.mem_cons_of_mem _ (hG x hx))
theorem OwnCs.heap {m : NM} (hz : ZUp h Z h' Z') : ∀ (ts : List Ty) {x : Ty.Ds ts} {as : List AV} {F : List Nat}, (∀ r ∈ F, h'.rows r = h.rows r) → OwnCs h Z m ts x as F → OwnCs h' Z' m ts x as F
  | [], x, as, F, _, H => by simpa only [OwnCs] using H
  | t :: ts, x, [], F, _, H => by simp only [OwnCs] at H
  | t :: ts, x, a :: as, F, hs, H => by
    simp only [OwnCs] at H ⊢
    obtain ⟨F1, F2, e, h1, h2⟩ := H
    exact ⟨F1, F2, e, OwnC.heap hz t (fun r hr => hs r (by rw [e]; exact List.mem_append_left _ hr)) h1, OwnCs.heap hz ts (fun r hr => hs r (by rw [e]; exact List.mem_append_right _ hr)) h2⟩
end
theorem NM.ok_Z : ∀ m, NM.ok .Z m = true := fun _ => rfl
theorem NM.ok_refl : ∀ m : NM, m.ok m = true := by intro m; cases m <;> rfl
theorem NM.ok_A : ∀ m : NM, m.ok .A = true := by intro m; cases m <;> rfl
theorem NM.ok_trans {a b c : NM} (h : a.ok b = true) (h' : b.ok c = true) : a.ok c = true := by cases a <;> cases b <;> cases c <;> simp_all [NM.ok]
theorem NM.ok_join_l (a b : NM) : a.ok (a.join b) = true := by cases a <;> cases b <;> rfl
theorem NM.ok_join_r (a b : NM) : b.ok (a.join b) = true := by cases a <;> cases b <;> rfl
theorem NM.join_ok {a b c : NM} (h : a.ok c = true) (h' : b.ok c = true) : (a.join b).ok c = true := by cases a <;> cases b <;> cases c <;> simp_all [NM.ok, NM.join]
theorem NM.ok_L {a b : NM} (h : a.ok b = true) (ha : a = .L ∨ a = .A) : b = .L ∨ b = .A := by cases a <;> cases b <;> simp_all [NM.ok]
theorem NM.ok_S {a b : NM} (h : a.ok b = true) (ha : a = .S ∨ a = .A) : b = .S ∨ b = .A := by cases a <;> cases b <;> simp_all [NM.ok]
mutual
theorem OwnC.mode {m m' : NM} (hm : m.ok m' = true) : ∀ (t : Ty) {x : t.D} {a : AV} {F : List Nat}, OwnC h Z m t x a F → OwnC h Z m' t x a F
  | .int _, x, a, F, H => by simpa only [OwnC] using H
  | .bool, x, a, F, H => by simpa only [OwnC] using H
  | .str, x, a, F, H => by simpa only [OwnC] using H
  | .sl cs, x, a, F, H => by
    simp only [OwnC] at H ⊢
    rcases H with H | ⟨g, H⟩ | ⟨g, r, off, row, N, h1, h2, h3, h4, h5, h6⟩
    · exact .inl H
    · exact .inr (.inl ⟨NM.ok_L hm g, H⟩)
    · exact .inr (.inr ⟨NM.ok_S hm g, r, off, row, N, h1, h2, h3, h4, h5.mono fun a b G hG => OwnCs.mode hm cs, h6⟩)
theorem OwnCs.mode {m m' : NM} (hm : m.ok m' = true) : ∀ (ts : List Ty) {x : Ty.Ds ts} {as : List AV} {F : List Nat}, OwnCs h Z m ts x as F → OwnCs h Z m' ts x as F
  | [], x, as, F, H => by simpa only [OwnCs] using H
  | t :: ts, x, [], F, H => by simp only [OwnCs] at H
  | t :: ts, x, a :: as, F, H => by
    simp only [OwnCs] at H ⊢
    obtain ⟨F1, F2, e, h1, h2⟩ := H
    exact ⟨F1, F2, e, OwnC.mode hm t h1, OwnCs.mode hm ts h2⟩
end
mutual
theorem LitC.own : ∀ (t : Ty) {x : t.D} {a : AV}, LitC h Z t x a → OwnC h Z .L t x a []
  | .int _, x, a, H => by simp only [LitC, OwnC] at *; exact ⟨H, trivial⟩
  | .bool, x, a, H => by simp only [LitC, OwnC] at *; exact ⟨H, trivial⟩
  | .str, x, a, H => by simp only [LitC, OwnC] at *; exact ⟨H, trivial⟩
  | .sl cs, x, a, H => by
    simp only [OwnC]
    exact .inr (.inl ⟨by simp, H, trivial⟩)
theorem LitCs.own : ∀ (ts : List Ty) {x : Ty.Ds ts} {as : List AV}, LitCs h Z ts x as → OwnCs h Z .L ts x as []
  | [], x, as, H => by simp only [LitCs, OwnCs] at *; exact ⟨H, trivial⟩
  | t :: ts, x, [], H => by simp only [LitCs] at H
  | t :: ts, x, a :: as, H => by
    simp only [LitCs, OwnCs] at *
    exact ⟨[], [], rfl, LitC.own t H.1, LitCs.own ts H.2⟩
end
/-- Under 'L' and 'Z' nothing is owned: only lists that nobody writes. -/
theorem OwnC.lit {m : NM} (hm : m = .L ∨ m = .Z) : ∀ (t : Ty) {x : t.D} {a : AV} {F : List Nat}, OwnC h Z m t x a F → LitC h Z t x a ∧ F = []
  | .int _, x, a, F, H => by simpa only [LitC, OwnC] using H
  | .bool, x, a, F, H => by simpa only [LitC, OwnC] using H
  | .str, x, a, F, H => by simpa only [LitC, OwnC] using H
  | .sl cs, x, a, F, H => by
    simp only [OwnC] at H
    rcases H with ⟨h1, h2, h3⟩ | ⟨_, H, h3⟩ | ⟨g, _⟩
    · exact ⟨by simp only [LitC]; exact .inl ⟨h1, h2⟩, h3⟩
    · exact ⟨H, h3⟩
    · rcases hm with rfl | rfl <;> simp at g
theorem OwnCs.lit {m : NM} (hm : m = .L ∨ m = .Z) : ∀ (ts : List Ty) {x : Ty.Ds ts} {as : List AV} {F : List Nat}, OwnCs h Z m ts x as F → LitCs h Z ts x as ∧ F = []
  | [], x, as, F, H => by simpa only [LitCs, OwnCs] using H
  | t :: ts, x, [], F, H => by simp only [OwnCs] at H
  | t :: ts, x, a :: as, F, H => by
    simp only [LitCs, OwnCs] at *
    obtain ⟨F1, F2, e, h1, h2⟩ := H
    obtain ⟨g1, rfl⟩ := OwnC.lit hm t h1
    obtain ⟨g2, rfl⟩ := OwnCs.lit hm ts h2
    exact ⟨⟨g1, g2⟩, e⟩
/-! What was owned is written no more. -/
mutual
theorem OwnC.froz {m : NM} (hz : ∀ r ∈ Z, r ∈ Z') : ∀ (t : Ty) {x : t.D} {a : AV} {F : List Nat}, (∀ r ∈ F, r ∈ Z') → OwnC h Z m t x a F → LitC h Z' t x a
  | .int _, x, a, F, _, H => by simp only [OwnC] at H; simp only [LitC]; exact H.1
  | .bool, x, a, F, _, H => by simp only [OwnC] at H; simp only [LitC]; exact H.1
  | .str, x, a, F, _, H => by simp only [OwnC] at H; simp only [LitC]; exact H.1
  | .sl cs, x, a, F, hF, H => by
    simp only [OwnC] at H
    rcases H with H | ⟨g, H, e⟩ | ⟨hm, r, off, row, N, h1, h2, h3, h4, h5, h6⟩
    · simp only [LitC]; exact .inl ⟨H.1, H.2.1⟩
    · exact LitC.up (fun r hr => ⟨hz r hr, rfl⟩) _ H
    · simp only [LitC]
      refine .inr (.inr ⟨r, off, row, h1, hF r (by rw [h6]; exact List.mem_cons_self), h2, h3, h4, h5.to_all2 fun a b G hG => OwnCs.froz hz cs fun x hx => hF x (by rw [h6]; exact List.mem_cons_of_mem _ (hG x hx))⟩)
theorem OwnCs.froz {m : NM} (hz : ∀ r ∈ Z, r ∈ Z') : ∀ (ts : List Ty) {x : Ty.Ds ts} {as : List AV} {F : List Nat}, (∀ r ∈ F, r ∈ Z') → OwnCs h Z m ts x as F → LitCs h Z' ts x as
  | [], x, as, F, _, H => by simp only [OwnCs] at H; simp only [LitCs]; exact H.1
  | t :: ts, x, [], F, _, H => by simp only [OwnCs] at H
  | t :: ts, x, a :: as, F, hF, H => by
    simp only [OwnCs] at H
    simp only [LitCs]
    obtain ⟨F1, F2, e, h1, h2⟩ := H
    exact ⟨OwnC.froz hz t (fun r hr => hF r (by rw [e]; exact List.mem_append_left _ hr)) h1, OwnCs.froz hz ts (fun r hr => hF r (by rw [e]; exact List.mem_append_right _ hr)) h2⟩
end
/-- Elements without lists own nothing. -/
theorem OwnCs.flat {m : NM} : ∀ (ts : List Ty) {x : Ty.Ds ts} {as : List AV} {F : List Nat}, hasSl ts = false → OwnCs h Z m ts x as F → F = [] ∧ ∀ h' Z' m', OwnCs h' Z' m' ts x as []
  | [], x, as, F, _, H => by simp only [OwnCs] at *; exact ⟨H.2, fun _ _ _ => ⟨H.1, trivial⟩⟩
  | t :: ts, x, [], F, _, H => by simp only [OwnCs] at H
  | t :: ts, x, a :: as, F, hf, H => by
    simp only [OwnCs] at *
    obtain ⟨F1, F2, e, h1, h2⟩ := H
    cases t with
    | sl cs => simp [hasSl] at hf
    | int k =>
      obtain ⟨rfl, g⟩ := OwnCs.flat ts (by simpa [hasSl] using hf) h2
      simp only [OwnC] at h1 ⊢
      obtain ⟨h1, rfl⟩ := h1
      exact ⟨by simpa using e, fun h' Z' m' => ⟨[], [], rfl, ⟨h1, rfl⟩, g h' Z' m'⟩⟩
    | bool =>
      obtain ⟨rfl, g⟩ := OwnCs.flat ts (by simpa [hasSl] using hf) h2
      simp only [OwnC] at h1 ⊢
      obtain ⟨h1, rfl⟩ := h1
      exact ⟨by simpa using e, fun h' Z' m' => ⟨[], [], rfl, ⟨h1, rfl⟩, g h' Z' m'⟩⟩
    | str =>
      obtain ⟨rfl, g⟩ := OwnCs.flat ts (by simpa [hasSl] using hf) h2
      simp only [OwnC] at h1 ⊢
      obtain ⟨h1, rfl⟩ := h1
      exact ⟨by simpa using e, fun h' Z' m' => ⟨[], [], rfl, ⟨h1, rfl⟩, g h' Z' m'⟩⟩
theorem OwnCs.len {m : NM} : ∀ (ts : List Ty) {x : Ty.Ds ts} {as : List AV} {F : List Nat}, OwnCs h Z m ts x as F → as.length = ts.length
  | [], x, as, F, H => by simp only [OwnCs] at H; rw [H.1]; rfl
  | t :: ts, x, [], F, H => by simp only [OwnCs] at H
  | t :: ts, x, a :: as, F, H => by
    simp only [OwnCs] at H
    obtain ⟨F1, F2, e, h1, h2⟩ := H
    simp [OwnCs.len ts h2]
theorem LitCs.len : ∀ (ts : List Ty) {x : Ty.Ds ts} {as : List AV}, LitCs h Z ts x as → as.length = ts.length
  | [], x, as, H => by simp only [LitCs] at H; rw [H]; rfl
  | t :: ts, x, [], H => by simp only [LitCs] at H
  | t :: ts, x, a :: as, H => by
    simp only [LitCs] at H
    simp [LitCs.len ts H.2]
theorem RowRel.heap {m : NM} {cs : List Ty} {xs : List (Ty.Ds cs)} {a : AV} {N : List Nat} (hz : ZUp h Z h' Z') (hs : ∀ r ∈ rid a ++ N, h'.rows r = h.rows r) (H : RowRel h Z m cs xs a N) : RowRel h' Z' m cs xs a N := by
  rcases H with H | ⟨r, off, row, h1, h2, h3, h4, h5⟩
  · exact .inl H
  · subst h1
    refine .inr ⟨r, off, row, rfl, ?_, h3, h4, ?_⟩
    · rw [hs r (by simp [rid])]; exact h2
    · exact h5.mono fun a b G hG => OwnCs.heap hz cs fun x hx => hs x (List.mem_append_right _ (hG x hx))
theorem SlotRel.heap {sl : VSlot} {a : AV} {N : List Nat} (hz : ZUp h Z h' Z') (hs : ∀ r ∈ rid a ++ N, h'.rows r = h.rows r) (H : SlotRel h Z sl a N) : SlotRel h' Z' sl a N := by
  cases sl with
  | row r => exact RowRel.heap hz hs H
  | sp p r =>
    rcases H with H | ⟨rr, off, row, h1, h2, h3, h4, h5, h6, h7, h8⟩
    · exact .inl H
    · subst h1
      refine .inr ⟨rr, off, row, rfl, by rw [hs rr (by simp [rid])]; exact h2, h3, h4, h5, h6, h7.mono fun a b G hG => OwnCs.heap hz _ fun x hx => hs x (List.mem_append_right _ (hG x hx)), h8.mono fun x y => LitCs.up hz _⟩
  | ho k fo r =>
    obtain ⟨rr, off, row, es, h1, h2, h3, h4, h5, h6, h7, h8, h9⟩ := H
    subst h1
    exact ⟨rr, off, row, es, rfl, by rw [hs rr (by simp [rid])]; exact h2, h3, h4, h5, h6, h7, h8, h9.mono fun a b G hG => OwnCs.heap hz _ fun x hx => hs x (List.mem_append_right _ (hG x hx))⟩
theorem RowRel.mode {m m' : NM} (hm : m.ok m' = true) {cs : List Ty} {xs : List (Ty.Ds cs)} {a : AV} {N : List Nat} (H : RowRel h Z m cs xs a N) : RowRel h Z m' cs xs a N := by
  rcases H with H | ⟨r, off, row, h1, h2, h3, h4, h5⟩
  · exact .inl H
  · exact .inr ⟨r, off, row, h1, h2, h3, h4, h5.mono fun a b G _ => OwnCs.mode hm cs⟩
theorem RowRel.flat {m : NM} {cs : List Ty} {xs : List (Ty.Ds cs)} {a : AV} {N : List Nat} (hf : hasSl cs = false) (m' : NM) (H : RowRel h Z m cs xs a N) : N = [] ∧ RowRel h Z m' cs xs a [] := by
  rcases H with ⟨h1, h2, h3⟩ | ⟨r, off, row, h1, h2, h3, h4, h5⟩
  · exact ⟨h3, .inl ⟨h1, h2, rfl⟩⟩
  · have : ∀ {as : List (Ty.Ds cs)} {bs : List (List AV)} {F}, AllF (fun x y G => OwnCs h Z m cs x y G) as bs F → F = [] ∧ AllF (fun x y G => OwnCs h Z m' cs x y G) as bs [] := by
      intro as
      induction as with
      | nil => intro bs F H; cases bs with
        | nil => cases H; exact ⟨rfl, rfl⟩
        | cons => exact H.elim
      | cons a as ih => intro bs F H; cases bs with
        | nil => exact H.elim
        | cons b bs =>
          obtain ⟨F1, F2, e, g1, g2⟩ := H
          obtain ⟨rfl, k⟩ := OwnCs.flat cs hf g1
          obtain ⟨rfl, k2⟩ := ih g2
          exact ⟨by simpa using e, [], [], rfl, k h Z m', k2⟩
    obtain ⟨e, k⟩ := this h5
    exact ⟨e, .inr ⟨r, off, row, h1, h2, h3, h4, k⟩⟩
/-- A row's elements' lists are written no more. -/
theorem RowRel.froz {m : NM} {cs : List Ty} {xs : List (Ty.Ds cs)} {a : AV} {N : List Nat} (hz : ∀ r ∈ Z, r ∈ Z') (hN : ∀ r ∈ N, r ∈ Z') (H : RowRel h Z m cs xs a N) : RowRel h Z' .L cs xs a [] := by
  rcases H with ⟨h1, h2, _⟩ | ⟨r, off, row, h1, h2, h3, h4, h5⟩
  · exact .inl ⟨h1, h2, rfl⟩
  · exact .inr ⟨r, off, row, h1, h2, h3, h4, .of_all2 (h5.to_all2 fun a b G hG H => LitCs.own cs (OwnCs.froz hz cs (fun x hx => hN x (hG x hx)) H))⟩
/-- A row that is written no more. -/
theorem RowRel.frozA {m : NM} {cs : List Ty} {xs : List (Ty.Ds cs)} {a : AV} {N : List Nat} (hz : ∀ r ∈ Z, r ∈ Z') (hN : ∀ r ∈ rid a ++ N, r ∈ Z') (H : RowRel h Z m cs xs a N) : LitC h Z' (.sl cs) xs a := by
  simp only [LitC]
  rcases H with ⟨h1, h2, _⟩ | ⟨r, off, row, h1, h2, h3, h4, h5⟩
  · exact .inl ⟨h1, h2⟩
  · exact .inr (.inr ⟨r, off, row, h1, hN r (by rw [h1]; simp [rid]), h2, h3, h4, h5.to_all2 fun a b G hG H => OwnCs.froz hz cs (fun x hx => hN x (List.mem_append_right _ (hG x hx))) H⟩)
/-- A row put into a cell. -/
theorem RowRel.toOwn {m : NM} {cs : List Ty} {xs : List (Ty.Ds cs)} {a : AV} {N : List Nat} (H : RowRel h Z m cs xs a N) : OwnC h Z (if m = .Z ∨ m = .S then .S else .A) (.sl cs) xs a (rid a ++ N) := by
  have key : m.ok (if m = .Z ∨ m = .S then .S else .A) = true := by cases m <;> rfl
  have H := H.mode key
  have hS : (if m = .Z ∨ m = .S then NM.S else NM.A) = .S ∨ (if m = .Z ∨ m = .S then NM.S else NM.A) = .A := by cases m <;> simp
  generalize (if m = .Z ∨ m = .S then NM.S else NM.A) = m' at *
  simp only [OwnC]
  rcases H with ⟨rfl, h2, rfl⟩ | ⟨r, off, row, rfl, h2, h3, h4, h5⟩
  · exact .inl ⟨rfl, h2, rfl⟩
  · exact .inr (.inr ⟨hS, r, off, row, N, rfl, h2, h3, h4, h5, rfl⟩)
end
end Go.PA
