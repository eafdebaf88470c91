/- Typed values for plain code: types, data, and what each operation does to them. No condition. -/
import Derived.Test.YtaekmccjendfoaaK3
namespace Go.PA

inductive Ty where
  | int (k : IntKind) | bool | str | sl (cs : List Ty)
mutual
def Ty.D : Ty → Type
  | .int _ => Int
  | .bool => Bool
  | .str => ByteArray
  | .sl cs => List (Ty.Ds cs)
termination_by structural x => x
def Ty.Ds : List Ty → Type
  | [] => Unit
  | t :: ts => Ty.D t × Ty.Ds ts
termination_by structural x => x
end
mutual
def Ty.eq : Ty → Ty → Bool
  | .int k, .int k' => k == k'
  | .bool, .bool => true
  | .str, .str => true
  | .sl a, .sl b => Ty.eqs a b
  | _, _ => false
termination_by structural x => x
def Ty.eqs : List Ty → List Ty → Bool
  | [], [] => true
  | a :: as, b :: bs => Ty.eq a b && Ty.eqs as bs
  | _, _ => false
termination_by structural x => x
end
mutual
theorem Ty.eq_ok : ∀ (a b : Ty), Ty.eq a b = true → a = b
  | .int k, b, h => by cases b <;> simp [Ty.eq] at h; subst h; rfl
  | .bool, b, h => by cases b <;> simp [Ty.eq] at h; rfl
  | .str, b, h => by cases b <;> simp [Ty.eq] at h; rfl
  | .sl a, b, h => by cases b <;> simp [Ty.eq] at h; rw [Ty.eqs_ok _ _ h]
theorem Ty.eqs_ok : ∀ (a b : List Ty), Ty.eqs a b = true → a = b
  | [], b, h => by cases b <;> simp [Ty.eqs] at h; rfl
  | a :: as, b, h => by
    cases b <;> simp [Ty.eqs] at h
    rw [Ty.eq_ok _ _ h.1, Ty.eqs_ok _ _ h.2]
end
def Ty.d0 : (t : Ty) → t.D
  | .int _ => (0 : Int)
  | .bool => false
  | .str => ByteArray.empty
  | .sl cs => ([] : List (Ty.Ds cs))
def Ty.ds0 : (ts : List Ty) → Ty.Ds ts
  | [] => ()
  | t :: ts => (t.d0, Ty.ds0 ts)
/-- The same list, its elements' type told otherwise. -/
def castL (a b : List Ty) (xs : List (Ty.Ds a)) : Option (List (Ty.Ds b)) :=
  if h : Ty.eqs a b = true then some (Ty.eqs_ok a b h ▸ xs) else none

/-- What the lists inside a row's elements are: none, rows of their own, lists that nobody writes, either. -/
inductive NM where | Z | S | L | A
  deriving DecidableEq
def NM.join : NM → NM → NM
  | .Z, m => m
  | m, .Z => m
  | .S, .S => .S
  | .L, .L => .L
  | _, _ => .A

inductive TV where
  | bad | nil
  | int (k : IntKind) (n : Int)
  | bool (b : Bool)
  | str (s : ByteArray)
  | lst (cs : List Ty) (xs : List (Ty.Ds cs))
  | ref (i : Nat)
  | sub (i : Nat) (lo hi : Int)
  | vw (i : Nat) (o : Option (Int × Nat)) (cs : List Ty) (xs : List (Ty.Ds cs))
  | st (l : List TV)
  | tup (l : List TV)
  | box (b off : Nat)
  | rptr (i : Nat) (idx : Int) (off : Nat)
  | lptr (l : List TV)
  | vptr (i : Nat) (l : List TV)
  | fn (f : FuncId) (caps : List TV)
  | gd (t : Nat) (w : Bool) (v : TV)

structure VRow where
  nm : NM
  cs : List Ty
  xs : List (Ty.Ds cs)
/-- A row; or one whose first 'p' elements own their lists, and the others' nobody writes; or one out of whose element 'idx' the list at 'off' was taken. -/
inductive VSlot where
  | row (r : VRow)
  | sp (p : Int) (r : VRow)
  | ho (idx : Int) (off : Nat) (r : VRow)
def VSlot.r : VSlot → VRow
  | .row r => r
  | .sp _ r => r
  | .ho _ _ r => r
/-- 'pn': the first rows that are only lent. -/
structure VS where
  env : List TV
  boxes : List (Option (List TV))
  rows : List (Option VSlot)
  gds : List (Nat × Nat)
  pn : Nat

/-- Where a list was read: in which row, in which element of it. -/
abbrev Src := Option (Nat × Option Int)
def srcO (o : Option Int) (j : Nat) : Option (Int × Nat) := match o with
  | some k => some (k, j)
  | none => none
def toTV (o : Src) (j : Nat) : (t : Ty) → t.D → TV
  | .int k, n => .int k n
  | .bool, b => .bool b
  | .str, s => .str s
  | .sl cs, xs => match o with
    | none => .lst cs xs
    | some (i, k) => .vw i (srcO k j) cs xs
def toTVs (o : Src) : Nat → (ts : List Ty) → Ty.Ds ts → List TV
  | _, [], _ => []
  | j, t :: ts, d => toTV o j t d.1 :: toTVs o (j + 1) ts d.2
def NM.o (m : NM) (i : Nat) (k : Option Int) : Src := match m with
  | .L => none
  | .Z => none
  | _ => some (i, k)

/-! A row that is given up is named by nobody. -/
mutual
def TV.kill (i : Nat) : TV → TV
  | .ref j => if j = i then .bad else .ref j
  | .sub j lo hi => if j = i then .bad else .sub j lo hi
  | .vw j o cs xs => if j = i then .bad else .vw j o cs xs
  | .rptr j a b => if j = i then .bad else .rptr j a b
  | .vptr j l => if j = i then .bad else .vptr j (TV.kills i l)
  | .lptr l => .lptr (TV.kills i l)
  | .st l => .st (TV.kills i l)
  | .tup l => .tup (TV.kills i l)
  | .fn f l => .fn f (TV.kills i l)
  | .gd t w v => .gd t w (TV.kill i v)
  | v => v
termination_by structural x => x
def TV.kills (i : Nat) : List TV → List TV
  | [] => []
  | v :: l => TV.kill i v :: TV.kills i l
termination_by structural x => x
end
/-! Behind a store what was read out of a row's elements is told by nobody. -/
mutual
def TV.dim (i : Nat) : TV → TV
  | .vw j o cs xs => if j = i then .bad else .vw j o cs xs
  | .vptr j l => if j = i then .bad else .vptr j (TV.dims i l)
  | .lptr l => .lptr (TV.dims i l)
  | .st l => .st (TV.dims i l)
  | .tup l => .tup (TV.dims i l)
  | .fn f l => .fn f (TV.dims i l)
  | .gd t w v => .gd t w (TV.dim i v)
  | v => v
termination_by structural x => x
def TV.dims (i : Nat) : List TV → List TV
  | [] => []
  | v :: l => TV.dim i v :: TV.dims i l
termination_by structural x => x
end
def killB (i : Nat) : List (Option (List TV)) → List (Option (List TV))
  | [] => []
  | none :: l => none :: killB i l
  | some cs :: l => some (TV.kills i cs) :: killB i l
def dimB (i : Nat) : List (Option (List TV)) → List (Option (List TV))
  | [] => []
  | none :: l => none :: dimB i l
  | some cs :: l => some (TV.dims i cs) :: dimB i l
def VS.free (s : VS) (i : Nat) : VS := { s with env := TV.kills i s.env, boxes := killB i s.boxes, rows := s.rows.set i none }
def hasSl : List Ty → Bool
  | [] => false
  | .sl _ :: _ => true
  | _ :: l => hasSl l
def VS.touch (s : VS) (i : Nat) : VS := { s with env := TV.dims i s.env, boxes := dimB i s.boxes }
def firstNone {α : Type} : Nat → List (Option α) → Nat
  | n, [] => n
  | n, none :: _ => n
  | n, some _ :: l => firstNone (n + 1) l
def putAt {α : Type} : List (Option α) → Nat → α → List (Option α)
  | [], _, a => [some a]
  | _ :: l, 0, a => some a :: l
  | x :: l, n + 1, a => x :: putAt l n a
def VS.newRow (s : VS) (r : VRow) : Nat × VS := (firstNone 0 s.rows, { s with rows := putAt s.rows (firstNone 0 s.rows) (.row r) })
def VS.newBox (s : VS) (cs : List TV) : Nat × VS := (s.boxes.length, { s with boxes := s.boxes ++ [some cs] })
def VS.slot? (s : VS) (i : Nat) : Option VSlot := match s.rows[i]? with
  | some (some r) => some r
  | _ => none
def VSlot.plain : Option VSlot → Option VRow
  | some (.row r) => some r
  | _ => none
def VS.row? (s : VS) (i : Nat) : Option VRow := VSlot.plain (s.slot? i)
def VS.spare (s : VS) (i : Nat) : Bool := Nat.ble s.pn i
/-! What row 'i's elements own is written no more. -/
mutual
def TV.fz (i : Nat) : TV → TV
  | .vw j o cs xs => if j = i then .lst cs xs else .vw j o cs xs
  | .vptr j l => if j = i then .lptr (TV.fzs i l) else .vptr j (TV.fzs i l)
  | .lptr l => .lptr (TV.fzs i l)
  | .st l => .st (TV.fzs i l)
  | .tup l => .tup (TV.fzs i l)
  | .fn f l => .fn f (TV.fzs i l)
  | .gd t w v => .gd t w (TV.fz i v)
  | v => v
termination_by structural x => x
def TV.fzs (i : Nat) : List TV → List TV
  | [] => []
  | v :: l => TV.fz i v :: TV.fzs i l
termination_by structural x => x
end
def fzB (i : Nat) : List (Option (List TV)) → List (Option (List TV))
  | [] => []
  | none :: l => none :: fzB i l
  | some cs :: l => some (TV.fzs i cs) :: fzB i l
def VS.frz (s : VS) (i : Nat) (r : VRow) : VS := { s with env := TV.fzs i s.env, boxes := fzB i s.boxes, rows := s.rows.set i (some (.row ⟨.L, r.cs, r.xs⟩)) }
/-! Row 'i', and what its elements own, is written no more. -/
mutual
def TV.fa (i : Nat) (r : VRow) : TV → TV
  | .ref j => if j = i then .lst r.cs r.xs else .ref j
  | .sub j lo hi => if j = i then .lst r.cs ((r.xs.take hi.toNat).drop lo.toNat) else .sub j lo hi
  | .rptr j idx off => if j = i then .lptr ((toTVs none 0 r.cs (r.xs.getD idx.toNat (Ty.ds0 r.cs))).drop off) else .rptr j idx off
  | .vw j o cs xs => if j = i then .lst cs xs else .vw j o cs xs
  | .vptr j l => if j = i then .lptr (TV.fas i r l) else .vptr j (TV.fas i r l)
  | .lptr l => .lptr (TV.fas i r l)
  | .st l => .st (TV.fas i r l)
  | .tup l => .tup (TV.fas i r l)
  | .fn f l => .fn f (TV.fas i r l)
  | .gd t w v => .gd t w (TV.fa i r v)
  | v => v
termination_by structural x => x
def TV.fas (i : Nat) (r : VRow) : List TV → List TV
  | [] => []
  | v :: l => TV.fa i r v :: TV.fas i r l
termination_by structural x => x
end
def faB (i : Nat) (r : VRow) : List (Option (List TV)) → List (Option (List TV))
  | [] => []
  | none :: l => none :: faB i r l
  | some cs :: l => some (TV.fas i r cs) :: faB i r l
def VS.frzA (s : VS) (i : Nat) (r : VRow) : VS := { s with env := TV.fas i r s.env, boxes := faB i r s.boxes, rows := s.rows.set i none }
def VS.box? (s : VS) (i : Nat) : Option (List TV) := match s.boxes[i]? with
  | some (some r) => some r
  | _ => none

/-- What becomes of a row whose slice is put elsewhere: it is given up; its elements' lists, or the row too, are written no more; both. -/
inductive Eff where
  | no
  | kill (i : Nat)
  | frz (i : Nat) (r : VRow)
  | frzA (i : Nat) (r : VRow)
  | fk (i : Nat) (r : VRow)
def VS.eff (s : VS) : Eff → VS
  | .no => s
  | .kill i => s.free i
  | .frz i r => s.frz i r
  | .frzA i r => s.frzA i r
  | .fk i r => (s.frz i r).free i
def TV.effs (e : Eff) (l : List TV) : List TV := match e with
  | .no => l
  | .kill i => TV.kills i l
  | .frz i _ => TV.fzs i l
  | .frzA i r => TV.fas i r l
  | .fk i _ => TV.kills i (TV.fzs i l)
/-- A row of its own, that may be given up. -/
def VS.mine (s : VS) (i : Nat) : Option VRow := match s.spare i with
  | true => s.row? i
  | false => none

/-- A value's data, as a cell that lies in memory; a row that is put there is given up. -/
def unL (s : VS) (cs : List Ty) : TV → Option (List (Ty.Ds cs) × NM × Eff)
  | .nil => some ([], .Z, .no)
  | .lst cs' xs => match castL cs' cs xs with
    | some ys => some (ys, .L, .no)
    | none => none
  | .ref i => match s.mine i with
    | some r => match castL r.cs cs r.xs with
      | some ys => some (ys, if r.nm = .Z ∨ r.nm = .S then .S else .A, .kill i)
      | none => none
    | none => none
  | .sub i lo hi => match s.mine i with
    | some r => match castL r.cs cs ((r.xs.take hi.toNat).drop lo.toNat) with
      | some ys => some (ys, .L, .frzA i r)
      | none => none
    | none => none
  | .vw i _ cs' xs => match s.mine i with
    | some r => match castL cs' cs xs with
      | some ys => some (ys, .L, .frz i r)
      | none => none
    | none => none
  | _ => none
def unInt (k : IntKind) : TV → Option (Int × NM × Eff)
  | .int k' n => if k = k' then some (n, .Z, .no) else none
  | _ => none
def unBool : TV → Option (Bool × NM × Eff)
  | .bool b => some (b, .Z, .no)
  | _ => none
def unStr : TV → Option (ByteArray × NM × Eff)
  | .str b => some (b, .Z, .no)
  | _ => none
def unTV (s : VS) : (t : Ty) → TV → Option (t.D × NM × Eff)
  | .int k, v => unInt k v
  | .bool, v => unBool v
  | .str, v => unStr v
  | .sl cs, v => unL s cs v
def unTVs (s : VS) : (ts : List Ty) → List TV → Option (Ty.Ds ts × NM × VS)
  | [], [] => some ((), .Z, s)
  | t :: ts, v :: vs => match unTV s t v with
    | some (d, m, e) => match unTVs (s.eff e) ts (TV.effs e vs) with
      | some (ds, m', s2) => some ((d, ds), m.join m', s2)
      | none => none
    | none => none
  | _, _ => none
/-- No row holds lists of both kinds: then all are lists that nobody writes. -/
def VS.fixA (s : VS) (i : Nat) : VS := match s.row? i with
  | some r => match r.nm with
    | .A => s.frz i r
    | _ => s
  | none => s

/-- What is known of a value from here on. -/
def VS.get (s : VS) (t : Nat) : TV := s.env.getD t .bad
/-- May a value that hangs on guard 'a' be looked at under guard 'g'? -/
def VS.under (s : VS) : Nat → Nat × Bool → Nat × Bool → Bool
  | 0, _, _ => false
  | n + 1, a, g => (a.1 == g.1 && a.2 == g.2) || (match s.get g.1 with
    | .gd t w _ => VS.under s n a (t, w)
    | _ => false)
def TV.under (s : VS) (g : Option (Tmp × Bool)) : TV → TV
  | .gd t w v => match g with
    | some g => if s.under 4 (t, w) g then v else .bad
    | none => .bad
  | v => v
def ofV1 : Value → TV
  | .int k n => .int k n
  | .bool b => .bool b
  | .string b => .str b
  | .slice none 0 0 => .nil
  | _ => .bad
def ofVC : Value → TV
  | .agg cs => if cs.all cellV then .st (cs.toList.map ofV1) else .bad
  | v => ofV1 v
def VS.ev (s : VS) (g : Option (Tmp × Bool)) : Operand → TV
  | .tmp t => (s.get t).under s g
  | .const v => ofVC v
  | .func f => .fn f []
  | .global _ => .bad
/-- Does the guarded operation go on? -/
def VS.cond (s : VS) : Nat → Nat × Bool → Option Bool
  | 0, _ => none
  | n + 1, (t, w) => match s.get t with
    | .bool b => some (if w then b else !b)
    | .gd t0 w0 (.bool b) => match VS.cond s n (t0, w0) with
      | some c => some (c && (if w then b else !b))
      | none => none
    | _ => none
def TV.cells : TV → Option (List TV)
  | .st cs => some cs
  | .bad => none
  | .tup _ => none
  | .gd _ _ _ => none
  | a => some [a]
def tsplice : List TV → Nat → List TV → List TV
  | l, _, [] => l
  | l, off, c :: cs => tsplice (l.set off c) (off + 1) cs
def tload (agg : Bool) (n : Nat) (cs : List TV) : Option TV :=
  if agg then (if n ≤ cs.length then some (.st (cs.take n)) else none) else cs.head?
def ofAV : AV → TV
  | .int k n => .int k n
  | .bool b => .bool b
  | .str s => .str s
  | .nils => .nil
  | _ => .bad
def NM.ok : NM → NM → Bool
  | .Z, _ => true
  | .S, .S => true
  | .L, .L => true
  | _, .A => true
  | _, _ => false

/-- What stands at a place. -/
def VS.place (s : VS) : TV → Option (List TV)
  | .box b off => match s.box? b with
    | some cs => some (cs.drop off)
    | none => none
  | .rptr i idx off => match s.slot? i with
    | some (.row r) => some ((toTVs (r.nm.o i (some idx)) 0 r.cs (r.xs.getD idx.toNat (Ty.ds0 r.cs))).drop off)
    | some (.sp _ r) => some ((toTVs (some (i, none)) 0 r.cs (r.xs.getD idx.toNat (Ty.ds0 r.cs))).drop off)
    | _ => none
  | .lptr l => some l
  | .vptr _ l => some l
  | _ => none
/-- Some of an element's cells anew; the others stay. -/
def putD : (ts : List Ty) → Ty.Ds ts → (off n : Nat) → Ty.Ds ((ts.drop off).take n) → Ty.Ds ts
  | [], d, _, _, _ => d
  | _ :: ts, d, off + 1, n, e => (d.1, putD ts d.2 off n e)
  | _ :: _, d, 0, 0, _ => d
  | _ :: ts, d, 0, n + 1, e => (e.1, putD ts d.2 0 n e.2)
end Go.PA
