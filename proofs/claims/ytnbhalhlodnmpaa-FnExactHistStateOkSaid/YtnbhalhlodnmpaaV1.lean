/- Typed values for plain code: types, data, and what each operation does to them. No condition. -/
import Derived.Test.YtnbhalhlodnmpaaK3
namespace Go.PA

inductive Ty where
  | int (k : IntKind) | bool | str | sl (cs : List Ty)
mutual
def Ty.D : Ty → Type
  | .int _ => Int
  | .bool => Bool
  | .str => ByteArray
  | .sl cs => List (Ty.Ds cs)
termination_by structural x => x
def Ty.Ds : List Ty → Type
  | [] => Unit
  | t :: ts => Ty.D t × Ty.Ds ts
termination_by structural x => x
end
mutual
def Ty.eq : Ty → Ty → Bool
  | .int k, .int k' => k == k'
  | .bool, .bool => true
  | .str, .str => true
  | .sl a, .sl b => Ty.eqs a b
  | _, _ => false
termination_by structural x => x
def Ty.eqs : List Ty → List Ty → Bool
  | [], [] => true
  | a :: as, b :: bs => Ty.eq a b && Ty.eqs as bs
  | _, _ => false
termination_by structural x => x
end
mutual
theorem Ty.eq_ok : ∀ (a b : Ty), Ty.eq a b = true → a = b
  | .int k, b, h => by cases b <;> simp [Ty.eq] at h; subst h; rfl
  | .bool, b, h => by cases b <;> simp [Ty.eq] at h; rfl
  | .str, b, h => by cases b <;> simp [Ty.eq] at h; rfl
  | .sl a, b, h => by cases b <;> simp [Ty.eq] at h; rw [Ty.eqs_ok _ _ h]
theorem Ty.eqs_ok : ∀ (a b : List Ty), Ty.eqs a b = true → a = b
  | [], b, h => by cases b <;> simp [Ty.eqs] at h; rfl
  | a :: as, b, h => by
    cases b <;> simp [Ty.eqs] at h
    rw [Ty.eq_ok _ _ h.1, Ty.eqs_ok _ _ h.2]
end
def Ty.d0 : (t : Ty) → t.D
  | .int _ => (0 : Int)
  | .bool => false
  | .str => ByteArray.empty
  | .sl cs => ([] : List (Ty.Ds cs))
def Ty.ds0 : (ts : List Ty) → Ty.Ds ts
  | [] => ()
  | t :: ts => (t.d0, Ty.ds0 ts)
/-- The same list, its elements' type told otherwise. -/
def castL (a b : List Ty) (xs : List (Ty.Ds a)) : Option (List (Ty.Ds b)) :=
  if h : Ty.eqs a b = true then some (Ty.eqs_ok a b h ▸ xs) else none

/-- What the lists inside a row's elements are: none, rows of their own, lists that nobody writes, either. -/
inductive NM where | Z | S | L | A
  deriving DecidableEq
def NM.join : NM → NM → NM
  | .Z, m => m
  | m, .Z => m
  | .S, .S => .S
  | .L, .L => .L
  | _, _ => .A

inductive TV where
  | bad | nil
  | int (k : IntKind) (n : Int)
  | bool (b : Bool)
  | str (s : ByteArray)
  | lst (cs : List Ty) (xs : List (Ty.Ds cs))
  | ref (i : Nat)
  | sub (i : Nat) (lo hi : Int)
  | vw (i : Nat) (cs : List Ty) (xs : List (Ty.Ds cs))
  | st (l : List TV)
  | tup (l : List TV)
  | box (b off : Nat)
  | rptr (i : Nat) (idx : Int) (off : Nat)
  | lptr (l : List TV)
  | vptr (i : Nat) (l : List TV)
  | fn (f : FuncId) (caps : List TV)
  | gd (t : Nat) (w : Bool) (v : TV)

structure VRow where
  nm : NM
  cs : List Ty
  xs : List (Ty.Ds cs)
structure VS where
  env : List TV
  boxes : List (Option (List TV))
  rows : List (Option VRow)
  gds : List (Nat × Nat)

def toTV (o : Option Nat) : (t : Ty) → t.D → TV
  | .int k, n => .int k n
  | .bool, b => .bool b
  | .str, s => .str s
  | .sl cs, xs => match o with
    | none => .lst cs xs
    | some i => .vw i cs xs
def toTVs (o : Option Nat) : (ts : List Ty) → Ty.Ds ts → List TV
  | [], _ => []
  | t :: ts, d => toTV o t d.1 :: toTVs o ts d.2
def NM.o (m : NM) (i : Nat) : Option Nat := match m with
  | .L => none
  | .Z => none
  | _ => some i

/-! A row that is given up is named by nobody. -/
mutual
def TV.kill (i : Nat) : TV → TV
  | .ref j => if j = i then .bad else .ref j
  | .sub j lo hi => if j = i then .bad else .sub j lo hi
  | .vw j cs xs => if j = i then .bad else .vw j cs xs
  | .rptr j a b => if j = i then .bad else .rptr j a b
  | .vptr j l => if j = i then .bad else .vptr j (TV.kills i l)
  | .lptr l => .lptr (TV.kills i l)
  | .st l => .st (TV.kills i l)
  | .tup l => .tup (TV.kills i l)
  | .fn f l => .fn f (TV.kills i l)
  | .gd t w v => .gd t w (TV.kill i v)
  | v => v
termination_by structural x => x
def TV.kills (i : Nat) : List TV → List TV
  | [] => []
  | v :: l => TV.kill i v :: TV.kills i l
termination_by structural x => x
end
/-! Behind a store what was read out of a row's elements is told by nobody. -/
mutual
def TV.dim (i : Nat) : TV → TV
  | .vw j cs xs => if j = i then .bad else .vw j cs xs
  | .vptr j l => if j = i then .bad else .vptr j (TV.dims i l)
  | .lptr l => .lptr (TV.dims i l)
  | .st l => .st (TV.dims i l)
  | .tup l => .tup (TV.dims i l)
  | .fn f l => .fn f (TV.dims i l)
  | .gd t w v => .gd t w (TV.dim i v)
  | v => v
termination_by structural x => x
def TV.dims (i : Nat) : List TV → List TV
  | [] => []
  | v :: l => TV.dim i v :: TV.dims i l
termination_by structural x => x
end
def killB (i : Nat) : List (Option (List TV)) → List (Option (List TV))
  | [] => []
  | none :: l => none :: killB i l
  | some cs :: l => some (TV.kills i cs) :: killB i l
def dimB (i : Nat) : List (Option (List TV)) → List (Option (List TV))
  | [] => []
  | none :: l => none :: dimB i l
  | some cs :: l => some (TV.dims i cs) :: dimB i l
def VS.free (s : VS) (i : Nat) : VS := { s with env := TV.kills i s.env, boxes := killB i s.boxes, rows := s.rows.set i none }
def hasSl : List Ty → Bool
  | [] => false
  | .sl _ :: _ => true
  | _ :: l => hasSl l
def VS.touch (s : VS) (i : Nat) (cs : List Ty) : VS := match hasSl cs with
  | true => { s with env := TV.dims i s.env, boxes := dimB i s.boxes }
  | false => s
def firstNone {α : Type} : Nat → List (Option α) → Nat
  | n, [] => n
  | n, none :: _ => n
  | n, some _ :: l => firstNone (n + 1) l
def putAt {α : Type} : List (Option α) → Nat → α → List (Option α)
  | [], _, a => [some a]
  | _ :: l, 0, a => some a :: l
  | x :: l, n + 1, a => x :: putAt l n a
def VS.newRow (s : VS) (r : VRow) : Nat × VS := (firstNone 0 s.rows, { s with rows := putAt s.rows (firstNone 0 s.rows) r })
def VS.newBox (s : VS) (cs : List TV) : Nat × VS := (s.boxes.length, { s with boxes := s.boxes ++ [some cs] })
def VS.row? (s : VS) (i : Nat) : Option VRow := match s.rows[i]? with
  | some (some r) => some r
  | _ => none
def VS.box? (s : VS) (i : Nat) : Option (List TV) := match s.boxes[i]? with
  | some (some r) => some r
  | _ => none

/-- A value's data, as a cell that lies in memory; a row that is put there is given up. -/
def unTV (s : VS) : (t : Ty) → TV → Option (t.D × NM × Option Nat)
  | .int k, .int k' n => if k = k' then some (n, .Z, none) else none
  | .bool, .bool b => some (b, .Z, none)
  | .str, .str b => some (b, .Z, none)
  | .sl _, .nil => some ([], .Z, none)
  | .sl cs, .lst cs' xs => match castL cs' cs xs with
    | some ys => some (ys, .L, none)
    | none => none
  | .sl cs, .ref i => match s.row? i with
    | some r => match castL r.cs cs r.xs with
      | some ys => some (ys, if r.nm = .Z ∨ r.nm = .S then .S else .A, some i)
      | none => none
    | none => none
  | _, _ => none
def unTVs (s : VS) : (ts : List Ty) → List TV → Option (Ty.Ds ts × NM × VS)
  | [], [] => some ((), .Z, s)
  | t :: ts, v :: vs => match unTV s t v with
    | some (d, m, none) => match unTVs s ts vs with
      | some (ds, m', s2) => some ((d, ds), m.join m', s2)
      | none => none
    | some (d, m, some i) => match unTVs (s.free i) ts (TV.kills i vs) with
      | some (ds, m', s2) => some ((d, ds), m.join m', s2)
      | none => none
    | none => none
  | _, _ => none

/-- What is known of a value from here on. -/
def VS.get (s : VS) (t : Nat) : TV := s.env.getD t .bad
/-- May a value that hangs on guard 'a' be looked at under guard 'g'? -/
def VS.under (s : VS) : Nat → Nat × Bool → Nat × Bool → Bool
  | 0, _, _ => false
  | n + 1, a, g => (a.1 == g.1 && a.2 == g.2) || (match s.get g.1 with
    | .gd t w _ => VS.under s n a (t, w)
    | _ => false)
def TV.under (s : VS) (g : Option (Tmp × Bool)) : TV → TV
  | .gd t w v => match g with
    | some g => if s.under 4 (t, w) g then v else .bad
    | none => .bad
  | v => v
def ofV1 : Value → TV
  | .int k n => .int k n
  | .bool b => .bool b
  | .string b => .str b
  | .slice none 0 0 => .nil
  | _ => .bad
def ofVC : Value → TV
  | .agg cs => if cs.all cellV then .st (cs.toList.map ofV1) else .bad
  | v => ofV1 v
def VS.ev (s : VS) (g : Option (Tmp × Bool)) : Operand → TV
  | .tmp t => (s.get t).under s g
  | .const v => ofVC v
  | .func f => .fn f []
  | .global _ => .bad
/-- Does the guarded operation go on? -/
def VS.cond (s : VS) : Nat → Nat × Bool → Option Bool
  | 0, _ => none
  | n + 1, (t, w) => match s.get t with
    | .bool b => some (if w then b else !b)
    | .gd t0 w0 (.bool b) => match VS.cond s n (t0, w0) with
      | some c => some (c && (if w then b else !b))
      | none => none
    | _ => none
def TV.cells : TV → Option (List TV)
  | .st cs => some cs
  | .bad => none
  | .tup _ => none
  | .gd _ _ _ => none
  | a => some [a]
def tsplice : List TV → Nat → List TV → List TV
  | l, _, [] => l
  | l, off, c :: cs => tsplice (l.set off c) (off + 1) cs
def tload (agg : Bool) (n : Nat) (cs : List TV) : Option TV :=
  if agg then (if n ≤ cs.length then some (.st (cs.take n)) else none) else cs.head?
def ofAV : AV → TV
  | .int k n => .int k n
  | .bool b => .bool b
  | .str s => .str s
  | .nils => .nil
  | _ => .bad
def NM.ok : NM → NM → Bool
  | .Z, _ => true
  | .S, .S => true
  | .L, .L => true
  | _, .A => true
  | _, _ => false

/-- What stands at a place. -/
def VS.place (s : VS) : TV → Option (List TV)
  | .box b off => match s.box? b with
    | some cs => some (cs.drop off)
    | none => none
  | .rptr i idx off => match s.row? i with
    | some r => some ((toTVs (r.nm.o i) r.cs (r.xs.getD idx.toNat (Ty.ds0 r.cs))).drop off)
    | none => none
  | .lptr l => some l
  | .vptr _ l => some l
  | _ => none
/-- Some of an element's cells anew; the others stay. -/
def putTVs (s : VS) : (ts : List Ty) → Ty.Ds ts → Nat → List TV → Option (Ty.Ds ts × NM × VS)
  | [], d, _, [] => some (d, .Z, s)
  | [], _, _, _ :: _ => none
  | _ :: _, d, _, [] => some (d, .Z, s)
  | t :: ts, d, 0, v :: vs => match unTV s t v with
    | some (x, m, none) => match putTVs s ts d.2 0 vs with
      | some (ds, m', s2) => some ((x, ds), m.join m', s2)
      | none => none
    | some (x, m, some i) => match putTVs (s.free i) ts d.2 0 (TV.kills i vs) with
      | some (ds, m', s2) => some ((x, ds), m.join m', s2)
      | none => none
    | none => none
  | _ :: ts, d, n + 1, vs => match putTVs s ts d.2 n vs with
    | some (ds, m', s2) => some ((d.1, ds), m', s2)
    | none => none
end Go.PA
