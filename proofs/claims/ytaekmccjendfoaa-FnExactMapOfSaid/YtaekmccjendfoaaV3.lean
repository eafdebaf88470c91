/- Typed values: calls by their contracts, loops by their own word, code. No condition. -/
import Derived.Test.YtaekmccjendfoaaV2
import Derived.Test.YtaekmccjendfoaaK18
namespace Go.PA

/-- A parameter or an answer: its cells; 'own': lists are rows that it owns, and what their elements reach. -/
structure PK where
  own : Option NM
  agg : Bool
  cs : List Ty
  ptr : Bool
/-- What a function does: its parameters' and answers' kinds, and the answers. 'fresh': parameters are only read, answers are made anew. Else 'rs' is its 'na' answers, and what the boxes hold behind the call that its pointers lead to. 'io': rows are lent, and given back with what is in them then: 'rs' is its answers and its parameters' cells. -/
structure Ctr where
  fresh : Bool
  io : Bool
  na : Nat
  ps : List PK
  rs : List PK
  fn : Ty.Ds (ps.flatMap (·.cs)) → Option (Ty.Ds (rs.flatMap (·.cs)))

/-- A value's data, looked at. -/
def roTV (s : VS) : (t : Ty) → TV → Option t.D
  | .int k, .int k' n => if k = k' then some n else none
  | .bool, .bool b => some b
  | .str, .str b => some b
  | .sl _, .nil => some []
  | .sl cs, v => match s.list v with
    | some l => castL l.cs cs l.xs
    | none => none
  | _, _ => none
/-- What nobody writes, or from here on. -/
def litL (s : VS) (cs : List Ty) : TV → Option (List (Ty.Ds cs) × Eff)
  | .lst cs' xs => match castL cs' cs xs with
    | some ys => some (ys, .no)
    | none => none
  | .nil => some ([], .no)
  | .ref i => match s.mine i with
    | some r => match castL r.cs cs r.xs with
      | some ys => some (ys, .frzA i r)
      | none => none
    | none => none
  | .sub i lo hi => match s.mine i with
    | some r => match castL r.cs cs ((r.xs.take hi.toNat).drop lo.toNat) with
      | some ys => some (ys, .frzA i r)
      | none => none
    | none => none
  | .vw i _ cs' xs => match s.mine i with
    | some r => match castL cs' cs xs with
      | some ys => some (ys, .frz i r)
      | none => none
    | none => none
  | _ => none
/-- A row that is handed over. -/
def ownL (s : VS) (m : NM) (cs : List Ty) : TV → Option (List (Ty.Ds cs) × Eff)
  | .nil => some ([], .no)
  | .ref i => match s.mine i with
    | some r => match castL r.cs cs r.xs with
      | some ys => match r.nm.ok m with
        | true => some (ys, .kill i)
        | false => match m with
          | .L => some (ys, .fk i r)
          | _ => none
      | none => none
    | none => none
  | _ => none
def noRow {α : Type} : Option α → Option (α × Eff)
  | some d => some (d, .no)
  | none => none
def litTV (s : VS) : (t : Ty) → TV → Option (t.D × Eff)
  | .sl cs, v => litL s cs v
  | .int k, v => noRow (roTV s (.int k) v)
  | .bool, v => noRow (roTV s .bool v)
  | .str, v => noRow (roTV s .str v)
def ownTV (s : VS) (m : NM) : (t : Ty) → TV → Option (t.D × Eff)
  | .sl cs, v => ownL s m cs v
  | .int k, v => noRow (roTV s (.int k) v)
  | .bool, v => noRow (roTV s .bool v)
  | .str, v => noRow (roTV s .str v)
def roTVs (s : VS) : (ts : List Ty) → List TV → Option (Ty.Ds ts)
  | [], [] => some ()
  | t :: ts, v :: vs => match roTV s t v with
    | some d => match roTVs s ts vs with
      | some ds => some (d, ds)
      | none => none
    | none => none
  | _, _ => none
def takeTV (s : VS) (own : Option NM) (t : Ty) (v : TV) : Option (t.D × Eff) := match own with
  | some m => ownTV s m t v
  | none => litTV s t v
def hdO : List (Option NM) → Option NM
  | [] => none
  | o :: _ => o
def takeTVs : (os : List (Option NM)) → (ts : List Ty) → VS → List TV → Option (Ty.Ds ts × VS)
  | _, [], s, [] => some ((), s)
  | os, t :: ts, s, v :: vs => match takeTV s (hdO os) t v with
    | some (d, e) => match takeTVs os.tail ts (s.eff e) (TV.effs e vs) with
      | some (ds, s1) => some ((d, ds), s1)
      | none => none
    | none => none
  | _, _, _, _ => none

def PK.cells (p : PK) : TV → Option (List TV)
  | .st l => if p.agg && l.length == p.cs.length then some l else none
  | v => if !p.agg && p.cs.length == 1 then some [v] else none
def argCells : List PK → List TV → Option (List TV)
  | [], [] => some []
  | p :: ps, v :: vs => match p.cells v with
    | some l => match argCells ps vs with
      | some l' => some (l ++ l')
      | none => none
    | none => none
  | _, _ => none
def PK.os (p : PK) : List (Option NM) := p.cs.map fun _ => p.own
def PK.cells_ (ps : List PK) : List Ty := ps.flatMap (·.cs)
def PK.owns (ps : List PK) : List (Option NM) := ps.flatMap PK.os
/-- Answers' cells: lists that nobody writes, or rows. -/
def giveTVs : (os : List (Option NM)) → (ts : List Ty) → Ty.Ds ts → VS → List TV × VS
  | _, [], _, s => ([], s)
  | os, .sl cs :: ts, d, s => match hdO os with
    | none => match giveTVs os.tail ts d.2 s with
      | (l, s1) => (.lst cs d.1 :: l, s1)
    | some m => match s.newRow ⟨if hasSl cs then m else .Z, cs, d.1⟩ with
      | (i, s1) => match giveTVs os.tail ts d.2 s1 with
        | (l, s2) => (.ref i :: l, s2)
  | os, t :: ts, d, s => match giveTVs os.tail ts d.2 s with
    | (l, s1) => (toTV none 0 t d.1 :: l, s1)
def groupL : List PK → List TV → List TV
  | [], _ => []
  | p :: ps, l => (if p.agg then .st (l.take p.cs.length) else l.headD .bad) :: groupL ps (l.drop p.cs.length)
def group1 : List TV → TV
  | [v] => v
  | l => .tup l

/-! Pointers that are handed over: boxes. -/
def argCellsB (s : VS) : List PK → List TV → Option (List TV × List Nat)
  | [], [] => some ([], [])
  | p :: ps, v :: vs => match p.ptr with
    | true => match v with
      | .box b off => match Nat.beq off 0 with
        | true => match s.box? b with
          | some l => match Nat.beq l.length p.cs.length with
            | true => match argCellsB s ps vs with
              | some (l', bs) => some (l ++ l', b :: bs)
              | none => none
            | false => none
          | none => none
        | false => none
      | _ => none
    | false => match p.cells v with
      | some l => match argCellsB s ps vs with
        | some (l', bs) => some (l ++ l', bs)
        | none => none
      | none => none
  | _, _ => none
def hasN (a : Nat) : List Nat → Bool
  | [] => false
  | b :: l => match Nat.beq a b with
    | true => true
    | false => hasN a l
def nodupN : List Nat → Bool
  | [] => true
  | a :: l => match hasN a l with
    | true => false
    | false => nodupN l
def blankB : List Nat → VS → VS
  | [], s => s
  | b :: bs, s => blankB bs { s with boxes := s.boxes.set b none }
/-- Arguments or answers by their cells; a pointer leads to a box of its own. -/
def groupB : List PK → List TV → VS → List TV × VS
  | [], _, s => ([], s)
  | p :: ps, l, s => match p.ptr with
    | true => match s.newBox (l.take p.cs.length) with
      | (b, s1) => match groupB ps (l.drop p.cs.length) s1 with
        | (vs, s2) => (.box b 0 :: vs, s2)
    | false => match groupB ps (l.drop p.cs.length) s with
      | (vs, s1) => ((if p.agg then .st (l.take p.cs.length) else l.headD .bad) :: vs, s1)
def putBoxes : List PK → List Nat → List TV → VS → VS
  | q :: qs, b :: bs, l, s => putBoxes qs bs (l.drop q.cs.length) { s with boxes := s.boxes.set b (some (l.take q.cs.length)) }
  | _, _, _, s => s
def ncells : List PK → Nat
  | [] => 0
  | p :: ps => p.cs.length + ncells ps

/-- Rows that nobody looks at any more. -/
def VS.frees : List Nat → VS → VS
  | [], s => s
  | i :: l, s => match Nat.ble s.pn i with
    | true => VS.frees l (s.free i)
    | false => VS.frees l s
/-- A call by its contract. -/
def vcallF {ρ : Type} (s : VS) (c : Ctr) (rows : Bool) (dr : List Nat) (args : List TV) (K : TV → VS → Option ρ) : Option ρ :=
  match argCells c.ps args with
  | some l => match c.fresh with
    | true => match roTVs s (c.ps.flatMap (·.cs)) l with
      | some d => (c.fn d).bind fun y =>
        match giveTVs (if rows then (c.rs.flatMap (·.cs)).map (fun _ => some .S) else []) (c.rs.flatMap (·.cs)) y (s.frees dr) with
        | (vs, s1) => K (group1 (groupL c.rs vs)) s1
      | none => none
    | false => none
  | none => none
/-! Places that an operation leaves alone. -/
def TV.rt : TV → Nat × Nat
  | .bad => (4, 0)
  | .gd _ _ _ => (4, 0)
  | .box b _ => (1, b)
  | .ref i => (2, i)
  | .sub i _ _ => (2, i)
  | .vw i _ _ _ => (2, i)
  | .rptr i _ _ => (2, i)
  | .vptr i _ => (2, i)
  | .lst _ _ => (3, 0)
  | .lptr _ => (3, 0)
  | _ => (0, 0)
def TV.wt : TV → Nat × Nat
  | .box b _ => (1, b)
  | .ref i => (2, i)
  | .sub i _ _ => (2, i)
  | .rptr i _ _ => (2, i)
  | .nil => (0, 0)
  | _ => (4, 0)
def sepN (a b : Nat × Nat) : Bool := a.1 != 4 && b.1 != 4 && (a.1 == 0 || b.1 == 0 || !(a.1 == b.1 && a.2 == b.2))
def wOp : AOp → Option Operand
  | .store _ x _ => some x
  | .app _ _ x _ => some x
  | .apps x _ => some x
  | .cpy _ x _ => some x
  | _ => none
def usDet (s : VS) (op : AOp) (us : List Tmp) : Bool := match wOp op with
  | some x => us.all fun t => sepN (s.get t).rt (s.ev none x).wt
  | none => us.isEmpty || quietB op
def usBox (s : VS) (bs : List Nat) (us : List Tmp) : Bool := us.all fun t => match s.get t with
  | .box b _ => bs.all fun c => !(c == b)
  | v => !(v.rt.1 == 4)
def vcallO {ρ : Type} (s : VS) (c : Ctr) (us : List Tmp) (args : List TV) (K : TV → VS → Option ρ) : Option ρ :=
  match argCellsB s c.ps args with
  | some (l, bs) => match nodupN bs with
    | true => match takeTVs (PK.owns c.ps) (c.ps.flatMap (·.cs)) s l with
      | some (d, s1) => match usBox s1 bs us with
        | true => (c.fn d).bind fun y =>
          match giveTVs (PK.owns c.rs) (c.rs.flatMap (·.cs)) y (blankB bs s1) with
          | (vs, s2) => match groupB (c.rs.take c.na) vs s2 with
            | (ws, s3) => K (group1 ws) (putBoxes (c.rs.drop c.na) bs (vs.drop (ncells (c.rs.take c.na))) s3)
        | false => none
      | none => none
    | false => none
  | none => none
/-! Rows that are lent. -/
inductive IoT where
  | no
  | row (i : Nat)
  | el (i : Nat) (k : Int) (off : Nat)
def ioL (s : VS) (cs : List Ty) : TV → Option (List (Ty.Ds cs) × IoT)
  | .nil => some ([], .no)
  | .ref i => match s.row? i with
    | some r => match castL r.cs cs r.xs with
      | some ys => if r.nm.fits then some (ys, .row i) else none
      | none => none
    | none => none
  | .vw i (some (k, off)) _ _ => match s.row? i with
    | some r => match r.nm with
      | .S => match (toTVs none 0 r.cs (r.xs.getD k.toNat (Ty.ds0 r.cs)))[off]? with
        | some (.lst cs2 zs) => match castL cs2 cs zs with
          | some ys => some (ys, .el i k off)
          | none => none
        | _ => none
      | _ => none
    | none => none
  | _ => none
def noIo {α : Type} : Option α → Option (α × IoT)
  | some d => some (d, .no)
  | none => none
def ioTV (s : VS) : (t : Ty) → TV → Option (t.D × IoT)
  | .sl cs, v => ioL s cs v
  | .int k, v => noIo (roTV s (.int k) v)
  | .bool, v => noIo (roTV s .bool v)
  | .str, v => noIo (roTV s .str v)
def ioTVs (s : VS) : (ts : List Ty) → List TV → Option (Ty.Ds ts × List IoT)
  | [], [] => some ((), [])
  | t :: ts, v :: vs => match ioTV s t v with
    | some (d, i) => match ioTVs s ts vs with
      | some (ds, l) => some ((d, ds), i :: l)
      | none => none
    | none => none
  | _, _ => none
def ioRows : List IoT → List Nat
  | [] => []
  | .no :: l => ioRows l
  | .row i :: l => i :: ioRows l
  | .el i _ _ :: l => i :: ioRows l
/-- An element with another list at 'off'. -/
def setL : (ts : List Ty) → Ty.Ds ts → Nat → (cs : List Ty) → List (Ty.Ds cs) → Option (Ty.Ds ts)
  | [], _, _, _, _ => none
  | .sl cs' :: _, d, 0, cs, ys => match castL cs cs' ys with
    | some zs => some (zs, d.2)
    | none => none
  | _ :: _, _, 0, _, _ => none
  | _ :: ts, d, n + 1, cs, ys => match setL ts d.2 n cs ys with
    | some e => some (d.1, e)
    | none => none
/-- Behind the call: what is in the rows then. -/
def ioBack : VS → List IoT → List TV → Option VS
  | s, [], [] => some s
  | s, .no :: l, _ :: vs => ioBack s l vs
  | s, .row i :: l, .lst cs ys :: vs => match s.row? i with
    | some r => match castL cs r.cs ys with
      | some zs => ioBack { s.touch i with rows := s.rows.set i (some (.row ⟨if hasSl r.cs then .S else .Z, r.cs, zs⟩)) } l vs
      | none => none
    | none => none
  | s, .el i k off :: l, .lst cs ys :: vs => match s.row? i with
    | some r => match setL r.cs (r.xs.getD k.toNat (Ty.ds0 r.cs)) off cs ys with
      | some e => ioBack { s.touch i with rows := s.rows.set i (some (.row ⟨.S, r.cs, r.xs.set k.toNat e⟩)) } l vs
      | none => none
    | none => none
  | _, _, _ => none
/-- A call that is lent rows. -/
def vcallI {ρ : Type} (s : VS) (c : Ctr) (args : List TV) (K : TV → VS → Option ρ) : Option ρ :=
  match argCells c.ps args with
  | some l => match ioTVs s (c.ps.flatMap (·.cs)) l with
    | some (d, io) => match nodupN (ioRows io) with
      | true => (c.fn d).bind fun y =>
          match giveTVs [] (c.rs.flatMap (·.cs)) y s with
          | (vs, _) => match ioBack s io (vs.drop (ncells (c.rs.take c.na))) with
            | some s1 => K (group1 (groupL (c.rs.take c.na) (vs.take (ncells (c.rs.take c.na))))) s1
            | none => none
      | false => none
    | none => none
  | none => none
def vcall {ρ : Type} (s : VS) (c : Ctr) (rows : Bool) (dr : List Nat) (us : List Tmp) (args : List TV) (K : TV → VS → Option ρ) : Option ρ := match c.fresh with
  | true => match !rows || usBox s [] us with
    | true => vcallF s c rows dr args K
    | false => none
  | false => match c.io with
    | true => vcallI s c args K
    | false => vcallO s c us args K
/-- A call that may not come: its answer, if it comes. -/
def vcallG {ρ : Type} (s : VS) (c : Ctr) (b : Bool) (args : List TV) (K : TV → Option ρ) : Option ρ :=
  match argCells c.ps args with
  | some l => match c.fresh with
    | true => match roTVs s (c.ps.flatMap (·.cs)) l with
      | some d => chk ((c.fn d).isSome || !b) (
        match giveTVs [] (c.rs.flatMap (·.cs)) ((c.fn d).getD (Ty.ds0 _)) s with
          | (vs, _) => K (group1 (groupL c.rs vs)))
      | none => none
    | false => none
  | none => none

abbrev Ctrs := FuncId → Option Ctr

/-! Where a state stands: what each place holds, without the data. -/
inductive SV where
  | bad | nil
  | int (k : IntKind) | bool | str
  | lst (cs : List Ty)
  | ref (i : Nat)
  | vw (i : Nat) (cs : List Ty)
  | box (b off : Nat)
  | rptr (i off : Nat)
  | fn (f : FuncId) (caps : List (Nat × Nat))
def SV.lv (rest : List Ty) : SV → List Ty
  | .int k => .int k :: rest
  | .bool => .bool :: rest
  | .str => .str :: rest
  | .lst cs => .sl cs :: rest
  | .vw _ cs => .sl cs :: rest
  | .rptr _ _ => .int .i64 :: rest
  | _ => rest
def SV.lvs (rest : List Ty) : List SV → List Ty
  | [] => rest
  | v :: l => SV.lv (SV.lvs rest l) v
def capT : List (Nat × Nat) → List TV
  | [] => []
  | (b, o) :: l => .box b o :: capT l
def SV.fill (rest : List Ty) : (v : SV) → Ty.Ds (v.lv rest) → TV × Ty.Ds rest
  | .int k, d => (.int k d.1, d.2)
  | .bool, d => (.bool d.1, d.2)
  | .str, d => (.str d.1, d.2)
  | .lst cs, d => (.lst cs d.1, d.2)
  | .vw i cs, d => (.vw i none cs d.1, d.2)
  | .rptr i off, d => (.rptr i d.1 off, d.2)
  | .fn f l, d => (.fn f (capT l), d)
  | .bad, d => (.bad, d)
  | .nil, d => (.nil, d)
  | .ref i, d => (.ref i, d)
  | .box b off, d => (.box b off, d)
def SV.fills (rest : List Ty) : (l : List SV) → Ty.Ds (SV.lvs rest l) → List TV × Ty.Ds rest
  | [], d => ([], d)
  | v :: l, d => match SV.fill (SV.lvs rest l) v d with
    | (x, r) => match SV.fills rest l r with
      | (xs, r') => (x :: xs, r')
/-- A row's kind where a state stands: uniform, or 'the first p of its own'. -/
inductive SK where
  | m (m : NM)
  | sp
abbrev RSk := List (Option (SK × List Ty))
structure Skel where
  env : List SV
  boxes : List (Option (List SV))
  rows : RSk
  pn : Nat
def lvR : RSk → List Ty
  | [] => []
  | none :: l => lvR l
  | some (.m _, cs) :: l => .sl cs :: lvR l
  | some (.sp, cs) :: l => .int .i64 :: .sl cs :: lvR l
def lvB (rest : List Ty) : List (Option (List SV)) → List Ty
  | [] => rest
  | none :: l => lvB rest l
  | some vs :: l => SV.lvs (lvB rest l) vs
def Skel.ts (k : Skel) : List Ty := SV.lvs (lvB (lvR k.rows) k.boxes) k.env
def fillR : (l : RSk) → Ty.Ds (lvR l) → List (Option VSlot)
  | [], _ => []
  | none :: l, d => none :: fillR l d
  | some (.m m, cs) :: l, d => some (.row ⟨m, cs, d.1⟩) :: fillR l d.2
  | some (.sp, cs) :: l, d => some (.sp d.1 ⟨.S, cs, d.2.1⟩) :: fillR l d.2.2
def fillB (rest : List Ty) : (l : List (Option (List SV))) → Ty.Ds (lvB rest l) → List (Option (List TV)) × Ty.Ds rest
  | [], d => ([], d)
  | none :: l, d => match fillB rest l d with
    | (bs, r) => (none :: bs, r)
  | some vs :: l, d => match SV.fills (lvB rest l) vs d with
    | (b, r) => match fillB rest l r with
      | (bs, r') => (some b :: bs, r')
def Skel.fill (k : Skel) (d : Ty.Ds k.ts) : VS := match SV.fills (lvB (lvR k.rows) k.boxes) k.env d with
  | (env, r) => match fillB (lvR k.rows) k.boxes r with
    | (bs, r') => ⟨env, bs, fillR k.rows r', [], k.pn⟩

def capB : List (Nat × Nat) → List TV → Bool
  | [], [] => true
  | (b, o) :: l, .box b' o' :: l' => b == b' && o == o' && capB l l'
  | _, _ => false
def extInt (rest : List Ty) (d : Ty.Ds rest) (k : IntKind) : TV → Option (Int × Ty.Ds rest)
  | .int k' n => if k = k' then some (n, d) else none
  | _ => none
def extBool (rest : List Ty) (d : Ty.Ds rest) : TV → Option (Bool × Ty.Ds rest)
  | .bool b => some (b, d)
  | _ => none
def extStr (rest : List Ty) (d : Ty.Ds rest) : TV → Option (ByteArray × Ty.Ds rest)
  | .str b => some (b, d)
  | _ => none
def extLst (rest : List Ty) (d : Ty.Ds rest) (cs : List Ty) : TV → Option (List (Ty.Ds cs) × Ty.Ds rest)
  | .lst cs' xs => match castL cs' cs xs with
    | some ys => some (ys, d)
    | none => none
  | .nil => some ([], d)
  | _ => none
def extVw (rest : List Ty) (d : Ty.Ds rest) (i : Nat) (cs : List Ty) : TV → Option (List (Ty.Ds cs) × Ty.Ds rest)
  | .vw j _ cs' xs => if i = j then match castL cs' cs xs with
      | some ys => some (ys, d)
      | none => none
    else none
  | _ => none
def extRptr (rest : List Ty) (d : Ty.Ds rest) (i off : Nat) : TV → Option (Int × Ty.Ds rest)
  | .rptr j n off' => if i = j ∧ off = off' then some (n, d) else none
  | _ => none
def extRef (s : VS) (i : Nat) : TV → Bool
  | .ref j => i == j
  | .nil => (s.slot? i).isNone
  | _ => false
def extBox (b off : Nat) : TV → Bool
  | .box b' off' => b == b' && off == off'
  | _ => false
def extFn (f : FuncId) (l : List (Nat × Nat)) : TV → Bool
  | .fn f' vs => f == f' && capB l vs
  | _ => false
def extNil : TV → Bool
  | .nil => true
  | _ => false
def onlyIf {α : Type} (b : Bool) (x : α) : Option α := match b with
  | true => some x
  | false => none
def SV.ext (s : VS) (rest : List Ty) (d : Ty.Ds rest) : (v : SV) → TV → Option (Ty.Ds (v.lv rest))
  | .int k, v => extInt rest d k v
  | .bool, v => extBool rest d v
  | .str, v => extStr rest d v
  | .lst cs, v => extLst rest d cs v
  | .vw i cs, v => extVw rest d i cs v
  | .rptr i off, v => extRptr rest d i off v
  | .fn f l, v => onlyIf (extFn f l v) d
  | .bad, _ => some d
  | .nil, v => onlyIf (extNil v) d
  | .ref i, v => onlyIf (extRef s i v) d
  | .box b off, v => onlyIf (extBox b off v) d
def SV.exts (s : VS) (rest : List Ty) (d : Ty.Ds rest) : (l : List SV) → List TV → Option (Ty.Ds (SV.lvs rest l))
  | [], [] => some d
  | v :: l, x :: xs => match SV.exts s rest d l xs with
    | some r => SV.ext s (SV.lvs rest l) r v x
    | none => none
  | _, _ => none
/-- Rows: one that is not there yet is empty. -/
def sxR : (l : RSk) → List (Option VSlot) → Option (Ty.Ds (lvR l))
  | [], _ => some ()
  | none :: l, rs => sxR l rs.tail
  | some (.m m, cs) :: l, rs => match rs.headD none with
    | some (.row r) => match castL r.cs cs r.xs with
      | some xs => if r.nm.ok m then match sxR l rs.tail with
          | some d => some (xs, d)
          | none => none
        else none
      | none => none
    | none => match sxR l rs.tail with
      | some d => some ([], d)
      | none => none
    | _ => none
  | some (.sp, cs) :: l, rs => match rs.headD none with
    | some (.row r) => match castL r.cs cs r.xs with
      | some xs => match r.nm with
        | .L => match sxR l rs.tail with
          | some d => some ((0 : Int), xs, d)
          | none => none
        | _ => none
      | none => none
    | some (.sp p r) => match castL r.cs cs r.xs with
      | some xs => match sxR l rs.tail with
        | some d => some (p, xs, d)
        | none => none
      | none => none
    | _ => none
def sxB (s : VS) (rest : List Ty) (d : Ty.Ds rest) : (l : List (Option (List SV))) → List (Option (List TV)) → Option (Ty.Ds (lvB rest l))
  | [], _ => some d
  | none :: l, bs => sxB s rest d l bs.tail
  | some vs :: l, some b :: bs => match sxB s rest d l bs with
    | some r => SV.exts s (lvB rest l) r vs b
    | none => none
  | _, _ => none
/-! A skeleton names only boxes and rows that it keeps. -/
def capWf (nb : Nat) : List (Nat × Nat) → Bool
  | [] => true
  | (b, _) :: l => Nat.blt b nb && capWf nb l
def SV.wf (nb : Nat) (rows : RSk) : SV → Bool
  | .ref i => (rows.getD i none).isSome
  | .vw i _ => (rows.getD i none).isSome
  | .rptr i _ => (rows.getD i none).isSome
  | .box b _ => Nat.blt b nb
  | .fn _ l => capWf nb l
  | _ => true
def SV.wfs (nb : Nat) (rows : RSk) : List SV → Bool
  | [] => true
  | v :: l => SV.wf nb rows v && SV.wfs nb rows l
def wfB (nb : Nat) (rows : RSk) : List (Option (List SV)) → Bool
  | [] => true
  | none :: l => wfB nb rows l
  | some vs :: l => SV.wfs nb rows vs && wfB nb rows l
def allSome {α : Type} : Nat → List (Option α) → Bool
  | 0, _ => true
  | n + 1, some _ :: l => allSome n l
  | _ + 1, _ => false
def Skel.wf (k : Skel) : Bool := SV.wfs k.boxes.length k.rows k.env && (wfB k.boxes.length k.rows k.boxes && allSome k.pn k.rows)
def Skel.ext0 (k : Skel) (s : VS) : Option (Ty.Ds k.ts) := match sxR k.rows s.rows with
  | some d => match sxB s (lvR k.rows) d k.boxes s.boxes with
    | some d' => SV.exts s _ d' k.env s.env
    | none => none
  | none => none
/-! Ahead of that: rows whose elements' lists are written no more there, rows that are no rows there. -/
def preR (i : Nat) : RSk → VS → VS
  | [], s => s
  | some (.m .L, _) :: l, s => match s.mine i with
    | some r => match r.nm with
      | .S => preR (i + 1) l (s.frz i r)
      | .A => preR (i + 1) l (s.frz i r)
      | _ => preR (i + 1) l s
    | none => preR (i + 1) l s
  | _ :: l, s => preR (i + 1) l s
def preV (s : VS) : SV → TV → VS
  | .lst _, .ref i => match s.mine i with
    | some r => s.frzA i r
    | none => s
  | .lst _, .sub i _ _ => match s.mine i with
    | some r => s.frzA i r
    | none => s
  | .lst _, .vw i _ _ _ => match s.mine i with
    | some r => s.frz i r
    | none => s
  | _, _ => s
def preE (t : Nat) : List SV → VS → VS
  | [], s => s
  | v :: l, s => preE (t + 1) l (preV s v (s.env.getD t .bad))
def preC (b t : Nat) : List SV → VS → VS
  | [], s => s
  | v :: l, s => preC b (t + 1) l (match s.box? b with
    | some cs => preV s v (cs.getD t .bad)
    | none => s)
def preB (b : Nat) : List (Option (List SV)) → VS → VS
  | [], s => s
  | none :: l, s => preB (b + 1) l s
  | some vs :: l, s => preB (b + 1) l (preC b 0 vs s)
def Skel.pre (k : Skel) (s : VS) : VS := preB 0 k.boxes (preE 0 k.env (preR 0 k.rows s))
def Skel.ext (k : Skel) (s : VS) : Option (Ty.Ds k.ts) := match k.wf && (Nat.ble k.boxes.length s.boxes.length && Nat.beq k.pn s.pn) with
  | true => k.ext0 (k.pre s)
  | false => none
/-- Where a loop ends rows are whole. -/
def normR : List (Option VSlot) → List Bool × List (Option VSlot)
  | [] => ([], [])
  | some (.sp p r) :: l => match normR l with
    | (c, l') => (decide (p = (r.xs.length : Int)) :: c, some (.row r) :: l')
  | x :: l => match normR l with
    | (c, l') => (c, x :: l')
def normK {ρ : Type} (s : VS) (K : VS → Option ρ) : Option ρ := match normR s.rows with
  | (c, rows) => chks c (K { s with rows := rows })

/-! A loop's own word. -/
def Outs : List (Option Nat × Skel) → Type
  | [] => Empty
  | o :: l => Ty.Ds o.2.ts ⊕ Outs l
structure LCtr where
  sk : Skel
  outs : List (Option Nat × Skel)
  fn : Ty.Ds sk.ts → Option (Outs outs)
def outTo {ρ : Type} (E : Nat → VS → Option ρ) (R : VS → Option ρ) : (l : List (Option Nat × Skel)) → Outs l → Option ρ
  | [], e => nomatch e
  | o :: l, x => match x with
    | .inl d => (match o.1 with
      | some j => normK (o.2.fill d) (E j)
      | none => normK (o.2.fill d) R)
    | .inr y => outTo E R l y
def outOf (e : Option Nat) (s : VS) : (l : List (Option Nat × Skel)) → Option (Outs l)
  | [] => none
  | o :: l => if o.1 = e then match o.2.ext s with
      | some d => some (.inl d)
      | none => none
    else match outOf e s l with
      | some y => some (.inr y)
      | none => none

def ACode.loops : ACode → Nat
  | .seq a b => a.loops + b.loops
  | .cond _ a b => a.loops + b.loops
  | .block _ a => a.loops
  | .loop a => a.loops + 1
  | _ => 0

def VS.put (s : VS) (d : Option Tmp) (v : TV) : Option VS := match d with
  | none => some s
  | some t => if s.gds.all (fun p => !(p.2 == t)) then some { s with env := s.env.set t v, gds := s.gds.filter fun p => !(p.1 == t) } else none
def VS.putG (s : VS) (d : Option Tmp) (g : Tmp × Bool) (v : TV) : Option VS := match d with
  | none => some s
  | some t => if t != g.1 && s.gds.all (fun p => !(p.2 == t)) then some { s with env := s.env.set t (.gd g.1 g.2 v), gds := (t, g.1) :: s.gds.filter fun p => !(p.1 == t) } else none
def VS.clean (s : VS) : VS := { s with env := s.gds.foldl (fun e p => e.set p.1 .bad) s.env, gds := [] }
def anRows (an : List (Nat × An)) (d : Option Tmp) : Bool := match d with
  | some d => an.any fun p => p.1 == d && (match p.2 with
    | .rows => true
    | _ => false)
  | none => false
def anDrop (an : List (Nat × An)) (d : Option Tmp) : List Nat := match d with
  | some d => an.flatMap fun p => match p.1 == d, p.2 with
    | true, .drop is => is
    | _, _ => []
  | none => []
/-- How calls may come: anywhere; in regions that draw their order, where 'us' are the places that must be left alone. -/
inductive VM where | o | x (cf : Bool) (us : List Tmp)
def VM.rows (m : VM) (an : List (Nat × An)) (d : Option Tmp) : Bool := match m with
  | .o => anRows an d
  | .x cf _ => cf && anRows an d
def VM.op (m : VM) (s : VS) (op : AOp) : Bool := match m with
  | .o => true
  | .x _ us => usDet s op us
def VM.us : VM → List Tmp
  | .o => []
  | .x _ us => us
def VM.ctr (m : VM) (c : Ctr) : Bool := match m with
  | .o => true
  | .x cf _ => c.fresh || (cf && !c.io)

section
variable {ρ : Type} (C : Ctrs) (an : List (Nat × An))

def vstep (m : VM) (s : VS) (o : AOper) (K : VS → Option ρ) : Option ρ :=
  match o.guard with
  | none => match o.op with
    | .call f args => match C f with
      | some c => if m.ctr c then vcall s c (m.rows an o.dst) (anDrop an o.dst) m.us (args.map (s.ev none)) fun v s1 => match s1.put o.dst v with
          | some s2 => K s2
          | none => none
      else none
      | none => none
    | op => if m.op s op then match vdet an s none o.dst op with
      | .ok c v s1 => match s1.put o.dst v with
        | some s2 => chks c (K s2)
        | none => none
      | .no => none
      else none
  | some g => match s.cond 4 g with
    | none => none
    | some b => match o.op with
      | .call f args => match C f with
        | some c => vcallG s c b (args.map (s.ev (some g))) fun v => match s.putG o.dst g v with
            | some s2 => K s2
            | none => none
        | none => none
      | op => if quietB op then match vdet an s (some g) o.dst op with
        | .ok c v _ => match s.putG o.dst g v with
          | some s2 => chks (c.map fun x => x || !b) (K s2)
          | none => none
        | .no => none
        else none
def vops (m : VM) : List AOper → VS → (VS → Option ρ) → Option ρ
  | [], s, K => K s.clean
  | o :: l, s, K => vstep C an m s o fun s1 => vops m l s1 K

def vxops (cf : Bool) : List XOp → VS → (VS → Option ρ) → Option ρ
  | [], s, K => K s.clean
  | o :: l, s, K => if (o.us.all fun t => decide (t < s.env.length)) = true then vstep C an (.x cf o.us) s o.o fun s1 => vxops cf l s1 K else none

def vcode : List LCtr → ACode → VS → (VS → Option ρ) → (Nat → VS → Option ρ) → (VS → Option ρ) → Option ρ
  | _, .skip, s, K, _, _ => K s
  | _, .ops l, s, K, _, _ => vops C an .o l s K
  | _, .dops _, _, _, _, _ => none
  | _, .xops cf l, s, K, _, _ => vxops C an cf l s K
  | L, .seq a b, s, K, E, R => vcode (L.take a.loops) a s (fun s1 => vcode (L.drop a.loops) b s1 K E R) E R
  | L, .cond c a b, s, K, E, R => match s.ev none c with
    | .bool t => br t (vcode (L.take a.loops) a s K E R) (vcode (L.drop a.loops) b s K E R)
    | _ => none
  | L, .block id a, s, K, E, R => vcode L a s K (fun j s1 => if j = id then K s1 else E j s1) R
  | L, .loop _, s, _, E, R => match L with
    | lc :: _ => match lc.sk.ext s with
      | some x => (lc.fn x).bind fun out => outTo E R lc.outs out
      | none => none
    | [] => none
  | _, .exit id, s, _, E, _ => E id s
  | _, .ret, s, _, _, R => R s

/-- One round of a loop: 'f' tells what comes behind the next. -/
def vround (L : List LCtr) (a : ACode) (sk : Skel) (outs : List (Option Nat × Skel)) (x : Ty.Ds sk.ts) (f : Ty.Ds sk.ts → Option (Outs outs)) : Option (Outs outs) :=
  vcode C an L a (sk.fill x) (fun s => match sk.ext s with
    | some y => f y
    | none => none) (fun j s => outOf (some j) s outs) (fun s => outOf none s outs)
/-- The loop's word holds: it comes to an end, and so. -/
def LoopOk (L : List LCtr) (a : ACode) (lc : LCtr) : Prop :=
  ∃ m : Ty.Ds lc.sk.ts → Nat, ∀ x out, lc.fn x = some out → vround C an L a lc.sk lc.outs x (fun y => if m y < m x then lc.fn y else none) = some out
/-- All loops' words hold. -/
def LoopsOk : List LCtr → ACode → Prop
  | L, .seq a b => LoopsOk (L.take a.loops) a ∧ LoopsOk (L.drop a.loops) b
  | L, .cond _ a b => LoopsOk (L.take a.loops) a ∧ LoopsOk (L.drop a.loops) b
  | L, .block _ a => LoopsOk L a
  | L, .loop a => match L with
    | lc :: l => LoopOk C an l a lc ∧ LoopsOk l a
    | [] => True
  | _, _ => True
end

/-! A function: from its arguments' data to its answers' data. -/
def VS.res1 (s : VS) : AR → Option TV
  | .tmp t => some (s.ev none (.tmp t))
  | .cell a agg n => match s.place (s.ev none (.tmp a)) with
    | some cs => tload agg n cs
    | none => none
def VS.resL (s : VS) : List AR → Option (List TV)
  | [] => some []
  | r :: l => match s.res1 r with
    | some v => match s.resL l with
      | some vs => some (v :: vs)
      | none => none
    | none => none
/-- What the first boxes hold. -/
def outCells (s : VS) : Nat → List PK → Option (List TV)
  | _, [] => some []
  | j, q :: qs => match s.box? j with
    | some c => match Nat.beq c.length q.cs.length with
      | true => match outCells s (j + 1) qs with
        | some l => some (c ++ l)
        | none => none
      | false => none
    | none => none
def nptr : List PK → Nat
  | [] => 0
  | p :: ps => match p.ptr with
    | true => nptr ps + 1
    | false => nptr ps
def allGe (n : Nat) : List Nat → Bool
  | [] => true
  | b :: l => match Nat.ble n b with
    | true => allGe n l
    | false => false
/-- The answers' data: lists as rows that are handed over ('own'), or lists that nobody writes; and what the boxes hold that came as arguments. -/
def VS.ans (s : VS) (np na : Nat) (rs : List PK) (vs : List TV) : Option (Ty.Ds (rs.flatMap (·.cs))) :=
  match argCellsB s (rs.take na) vs with
  | some (l, cb) => match nodupN cb && (allGe np cb && Nat.beq (rs.drop na).length np) with
    | true => match outCells s 0 (rs.drop na) with
      | some l2 => match takeTVs (PK.owns rs) (rs.flatMap (·.cs)) s (l ++ l2) with
        | some (d, _) => some d
        | none => none
      | none => none
    | false => none
  | none => none
/-- What is in the rows that were lent. -/
def backTVs (s : VS) : Nat → (ts : List Ty) → Ty.Ds ts → Option (List TV)
  | _, [], _ => some []
  | i, .sl cs :: ts, d => match s.row? i with
    | some r => match castL r.cs cs r.xs with
      | some ys => match r.nm.fits with
        | true => match backTVs s (i + 1) ts d.2 with
          | some l => some (.lst cs ys :: l)
          | none => none
        | false => none
      | none => none
    | none => none
  | i, t :: ts, d => match backTVs s i ts d.2 with
    | some l => some (toTV none 0 t d.1 :: l)
    | none => none
def VS.ansI (s : VS) (na : Nat) (ps rs : List PK) (d : Ty.Ds (ps.flatMap (·.cs))) (vs : List TV) : Option (Ty.Ds (rs.flatMap (·.cs))) :=
  match argCells (rs.take na) vs with
  | some l => match backTVs s 0 (ps.flatMap (·.cs)) d with
    | some l2 => roTVs s (rs.flatMap (·.cs)) (l ++ l2)
    | none => none
  | none => none
def nsl : List Ty → Nat
  | [] => 0
  | .sl _ :: ts => nsl ts + 1
  | _ :: ts => nsl ts
def VS.start (k pn : Nat) (ps : List PK) (d : Ty.Ds (ps.flatMap (·.cs))) : VS :=
  match giveTVs (PK.owns ps) (ps.flatMap (·.cs)) d ⟨[], [], [], [], 0⟩ with
  | (vs, s) => match groupB ps vs s with
    | (ws, s1) => { s1 with env := ws ++ List.replicate (k - ps.length) .bad, pn := pn }
def vfun (C : Ctrs) (an : List (Nat × An)) (L : List LCtr) (ac : ACode) (ars : List AR) (k : Nat) (io : Bool) (na : Nat) (ps rs : List PK) (d : Ty.Ds (ps.flatMap (·.cs))) : Option (Ty.Ds (rs.flatMap (·.cs))) :=
  match io with
  | false => vcode C an L ac (VS.start k 0 ps d) (fun s1 => match s1.resL ars with
      | some vs => s1.ans (nptr ps) na rs vs
      | none => none) (fun _ _ => none) (fun s1 => match s1.resL ars with
      | some vs => s1.ans (nptr ps) na rs vs
      | none => none)
  | true => vcode C an L ac (VS.start k (nsl (ps.flatMap (·.cs))) ps d) (fun s1 => match s1.resL ars with
      | some vs => s1.ansI na ps rs d vs
      | none => none) (fun _ _ => none) (fun s1 => match s1.resL ars with
      | some vs => s1.ansI na ps rs d vs
      | none => none)
end Go.PA
