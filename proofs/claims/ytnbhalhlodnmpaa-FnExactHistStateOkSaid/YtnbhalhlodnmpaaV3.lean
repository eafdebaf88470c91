/- Typed values: calls by their contracts, loops by their own word, code. No condition. -/
import Derived.Test.YtnbhalhlodnmpaaV2
import Derived.Test.YtnbhalhlodnmpaaK18
namespace Go.PA

/-- A parameter or an answer: its cells; 'own': lists are rows that it owns, and what their elements reach. -/
structure PK where
  own : Option NM
  agg : Bool
  cs : List Ty
/-- What a function does: its parameters' and answers' kinds, and the answers. 'fresh': parameters are only read, answers are made anew. -/
structure Ctr where
  fresh : Bool
  ps : List PK
  rs : List PK
  fn : Ty.Ds (ps.flatMap (·.cs)) → Option (Ty.Ds (rs.flatMap (·.cs)))

/-- A value's data, looked at. -/
def roTV (s : VS) : (t : Ty) → TV → Option t.D
  | .int k, .int k' n => if k = k' then some n else none
  | .bool, .bool b => some b
  | .str, .str b => some b
  | .sl _, .nil => some []
  | .sl cs, v => match s.list v with
    | some l => castL l.cs cs l.xs
    | none => none
  | _, _ => none
/-- Only what nobody writes. -/
def litL (cs : List Ty) : TV → Option (List (Ty.Ds cs))
  | .lst cs' xs => castL cs' cs xs
  | .nil => some []
  | _ => none
def litTV (s : VS) : (t : Ty) → TV → Option t.D
  | .sl cs, v => litL cs v
  | .int k, v => roTV s (.int k) v
  | .bool, v => roTV s .bool v
  | .str, v => roTV s .str v
/-- A row that is handed over. -/
def ownL (s : VS) (m : NM) (cs : List Ty) : TV → Option (List (Ty.Ds cs) × Option Nat)
  | .nil => some ([], none)
  | .ref i => match s.row? i with
    | some r => if r.nm.ok m then match castL r.cs cs r.xs with
        | some ys => some (ys, some i)
        | none => none
      else none
    | none => none
  | _ => none
def noRow {α : Type} : Option α → Option (α × Option Nat)
  | some d => some (d, none)
  | none => none
def ownTV (s : VS) (m : NM) : (t : Ty) → TV → Option (t.D × Option Nat)
  | .sl cs, v => ownL s m cs v
  | .int k, v => noRow (roTV s (.int k) v)
  | .bool, v => noRow (roTV s .bool v)
  | .str, v => noRow (roTV s .str v)
def roTVs (s : VS) : (ts : List Ty) → List TV → Option (Ty.Ds ts)
  | [], [] => some ()
  | t :: ts, v :: vs => match roTV s t v with
    | some d => match roTVs s ts vs with
      | some ds => some (d, ds)
      | none => none
    | none => none
  | _, _ => none
def takeTV (s : VS) (own : Option NM) (t : Ty) (v : TV) : Option (t.D × Option Nat) := match own with
  | some m => ownTV s m t v
  | none => noRow (litTV s t v)
def hdO : List (Option NM) → Option NM
  | [] => none
  | o :: _ => o
def takeTVs : (os : List (Option NM)) → (ts : List Ty) → VS → List TV → Option (Ty.Ds ts × VS)
  | _, [], s, [] => some ((), s)
  | os, t :: ts, s, v :: vs => match takeTV s (hdO os) t v with
    | some (d, none) => match takeTVs os.tail ts s vs with
      | some (ds, s1) => some ((d, ds), s1)
      | none => none
    | some (d, some i) => match takeTVs os.tail ts (s.free i) (TV.kills i vs) with
      | some (ds, s1) => some ((d, ds), s1)
      | none => none
    | none => none
  | _, _, _, _ => none

def PK.cells (p : PK) : TV → Option (List TV)
  | .st l => if p.agg && l.length == p.cs.length then some l else none
  | v => if !p.agg && p.cs.length == 1 then some [v] else none
def argCells : List PK → List TV → Option (List TV)
  | [], [] => some []
  | p :: ps, v :: vs => match p.cells v with
    | some l => match argCells ps vs with
      | some l' => some (l ++ l')
      | none => none
    | none => none
  | _, _ => none
def PK.os (p : PK) : List (Option NM) := p.cs.map fun _ => p.own
def PK.cells_ (ps : List PK) : List Ty := ps.flatMap (·.cs)
def PK.owns (ps : List PK) : List (Option NM) := ps.flatMap PK.os
/-- Answers' cells: lists that nobody writes, or rows. -/
def giveTVs : (os : List (Option NM)) → (ts : List Ty) → Ty.Ds ts → VS → List TV × VS
  | _, [], _, s => ([], s)
  | os, .sl cs :: ts, d, s => match hdO os with
    | none => match giveTVs os.tail ts d.2 s with
      | (l, s1) => (.lst cs d.1 :: l, s1)
    | some m => match s.newRow ⟨if hasSl cs then m else .Z, cs, d.1⟩ with
      | (i, s1) => match giveTVs os.tail ts d.2 s1 with
        | (l, s2) => (.ref i :: l, s2)
  | os, t :: ts, d, s => match giveTVs os.tail ts d.2 s with
    | (l, s1) => (toTV none t d.1 :: l, s1)
def groupL : List PK → List TV → List TV
  | [], _ => []
  | p :: ps, l => (if p.agg then .st (l.take p.cs.length) else l.headD .bad) :: groupL ps (l.drop p.cs.length)
def group1 : List TV → TV
  | [v] => v
  | l => .tup l

/-- A call by its contract. -/
def vcall {ρ : Type} (s : VS) (c : Ctr) (rows : Bool) (args : List TV) (K : TV → VS → Option ρ) : Option ρ :=
  match argCells c.ps args with
  | some l => match c.fresh with
    | true => match roTVs s (c.ps.flatMap (·.cs)) l with
      | some d => (c.fn d).bind fun y =>
        match giveTVs (if rows then (c.rs.flatMap (·.cs)).map (fun _ => some .S) else []) (c.rs.flatMap (·.cs)) y s with
        | (vs, s1) => K (group1 (groupL c.rs vs)) s1
      | none => none
    | false => match takeTVs (PK.owns c.ps) (c.ps.flatMap (·.cs)) s l with
      | some (d, s1) => (c.fn d).bind fun y =>
          match giveTVs (PK.owns c.rs) (c.rs.flatMap (·.cs)) y s1 with
          | (vs, s2) => K (group1 (groupL c.rs vs)) s2
      | none => none
  | none => none
/-- A call that may not come: its answer, if it comes. -/
def vcallG {ρ : Type} (s : VS) (c : Ctr) (b : Bool) (args : List TV) (K : TV → Option ρ) : Option ρ :=
  match argCells c.ps args with
  | some l => match c.fresh with
    | true => match roTVs s (c.ps.flatMap (·.cs)) l with
      | some d => chk ((c.fn d).isSome || !b) (
        match giveTVs [] (c.rs.flatMap (·.cs)) ((c.fn d).getD (Ty.ds0 _)) s with
          | (vs, _) => K (group1 (groupL c.rs vs)))
      | none => none
    | false => none
  | none => none

abbrev Ctrs := FuncId → Option Ctr

/-! Where a state stands: what each place holds, without the data. -/
inductive SV where
  | bad | nil
  | int (k : IntKind) | bool | str
  | lst (cs : List Ty)
  | ref (i : Nat)
  | vw (i : Nat) (cs : List Ty)
  | box (b off : Nat)
  | rptr (i off : Nat)
  | fn (f : FuncId) (caps : List (Nat × Nat))
def SV.lv (rest : List Ty) : SV → List Ty
  | .int k => .int k :: rest
  | .bool => .bool :: rest
  | .str => .str :: rest
  | .lst cs => .sl cs :: rest
  | .vw _ cs => .sl cs :: rest
  | .rptr _ _ => .int .i64 :: rest
  | _ => rest
def SV.lvs (rest : List Ty) : List SV → List Ty
  | [] => rest
  | v :: l => SV.lv (SV.lvs rest l) v
def capT : List (Nat × Nat) → List TV
  | [] => []
  | (b, o) :: l => .box b o :: capT l
def SV.fill (rest : List Ty) : (v : SV) → Ty.Ds (v.lv rest) → TV × Ty.Ds rest
  | .int k, d => (.int k d.1, d.2)
  | .bool, d => (.bool d.1, d.2)
  | .str, d => (.str d.1, d.2)
  | .lst cs, d => (.lst cs d.1, d.2)
  | .vw i cs, d => (.vw i cs d.1, d.2)
  | .rptr i off, d => (.rptr i d.1 off, d.2)
  | .fn f l, d => (.fn f (capT l), d)
  | .bad, d => (.bad, d)
  | .nil, d => (.nil, d)
  | .ref i, d => (.ref i, d)
  | .box b off, d => (.box b off, d)
def SV.fills (rest : List Ty) : (l : List SV) → Ty.Ds (SV.lvs rest l) → List TV × Ty.Ds rest
  | [], d => ([], d)
  | v :: l, d => match SV.fill (SV.lvs rest l) v d with
    | (x, r) => match SV.fills rest l r with
      | (xs, r') => (x :: xs, r')
structure Skel where
  env : List SV
  boxes : List (Option (List SV))
  rows : List (Option (NM × List Ty))
def lvR : List (Option (NM × List Ty)) → List Ty
  | [] => []
  | none :: l => lvR l
  | some (_, cs) :: l => .sl cs :: lvR l
def lvB (rest : List Ty) : List (Option (List SV)) → List Ty
  | [] => rest
  | none :: l => lvB rest l
  | some vs :: l => SV.lvs (lvB rest l) vs
def Skel.ts (k : Skel) : List Ty := SV.lvs (lvB (lvR k.rows) k.boxes) k.env
def fillR : (l : List (Option (NM × List Ty))) → Ty.Ds (lvR l) → List (Option VRow)
  | [], _ => []
  | none :: l, d => none :: fillR l d
  | some (m, cs) :: l, d => some ⟨m, cs, d.1⟩ :: fillR l d.2
def fillB (rest : List Ty) : (l : List (Option (List SV))) → Ty.Ds (lvB rest l) → List (Option (List TV)) × Ty.Ds rest
  | [], d => ([], d)
  | none :: l, d => match fillB rest l d with
    | (bs, r) => (none :: bs, r)
  | some vs :: l, d => match SV.fills (lvB rest l) vs d with
    | (b, r) => match fillB rest l r with
      | (bs, r') => (some b :: bs, r')
def Skel.fill (k : Skel) (d : Ty.Ds k.ts) : VS := match SV.fills (lvB (lvR k.rows) k.boxes) k.env d with
  | (env, r) => match fillB (lvR k.rows) k.boxes r with
    | (bs, r') => ⟨env, bs, fillR k.rows r', []⟩

def capB : List (Nat × Nat) → List TV → Bool
  | [], [] => true
  | (b, o) :: l, .box b' o' :: l' => b == b' && o == o' && capB l l'
  | _, _ => false
def extInt (rest : List Ty) (d : Ty.Ds rest) (k : IntKind) : TV → Option (Int × Ty.Ds rest)
  | .int k' n => if k = k' then some (n, d) else none
  | _ => none
def extBool (rest : List Ty) (d : Ty.Ds rest) : TV → Option (Bool × Ty.Ds rest)
  | .bool b => some (b, d)
  | _ => none
def extStr (rest : List Ty) (d : Ty.Ds rest) : TV → Option (ByteArray × Ty.Ds rest)
  | .str b => some (b, d)
  | _ => none
def extLst (rest : List Ty) (d : Ty.Ds rest) (cs : List Ty) : TV → Option (List (Ty.Ds cs) × Ty.Ds rest)
  | .lst cs' xs => match castL cs' cs xs with
    | some ys => some (ys, d)
    | none => none
  | .nil => some ([], d)
  | _ => none
def extVw (rest : List Ty) (d : Ty.Ds rest) (i : Nat) (cs : List Ty) : TV → Option (List (Ty.Ds cs) × Ty.Ds rest)
  | .vw j cs' xs => if i = j then match castL cs' cs xs with
      | some ys => some (ys, d)
      | none => none
    else none
  | _ => none
def extRptr (rest : List Ty) (d : Ty.Ds rest) (i off : Nat) : TV → Option (Int × Ty.Ds rest)
  | .rptr j n off' => if i = j ∧ off = off' then some (n, d) else none
  | _ => none
def extRef (s : VS) (i : Nat) : TV → Bool
  | .ref j => i == j
  | .nil => (s.row? i).isNone
  | _ => false
def extBox (b off : Nat) : TV → Bool
  | .box b' off' => b == b' && off == off'
  | _ => false
def extFn (f : FuncId) (l : List (Nat × Nat)) : TV → Bool
  | .fn f' vs => f == f' && capB l vs
  | _ => false
def extNil : TV → Bool
  | .nil => true
  | _ => false
def onlyIf {α : Type} (b : Bool) (x : α) : Option α := match b with
  | true => some x
  | false => none
def SV.ext (s : VS) (rest : List Ty) (d : Ty.Ds rest) : (v : SV) → TV → Option (Ty.Ds (v.lv rest))
  | .int k, v => extInt rest d k v
  | .bool, v => extBool rest d v
  | .str, v => extStr rest d v
  | .lst cs, v => extLst rest d cs v
  | .vw i cs, v => extVw rest d i cs v
  | .rptr i off, v => extRptr rest d i off v
  | .fn f l, v => onlyIf (extFn f l v) d
  | .bad, _ => some d
  | .nil, v => onlyIf (extNil v) d
  | .ref i, v => onlyIf (extRef s i v) d
  | .box b off, v => onlyIf (extBox b off v) d
def SV.exts (s : VS) (rest : List Ty) (d : Ty.Ds rest) : (l : List SV) → List TV → Option (Ty.Ds (SV.lvs rest l))
  | [], [] => some d
  | v :: l, x :: xs => match SV.exts s rest d l xs with
    | some r => SV.ext s (SV.lvs rest l) r v x
    | none => none
  | _, _ => none
/-- Rows: one that is not there yet is empty. -/
def sxR : (l : List (Option (NM × List Ty))) → List (Option VRow) → Option (Ty.Ds (lvR l))
  | [], _ => some ()
  | none :: l, rs => sxR l rs.tail
  | some (m, cs) :: l, rs => match rs.headD none with
    | some r => match castL r.cs cs r.xs with
      | some xs => if r.nm.ok m then match sxR l rs.tail with
          | some d => some (xs, d)
          | none => none
        else none
      | none => none
    | none => match sxR l rs.tail with
      | some d => some ([], d)
      | none => none
def sxB (s : VS) (rest : List Ty) (d : Ty.Ds rest) : (l : List (Option (List SV))) → List (Option (List TV)) → Option (Ty.Ds (lvB rest l))
  | [], _ => some d
  | none :: l, bs => sxB s rest d l bs.tail
  | some vs :: l, some b :: bs => match sxB s rest d l bs with
    | some r => SV.exts s (lvB rest l) r vs b
    | none => none
  | _, _ => none
/-! A skeleton names only boxes and rows that it keeps. -/
def capWf (nb : Nat) : List (Nat × Nat) → Bool
  | [] => true
  | (b, _) :: l => Nat.blt b nb && capWf nb l
def SV.wf (nb : Nat) (rows : List (Option (NM × List Ty))) : SV → Bool
  | .ref i => (rows.getD i none).isSome
  | .vw i _ => (rows.getD i none).isSome
  | .rptr i _ => (rows.getD i none).isSome
  | .box b _ => Nat.blt b nb
  | .fn _ l => capWf nb l
  | _ => true
def SV.wfs (nb : Nat) (rows : List (Option (NM × List Ty))) : List SV → Bool
  | [] => true
  | v :: l => SV.wf nb rows v && SV.wfs nb rows l
def wfB (nb : Nat) (rows : List (Option (NM × List Ty))) : List (Option (List SV)) → Bool
  | [] => true
  | none :: l => wfB nb rows l
  | some vs :: l => SV.wfs nb rows vs && wfB nb rows l
def Skel.wf (k : Skel) : Bool := SV.wfs k.boxes.length k.rows k.env && wfB k.boxes.length k.rows k.boxes
def Skel.ext0 (k : Skel) (s : VS) : Option (Ty.Ds k.ts) := match sxR k.rows s.rows with
  | some d => match sxB s (lvR k.rows) d k.boxes s.boxes with
    | some d' => SV.exts s _ d' k.env s.env
    | none => none
  | none => none
def Skel.ext (k : Skel) (s : VS) : Option (Ty.Ds k.ts) := match k.wf && Nat.ble k.boxes.length s.boxes.length with
  | true => k.ext0 s
  | false => none

/-! A loop's own word. -/
def Outs : List (Option Nat × Skel) → Type
  | [] => Empty
  | o :: l => Ty.Ds o.2.ts ⊕ Outs l
structure LCtr where
  sk : Skel
  outs : List (Option Nat × Skel)
  fn : Ty.Ds sk.ts → Option (Outs outs)
def outTo {ρ : Type} (E : Nat → VS → Option ρ) (R : VS → Option ρ) : (l : List (Option Nat × Skel)) → Outs l → Option ρ
  | [], e => nomatch e
  | o :: l, x => match x with
    | .inl d => (match o.1 with
      | some j => E j (o.2.fill d)
      | none => R (o.2.fill d))
    | .inr y => outTo E R l y
def outOf (e : Option Nat) (s : VS) : (l : List (Option Nat × Skel)) → Option (Outs l)
  | [] => none
  | o :: l => if o.1 = e then match o.2.ext s with
      | some d => some (.inl d)
      | none => none
    else match outOf e s l with
      | some y => some (.inr y)
      | none => none

def ACode.loops : ACode → Nat
  | .seq a b => a.loops + b.loops
  | .cond _ a b => a.loops + b.loops
  | .block _ a => a.loops
  | .loop a => a.loops + 1
  | _ => 0

def VS.put (s : VS) (d : Option Tmp) (v : TV) : Option VS := match d with
  | none => some s
  | some t => if s.gds.all (fun p => !(p.2 == t)) then some { s with env := s.env.set t v, gds := s.gds.filter fun p => !(p.1 == t) } else none
def VS.putG (s : VS) (d : Option Tmp) (g : Tmp × Bool) (v : TV) : Option VS := match d with
  | none => some s
  | some t => if t != g.1 && s.gds.all (fun p => !(p.2 == t)) then some { s with env := s.env.set t (.gd g.1 g.2 v), gds := (t, g.1) :: s.gds.filter fun p => !(p.1 == t) } else none
def VS.clean (s : VS) : VS := { s with env := s.gds.foldl (fun e p => e.set p.1 .bad) s.env, gds := [] }
def anRows (an : List (Nat × An)) (d : Option Tmp) : Bool := match d with
  | some d => an.any fun p => p.1 == d && (match p.2 with
    | .rows => true
    | _ => false)
  | none => false
/-- How calls may come: anywhere, in regions that draw and make lists that nobody writes, in regions that only read. -/
inductive VM where | o | x
  deriving DecidableEq
def VM.rows (m : VM) (an : List (Nat × An)) (d : Option Tmp) : Bool := match m with
  | .o => anRows an d
  | _ => false
def VM.op (_ : VM) (_ : AOp) : Bool := true
def VM.ans (_ : VM) (_ : TV) : Bool := true
def VM.ctr (m : VM) (c : Ctr) : Bool := match m with
  | .o => true
  | _ => c.fresh

section
variable {ρ : Type} (C : Ctrs) (an : List (Nat × An))

def vstep (m : VM) (s : VS) (o : AOper) (K : VS → Option ρ) : Option ρ :=
  match o.guard with
  | none => match o.op with
    | .call f args => match C f with
      | some c => if m.ctr c then vcall s c (m.rows an o.dst) (args.map (s.ev none)) fun v s1 => if m.ans v then match s1.put o.dst v with
          | some s2 => K s2
          | none => none
        else none
      else none
      | none => none
    | op => if m.op op then match vdet an s none o.dst op with
      | .ok c v s1 => match s1.put o.dst v with
        | some s2 => chks c (K s2)
        | none => none
      | .no => none
      else none
  | some g => match s.cond 4 g with
    | none => none
    | some b => match o.op with
      | .call f args => match C f with
        | some c => vcallG s c b (args.map (s.ev (some g))) fun v => if m.ans v then match s.putG o.dst g v with
            | some s2 => K s2
            | none => none
          else none
        | none => none
      | op => if quietB op then match vdet an s (some g) o.dst op with
        | .ok c v _ => match s.putG o.dst g v with
          | some s2 => chks (c.map fun x => x || !b) (K s2)
          | none => none
        | .no => none
        else none
def vops (m : VM) : List AOper → VS → (VS → Option ρ) → Option ρ
  | [], s, K => K s.clean
  | o :: l, s, K => vstep C an m s o fun s1 => vops m l s1 K

def vcode : List LCtr → ACode → VS → (VS → Option ρ) → (Nat → VS → Option ρ) → (VS → Option ρ) → Option ρ
  | _, .skip, s, K, _, _ => K s
  | _, .ops l, s, K, _, _ => vops C an .o l s K
  | _, .dops _, _, _, _, _ => none
  | _, .xops _ l, s, K, _, _ => vops C an .x (l.map (·.2)) s K
  | L, .seq a b, s, K, E, R => vcode (L.take a.loops) a s (fun s1 => vcode (L.drop a.loops) b s1 K E R) E R
  | L, .cond c a b, s, K, E, R => match s.ev none c with
    | .bool t => br t (vcode (L.take a.loops) a s K E R) (vcode (L.drop a.loops) b s K E R)
    | _ => none
  | L, .block id a, s, K, E, R => vcode L a s K (fun j s1 => if j = id then K s1 else E j s1) R
  | L, .loop _, s, _, E, R => match L with
    | lc :: _ => match lc.sk.ext s with
      | some x => (lc.fn x).bind fun out => outTo E R lc.outs out
      | none => none
    | [] => none
  | _, .exit id, s, _, E, _ => E id s
  | _, .ret, s, _, _, R => R s

/-- One round of a loop: 'f' tells what comes behind the next. -/
def vround (L : List LCtr) (a : ACode) (sk : Skel) (outs : List (Option Nat × Skel)) (x : Ty.Ds sk.ts) (f : Ty.Ds sk.ts → Option (Outs outs)) : Option (Outs outs) :=
  vcode C an L a (sk.fill x) (fun s => match sk.ext s with
    | some y => f y
    | none => none) (fun j s => outOf (some j) s outs) (fun s => outOf none s outs)
/-- The loop's word holds: it comes to an end, and so. -/
def LoopOk (L : List LCtr) (a : ACode) (lc : LCtr) : Prop :=
  ∃ m : Ty.Ds lc.sk.ts → Nat, ∀ x out, lc.fn x = some out → vround C an L a lc.sk lc.outs x (fun y => if m y < m x then lc.fn y else none) = some out
/-- All loops' words hold. -/
def LoopsOk : List LCtr → ACode → Prop
  | L, .seq a b => LoopsOk (L.take a.loops) a ∧ LoopsOk (L.drop a.loops) b
  | L, .cond _ a b => LoopsOk (L.take a.loops) a ∧ LoopsOk (L.drop a.loops) b
  | L, .block _ a => LoopsOk L a
  | L, .loop a => match L with
    | lc :: l => LoopOk C an l a lc ∧ LoopsOk l a
    | [] => True
  | _, _ => True
end

/-! A function: from its arguments' data to its answers' data. -/
def VS.res1 (s : VS) : AR → Option TV
  | .tmp t => some (s.ev none (.tmp t))
  | .cell a agg n => match s.place (s.ev none (.tmp a)) with
    | some cs => tload agg n cs
    | none => none
def VS.resL (s : VS) : List AR → Option (List TV)
  | [] => some []
  | r :: l => match s.res1 r with
    | some v => match s.resL l with
      | some vs => some (v :: vs)
      | none => none
    | none => none
/-- The answers' data: lists as rows that are handed over ('own'), or lists that nobody writes. -/
def VS.ans (s : VS) (rs : List PK) (vs : List TV) : Option (Ty.Ds (rs.flatMap (·.cs))) :=
  match argCells rs vs with
  | some l => match takeTVs (PK.owns rs) (rs.flatMap (·.cs)) s l with
    | some (d, _) => some d
    | none => none
  | none => none
def VS.start (k : Nat) (ps : List PK) (d : Ty.Ds (ps.flatMap (·.cs))) : VS :=
  match giveTVs (PK.owns ps) (ps.flatMap (·.cs)) d ⟨[], [], [], []⟩ with
  | (vs, s) => { s with env := groupL ps vs ++ List.replicate (k - ps.length) .bad }
def vfun (C : Ctrs) (an : List (Nat × An)) (L : List LCtr) (ac : ACode) (ars : List AR) (k : Nat) (ps rs : List PK) (d : Ty.Ds (ps.flatMap (·.cs))) : Option (Ty.Ds (rs.flatMap (·.cs))) :=
  vcode C an L ac (VS.start k ps d) (fun s1 => match s1.resL ars with
      | some vs => s1.ans rs vs
      | none => none) (fun _ _ => none) (fun s1 => match s1.resL ars with
      | some vs => s1.ans rs vs
      | none => none)
end Go.PA
