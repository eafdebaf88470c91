/- The plain operations: what each yields and how it turns the plain heap. No condition. -/
import Derived.Test.YtaekmccjendfoaaK2
namespace Go.PA

def of1 : Value → AV
  | .int k n => .int k n
  | .bool b => .bool b
  | .string s => .str s
  | .slice none 0 0 => .nils
  | _ => .bad
def ofC : Value → AV
  | .agg cs => if cs.all cellV then .agg (cs.toList.map of1) else .bad
  | v => of1 v
def aeval (env : List AV) : Operand → AV
  | .tmp t => env.getD t .bad
  | .const v => ofC v
  | .func f => .fn f []
  | .global _ => .bad
def aput (env : List AV) : Option Tmp → AV → List AV
  | some t, v => env.set t v
  | none, _ => env

/-- A value's cells. -/
def acells : AV → Option (List AV)
  | .agg cs => some cs
  | .bad => none
  | .tup _ => none
  | a => some [a]
/-- 'cs' written over 'l' from 'off' on. -/
def splice : List AV → Nat → List AV → List AV
  | l, _, [] => l
  | l, off, c :: cs => splice (l.set off c) (off + 1) cs

inductive AOp where
  | mv (x : Operand)
  | pick (c a b : Operand)
  | alloc (zs : List AV)
  | box (x : Operand)
  | build (zs : List AV) (parts : List (Nat × Nat × Operand))
  | bslice (sz n : Nat) (zs : List AV) (parts : List (Nat × Operand))
  | load (agg : Bool) (n : Nat) (a : Operand)
  | store (n : Nat) (a x : Operand)
  | nilchk (x : Operand)
  | bin (op : BinOp) (x y : Operand)
  | beq (neg : Bool) (x y : Operand)
  | seq (neg : Bool) (ks : List Nat) (x y : Operand)
  | un (op : UnOp) (x : Operand)
  | ii (k : IntKind) (x : Operand)
  | b2s (x : Operand)
  | mks (sz bytes : Nat) (zs : List AV) (x y : Operand)
  | sl (sz : Nat) (x : Operand) (lo hi : Option Operand)
  | slstr (x : Operand) (lo hi : Option Operand)
  | fa (off : Nat) (x : Operand)
  | ia (sz : Nat) (x i : Operand)
  | idx (ln sz : Nat) (agg : Bool) (n : Nat) (x i : Operand)
  | idxs (x i : Operand)
  | fld (agg : Bool) (off n : Nat) (x : Operand)
  | ext (x : Operand) (i : Nat)
  | len (st : Bool) (x : Operand)
  | app (sz bytes : Nat) (x y : Operand)
  | apps (x y : Operand)
  | cpy (sz : Nat) (x y : Operand)
  | mnx (mx : Bool) (x y : Operand)
  | call (f : FuncId) (args : List Operand)
  | callv (x : Operand) (args : List Operand)
  | mkf (f : FuncId) (caps : List Operand)

structure AOper where
  dst : Option Tmp
  op : AOp
  guard : Option (Tmp × Bool)

/-- An operation of a region that draws its order: its number, whose places it leaves alone. -/
structure XOp where
  n : Nat
  us : List Tmp
  o : AOper

inductive ACode where
  | skip
  | ops (l : List AOper)
  | dops (l : List AOper)
  | xops (c : Bool) (l : List XOp)
  | seq (a b : ACode)
  | cond (c : Operand) (a b : ACode)
  | block (id : Nat) (a : ACode)
  | loop (a : ACode)
  | exit (id : Nat)
  | ret

/-- Numbers, texts and strings: '+', comparisons and their kin. -/
def abin (op : BinOp) : AV → AV → Option AV
  | .int k a, .int k' b =>
    if k ≠ k' then none else
    match op with
    | .add => some (.int k (k.wrap (a + b)))
    | .sub => some (.int k (k.wrap (a - b)))
    | .mul => some (.int k (k.wrap (a * b)))
    | .quo => if b = 0 then none else some (.int k (k.wrap (a.tdiv b)))
    | .rem => if b = 0 then none else some (.int k (a.tmod b))
    | .xor => some (.int k (bits .xor k a b))
    | .eql => some (.bool (a == b))
    | .neq => some (.bool (a != b))
    | .lss => some (.bool (decide (a < b)))
    | .leq => some (.bool (decide (a ≤ b)))
    | .gtr => some (.bool (decide (a > b)))
    | .geq => some (.bool (decide (a ≥ b)))
    | .shl => if b < 0 then none else some (.int k (k.wrap (a * 2 ^ (min b.toNat k.bits))))
    | .shr => if b < 0 then none else some (.int k (a.fdiv (2 ^ (min b.toNat k.bits))))
    | _ => none
  | .str a, .str b =>
    match op with
    | .add => if a.size + b.size ≤ 1000000000000000 then some (.str (a ++ b)) else none
    | .eql => some (.bool (a.toList == b.toList))
    | .neq => some (.bool (!(a.toList == b.toList)))
    | .lss => some (.bool (Op.bytesLess a.toList b.toList))
    | .leq => some (.bool (Op.bytesLess a.toList b.toList || a.toList == b.toList))
    | .gtr => some (.bool (!(Op.bytesLess a.toList b.toList || a.toList == b.toList)))
    | .geq => some (.bool (!(Op.bytesLess a.toList b.toList)))
    | _ => none
  | _, _ => none

def aun (op : UnOp) : AV → Option AV
  | .int k n => match op with | .neg => some (.int k (k.wrap (0 - n))) | _ => none
  | .bool b => match op with | .not => some (.bool (!b)) | _ => none
  | _ => none

/-- One cell against another, of the same kind. -/
def ceq : AV → AV → Option Bool
  | .int k a, .int k' b => if k = k' then some (a == b) else none
  | .bool a, .bool b => some (a == b)
  | .str a, .str b => some (a.toList == b.toList)
  | _, _ => none
def cseq : List AV → List AV → Option Bool
  | [], [] => some true
  | a :: as, b :: bs => match ceq a b with
    | some x => match cseq as bs with
      | some y => some (x && y)
      | none => none
    | none => none
  | _, _ => none

/-- Cells of these kinds: 0 Boolean, 1 a number, 2 a string. -/
def kindsB : List Nat → List AV → Bool
  | [], [] => true
  | 0 :: ks, .bool _ :: as => kindsB ks as
  | 1 :: ks, .int _ _ :: as => kindsB ks as
  | 2 :: ks, .str _ :: as => kindsB ks as
  | _, _ => false

/-- The elements of a slice. -/
def aels (h : Heap) : AV → Option (List (List AV))
  | .nils => some []
  | .lit _ xs => some xs
  | .ref r off len => match h.rows r with
    | some row => if off + len ≤ row.el.length then some ((row.el.drop off).take len) else none
    | none => none
  | _ => none
def byteOf? : List AV → Option Int
  | [.int .u8 n] => some n
  | _ => none
def bytes1 : List (List AV) → Option (List Int)
  | [] => some []
  | cs :: l => match byteOf? cs with
    | some n => match bytes1 l with
      | some ns => some (n :: ns)
      | none => none
    | none => none
def strOfInts (ns : List Int) : ByteArray := ns.foldl (fun r n => r.push (UInt8.ofNat n.toNat)) ByteArray.empty

def fillP (zs : List AV) : List (Nat × Nat × AV) → Option (List AV)
  | [] => some zs
  | (off, n, a) :: l => match acells a with
    | some cs => if cs.length = n ∧ off + n ≤ zs.length then fillP (splice zs off cs) l else none
    | none => none
def fillE (sz : Nat) (el : List (List AV)) : List (Nat × AV) → Option (List (List AV))
  | [] => some el
  | (i, a) :: l => match acells a with
    | some cs => if cs.length = sz ∧ i < el.length then fillE sz (el.set i cs) l else none
    | none => none

/-- 'n' cells of a list, as a value. -/
def aload (agg : Bool) (n : Nat) (cs : List AV) : Option AV :=
  if agg then (if n ≤ cs.length then some (.agg (cs.take n)) else none) else cs.head?

/-- The cells from a place on, to the end of the box or of the element. -/
def place (h : Heap) : AV → Option (List AV)
  | .box b off => match h.boxes[b]? with
    | some cs => some (cs.drop off)
    | none => none
  | .rptr r idx off => match h.rows r with
    | some row => match row.el[idx]? with
      | some cs => some (cs.drop off)
      | none => none
    | none => none
  | .lptr cs => some cs
  | _ => none

def intOf? : AV → Option Int
  | .int _ n => some n
  | _ => none

/-- A bound of a cut. -/
def bnd (env : List AV) : Option Operand → Int → Option Int
  | some o, _ => intOf? (aeval env o)
  | none, d => some d

/-- What an operation that is no call yields, and the heap behind it. -/
def adet (env : List AV) (h : Heap) : AOp → Option (AV × Heap)
  | .mv x => some (aeval env x, h)
  | .pick c a b => match aeval env c with
    | .bool t => some (if t then aeval env a else aeval env b, h)
    | _ => none
  | .alloc zs => some (.box h.boxes.length 0, { h with boxes := h.boxes ++ [zs] })
  | .box x => match acells (aeval env x) with
    | some cs => some (.box h.boxes.length 0, { h with boxes := h.boxes ++ [cs] })
    | none => none
  | .build zs parts => match fillP zs (parts.map fun p => (p.1, p.2.1, aeval env p.2.2)) with
    | some cs => some (.agg cs, h)
    | none => none
  | .bslice sz n zs parts => match fillE sz (List.replicate n zs) (parts.map fun p => (p.1, aeval env p.2)) with
    | some el => some (.ref h.next 0 n, { h with rows := upd h.rows h.next (some ⟨sz, el⟩), next := h.next + 1 })
    | none => none
  | .load agg n a => match place h (aeval env a) with
    | some cs => match aload agg n cs with
      | some v => some (v, h)
      | none => none
    | none => none
  | .store n a x => match acells (aeval env x) with
    | some vs => if vs.length = n then
        match aeval env a with
        | .box b off => match h.boxes[b]? with
          | some cs => if off + n ≤ cs.length then some (.bad, { h with boxes := h.boxes.set b (splice cs off vs) }) else none
          | none => none
        | .rptr r idx off => match h.rows r with
          | some row => match row.el[idx]? with
            | some cs => if off + n ≤ cs.length then some (.bad, { h with rows := upd h.rows r (some ⟨row.sz, row.el.set idx (splice cs off vs)⟩) }) else none
            | none => none
          | none => none
        | _ => none
      else none
    | none => none
  | .nilchk x => match aeval env x with
    | .box b off => some (.box b off, h)
    | .rptr r idx off => some (.rptr r idx off, h)
    | .lptr cs => some (.lptr cs, h)
    | .fn f cap => some (.fn f cap, h)
    | _ => none
  | .bin op x y => match abin op (aeval env x) (aeval env y) with
    | some v => some (v, h)
    | none => none
  | .beq neg x y => match aeval env x, aeval env y with
    | .bool a, .bool b => some (.bool (if neg then !(a == b) else a == b), h)
    | _, _ => none
  | .seq neg ks x y => match aeval env x, aeval env y with
    | .agg as, .agg bs => if as.length = ks.length ∧ bs.length = ks.length ∧ kindsB ks as = true then
        match cseq as bs with
        | some b => some (.bool (if neg then !b else b), h)
        | none => none
      else none
    | _, _ => none
  | .un op x => match aun op (aeval env x) with
    | some v => some (v, h)
    | none => none
  | .ii k x => match aeval env x with
    | .int _ n => some (.int k (k.wrap n), h)
    | _ => none
  | .b2s x => match aels h (aeval env x) with
    | some xs => match bytes1 xs with
      | some ns => some (.str (strOfInts ns), h)
      | none => none
    | none => none
  | .mks sz bytes zs x y => match aeval env x, aeval env y with
    | .int .i64 n, .int .i64 n' => if 0 ≤ n ∧ n = n' ∧ (bytes : Int) * n ≤ 281474976710656 ∧ n ≤ 281474976710656 then
        some (.ref h.next 0 n.toNat, { h with rows := upd h.rows h.next (some ⟨sz, List.replicate n.toNat zs⟩), next := h.next + 1 })
      else none
    | _, _ => none
  | .sl sz x lo hi =>
    match aeval env x with
    | .nils => match bnd env lo 0, bnd env hi 0 with
      | some a, some b => if a = 0 ∧ b = 0 then some (.nils, h) else none
      | _, _ => none
    | .lit f xs => match bnd env lo 0, bnd env hi xs.length with
      | some a, some b => if 0 ≤ a ∧ a ≤ b ∧ b ≤ xs.length ∧ xs.all (fun cs => cs.length == sz) then some (.lit f ((xs.take b.toNat).drop a.toNat), h) else none
      | _, _ => none
    | .ref r off len => match bnd env lo 0, bnd env hi len with
      | some a, some b => match h.rows r with
        | some row => if 0 ≤ a ∧ a ≤ b ∧ b ≤ len ∧ row.sz = sz then some (if a = b ∧ a ≠ 0 then .lit true [] else .ref r (off + a.toNat) (b.toNat - a.toNat), h) else none
        | none => none
      | _, _ => none
    | _ => none
  | .slstr x lo hi => match aeval env x with
    | .str s => match bnd env lo 0, bnd env hi s.size with
      | some a, some b => if 0 ≤ a ∧ a ≤ b ∧ b ≤ s.size then some (.str (s.extract a.toNat b.toNat), h) else none
      | _, _ => none
    | _ => none
  | .fa off x => match aeval env x with
    | .box b o => some (.box b (o + off), h)
    | .rptr r i o => some (.rptr r i (o + off), h)
    | .lptr cs => some (.lptr (cs.drop off), h)
    | _ => none
  | .ia sz x i => match aeval env i with
    | .int _ n => match aeval env x with
      | .lit _ xs => if 0 ≤ n ∧ n < xs.length then (match xs[n.toNat]? with
          | some cs => if cs.length = sz then some (.lptr cs, h) else none
          | none => none) else none
      | .ref r off len => if 0 ≤ n ∧ n < len then (match h.rows r with
          | some row => if row.sz = sz then some (.rptr r (off + n.toNat) 0, h) else none
          | none => none) else none
      | _ => none
    | _ => none
  | .idx ln sz agg n x i => match aeval env x, aeval env i with
    | .agg cs, .int _ k => if 0 ≤ k ∧ k < ln ∧ cs.length = ln * sz then
        (match aload agg n (cs.drop (k.toNat * sz)) with
        | some v => some (v, h)
        | none => none) else none
    | _, _ => none
  | .idxs x i => match aeval env x, aeval env i with
    | .str s, .int _ k => if hk : 0 ≤ k ∧ k.toNat < s.size then some (.int .u8 ((s[k.toNat]'hk.2).toNat : Int), h) else none
    | _, _ => none
  | .fld agg off n x => match aeval env x with
    | .agg cs => match aload agg n (cs.drop off) with
      | some v => some (v, h)
      | none => none
    | _ => none
  | .ext x i => match aeval env x with
    | .tup vs => match vs[i]? with
      | some v => some (v, h)
      | none => none
    | _ => none
  | .len st x => match aeval env x with
    | .str s => if st then some (.int .i64 (s.size : Int), h) else none
    | .nils => if st then none else some (.int .i64 0, h)
    | .lit _ xs => if st then none else some (.int .i64 (xs.length : Int), h)
    | .ref _ _ n => if st then none else some (.int .i64 (n : Int), h)
    | _ => none
  | .app sz bytes x y => match aels h (aeval env y) with
    | some ys => if ys.all (fun cs => cs.length == sz) then
        match aeval env x with
        | .nils => if ys = [] then some (.nils, h) else
          if ys.length * bytes ≤ 35184372088832 ∧ ys.length ≤ 35184372088832 then
            some (.ref h.next 0 ys.length, { h with rows := upd h.rows h.next (some ⟨sz, ys⟩), next := h.next + 1 }) else none
        | .ref r off len => match h.rows r with
          | some row => if row.sz = sz ∧ off + len ≤ row.el.length ∧ (len + ys.length) * bytes ≤ 35184372088832 ∧ len + ys.length ≤ 35184372088832 then
              some (.ref h.next 0 (len + ys.length), { h with rows := upd (upd h.rows r none) h.next (some ⟨sz, (row.el.drop off).take len ++ ys⟩), next := h.next + 1 }) else none
          | none => none
        | _ => none
      else none
    | none => none
  | .apps _ _ => none
  | .cpy sz x y => match aels h (aeval env y) with
    | some ys => if ys.all (fun cs => cs.length == sz) then
        match aeval env x with
        | .nils => some (.int .i64 0, h)
        | .ref r off len => match h.rows r with
          | some row => if row.sz = sz ∧ off + len ≤ row.el.length then
              some (.int .i64 (min ys.length len : Nat), { h with rows := upd h.rows r (some ⟨sz, row.el.take off ++ ys.take (min ys.length len) ++ row.el.drop (off + min ys.length len)⟩) }) else none
          | none => none
        | _ => none
      else none
    | none => none
  | .mnx mx x y => match aeval env x, aeval env y with
    | .int k a, .int k' b => if k = k' then some (.int k (if mx then (if b > a then b else a) else (if b < a then b else a)), h) else none
    | _, _ => none
  | .mkf f caps => some (.fn f (caps.map (aeval env)), h)
  | .call _ _ => none
  | .callv _ _ => none

end Go.PA
