/- Typed values: the operations, the code, loops told by their own word. No condition. -/
import Derived.Test.YtaekmccjendfoaaV1
namespace Go.PA

/-- Go on, if so. -/
def chk {ρ : Type} (b : Bool) (x : Option ρ) : Option ρ := match b with
  | true => x
  | false => none
/-- Two ways. -/
def br {ρ : Type} (b : Bool) (x y : Option ρ) : Option ρ := match b with
  | true => x
  | false => y
def chks {ρ : Type} : List Bool → Option ρ → Option ρ
  | [], x => x
  | b :: l, x => chk b (chks l x)
def selB {α : Type} (b : Bool) (x y : α) : α := match b with
  | true => x
  | false => y

inductive VO where
  | no
  | ok (c : List Bool) (v : TV) (s : VS)

/-- A list, wherever it lies. -/
structure VL where
  cs : List Ty
  xs : List (Ty.Ds cs)
  nm : NM
  src : Option Nat
def VS.list (s : VS) : TV → Option VL
  | .lst cs xs => some ⟨cs, xs, if hasSl cs then .L else .Z, none⟩
  | .ref i => match s.row? i with
    | some r => some ⟨r.cs, r.xs, if hasSl r.cs then r.nm else .Z, some i⟩
    | none => none
  | .sub i lo hi => match s.row? i with
    | some r => some ⟨r.cs, (r.xs.take hi.toNat).drop lo.toNat, if hasSl r.cs then r.nm else .Z, some i⟩
    | none => none
  | .vw i _ cs xs => some ⟨cs, xs, if hasSl cs then .A else .Z, some i⟩
  | _ => none
/-- A list's elements, put elsewhere: what they reach goes with them, or is written no more. -/
def VS.take (s : VS) (i : Option Nat) (l : VL) (v : TV) : Option (VS × NM) :=
  match l.nm with
  | .Z => some (s, .Z)
  | .L => some (s, .L)
  | m => match l.src with
    | none => none
    | some j => match s.mine j with
      | none => none
      | some r => match v with
        | .ref _ => if i = some j then some (s.frz j r, .L) else some (s.free j, m)
        | _ => some (s.frz j r, .L)

def tyOf : AV → Option Ty
  | .int k _ => some (.int k)
  | .bool _ => some .bool
  | .str _ => some .str
  | _ => none
def tysOf : List AV → Option (List Ty)
  | [] => some []
  | a :: l => match tyOf a with
    | some t => match tysOf l with
      | some ts => some (t :: ts)
      | none => none
    | none => none
def zeroB : Ty → AV → Bool
  | .int k, .int k' n => k == k' && n == 0
  | .bool, .bool b => !b
  | .str, .str s => s.size == 0
  | .sl _, .nils => true
  | _, _ => false
def zeroBs : List Ty → List AV → Bool
  | [], [] => true
  | t :: ts, a :: l => zeroB t a && zeroBs ts l
  | _, _ => false
/-- What is told beside the code: the cells of lists that are made, whose calls' answers lie in rows. -/
inductive An where
  | ty (cs : List Ty)
  | rows
  | drop (is : List Nat)
def anTy (an : List (Nat × An)) (d : Option Tmp) (zs : List AV) : Option (List Ty) :=
  match d with
  | some d => match an.find? (fun p => p.1 == d) with
    | some (_, .ty cs) => some cs
    | _ => tysOf zs
  | none => tysOf zs

def fillPT (cs : List TV) : List (Nat × Nat × TV) → Option (List TV)
  | [] => some cs
  | (off, n, a) :: l => match a.cells with
    | some vs => if vs.length = n ∧ off + n ≤ cs.length then fillPT (tsplice cs off vs) l else none
    | none => none
def fillET (s : VS) (cs : List Ty) (xs : List (Ty.Ds cs)) (m : NM) (g : Option (Tmp × Bool)) : List (Nat × Operand) → Option (List (Ty.Ds cs) × NM × VS)
  | [] => some (xs, m, s)
  | (i, x) :: l => match (s.ev g x).cells with
    | some vs => match unTVs s cs vs with
      | some (d, m', s1) => if i < xs.length then fillET s1 cs (xs.set i d) (m.join m') g l else none
      | none => none
    | none => none
def NM.fits (m : NM) : Bool := match m with
  | .Z => true
  | .S => true
  | _ => false
/-- All of an element's lists stand among the 'n' cells from 'off' on. -/
def coverSl : Nat → Nat → List Ty → Bool
  | _, _, [] => true
  | _ + 1, _, .sl _ :: _ => false
  | off + 1, n, _ :: ts => coverSl off n ts
  | 0, 0, ts => !(hasSl ts)
  | 0, n + 1, _ :: ts => coverSl 0 n ts
/-- A store into a row's element. -/
def storeR (s : VS) (i : Nat) (idx : Int) (off n : Nat) (vs : List TV) : VO :=
  match s.slot? i with
  | none => .no
  | some sl => match unTVs s ((sl.r.cs.drop off).take n) vs with
    | none => .no
    | some (e, m, s1) => if off + n ≤ sl.r.cs.length then match s1.slot? i with
        | some (.row r1) => .ok [] .bad (VS.fixA { s1.touch i with rows := s1.rows.set i (some (.row ⟨r1.nm.join m, sl.r.cs, sl.r.xs.set idx.toNat (putD sl.r.cs (sl.r.xs.getD idx.toNat (Ty.ds0 sl.r.cs)) off n e)⟩)) } i)
        | some (.sp p _) => match m.fits && coverSl off n sl.r.cs with
          | true => .ok [decide (idx = p)] .bad { s1.touch i with rows := s1.rows.set i (some (.sp (p + 1) ⟨.S, sl.r.cs, sl.r.xs.set idx.toNat (putD sl.r.cs (sl.r.xs.getD idx.toNat (Ty.ds0 sl.r.cs)) off n e)⟩)) }
          | false => .no
        | some (.ho hi ho _) => match m.fits && Nat.ble off ho && Nat.blt ho (off + n) with
          | true => .ok [decide (idx = hi)] .bad { s1.touch i with rows := s1.rows.set i (some (.row ⟨.S, sl.r.cs, sl.r.xs.set idx.toNat (putD sl.r.cs (sl.r.xs.getD idx.toNat (Ty.ds0 sl.r.cs)) off n e)⟩)) }
          | false => .no
        | none => .no
      else .no

def tbin (op : BinOp) : TV → TV → Option (List Bool × TV)
  | .int k a, .int k' b =>
    if k ≠ k' then none else
    match op with
    | .add => some ([], .int k (k.wrap (a + b)))
    | .sub => some ([], .int k (k.wrap (a - b)))
    | .mul => some ([], .int k (k.wrap (a * b)))
    | .quo => some ([!(b == 0)], .int k (k.wrap (a.tdiv b)))
    | .rem => some ([!(b == 0)], .int k (a.tmod b))
    | .xor => some ([], .int k (bits .xor k a b))
    | .eql => some ([], .bool (a == b))
    | .neq => some ([], .bool (a != b))
    | .lss => some ([], .bool (decide (a < b)))
    | .leq => some ([], .bool (decide (a ≤ b)))
    | .gtr => some ([], .bool (decide (a > b)))
    | .geq => some ([], .bool (decide (a ≥ b)))
    | .shl => some ([decide (0 ≤ b)], .int k (k.wrap (a * 2 ^ (min b.toNat k.bits))))
    | .shr => some ([decide (0 ≤ b)], .int k (a.fdiv (2 ^ (min b.toNat k.bits))))
    | _ => none
  | .str a, .str b =>
    match op with
    | .add => some ([decide (a.size + b.size ≤ 1000000000000000)], .str (a ++ b))
    | .eql => some ([], .bool (a.toList == b.toList))
    | .neq => some ([], .bool (!(a.toList == b.toList)))
    | .lss => some ([], .bool (Op.bytesLess a.toList b.toList))
    | .leq => some ([], .bool (Op.bytesLess a.toList b.toList || a.toList == b.toList))
    | .gtr => some ([], .bool (!(Op.bytesLess a.toList b.toList || a.toList == b.toList)))
    | .geq => some ([], .bool (!(Op.bytesLess a.toList b.toList)))
    | _ => none
  | _, _ => none
def tceq : TV → TV → Option Bool
  | .int k a, .int k' b => if k = k' then some (a == b) else none
  | .bool a, .bool b => some (a == b)
  | .str a, .str b => some (a.toList == b.toList)
  | _, _ => none
def kindsT : List Nat → List TV → Bool
  | [], [] => true
  | 0 :: ks, .bool _ :: as => kindsT ks as
  | 1 :: ks, .int _ _ :: as => kindsT ks as
  | 2 :: ks, .str _ :: as => kindsT ks as
  | _, _ => false
def tcseq : List TV → List TV → Option Bool
  | [], [] => some true
  | a :: as, b :: bs => match tceq a b with
    | some x => match tcseq as bs with
      | some y => some (x && y)
      | none => none
    | none => none
  | _, _ => none
/-- One of two values of a kind. -/
def tpick (c : Bool) : TV → TV → TV
  | .int k a, .int k' b => if k = k' then .int k (selB c a b) else .bad
  | .bool a, .bool b => .bool (selB c a b)
  | .str a, .str b => .str (selB c a b)
  | _, _ => .bad
def tint : TV → Option Int
  | .int _ n => some n
  | _ => none
def tbnd (s : VS) (g : Option (Tmp × Bool)) : Option Operand → Int → Option Int
  | some o, _ => tint (s.ev g o)
  | none, d => some d
def sameOpd : Operand → Operand → Bool
  | .tmp a, .tmp b => a == b
  | _, _ => false
def byteAt (s : ByteArray) (k : Int) : Int := ((s.data[k.toNat]?).getD 0).toNat
def lenT (s : VS) : TV → Option Int
  | .nil => some 0
  | .ref i => match s.slot? i with
    | some sl => some sl.r.xs.length
    | none => none
  | v => match s.list v with
    | some l => some l.xs.length
    | none => none
def bytesOfD : List (Ty.Ds [.int .u8]) → List Int
  | [] => []
  | d :: l => d.1 :: bytesOfD l
def capOk (n bytes : Nat) : Bool := decide (n * bytes ≤ 35184372088832 ∧ n ≤ 35184372088832)

/-- Append of two parts of a row, between which a list was taken out. -/
def appHo (s : VS) (sz bytes : Nat) (vx vy : TV) : Option VO := match vx with
  | .sub i lo hi => match s.slot? i with
    | some (.ho hx _ r) => match vy with
      | .sub j lo2 hi2 => if i = j ∧ s.spare i = true ∧ r.cs.length = sz then match s.free i with
          | s2 => some (.ok [decide (lo = 0), decide (hi ≤ hx), decide (hx < lo2), capOk (hi.toNat + ((r.xs.take hi2.toNat).drop lo2.toNat).length) bytes] (.ref i) { s2 with rows := s2.rows.set i (some (.row ⟨.S, r.cs, r.xs.take hi.toNat ++ (r.xs.take hi2.toNat).drop lo2.toNat⟩)) })
        else some .no
      | _ => some .no
    | _ => none
  | _ => none

/-- What an operation that is no call yields. -/
def vdet (an : List (Nat × An)) (s : VS) (g : Option (Tmp × Bool)) (dst : Option Tmp) : AOp → VO
  | .mv x => .ok [] (s.ev g x) s
  | .pick c a b => match s.ev g c, c with
    | .bool t, .tmp ct => .ok [] (tpick t ((s.ev (some (ct, true)) a)) ((s.ev (some (ct, false)) b))) s
    | _, _ => .no
  | .alloc zs => match s.newBox (zs.map ofAV) with
    | (b, s1) => .ok [] (.box b 0) s1
  | .box x => match (s.ev g x).cells with
    | some cs => match s.newBox cs with
      | (b, s1) => .ok [] (.box b 0) s1
    | none => .no
  | .build zs parts => match fillPT (zs.map ofAV) (parts.map fun p => (p.1, p.2.1, s.ev g p.2.2)) with
    | some cs => .ok [] (.st cs) s
    | none => .no
  | .bslice sz n zs parts => match anTy an dst zs with
    | some cs => if zeroBs cs zs && zs.length == sz then match fillET s cs (List.replicate n (Ty.ds0 cs)) .Z g parts with
        | some (xs, m, s1) => match s1.newRow ⟨m, cs, xs⟩ with
          | (i, s2) => .ok [] (.ref i) (s2.fixA i)
        | none => .no
      else .no
    | none => .no
  | .load agg n a => match s.place (s.ev g a) with
    | some cs => match tload agg n cs with
      | some v => .ok [] v s
      | none => .no
    | none => .no
  | .store n a x => match (s.ev g x).cells with
    | some vs => if vs.length = n ∧ 0 < n then match s.ev g a with
        | .box b off => match s.box? b with
          | some cs => if off + n ≤ cs.length then .ok [] .bad { s with boxes := s.boxes.set b (some (tsplice cs off vs)) } else .no
          | none => .no
        | .rptr i idx off => storeR s i idx off n vs
        | _ => .no
      else .no
    | none => .no
  | .nilchk x => match s.ev g x with
    | .box b off => .ok [] (.box b off) s
    | .rptr i idx off => .ok [] (.rptr i idx off) s
    | .lptr l => .ok [] (.lptr l) s
    | .vptr i l => .ok [] (.vptr i l) s
    | .fn f c => .ok [] (.fn f c) s
    | _ => .no
  | .bin op x y => match tbin op (s.ev g x) (s.ev g y) with
    | some (c, v) => .ok c v s
    | none => .no
  | .beq neg x y => match s.ev g x, s.ev g y with
    | .bool a, .bool b => .ok [] (.bool (if neg then !(a == b) else a == b)) s
    | _, _ => .no
  | .seq neg ks x y => match s.ev g x, s.ev g y with
    | .st as, .st bs => if as.length = ks.length ∧ bs.length = ks.length ∧ kindsT ks as = true then match tcseq as bs with
        | some b => .ok [] (.bool (if neg then !b else b)) s
        | none => .no
      else .no
    | _, _ => .no
  | .un op x => match s.ev g x with
    | .int k n => match op with
      | .neg => .ok [] (.int k (k.wrap (0 - n))) s
      | _ => .no
    | .bool b => match op with
      | .not => .ok [] (.bool (!b)) s
      | _ => .no
    | _ => .no
  | .ii k x => match s.ev g x with
    | .int _ n => .ok [] (.int k (k.wrap n)) s
    | _ => .no
  | .b2s x => match s.ev g x with
    | .nil => .ok [] (.str ByteArray.empty) s
    | v => match s.list v with
      | some l => match castL l.cs [.int .u8] l.xs with
        | some xs => .ok [] (.str (strOfInts (bytesOfD xs))) s
        | none => .no
      | none => .no
  | .mks sz bytes zs x y => match s.ev g x, s.ev g y with
    | .int .i64 n, .int .i64 n' => match anTy an dst zs with
      | some cs => if zeroBs cs zs && zs.length == sz then match s.newRow ⟨.Z, cs, List.replicate n.toNat (Ty.ds0 cs)⟩ with
          | (i, s1) => .ok ((if sameOpd x y then [] else [n == n']) ++ [decide (0 ≤ n ∧ (bytes : Int) * n ≤ 281474976710656 ∧ n ≤ 281474976710656)]) (.ref i) s1
        else .no
      | none => .no
    | _, _ => .no
  | .sl sz x lo hi => match s.ev g x with
    | .nil => match tbnd s g lo 0, tbnd s g hi 0 with
      | some a, some b => .ok [decide (a = 0 ∧ b = 0)] .nil s
      | _, _ => .no
    | .lst cs xs => match tbnd s g lo 0, tbnd s g hi xs.length with
      | some a, some b => if cs.length == sz then .ok [decide (0 ≤ a ∧ a ≤ b ∧ b ≤ xs.length)] (.lst cs ((xs.take b.toNat).drop a.toNat)) s else .no
      | _, _ => .no
    | .vw i _ cs xs => match tbnd s g lo 0, tbnd s g hi xs.length with
      | some a, some b => if cs.length == sz then .ok [decide (0 ≤ a ∧ a ≤ b ∧ b ≤ xs.length)] (.vw i none cs ((xs.take b.toNat).drop a.toNat)) s else .no
      | _, _ => .no
    | .ref i => match s.slot? i with
      | some r => match tbnd s g lo 0, tbnd s g hi r.r.xs.length with
        | some a, some b => if r.r.cs.length == sz then .ok [decide (0 ≤ a ∧ a ≤ b ∧ b ≤ r.r.xs.length)] (.sub i a b) s else .no
        | _, _ => .no
      | none => .no
    | _ => .no
  | .slstr x lo hi => match s.ev g x with
    | .str t => match tbnd s g lo 0, tbnd s g hi t.size with
      | some a, some b => .ok [decide (0 ≤ a ∧ a ≤ b ∧ b ≤ t.size)] (.str (t.extract a.toNat b.toNat)) s
      | _, _ => .no
    | _ => .no
  | .fa off x => match s.ev g x with
    | .box b o => .ok [] (.box b (o + off)) s
    | .rptr i idx o => .ok [] (.rptr i idx (o + off)) s
    | .lptr l => .ok [] (.lptr (l.drop off)) s
    | .vptr i l => .ok [] (.vptr i (l.drop off)) s
    | _ => .no
  | .ia sz x i => match s.ev g i with
    | .int _ n => match s.ev g x with
      | .lst cs xs => if cs.length == sz then .ok [decide (0 ≤ n ∧ n < xs.length)] (.lptr (toTVs none 0 cs (xs.getD n.toNat (Ty.ds0 cs)))) s else .no
      | .vw j _ cs xs => if cs.length == sz then .ok [decide (0 ≤ n ∧ n < xs.length)] (.vptr j (toTVs (some (j, none)) 0 cs (xs.getD n.toNat (Ty.ds0 cs)))) s else .no
      | .ref j => match s.slot? j with
        | some r => if r.r.cs.length == sz then .ok [decide (0 ≤ n ∧ n < r.r.xs.length)] (.rptr j n 0) s else .no
        | none => .no
      | .sub j lo hi => match s.slot? j with
        | some r => if r.r.cs.length == sz then .ok [decide (0 ≤ n ∧ n < hi - lo)] (.rptr j (lo + n) 0) s else .no
        | none => .no
      | _ => .no
    | _ => .no
  | .idx ln sz agg n x i => match s.ev g x, s.ev g i with
    | .st cs, .int _ k => if 0 ≤ k ∧ k < ln ∧ cs.length = ln * sz then match tload agg n (cs.drop (k.toNat * sz)) with
        | some v => .ok [] v s
        | none => .no
      else .no
    | _, _ => .no
  | .idxs x i => match s.ev g x, s.ev g i with
    | .str t, .int _ k => .ok [decide (0 ≤ k ∧ k < t.size)] (.int .u8 (byteAt t k)) s
    | _, _ => .no
  | .fld agg off n x => match s.ev g x with
    | .st cs => match tload agg n (cs.drop off) with
      | some v => .ok [] v s
      | none => .no
    | _ => .no
  | .ext x i => match s.ev g x with
    | .tup vs => match vs[i]? with
      | some v => .ok [] v s
      | none => .no
    | _ => .no
  | .len st x => match s.ev g x with
    | .str t => if st then .ok [] (.int .i64 t.size) s else .no
    | v => if st then .no else match lenT s v with
      | some n => .ok [] (.int .i64 n) s
      | none => .no
  | .app sz bytes x y => match appHo s sz bytes (s.ev g x) (s.ev g y) with
    | some r => r
    | none => match s.ev g y with
    | .nil => .no
    | vy => match s.list vy with
      | some ly => if ly.cs.length == sz then match s.ev g x with
          | .nil => match s.take none ly vy with
            | some (s1, m) => match s1.newRow ⟨m, ly.cs, ly.xs⟩ with
              | (i, s2) => .ok [capOk ly.xs.length bytes] (.ref i) (s2.fixA i)
            | none => .no
          | .ref i => match s.take (some i) ly vy with
            | some (s1, m) => match s1.mine i with
              | some r => match castL ly.cs r.cs ly.xs with
                | some ys => match s1.free i with
                  | s2 => .ok [capOk (r.xs.length + ys.length) bytes] (.ref i) (VS.fixA { s2 with rows := s2.rows.set i (some (.row ⟨(if hasSl r.cs then r.nm else .Z).join m, r.cs, r.xs ++ ys⟩)) } i)
                | none => .no
              | none => .no
            | none => .no
          | .sub i lo hi => match s.take (some i) ly vy with
            | some (s1, m) => match s1.mine i with
              | some r => match castL ly.cs r.cs ly.xs with
                | some ys => match s1.free i with
                  | s2 => .ok [decide (lo = 0), capOk (hi.toNat + ys.length) bytes] (.ref i) (VS.fixA { s2 with rows := s2.rows.set i (some (.row ⟨(if hasSl r.cs then r.nm else .Z).join m, r.cs, r.xs.take hi.toNat ++ ys⟩)) } i)
                | none => .no
              | none => .no
            | none => .no
          | .vw i (some (k, off)) _ _ => match s.take none ly vy with
            | some (s1, m) => match s1.row? i with
              | some r => match r.nm with
                | .S => match (toTVs none 0 r.cs (r.xs.getD k.toNat (Ty.ds0 r.cs)))[off]? with
                  | some (.lst cs2 zs) => match castL ly.cs cs2 ly.xs with
                    | some ys => match VS.newRow { s1.touch i with rows := s1.rows.set i (some (.ho k off r)) } ⟨(if hasSl cs2 then NM.S else NM.Z).join m, cs2, zs ++ ys⟩ with
                      | (j, s2) => .ok [capOk (zs.length + ys.length) bytes] (.ref j) (s2.fixA j)
                    | none => .no
                  | _ => .no
                | _ => .no
              | none => .no
            | none => .no
          | _ => .no
        else .no
      | none => .no
  | .cpy sz x y => match s.ev g y with
    | .nil => .no
    | vy => match s.list vy with
      | some ly => if ly.cs.length == sz then match s.ev g x with
          | .nil => .ok [] (.int .i64 0) s
          | .ref i => match s.take (some i) ly vy with
            | some (s1, m) => match s1.row? i with
              | some r => match castL ly.cs r.cs ly.xs with
                | some ys => match s1.touch i with
                  | s2 => .ok [] (.int .i64 (min ys.length r.xs.length : Nat)) (VS.fixA { s2 with rows := s2.rows.set i (some (.row ⟨r.nm.join m, r.cs, ys.take (min ys.length r.xs.length) ++ r.xs.drop (min ys.length r.xs.length)⟩)) } i)
                | none => .no
              | none => .no
            | none => .no
          | _ => .no
        else .no
      | none => .no
  | .mnx mx x y => match s.ev g x, s.ev g y with
    | .int k a, .int k' b => if k = k' then .ok [] (.int k (if mx then (if b > a then b else a) else (if b < a then b else a))) s else .no
    | _, _ => .no
  | .mkf f caps => .ok [] (.fn f (caps.map (s.ev g))) s
  | _ => .no
end Go.PA
