/- Which plain operation stands for which of the machine's, by the program's own tables. No condition. -/
import Derived.Test.YtaekmccjendfoaaK3
namespace Go.PA

def TrP (P : Program) (fs : Array Field) : List (Nat × Operand) → List (Nat × Nat × Operand)
  | [] => []
  | (j, x) :: l => match fs[j]? with
    | some f => (f.offset, P.cellsOf f.type, x) :: TrP P fs l
    | none => TrP P fs l

/-- A struct of single cells, one behind the other. -/
def kindsF (P : Program) : Nat → List Field → Option (List Nat)
  | _, [] => some []
  | n, f :: fs => if f.name ≠ "_" ∧ f.offset = n then
      match P.underlying f.type with
      | some .bool => (kindsF P (n + 1) fs).map (0 :: ·)
      | some (.int _) => (kindsF P (n + 1) fs).map (1 :: ·)
      | some .string => (kindsF P (n + 1) fs).map (2 :: ·)
      | _ => none
    else none
inductive TrOp (P : Program) : Go.Op → AOp → Prop
  | mv (x) : TrOp P (.move x) (.mv x)
  | asg (x) : TrOp P (.assign x) (.mv x)
  | pick (c a b) : TrOp P (.pick c a b) (.pick c a b)
  | alloc (e : TypeId) (i : TypeInfo) (z : Value) (hi : P.info? e = some i) (hz : i.zero = some z) (hc : z.cells.all cellV = true) :
      TrOp P (.alloc e) (.alloc (z.cells.toList.map of1))
  | box (e x) : TrOp P (.box e x) (.box x)
  | build (t : TypeId) (i : TypeInfo) (z : Value) (fs : Array Field) (parts) (ht : P.underlying t = some (.struct fs)) (hi : P.info? t = some i) (hz : i.zero = some z) (hc : z.cells.all cellV = true)
      (hf : fs.all (fun f => (P.info? f.type).isSome) = true) (hp : parts.all (fun p => decide (p.1 < fs.size)) = true) :
      TrOp P (.build t parts) (.build (z.cells.toList.map of1) (TrP P fs parts.toList))
  | buildA (t e : TypeId) (i ie : TypeInfo) (z : Value) (n : Nat) (parts) (ht : P.underlying t = some (.array n e)) (hi : P.info? t = some i) (hz : i.zero = some z) (hc : z.cells.all cellV = true)
      (he : P.info? e = some ie) : TrOp P (.build t parts) (.build (z.cells.toList.map of1) (parts.toList.map fun p => (p.1 * ie.size, ie.size, p.2)))
  | bslice (t e : TypeId) (i : TypeInfo) (z : Value) (n : Nat) (parts) (ht : P.underlying t = some (.slice e)) (hi : P.info? e = some i) (hz : i.zero = some z) (hc : z.cells.all cellV = true)
      (hs : z.cells.size = i.size) (hs0 : 0 < i.size) (hn : n * i.size ≤ 16777216) : TrOp P (.buildSlice t n parts) (.bslice i.size n (z.cells.toList.map of1) parts.toList)
  | load1 (t : TypeId) (d : TypeDesc) (a) (ht : P.underlying t = some d) (hd : d.isRow = false) : TrOp P (.load t a) (.load false 1 a)
  | loadA (t : TypeId) (d : TypeDesc) (i : TypeInfo) (a) (ht : P.underlying t = some d) (hd : d.isRow = true) (hi : P.info? t = some i) : TrOp P (.load t a) (.load true i.size a)
  | store (t : TypeId) (i : TypeInfo) (a x) (hi : P.info? t = some i) : TrOp P (.store t a x) (.store i.size a x)
  | nilchk (x) : TrOp P (.nilCheck x) (.nilchk x)
  | bin (op t x y ty) : TrOp P (.binOp op t x y ty) (.bin op x y)
  | beq (t x y ty) (ht : P.underlying t = some .bool) : TrOp P (.binOp .eql t x y ty) (.beq false x y)
  | bne (t x y ty) (ht : P.underlying t = some .bool) : TrOp P (.binOp .neq t x y ty) (.beq true x y)
  | seq (t x y ty) (fs : Array Field) (ks) (ht : P.underlying t = some (.struct fs)) (hk : kindsF P 0 fs.toList = some ks) (h1 : P.stoodInHeld t = false) (h2 : P.eqGuardType P.depth t = false) : TrOp P (.binOp .eql t x y ty) (.seq false ks x y)
  | sne (t x y ty) (fs : Array Field) (ks) (ht : P.underlying t = some (.struct fs)) (hk : kindsF P 0 fs.toList = some ks) (h1 : P.stoodInHeld t = false) (h2 : P.eqGuardType P.depth t = false) : TrOp P (.binOp .neq t x y ty) (.seq true ks x y)
  | un (op t x) : TrOp P (.unOp op t x) (.un op x)
  | ii (s t : TypeId) (d : TypeDesc) (k x) (hs : P.underlying s = some d) (ht : P.underlying t = some (.int k)) : TrOp P (.convert s t x) (.ii k x)
  | b2s (s t e : TypeId) (x) (hs : P.underlying s = some (.slice e)) (he : P.underlying e = some (.int .u8)) (hi : (P.info? e).map (·.size) = some 1) (ht : P.underlying t = some .string) : TrOp P (.convert s t x) (.b2s x)
  | mks (t e : TypeId) (i : TypeInfo) (z : Value) (x y) (ht : P.underlying t = some (.slice e)) (hi : P.info? e = some i) (hz : i.zero = some z) (hc : z.cells.all cellV = true) (hs : z.cells.size = i.size) (hs0 : 0 < i.size) :
      TrOp P (.makeSlice t x y) (.mks i.size i.bytes (z.cells.toList.map of1) x y)
  | sl (t e : TypeId) (i : TypeInfo) (x lo hi') (ht : P.underlying t = some (.slice e)) (hi : P.info? e = some i) : TrOp P (.slice t x lo hi' none) (.sl i.size x lo hi')
  | slstr (t : TypeId) (x lo hi) (ht : P.underlying t = some .string) : TrOp P (.slice t x lo hi none) (.slstr x lo hi)
  | fa (t : TypeId) (fs : Array Field) (f : Field) (i : TypeInfo) (x j) (ht : P.underlying t = some (.struct fs)) (hf : fs[j]? = some f) (hi : P.info? f.type = some i) (hs : i.size ≠ 0) : TrOp P (.fieldAddr t x j) (.fa f.offset x)
  | ia (t e : TypeId) (i : TypeInfo) (x y) (ht : P.underlying t = some (.slice e)) (hi : P.info? e = some i) : TrOp P (.indexAddr t x y) (.ia i.size x y)
  | iaA (t e : TypeId) (n : Nat) (i : TypeInfo) (x) (k : IntKind) (m : Int) (ht : P.underlying t = some (.array n e)) (hi : P.info? e = some i) (hm : 0 ≤ m ∧ m < n) : TrOp P (.indexAddr t x (.const (.int k m))) (.fa (m.toNat * i.size) x)
  | idx1 (t e : TypeId) (d : TypeDesc) (i : TypeInfo) (n x y) (ht : P.underlying t = some (.array n e)) (hi : P.info? e = some i) (he : P.underlying e = some d) (hd : d.isRow = false) (hs : i.size = 1) :
      TrOp P (.index t x y) (.idx n 1 false 1 x y)
  | idxs (t : TypeId) (x y) (ht : P.underlying t = some .string) : TrOp P (.index t x y) (.idxs x y)
  | fld1 (t : TypeId) (fs : Array Field) (f : Field) (d : TypeDesc) (x j) (ht : P.underlying t = some (.struct fs)) (hf : fs[j]? = some f) (he : P.underlying f.type = some d) (hd : d.isRow = false) : TrOp P (.field t x j) (.fld false f.offset 1 x)
  | fldA (t : TypeId) (fs : Array Field) (f : Field) (d : TypeDesc) (i : TypeInfo) (x j) (ht : P.underlying t = some (.struct fs)) (hf : fs[j]? = some f) (he : P.underlying f.type = some d) (hd : d.isRow = true) (hi : P.info? f.type = some i) :
      TrOp P (.field t x j) (.fld true f.offset i.size x)
  | ext (x i) : TrOp P (.extract x i) (.ext x i)
  | lens (c : Call) (t : TypeId) (x) (hc : c.callee = .builtin .len) (hx : c.args.toList = [x]) (ha : c.argTypes.toList = [t]) (ht : P.underlying t = some .string) : TrOp P (.call c) (.len true x)
  | len (c : Call) (t e : TypeId) (x) (hc : c.callee = .builtin .len) (hx : c.args.toList = [x]) (ha : c.argTypes.toList = [t]) (ht : P.underlying t = some (.slice e)) : TrOp P (.call c) (.len false x)
  | app (c : Call) (t u e e' : TypeId) (i : TypeInfo) (z : Value) (x y) (hc : c.callee = .builtin .append) (hx : c.args.toList = [x, y]) (ha : c.argTypes.toList = [t, u])
      (ht : P.underlying t = some (.slice e)) (hu : P.underlying u = some (.slice e')) (hi : P.info? e = some i) (hz : i.zero = some z) (hs : z.cells.size = i.size) (hs0 : 0 < i.size) : TrOp P (.call c) (.app i.size i.bytes x y)
  | cpy (c : Call) (t u e e' : TypeId) (i : TypeInfo) (x y) (hc : c.callee = .builtin .copy) (hx : c.args.toList = [x, y]) (ha : c.argTypes.toList = [t, u])
      (ht : P.underlying t = some (.slice e)) (hu : P.underlying u = some (.slice e')) (hi : P.info? e = some i) (hs0 : 0 < i.size) : TrOp P (.call c) (.cpy i.size x y)
  | mn (c : Call) (x y) (hc : c.callee = .builtin .min) (hx : c.args.toList = [x, y]) : TrOp P (.call c) (.mnx false x y)
  | mx (c : Call) (x y) (hc : c.callee = .builtin .max) (hx : c.args.toList = [x, y]) : TrOp P (.call c) (.mnx true x y)
  | call (c : Call) (f : FuncId) (hc : c.callee = .value (.func f)) : TrOp P (.call c) (.call f c.args.toList)
  | callv (c : Call) (x) (hc : c.callee = .value x) : TrOp P (.call c) (.callv x c.args.toList)
  | mkf (f : FuncId) (first caps : Array Operand) (hf : first.toList = []) : TrOp P (.makeFunc (.func f) first caps) (.mkf f caps.toList)

def trCall (P : Program) (c : Call) : Option AOp :=
  match c.callee, c.args.toList, c.argTypes.toList with
  | .builtin .len, [x], [t] => match P.underlying t with
    | some .string => some (.len true x)
    | some (.slice _) => some (.len false x)
    | _ => none
  | .builtin .append, [x, y], [t, u] => match P.underlying t with
    | some (.slice e) => match P.underlying u with
      | some (.slice _) => match P.info? e with
        | some i => match i.zero with
          | some z => if z.cells.size = i.size ∧ 0 < i.size then some (.app i.size i.bytes x y) else none
          | none => none
        | none => none
      | _ => none
    | _ => none
  | .builtin .copy, [x, y], [t, u] => match P.underlying t with
    | some (.slice e) => match P.underlying u with
      | some (.slice _) => match P.info? e with
        | some i => if 0 < i.size then some (.cpy i.size x y) else none
        | none => none
      | _ => none
    | _ => none
  | .builtin .min, [x, y], _ => some (.mnx false x y)
  | .builtin .max, [x, y], _ => some (.mnx true x y)
  | .value (.func f), _, _ => some (.call f c.args.toList)
  | .value (.tmp x), _, _ => some (.callv (.tmp x) c.args.toList)
  | _, _, _ => none

theorem trCall_ok (P : Program) (c : Call) (a : AOp) (h : trCall P c = some a) : TrOp P (.call c) a := by
  unfold trCall at h
  repeat' split at h
  all_goals first
    | (cases h; done)
    | (simp only [Option.some.injEq] at h; subst h)
  all_goals first
    | (exact .mn _ _ _ (by assumption) (by assumption))
    | (exact .mx _ _ _ (by assumption) (by assumption))
    | (exact .call _ _ (by assumption))
    | (exact .callv _ _ (by assumption))
    | (exact .lens _ _ _ (by assumption) (by assumption) (by assumption) (by assumption))
    | (exact .len _ _ _ _ (by assumption) (by assumption) (by assumption) (by assumption))
    | (rename_i hh; exact .app _ _ _ _ _ _ _ _ _ (by assumption) (by assumption) (by assumption) (by assumption) (by assumption) (by assumption) (by assumption) hh.1 hh.2)
    | (exact .cpy _ _ _ _ _ _ _ _ (by assumption) (by assumption) (by assumption) (by assumption) (by assumption) (by assumption) (by assumption))

/-- The same as a reckoning. -/
def trOp (P : Program) : Go.Op → Option AOp
  | .move x => some (.mv x)
  | .assign x => some (.mv x)
  | .pick c a b => some (.pick c a b)
  | .alloc e => match P.info? e with
    | some i => match i.zero with
      | some z => if z.cells.all cellV then some (.alloc (z.cells.toList.map of1)) else none
      | none => none
    | none => none
  | .box _ x => some (.box x)
  | .build t parts => match P.underlying t with
    | some (.struct fs) => match P.info? t with
      | some i => match i.zero with
        | some z => if z.cells.all cellV ∧ fs.all (fun f => (P.info? f.type).isSome) ∧ parts.all (fun p => decide (p.1 < fs.size)) then
            some (.build (z.cells.toList.map of1) (TrP P fs parts.toList)) else none
        | none => none
      | none => none
    | some (.array _ e) => match P.info? t with
      | some i => match i.zero with
        | some z => match P.info? e with
          | some ie => if z.cells.all cellV then some (.build (z.cells.toList.map of1) (parts.toList.map fun p => (p.1 * ie.size, ie.size, p.2))) else none
          | none => none
        | none => none
      | none => none
    | _ => none
  | .buildSlice t n parts => match P.underlying t with
    | some (.slice e) => match P.info? e with
      | some i => match i.zero with
        | some z => if z.cells.all cellV ∧ z.cells.size = i.size ∧ 0 < i.size ∧ n * i.size ≤ 16777216 then some (.bslice i.size n (z.cells.toList.map of1) parts.toList) else none
        | none => none
      | none => none
    | _ => none
  | .load t a => match P.underlying t with
    | some d => if d.isRow = true then (match P.info? t with
        | some i => some (.load true i.size a)
        | none => none) else some (.load false 1 a)
    | none => none
  | .store t a x => match P.info? t with
    | some i => some (.store i.size a x)
    | none => none
  | .nilCheck x => some (.nilchk x)
  | .binOp op t x y _ => match P.underlying t with
    | some .bool => match op with
      | .eql => some (.beq false x y)
      | .neq => some (.beq true x y)
      | _ => none
    | some (.int _) => some (.bin op x y)
    | some .string => some (.bin op x y)
    | some (.struct fs) => match kindsF P 0 fs.toList with
      | some ks => match op with
          | .eql => if P.stoodInHeld t = false ∧ P.eqGuardType P.depth t = false then some (.seq false ks x y) else none
          | .neq => if P.stoodInHeld t = false ∧ P.eqGuardType P.depth t = false then some (.seq true ks x y) else none
          | _ => none
      | none => none
    | _ => none
  | .unOp op _ x => some (.un op x)
  | .convert s t x => match P.underlying s with
    | some (.slice e) => match P.underlying t with
      | some .string => match P.underlying e with
        | some (.int .u8) => if (P.info? e).map (·.size) = some 1 then some (.b2s x) else none
        | _ => none
      | _ => none
    | some (.int _) => match P.underlying t with
      | some (.int k) => some (.ii k x)
      | _ => none
    | _ => none
  | .makeSlice t x y => match P.underlying t with
    | some (.slice e) => match P.info? e with
      | some i => match i.zero with
        | some z => if z.cells.all cellV ∧ z.cells.size = i.size ∧ 0 < i.size then some (.mks i.size i.bytes (z.cells.toList.map of1) x y) else none
        | none => none
      | none => none
    | _ => none
  | .slice t x lo hi none => match P.underlying t with
    | some (.slice e) => match P.info? e with
      | some i => some (.sl i.size x lo hi)
      | none => none
    | some .string => some (.slstr x lo hi)
    | _ => none
  | .fieldAddr t x j => match P.underlying t with
    | some (.struct fs) => match fs[j]? with
      | some f => match P.info? f.type with
        | some i => if i.size ≠ 0 then some (.fa f.offset x) else none
        | none => none
      | none => none
    | _ => none
  | .indexAddr t x y => match P.underlying t with
    | some (.slice e) => match P.info? e with
      | some i => some (.ia i.size x y)
      | none => none
    | some (.array n e) => match y with
      | .const (.int _ m) => match P.info? e with
        | some i => if 0 ≤ m ∧ m < n then some (.fa (m.toNat * i.size) x) else none
        | none => none
      | _ => none
    | _ => none
  | .index t x y => match P.underlying t with
    | some .string => some (.idxs x y)
    | some (.array n e) => match P.info? e with
      | some i => match P.underlying e with
        | some d => if d.isRow = false ∧ i.size = 1 then some (.idx n 1 false 1 x y) else none
        | none => none
      | none => none
    | _ => none
  | .field t x j => match P.underlying t with
    | some (.struct fs) => match fs[j]? with
      | some f => match P.underlying f.type with
        | some d => if d.isRow = true then (match P.info? f.type with
            | some i => some (.fld true f.offset i.size x)
            | none => none) else some (.fld false f.offset 1 x)
        | none => none
      | none => none
    | _ => none
  | .extract x i => some (.ext x i)
  | .makeFunc (.func f) first caps => match first.toList with
    | [] => some (.mkf f caps.toList)
    | _ => none
  | .call c => trCall P c
  | _ => none

theorem trOp_ok (P : Program) (o : Go.Op) (a : AOp) (h : trOp P o = some a) : TrOp P o a := by
  unfold trOp at h
  repeat' split at h
  all_goals first
    | exact trCall_ok _ _ _ h
    | (cases h; done)
    | (simp only [Option.some.injEq] at h; subst h)
  all_goals first
    | exact .mv _
    | exact .asg _
    | exact .pick _ _ _
    | exact .box _ _
    | exact .nilchk _
    | exact .un _ _ _
    | exact .ext _ _
    | (exact .mkf _ _ _ (by assumption))
    | (exact .alloc _ _ _ (by assumption) (by assumption) (by assumption))
    | (rename_i hh; exact .build _ _ _ _ _ (by assumption) (by assumption) (by assumption) hh.1 hh.2.1 hh.2.2)
    | (exact .buildA _ _ _ _ _ _ _ (by assumption) (by assumption) (by assumption) (by assumption) (by assumption))
    | (rename_i hh; exact .bslice _ _ _ _ _ _ (by assumption) (by assumption) (by assumption) hh.1 hh.2.1 hh.2.2.1 hh.2.2.2)
    | (exact .loadA _ _ _ _ (by assumption) (by assumption) (by assumption))
    | (rename_i hh; exact .load1 _ _ _ (by assumption) (Bool.eq_false_iff.mpr hh))
    | (exact .store _ _ _ _ (by assumption))
    | (exact .beq _ _ _ _ (by assumption))
    | (exact .bne _ _ _ _ (by assumption))
    | exact .bin _ _ _ _ _
    | (rename_i hh; exact .seq _ _ _ _ _ _ (by assumption) (by assumption) hh.1 hh.2)
    | (rename_i hh; exact .sne _ _ _ _ _ _ (by assumption) (by assumption) hh.1 hh.2)
    | (exact .ii _ _ _ _ _ (by assumption) (by assumption))
    | (exact .b2s _ _ _ _ (by assumption) (by assumption) (by assumption) (by assumption))
    | (rename_i hh; exact .mks _ _ _ _ _ _ (by assumption) (by assumption) (by assumption) hh.1 hh.2.1 hh.2.2)
    | (exact .sl _ _ _ _ _ _ (by assumption) (by assumption))
    | (exact .slstr _ _ _ _ (by assumption))
    | (exact .fa _ _ _ _ _ _ (by assumption) (by assumption) (by assumption) (by assumption))
    | (exact .ia _ _ _ _ _ (by assumption) (by assumption))
    | (exact .iaA _ _ _ _ _ _ _ (by assumption) (by assumption) (by assumption))
    | (rename_i hh; exact .idx1 _ _ _ _ _ _ _ (by assumption) (by assumption) (by assumption) hh.1 hh.2)
    | (exact .idxs _ _ _ (by assumption))
    | (exact .fldA _ _ _ _ _ _ _ (by assumption) (by assumption) (by assumption) (by assumption) (by assumption))
    | (rename_i hh; exact .fld1 _ _ _ _ _ _ (by assumption) (by assumption) (by assumption) (Bool.eq_false_iff.mpr hh))

end Go.PA
