/- Typed values: words for printed texts. No condition. -/
import Derived.Test.YtaekmccjendfoaaV20
import Derived.KernelRfl
namespace Go.PA
abbrev I : Ty := .int .i64
def mkEa : Nat → Nat → List (Nat × SV) → List SV
  | _, 0, _ => []
  | i, n + 1, [] => .bad :: mkEa (i + 1) n []
  | i, n + 1, (j, v) :: l => match Nat.beq i j with
    | true => v :: mkEa (i + 1) n l
    | false => .bad :: mkEa (i + 1) n ((j, v) :: l)
/-- An environment, by the places that are not empty. -/
def mkE (n : Nat) (l : List (Nat × SV)) : List SV := mkEa 0 n l
/-- The body of a piece of code's j-th loop. -/
def ACode.body : ACode → Nat → ACode
  | .seq a b, j => match Nat.blt j a.loops with
    | true => a.body j
    | false => b.body (j - a.loops)
  | .cond _ a b, j => match Nat.blt j a.loops with
    | true => a.body j
    | false => b.body (j - a.loops)
  | .block _ a, j => a.body j
  | .loop a, 0 => a
  | .loop a, j + 1 => a.body j
  | _, _ => .skip
/-- A function's plain code. -/
def acOf (P : Program) (f : Nat) : ACode := match P.funcs[f]? with
  | some fn => match fn.body.bind (trCode P) with
    | some ac => ac
    | none => .skip
  | none => .skip
/-- Words for printed texts: a whole number of the machine, a length, a place in a list. -/
abbrev W (n : Int) : Int := IntKind.i64.wrap n
abbrev len {α : Type} (l : List α) : Int := ((l.length : Nat) : Int)
abbrev inb {α : Type} (i : Int) (l : List α) : Bool := decide ((0 : Int) ≤ i ∧ i < len l)
end Go.PA
