/- A law's call, for its row. No condition. -/
import Derived.Test.YtaekmccjendfoaaK18
import Derived.Below
namespace Go.PA
open Go.RowKit

def isTrue : AV → Bool | .bool true => true | _ => false
def Maps.none : Maps := ⟨fun _ => ⟨0, 0, 0, 0⟩, fun _ => 0, 0, fun _ => false, fun _ => false⟩

theorem PCall.law {P : Program} {f : FuncId} {ts : List AV} (H : PCall P f ts Heap.nil fun r _ => isTrue r = true) (W : World) (vs : Array Value) (hvs : VRs W Maps.none Heap.nil vs ts) :
    Calls P f vs W fun e W' => e = .returned (.bool true) ∧ Below W.heap.size W W' := by
  refine (H.2 W Maps.none vs (HRel.nil W Maps.none (Nat.zero_le _)) hvs).mono fun e W' ⟨v, m', r, h', he, _, hv, T, hr⟩ => ?_
  refine ⟨?_, T.os, T.tape, T.output, T.size, fun k hk => T.frame k hk (own_nil _ k)⟩
  replace hr : isTrue r = true := hr
  unfold isTrue at hr
  split at hr
  · cases hv; exact he
  · cases hr

theorem VRs.none (W : World) : VRs W Maps.none Heap.nil #[] [] := ⟨rfl, fun j v c h1 _ => by simp at h1⟩

end Go.PA
