import Derived.Test.YtaekmccjendfoaaV21
import Derived.Test.YtaekmccjendfoaaChecked
namespace Go.Proofs.Ytaekmccjendfoaa.MO
open Go.PA
set_option linter.unusedVariables false
abbrev Cmd : List Ty := [I, I, I, I, I, I, I, I, I, I]
abbrev DCmd := Int × Int × Int × Int × Int × Int × Int × Int × Int × Int × Unit
abbrev MapDone : List Ty := [I, I, I, I]
abbrev DMapDone := Int × Int × Int × Int × Unit
abbrev MapView : List Ty := [I, I, I]
abbrev DMapView := Int × Int × Int × Unit
abbrev MapDisk : List Ty := [I, I, I, I, I, I, (.sl [I])]
abbrev DMapDisk := Int × Int × Int × Int × Int × Int × (List (Int × Unit)) × Unit
abbrev MapState : List Ty := [I, I, I, (.sl MapDisk), (.sl MapView), (.sl MapDone)]
abbrev DMapState := Int × Int × Int × (List (DMapDisk)) × (List (DMapView)) × (List (DMapDone)) × Unit
abbrev DCmd.A (s : DCmd) : Int := s.2.2.2.2.2.2.2.2.1
abbrev DCmd.Arg (s : DCmd) : Int := s.2.2.2.2.1
abbrev DCmd.B (s : DCmd) : Int := s.2.2.2.2.2.2.2.2.2.1
abbrev DCmd.Call (s : DCmd) : Int := s.2.2.1
abbrev DCmd.Client (s : DCmd) : Int := s.2.1
abbrev DCmd.Disk (s : DCmd) : Int := s.2.2.2.1
abbrev DCmd.Epoch (s : DCmd) : Int := s.2.2.2.2.2.1
abbrev DCmd.Kind (s : DCmd) : Int := s.1
abbrev DCmd.Num (s : DCmd) : Int := s.2.2.2.2.2.2.2.1
abbrev DCmd.Range (s : DCmd) : Int := s.2.2.2.2.2.2.1
abbrev DCmd.withA (s : DCmd) (x : Int) : DCmd := (s.1, s.2.1, s.2.2.1, s.2.2.2.1, s.2.2.2.2.1, s.2.2.2.2.2.1, s.2.2.2.2.2.2.1, s.2.2.2.2.2.2.2.1, x, s.2.2.2.2.2.2.2.2.2)
abbrev DCmd.withArg (s : DCmd) (x : Int) : DCmd := (s.1, s.2.1, s.2.2.1, s.2.2.2.1, x, s.2.2.2.2.2)
abbrev DCmd.withB (s : DCmd) (x : Int) : DCmd := (s.1, s.2.1, s.2.2.1, s.2.2.2.1, s.2.2.2.2.1, s.2.2.2.2.2.1, s.2.2.2.2.2.2.1, s.2.2.2.2.2.2.2.1, s.2.2.2.2.2.2.2.2.1, x, ())
abbrev DCmd.withCall (s : DCmd) (x : Int) : DCmd := (s.1, s.2.1, x, s.2.2.2)
abbrev DCmd.withClient (s : DCmd) (x : Int) : DCmd := (s.1, x, s.2.2)
abbrev DCmd.withDisk (s : DCmd) (x : Int) : DCmd := (s.1, s.2.1, s.2.2.1, x, s.2.2.2.2)
abbrev DCmd.withEpoch (s : DCmd) (x : Int) : DCmd := (s.1, s.2.1, s.2.2.1, s.2.2.2.1, s.2.2.2.2.1, x, s.2.2.2.2.2.2)
abbrev DCmd.withKind (s : DCmd) (x : Int) : DCmd := (x, s.2)
abbrev DCmd.withNum (s : DCmd) (x : Int) : DCmd := (s.1, s.2.1, s.2.2.1, s.2.2.2.1, s.2.2.2.2.1, s.2.2.2.2.2.1, s.2.2.2.2.2.2.1, x, s.2.2.2.2.2.2.2.2)
abbrev DCmd.withRange (s : DCmd) (x : Int) : DCmd := (s.1, s.2.1, s.2.2.1, s.2.2.2.1, s.2.2.2.2.1, s.2.2.2.2.2.1, x, s.2.2.2.2.2.2.2)
abbrev DCmd.zero : DCmd := ((0 : Int), (0 : Int), (0 : Int), (0 : Int), (0 : Int), (0 : Int), (0 : Int), (0 : Int), (0 : Int), (0 : Int), ())
abbrev DMapDone.Call (s : DMapDone) : Int := s.2.1
abbrev DMapDone.Client (s : DMapDone) : Int := s.1
abbrev DMapDone.Code (s : DMapDone) : Int := s.2.2.1
abbrev DMapDone.Value (s : DMapDone) : Int := s.2.2.2.1
abbrev DMapDone.withCall (s : DMapDone) (x : Int) : DMapDone := (s.1, x, s.2.2)
abbrev DMapDone.withClient (s : DMapDone) (x : Int) : DMapDone := (x, s.2)
abbrev DMapDone.withCode (s : DMapDone) (x : Int) : DMapDone := (s.1, s.2.1, x, s.2.2.2)
abbrev DMapDone.withValue (s : DMapDone) (x : Int) : DMapDone := (s.1, s.2.1, s.2.2.1, x, ())
abbrev DMapDone.zero : DMapDone := ((0 : Int), (0 : Int), (0 : Int), (0 : Int), ())
abbrev DMapView.A (s : DMapView) : Int := s.2.1
abbrev DMapView.B (s : DMapView) : Int := s.2.2.1
abbrev DMapView.Num (s : DMapView) : Int := s.1
abbrev DMapView.withA (s : DMapView) (x : Int) : DMapView := (s.1, x, s.2.2)
abbrev DMapView.withB (s : DMapView) (x : Int) : DMapView := (s.1, s.2.1, x, ())
abbrev DMapView.withNum (s : DMapView) (x : Int) : DMapView := (x, s.2)
abbrev DMapView.zero : DMapView := ((0 : Int), (0 : Int), (0 : Int), ())
abbrev DMapDisk.Acks (s : DMapDisk) : List (Int × Unit) := s.2.2.2.2.2.2.1
abbrev DMapDisk.Call (s : DMapDisk) : Int := s.2.2.2.2.2.1
abbrev DMapDisk.Client (s : DMapDisk) : Int := s.2.2.2.2.1
abbrev DMapDisk.Epoch (s : DMapDisk) : Int := s.2.2.1
abbrev DMapDisk.Frozen (s : DMapDisk) : Int := s.2.2.2.1
abbrev DMapDisk.Id (s : DMapDisk) : Int := s.1
abbrev DMapDisk.Size (s : DMapDisk) : Int := s.2.1
abbrev DMapDisk.withAcks (s : DMapDisk) (x : List (Int × Unit)) : DMapDisk := (s.1, s.2.1, s.2.2.1, s.2.2.2.1, s.2.2.2.2.1, s.2.2.2.2.2.1, x, ())
abbrev DMapDisk.withCall (s : DMapDisk) (x : Int) : DMapDisk := (s.1, s.2.1, s.2.2.1, s.2.2.2.1, s.2.2.2.2.1, x, s.2.2.2.2.2.2)
abbrev DMapDisk.withClient (s : DMapDisk) (x : Int) : DMapDisk := (s.1, s.2.1, s.2.2.1, s.2.2.2.1, x, s.2.2.2.2.2)
abbrev DMapDisk.withEpoch (s : DMapDisk) (x : Int) : DMapDisk := (s.1, s.2.1, x, s.2.2.2)
abbrev DMapDisk.withFrozen (s : DMapDisk) (x : Int) : DMapDisk := (s.1, s.2.1, s.2.2.1, x, s.2.2.2.2)
abbrev DMapDisk.withId (s : DMapDisk) (x : Int) : DMapDisk := (x, s.2)
abbrev DMapDisk.withSize (s : DMapDisk) (x : Int) : DMapDisk := (s.1, x, s.2.2)
abbrev DMapDisk.zero : DMapDisk := ((0 : Int), (0 : Int), (0 : Int), (0 : Int), (0 : Int), (0 : Int), [], ())
abbrev DMapState.Disks (s : DMapState) : List (DMapDisk) := s.2.2.2.1
abbrev DMapState.Done (s : DMapState) : List (DMapDone) := s.2.2.2.2.2.1
abbrev DMapState.Next (s : DMapState) : Int := s.2.2.1
abbrev DMapState.Servers (s : DMapState) : Int := s.2.1
abbrev DMapState.Slots (s : DMapState) : Int := s.1
abbrev DMapState.Views (s : DMapState) : List (DMapView) := s.2.2.2.2.1
abbrev DMapState.withDisks (s : DMapState) (x : List (DMapDisk)) : DMapState := (s.1, s.2.1, s.2.2.1, x, s.2.2.2.2)
abbrev DMapState.withDone (s : DMapState) (x : List (DMapDone)) : DMapState := (s.1, s.2.1, s.2.2.1, s.2.2.2.1, s.2.2.2.2.1, x, ())
abbrev DMapState.withViews (s : DMapState) (x : List (DMapView)) : DMapState := (s.1, s.2.1, s.2.2.1, s.2.2.2.1, x, s.2.2.2.2.2)
noncomputable def T0 : List (FuncId × Ctr) := []
theorem hT0 : AllC Try.prog T0 := AllC.nil _
noncomputable def ac38 : ACode := acOf Try.prog 38
theorem gd38 : Good Try.prog (38, ac38, [.tmp 4], 12) := ⟨_, Try.func38, by kernel_rfl, by kernel_rfl, by kernel_rfl, by kernel_rfl⟩
/- laws.szCmdS -/
def an38 : List (Nat × An) := []
def S38 : List (Skel × List (Option Nat × Skel)) := []
def ps38 : List PK := [⟨none, false, [(.sl Cmd)], false⟩, ⟨none, false, [I], false⟩]
def rs38 : List PK := [⟨some .S, false, [I], false⟩]
noncomputable def F38 := FN (tabC T0) an38 S38 ac38 [.tmp 4] 12 false 1 ps38 rs38
noncomputable def T38 : List (FuncId × Ctr) := (38, ⟨true, false, 1, ps38, rs38, F38⟩) :: T0
theorem hT38 : AllC Try.prog T38 := AllC.fresh (an := an38) (S := S38) (ps := ps38) (rs := rs38) hT0 gd38 (by kernel_rfl)
noncomputable def G38 (a_a : List (DCmd)) (a_left : Int) : Option (Int × Unit) := F38 (a_a, a_left, ())
theorem G38_eq (a_a : List (DCmd)) (a_left : Int) : (G38 a_a a_left) = (br (decide ((W (a_left - (len a_a))) < (0 : Int))) (some ((-1 : Int), ())) (some ((W (a_left - (len a_a))), ()))) := by kernel_rfl
noncomputable def ac50 : ACode := acOf Try.prog 50
theorem gd50 : Good Try.prog (50, ac50, [.cell 2 true 10], 35) := ⟨_, Try.func50, by kernel_rfl, by kernel_rfl, by kernel_rfl, by kernel_rfl⟩
/- laws.toCmd -/
def an50 : List (Nat × An) := []
def S50 : List (Skel × List (Option Nat × Skel)) := []
def ps50 : List PK := [⟨none, true, Cmd, false⟩]
def rs50 : List PK := [⟨some .S, true, Cmd, false⟩]
noncomputable def F50 := FN (tabC T38) an50 S50 ac50 [.cell 2 true 10] 35 false 1 ps50 rs50
noncomputable def T50 : List (FuncId × Ctr) := (50, ⟨true, false, 1, ps50, rs50, F50⟩) :: T38
theorem hT50 : AllC Try.prog T50 := AllC.fresh (an := an50) (S := S50) (ps := ps50) (rs := rs50) hT38 gd50 (by kernel_rfl)
noncomputable def G50 (a_a : DCmd) : Option (DCmd) := F50 a_a
theorem G50_eq (a_a : DCmd) : (G50 a_a) = (some a_a) := by kernel_rfl
noncomputable def ac40 : ACode := acOf Try.prog 40
theorem gd40 : Good Try.prog (40, ac40, [.tmp 2], 23) := ⟨_, Try.func40, by kernel_rfl, by kernel_rfl, by kernel_rfl, by kernel_rfl⟩
/- laws.toCmdS -/
def sk40_0 : Skel := ⟨mkE 23 [(0, .lst Cmd), (3, .ref 0), (4, .int .i64)], [], [some (.m .Z, Cmd)], 0⟩
def ou40_0 : List (Option Nat × Skel) := [(some 0, ⟨mkE 23 [(3, .ref 0)], [], [some (.m .Z, Cmd)], 0⟩)]
def an40 : List (Nat × An) := []
def S40 : List (Skel × List (Option Nat × Skel)) := [(sk40_0, ou40_0)]
def ps40 : List PK := [⟨none, false, [(.sl Cmd)], false⟩]
def rs40 : List PK := [⟨some .S, false, [(.sl Cmd)], false⟩]
noncomputable def F40 := FN (tabC T50) an40 S40 ac40 [.tmp 2] 23 false 1 ps40 rs40
noncomputable def T40 : List (FuncId × Ctr) := (40, ⟨true, false, 1, ps40, rs40, F40⟩) :: T50
theorem hT40 : AllC Try.prog T40 := AllC.fresh (an := an40) (S := S40) (ps := ps40) (rs := rs40) hT50 gd40 (by kernel_rfl)
noncomputable def lf40_0 : (List (DCmd)) × Int × (List (DCmd)) × Unit → Option (Outs ou40_0) := lfp (vround (tabC T50) an40 (mkL (tabC T50) an40 [] (ac40.body 0)) (ac40.body 0) sk40_0 ou40_0)
noncomputable def lg40_0 (v_a : List (DCmd)) (v_i : Int) (v_r0 : List (DCmd)) : Option (Sum ((List (DCmd)) × Unit) (Empty)) := lf40_0 (v_a, v_i, v_r0, ())
theorem lg40_0_eq (v_a : List (DCmd)) (v_i : Int) (v_r0 : List (DCmd)) : (lg40_0 v_a v_i v_r0) = (br (decide (v_i < (len v_a))) (chk (inb v_i v_a) (let e1 : DCmd := (v_a.getD v_i.toNat DCmd.zero); ((G50 e1).bind fun (y2 : DCmd) => (chk (inb v_i v_r0) (lg40_0 v_a (W (v_i + (1 : Int))) (v_r0.set v_i.toNat y2)))))) (some (.inl (v_r0, ())))) :=
  (show lf40_0 (v_a, v_i, v_r0, ()) = _ from lfp_eq (fun x => vround_lin _ _ _ _ x) _).trans (by kernel_rfl)
noncomputable def G40 (a_a : List (DCmd)) : Option ((List (DCmd)) × Unit) := F40 (a_a, ())
theorem G40_eq (a_a : List (DCmd)) : (G40 a_a) = (chk (decide (0 ≤ (len a_a) ∧ ((80 : Nat) : Int) * (len a_a) ≤ 281474976710656 ∧ (len a_a) ≤ 281474976710656)) ((lg40_0 a_a (0 : Int) (List.replicate (len a_a).toNat (DCmd.zero : DCmd))).bind fun o => match o with | .inl (y3 : (List (DCmd)) × Unit) => (some (y3.1, ())))) := by kernel_rfl
noncomputable def ac106 : ACode := acOf Try.prog 106
theorem gd106 : Good Try.prog (106, ac106, [.cell 0 true 6], 20) := ⟨_, Try.func106, by kernel_rfl, by kernel_rfl, by kernel_rfl, by kernel_rfl⟩
/- spec.MapStart -/
def sk106_0 : Skel := ⟨mkE 20 [(0, .box 0 0), (1, .box 1 0), (2, .int .i64)], [some [.int .i64, .int .i64, .int .i64, .nil, .nil, .nil], some [.int .i64, .int .i64, .int .i64, .nil, .ref 1, .nil]], [none, some (.m .Z, MapView)], 0⟩
def ou106_0 : List (Option Nat × Skel) := [(some 0, ⟨mkE 20 [(0, .box 0 0), (1, .box 1 0)], [some [.int .i64, .int .i64, .int .i64, .nil, .nil, .nil], some [.int .i64, .int .i64, .int .i64, .nil, .ref 1, .nil]], [none, some (.m .Z, MapView)], 0⟩)]
def an106 : List (Nat × An) := []
def S106 : List (Skel × List (Option Nat × Skel)) := [(sk106_0, ou106_0)]
def ps106 : List PK := []
def rs106 : List PK := [⟨some .S, true, MapState, false⟩]
noncomputable def F106 := FN (tabC T40) an106 S106 ac106 [.cell 0 true 6] 20 false 1 ps106 rs106
noncomputable def T106 : List (FuncId × Ctr) := (106, ⟨true, false, 1, ps106, rs106, F106⟩) :: T40
theorem hT106 : AllC Try.prog T106 := AllC.fresh (an := an106) (S := S106) (ps := ps106) (rs := rs106) hT40 gd106 (by kernel_rfl)
noncomputable def lf106_0 : Int × Int × Int × Int × Int × Int × Int × (List (DMapView)) × Unit → Option (Outs ou106_0) := lfp (vround (tabC T40) an106 (mkL (tabC T40) an106 [] (ac106.body 0)) (ac106.body 0) sk106_0 ou106_0)
noncomputable def lg106_0 (v_r : Int) (v_b0_0 : Int) (v_b0_1 : Int) (v_b0_2 : Int) (v_b1_0 : Int) (v_b1_1 : Int) (v_b1_2 : Int) (v_r1 : List (DMapView)) : Option (Sum (Int × Int × Int × Int × Int × Int × (List (DMapView)) × Unit) (Empty)) := lf106_0 (v_r, v_b0_0, v_b0_1, v_b0_2, v_b1_0, v_b1_1, v_b1_2, v_r1, ())
theorem lg106_0_eq (v_r : Int) (v_b0_0 : Int) (v_b0_1 : Int) (v_b0_2 : Int) (v_b1_0 : Int) (v_b1_1 : Int) (v_b1_2 : Int) (v_r1 : List (DMapView)) : (lg106_0 v_r v_b0_0 v_b0_1 v_b0_2 v_b1_0 v_b1_1 v_b1_2 v_r1) = (br (decide (v_r < (3 : Int))) (chk (!((3 : Int) == 0)) (chk (!((3 : Int) == 0)) (chk (capOk (v_r1.length + (1)) 24) (lg106_0 (IntKind.i64.wrap (v_r + (1 : Int))) v_b0_0 v_b0_1 v_b0_2 v_b1_0 v_b1_1 v_b1_2 (v_r1 ++ [((1 : Int), (v_r.tmod (3 : Int)), ((IntKind.i64.wrap (v_r + (1 : Int))).tmod (3 : Int)), ())]))))) (some (.inl (v_b0_0, v_b0_1, v_b0_2, v_b1_0, v_b1_1, v_b1_2, v_r1, ())))) :=
  (show lf106_0 (v_r, v_b0_0, v_b0_1, v_b0_2, v_b1_0, v_b1_1, v_b1_2, v_r1, ()) = _ from lfp_eq (fun x => vround_lin _ _ _ _ x) _).trans (by kernel_rfl)
noncomputable def G106  : Option (DMapState) := F106 (())
theorem G106_eq  : (G106) = ((lg106_0 (0 : Int) (0 : Int) (0 : Int) (0 : Int) (0 : Int) (3 : Int) (1 : Int) []).bind fun o => match o with | .inl (y1 : Int × Int × Int × Int × Int × Int × (List (DMapView)) × Unit) => (some (y1.2.2.2.1, y1.2.2.2.2.1, y1.2.2.2.2.2.1, [], y1.2.2.2.2.2.2.1, [], ()))) := by kernel_rfl
noncomputable def ac56 : ACode := acOf Try.prog 56
theorem gd56 : Good Try.prog (56, ac56, [.tmp 6], 15) := ⟨_, Try.func56, by kernel_rfl, by kernel_rfl, by kernel_rfl, by kernel_rfl⟩
/- spec.l6In -/
def an56 : List (Nat × An) := []
def S56 : List (Skel × List (Option Nat × Skel)) := []
def ps56 : List PK := [⟨none, false, [I], false⟩, ⟨none, false, [I], false⟩, ⟨none, false, [I], false⟩]
def rs56 : List PK := [⟨some .S, false, [.bool], false⟩]
noncomputable def F56 := FN (tabC T106) an56 S56 ac56 [.tmp 6] 15 false 1 ps56 rs56
noncomputable def T56 : List (FuncId × Ctr) := (56, ⟨true, false, 1, ps56, rs56, F56⟩) :: T106
theorem hT56 : AllC Try.prog T56 := AllC.fresh (an := an56) (S := S56) (ps := ps56) (rs := rs56) hT106 gd56 (by kernel_rfl)
noncomputable def G56 (a_n : Int) (a_low : Int) (a_high : Int) : Option (Bool × Unit) := F56 (a_n, a_low, a_high, ())
def f56 (a_n : Int) (a_low : Int) (a_high : Int) : Bool := ((decide (a_n ≥ a_low)) && (decide (a_n ≤ a_high)))
theorem G56_eq (a_n : Int) (a_low : Int) (a_high : Int) : (G56 a_n a_low a_high) = some ((f56 a_n a_low a_high), ()) := by kernel_rfl
noncomputable def ac153 : ACode := acOf Try.prog 153
theorem gd153 : Good Try.prog (153, ac153, [.tmp 4], 18) := ⟨_, Try.func153, by kernel_rfl, by kernel_rfl, by kernel_rfl, by kernel_rfl⟩
/- spec.l22Has -/
def sk153_0 : Skel := ⟨mkE 18 [(0, .lst [I]), (1, .int .i64), (5, .int .i64)], [], [], 0⟩
def ou153_0 : List (Option Nat × Skel) := [(some 0, ⟨mkE 18 [], [], [], 0⟩), (none, ⟨mkE 18 [(4, .bool)], [], [], 0⟩)]
def an153 : List (Nat × An) := []
def S153 : List (Skel × List (Option Nat × Skel)) := [(sk153_0, ou153_0)]
def ps153 : List PK := [⟨none, false, [(.sl [I])], false⟩, ⟨none, false, [I], false⟩]
def rs153 : List PK := [⟨some .S, false, [.bool], false⟩]
noncomputable def F153 := FN (tabC T56) an153 S153 ac153 [.tmp 4] 18 false 1 ps153 rs153
noncomputable def T153 : List (FuncId × Ctr) := (153, ⟨true, false, 1, ps153, rs153, F153⟩) :: T56
theorem hT153 : AllC Try.prog T153 := AllC.fresh (an := an153) (S := S153) (ps := ps153) (rs := rs153) hT56 gd153 (by kernel_rfl)
noncomputable def lf153_0 : (List (Int × Unit)) × Int × Int × Unit → Option (Outs ou153_0) := lfp (vround (tabC T56) an153 (mkL (tabC T56) an153 [] (ac153.body 0)) (ac153.body 0) sk153_0 ou153_0)
noncomputable def lg153_0 (v_list : List (Int × Unit)) (v_n : Int) (v_i : Int) : Option (Sum (Unit) (Sum (Bool × Unit) (Empty))) := lf153_0 (v_list, v_n, v_i, ())
theorem lg153_0_eq (v_list : List (Int × Unit)) (v_n : Int) (v_i : Int) : (lg153_0 v_list v_n v_i) = (br (decide (v_i < ((v_list.length : Nat) : Int))) (chk (decide (0 ≤ v_i ∧ v_i < ((v_list.length : Nat) : Int))) (br ((v_list.getD v_i.toNat ((0 : Int), ())).1 == v_n) (some (.inr (.inl (true, ())))) (lg153_0 v_list v_n (IntKind.i64.wrap (v_i + (1 : Int)))))) (some (.inl (())))) :=
  (show lf153_0 (v_list, v_n, v_i, ()) = _ from lfp_eq (fun x => vround_lin _ _ _ _ x) _).trans (by kernel_rfl)
noncomputable def G153 (a_list : List (Int × Unit)) (a_n : Int) : Option (Bool × Unit) := F153 (a_list, a_n, ())
theorem G153_eq (a_list : List (Int × Unit)) (a_n : Int) : (G153 a_list a_n) = ((lg153_0 a_list a_n (0 : Int)).bind fun o => match o with | .inl (y1 : Unit) => (some (false, ())) | .inr (.inl (y2 : Bool × Unit)) => (some (y2.1, ()))) := by kernel_rfl
noncomputable def ac101 : ACode := acOf Try.prog 101
theorem gd101 : Good Try.prog (101, ac101, [.tmp 4], 90) := ⟨_, Try.func101, by kernel_rfl, by kernel_rfl, by kernel_rfl, by kernel_rfl⟩
/- spec.l31DiskOk -/
def sk101_0 : Skel := ⟨mkE 90 [(3, .box 1 0), (5, .int .i64)], [none, some [.int .i64, .int .i64, .int .i64, .int .i64, .int .i64, .int .i64, .lst [I]]], [], 0⟩
def ou101_0 : List (Option Nat × Skel) := [(some 0, ⟨mkE 90 [], [], [], 0⟩), (none, ⟨mkE 90 [(4, .bool)], [], [], 0⟩)]
def an101 : List (Nat × An) := []
def S101 : List (Skel × List (Option Nat × Skel)) := [(sk101_0, ou101_0)]
def ps101 : List PK := [⟨none, true, MapState, false⟩, ⟨none, true, MapDisk, false⟩]
def rs101 : List PK := [⟨some .S, false, [.bool], false⟩]
noncomputable def F101 := FN (tabC T153) an101 S101 ac101 [.tmp 4] 90 false 1 ps101 rs101
noncomputable def T101 : List (FuncId × Ctr) := (101, ⟨true, false, 1, ps101, rs101, F101⟩) :: T153
theorem hT101 : AllC Try.prog T101 := AllC.fresh (an := an101) (S := S101) (ps := ps101) (rs := rs101) hT153 gd101 (by kernel_rfl)
noncomputable def lf101_0 : Int × Int × Int × Int × Int × Int × Int × (List (Int × Unit)) × Unit → Option (Outs ou101_0) := lfp (vround (tabC T153) an101 (mkL (tabC T153) an101 [] (ac101.body 0)) (ac101.body 0) sk101_0 ou101_0)
noncomputable def lg101_0 (v_i : Int) (v_b1_0 : Int) (v_b1_1 : Int) (v_b1_2 : Int) (v_b1_3 : Int) (v_b1_4 : Int) (v_b1_5 : Int) (v_b1_6 : List (Int × Unit)) : Option (Sum (Unit) (Sum (Bool × Unit) (Empty))) := lf101_0 (v_i, v_b1_0, v_b1_1, v_b1_2, v_b1_3, v_b1_4, v_b1_5, v_b1_6, ())
theorem lg101_0_eq (v_i : Int) (v_b1_0 : Int) (v_b1_1 : Int) (v_b1_2 : Int) (v_b1_3 : Int) (v_b1_4 : Int) (v_b1_5 : Int) (v_b1_6 : List (Int × Unit)) : (lg101_0 v_i v_b1_0 v_b1_1 v_b1_2 v_b1_3 v_b1_4 v_b1_5 v_b1_6) = (br (decide (v_i < ((v_b1_6.length : Nat) : Int))) (chk (decide (0 ≤ v_i ∧ v_i < ((v_b1_6.length : Nat) : Int))) (chk ((decide (0 ≤ (0 : Int) ∧ (0 : Int) ≤ v_i ∧ v_i ≤ ((v_b1_6.length : Nat) : Int))) || (!(!(!(f56 ((v_b1_6.getD v_i.toNat ((0 : Int), ())).1) (0 : Int) (2 : Int)))))) (chk ((decide (0 ≤ v_i ∧ v_i < ((v_b1_6.length : Nat) : Int))) || (!(!(!(f56 ((v_b1_6.getD v_i.toNat ((0 : Int), ())).1) (0 : Int) (2 : Int)))))) (chk ((G153 ((v_b1_6.take v_i.toNat).drop 0) ((v_b1_6.getD v_i.toNat ((0 : Int), ())).1)).isSome || (!(!(!(f56 ((v_b1_6.getD v_i.toNat ((0 : Int), ())).1) (0 : Int) (2 : Int)))))) (br ((!(f56 ((v_b1_6.getD v_i.toNat ((0 : Int), ())).1) (0 : Int) (2 : Int))) || ((G153 ((v_b1_6.take v_i.toNat).drop 0) ((v_b1_6.getD v_i.toNat ((0 : Int), ())).1)).getD (false, ())).1) (some (.inr (.inl (false, ())))) (lg101_0 (IntKind.i64.wrap (v_i + (1 : Int))) v_b1_0 v_b1_1 v_b1_2 v_b1_3 v_b1_4 v_b1_5 v_b1_6)))))) (some (.inl (())))) :=
  (show lf101_0 (v_i, v_b1_0, v_b1_1, v_b1_2, v_b1_3, v_b1_4, v_b1_5, v_b1_6, ()) = _ from lfp_eq (fun x => vround_lin _ _ _ _ x) _).trans (by kernel_rfl)
noncomputable def G101 (a_m0 : Int) (a_m1 : Int) (a_m2 : Int) (a_m3 : List (DMapDisk)) (a_m4 : List (DMapView)) (a_m5 : List (DMapDone)) (a_d0 : Int) (a_d1 : Int) (a_d2 : Int) (a_d3 : Int) (a_d4 : Int) (a_d5 : Int) (a_d6 : List (Int × Unit)) : Option (Bool × Unit) := F101 (a_m0, a_m1, a_m2, a_m3, a_m4, a_m5, a_d0, a_d1, a_d2, a_d3, a_d4, a_d5, a_d6, ())
theorem G101_eq (a_m0 : Int) (a_m1 : Int) (a_m2 : Int) (a_m3 : List (DMapDisk)) (a_m4 : List (DMapView)) (a_m5 : List (DMapDone)) (a_d0 : Int) (a_d1 : Int) (a_d2 : Int) (a_d3 : Int) (a_d4 : Int) (a_d5 : Int) (a_d6 : List (Int × Unit)) : (G101 a_m0 a_m1 a_m2 a_m3 a_m4 a_m5 a_d0 a_d1 a_d2 a_d3 a_d4 a_d5 a_d6) = (br ((((!(f56 a_d0 (1 : Int) (IntKind.i64.wrap (a_m2 - (1 : Int))))) || (!(f56 a_d1 (1 : Int) (8 : Int)))) || (!(f56 a_d2 (1 : Int) (99999 : Int)))) || (!(f56 a_d3 (0 : Int) (2 : Int)))) (some (false, ())) (br (a_d3 == (0 : Int)) (some ((((a_d4 == (0 : Int)) && (a_d5 == (0 : Int))) && (((a_d6.length : Nat) : Int) == (0 : Int))), ())) (br (((!(f56 a_d4 (0 : Int) (3 : Int))) || (!(f56 a_d5 (1 : Int) (99999 : Int)))) || (decide (((a_d6.length : Nat) : Int) ≥ (3 : Int)))) (some (false, ())) ((lg101_0 (0 : Int) a_d0 a_d1 a_d2 a_d3 a_d4 a_d5 a_d6).bind fun o => match o with | .inl (y1 : Unit) => (some (true, ())) | .inr (.inl (y2 : Bool × Unit)) => (some (y2.1, ())))))) := by kernel_rfl
noncomputable def ac72 : ACode := acOf Try.prog 72
theorem gd72 : Good Try.prog (72, ac72, [.tmp 2], 5) := ⟨_, Try.func72, by kernel_rfl, by kernel_rfl, by kernel_rfl, by kernel_rfl⟩
/- spec.l11Num -/
def an72 : List (Nat × An) := []
def S72 : List (Skel × List (Option Nat × Skel)) := []
def ps72 : List PK := [⟨none, false, [I], false⟩]
def rs72 : List PK := [⟨some .S, false, [.bool], false⟩]
noncomputable def F72 := FN (tabC T101) an72 S72 ac72 [.tmp 2] 5 false 1 ps72 rs72
noncomputable def T72 : List (FuncId × Ctr) := (72, ⟨true, false, 1, ps72, rs72, F72⟩) :: T101
theorem hT72 : AllC Try.prog T72 := AllC.fresh (an := an72) (S := S72) (ps := ps72) (rs := rs72) hT101 gd72 (by kernel_rfl)
noncomputable def G72 (a_n : Int) : Option (Bool × Unit) := F72 (a_n, ())
def f72 (a_n : Int) : Bool := (f56 a_n (-1 : Int) (99999 : Int))
theorem G72_eq (a_n : Int) : (G72 a_n) = some ((f72 a_n), ()) := by kernel_rfl
noncomputable def ac33 : ACode := acOf Try.prog 33
theorem gd33 : Good Try.prog (33, ac33, [.tmp 2], 168) := ⟨_, Try.func33, by kernel_rfl, by kernel_rfl, by kernel_rfl, by kernel_rfl⟩
/- spec.MapOk -/
def sk33_0 : Skel := ⟨mkE 168 [(1, .box 0 0), (3, .int .i64)], [some [.int .i64, .int .i64, .int .i64, .lst MapDisk, .lst MapView, .lst MapDone]], [], 0⟩
def ou33_0 : List (Option Nat × Skel) := [(some 0, ⟨mkE 168 [(1, .box 0 0)], [some [.int .i64, .int .i64, .int .i64, .lst MapDisk, .lst MapView, .lst MapDone]], [], 0⟩), (none, ⟨mkE 168 [(2, .bool)], [], [], 0⟩)]
def sk33_1 : Skel := ⟨mkE 168 [(1, .box 0 0), (4, .int .i64)], [some [.int .i64, .int .i64, .int .i64, .lst MapDisk, .lst MapView, .lst MapDone]], [], 0⟩
def ou33_1 : List (Option Nat × Skel) := [(some 2, ⟨mkE 168 [(1, .box 0 0)], [some [.int .i64, .int .i64, .int .i64, .lst MapDisk, .lst MapView, .lst MapDone]], [], 0⟩), (none, ⟨mkE 168 [(2, .bool)], [], [], 0⟩)]
def sk33_2 : Skel := ⟨mkE 168 [(1, .box 0 0), (6, .int .i64)], [some [.int .i64, .int .i64, .int .i64, .lst MapDisk, .lst MapView, .lst MapDone]], [], 0⟩
def ou33_2 : List (Option Nat × Skel) := [(some 4, ⟨mkE 168 [], [], [], 0⟩), (none, ⟨mkE 168 [(2, .bool)], [], [], 0⟩)]
def an33 : List (Nat × An) := []
def S33 : List (Skel × List (Option Nat × Skel)) := [(sk33_0, ou33_0), (sk33_1, ou33_1), (sk33_2, ou33_2)]
def ps33 : List PK := [⟨none, true, MapState, false⟩]
def rs33 : List PK := [⟨some .S, false, [.bool], false⟩]
noncomputable def F33 := FN (tabC T72) an33 S33 ac33 [.tmp 2] 168 false 1 ps33 rs33
noncomputable def T33 : List (FuncId × Ctr) := (33, ⟨true, false, 1, ps33, rs33, F33⟩) :: T72
theorem hT33 : AllC Try.prog T33 := AllC.fresh (an := an33) (S := S33) (ps := ps33) (rs := rs33) hT72 gd33 (by kernel_rfl)
noncomputable def lf33_2 : Int × Int × Int × Int × (List (DMapDisk)) × (List (DMapView)) × (List (DMapDone)) × Unit → Option (Outs ou33_2) := lfp (vround (tabC T72) an33 (mkL (tabC T72) an33 [] (ac33.body 2)) (ac33.body 2) sk33_2 ou33_2)
noncomputable def lg33_2 (v_d : Int) (v_b0_0 : Int) (v_b0_1 : Int) (v_b0_2 : Int) (v_b0_3 : List (DMapDisk)) (v_b0_4 : List (DMapView)) (v_b0_5 : List (DMapDone)) : Option (Sum (Unit) (Sum (Bool × Unit) (Empty))) := lf33_2 (v_d, v_b0_0, v_b0_1, v_b0_2, v_b0_3, v_b0_4, v_b0_5, ())
theorem lg33_2_eq (v_d : Int) (v_b0_0 : Int) (v_b0_1 : Int) (v_b0_2 : Int) (v_b0_3 : List (DMapDisk)) (v_b0_4 : List (DMapView)) (v_b0_5 : List (DMapDone)) : (lg33_2 v_d v_b0_0 v_b0_1 v_b0_2 v_b0_3 v_b0_4 v_b0_5) = (br (decide (v_d < ((v_b0_5.length : Nat) : Int))) (chk (decide (0 ≤ v_d ∧ v_d < ((v_b0_5.length : Nat) : Int))) (let e8 : DMapDone := (v_b0_5.getD v_d.toNat ((0 : Int), (0 : Int), (0 : Int), (0 : Int), ())); (chk ((decide (0 ≤ (IntKind.i64.wrap (v_d - (1 : Int))) ∧ (IntKind.i64.wrap (v_d - (1 : Int))) < ((v_b0_5.length : Nat) : Int))) || (!((!((((!(f56 e8.1 (0 : Int) (3 : Int))) || (!(f56 e8.2.1 (1 : Int) (99999 : Int)))) || (!(f56 e8.2.2.1 (0 : Int) (6 : Int)))) || (!(f72 e8.2.2.2.1)))) && (decide (v_d > (0 : Int)))))) (let e9 : DMapDone := (v_b0_5.getD (IntKind.i64.wrap (v_d - (1 : Int))).toNat ((0 : Int), (0 : Int), (0 : Int), (0 : Int), ())); (br (((((!(f56 e8.1 (0 : Int) (3 : Int))) || (!(f56 e8.2.1 (1 : Int) (99999 : Int)))) || (!(f56 e8.2.2.1 (0 : Int) (6 : Int)))) || (!(f72 e8.2.2.2.1))) || ((decide (v_d > (0 : Int))) && (decide (e9.1 ≥ e8.1)))) (some (.inr (.inl (false, ())))) (lg33_2 (IntKind.i64.wrap (v_d + (1 : Int))) v_b0_0 v_b0_1 v_b0_2 v_b0_3 v_b0_4 v_b0_5)))))) (some (.inl (())))) :=
  (show lf33_2 (v_d, v_b0_0, v_b0_1, v_b0_2, v_b0_3, v_b0_4, v_b0_5, ()) = _ from lfp_eq (fun x => vround_lin _ _ _ _ x) _).trans (by kernel_rfl)
noncomputable def lf33_1 : Int × Int × Int × Int × (List (DMapDisk)) × (List (DMapView)) × (List (DMapDone)) × Unit → Option (Outs ou33_1) := lfp (vround (tabC T72) an33 (mkL (tabC T72) an33 [] (ac33.body 1)) (ac33.body 1) sk33_1 ou33_1)
noncomputable def lg33_1 (v_e : Int) (v_b0_0 : Int) (v_b0_1 : Int) (v_b0_2 : Int) (v_b0_3 : List (DMapDisk)) (v_b0_4 : List (DMapView)) (v_b0_5 : List (DMapDone)) : Option (Sum (DMapState) (Sum (Bool × Unit) (Empty))) := lf33_1 (v_e, v_b0_0, v_b0_1, v_b0_2, v_b0_3, v_b0_4, v_b0_5, ())
theorem lg33_1_eq (v_e : Int) (v_b0_0 : Int) (v_b0_1 : Int) (v_b0_2 : Int) (v_b0_3 : List (DMapDisk)) (v_b0_4 : List (DMapView)) (v_b0_5 : List (DMapDone)) : (lg33_1 v_e v_b0_0 v_b0_1 v_b0_2 v_b0_3 v_b0_4 v_b0_5) = (br (decide (v_e < ((v_b0_4.length : Nat) : Int))) (chk (decide (0 ≤ v_e ∧ v_e < ((v_b0_4.length : Nat) : Int))) (let e6 : DMapView := (v_b0_4.getD v_e.toNat ((0 : Int), (0 : Int), (0 : Int), ())); (br ((((!(f56 e6.1 (1 : Int) (99999 : Int))) || (!(f56 e6.2.1 (0 : Int) (IntKind.i64.wrap (v_b0_1 - (1 : Int)))))) || (!(f56 e6.2.2.1 (-1 : Int) (IntKind.i64.wrap (v_b0_1 - (1 : Int)))))) || (e6.2.1 == e6.2.2.1)) (some (.inr (.inl (false, ())))) (lg33_1 (IntKind.i64.wrap (v_e + (1 : Int))) v_b0_0 v_b0_1 v_b0_2 v_b0_3 v_b0_4 v_b0_5)))) (some (.inl (v_b0_0, v_b0_1, v_b0_2, v_b0_3, v_b0_4, v_b0_5, ())))) :=
  (show lf33_1 (v_e, v_b0_0, v_b0_1, v_b0_2, v_b0_3, v_b0_4, v_b0_5, ()) = _ from lfp_eq (fun x => vround_lin _ _ _ _ x) _).trans (by kernel_rfl)
noncomputable def lf33_0 : Int × Int × Int × Int × (List (DMapDisk)) × (List (DMapView)) × (List (DMapDone)) × Unit → Option (Outs ou33_0) := lfp (vround (tabC T72) an33 (mkL (tabC T72) an33 [] (ac33.body 0)) (ac33.body 0) sk33_0 ou33_0)
noncomputable def lg33_0 (v_p : Int) (v_b0_0 : Int) (v_b0_1 : Int) (v_b0_2 : Int) (v_b0_3 : List (DMapDisk)) (v_b0_4 : List (DMapView)) (v_b0_5 : List (DMapDone)) : Option (Sum (DMapState) (Sum (Bool × Unit) (Empty))) := lf33_0 (v_p, v_b0_0, v_b0_1, v_b0_2, v_b0_3, v_b0_4, v_b0_5, ())
theorem lg33_0_eq (v_p : Int) (v_b0_0 : Int) (v_b0_1 : Int) (v_b0_2 : Int) (v_b0_3 : List (DMapDisk)) (v_b0_4 : List (DMapView)) (v_b0_5 : List (DMapDone)) : (lg33_0 v_p v_b0_0 v_b0_1 v_b0_2 v_b0_3 v_b0_4 v_b0_5) = (br (decide (v_p < ((v_b0_3.length : Nat) : Int))) (chk (decide (0 ≤ v_p ∧ v_p < ((v_b0_3.length : Nat) : Int))) (let e1 : DMapDisk := (v_b0_3.getD v_p.toNat ((0 : Int), (0 : Int), (0 : Int), (0 : Int), (0 : Int), (0 : Int), [], ())); ((G101 v_b0_0 v_b0_1 v_b0_2 v_b0_3 v_b0_4 v_b0_5 e1.1 e1.2.1 e1.2.2.1 e1.2.2.2.1 e1.2.2.2.2.1 e1.2.2.2.2.2.1 e1.2.2.2.2.2.2.1).bind fun (y2 : Bool × Unit) => (chk ((decide (0 ≤ (IntKind.i64.wrap (v_p - (1 : Int))) ∧ (IntKind.i64.wrap (v_p - (1 : Int))) < ((v_b0_3.length : Nat) : Int))) || (!((!(!y2.1)) && (decide (v_p > (0 : Int)))))) (let e3 : DMapDisk := (v_b0_3.getD (IntKind.i64.wrap (v_p - (1 : Int))).toNat ((0 : Int), (0 : Int), (0 : Int), (0 : Int), (0 : Int), (0 : Int), [], ())); (chk ((decide (0 ≤ v_p ∧ v_p < ((v_b0_3.length : Nat) : Int))) || (!((!(!y2.1)) && (decide (v_p > (0 : Int)))))) (let e4 : DMapDisk := (v_b0_3.getD v_p.toNat ((0 : Int), (0 : Int), (0 : Int), (0 : Int), (0 : Int), (0 : Int), [], ())); (br ((!y2.1) || ((decide (v_p > (0 : Int))) && (decide (e3.1 ≥ e4.1)))) (some (.inr (.inl (false, ())))) (lg33_0 (IntKind.i64.wrap (v_p + (1 : Int))) v_b0_0 v_b0_1 v_b0_2 v_b0_3 v_b0_4 v_b0_5))))))))) (some (.inl (v_b0_0, v_b0_1, v_b0_2, v_b0_3, v_b0_4, v_b0_5, ())))) :=
  (show lf33_0 (v_p, v_b0_0, v_b0_1, v_b0_2, v_b0_3, v_b0_4, v_b0_5, ()) = _ from lfp_eq (fun x => vround_lin _ _ _ _ x) _).trans (by kernel_rfl)
noncomputable def G33 (a_x0 : Int) (a_x1 : Int) (a_x2 : Int) (a_x3 : List (DMapDisk)) (a_x4 : List (DMapView)) (a_x5 : List (DMapDone)) : Option (Bool × Unit) := F33 (a_x0, a_x1, a_x2, a_x3, a_x4, a_x5, ())
theorem G33_eq (a_x0 : Int) (a_x1 : Int) (a_x2 : Int) (a_x3 : List (DMapDisk)) (a_x4 : List (DMapView)) (a_x5 : List (DMapDone)) : (G33 a_x0 a_x1 a_x2 a_x3 a_x4 a_x5) = (br ((((((!(f56 a_x0 (0 : Int) (60 : Int))) || (!(f56 a_x1 (3 : Int) (5 : Int)))) || (!(f56 a_x2 (1 : Int) (5 : Int)))) || (decide (((a_x3.length : Nat) : Int) > (4 : Int)))) || (((a_x4.length : Nat) : Int) != (3 : Int))) || (decide (((a_x5.length : Nat) : Int) > (4 : Int)))) (some (false, ())) ((lg33_0 (0 : Int) a_x0 a_x1 a_x2 a_x3 a_x4 a_x5).bind fun o => match o with | .inl (y5 : DMapState) => ((lg33_1 (0 : Int) y5.1 y5.2.1 y5.2.2.1 y5.2.2.2.1 y5.2.2.2.2.1 y5.2.2.2.2.2.1).bind fun o => match o with | .inl (y7 : DMapState) => ((lg33_2 (0 : Int) y7.1 y7.2.1 y7.2.2.1 y7.2.2.2.1 y7.2.2.2.2.1 y7.2.2.2.2.2.1).bind fun o => match o with | .inl (y10 : Unit) => (some (true, ())) | .inr (.inl (y11 : Bool × Unit)) => (some (y11.1, ()))) | .inr (.inl (y12 : Bool × Unit)) => (some (y12.1, ()))) | .inr (.inl (y13 : Bool × Unit)) => (some (y13.1, ())))) := by kernel_rfl
noncomputable def ac121 : ACode := acOf Try.prog 121
theorem gd121 : Good Try.prog (121, ac121, [.cell 2 true 6], 43) := ⟨_, Try.func121, by kernel_rfl, by kernel_rfl, by kernel_rfl, by kernel_rfl⟩
/- spec.l31Copy -/
def sk121_0 : Skel := ⟨mkE 43 [(1, .box 0 0), (2, .box 1 0), (3, .box 2 0), (4, .int .i64)], [some [.int .i64, .int .i64, .int .i64, .lst MapDisk, .lst MapView, .lst MapDone], some [.int .i64, .int .i64, .int .i64, .nil, .nil, .nil], some [.int .i64, .int .i64, .int .i64, .ref 0, .lst MapView, .lst MapDone]], [some (.m .S, MapDisk)], 0⟩
def ou121_0 : List (Option Nat × Skel) := [(some 0, ⟨mkE 43 [(1, .box 0 0), (2, .box 1 0), (3, .box 2 0)], [some [.int .i64, .int .i64, .int .i64, .lst MapDisk, .lst MapView, .lst MapDone], some [.int .i64, .int .i64, .int .i64, .nil, .nil, .nil], some [.int .i64, .int .i64, .int .i64, .ref 0, .lst MapView, .lst MapDone]], [some (.m .S, MapDisk)], 0⟩)]
def an121 : List (Nat × An) := [(7, .ty MapDisk), (29, .ty MapDisk)]
def S121 : List (Skel × List (Option Nat × Skel)) := [(sk121_0, ou121_0)]
def ps121 : List PK := [⟨none, true, MapState, false⟩]
def rs121 : List PK := [⟨some .S, true, MapState, false⟩]
noncomputable def F121 := FN (tabC T33) an121 S121 ac121 [.cell 2 true 6] 43 false 1 ps121 rs121
noncomputable def T121 : List (FuncId × Ctr) := (121, ⟨true, false, 1, ps121, rs121, F121⟩) :: T33
theorem hT121 : AllC Try.prog T121 := AllC.fresh (an := an121) (S := S121) (ps := ps121) (rs := rs121) hT33 gd121 (by kernel_rfl)
noncomputable def lf121_0 : Int × Int × Int × Int × (List (DMapDisk)) × (List (DMapView)) × (List (DMapDone)) × Int × Int × Int × Int × Int × Int × (List (DMapView)) × (List (DMapDone)) × (List (DMapDisk)) × Unit → Option (Outs ou121_0) := lfp (vround (tabC T33) an121 (mkL (tabC T33) an121 [] (ac121.body 0)) (ac121.body 0) sk121_0 ou121_0)
noncomputable def lg121_0 (v_i : Int) (v_b0_0 : Int) (v_b0_1 : Int) (v_b0_2 : Int) (v_b0_3 : List (DMapDisk)) (v_b0_4 : List (DMapView)) (v_b0_5 : List (DMapDone)) (v_b1_0 : Int) (v_b1_1 : Int) (v_b1_2 : Int) (v_b2_0 : Int) (v_b2_1 : Int) (v_b2_2 : Int) (v_b2_4 : List (DMapView)) (v_b2_5 : List (DMapDone)) (v_r0 : List (DMapDisk)) : Option (Sum (Int × Int × Int × (List (DMapDisk)) × (List (DMapView)) × (List (DMapDone)) × Int × Int × Int × Int × Int × Int × (List (DMapView)) × (List (DMapDone)) × (List (DMapDisk)) × Unit) (Empty)) := lf121_0 (v_i, v_b0_0, v_b0_1, v_b0_2, v_b0_3, v_b0_4, v_b0_5, v_b1_0, v_b1_1, v_b1_2, v_b2_0, v_b2_1, v_b2_2, v_b2_4, v_b2_5, v_r0, ())
theorem lg121_0_eq (v_i : Int) (v_b0_0 : Int) (v_b0_1 : Int) (v_b0_2 : Int) (v_b0_3 : List (DMapDisk)) (v_b0_4 : List (DMapView)) (v_b0_5 : List (DMapDone)) (v_b1_0 : Int) (v_b1_1 : Int) (v_b1_2 : Int) (v_b2_0 : Int) (v_b2_1 : Int) (v_b2_2 : Int) (v_b2_4 : List (DMapView)) (v_b2_5 : List (DMapDone)) (v_r0 : List (DMapDisk)) : (lg121_0 v_i v_b0_0 v_b0_1 v_b0_2 v_b0_3 v_b0_4 v_b0_5 v_b1_0 v_b1_1 v_b1_2 v_b2_0 v_b2_1 v_b2_2 v_b2_4 v_b2_5 v_r0) = (br (decide (v_i < ((v_b0_3.length : Nat) : Int))) (chk (decide (0 ≤ v_i ∧ v_i < ((v_b0_3.length : Nat) : Int))) (let e1 : DMapDisk := (v_b0_3.getD v_i.toNat ((0 : Int), (0 : Int), (0 : Int), (0 : Int), (0 : Int), (0 : Int), [], ())); (chk (capOk ((0) + e1.2.2.2.2.2.2.1.length) 8) (chk (capOk (v_r0.length + (1)) 72) (lg121_0 (IntKind.i64.wrap (v_i + (1 : Int))) v_b0_0 v_b0_1 v_b0_2 v_b0_3 v_b0_4 v_b0_5 v_b1_0 v_b1_1 v_b1_2 v_b2_0 v_b2_1 v_b2_2 v_b2_4 v_b2_5 (v_r0 ++ [(e1.1, e1.2.1, e1.2.2.1, e1.2.2.2.1, e1.2.2.2.2.1, e1.2.2.2.2.2.1, e1.2.2.2.2.2.2.1, ())])))))) (some (.inl (v_b0_0, v_b0_1, v_b0_2, v_b0_3, v_b0_4, v_b0_5, v_b1_0, v_b1_1, v_b1_2, v_b2_0, v_b2_1, v_b2_2, v_b2_4, v_b2_5, v_r0, ())))) :=
  (show lf121_0 (v_i, v_b0_0, v_b0_1, v_b0_2, v_b0_3, v_b0_4, v_b0_5, v_b1_0, v_b1_1, v_b1_2, v_b2_0, v_b2_1, v_b2_2, v_b2_4, v_b2_5, v_r0, ()) = _ from lfp_eq (fun x => vround_lin _ _ _ _ x) _).trans (by kernel_rfl)
noncomputable def G121 (a_m0 : Int) (a_m1 : Int) (a_m2 : Int) (a_m3 : List (DMapDisk)) (a_m4 : List (DMapView)) (a_m5 : List (DMapDone)) : Option (DMapState) := F121 (a_m0, a_m1, a_m2, a_m3, a_m4, a_m5, ())
theorem G121_eq (a_m0 : Int) (a_m1 : Int) (a_m2 : Int) (a_m3 : List (DMapDisk)) (a_m4 : List (DMapView)) (a_m5 : List (DMapDone)) : (G121 a_m0 a_m1 a_m2 a_m3 a_m4 a_m5) = ((lg121_0 (0 : Int) a_m0 a_m1 a_m2 a_m3 a_m4 a_m5 (0 : Int) (0 : Int) (0 : Int) a_m0 a_m1 a_m2 a_m4 a_m5 []).bind fun o => match o with | .inl (y2 : Int × Int × Int × (List (DMapDisk)) × (List (DMapView)) × (List (DMapDone)) × Int × Int × Int × Int × Int × Int × (List (DMapView)) × (List (DMapDone)) × (List (DMapDisk)) × Unit) => (chk (capOk ((0) + y2.2.2.2.2.1.length) 24) (chk (capOk ((0) + y2.2.2.2.2.2.1.length) 32) (some (y2.2.2.2.2.2.2.2.2.2.1, y2.2.2.2.2.2.2.2.2.2.2.1, y2.2.2.2.2.2.2.2.2.2.2.2.1, y2.2.2.2.2.2.2.2.2.2.2.2.2.2.2.1, y2.2.2.2.2.1, y2.2.2.2.2.2.1, ()))))) := by kernel_rfl
noncomputable def ac74 : ACode := acOf Try.prog 74
theorem gd74 : Good Try.prog (74, ac74, [.tmp 2], 51) := ⟨_, Try.func74, by kernel_rfl, by kernel_rfl, by kernel_rfl, by kernel_rfl⟩
/- spec.l11CmdOk -/
def an74 : List (Nat × An) := []
def S74 : List (Skel × List (Option Nat × Skel)) := []
def ps74 : List PK := [⟨none, true, Cmd, false⟩]
def rs74 : List PK := [⟨some .S, false, [.bool], false⟩]
noncomputable def F74 := FN (tabC T121) an74 S74 ac74 [.tmp 2] 51 false 1 ps74 rs74
noncomputable def T74 : List (FuncId × Ctr) := (74, ⟨true, false, 1, ps74, rs74, F74⟩) :: T121
theorem hT74 : AllC Try.prog T74 := AllC.fresh (an := an74) (S := S74) (ps := ps74) (rs := rs74) hT121 gd74 (by kernel_rfl)
noncomputable def G74 (a_c0 : Int) (a_c1 : Int) (a_c2 : Int) (a_c3 : Int) (a_c4 : Int) (a_c5 : Int) (a_c6 : Int) (a_c7 : Int) (a_c8 : Int) (a_c9 : Int) : Option (Bool × Unit) := F74 (a_c0, a_c1, a_c2, a_c3, a_c4, a_c5, a_c6, a_c7, a_c8, a_c9, ())
def f74 (a_c0 : Int) (a_c1 : Int) (a_c2 : Int) (a_c3 : Int) (a_c4 : Int) (a_c5 : Int) (a_c6 : Int) (a_c7 : Int) (a_c8 : Int) (a_c9 : Int) : Bool := ((((((((((f56 a_c0 (0 : Int) (7 : Int)) && (f72 a_c1)) && (f72 a_c2)) && (f72 a_c3)) && (f72 a_c4)) && (f72 a_c5)) && (f72 a_c6)) && (f72 a_c7)) && (f72 a_c8)) && (f72 a_c9))
theorem G74_eq (a_c0 : Int) (a_c1 : Int) (a_c2 : Int) (a_c3 : Int) (a_c4 : Int) (a_c5 : Int) (a_c6 : Int) (a_c7 : Int) (a_c8 : Int) (a_c9 : Int) : (G74 a_c0 a_c1 a_c2 a_c3 a_c4 a_c5 a_c6 a_c7 a_c8 a_c9) = some ((f74 a_c0 a_c1 a_c2 a_c3 a_c4 a_c5 a_c6 a_c7 a_c8 a_c9), ()) := by kernel_rfl
noncomputable def ac122 : ACode := acOf Try.prog 122
theorem gd122 : Good Try.prog (122, ac122, [.cell 4 true 6], 85) := ⟨_, Try.func122, by kernel_rfl, by kernel_rfl, by kernel_rfl, by kernel_rfl⟩
/- spec.l31View -/
def an122 : List (Nat × An) := []
def S122 : List (Skel × List (Option Nat × Skel)) := []
def ps122 : List PK := [⟨some .A, true, MapState, false⟩, ⟨none, true, Cmd, false⟩]
def rs122 : List PK := [⟨some .A, true, MapState, false⟩]
noncomputable def F122 := FN (tabC T74) an122 S122 ac122 [.cell 4 true 6] 85 false 1 ps122 rs122
noncomputable def T122 : List (FuncId × Ctr) := (122, ⟨false, false, 1, ps122, rs122, F122⟩) :: T74
theorem hT122 : AllC Try.prog T122 := AllC.own (an := an122) (S := S122) (ps := ps122) (rs := rs122) hT74 gd122 (by kernel_rfl)
noncomputable def G122 (a_m0 : Int) (a_m1 : Int) (a_m2 : Int) (a_m3 : List (DMapDisk)) (a_m4 : List (DMapView)) (a_m5 : List (DMapDone)) (a_c0 : Int) (a_c1 : Int) (a_c2 : Int) (a_c3 : Int) (a_c4 : Int) (a_c5 : Int) (a_c6 : Int) (a_c7 : Int) (a_c8 : Int) (a_c9 : Int) : Option (DMapState) := F122 (a_m0, a_m1, a_m2, a_m3, a_m4, a_m5, a_c0, a_c1, a_c2, a_c3, a_c4, a_c5, a_c6, a_c7, a_c8, a_c9, ())
theorem G122_eq (a_m0 : Int) (a_m1 : Int) (a_m2 : Int) (a_m3 : List (DMapDisk)) (a_m4 : List (DMapView)) (a_m5 : List (DMapDone)) (a_c0 : Int) (a_c1 : Int) (a_c2 : Int) (a_c3 : Int) (a_c4 : Int) (a_c5 : Int) (a_c6 : Int) (a_c7 : Int) (a_c8 : Int) (a_c9 : Int) : (G122 a_m0 a_m1 a_m2 a_m3 a_m4 a_m5 a_c0 a_c1 a_c2 a_c3 a_c4 a_c5 a_c6 a_c7 a_c8 a_c9) = (br (!(f56 a_c6 (0 : Int) (2 : Int))) (some (a_m0, a_m1, a_m2, a_m3, a_m4, a_m5, ())) (chk (decide (0 ≤ a_c6 ∧ a_c6 < ((a_m4.length : Nat) : Int))) (let e1 : DMapView := (a_m4.getD a_c6.toNat ((0 : Int), (0 : Int), (0 : Int), ())); (br ((((((a_c7 != (IntKind.i64.wrap (e1.1 + (1 : Int)))) || ((a_c8 != e1.2.1) && (a_c8 != e1.2.2.1))) || (decide (a_c8 < (0 : Int)))) || (decide (a_c9 ≥ a_m1))) || (a_c8 == a_c9)) || ((decide (a_c9 ≥ (0 : Int))) && (decide (e1.2.2.1 ≥ (0 : Int))))) (some (a_m0, a_m1, a_m2, a_m3, a_m4, a_m5, ())) (let k3 := fun (v2 : Int) => (chk (decide (0 ≤ a_c6 ∧ a_c6 < ((a_m4.length : Nat) : Int))) (some (a_m0, a_m1, a_m2, a_m3, (a_m4.set a_c6.toNat (a_c7, a_c8, v2, ())), a_m5, ()))); (br (decide (a_c9 ≥ (0 : Int))) (k3 a_c9) (k3 (-1 : Int)))))))) := by kernel_rfl
noncomputable def ac104 : ACode := acOf Try.prog 104
theorem gd104 : Good Try.prog (104, ac104, [.tmp 4], 22) := ⟨_, Try.func104, by kernel_rfl, by kernel_rfl, by kernel_rfl, by kernel_rfl⟩
/- spec.l31Disk -/
def sk104_0 : Skel := ⟨mkE 22 [(1, .int .i64), (2, .box 0 0), (5, .int .i64)], [some [.int .i64, .int .i64, .int .i64, .lst MapDisk, .lst MapView, .lst MapDone]], [], 0⟩
def ou104_0 : List (Option Nat × Skel) := [(some 0, ⟨mkE 22 [], [], [], 0⟩), (none, ⟨mkE 22 [(4, .int .i64)], [], [], 0⟩)]
def an104 : List (Nat × An) := []
def S104 : List (Skel × List (Option Nat × Skel)) := [(sk104_0, ou104_0)]
def ps104 : List PK := [⟨none, true, MapState, false⟩, ⟨none, false, [I], false⟩]
def rs104 : List PK := [⟨some .S, false, [I], false⟩]
noncomputable def F104 := FN (tabC T122) an104 S104 ac104 [.tmp 4] 22 false 1 ps104 rs104
noncomputable def T104 : List (FuncId × Ctr) := (104, ⟨true, false, 1, ps104, rs104, F104⟩) :: T122
theorem hT104 : AllC Try.prog T104 := AllC.fresh (an := an104) (S := S104) (ps := ps104) (rs := rs104) hT122 gd104 (by kernel_rfl)
noncomputable def lf104_0 : Int × Int × Int × Int × Int × (List (DMapDisk)) × (List (DMapView)) × (List (DMapDone)) × Unit → Option (Outs ou104_0) := lfp (vround (tabC T122) an104 (mkL (tabC T122) an104 [] (ac104.body 0)) (ac104.body 0) sk104_0 ou104_0)
noncomputable def lg104_0 (v_id : Int) (v_i : Int) (v_b0_0 : Int) (v_b0_1 : Int) (v_b0_2 : Int) (v_b0_3 : List (DMapDisk)) (v_b0_4 : List (DMapView)) (v_b0_5 : List (DMapDone)) : Option (Sum (Unit) (Sum (Int × Unit) (Empty))) := lf104_0 (v_id, v_i, v_b0_0, v_b0_1, v_b0_2, v_b0_3, v_b0_4, v_b0_5, ())
theorem lg104_0_eq (v_id : Int) (v_i : Int) (v_b0_0 : Int) (v_b0_1 : Int) (v_b0_2 : Int) (v_b0_3 : List (DMapDisk)) (v_b0_4 : List (DMapView)) (v_b0_5 : List (DMapDone)) : (lg104_0 v_id v_i v_b0_0 v_b0_1 v_b0_2 v_b0_3 v_b0_4 v_b0_5) = (br (decide (v_i < ((v_b0_3.length : Nat) : Int))) (chk (decide (0 ≤ v_i ∧ v_i < ((v_b0_3.length : Nat) : Int))) (let e1 : DMapDisk := (v_b0_3.getD v_i.toNat ((0 : Int), (0 : Int), (0 : Int), (0 : Int), (0 : Int), (0 : Int), [], ())); (br (e1.1 == v_id) (some (.inr (.inl (v_i, ())))) (lg104_0 v_id (IntKind.i64.wrap (v_i + (1 : Int))) v_b0_0 v_b0_1 v_b0_2 v_b0_3 v_b0_4 v_b0_5)))) (some (.inl (())))) :=
  (show lf104_0 (v_id, v_i, v_b0_0, v_b0_1, v_b0_2, v_b0_3, v_b0_4, v_b0_5, ()) = _ from lfp_eq (fun x => vround_lin _ _ _ _ x) _).trans (by kernel_rfl)
noncomputable def G104 (a_m0 : Int) (a_m1 : Int) (a_m2 : Int) (a_m3 : List (DMapDisk)) (a_m4 : List (DMapView)) (a_m5 : List (DMapDone)) (a_id : Int) : Option (Int × Unit) := F104 (a_m0, a_m1, a_m2, a_m3, a_m4, a_m5, a_id, ())
theorem G104_eq (a_m0 : Int) (a_m1 : Int) (a_m2 : Int) (a_m3 : List (DMapDisk)) (a_m4 : List (DMapView)) (a_m5 : List (DMapDone)) (a_id : Int) : (G104 a_m0 a_m1 a_m2 a_m3 a_m4 a_m5 a_id) = ((lg104_0 a_id (0 : Int) a_m0 a_m1 a_m2 a_m3 a_m4 a_m5).bind fun o => match o with | .inl (y2 : Unit) => (some ((-1 : Int), ())) | .inr (.inl (y3 : Int × Unit)) => (some (y3.1, ()))) := by kernel_rfl
noncomputable def ac188 : ACode := acOf Try.prog 188
theorem gd188 : Good Try.prog (188, ac188, [.cell 4 true 4], 27) := ⟨_, Try.func188, by kernel_rfl, by kernel_rfl, by kernel_rfl, by kernel_rfl⟩
/- spec.l31Last -/
def sk188_0 : Skel := ⟨mkE 27 [(1, .int .i64), (2, .box 0 0), (4, .box 1 0), (5, .int .i64)], [some [.int .i64, .int .i64, .int .i64, .lst MapDisk, .lst MapView, .lst MapDone], some [.int .i64, .int .i64, .int .i64, .int .i64]], [], 0⟩
def ou188_0 : List (Option Nat × Skel) := [(some 0, ⟨mkE 27 [(4, .box 1 0)], [none, some [.int .i64, .int .i64, .int .i64, .int .i64]], [], 0⟩), (none, ⟨mkE 27 [(4, .box 1 0)], [none, some [.int .i64, .int .i64, .int .i64, .int .i64]], [], 0⟩)]
def an188 : List (Nat × An) := []
def S188 : List (Skel × List (Option Nat × Skel)) := [(sk188_0, ou188_0)]
def ps188 : List PK := [⟨none, true, MapState, false⟩, ⟨none, false, [I], false⟩]
def rs188 : List PK := [⟨some .S, true, MapDone, false⟩]
noncomputable def F188 := FN (tabC T104) an188 S188 ac188 [.cell 4 true 4] 27 false 1 ps188 rs188
noncomputable def T188 : List (FuncId × Ctr) := (188, ⟨true, false, 1, ps188, rs188, F188⟩) :: T104
theorem hT188 : AllC Try.prog T188 := AllC.fresh (an := an188) (S := S188) (ps := ps188) (rs := rs188) hT104 gd188 (by kernel_rfl)
noncomputable def lf188_0 : Int × Int × Int × Int × Int × (List (DMapDisk)) × (List (DMapView)) × (List (DMapDone)) × Int × Int × Int × Int × Unit → Option (Outs ou188_0) := lfp (vround (tabC T104) an188 (mkL (tabC T104) an188 [] (ac188.body 0)) (ac188.body 0) sk188_0 ou188_0)
noncomputable def lg188_0 (v_client : Int) (v_i : Int) (v_b0_0 : Int) (v_b0_1 : Int) (v_b0_2 : Int) (v_b0_3 : List (DMapDisk)) (v_b0_4 : List (DMapView)) (v_b0_5 : List (DMapDone)) (v_b1_0 : Int) (v_b1_1 : Int) (v_b1_2 : Int) (v_b1_3 : Int) : Option (Sum (DMapDone) (Sum (DMapDone) (Empty))) := lf188_0 (v_client, v_i, v_b0_0, v_b0_1, v_b0_2, v_b0_3, v_b0_4, v_b0_5, v_b1_0, v_b1_1, v_b1_2, v_b1_3, ())
theorem lg188_0_eq (v_client : Int) (v_i : Int) (v_b0_0 : Int) (v_b0_1 : Int) (v_b0_2 : Int) (v_b0_3 : List (DMapDisk)) (v_b0_4 : List (DMapView)) (v_b0_5 : List (DMapDone)) (v_b1_0 : Int) (v_b1_1 : Int) (v_b1_2 : Int) (v_b1_3 : Int) : (lg188_0 v_client v_i v_b0_0 v_b0_1 v_b0_2 v_b0_3 v_b0_4 v_b0_5 v_b1_0 v_b1_1 v_b1_2 v_b1_3) = (br (decide (v_i < ((v_b0_5.length : Nat) : Int))) (chk (decide (0 ≤ v_i ∧ v_i < ((v_b0_5.length : Nat) : Int))) (let e1 : DMapDone := (v_b0_5.getD v_i.toNat ((0 : Int), (0 : Int), (0 : Int), (0 : Int), ())); (br (e1.1 == v_client) (chk (decide (0 ≤ v_i ∧ v_i < ((v_b0_5.length : Nat) : Int))) (let e2 : DMapDone := (v_b0_5.getD v_i.toNat ((0 : Int), (0 : Int), (0 : Int), (0 : Int), ())); (some (.inr (.inl (e2.1, e2.2.1, e2.2.2.1, e2.2.2.2.1, ())))))) (lg188_0 v_client (IntKind.i64.wrap (v_i + (1 : Int))) v_b0_0 v_b0_1 v_b0_2 v_b0_3 v_b0_4 v_b0_5 v_b1_0 v_b1_1 v_b1_2 v_b1_3)))) (some (.inl (v_b1_0, v_b1_1, v_b1_2, v_b1_3, ())))) :=
  (show lf188_0 (v_client, v_i, v_b0_0, v_b0_1, v_b0_2, v_b0_3, v_b0_4, v_b0_5, v_b1_0, v_b1_1, v_b1_2, v_b1_3, ()) = _ from lfp_eq (fun x => vround_lin _ _ _ _ x) _).trans (by kernel_rfl)
noncomputable def G188 (a_m0 : Int) (a_m1 : Int) (a_m2 : Int) (a_m3 : List (DMapDisk)) (a_m4 : List (DMapView)) (a_m5 : List (DMapDone)) (a_client : Int) : Option (DMapDone) := F188 (a_m0, a_m1, a_m2, a_m3, a_m4, a_m5, a_client, ())
theorem G188_eq (a_m0 : Int) (a_m1 : Int) (a_m2 : Int) (a_m3 : List (DMapDisk)) (a_m4 : List (DMapView)) (a_m5 : List (DMapDone)) (a_client : Int) : (G188 a_m0 a_m1 a_m2 a_m3 a_m4 a_m5 a_client) = ((lg188_0 a_client (0 : Int) a_m0 a_m1 a_m2 a_m3 a_m4 a_m5 (0 : Int) (0 : Int) (0 : Int) (0 : Int)).bind fun o => match o with | .inl (y3 : DMapDone) => (some ((0 : Int), (0 : Int), (0 : Int), (0 : Int), ())) | .inr (.inl (y4 : DMapDone)) => (some (y4.1, y4.2.1, y4.2.2.1, y4.2.2.2.1, ()))) := by kernel_rfl
noncomputable def ac168 : ACode := acOf Try.prog 168
theorem gd168 : Good Try.prog (168, ac168, [.cell 4 true 6], 31) := ⟨_, Try.func168, by kernel_rfl, by kernel_rfl, by kernel_rfl, by kernel_rfl⟩
/- spec.l31Tell -/
def sk168_0 : Skel := ⟨mkE 31 [(2, .box 0 0), (3, .box 1 0), (4, .box 2 0), (5, .ref 3), (6, .int .i64)], [some [.int .i64, .int .i64, .int .i64, .ref 0, .ref 1, .ref 2], some [.int .i64, .int .i64, .int .i64, .int .i64], some [.int .i64, .int .i64, .int .i64, .nil, .nil, .nil]], [some (.m .A, MapDisk), some (.m .Z, MapView), some (.m .Z, MapDone), some (.m .Z, MapDone)], 0⟩
def ou168_0 : List (Option Nat × Skel) := [(some 0, ⟨mkE 31 [(2, .box 0 0), (4, .box 2 0), (5, .ref 3)], [some [.int .i64, .int .i64, .int .i64, .ref 0, .ref 1, .ref 2], none, some [.int .i64, .int .i64, .int .i64, .nil, .nil, .nil]], [some (.m .A, MapDisk), some (.m .Z, MapView), some (.m .Z, MapDone), some (.m .Z, MapDone)], 0⟩)]
def an168 : List (Nat × An) := []
def S168 : List (Skel × List (Option Nat × Skel)) := [(sk168_0, ou168_0)]
def ps168 : List PK := [⟨some .A, true, MapState, false⟩, ⟨none, true, MapDone, false⟩]
def rs168 : List PK := [⟨some .A, true, MapState, false⟩]
noncomputable def F168 := FN (tabC T188) an168 S168 ac168 [.cell 4 true 6] 31 false 1 ps168 rs168
noncomputable def T168 : List (FuncId × Ctr) := (168, ⟨false, false, 1, ps168, rs168, F168⟩) :: T188
theorem hT168 : AllC Try.prog T168 := AllC.own (an := an168) (S := S168) (ps := ps168) (rs := rs168) hT188 gd168 (by kernel_rfl)
noncomputable def lf168_0 : Int × Int × Int × Int × Int × Int × Int × Int × Int × Int × Int × (List (DMapDisk)) × (List (DMapView)) × (List (DMapDone)) × (List (DMapDone)) × Unit → Option (Outs ou168_0) := lfp (vround (tabC T188) an168 (mkL (tabC T188) an168 [] (ac168.body 0)) (ac168.body 0) sk168_0 ou168_0)
noncomputable def lg168_0 (v_c : Int) (v_b0_0 : Int) (v_b0_1 : Int) (v_b0_2 : Int) (v_b1_0 : Int) (v_b1_1 : Int) (v_b1_2 : Int) (v_b1_3 : Int) (v_b2_0 : Int) (v_b2_1 : Int) (v_b2_2 : Int) (v_r0 : List (DMapDisk)) (v_r1 : List (DMapView)) (v_r2 : List (DMapDone)) (v_r3 : List (DMapDone)) : Option (Sum (Int × Int × Int × Int × Int × Int × (List (DMapDisk)) × (List (DMapView)) × (List (DMapDone)) × (List (DMapDone)) × Unit) (Empty)) := lf168_0 (v_c, v_b0_0, v_b0_1, v_b0_2, v_b1_0, v_b1_1, v_b1_2, v_b1_3, v_b2_0, v_b2_1, v_b2_2, v_r0, v_r1, v_r2, v_r3, ())
theorem lg168_0_eq (v_c : Int) (v_b0_0 : Int) (v_b0_1 : Int) (v_b0_2 : Int) (v_b1_0 : Int) (v_b1_1 : Int) (v_b1_2 : Int) (v_b1_3 : Int) (v_b2_0 : Int) (v_b2_1 : Int) (v_b2_2 : Int) (v_r0 : List (DMapDisk)) (v_r1 : List (DMapView)) (v_r2 : List (DMapDone)) (v_r3 : List (DMapDone)) : (lg168_0 v_c v_b0_0 v_b0_1 v_b0_2 v_b1_0 v_b1_1 v_b1_2 v_b1_3 v_b2_0 v_b2_1 v_b2_2 v_r0 v_r1 v_r2 v_r3) = (br (decide (v_c < (4 : Int))) ((G188 v_b0_0 v_b0_1 v_b0_2 v_r0 v_r1 v_r2 v_c).bind fun (y1 : DMapDone) => (let k8 := fun (v2 : Int) (v3 : Int) (v4 : Int) (v5 : Int) => (let k7 := fun (v6 : List (DMapDone)) => (lg168_0 (IntKind.i64.wrap (v_c + (1 : Int))) v_b0_0 v_b0_1 v_b0_2 v_b1_0 v_b1_1 v_b1_2 v_b1_3 v_b2_0 v_b2_1 v_b2_2 v_r0 v_r1 v_r2 v6); (br (decide (v3 > (0 : Int))) (chk (capOk (v_r3.length + (1)) 32) (k7 (v_r3 ++ [(v2, v3, v4, v5, ())]))) (k7 v_r3))); (br (v_c == v_b1_0) (k8 v_b1_0 v_b1_1 v_b1_2 v_b1_3) (k8 y1.1 y1.2.1 y1.2.2.1 y1.2.2.2.1)))) (some (.inl (v_b0_0, v_b0_1, v_b0_2, v_b2_0, v_b2_1, v_b2_2, v_r0, v_r1, v_r2, v_r3, ())))) :=
  (show lf168_0 (v_c, v_b0_0, v_b0_1, v_b0_2, v_b1_0, v_b1_1, v_b1_2, v_b1_3, v_b2_0, v_b2_1, v_b2_2, v_r0, v_r1, v_r2, v_r3, ()) = _ from lfp_eq (fun x => vround_lin _ _ _ _ x) _).trans (by kernel_rfl)
noncomputable def G168 (a_m0 : Int) (a_m1 : Int) (a_m2 : Int) (a_m3 : List (DMapDisk)) (a_m4 : List (DMapView)) (a_m5 : List (DMapDone)) (a_x0 : Int) (a_x1 : Int) (a_x2 : Int) (a_x3 : Int) : Option (DMapState) := F168 (a_m0, a_m1, a_m2, a_m3, a_m4, a_m5, a_x0, a_x1, a_x2, a_x3, ())
theorem G168_eq (a_m0 : Int) (a_m1 : Int) (a_m2 : Int) (a_m3 : List (DMapDisk)) (a_m4 : List (DMapView)) (a_m5 : List (DMapDone)) (a_x0 : Int) (a_x1 : Int) (a_x2 : Int) (a_x3 : Int) : (G168 a_m0 a_m1 a_m2 a_m3 a_m4 a_m5 a_x0 a_x1 a_x2 a_x3) = ((lg168_0 (0 : Int) a_m0 a_m1 a_m2 a_x0 a_x1 a_x2 a_x3 (0 : Int) (0 : Int) (0 : Int) a_m3 a_m4 a_m5 []).bind fun o => match o with | .inl (y9 : Int × Int × Int × Int × Int × Int × (List (DMapDisk)) × (List (DMapView)) × (List (DMapDone)) × (List (DMapDone)) × Unit) => (some (y9.1, y9.2.1, y9.2.2.1, y9.2.2.2.2.2.2.1, y9.2.2.2.2.2.2.2.1, y9.2.2.2.2.2.2.2.2.2.1, ()))) := by kernel_rfl
noncomputable def ac164 : ACode := acOf Try.prog 164
theorem gd164 : Good Try.prog (164, ac164, [.cell 4 true 6], 60) := ⟨_, Try.func164, by kernel_rfl, by kernel_rfl, by kernel_rfl, by kernel_rfl⟩
/- spec.l31Thaw -/
def an164 : List (Nat × An) := [(35, .ty MapDisk)]
def S164 : List (Skel × List (Option Nat × Skel)) := []
def ps164 : List PK := [⟨some .A, true, MapState, false⟩, ⟨none, false, [I], false⟩]
def rs164 : List PK := [⟨some .A, true, MapState, false⟩]
noncomputable def F164 := FN (tabC T168) an164 S164 ac164 [.cell 4 true 6] 60 false 1 ps164 rs164
noncomputable def T164 : List (FuncId × Ctr) := (164, ⟨false, false, 1, ps164, rs164, F164⟩) :: T168
theorem hT164 : AllC Try.prog T164 := AllC.own (an := an164) (S := S164) (ps := ps164) (rs := rs164) hT168 gd164 (by kernel_rfl)
noncomputable def G164 (a_m0 : Int) (a_m1 : Int) (a_m2 : Int) (a_m3 : List (DMapDisk)) (a_m4 : List (DMapView)) (a_m5 : List (DMapDone)) (a_i : Int) : Option (DMapState) := F164 (a_m0, a_m1, a_m2, a_m3, a_m4, a_m5, a_i, ())
theorem G164_eq (a_m0 : Int) (a_m1 : Int) (a_m2 : Int) (a_m3 : List (DMapDisk)) (a_m4 : List (DMapView)) (a_m5 : List (DMapDone)) (a_i : Int) : (G164 a_m0 a_m1 a_m2 a_m3 a_m4 a_m5 a_i) = (chk (decide (0 ≤ a_i ∧ a_i < ((a_m3.length : Nat) : Int))) (let e1 : DMapDisk := (a_m3.getD a_i.toNat ((0 : Int), (0 : Int), (0 : Int), (0 : Int), (0 : Int), (0 : Int), [], ())); (br (e1.2.2.2.1 == (1 : Int)) (chk (decide (0 ≤ a_i ∧ a_i < ((a_m3.length : Nat) : Int))) ((G188 a_m0 a_m1 a_m2 (a_m3.set a_i.toNat (e1.1, e1.2.1, (IntKind.i64.wrap (e1.2.2.1 + (1 : Int))), (0 : Int), (0 : Int), (0 : Int), [], ())) a_m4 a_m5 e1.2.2.2.2.1).bind fun (y2 : DMapDone) => (br (decide (y2.2.1 > e1.2.2.2.2.2.1)) (some (a_m0, a_m1, a_m2, (a_m3.set a_i.toNat (e1.1, e1.2.1, (IntKind.i64.wrap (e1.2.2.1 + (1 : Int))), (0 : Int), (0 : Int), (0 : Int), [], ())), a_m4, a_m5, ())) ((G168 a_m0 a_m1 a_m2 (a_m3.set a_i.toNat (e1.1, e1.2.1, (IntKind.i64.wrap (e1.2.2.1 + (1 : Int))), (0 : Int), (0 : Int), (0 : Int), [], ())) a_m4 a_m5 e1.2.2.2.2.1 e1.2.2.2.2.2.1 (0 : Int) e1.2.2.1).bind fun (y3 : DMapState) => (some (y3.1, y3.2.1, y3.2.2.1, y3.2.2.2.1, y3.2.2.2.2.1, y3.2.2.2.2.2.1, ())))))) (chk (decide (0 ≤ (0 : Int) ∧ (0 : Int) ≤ a_i ∧ a_i ≤ ((a_m3.length : Nat) : Int))) (chk (decide (0 ≤ (IntKind.i64.wrap (a_i + (1 : Int))) ∧ (IntKind.i64.wrap (a_i + (1 : Int))) ≤ ((a_m3.length : Nat) : Int) ∧ ((a_m3.length : Nat) : Int) ≤ ((a_m3.length : Nat) : Int))) (chk (capOk ((0) + (((a_m3.take a_i.toNat).drop 0)).length) 72) (chk (capOk ((((a_m3.take a_i.toNat).drop 0)).length + (((a_m3.take ((a_m3.length : Nat) : Int).toNat).drop (IntKind.i64.wrap (a_i + (1 : Int))).toNat)).length) 72) ((G188 a_m0 a_m1 a_m2 (((a_m3.take a_i.toNat).drop 0) ++ ((a_m3.take ((a_m3.length : Nat) : Int).toNat).drop (IntKind.i64.wrap (a_i + (1 : Int))).toNat)) a_m4 a_m5 e1.2.2.2.2.1).bind fun (y4 : DMapDone) => (br (decide (y4.2.1 > e1.2.2.2.2.2.1)) (some (a_m0, a_m1, a_m2, (((a_m3.take a_i.toNat).drop 0) ++ ((a_m3.take ((a_m3.length : Nat) : Int).toNat).drop (IntKind.i64.wrap (a_i + (1 : Int))).toNat)), a_m4, a_m5, ())) ((G168 a_m0 a_m1 a_m2 (((a_m3.take a_i.toNat).drop 0) ++ ((a_m3.take ((a_m3.length : Nat) : Int).toNat).drop (IntKind.i64.wrap (a_i + (1 : Int))).toNat)) a_m4 a_m5 e1.2.2.2.2.1 e1.2.2.2.2.2.1 (0 : Int) (0 : Int)).bind fun (y5 : DMapState) => (some (y5.1, y5.2.1, y5.2.2.1, y5.2.2.2.1, y5.2.2.2.2.1, y5.2.2.2.2.2.1, ())))))))))))) := by kernel_rfl
noncomputable def ac123 : ACode := acOf Try.prog 123
theorem gd123 : Good Try.prog (123, ac123, [.cell 4 true 6], 91) := ⟨_, Try.func123, by kernel_rfl, by kernel_rfl, by kernel_rfl, by kernel_rfl⟩
/- spec.l31Ack -/
def an123 : List (Nat × An) := []
def S123 : List (Skel × List (Option Nat × Skel)) := []
def ps123 : List PK := [⟨some .A, true, MapState, false⟩, ⟨none, true, Cmd, false⟩]
def rs123 : List PK := [⟨some .A, true, MapState, false⟩]
noncomputable def F123 := FN (tabC T164) an123 S123 ac123 [.cell 4 true 6] 91 false 1 ps123 rs123
noncomputable def T123 : List (FuncId × Ctr) := (123, ⟨false, false, 1, ps123, rs123, F123⟩) :: T164
theorem hT123 : AllC Try.prog T123 := AllC.own (an := an123) (S := S123) (ps := ps123) (rs := rs123) hT164 gd123 (by kernel_rfl)
noncomputable def G123 (a_m0 : Int) (a_m1 : Int) (a_m2 : Int) (a_m3 : List (DMapDisk)) (a_m4 : List (DMapView)) (a_m5 : List (DMapDone)) (a_c0 : Int) (a_c1 : Int) (a_c2 : Int) (a_c3 : Int) (a_c4 : Int) (a_c5 : Int) (a_c6 : Int) (a_c7 : Int) (a_c8 : Int) (a_c9 : Int) : Option (DMapState) := F123 (a_m0, a_m1, a_m2, a_m3, a_m4, a_m5, a_c0, a_c1, a_c2, a_c3, a_c4, a_c5, a_c6, a_c7, a_c8, a_c9, ())
theorem G123_eq (a_m0 : Int) (a_m1 : Int) (a_m2 : Int) (a_m3 : List (DMapDisk)) (a_m4 : List (DMapView)) (a_m5 : List (DMapDone)) (a_c0 : Int) (a_c1 : Int) (a_c2 : Int) (a_c3 : Int) (a_c4 : Int) (a_c5 : Int) (a_c6 : Int) (a_c7 : Int) (a_c8 : Int) (a_c9 : Int) : (G123 a_m0 a_m1 a_m2 a_m3 a_m4 a_m5 a_c0 a_c1 a_c2 a_c3 a_c4 a_c5 a_c6 a_c7 a_c8 a_c9) = ((G104 a_m0 a_m1 a_m2 a_m3 a_m4 a_m5 a_c3).bind fun (y1 : Int × Unit) => (chk ((decide (0 ≤ a_c6 ∧ a_c6 < ((a_m4.length : Nat) : Int))) || (!(!((decide (y1.1 < (0 : Int))) || (!(f56 a_c6 (0 : Int) (2 : Int))))))) (let e2 : DMapView := (a_m4.getD a_c6.toNat ((0 : Int), (0 : Int), (0 : Int), ())); (chk ((decide (0 ≤ y1.1 ∧ y1.1 < ((a_m3.length : Nat) : Int))) || (!(!(((decide (y1.1 < (0 : Int))) || (!(f56 a_c6 (0 : Int) (2 : Int)))) || (e2.1 != a_c7))))) (let e3 : DMapDisk := (a_m3.getD y1.1.toNat ((0 : Int), (0 : Int), (0 : Int), (0 : Int), (0 : Int), (0 : Int), [], ())); (chk ((decide (0 ≤ y1.1 ∧ y1.1 < ((a_m3.length : Nat) : Int))) || (!(!((((decide (y1.1 < (0 : Int))) || (!(f56 a_c6 (0 : Int) (2 : Int)))) || (e2.1 != a_c7)) || (e3.2.2.2.1 == (0 : Int)))))) (let e4 : DMapDisk := (a_m3.getD y1.1.toNat ((0 : Int), (0 : Int), (0 : Int), (0 : Int), (0 : Int), (0 : Int), [], ())); (chk ((decide (0 ≤ y1.1 ∧ y1.1 < ((a_m3.length : Nat) : Int))) || (!(!(((((decide (y1.1 < (0 : Int))) || (!(f56 a_c6 (0 : Int) (2 : Int)))) || (e2.1 != a_c7)) || (e3.2.2.2.1 == (0 : Int))) || (e4.2.2.1 != a_c5))))) (let e5 : DMapDisk := (a_m3.getD y1.1.toNat ((0 : Int), (0 : Int), (0 : Int), (0 : Int), (0 : Int), (0 : Int), [], ())); (chk ((G153 e5.2.2.2.2.2.2.1 a_c6).isSome || (!(!(((((decide (y1.1 < (0 : Int))) || (!(f56 a_c6 (0 : Int) (2 : Int)))) || (e2.1 != a_c7)) || (e3.2.2.2.1 == (0 : Int))) || (e4.2.2.1 != a_c5))))) (br ((((((decide (y1.1 < (0 : Int))) || (!(f56 a_c6 (0 : Int) (2 : Int)))) || (e2.1 != a_c7)) || (e3.2.2.2.1 == (0 : Int))) || (e4.2.2.1 != a_c5)) || ((G153 e5.2.2.2.2.2.2.1 a_c6).getD (false, ())).1) (some (a_m0, a_m1, a_m2, a_m3, a_m4, a_m5, ())) (chk (decide (0 ≤ y1.1 ∧ y1.1 < ((a_m3.length : Nat) : Int))) (let e6 : DMapDisk := (a_m3.getD y1.1.toNat ((0 : Int), (0 : Int), (0 : Int), (0 : Int), (0 : Int), (0 : Int), [], ())); (chk (capOk ((0) + e6.2.2.2.2.2.2.1.length) 8) (chk (capOk (e6.2.2.2.2.2.2.1.length + (1)) 8) (chk (decide (0 ≤ y1.1 ∧ y1.1 < ((a_m3.length : Nat) : Int))) (let e7 : DMapDisk := (a_m3.getD y1.1.toNat ((0 : Int), (0 : Int), (0 : Int), (0 : Int), (0 : Int), (0 : Int), [], ())); (let e8 : List (DMapDisk) := (a_m3.set y1.1.toNat (e7.1, e7.2.1, e7.2.2.1, e7.2.2.2.1, e7.2.2.2.2.1, e7.2.2.2.2.2.1, (e6.2.2.2.2.2.2.1 ++ [(a_c6, ())]), ())); (chk (decide (0 ≤ y1.1 ∧ y1.1 < ((e8.length : Nat) : Int))) (let e9 : DMapDisk := (e8.getD y1.1.toNat ((0 : Int), (0 : Int), (0 : Int), (0 : Int), (0 : Int), (0 : Int), [], ())); (br (((e9.2.2.2.2.2.2.1.length : Nat) : Int) == (3 : Int)) ((G164 a_m0 a_m1 a_m2 e8 a_m4 a_m5 y1.1).bind fun (y10 : DMapState) => (some (y10.1, y10.2.1, y10.2.2.1, y10.2.2.2.1, y10.2.2.2.2.1, y10.2.2.2.2.2.1, ()))) (some (a_m0, a_m1, a_m2, e8, a_m4, a_m5, ()))))))))))))))))))))))) := by kernel_rfl
noncomputable def ac165 : ACode := acOf Try.prog 165
theorem gd165 : Good Try.prog (165, ac165, [.tmp 6], 66) := ⟨_, Try.func165, by kernel_rfl, by kernel_rfl, by kernel_rfl, by kernel_rfl⟩
/- spec.l31Past -/
def sk165_0 : Skel := ⟨mkE 66 [(1, .int .i64), (2, .int .i64), (3, .box 0 0), (8, .int .i64)], [some [.int .i64, .int .i64, .int .i64, .lst MapDisk, .lst MapView, .lst MapDone]], [], 0⟩
def ou165_0 : List (Option Nat × Skel) := [(some 0, ⟨mkE 66 [], [], [], 0⟩), (none, ⟨mkE 66 [(6, .bool)], [], [], 0⟩)]
def an165 : List (Nat × An) := []
def S165 : List (Skel × List (Option Nat × Skel)) := [(sk165_0, ou165_0)]
def ps165 : List PK := [⟨none, true, MapState, false⟩, ⟨none, false, [I], false⟩, ⟨none, false, [I], false⟩]
def rs165 : List PK := [⟨some .S, false, [.bool], false⟩]
noncomputable def F165 := FN (tabC T123) an165 S165 ac165 [.tmp 6] 66 false 1 ps165 rs165
noncomputable def T165 : List (FuncId × Ctr) := (165, ⟨true, false, 1, ps165, rs165, F165⟩) :: T123
theorem hT165 : AllC Try.prog T165 := AllC.fresh (an := an165) (S := S165) (ps := ps165) (rs := rs165) hT123 gd165 (by kernel_rfl)
noncomputable def lf165_0 : Int × Int × Int × Int × Int × Int × (List (DMapDisk)) × (List (DMapView)) × (List (DMapDone)) × Unit → Option (Outs ou165_0) := lfp (vround (tabC T123) an165 (mkL (tabC T123) an165 [] (ac165.body 0)) (ac165.body 0) sk165_0 ou165_0)
noncomputable def lg165_0 (v_client : Int) (v_call : Int) (v_i : Int) (v_b0_0 : Int) (v_b0_1 : Int) (v_b0_2 : Int) (v_b0_3 : List (DMapDisk)) (v_b0_4 : List (DMapView)) (v_b0_5 : List (DMapDone)) : Option (Sum (Unit) (Sum (Bool × Unit) (Empty))) := lf165_0 (v_client, v_call, v_i, v_b0_0, v_b0_1, v_b0_2, v_b0_3, v_b0_4, v_b0_5, ())
theorem lg165_0_eq (v_client : Int) (v_call : Int) (v_i : Int) (v_b0_0 : Int) (v_b0_1 : Int) (v_b0_2 : Int) (v_b0_3 : List (DMapDisk)) (v_b0_4 : List (DMapView)) (v_b0_5 : List (DMapDone)) : (lg165_0 v_client v_call v_i v_b0_0 v_b0_1 v_b0_2 v_b0_3 v_b0_4 v_b0_5) = (br (decide (v_i < ((v_b0_3.length : Nat) : Int))) (chk (decide (0 ≤ v_i ∧ v_i < ((v_b0_3.length : Nat) : Int))) (let e2 : DMapDisk := (v_b0_3.getD v_i.toNat ((0 : Int), (0 : Int), (0 : Int), (0 : Int), (0 : Int), (0 : Int), [], ())); (chk ((decide (0 ≤ v_i ∧ v_i < ((v_b0_3.length : Nat) : Int))) || (!(e2.2.2.2.1 != (0 : Int)))) (let e3 : DMapDisk := (v_b0_3.getD v_i.toNat ((0 : Int), (0 : Int), (0 : Int), (0 : Int), (0 : Int), (0 : Int), [], ())); (chk ((decide (0 ≤ v_i ∧ v_i < ((v_b0_3.length : Nat) : Int))) || (!((e2.2.2.2.1 != (0 : Int)) && (e3.2.2.2.2.1 == v_client)))) (let e4 : DMapDisk := (v_b0_3.getD v_i.toNat ((0 : Int), (0 : Int), (0 : Int), (0 : Int), (0 : Int), (0 : Int), [], ())); (br (((e2.2.2.2.1 != (0 : Int)) && (e3.2.2.2.2.1 == v_client)) && (decide (e4.2.2.2.2.2.1 ≥ v_call))) (some (.inr (.inl (true, ())))) (lg165_0 v_client v_call (IntKind.i64.wrap (v_i + (1 : Int))) v_b0_0 v_b0_1 v_b0_2 v_b0_3 v_b0_4 v_b0_5)))))))) (some (.inl (())))) :=
  (show lf165_0 (v_client, v_call, v_i, v_b0_0, v_b0_1, v_b0_2, v_b0_3, v_b0_4, v_b0_5, ()) = _ from lfp_eq (fun x => vround_lin _ _ _ _ x) _).trans (by kernel_rfl)
noncomputable def G165 (a_m0 : Int) (a_m1 : Int) (a_m2 : Int) (a_m3 : List (DMapDisk)) (a_m4 : List (DMapView)) (a_m5 : List (DMapDone)) (a_client : Int) (a_call : Int) : Option (Bool × Unit) := F165 (a_m0, a_m1, a_m2, a_m3, a_m4, a_m5, a_client, a_call, ())
theorem G165_eq (a_m0 : Int) (a_m1 : Int) (a_m2 : Int) (a_m3 : List (DMapDisk)) (a_m4 : List (DMapView)) (a_m5 : List (DMapDone)) (a_client : Int) (a_call : Int) : (G165 a_m0 a_m1 a_m2 a_m3 a_m4 a_m5 a_client a_call) = ((G188 a_m0 a_m1 a_m2 a_m3 a_m4 a_m5 a_client).bind fun (y1 : DMapDone) => (br ((decide (y1.2.1 > (0 : Int))) && ((decide (y1.2.1 > a_call)) || ((y1.2.1 == a_call) && (y1.2.2.1 != (6 : Int))))) (some (true, ())) ((lg165_0 a_client a_call (0 : Int) a_m0 a_m1 a_m2 a_m3 a_m4 a_m5).bind fun o => match o with | .inl (y5 : Unit) => (some (false, ())) | .inr (.inl (y6 : Bool × Unit)) => (some (y6.1, ()))))) := by kernel_rfl
noncomputable def ac166 : ACode := acOf Try.prog 166
theorem gd166 : Good Try.prog (166, ac166, [.cell 4 true 6], 45) := ⟨_, Try.func166, by kernel_rfl, by kernel_rfl, by kernel_rfl, by kernel_rfl⟩
/- spec.l31Create -/
def an166 : List (Nat × An) := [(28, .ty MapDisk)]
def S166 : List (Skel × List (Option Nat × Skel)) := []
def ps166 : List PK := [⟨some .A, true, MapState, false⟩, ⟨none, true, Cmd, false⟩]
def rs166 : List PK := [⟨some .A, true, MapState, false⟩]
noncomputable def F166 := FN (tabC T165) an166 S166 ac166 [.cell 4 true 6] 45 false 1 ps166 rs166
noncomputable def T166 : List (FuncId × Ctr) := (166, ⟨false, false, 1, ps166, rs166, F166⟩) :: T165
theorem hT166 : AllC Try.prog T166 := AllC.own (an := an166) (S := S166) (ps := ps166) (rs := rs166) hT165 gd166 (by kernel_rfl)
noncomputable def G166 (a_m0 : Int) (a_m1 : Int) (a_m2 : Int) (a_m3 : List (DMapDisk)) (a_m4 : List (DMapView)) (a_m5 : List (DMapDone)) (a_c0 : Int) (a_c1 : Int) (a_c2 : Int) (a_c3 : Int) (a_c4 : Int) (a_c5 : Int) (a_c6 : Int) (a_c7 : Int) (a_c8 : Int) (a_c9 : Int) : Option (DMapState) := F166 (a_m0, a_m1, a_m2, a_m3, a_m4, a_m5, a_c0, a_c1, a_c2, a_c3, a_c4, a_c5, a_c6, a_c7, a_c8, a_c9, ())
theorem G166_eq (a_m0 : Int) (a_m1 : Int) (a_m2 : Int) (a_m3 : List (DMapDisk)) (a_m4 : List (DMapView)) (a_m5 : List (DMapDone)) (a_c0 : Int) (a_c1 : Int) (a_c2 : Int) (a_c3 : Int) (a_c4 : Int) (a_c5 : Int) (a_c6 : Int) (a_c7 : Int) (a_c8 : Int) (a_c9 : Int) : (G166 a_m0 a_m1 a_m2 a_m3 a_m4 a_m5 a_c0 a_c1 a_c2 a_c3 a_c4 a_c5 a_c6 a_c7 a_c8 a_c9) = (br ((!(f56 a_c4 (1 : Int) (8 : Int))) || (decide (a_m2 > (4 : Int)))) ((G168 a_m0 a_m1 a_m2 a_m3 a_m4 a_m5 a_c1 a_c2 (4 : Int) (0 : Int)).bind fun (y1 : DMapState) => (some (y1.1, y1.2.1, y1.2.2.1, y1.2.2.2.1, y1.2.2.2.2.1, y1.2.2.2.2.2.1, ()))) (chk (capOk (a_m3.length + (1)) 72) ((G168 a_m0 a_m1 (IntKind.i64.wrap (a_m2 + (1 : Int))) (a_m3 ++ [(a_m2, a_c4, (1 : Int), (0 : Int), (0 : Int), (0 : Int), [], ())]) a_m4 a_m5 a_c1 a_c2 (0 : Int) (IntKind.i64.wrap ((IntKind.i64.wrap (a_m2 + (1 : Int))) - (1 : Int)))).bind fun (y2 : DMapState) => (some (y2.1, y2.2.1, y2.2.2.1, y2.2.2.2.1, y2.2.2.2.2.1, y2.2.2.2.2.2.1, ()))))) := by kernel_rfl
noncomputable def ac167 : ACode := acOf Try.prog 167
theorem gd167 : Good Try.prog (167, ac167, [.cell 6 true 6], 56) := ⟨_, Try.func167, by kernel_rfl, by kernel_rfl, by kernel_rfl, by kernel_rfl⟩
/- spec.l31Freeze -/
def an167 : List (Nat × An) := []
def S167 : List (Skel × List (Option Nat × Skel)) := []
def ps167 : List PK := [⟨some .A, true, MapState, false⟩, ⟨none, true, Cmd, false⟩, ⟨none, false, [I], false⟩]
def rs167 : List PK := [⟨some .A, true, MapState, false⟩]
noncomputable def F167 := FN (tabC T166) an167 S167 ac167 [.cell 6 true 6] 56 false 1 ps167 rs167
noncomputable def T167 : List (FuncId × Ctr) := (167, ⟨false, false, 1, ps167, rs167, F167⟩) :: T166
theorem hT167 : AllC Try.prog T167 := AllC.own (an := an167) (S := S167) (ps := ps167) (rs := rs167) hT166 gd167 (by kernel_rfl)
noncomputable def G167 (a_m0 : Int) (a_m1 : Int) (a_m2 : Int) (a_m3 : List (DMapDisk)) (a_m4 : List (DMapView)) (a_m5 : List (DMapDone)) (a_c0 : Int) (a_c1 : Int) (a_c2 : Int) (a_c3 : Int) (a_c4 : Int) (a_c5 : Int) (a_c6 : Int) (a_c7 : Int) (a_c8 : Int) (a_c9 : Int) (a_why : Int) : Option (DMapState) := F167 (a_m0, a_m1, a_m2, a_m3, a_m4, a_m5, a_c0, a_c1, a_c2, a_c3, a_c4, a_c5, a_c6, a_c7, a_c8, a_c9, a_why, ())
theorem G167_eq (a_m0 : Int) (a_m1 : Int) (a_m2 : Int) (a_m3 : List (DMapDisk)) (a_m4 : List (DMapView)) (a_m5 : List (DMapDone)) (a_c0 : Int) (a_c1 : Int) (a_c2 : Int) (a_c3 : Int) (a_c4 : Int) (a_c5 : Int) (a_c6 : Int) (a_c7 : Int) (a_c8 : Int) (a_c9 : Int) (a_why : Int) : (G167 a_m0 a_m1 a_m2 a_m3 a_m4 a_m5 a_c0 a_c1 a_c2 a_c3 a_c4 a_c5 a_c6 a_c7 a_c8 a_c9 a_why) = ((G104 a_m0 a_m1 a_m2 a_m3 a_m4 a_m5 a_c3).bind fun (y1 : Int × Unit) => (br (decide (y1.1 < (0 : Int))) ((G168 a_m0 a_m1 a_m2 a_m3 a_m4 a_m5 a_c1 a_c2 (1 : Int) (0 : Int)).bind fun (y2 : DMapState) => (some (y2.1, y2.2.1, y2.2.2.1, y2.2.2.2.1, y2.2.2.2.2.1, y2.2.2.2.2.2.1, ()))) (chk (decide (0 ≤ y1.1 ∧ y1.1 < ((a_m3.length : Nat) : Int))) (let e3 : DMapDisk := (a_m3.getD y1.1.toNat ((0 : Int), (0 : Int), (0 : Int), (0 : Int), (0 : Int), (0 : Int), [], ())); (br (e3.2.2.2.1 != (0 : Int)) ((G168 a_m0 a_m1 a_m2 a_m3 a_m4 a_m5 a_c1 a_c2 (5 : Int) (0 : Int)).bind fun (y4 : DMapState) => (some (y4.1, y4.2.1, y4.2.2.1, y4.2.2.2.1, y4.2.2.2.2.1, y4.2.2.2.2.2.1, ()))) (chk (decide (0 ≤ y1.1 ∧ y1.1 < ((a_m3.length : Nat) : Int))) (let e5 : DMapDisk := (a_m3.getD y1.1.toNat ((0 : Int), (0 : Int), (0 : Int), (0 : Int), (0 : Int), (0 : Int), [], ())); (let e6 : List (DMapDisk) := (a_m3.set y1.1.toNat (e5.1, e5.2.1, e5.2.2.1, a_why, e5.2.2.2.2.1, e5.2.2.2.2.2.1, e5.2.2.2.2.2.2.1, ())); (chk (decide (0 ≤ y1.1 ∧ y1.1 < ((e6.length : Nat) : Int))) (let e7 : DMapDisk := (e6.getD y1.1.toNat ((0 : Int), (0 : Int), (0 : Int), (0 : Int), (0 : Int), (0 : Int), [], ())); (let e8 : List (DMapDisk) := (e6.set y1.1.toNat (e7.1, e7.2.1, e7.2.2.1, e7.2.2.2.1, a_c1, e7.2.2.2.2.2.1, e7.2.2.2.2.2.2.1, ())); (chk (decide (0 ≤ y1.1 ∧ y1.1 < ((e8.length : Nat) : Int))) (let e9 : DMapDisk := (e8.getD y1.1.toNat ((0 : Int), (0 : Int), (0 : Int), (0 : Int), (0 : Int), (0 : Int), [], ())); (let e10 : List (DMapDisk) := (e8.set y1.1.toNat (e9.1, e9.2.1, e9.2.2.1, e9.2.2.2.1, e9.2.2.2.2.1, a_c2, e9.2.2.2.2.2.2.1, ())); (some (a_m0, a_m1, a_m2, e10, a_m4, a_m5, ())))))))))))))))) := by kernel_rfl
noncomputable def ac36 : ACode := acOf Try.prog 36
theorem gd36 : Good Try.prog (36, ac36, [.tmp 10], 51) := ⟨_, Try.func36, by kernel_rfl, by kernel_rfl, by kernel_rfl, by kernel_rfl⟩
/- spec.MapJudge -/
def an36 : List (Nat × An) := []
def S36 : List (Skel × List (Option Nat × Skel)) := []
def ps36 : List PK := [⟨none, true, MapState, false⟩, ⟨none, false, [I], false⟩, ⟨none, false, [I], false⟩, ⟨none, false, [I], false⟩, ⟨none, false, [.bool], false⟩]
def rs36 : List PK := [⟨some .S, false, [I], false⟩]
noncomputable def F36 := FN (tabC T167) an36 S36 ac36 [.tmp 10] 51 false 1 ps36 rs36
noncomputable def T36 : List (FuncId × Ctr) := (36, ⟨true, false, 1, ps36, rs36, F36⟩) :: T167
theorem hT36 : AllC Try.prog T36 := AllC.fresh (an := an36) (S := S36) (ps := ps36) (rs := rs36) hT167 gd36 (by kernel_rfl)
noncomputable def G36 (a_m0 : Int) (a_m1 : Int) (a_m2 : Int) (a_m3 : List (DMapDisk)) (a_m4 : List (DMapView)) (a_m5 : List (DMapDone)) (a_disk : Int) (a_block : Int) (a_epoch : Int) (a_write : Bool) : Option (Int × Unit) := F36 (a_m0, a_m1, a_m2, a_m3, a_m4, a_m5, a_disk, a_block, a_epoch, a_write, ())
theorem G36_eq (a_m0 : Int) (a_m1 : Int) (a_m2 : Int) (a_m3 : List (DMapDisk)) (a_m4 : List (DMapView)) (a_m5 : List (DMapDone)) (a_disk : Int) (a_block : Int) (a_epoch : Int) (a_write : Bool) : (G36 a_m0 a_m1 a_m2 a_m3 a_m4 a_m5 a_disk a_block a_epoch a_write) = ((G33 a_m0 a_m1 a_m2 a_m3 a_m4 a_m5).bind fun (y1 : Bool × Unit) => (br (!y1.1) (some ((1 : Int), ())) ((G104 a_m0 a_m1 a_m2 a_m3 a_m4 a_m5 a_disk).bind fun (y2 : Int × Unit) => (br (decide (y2.1 < (0 : Int))) (some ((1 : Int), ())) (chk (decide (0 ≤ y2.1 ∧ y2.1 < ((a_m3.length : Nat) : Int))) (let e3 : DMapDisk := (a_m3.getD y2.1.toNat ((0 : Int), (0 : Int), (0 : Int), (0 : Int), (0 : Int), (0 : Int), [], ())); (br (!(f56 a_block (0 : Int) (IntKind.i64.wrap (e3.2.1 - (1 : Int))))) (some ((2 : Int), ())) (chk ((decide (0 ≤ y2.1 ∧ y2.1 < ((a_m3.length : Nat) : Int))) || (!((!a_write) && (a_epoch != (0 : Int))))) (let e4 : DMapDisk := (a_m3.getD y2.1.toNat ((0 : Int), (0 : Int), (0 : Int), (0 : Int), (0 : Int), (0 : Int), [], ())); (br (((!a_write) && (a_epoch != (0 : Int))) && (!(f56 a_epoch (1 : Int) (IntKind.i64.wrap (e4.2.2.1 - (1 : Int)))))) (some ((3 : Int), ())) (some ((0 : Int), ())))))))))))) := by kernel_rfl
noncomputable def ac124 : ACode := acOf Try.prog 124
theorem gd124 : Good Try.prog (124, ac124, [.cell 4 true 6], 109) := ⟨_, Try.func124, by kernel_rfl, by kernel_rfl, by kernel_rfl, by kernel_rfl⟩
/- spec.l31Admin -/
def an124 : List (Nat × An) := []
def S124 : List (Skel × List (Option Nat × Skel)) := []
def ps124 : List PK := [⟨some .A, true, MapState, false⟩, ⟨none, true, Cmd, false⟩]
def rs124 : List PK := [⟨some .A, true, MapState, false⟩]
noncomputable def F124 := FN (tabC T36) an124 S124 ac124 [.cell 4 true 6] 109 false 1 ps124 rs124
noncomputable def T124 : List (FuncId × Ctr) := (124, ⟨false, false, 1, ps124, rs124, F124⟩) :: T36
theorem hT124 : AllC Try.prog T124 := AllC.own (an := an124) (S := S124) (ps := ps124) (rs := rs124) hT36 gd124 (by kernel_rfl)
noncomputable def G124 (a_m0 : Int) (a_m1 : Int) (a_m2 : Int) (a_m3 : List (DMapDisk)) (a_m4 : List (DMapView)) (a_m5 : List (DMapDone)) (a_c0 : Int) (a_c1 : Int) (a_c2 : Int) (a_c3 : Int) (a_c4 : Int) (a_c5 : Int) (a_c6 : Int) (a_c7 : Int) (a_c8 : Int) (a_c9 : Int) : Option (DMapState) := F124 (a_m0, a_m1, a_m2, a_m3, a_m4, a_m5, a_c0, a_c1, a_c2, a_c3, a_c4, a_c5, a_c6, a_c7, a_c8, a_c9, ())
theorem G124_eq (a_m0 : Int) (a_m1 : Int) (a_m2 : Int) (a_m3 : List (DMapDisk)) (a_m4 : List (DMapView)) (a_m5 : List (DMapDone)) (a_c0 : Int) (a_c1 : Int) (a_c2 : Int) (a_c3 : Int) (a_c4 : Int) (a_c5 : Int) (a_c6 : Int) (a_c7 : Int) (a_c8 : Int) (a_c9 : Int) : (G124 a_m0 a_m1 a_m2 a_m3 a_m4 a_m5 a_c0 a_c1 a_c2 a_c3 a_c4 a_c5 a_c6 a_c7 a_c8 a_c9) = (chk ((G165 a_m0 a_m1 a_m2 a_m3 a_m4 a_m5 a_c1 a_c2).isSome || (!(!((!(f56 a_c1 (0 : Int) (3 : Int))) || (decide (a_c2 < (1 : Int))))))) (br (((!(f56 a_c1 (0 : Int) (3 : Int))) || (decide (a_c2 < (1 : Int)))) || ((G165 a_m0 a_m1 a_m2 a_m3 a_m4 a_m5 a_c1 a_c2).getD (false, ())).1) (some (a_m0, a_m1, a_m2, a_m3, a_m4, a_m5, ())) (br (a_c0 == (1 : Int)) ((G166 a_m0 a_m1 a_m2 a_m3 a_m4 a_m5 a_c0 a_c1 a_c2 a_c3 a_c4 a_c5 a_c6 a_c7 a_c8 a_c9).bind fun (y1 : DMapState) => (some (y1.1, y1.2.1, y1.2.2.1, y1.2.2.2.1, y1.2.2.2.2.1, y1.2.2.2.2.2.1, ()))) (br (a_c0 == (2 : Int)) ((G167 a_m0 a_m1 a_m2 a_m3 a_m4 a_m5 a_c0 a_c1 a_c2 a_c3 a_c4 a_c5 a_c6 a_c7 a_c8 a_c9 (1 : Int)).bind fun (y2 : DMapState) => (some (y2.1, y2.2.1, y2.2.2.1, y2.2.2.2.1, y2.2.2.2.2.1, y2.2.2.2.2.2.1, ()))) (br (a_c0 == (3 : Int)) ((G167 a_m0 a_m1 a_m2 a_m3 a_m4 a_m5 a_c0 a_c1 a_c2 a_c3 a_c4 a_c5 a_c6 a_c7 a_c8 a_c9 (2 : Int)).bind fun (y3 : DMapState) => (some (y3.1, y3.2.1, y3.2.2.1, y3.2.2.2.1, y3.2.2.2.2.1, y3.2.2.2.2.2.1, ()))) (br (a_c0 == (4 : Int)) (br (decide (a_m1 ≥ (5 : Int))) ((G168 a_m0 a_m1 a_m2 a_m3 a_m4 a_m5 a_c1 a_c2 (4 : Int) (0 : Int)).bind fun (y4 : DMapState) => (some (y4.1, y4.2.1, y4.2.2.1, y4.2.2.2.1, y4.2.2.2.2.1, y4.2.2.2.2.2.1, ()))) ((G168 a_m0 (IntKind.i64.wrap (a_m1 + (1 : Int))) a_m2 a_m3 a_m4 a_m5 a_c1 a_c2 (0 : Int) (IntKind.i64.wrap (a_m1 + (1 : Int)))).bind fun (y5 : DMapState) => (some (y5.1, y5.2.1, y5.2.2.1, y5.2.2.2.1, y5.2.2.2.2.1, y5.2.2.2.2.2.1, ())))) (chk ((decide (0 ≤ a_c6 ∧ a_c6 < ((a_m4.length : Nat) : Int))) || (!((a_c8 == (1 : Int)) && (!(!(f56 a_c6 (0 : Int) (2 : Int))))))) (let e6 : DMapView := (a_m4.getD a_c6.toNat ((0 : Int), (0 : Int), (0 : Int), ())); (br ((a_c8 == (1 : Int)) && ((!(f56 a_c6 (0 : Int) (2 : Int))) || (e6.1 != a_c7))) (some (a_m0, a_m1, a_m2, a_m3, a_m4, a_m5, ())) ((G36 a_m0 a_m1 a_m2 a_m3 a_m4 a_m5 a_c3 a_c4 a_c5 (a_c8 == (1 : Int))).bind fun (y7 : Int × Unit) => (let k10 := fun (v8 : Int) => ((G168 a_m0 a_m1 a_m2 a_m3 a_m4 a_m5 a_c1 a_c2 v8 (0 : Int)).bind fun (y9 : DMapState) => (some (y9.1, y9.2.1, y9.2.2.1, y9.2.2.2.1, y9.2.2.2.2.1, y9.2.2.2.2.2.1, ()))); (br (y7.1 == (0 : Int)) (k10 (6 : Int)) (k10 y7.1))))))))))))) := by kernel_rfl
noncomputable def ac48 : ACode := acOf Try.prog 48
theorem gd48 : Good Try.prog (48, ac48, [.cell 4 true 6], 48) := ⟨_, Try.func48, by kernel_rfl, by kernel_rfl, by kernel_rfl, by kernel_rfl⟩
/- spec.MapDo -/
def an48 : List (Nat × An) := [(15, .rows), (47, .rows)]
def S48 : List (Skel × List (Option Nat × Skel)) := []
def ps48 : List PK := [⟨none, true, MapState, false⟩, ⟨none, true, Cmd, false⟩]
def rs48 : List PK := [⟨some .S, true, MapState, false⟩]
noncomputable def F48 := FN (tabC T124) an48 S48 ac48 [.cell 4 true 6] 48 false 1 ps48 rs48
noncomputable def T48 : List (FuncId × Ctr) := (48, ⟨true, false, 1, ps48, rs48, F48⟩) :: T124
theorem hT48 : AllC Try.prog T48 := AllC.fresh (an := an48) (S := S48) (ps := ps48) (rs := rs48) hT124 gd48 (by kernel_rfl)
noncomputable def G48 (a_m0 : Int) (a_m1 : Int) (a_m2 : Int) (a_m3 : List (DMapDisk)) (a_m4 : List (DMapView)) (a_m5 : List (DMapDone)) (a_c0 : Int) (a_c1 : Int) (a_c2 : Int) (a_c3 : Int) (a_c4 : Int) (a_c5 : Int) (a_c6 : Int) (a_c7 : Int) (a_c8 : Int) (a_c9 : Int) : Option (DMapState) := F48 (a_m0, a_m1, a_m2, a_m3, a_m4, a_m5, a_c0, a_c1, a_c2, a_c3, a_c4, a_c5, a_c6, a_c7, a_c8, a_c9, ())
theorem G48_eq (a_m0 : Int) (a_m1 : Int) (a_m2 : Int) (a_m3 : List (DMapDisk)) (a_m4 : List (DMapView)) (a_m5 : List (DMapDone)) (a_c0 : Int) (a_c1 : Int) (a_c2 : Int) (a_c3 : Int) (a_c4 : Int) (a_c5 : Int) (a_c6 : Int) (a_c7 : Int) (a_c8 : Int) (a_c9 : Int) : (G48 a_m0 a_m1 a_m2 a_m3 a_m4 a_m5 a_c0 a_c1 a_c2 a_c3 a_c4 a_c5 a_c6 a_c7 a_c8 a_c9) = ((G33 a_m0 a_m1 a_m2 a_m3 a_m4 a_m5).bind fun (y1 : Bool × Unit) => (br ((!y1.1) || (decide (a_m0 ≥ (60 : Int)))) (some ((0 : Int), (0 : Int), (0 : Int), [], [], [], ())) ((G121 a_m0 a_m1 a_m2 a_m3 a_m4 a_m5).bind fun (y2 : DMapState) => (br (!(f74 a_c0 a_c1 a_c2 a_c3 a_c4 a_c5 a_c6 a_c7 a_c8 a_c9)) (some ((IntKind.i64.wrap (y2.1 + (1 : Int))), y2.2.1, y2.2.2.1, y2.2.2.2.1, y2.2.2.2.2.1, y2.2.2.2.2.2.1, ())) (br (a_c0 == (5 : Int)) ((G122 (IntKind.i64.wrap (y2.1 + (1 : Int))) y2.2.1 y2.2.2.1 y2.2.2.2.1 y2.2.2.2.2.1 y2.2.2.2.2.2.1 a_c0 a_c1 a_c2 a_c3 a_c4 a_c5 a_c6 a_c7 a_c8 a_c9).bind fun (y3 : DMapState) => ((G121 y3.1 y3.2.1 y3.2.2.1 y3.2.2.2.1 y3.2.2.2.2.1 y3.2.2.2.2.2.1).bind fun (y6 : DMapState) => (some (y6.1, y6.2.1, y6.2.2.1, y6.2.2.2.1, y6.2.2.2.2.1, y6.2.2.2.2.2.1, ())))) (br (a_c0 == (6 : Int)) ((G123 (IntKind.i64.wrap (y2.1 + (1 : Int))) y2.2.1 y2.2.2.1 y2.2.2.2.1 y2.2.2.2.2.1 y2.2.2.2.2.2.1 a_c0 a_c1 a_c2 a_c3 a_c4 a_c5 a_c6 a_c7 a_c8 a_c9).bind fun (y4 : DMapState) => ((G121 y4.1 y4.2.1 y4.2.2.1 y4.2.2.2.1 y4.2.2.2.2.1 y4.2.2.2.2.2.1).bind fun (y7 : DMapState) => (some (y7.1, y7.2.1, y7.2.2.1, y7.2.2.2.1, y7.2.2.2.2.1, y7.2.2.2.2.2.1, ())))) (br (a_c0 != (0 : Int)) ((G124 (IntKind.i64.wrap (y2.1 + (1 : Int))) y2.2.1 y2.2.2.1 y2.2.2.2.1 y2.2.2.2.2.1 y2.2.2.2.2.2.1 a_c0 a_c1 a_c2 a_c3 a_c4 a_c5 a_c6 a_c7 a_c8 a_c9).bind fun (y5 : DMapState) => ((G121 y5.1 y5.2.1 y5.2.2.1 y5.2.2.2.1 y5.2.2.2.2.1 y5.2.2.2.2.2.1).bind fun (y8 : DMapState) => (some (y8.1, y8.2.1, y8.2.2.1, y8.2.2.2.1, y8.2.2.2.2.1, y8.2.2.2.2.2.1, ())))) ((G121 (IntKind.i64.wrap (y2.1 + (1 : Int))) y2.2.1 y2.2.2.1 y2.2.2.2.1 y2.2.2.2.2.1 y2.2.2.2.2.2.1).bind fun (y9 : DMapState) => (some (y9.1, y9.2.1, y9.2.2.1, y9.2.2.2.1, y9.2.2.2.2.1, y9.2.2.2.2.2.1, ())))))))))) := by kernel_rfl
noncomputable def ac39 : ACode := acOf Try.prog 39
theorem gd39 : Good Try.prog (39, ac39, [.cell 2 true 6], 23) := ⟨_, Try.func39, by kernel_rfl, by kernel_rfl, by kernel_rfl, by kernel_rfl⟩
/- spec.MapOf -/
def sk39_0 : Skel := ⟨mkE 23 [(0, .lst Cmd), (2, .box 0 0), (3, .box 1 0), (4, .int .i64)], [some [.int .i64, .int .i64, .int .i64, .nil, .nil, .nil], some [.int .i64, .int .i64, .int .i64, .lst MapDisk, .lst MapView, .lst MapDone]], [], 0⟩
def ou39_0 : List (Option Nat × Skel) := [(some 0, ⟨mkE 23 [(2, .box 0 0), (3, .box 1 0)], [some [.int .i64, .int .i64, .int .i64, .nil, .nil, .nil], some [.int .i64, .int .i64, .int .i64, .lst MapDisk, .lst MapView, .lst MapDone]], [], 0⟩)]
def an39 : List (Nat × An) := []
def S39 : List (Skel × List (Option Nat × Skel)) := [(sk39_0, ou39_0)]
def ps39 : List PK := [⟨none, false, [(.sl Cmd)], false⟩]
def rs39 : List PK := [⟨none, true, MapState, false⟩]
noncomputable def F39 := FN (tabC T48) an39 S39 ac39 [.cell 2 true 6] 23 false 1 ps39 rs39
noncomputable def T39 : List (FuncId × Ctr) := (39, ⟨false, false, 1, ps39, rs39, F39⟩) :: T48
theorem hT39 : AllC Try.prog T39 := AllC.own (an := an39) (S := S39) (ps := ps39) (rs := rs39) hT48 gd39 (by kernel_rfl)
noncomputable def lf39_0 : (List (DCmd)) × Int × Int × Int × Int × Int × Int × Int × (List (DMapDisk)) × (List (DMapView)) × (List (DMapDone)) × Unit → Option (Outs ou39_0) := lfp (vround (tabC T48) an39 (mkL (tabC T48) an39 [] (ac39.body 0)) (ac39.body 0) sk39_0 ou39_0)
noncomputable def lg39_0 (v_list : List (DCmd)) (v_i : Int) (v_b0_0 : Int) (v_b0_1 : Int) (v_b0_2 : Int) (v_b1_0 : Int) (v_b1_1 : Int) (v_b1_2 : Int) (v_b1_3 : List (DMapDisk)) (v_b1_4 : List (DMapView)) (v_b1_5 : List (DMapDone)) : Option (Sum (Int × Int × Int × Int × Int × Int × (List (DMapDisk)) × (List (DMapView)) × (List (DMapDone)) × Unit) (Empty)) := lf39_0 (v_list, v_i, v_b0_0, v_b0_1, v_b0_2, v_b1_0, v_b1_1, v_b1_2, v_b1_3, v_b1_4, v_b1_5, ())
theorem lg39_0_eq (v_list : List (DCmd)) (v_i : Int) (v_b0_0 : Int) (v_b0_1 : Int) (v_b0_2 : Int) (v_b1_0 : Int) (v_b1_1 : Int) (v_b1_2 : Int) (v_b1_3 : List (DMapDisk)) (v_b1_4 : List (DMapView)) (v_b1_5 : List (DMapDone)) : (lg39_0 v_list v_i v_b0_0 v_b0_1 v_b0_2 v_b1_0 v_b1_1 v_b1_2 v_b1_3 v_b1_4 v_b1_5) = (br (decide (v_i < ((v_list.length : Nat) : Int))) (chk (decide (0 ≤ v_i ∧ v_i < ((v_list.length : Nat) : Int))) (let e2 : DCmd := (v_list.getD v_i.toNat ((0 : Int), (0 : Int), (0 : Int), (0 : Int), (0 : Int), (0 : Int), (0 : Int), (0 : Int), (0 : Int), (0 : Int), ())); ((G48 v_b1_0 v_b1_1 v_b1_2 v_b1_3 v_b1_4 v_b1_5 e2.1 e2.2.1 e2.2.2.1 e2.2.2.2.1 e2.2.2.2.2.1 e2.2.2.2.2.2.1 e2.2.2.2.2.2.2.1 e2.2.2.2.2.2.2.2.1 e2.2.2.2.2.2.2.2.2.1 e2.2.2.2.2.2.2.2.2.2.1).bind fun (y3 : DMapState) => (lg39_0 v_list (IntKind.i64.wrap (v_i + (1 : Int))) v_b0_0 v_b0_1 v_b0_2 y3.1 y3.2.1 y3.2.2.1 y3.2.2.2.1 y3.2.2.2.2.1 y3.2.2.2.2.2.1)))) (some (.inl (v_b0_0, v_b0_1, v_b0_2, v_b1_0, v_b1_1, v_b1_2, v_b1_3, v_b1_4, v_b1_5, ())))) :=
  (show lf39_0 (v_list, v_i, v_b0_0, v_b0_1, v_b0_2, v_b1_0, v_b1_1, v_b1_2, v_b1_3, v_b1_4, v_b1_5, ()) = _ from lfp_eq (fun x => vround_lin _ _ _ _ x) _).trans (by kernel_rfl)
noncomputable def G39 (a_list : List (DCmd)) : Option (DMapState) := F39 (a_list, ())
theorem G39_eq (a_list : List (DCmd)) : (G39 a_list) = ((G106).bind fun (y1 : DMapState) => (br (decide (((a_list.length : Nat) : Int) > (60 : Int))) (some ((0 : Int), (0 : Int), (0 : Int), [], [], [], ())) ((lg39_0 a_list (0 : Int) (0 : Int) (0 : Int) (0 : Int) y1.1 y1.2.1 y1.2.2.1 y1.2.2.2.1 y1.2.2.2.2.1 y1.2.2.2.2.2.1).bind fun o => match o with | .inl (y4 : Int × Int × Int × Int × Int × Int × (List (DMapDisk)) × (List (DMapView)) × (List (DMapDone)) × Unit) => (some (y4.2.2.2.1, y4.2.2.2.2.1, y4.2.2.2.2.2.1, y4.2.2.2.2.2.2.1, y4.2.2.2.2.2.2.2.1, y4.2.2.2.2.2.2.2.2.1, ()))))) := by kernel_rfl
noncomputable def ac175 : ACode := acOf Try.prog 175
theorem gd175 : Good Try.prog (175, ac175, [.tmp 2], 14) := ⟨_, Try.func175, by kernel_rfl, by kernel_rfl, by kernel_rfl, by kernel_rfl⟩
/- impl.copied[impl.MapDisk] -/
def an175 : List (Nat × An) := [(9, .ty MapDisk)]
def S175 : List (Skel × List (Option Nat × Skel)) := []
def ps175 : List PK := [⟨none, false, [(.sl MapDisk)], false⟩]
def rs175 : List PK := [⟨some .L, false, [(.sl MapDisk)], false⟩]
noncomputable def F175 := FN (tabC T39) an175 S175 ac175 [.tmp 2] 14 false 1 ps175 rs175
noncomputable def T175 : List (FuncId × Ctr) := (175, ⟨false, false, 1, ps175, rs175, F175⟩) :: T39
theorem hT175 : AllC Try.prog T175 := AllC.own (an := an175) (S := S175) (ps := ps175) (rs := rs175) hT39 gd175 (by kernel_rfl)
noncomputable def G175 (a_list : List (DMapDisk)) : Option ((List (DMapDisk)) × Unit) := F175 (a_list, ())
theorem G175_eq (a_list : List (DMapDisk)) : (G175 a_list) = (br (((a_list.length : Nat) : Int) == (0 : Int)) (some ([], ())) (chk (decide (0 ≤ ((a_list.length : Nat) : Int) ∧ ((72 : Nat) : Int) * ((a_list.length : Nat) : Int) ≤ 281474976710656 ∧ ((a_list.length : Nat) : Int) ≤ 281474976710656)) (some ((a_list.take (min a_list.length ((List.replicate ((a_list.length : Nat) : Int).toNat (((0 : Int), (0 : Int), (0 : Int), (0 : Int), (0 : Int), (0 : Int), [], ()) : DMapDisk))).length) ++ (List.replicate ((a_list.length : Nat) : Int).toNat (((0 : Int), (0 : Int), (0 : Int), (0 : Int), (0 : Int), (0 : Int), [], ()) : DMapDisk)).drop (min a_list.length ((List.replicate ((a_list.length : Nat) : Int).toNat (((0 : Int), (0 : Int), (0 : Int), (0 : Int), (0 : Int), (0 : Int), [], ()) : DMapDisk))).length)), ())))) := by kernel_rfl
noncomputable def ac176 : ACode := acOf Try.prog 176
theorem gd176 : Good Try.prog (176, ac176, [.tmp 2], 14) := ⟨_, Try.func176, by kernel_rfl, by kernel_rfl, by kernel_rfl, by kernel_rfl⟩
/- impl.copied[int] -/
def an176 : List (Nat × An) := []
def S176 : List (Skel × List (Option Nat × Skel)) := []
def ps176 : List PK := [⟨none, false, [(.sl [I])], false⟩]
def rs176 : List PK := [⟨some .S, false, [(.sl [I])], false⟩]
noncomputable def F176 := FN (tabC T175) an176 S176 ac176 [.tmp 2] 14 false 1 ps176 rs176
noncomputable def T176 : List (FuncId × Ctr) := (176, ⟨true, false, 1, ps176, rs176, F176⟩) :: T175
theorem hT176 : AllC Try.prog T176 := AllC.fresh (an := an176) (S := S176) (ps := ps176) (rs := rs176) hT175 gd176 (by kernel_rfl)
noncomputable def G176 (a_list : List (Int × Unit)) : Option ((List (Int × Unit)) × Unit) := F176 (a_list, ())
theorem G176_eq (a_list : List (Int × Unit)) : (G176 a_list) = (br (((a_list.length : Nat) : Int) == (0 : Int)) (some ([], ())) (chk (decide (0 ≤ ((a_list.length : Nat) : Int) ∧ ((8 : Nat) : Int) * ((a_list.length : Nat) : Int) ≤ 281474976710656 ∧ ((a_list.length : Nat) : Int) ≤ 281474976710656)) (some ((a_list.take (min a_list.length ((List.replicate ((a_list.length : Nat) : Int).toNat (((0 : Int), ()) : Int × Unit))).length) ++ (List.replicate ((a_list.length : Nat) : Int).toNat (((0 : Int), ()) : Int × Unit)).drop (min a_list.length ((List.replicate ((a_list.length : Nat) : Int).toNat (((0 : Int), ()) : Int × Unit))).length)), ())))) := by kernel_rfl
noncomputable def ac133 : ACode := acOf Try.prog 133
theorem gd133 : Good Try.prog (133, ac133, [.tmp 2], 24) := ⟨_, Try.func133, by kernel_rfl, by kernel_rfl, by kernel_rfl, by kernel_rfl⟩
/- impl.disksCopy -/
def sk133_0 : Skel := ⟨mkE 24 [(3, .ref 0), (8, .int .i64), (9, .int .i64)], [], [some (.sp, MapDisk)], 0⟩
def ou133_0 : List (Option Nat × Skel) := [(some 0, ⟨mkE 24 [(3, .ref 0)], [], [some (.sp, MapDisk)], 0⟩)]
def an133 : List (Nat × An) := [(19, .rows)]
def S133 : List (Skel × List (Option Nat × Skel)) := [(sk133_0, ou133_0)]
def ps133 : List PK := [⟨none, false, [(.sl MapDisk)], false⟩]
def rs133 : List PK := [⟨some .S, false, [(.sl MapDisk)], false⟩]
noncomputable def F133 := FN (tabC T176) an133 S133 ac133 [.tmp 2] 24 false 1 ps133 rs133
noncomputable def T133 : List (FuncId × Ctr) := (133, ⟨true, false, 1, ps133, rs133, F133⟩) :: T176
theorem hT133 : AllC Try.prog T133 := AllC.fresh (an := an133) (S := S133) (ps := ps133) (rs := rs133) hT176 gd133 (by kernel_rfl)
noncomputable def lf133_0 : Int × Int × Int × (List (DMapDisk)) × Unit → Option (Outs ou133_0) := lfp (vround (tabC T176) an133 (mkL (tabC T176) an133 [] (ac133.body 0)) (ac133.body 0) sk133_0 ou133_0)
noncomputable def lg133_0 (v_t8 : Int) (v_t9 : Int) (v_p0 : Int) (v_r0 : List (DMapDisk)) : Option (Sum (Int × (List (DMapDisk)) × Unit) (Empty)) := lf133_0 (v_t8, v_t9, v_p0, v_r0, ())
theorem lg133_0_eq (v_t8 : Int) (v_t9 : Int) (v_p0 : Int) (v_r0 : List (DMapDisk)) : (lg133_0 v_t8 v_t9 v_p0 v_r0) = (br (decide (v_t9 < v_t8)) (chk (decide (0 ≤ v_t9 ∧ v_t9 < ((v_r0.length : Nat) : Int))) (let e2 : DMapDisk := (v_r0.getD v_t9.toNat ((0 : Int), (0 : Int), (0 : Int), (0 : Int), (0 : Int), (0 : Int), [], ())); ((G176 e2.2.2.2.2.2.2.1).bind fun (y3 : (List (Int × Unit)) × Unit) => (chk (decide (0 ≤ v_t9 ∧ v_t9 < ((v_r0.length : Nat) : Int))) (chk (decide (v_t9 = v_p0)) (lg133_0 v_t8 (IntKind.i64.wrap (v_t9 + (1 : Int))) (v_p0 + 1) (v_r0.set v_t9.toNat ((v_r0.getD v_t9.toNat ((0 : Int), (0 : Int), (0 : Int), (0 : Int), (0 : Int), (0 : Int), [], ())).1, (v_r0.getD v_t9.toNat ((0 : Int), (0 : Int), (0 : Int), (0 : Int), (0 : Int), (0 : Int), [], ())).2.1, (v_r0.getD v_t9.toNat ((0 : Int), (0 : Int), (0 : Int), (0 : Int), (0 : Int), (0 : Int), [], ())).2.2.1, (v_r0.getD v_t9.toNat ((0 : Int), (0 : Int), (0 : Int), (0 : Int), (0 : Int), (0 : Int), [], ())).2.2.2.1, (v_r0.getD v_t9.toNat ((0 : Int), (0 : Int), (0 : Int), (0 : Int), (0 : Int), (0 : Int), [], ())).2.2.2.2.1, (v_r0.getD v_t9.toNat ((0 : Int), (0 : Int), (0 : Int), (0 : Int), (0 : Int), (0 : Int), [], ())).2.2.2.2.2.1, y3.1, ())))))))) (some (.inl (v_p0, v_r0, ())))) :=
  (show lf133_0 (v_t8, v_t9, v_p0, v_r0, ()) = _ from lfp_eq (fun x => vround_lin _ _ _ _ x) _).trans (by kernel_rfl)
noncomputable def G133 (a_list : List (DMapDisk)) : Option ((List (DMapDisk)) × Unit) := F133 (a_list, ())
theorem G133_eq (a_list : List (DMapDisk)) : (G133 a_list) = ((G175 a_list).bind fun (y1 : (List (DMapDisk)) × Unit) => ((lg133_0 ((y1.1.length : Nat) : Int) (0 : Int) (0 : Int) y1.1).bind fun o => match o with | .inl (y4 : Int × (List (DMapDisk)) × Unit) => (chk (decide (y4.1 = ((y4.2.1.length : Nat) : Int))) (some (y4.2.1, ()))))) := by kernel_rfl
noncomputable def ac180 : ACode := acOf Try.prog 180
theorem gd180 : Good Try.prog (180, ac180, [.tmp 2], 14) := ⟨_, Try.func180, by kernel_rfl, by kernel_rfl, by kernel_rfl, by kernel_rfl⟩
/- impl.copied[impl.MapView] -/
def an180 : List (Nat × An) := []
def S180 : List (Skel × List (Option Nat × Skel)) := []
def ps180 : List PK := [⟨none, false, [(.sl MapView)], false⟩]
def rs180 : List PK := [⟨some .S, false, [(.sl MapView)], false⟩]
noncomputable def F180 := FN (tabC T133) an180 S180 ac180 [.tmp 2] 14 false 1 ps180 rs180
noncomputable def T180 : List (FuncId × Ctr) := (180, ⟨true, false, 1, ps180, rs180, F180⟩) :: T133
theorem hT180 : AllC Try.prog T180 := AllC.fresh (an := an180) (S := S180) (ps := ps180) (rs := rs180) hT133 gd180 (by kernel_rfl)
noncomputable def G180 (a_list : List (DMapView)) : Option ((List (DMapView)) × Unit) := F180 (a_list, ())
theorem G180_eq (a_list : List (DMapView)) : (G180 a_list) = (br (((a_list.length : Nat) : Int) == (0 : Int)) (some ([], ())) (chk (decide (0 ≤ ((a_list.length : Nat) : Int) ∧ ((24 : Nat) : Int) * ((a_list.length : Nat) : Int) ≤ 281474976710656 ∧ ((a_list.length : Nat) : Int) ≤ 281474976710656)) (some ((a_list.take (min a_list.length ((List.replicate ((a_list.length : Nat) : Int).toNat (((0 : Int), (0 : Int), (0 : Int), ()) : DMapView))).length) ++ (List.replicate ((a_list.length : Nat) : Int).toNat (((0 : Int), (0 : Int), (0 : Int), ()) : DMapView)).drop (min a_list.length ((List.replicate ((a_list.length : Nat) : Int).toNat (((0 : Int), (0 : Int), (0 : Int), ()) : DMapView))).length)), ())))) := by kernel_rfl
noncomputable def ac181 : ACode := acOf Try.prog 181
theorem gd181 : Good Try.prog (181, ac181, [.tmp 2], 14) := ⟨_, Try.func181, by kernel_rfl, by kernel_rfl, by kernel_rfl, by kernel_rfl⟩
/- impl.copied[impl.MapDone] -/
def an181 : List (Nat × An) := []
def S181 : List (Skel × List (Option Nat × Skel)) := []
def ps181 : List PK := [⟨none, false, [(.sl MapDone)], false⟩]
def rs181 : List PK := [⟨some .S, false, [(.sl MapDone)], false⟩]
noncomputable def F181 := FN (tabC T180) an181 S181 ac181 [.tmp 2] 14 false 1 ps181 rs181
noncomputable def T181 : List (FuncId × Ctr) := (181, ⟨true, false, 1, ps181, rs181, F181⟩) :: T180
theorem hT181 : AllC Try.prog T181 := AllC.fresh (an := an181) (S := S181) (ps := ps181) (rs := rs181) hT180 gd181 (by kernel_rfl)
noncomputable def G181 (a_list : List (DMapDone)) : Option ((List (DMapDone)) × Unit) := F181 (a_list, ())
theorem G181_eq (a_list : List (DMapDone)) : (G181 a_list) = (br (((a_list.length : Nat) : Int) == (0 : Int)) (some ([], ())) (chk (decide (0 ≤ ((a_list.length : Nat) : Int) ∧ ((32 : Nat) : Int) * ((a_list.length : Nat) : Int) ≤ 281474976710656 ∧ ((a_list.length : Nat) : Int) ≤ 281474976710656)) (some ((a_list.take (min a_list.length ((List.replicate ((a_list.length : Nat) : Int).toNat (((0 : Int), (0 : Int), (0 : Int), (0 : Int), ()) : DMapDone))).length) ++ (List.replicate ((a_list.length : Nat) : Int).toNat (((0 : Int), (0 : Int), (0 : Int), (0 : Int), ()) : DMapDone)).drop (min a_list.length ((List.replicate ((a_list.length : Nat) : Int).toNat (((0 : Int), (0 : Int), (0 : Int), (0 : Int), ()) : DMapDone))).length)), ())))) := by kernel_rfl
noncomputable def ac154 : ACode := acOf Try.prog 154
theorem gd154 : Good Try.prog (154, ac154, [.cell 2 true 6], 18) := ⟨_, Try.func154, by kernel_rfl, by kernel_rfl, by kernel_rfl, by kernel_rfl⟩
/- impl.mapCopy -/
def an154 : List (Nat × An) := [(7, .rows), (11, .rows), (15, .rows)]
def S154 : List (Skel × List (Option Nat × Skel)) := []
def ps154 : List PK := [⟨none, true, MapState, false⟩]
def rs154 : List PK := [⟨some .S, true, MapState, false⟩]
noncomputable def F154 := FN (tabC T181) an154 S154 ac154 [.cell 2 true 6] 18 false 1 ps154 rs154
noncomputable def T154 : List (FuncId × Ctr) := (154, ⟨true, false, 1, ps154, rs154, F154⟩) :: T181
theorem hT154 : AllC Try.prog T154 := AllC.fresh (an := an154) (S := S154) (ps := ps154) (rs := rs154) hT181 gd154 (by kernel_rfl)
noncomputable def G154 (a_m0 : Int) (a_m1 : Int) (a_m2 : Int) (a_m3 : List (DMapDisk)) (a_m4 : List (DMapView)) (a_m5 : List (DMapDone)) : Option (DMapState) := F154 (a_m0, a_m1, a_m2, a_m3, a_m4, a_m5, ())
theorem G154_eq (a_m0 : Int) (a_m1 : Int) (a_m2 : Int) (a_m3 : List (DMapDisk)) (a_m4 : List (DMapView)) (a_m5 : List (DMapDone)) : (G154 a_m0 a_m1 a_m2 a_m3 a_m4 a_m5) = ((G133 a_m3).bind fun (y1 : (List (DMapDisk)) × Unit) => ((G180 a_m4).bind fun (y2 : (List (DMapView)) × Unit) => ((G181 a_m5).bind fun (y3 : (List (DMapDone)) × Unit) => (some (a_m0, a_m1, a_m2, y1.1, y2.1, y3.1, ()))))) := by kernel_rfl
noncomputable def ac107 : ACode := acOf Try.prog 107
theorem gd107 : Good Try.prog (107, ac107, [.cell 0 true 6], 21) := ⟨_, Try.func107, by kernel_rfl, by kernel_rfl, by kernel_rfl, by kernel_rfl⟩
/- impl.MapStart -/
def sk107_0 : Skel := ⟨mkE 21 [(0, .box 0 0), (1, .box 1 0), (2, .int .i64)], [some [.int .i64, .int .i64, .int .i64, .nil, .nil, .nil], some [.int .i64, .int .i64, .int .i64, .nil, .ref 1, .nil]], [none, some (.m .Z, MapView)], 0⟩
def ou107_0 : List (Option Nat × Skel) := [(some 0, ⟨mkE 21 [(0, .box 0 0), (1, .box 1 0)], [some [.int .i64, .int .i64, .int .i64, .nil, .nil, .nil], some [.int .i64, .int .i64, .int .i64, .nil, .ref 1, .nil]], [none, some (.m .Z, MapView)], 0⟩)]
def an107 : List (Nat × An) := [(20, .rows)]
def S107 : List (Skel × List (Option Nat × Skel)) := [(sk107_0, ou107_0)]
def ps107 : List PK := []
def rs107 : List PK := [⟨some .S, true, MapState, false⟩]
noncomputable def F107 := FN (tabC T154) an107 S107 ac107 [.cell 0 true 6] 21 false 1 ps107 rs107
noncomputable def T107 : List (FuncId × Ctr) := (107, ⟨true, false, 1, ps107, rs107, F107⟩) :: T154
theorem hT107 : AllC Try.prog T107 := AllC.fresh (an := an107) (S := S107) (ps := ps107) (rs := rs107) hT154 gd107 (by kernel_rfl)
noncomputable def lf107_0 : Int × Int × Int × Int × Int × Int × Int × (List (DMapView)) × Unit → Option (Outs ou107_0) := lfp (vround (tabC T154) an107 (mkL (tabC T154) an107 [] (ac107.body 0)) (ac107.body 0) sk107_0 ou107_0)
noncomputable def lg107_0 (v_r : Int) (v_b0_0 : Int) (v_b0_1 : Int) (v_b0_2 : Int) (v_b1_0 : Int) (v_b1_1 : Int) (v_b1_2 : Int) (v_r1 : List (DMapView)) : Option (Sum (Int × Int × Int × Int × Int × Int × (List (DMapView)) × Unit) (Empty)) := lf107_0 (v_r, v_b0_0, v_b0_1, v_b0_2, v_b1_0, v_b1_1, v_b1_2, v_r1, ())
theorem lg107_0_eq (v_r : Int) (v_b0_0 : Int) (v_b0_1 : Int) (v_b0_2 : Int) (v_b1_0 : Int) (v_b1_1 : Int) (v_b1_2 : Int) (v_r1 : List (DMapView)) : (lg107_0 v_r v_b0_0 v_b0_1 v_b0_2 v_b1_0 v_b1_1 v_b1_2 v_r1) = (br (decide (v_r < (3 : Int))) (chk (!((3 : Int) == 0)) (chk (!((3 : Int) == 0)) (chk (capOk (v_r1.length + (1)) 24) (lg107_0 (IntKind.i64.wrap (v_r + (1 : Int))) v_b0_0 v_b0_1 v_b0_2 v_b1_0 v_b1_1 v_b1_2 (v_r1 ++ [((1 : Int), (v_r.tmod (3 : Int)), ((IntKind.i64.wrap (v_r + (1 : Int))).tmod (3 : Int)), ())]))))) (some (.inl (v_b0_0, v_b0_1, v_b0_2, v_b1_0, v_b1_1, v_b1_2, v_r1, ())))) :=
  (show lf107_0 (v_r, v_b0_0, v_b0_1, v_b0_2, v_b1_0, v_b1_1, v_b1_2, v_r1, ()) = _ from lfp_eq (fun x => vround_lin _ _ _ _ x) _).trans (by kernel_rfl)
noncomputable def G107  : Option (DMapState) := F107 (())
theorem G107_eq  : (G107) = ((lg107_0 (0 : Int) (0 : Int) (0 : Int) (0 : Int) (0 : Int) (3 : Int) (1 : Int) []).bind fun o => match o with | .inl (y1 : Int × Int × Int × Int × Int × Int × (List (DMapView)) × Unit) => ((G154 y1.2.2.2.1 y1.2.2.2.2.1 y1.2.2.2.2.2.1 [] y1.2.2.2.2.2.2.1 []).bind fun (y2 : DMapState) => (some (y2.1, y2.2.1, y2.2.2.1, y2.2.2.2.1, y2.2.2.2.2.1, y2.2.2.2.2.2.1, ())))) := by kernel_rfl
noncomputable def ac64 : ACode := acOf Try.prog 64
theorem gd64 : Good Try.prog (64, ac64, [.tmp 6], 15) := ⟨_, Try.func64, by kernel_rfl, by kernel_rfl, by kernel_rfl, by kernel_rfl⟩
/- impl.in -/
def an64 : List (Nat × An) := []
def S64 : List (Skel × List (Option Nat × Skel)) := []
def ps64 : List PK := [⟨none, false, [I], false⟩, ⟨none, false, [I], false⟩, ⟨none, false, [I], false⟩]
def rs64 : List PK := [⟨some .S, false, [.bool], false⟩]
noncomputable def F64 := FN (tabC T107) an64 S64 ac64 [.tmp 6] 15 false 1 ps64 rs64
noncomputable def T64 : List (FuncId × Ctr) := (64, ⟨true, false, 1, ps64, rs64, F64⟩) :: T107
theorem hT64 : AllC Try.prog T64 := AllC.fresh (an := an64) (S := S64) (ps := ps64) (rs := rs64) hT107 gd64 (by kernel_rfl)
noncomputable def G64 (a_n : Int) (a_low : Int) (a_high : Int) : Option (Bool × Unit) := F64 (a_n, a_low, a_high, ())
def f64 (a_n : Int) (a_low : Int) (a_high : Int) : Bool := ((decide (a_n ≥ a_low)) && (decide (a_n ≤ a_high)))
theorem G64_eq (a_n : Int) (a_low : Int) (a_high : Int) : (G64 a_n a_low a_high) = some ((f64 a_n a_low a_high), ()) := by kernel_rfl
noncomputable def ac139 : ACode := acOf Try.prog 139
theorem gd139 : Good Try.prog (139, ac139, [.tmp 2], 24) := ⟨_, Try.func139, by kernel_rfl, by kernel_rfl, by kernel_rfl, by kernel_rfl⟩
/- impl.cmdNumbers -/
def an139 : List (Nat × An) := []
def S139 : List (Skel × List (Option Nat × Skel)) := []
def ps139 : List PK := [⟨none, true, Cmd, false⟩]
def rs139 : List PK := [⟨some .S, false, [(.sl [I])], false⟩]
noncomputable def F139 := FN (tabC T64) an139 S139 ac139 [.tmp 2] 24 false 1 ps139 rs139
noncomputable def T139 : List (FuncId × Ctr) := (139, ⟨true, false, 1, ps139, rs139, F139⟩) :: T64
theorem hT139 : AllC Try.prog T139 := AllC.fresh (an := an139) (S := S139) (ps := ps139) (rs := rs139) hT64 gd139 (by kernel_rfl)
noncomputable def G139 (a_c0 : Int) (a_c1 : Int) (a_c2 : Int) (a_c3 : Int) (a_c4 : Int) (a_c5 : Int) (a_c6 : Int) (a_c7 : Int) (a_c8 : Int) (a_c9 : Int) : Option ((List (Int × Unit)) × Unit) := F139 (a_c0, a_c1, a_c2, a_c3, a_c4, a_c5, a_c6, a_c7, a_c8, a_c9, ())
theorem G139_eq (a_c0 : Int) (a_c1 : Int) (a_c2 : Int) (a_c3 : Int) (a_c4 : Int) (a_c5 : Int) (a_c6 : Int) (a_c7 : Int) (a_c8 : Int) (a_c9 : Int) : (G139 a_c0 a_c1 a_c2 a_c3 a_c4 a_c5 a_c6 a_c7 a_c8 a_c9) = (some ([(a_c0, ()), (a_c1, ()), (a_c2, ()), (a_c3, ()), (a_c4, ()), (a_c5, ()), (a_c6, ()), (a_c7, ()), (a_c8, ()), (a_c9, ())], ())) := by kernel_rfl
noncomputable def ac84 : ACode := acOf Try.prog 84
theorem gd84 : Good Try.prog (84, ac84, [.tmp 2], 15) := ⟨_, Try.func84, by kernel_rfl, by kernel_rfl, by kernel_rfl, by kernel_rfl⟩
/- impl.numbersOk -/
def sk84_0 : Skel := ⟨mkE 15 [(5, .lst [I]), (6, .int .i64), (7, .int .i64)], [], [], 0⟩
def ou84_0 : List (Option Nat × Skel) := [(some 0, ⟨mkE 15 [], [], [], 0⟩), (none, ⟨mkE 15 [(2, .bool)], [], [], 0⟩)]
def an84 : List (Nat × An) := []
def S84 : List (Skel × List (Option Nat × Skel)) := [(sk84_0, ou84_0)]
def ps84 : List PK := [⟨none, false, [(.sl [I])], false⟩]
def rs84 : List PK := [⟨some .S, false, [.bool], false⟩]
noncomputable def F84 := FN (tabC T139) an84 S84 ac84 [.tmp 2] 15 false 1 ps84 rs84
noncomputable def T84 : List (FuncId × Ctr) := (84, ⟨true, false, 1, ps84, rs84, F84⟩) :: T139
theorem hT84 : AllC Try.prog T84 := AllC.fresh (an := an84) (S := S84) (ps := ps84) (rs := rs84) hT139 gd84 (by kernel_rfl)
noncomputable def lf84_0 : (List (Int × Unit)) × Int × Int × Unit → Option (Outs ou84_0) := lfp (vround (tabC T139) an84 (mkL (tabC T139) an84 [] (ac84.body 0)) (ac84.body 0) sk84_0 ou84_0)
noncomputable def lg84_0 (v_t5 : List (Int × Unit)) (v_t6 : Int) (v_t7 : Int) : Option (Sum (Unit) (Sum (Bool × Unit) (Empty))) := lf84_0 (v_t5, v_t6, v_t7, ())
theorem lg84_0_eq (v_t5 : List (Int × Unit)) (v_t6 : Int) (v_t7 : Int) : (lg84_0 v_t5 v_t6 v_t7) = (br (decide (v_t7 < v_t6)) (chk (decide (0 ≤ v_t7 ∧ v_t7 < ((v_t5.length : Nat) : Int))) (br (!(f64 ((v_t5.getD v_t7.toNat ((0 : Int), ())).1) (-1 : Int) (99999 : Int))) (some (.inr (.inl (false, ())))) (lg84_0 v_t5 v_t6 (IntKind.i64.wrap (v_t7 + (1 : Int)))))) (some (.inl (())))) :=
  (show lf84_0 (v_t5, v_t6, v_t7, ()) = _ from lfp_eq (fun x => vround_lin _ _ _ _ x) _).trans (by kernel_rfl)
noncomputable def G84 (a_list : List (Int × Unit)) : Option (Bool × Unit) := F84 (a_list, ())
theorem G84_eq (a_list : List (Int × Unit)) : (G84 a_list) = ((lg84_0 a_list ((a_list.length : Nat) : Int) (0 : Int)).bind fun o => match o with | .inl (y1 : Unit) => (some (true, ())) | .inr (.inl (y2 : Bool × Unit)) => (some (y2.1, ()))) := by kernel_rfl
noncomputable def ac81 : ACode := acOf Try.prog 81
theorem gd81 : Good Try.prog (81, ac81, [.tmp 2], 11) := ⟨_, Try.func81, by kernel_rfl, by kernel_rfl, by kernel_rfl, by kernel_rfl⟩
/- impl.cmdOk -/
def an81 : List (Nat × An) := []
def S81 : List (Skel × List (Option Nat × Skel)) := []
def ps81 : List PK := [⟨none, true, Cmd, false⟩]
def rs81 : List PK := [⟨some .S, false, [.bool], false⟩]
noncomputable def F81 := FN (tabC T84) an81 S81 ac81 [.tmp 2] 11 false 1 ps81 rs81
noncomputable def T81 : List (FuncId × Ctr) := (81, ⟨true, false, 1, ps81, rs81, F81⟩) :: T84
theorem hT81 : AllC Try.prog T81 := AllC.fresh (an := an81) (S := S81) (ps := ps81) (rs := rs81) hT84 gd81 (by kernel_rfl)
noncomputable def G81 (a_c0 : Int) (a_c1 : Int) (a_c2 : Int) (a_c3 : Int) (a_c4 : Int) (a_c5 : Int) (a_c6 : Int) (a_c7 : Int) (a_c8 : Int) (a_c9 : Int) : Option (Bool × Unit) := F81 (a_c0, a_c1, a_c2, a_c3, a_c4, a_c5, a_c6, a_c7, a_c8, a_c9, ())
theorem G81_eq (a_c0 : Int) (a_c1 : Int) (a_c2 : Int) (a_c3 : Int) (a_c4 : Int) (a_c5 : Int) (a_c6 : Int) (a_c7 : Int) (a_c8 : Int) (a_c9 : Int) : (G81 a_c0 a_c1 a_c2 a_c3 a_c4 a_c5 a_c6 a_c7 a_c8 a_c9) = (chk ((G139 a_c0 a_c1 a_c2 a_c3 a_c4 a_c5 a_c6 a_c7 a_c8 a_c9).isSome || (!(f64 a_c0 (0 : Int) (7 : Int)))) (chk ((G84 (((G139 a_c0 a_c1 a_c2 a_c3 a_c4 a_c5 a_c6 a_c7 a_c8 a_c9).getD ([], ())).1)).isSome || (!(f64 a_c0 (0 : Int) (7 : Int)))) (some (((f64 a_c0 (0 : Int) (7 : Int)) && ((G84 (((G139 a_c0 a_c1 a_c2 a_c3 a_c4 a_c5 a_c6 a_c7 a_c8 a_c9).getD ([], ())).1)).getD (false, ())).1), ())))) := by kernel_rfl
noncomputable def ac103 : ACode := acOf Try.prog 103
theorem gd103 : Good Try.prog (103, ac103, [.tmp 2], 5) := ⟨_, Try.func103, by kernel_rfl, by kernel_rfl, by kernel_rfl, by kernel_rfl⟩
/- impl.isRange -/
def an103 : List (Nat × An) := []
def S103 : List (Skel × List (Option Nat × Skel)) := []
def ps103 : List PK := [⟨none, false, [I], false⟩]
def rs103 : List PK := [⟨some .S, false, [.bool], false⟩]
noncomputable def F103 := FN (tabC T81) an103 S103 ac103 [.tmp 2] 5 false 1 ps103 rs103
noncomputable def T103 : List (FuncId × Ctr) := (103, ⟨true, false, 1, ps103, rs103, F103⟩) :: T81
theorem hT103 : AllC Try.prog T103 := AllC.fresh (an := an103) (S := S103) (ps := ps103) (rs := rs103) hT81 gd103 (by kernel_rfl)
noncomputable def G103 (a_r : Int) : Option (Bool × Unit) := F103 (a_r, ())
def f103 (a_r : Int) : Bool := (f64 a_r (0 : Int) (2 : Int))
theorem G103_eq (a_r : Int) : (G103 a_r) = some ((f103 a_r), ()) := by kernel_rfl
noncomputable def ac155 : ACode := acOf Try.prog 155
theorem gd155 : Good Try.prog (155, ac155, [.cell 4 true 6], 81) := ⟨_, Try.func155, by kernel_rfl, by kernel_rfl, by kernel_rfl, by kernel_rfl⟩
/- impl.doView -/
def an155 : List (Nat × An) := []
def S155 : List (Skel × List (Option Nat × Skel)) := []
def ps155 : List PK := [⟨some .A, true, MapState, false⟩, ⟨none, true, Cmd, false⟩]
def rs155 : List PK := [⟨some .A, true, MapState, false⟩]
noncomputable def F155 := FN (tabC T103) an155 S155 ac155 [.cell 4 true 6] 81 false 1 ps155 rs155
noncomputable def T155 : List (FuncId × Ctr) := (155, ⟨false, false, 1, ps155, rs155, F155⟩) :: T103
theorem hT155 : AllC Try.prog T155 := AllC.own (an := an155) (S := S155) (ps := ps155) (rs := rs155) hT103 gd155 (by kernel_rfl)
noncomputable def G155 (a_m0 : Int) (a_m1 : Int) (a_m2 : Int) (a_m3 : List (DMapDisk)) (a_m4 : List (DMapView)) (a_m5 : List (DMapDone)) (a_c0 : Int) (a_c1 : Int) (a_c2 : Int) (a_c3 : Int) (a_c4 : Int) (a_c5 : Int) (a_c6 : Int) (a_c7 : Int) (a_c8 : Int) (a_c9 : Int) : Option (DMapState) := F155 (a_m0, a_m1, a_m2, a_m3, a_m4, a_m5, a_c0, a_c1, a_c2, a_c3, a_c4, a_c5, a_c6, a_c7, a_c8, a_c9, ())
theorem G155_eq (a_m0 : Int) (a_m1 : Int) (a_m2 : Int) (a_m3 : List (DMapDisk)) (a_m4 : List (DMapView)) (a_m5 : List (DMapDone)) (a_c0 : Int) (a_c1 : Int) (a_c2 : Int) (a_c3 : Int) (a_c4 : Int) (a_c5 : Int) (a_c6 : Int) (a_c7 : Int) (a_c8 : Int) (a_c9 : Int) : (G155 a_m0 a_m1 a_m2 a_m3 a_m4 a_m5 a_c0 a_c1 a_c2 a_c3 a_c4 a_c5 a_c6 a_c7 a_c8 a_c9) = (br (!(f103 a_c6)) (some (a_m0, a_m1, a_m2, a_m3, a_m4, a_m5, ())) (chk (decide (0 ≤ a_c6 ∧ a_c6 < ((a_m4.length : Nat) : Int))) (let e1 : DMapView := (a_m4.getD a_c6.toNat ((0 : Int), (0 : Int), (0 : Int), ())); (br ((((((a_c7 != (IntKind.i64.wrap (e1.1 + (1 : Int)))) || (decide (a_c8 < (0 : Int)))) || ((a_c8 != e1.2.1) && (a_c8 != e1.2.2.1))) || (decide (a_c9 ≥ a_m1))) || (a_c9 == a_c8)) || ((decide (a_c9 ≥ (0 : Int))) && (decide (e1.2.2.1 ≥ (0 : Int))))) (some (a_m0, a_m1, a_m2, a_m3, a_m4, a_m5, ())) (chk (decide (0 ≤ a_c6 ∧ a_c6 < ((a_m4.length : Nat) : Int))) (some (a_m0, a_m1, a_m2, a_m3, (a_m4.set a_c6.toNat (a_c7, a_c8, (if a_c9 > (-1 : Int) then a_c9 else (-1 : Int)), ())), a_m5, ()))))))) := by kernel_rfl
noncomputable def ac131 : ACode := acOf Try.prog 131
theorem gd131 : Good Try.prog (131, ac131, [.tmp 4], 20) := ⟨_, Try.func131, by kernel_rfl, by kernel_rfl, by kernel_rfl, by kernel_rfl⟩
/- impl.diskAt -/
def sk131_0 : Skel := ⟨mkE 20 [(1, .int .i64), (7, .lst MapDisk), (8, .int .i64), (9, .int .i64)], [], [], 0⟩
def ou131_0 : List (Option Nat × Skel) := [(some 0, ⟨mkE 20 [], [], [], 0⟩), (none, ⟨mkE 20 [(4, .int .i64)], [], [], 0⟩)]
def an131 : List (Nat × An) := []
def S131 : List (Skel × List (Option Nat × Skel)) := [(sk131_0, ou131_0)]
def ps131 : List PK := [⟨none, false, [(.sl MapDisk)], false⟩, ⟨none, false, [I], false⟩]
def rs131 : List PK := [⟨some .S, false, [I], false⟩]
noncomputable def F131 := FN (tabC T155) an131 S131 ac131 [.tmp 4] 20 false 1 ps131 rs131
noncomputable def T131 : List (FuncId × Ctr) := (131, ⟨true, false, 1, ps131, rs131, F131⟩) :: T155
theorem hT131 : AllC Try.prog T131 := AllC.fresh (an := an131) (S := S131) (ps := ps131) (rs := rs131) hT155 gd131 (by kernel_rfl)
noncomputable def lf131_0 : Int × (List (DMapDisk)) × Int × Int × Unit → Option (Outs ou131_0) := lfp (vround (tabC T155) an131 (mkL (tabC T155) an131 [] (ac131.body 0)) (ac131.body 0) sk131_0 ou131_0)
noncomputable def lg131_0 (v_id : Int) (v_t7 : List (DMapDisk)) (v_t8 : Int) (v_t9 : Int) : Option (Sum (Unit) (Sum (Int × Unit) (Empty))) := lf131_0 (v_id, v_t7, v_t8, v_t9, ())
theorem lg131_0_eq (v_id : Int) (v_t7 : List (DMapDisk)) (v_t8 : Int) (v_t9 : Int) : (lg131_0 v_id v_t7 v_t8 v_t9) = (br (decide (v_t9 < v_t8)) (chk (decide (0 ≤ v_t9 ∧ v_t9 < ((v_t7.length : Nat) : Int))) (let e1 : DMapDisk := (v_t7.getD v_t9.toNat ((0 : Int), (0 : Int), (0 : Int), (0 : Int), (0 : Int), (0 : Int), [], ())); (br (e1.1 == v_id) (some (.inr (.inl (v_t9, ())))) (lg131_0 v_id v_t7 v_t8 (IntKind.i64.wrap (v_t9 + (1 : Int))))))) (some (.inl (())))) :=
  (show lf131_0 (v_id, v_t7, v_t8, v_t9, ()) = _ from lfp_eq (fun x => vround_lin _ _ _ _ x) _).trans (by kernel_rfl)
noncomputable def G131 (a_list : List (DMapDisk)) (a_id : Int) : Option (Int × Unit) := F131 (a_list, a_id, ())
theorem G131_eq (a_list : List (DMapDisk)) (a_id : Int) : (G131 a_list a_id) = ((lg131_0 a_id a_list ((a_list.length : Nat) : Int) (0 : Int)).bind fun o => match o with | .inl (y2 : Unit) => (some ((-1 : Int), ())) | .inr (.inl (y3 : Int × Unit)) => (some (y3.1, ()))) := by kernel_rfl
noncomputable def ac182 : ACode := acOf Try.prog 182
theorem gd182 : Good Try.prog (182, ac182, [.tmp 4], 17) := ⟨_, Try.func182, by kernel_rfl, by kernel_rfl, by kernel_rfl, by kernel_rfl⟩
/- impl.hasNumber -/
def sk182_0 : Skel := ⟨mkE 17 [(1, .int .i64), (7, .lst [I]), (8, .int .i64), (9, .int .i64)], [], [], 0⟩
def ou182_0 : List (Option Nat × Skel) := [(some 0, ⟨mkE 17 [], [], [], 0⟩), (none, ⟨mkE 17 [(4, .bool)], [], [], 0⟩)]
def an182 : List (Nat × An) := []
def S182 : List (Skel × List (Option Nat × Skel)) := [(sk182_0, ou182_0)]
def ps182 : List PK := [⟨none, false, [(.sl [I])], false⟩, ⟨none, false, [I], false⟩]
def rs182 : List PK := [⟨some .S, false, [.bool], false⟩]
noncomputable def F182 := FN (tabC T131) an182 S182 ac182 [.tmp 4] 17 false 1 ps182 rs182
noncomputable def T182 : List (FuncId × Ctr) := (182, ⟨true, false, 1, ps182, rs182, F182⟩) :: T131
theorem hT182 : AllC Try.prog T182 := AllC.fresh (an := an182) (S := S182) (ps := ps182) (rs := rs182) hT131 gd182 (by kernel_rfl)
noncomputable def lf182_0 : Int × (List (Int × Unit)) × Int × Int × Unit → Option (Outs ou182_0) := lfp (vround (tabC T131) an182 (mkL (tabC T131) an182 [] (ac182.body 0)) (ac182.body 0) sk182_0 ou182_0)
noncomputable def lg182_0 (v_n : Int) (v_t7 : List (Int × Unit)) (v_t8 : Int) (v_t9 : Int) : Option (Sum (Unit) (Sum (Bool × Unit) (Empty))) := lf182_0 (v_n, v_t7, v_t8, v_t9, ())
theorem lg182_0_eq (v_n : Int) (v_t7 : List (Int × Unit)) (v_t8 : Int) (v_t9 : Int) : (lg182_0 v_n v_t7 v_t8 v_t9) = (br (decide (v_t9 < v_t8)) (chk (decide (0 ≤ v_t9 ∧ v_t9 < ((v_t7.length : Nat) : Int))) (br ((v_t7.getD v_t9.toNat ((0 : Int), ())).1 == v_n) (some (.inr (.inl (true, ())))) (lg182_0 v_n v_t7 v_t8 (IntKind.i64.wrap (v_t9 + (1 : Int)))))) (some (.inl (())))) :=
  (show lf182_0 (v_n, v_t7, v_t8, v_t9, ()) = _ from lfp_eq (fun x => vround_lin _ _ _ _ x) _).trans (by kernel_rfl)
noncomputable def G182 (a_list : List (Int × Unit)) (a_n : Int) : Option (Bool × Unit) := F182 (a_list, a_n, ())
theorem G182_eq (a_list : List (Int × Unit)) (a_n : Int) : (G182 a_list a_n) = ((lg182_0 a_n a_list ((a_list.length : Nat) : Int) (0 : Int)).bind fun o => match o with | .inl (y1 : Unit) => (some (false, ())) | .inr (.inl (y2 : Bool × Unit)) => (some (y2.1, ()))) := by kernel_rfl
noncomputable def ac183 : ACode := acOf Try.prog 183
theorem gd183 : Good Try.prog (183, ac183, [.cell 4 true 4], 21) := ⟨_, Try.func183, by kernel_rfl, by kernel_rfl, by kernel_rfl, by kernel_rfl⟩
/- impl.doneOf -/
def sk183_0 : Skel := ⟨mkE 21 [(1, .int .i64), (4, .box 1 0), (8, .lst MapDone), (9, .int .i64), (10, .int .i64)], [none, some [.int .i64, .int .i64, .int .i64, .int .i64]], [], 0⟩
def ou183_0 : List (Option Nat × Skel) := [(some 0, ⟨mkE 21 [(4, .box 1 0)], [none, some [.int .i64, .int .i64, .int .i64, .int .i64]], [], 0⟩), (none, ⟨mkE 21 [(4, .box 1 0)], [none, some [.int .i64, .int .i64, .int .i64, .int .i64]], [], 0⟩)]
def an183 : List (Nat × An) := []
def S183 : List (Skel × List (Option Nat × Skel)) := [(sk183_0, ou183_0)]
def ps183 : List PK := [⟨none, true, MapState, false⟩, ⟨none, false, [I], false⟩]
def rs183 : List PK := [⟨some .S, true, MapDone, false⟩]
noncomputable def F183 := FN (tabC T182) an183 S183 ac183 [.cell 4 true 4] 21 false 1 ps183 rs183
noncomputable def T183 : List (FuncId × Ctr) := (183, ⟨true, false, 1, ps183, rs183, F183⟩) :: T182
theorem hT183 : AllC Try.prog T183 := AllC.fresh (an := an183) (S := S183) (ps := ps183) (rs := rs183) hT182 gd183 (by kernel_rfl)
noncomputable def lf183_0 : Int × (List (DMapDone)) × Int × Int × Int × Int × Int × Int × Unit → Option (Outs ou183_0) := lfp (vround (tabC T182) an183 (mkL (tabC T182) an183 [] (ac183.body 0)) (ac183.body 0) sk183_0 ou183_0)
noncomputable def lg183_0 (v_client : Int) (v_t8 : List (DMapDone)) (v_t9 : Int) (v_t10 : Int) (v_b1_0 : Int) (v_b1_1 : Int) (v_b1_2 : Int) (v_b1_3 : Int) : Option (Sum (DMapDone) (Sum (DMapDone) (Empty))) := lf183_0 (v_client, v_t8, v_t9, v_t10, v_b1_0, v_b1_1, v_b1_2, v_b1_3, ())
theorem lg183_0_eq (v_client : Int) (v_t8 : List (DMapDone)) (v_t9 : Int) (v_t10 : Int) (v_b1_0 : Int) (v_b1_1 : Int) (v_b1_2 : Int) (v_b1_3 : Int) : (lg183_0 v_client v_t8 v_t9 v_t10 v_b1_0 v_b1_1 v_b1_2 v_b1_3) = (br (decide (v_t10 < v_t9)) (chk (decide (0 ≤ v_t10 ∧ v_t10 < ((v_t8.length : Nat) : Int))) (let e1 : DMapDone := (v_t8.getD v_t10.toNat ((0 : Int), (0 : Int), (0 : Int), (0 : Int), ())); (br (e1.1 == v_client) (some (.inr (.inl (e1.1, e1.2.1, e1.2.2.1, e1.2.2.2.1, ())))) (lg183_0 v_client v_t8 v_t9 (IntKind.i64.wrap (v_t10 + (1 : Int))) v_b1_0 v_b1_1 v_b1_2 v_b1_3)))) (some (.inl (v_b1_0, v_b1_1, v_b1_2, v_b1_3, ())))) :=
  (show lf183_0 (v_client, v_t8, v_t9, v_t10, v_b1_0, v_b1_1, v_b1_2, v_b1_3, ()) = _ from lfp_eq (fun x => vround_lin _ _ _ _ x) _).trans (by kernel_rfl)
noncomputable def G183 (a_m0 : Int) (a_m1 : Int) (a_m2 : Int) (a_m3 : List (DMapDisk)) (a_m4 : List (DMapView)) (a_m5 : List (DMapDone)) (a_client : Int) : Option (DMapDone) := F183 (a_m0, a_m1, a_m2, a_m3, a_m4, a_m5, a_client, ())
theorem G183_eq (a_m0 : Int) (a_m1 : Int) (a_m2 : Int) (a_m3 : List (DMapDisk)) (a_m4 : List (DMapView)) (a_m5 : List (DMapDone)) (a_client : Int) : (G183 a_m0 a_m1 a_m2 a_m3 a_m4 a_m5 a_client) = ((lg183_0 a_client a_m5 ((a_m5.length : Nat) : Int) (0 : Int) (0 : Int) (0 : Int) (0 : Int) (0 : Int)).bind fun o => match o with | .inl (y2 : DMapDone) => (some ((0 : Int), (0 : Int), (0 : Int), (0 : Int), ())) | .inr (.inl (y3 : DMapDone)) => (some (y3.1, y3.2.1, y3.2.2.1, y3.2.2.2.1, ()))) := by kernel_rfl
noncomputable def ac184 : ACode := acOf Try.prog 184
theorem gd184 : Good Try.prog (184, ac184, [.cell 4 true 6], 48) := ⟨_, Try.func184, by kernel_rfl, by kernel_rfl, by kernel_rfl, by kernel_rfl⟩
/- impl.tell -/
def sk184_0 : Skel := ⟨mkE 48 [(2, .box 0 0), (3, .box 1 0), (4, .box 2 0), (5, .ref 4), (6, .bool), (10, .ref 2), (11, .int .i64), (12, .int .i64)], [some [.int .i64, .int .i64, .int .i64, .ref 0, .ref 1, .ref 2], some [.int .i64, .int .i64, .int .i64, .int .i64], some [.int .i64, .int .i64, .int .i64, .nil, .nil, .nil]], [some (.m .A, MapDisk), some (.m .Z, MapView), some (.m .Z, MapDone), none, some (.m .Z, MapDone)], 0⟩
def ou184_0 : List (Option Nat × Skel) := [(some 0, ⟨mkE 48 [(2, .box 0 0), (3, .box 1 0), (4, .box 2 0), (5, .ref 4), (6, .bool)], [some [.int .i64, .int .i64, .int .i64, .ref 0, .ref 1, .ref 2], some [.int .i64, .int .i64, .int .i64, .int .i64], some [.int .i64, .int .i64, .int .i64, .nil, .nil, .nil]], [some (.m .A, MapDisk), some (.m .Z, MapView), some (.m .Z, MapDone), none, some (.m .Z, MapDone)], 0⟩)]
def an184 : List (Nat × An) := []
def S184 : List (Skel × List (Option Nat × Skel)) := [(sk184_0, ou184_0)]
def ps184 : List PK := [⟨some .A, true, MapState, false⟩, ⟨none, true, MapDone, false⟩]
def rs184 : List PK := [⟨some .A, true, MapState, false⟩]
noncomputable def F184 := FN (tabC T183) an184 S184 ac184 [.cell 4 true 6] 48 false 1 ps184 rs184
noncomputable def T184 : List (FuncId × Ctr) := (184, ⟨false, false, 1, ps184, rs184, F184⟩) :: T183
theorem hT184 : AllC Try.prog T184 := AllC.own (an := an184) (S := S184) (ps := ps184) (rs := rs184) hT183 gd184 (by kernel_rfl)
noncomputable def lf184_0 : Bool × Int × Int × Int × Int × Int × Int × Int × Int × Int × Int × Int × Int × (List (DMapDisk)) × (List (DMapView)) × (List (DMapDone)) × (List (DMapDone)) × Unit → Option (Outs ou184_0) := lfp (vround (tabC T183) an184 (mkL (tabC T183) an184 [] (ac184.body 0)) (ac184.body 0) sk184_0 ou184_0)
noncomputable def lg184_0 (v_put : Bool) (v_t11 : Int) (v_t12 : Int) (v_b0_0 : Int) (v_b0_1 : Int) (v_b0_2 : Int) (v_b1_0 : Int) (v_b1_1 : Int) (v_b1_2 : Int) (v_b1_3 : Int) (v_b2_0 : Int) (v_b2_1 : Int) (v_b2_2 : Int) (v_r0 : List (DMapDisk)) (v_r1 : List (DMapView)) (v_r2 : List (DMapDone)) (v_r4 : List (DMapDone)) : Option (Sum (Bool × Int × Int × Int × Int × Int × Int × Int × Int × Int × Int × (List (DMapDisk)) × (List (DMapView)) × (List (DMapDone)) × (List (DMapDone)) × Unit) (Empty)) := lf184_0 (v_put, v_t11, v_t12, v_b0_0, v_b0_1, v_b0_2, v_b1_0, v_b1_1, v_b1_2, v_b1_3, v_b2_0, v_b2_1, v_b2_2, v_r0, v_r1, v_r2, v_r4, ())
theorem lg184_0_eq (v_put : Bool) (v_t11 : Int) (v_t12 : Int) (v_b0_0 : Int) (v_b0_1 : Int) (v_b0_2 : Int) (v_b1_0 : Int) (v_b1_1 : Int) (v_b1_2 : Int) (v_b1_3 : Int) (v_b2_0 : Int) (v_b2_1 : Int) (v_b2_2 : Int) (v_r0 : List (DMapDisk)) (v_r1 : List (DMapView)) (v_r2 : List (DMapDone)) (v_r4 : List (DMapDone)) : (lg184_0 v_put v_t11 v_t12 v_b0_0 v_b0_1 v_b0_2 v_b1_0 v_b1_1 v_b1_2 v_b1_3 v_b2_0 v_b2_1 v_b2_2 v_r0 v_r1 v_r2 v_r4) = (br (decide (v_t12 < v_t11)) (chk (decide (0 ≤ v_t12 ∧ v_t12 < ((v_r2.length : Nat) : Int))) (let e1 : DMapDone := (v_r2.getD v_t12.toNat ((0 : Int), (0 : Int), (0 : Int), (0 : Int), ())); (let k6 := fun (v2 : Bool) (v3 : List (DMapDone)) => (let k5 := fun (v4 : List (DMapDone)) => (lg184_0 v2 v_t11 (IntKind.i64.wrap (v_t12 + (1 : Int))) v_b0_0 v_b0_1 v_b0_2 v_b1_0 v_b1_1 v_b1_2 v_b1_3 v_b2_0 v_b2_1 v_b2_2 v_r0 v_r1 v_r2 v4); (br (e1.1 != v_b1_0) (chk (capOk (v3.length + (1)) 32) (k5 (v3 ++ [(e1.1, e1.2.1, e1.2.2.1, e1.2.2.2.1, ())]))) (k5 v3))); (br ((!v_put) && (decide (e1.1 ≥ v_b1_0))) (chk (capOk (v_r4.length + (1)) 32) (k6 true (v_r4 ++ [(v_b1_0, v_b1_1, v_b1_2, v_b1_3, ())]))) (k6 v_put v_r4))))) (some (.inl (v_put, v_b0_0, v_b0_1, v_b0_2, v_b1_0, v_b1_1, v_b1_2, v_b1_3, v_b2_0, v_b2_1, v_b2_2, v_r0, v_r1, v_r2, v_r4, ())))) :=
  (show lf184_0 (v_put, v_t11, v_t12, v_b0_0, v_b0_1, v_b0_2, v_b1_0, v_b1_1, v_b1_2, v_b1_3, v_b2_0, v_b2_1, v_b2_2, v_r0, v_r1, v_r2, v_r4, ()) = _ from lfp_eq (fun x => vround_lin _ _ _ _ x) _).trans (by kernel_rfl)
noncomputable def G184 (a_m0 : Int) (a_m1 : Int) (a_m2 : Int) (a_m3 : List (DMapDisk)) (a_m4 : List (DMapView)) (a_m5 : List (DMapDone)) (a_d0 : Int) (a_d1 : Int) (a_d2 : Int) (a_d3 : Int) : Option (DMapState) := F184 (a_m0, a_m1, a_m2, a_m3, a_m4, a_m5, a_d0, a_d1, a_d2, a_d3, ())
theorem G184_eq (a_m0 : Int) (a_m1 : Int) (a_m2 : Int) (a_m3 : List (DMapDisk)) (a_m4 : List (DMapView)) (a_m5 : List (DMapDone)) (a_d0 : Int) (a_d1 : Int) (a_d2 : Int) (a_d3 : Int) : (G184 a_m0 a_m1 a_m2 a_m3 a_m4 a_m5 a_d0 a_d1 a_d2 a_d3) = ((lg184_0 false ((a_m5.length : Nat) : Int) (0 : Int) a_m0 a_m1 a_m2 a_d0 a_d1 a_d2 a_d3 (0 : Int) (0 : Int) (0 : Int) a_m3 a_m4 a_m5 []).bind fun o => match o with | .inl (y7 : Bool × Int × Int × Int × Int × Int × Int × Int × Int × Int × Int × (List (DMapDisk)) × (List (DMapView)) × (List (DMapDone)) × (List (DMapDone)) × Unit) => (br (!y7.1) (chk (capOk (y7.2.2.2.2.2.2.2.2.2.2.2.2.2.2.1.length + (1)) 32) (some (y7.2.1, y7.2.2.1, y7.2.2.2.1, y7.2.2.2.2.2.2.2.2.2.2.2.1, y7.2.2.2.2.2.2.2.2.2.2.2.2.1, (y7.2.2.2.2.2.2.2.2.2.2.2.2.2.2.1 ++ [(y7.2.2.2.2.1, y7.2.2.2.2.2.1, y7.2.2.2.2.2.2.1, y7.2.2.2.2.2.2.2.1, ())]), ()))) (some (y7.2.1, y7.2.2.1, y7.2.2.2.1, y7.2.2.2.2.2.2.2.2.2.2.2.1, y7.2.2.2.2.2.2.2.2.2.2.2.2.1, y7.2.2.2.2.2.2.2.2.2.2.2.2.2.2.1, ())))) := by kernel_rfl
noncomputable def ac156 : ACode := acOf Try.prog 156
theorem gd156 : Good Try.prog (156, ac156, [.cell 4 true 6], 120) := ⟨_, Try.func156, by kernel_rfl, by kernel_rfl, by kernel_rfl, by kernel_rfl⟩
/- impl.doAck -/
def an156 : List (Nat × An) := []
def S156 : List (Skel × List (Option Nat × Skel)) := []
def ps156 : List PK := [⟨some .S, true, MapState, false⟩, ⟨none, true, Cmd, false⟩]
def rs156 : List PK := [⟨some .A, true, MapState, false⟩]
noncomputable def F156 := FN (tabC T184) an156 S156 ac156 [.cell 4 true 6] 120 false 1 ps156 rs156
noncomputable def T156 : List (FuncId × Ctr) := (156, ⟨false, false, 1, ps156, rs156, F156⟩) :: T184
theorem hT156 : AllC Try.prog T156 := AllC.own (an := an156) (S := S156) (ps := ps156) (rs := rs156) hT184 gd156 (by kernel_rfl)
noncomputable def G156 (a_m0 : Int) (a_m1 : Int) (a_m2 : Int) (a_m3 : List (DMapDisk)) (a_m4 : List (DMapView)) (a_m5 : List (DMapDone)) (a_c0 : Int) (a_c1 : Int) (a_c2 : Int) (a_c3 : Int) (a_c4 : Int) (a_c5 : Int) (a_c6 : Int) (a_c7 : Int) (a_c8 : Int) (a_c9 : Int) : Option (DMapState) := F156 (a_m0, a_m1, a_m2, a_m3, a_m4, a_m5, a_c0, a_c1, a_c2, a_c3, a_c4, a_c5, a_c6, a_c7, a_c8, a_c9, ())
theorem G156_eq (a_m0 : Int) (a_m1 : Int) (a_m2 : Int) (a_m3 : List (DMapDisk)) (a_m4 : List (DMapView)) (a_m5 : List (DMapDone)) (a_c0 : Int) (a_c1 : Int) (a_c2 : Int) (a_c3 : Int) (a_c4 : Int) (a_c5 : Int) (a_c6 : Int) (a_c7 : Int) (a_c8 : Int) (a_c9 : Int) : (G156 a_m0 a_m1 a_m2 a_m3 a_m4 a_m5 a_c0 a_c1 a_c2 a_c3 a_c4 a_c5 a_c6 a_c7 a_c8 a_c9) = ((G131 a_m3 a_c3).bind fun (y1 : Int × Unit) => (br ((decide (y1.1 < (0 : Int))) || (!(f103 a_c6))) (some (a_m0, a_m1, a_m2, a_m3, a_m4, a_m5, ())) (chk (decide (0 ≤ y1.1 ∧ y1.1 < ((a_m3.length : Nat) : Int))) (let e2 : DMapDisk := (a_m3.getD y1.1.toNat ((0 : Int), (0 : Int), (0 : Int), (0 : Int), (0 : Int), (0 : Int), [], ())); (chk ((decide (0 ≤ a_c6 ∧ a_c6 < ((a_m4.length : Nat) : Int))) || (!(!((e2.2.2.2.1 == (0 : Int)) || (e2.2.2.1 != a_c5))))) (let e3 : DMapView := (a_m4.getD a_c6.toNat ((0 : Int), (0 : Int), (0 : Int), ())); (chk ((G182 e2.2.2.2.2.2.2.1 a_c6).isSome || (!(!(((e2.2.2.2.1 == (0 : Int)) || (e2.2.2.1 != a_c5)) || (e3.1 != a_c7))))) (br ((((e2.2.2.2.1 == (0 : Int)) || (e2.2.2.1 != a_c5)) || (e3.1 != a_c7)) || ((G182 e2.2.2.2.2.2.2.1 a_c6).getD (false, ())).1) (some (a_m0, a_m1, a_m2, a_m3, a_m4, a_m5, ())) (chk (capOk (e2.2.2.2.2.2.2.1.length + (1)) 8) (br (decide (((((e2.2.2.2.2.2.2.1 ++ [(a_c6, ())])).length : Nat) : Int) < (3 : Int))) (chk (decide (0 ≤ y1.1 ∧ y1.1 < ((a_m3.length : Nat) : Int))) (chk (decide (y1.1 = y1.1)) (some (a_m0, a_m1, a_m2, (a_m3.set y1.1.toNat (e2.1, e2.2.1, e2.2.2.1, e2.2.2.2.1, e2.2.2.2.2.1, e2.2.2.2.2.2.1, (e2.2.2.2.2.2.2.1 ++ [(a_c6, ())]), ())), a_m4, a_m5, ())))) (let k8 := fun (v4 : Int) (v5 : List (DMapDisk)) => ((G183 a_m0 a_m1 a_m2 v5 a_m4 a_m5 e2.2.2.2.2.1).bind fun (y6 : DMapDone) => (br (decide (y6.2.1 > e2.2.2.2.2.2.1)) (some (a_m0, a_m1, a_m2, v5, a_m4, a_m5, ())) ((G184 a_m0 a_m1 a_m2 v5 a_m4 a_m5 e2.2.2.2.2.1 e2.2.2.2.2.2.1 (0 : Int) v4).bind fun (y7 : DMapState) => (some (y7.1, y7.2.1, y7.2.2.1, y7.2.2.2.1, y7.2.2.2.2.1, y7.2.2.2.2.2.1, ()))))); (br (e2.2.2.2.1 == (1 : Int)) (chk (decide (0 ≤ y1.1 ∧ y1.1 < ((a_m3.length : Nat) : Int))) (chk (decide (y1.1 = y1.1)) (k8 e2.2.2.1 (a_m3.set y1.1.toNat (e2.1, e2.2.1, (IntKind.i64.wrap (e2.2.2.1 + (1 : Int))), (0 : Int), (0 : Int), (0 : Int), [], ()))))) (chk (decide (0 ≤ (0 : Int) ∧ (0 : Int) ≤ y1.1 ∧ y1.1 ≤ ((a_m3.length : Nat) : Int))) (chk (decide (0 ≤ (IntKind.i64.wrap (y1.1 + (1 : Int))) ∧ (IntKind.i64.wrap (y1.1 + (1 : Int))) ≤ ((a_m3.length : Nat) : Int) ∧ ((a_m3.length : Nat) : Int) ≤ ((a_m3.length : Nat) : Int))) (chk (decide ((0 : Int) = 0)) (chk (decide (y1.1 ≤ y1.1)) (chk (decide (y1.1 < (IntKind.i64.wrap (y1.1 + (1 : Int))))) (chk (capOk (y1.1.toNat + (((a_m3.take ((a_m3.length : Nat) : Int).toNat).drop (IntKind.i64.wrap (y1.1 + (1 : Int))).toNat)).length) 72) (k8 (0 : Int) (a_m3.take y1.1.toNat ++ ((a_m3.take ((a_m3.length : Nat) : Int).toNat).drop (IntKind.i64.wrap (y1.1 + (1 : Int))).toNat))))))))))))))))))))) := by kernel_rfl
noncomputable def ac143 : ACode := acOf Try.prog 143
theorem gd143 : Good Try.prog (143, ac143, [.tmp 2], 5) := ⟨_, Try.func143, by kernel_rfl, by kernel_rfl, by kernel_rfl, by kernel_rfl⟩
/- impl.isClient -/
def an143 : List (Nat × An) := []
def S143 : List (Skel × List (Option Nat × Skel)) := []
def ps143 : List PK := [⟨none, false, [I], false⟩]
def rs143 : List PK := [⟨some .S, false, [.bool], false⟩]
noncomputable def F143 := FN (tabC T156) an143 S143 ac143 [.tmp 2] 5 false 1 ps143 rs143
noncomputable def T143 : List (FuncId × Ctr) := (143, ⟨true, false, 1, ps143, rs143, F143⟩) :: T156
theorem hT143 : AllC Try.prog T143 := AllC.fresh (an := an143) (S := S143) (ps := ps143) (rs := rs143) hT156 gd143 (by kernel_rfl)
noncomputable def G143 (a_n : Int) : Option (Bool × Unit) := F143 (a_n, ())
def f143 (a_n : Int) : Bool := (f64 a_n (0 : Int) (3 : Int))
theorem G143_eq (a_n : Int) : (G143 a_n) = some ((f143 a_n), ()) := by kernel_rfl
noncomputable def ac185 : ACode := acOf Try.prog 185
theorem gd185 : Good Try.prog (185, ac185, [.tmp 6], 56) := ⟨_, Try.func185, by kernel_rfl, by kernel_rfl, by kernel_rfl, by kernel_rfl⟩
/- impl.past -/
def sk185_0 : Skel := ⟨mkE 56 [(1, .int .i64), (2, .int .i64), (34, .lst MapDisk), (35, .int .i64), (36, .int .i64)], [], [], 0⟩
def ou185_0 : List (Option Nat × Skel) := [(some 0, ⟨mkE 56 [], [], [], 0⟩), (none, ⟨mkE 56 [(6, .bool)], [], [], 0⟩)]
def an185 : List (Nat × An) := []
def S185 : List (Skel × List (Option Nat × Skel)) := [(sk185_0, ou185_0)]
def ps185 : List PK := [⟨none, true, MapState, false⟩, ⟨none, false, [I], false⟩, ⟨none, false, [I], false⟩]
def rs185 : List PK := [⟨some .S, false, [.bool], false⟩]
noncomputable def F185 := FN (tabC T143) an185 S185 ac185 [.tmp 6] 56 false 1 ps185 rs185
noncomputable def T185 : List (FuncId × Ctr) := (185, ⟨true, false, 1, ps185, rs185, F185⟩) :: T143
theorem hT185 : AllC Try.prog T185 := AllC.fresh (an := an185) (S := S185) (ps := ps185) (rs := rs185) hT143 gd185 (by kernel_rfl)
noncomputable def lf185_0 : Int × Int × (List (DMapDisk)) × Int × Int × Unit → Option (Outs ou185_0) := lfp (vround (tabC T143) an185 (mkL (tabC T143) an185 [] (ac185.body 0)) (ac185.body 0) sk185_0 ou185_0)
noncomputable def lg185_0 (v_client : Int) (v_call : Int) (v_t34 : List (DMapDisk)) (v_t35 : Int) (v_t36 : Int) : Option (Sum (Unit) (Sum (Bool × Unit) (Empty))) := lf185_0 (v_client, v_call, v_t34, v_t35, v_t36, ())
theorem lg185_0_eq (v_client : Int) (v_call : Int) (v_t34 : List (DMapDisk)) (v_t35 : Int) (v_t36 : Int) : (lg185_0 v_client v_call v_t34 v_t35 v_t36) = (br (decide (v_t36 < v_t35)) (chk (decide (0 ≤ v_t36 ∧ v_t36 < ((v_t34.length : Nat) : Int))) (let e2 : DMapDisk := (v_t34.getD v_t36.toNat ((0 : Int), (0 : Int), (0 : Int), (0 : Int), (0 : Int), (0 : Int), [], ())); (br (((e2.2.2.2.1 != (0 : Int)) && (e2.2.2.2.2.1 == v_client)) && (decide (e2.2.2.2.2.2.1 ≥ v_call))) (some (.inr (.inl (true, ())))) (lg185_0 v_client v_call v_t34 v_t35 (IntKind.i64.wrap (v_t36 + (1 : Int))))))) (some (.inl (())))) :=
  (show lf185_0 (v_client, v_call, v_t34, v_t35, v_t36, ()) = _ from lfp_eq (fun x => vround_lin _ _ _ _ x) _).trans (by kernel_rfl)
noncomputable def G185 (a_m0 : Int) (a_m1 : Int) (a_m2 : Int) (a_m3 : List (DMapDisk)) (a_m4 : List (DMapView)) (a_m5 : List (DMapDone)) (a_client : Int) (a_call : Int) : Option (Bool × Unit) := F185 (a_m0, a_m1, a_m2, a_m3, a_m4, a_m5, a_client, a_call, ())
theorem G185_eq (a_m0 : Int) (a_m1 : Int) (a_m2 : Int) (a_m3 : List (DMapDisk)) (a_m4 : List (DMapView)) (a_m5 : List (DMapDone)) (a_client : Int) (a_call : Int) : (G185 a_m0 a_m1 a_m2 a_m3 a_m4 a_m5 a_client a_call) = ((G183 a_m0 a_m1 a_m2 a_m3 a_m4 a_m5 a_client).bind fun (y1 : DMapDone) => (br ((decide (y1.2.1 > (0 : Int))) && ((decide (y1.2.1 > a_call)) || ((y1.2.1 == a_call) && (y1.2.2.1 != (6 : Int))))) (some (true, ())) ((lg185_0 a_client a_call a_m3 ((a_m3.length : Nat) : Int) (0 : Int)).bind fun o => match o with | .inl (y3 : Unit) => (some (false, ())) | .inr (.inl (y4 : Bool × Unit)) => (some (y4.1, ()))))) := by kernel_rfl
noncomputable def ac105 : ACode := acOf Try.prog 105
theorem gd105 : Good Try.prog (105, ac105, [.tmp 10], 46) := ⟨_, Try.func105, by kernel_rfl, by kernel_rfl, by kernel_rfl, by kernel_rfl⟩
/- impl.judge -/
def an105 : List (Nat × An) := []
def S105 : List (Skel × List (Option Nat × Skel)) := []
def ps105 : List PK := [⟨none, false, [(.sl MapDisk)], false⟩, ⟨none, false, [I], false⟩, ⟨none, false, [I], false⟩, ⟨none, false, [I], false⟩, ⟨none, false, [.bool], false⟩]
def rs105 : List PK := [⟨some .S, false, [I], false⟩]
noncomputable def F105 := FN (tabC T185) an105 S105 ac105 [.tmp 10] 46 false 1 ps105 rs105
noncomputable def T105 : List (FuncId × Ctr) := (105, ⟨true, false, 1, ps105, rs105, F105⟩) :: T185
theorem hT105 : AllC Try.prog T105 := AllC.fresh (an := an105) (S := S105) (ps := ps105) (rs := rs105) hT185 gd105 (by kernel_rfl)
noncomputable def G105 (a_list : List (DMapDisk)) (a_disk : Int) (a_block : Int) (a_epoch : Int) (a_write : Bool) : Option (Int × Unit) := F105 (a_list, a_disk, a_block, a_epoch, a_write, ())
theorem G105_eq (a_list : List (DMapDisk)) (a_disk : Int) (a_block : Int) (a_epoch : Int) (a_write : Bool) : (G105 a_list a_disk a_block a_epoch a_write) = ((G131 a_list a_disk).bind fun (y1 : Int × Unit) => (br (decide (y1.1 < (0 : Int))) (some ((1 : Int), ())) (chk (decide (0 ≤ y1.1 ∧ y1.1 < ((a_list.length : Nat) : Int))) (let e2 : DMapDisk := (a_list.getD y1.1.toNat ((0 : Int), (0 : Int), (0 : Int), (0 : Int), (0 : Int), (0 : Int), [], ())); (br (!(f64 a_block (0 : Int) (IntKind.i64.wrap (e2.2.1 - (1 : Int))))) (some ((2 : Int), ())) (chk ((decide (0 ≤ y1.1 ∧ y1.1 < ((a_list.length : Nat) : Int))) || (!((!a_write) && (a_epoch != (0 : Int))))) (let e3 : DMapDisk := (a_list.getD y1.1.toNat ((0 : Int), (0 : Int), (0 : Int), (0 : Int), (0 : Int), (0 : Int), [], ())); (br (((!a_write) && (a_epoch != (0 : Int))) && (!(f64 a_epoch (1 : Int) (IntKind.i64.wrap (e3.2.2.1 - (1 : Int)))))) (some ((3 : Int), ())) (some ((0 : Int), ())))))))))) := by kernel_rfl
noncomputable def ac157 : ACode := acOf Try.prog 157
theorem gd157 : Good Try.prog (157, ac157, [.cell 4 true 6], 154) := ⟨_, Try.func157, by kernel_rfl, by kernel_rfl, by kernel_rfl, by kernel_rfl⟩
/- impl.doCall -/
def an157 : List (Nat × An) := [(88, .ty MapDisk)]
def S157 : List (Skel × List (Option Nat × Skel)) := []
def ps157 : List PK := [⟨some .A, true, MapState, false⟩, ⟨none, true, Cmd, false⟩]
def rs157 : List PK := [⟨some .A, true, MapState, false⟩]
noncomputable def F157 := FN (tabC T105) an157 S157 ac157 [.cell 4 true 6] 154 false 1 ps157 rs157
noncomputable def T157 : List (FuncId × Ctr) := (157, ⟨false, false, 1, ps157, rs157, F157⟩) :: T105
theorem hT157 : AllC Try.prog T157 := AllC.own (an := an157) (S := S157) (ps := ps157) (rs := rs157) hT105 gd157 (by kernel_rfl)
noncomputable def G157 (a_x0 : Int) (a_x1 : Int) (a_x2 : Int) (a_x3 : List (DMapDisk)) (a_x4 : List (DMapView)) (a_x5 : List (DMapDone)) (a_a0 : Int) (a_a1 : Int) (a_a2 : Int) (a_a3 : Int) (a_a4 : Int) (a_a5 : Int) (a_a6 : Int) (a_a7 : Int) (a_a8 : Int) (a_a9 : Int) : Option (DMapState) := F157 (a_x0, a_x1, a_x2, a_x3, a_x4, a_x5, a_a0, a_a1, a_a2, a_a3, a_a4, a_a5, a_a6, a_a7, a_a8, a_a9, ())
theorem G157_eq (a_x0 : Int) (a_x1 : Int) (a_x2 : Int) (a_x3 : List (DMapDisk)) (a_x4 : List (DMapView)) (a_x5 : List (DMapDone)) (a_a0 : Int) (a_a1 : Int) (a_a2 : Int) (a_a3 : Int) (a_a4 : Int) (a_a5 : Int) (a_a6 : Int) (a_a7 : Int) (a_a8 : Int) (a_a9 : Int) : (G157 a_x0 a_x1 a_x2 a_x3 a_x4 a_x5 a_a0 a_a1 a_a2 a_a3 a_a4 a_a5 a_a6 a_a7 a_a8 a_a9) = (chk ((G185 a_x0 a_x1 a_x2 a_x3 a_x4 a_x5 a_a1 a_a2).isSome || (!(!((!(f143 a_a1)) || (decide (a_a2 < (1 : Int))))))) (br (((!(f143 a_a1)) || (decide (a_a2 < (1 : Int)))) || ((G185 a_x0 a_x1 a_x2 a_x3 a_x4 a_x5 a_a1 a_a2).getD (false, ())).1) (some (a_x0, a_x1, a_x2, a_x3, a_x4, a_x5, ())) ((G131 a_x3 a_a3).bind fun (y1 : Int × Unit) => (br (a_a0 == (1 : Int)) (br ((!(f64 a_a4 (1 : Int) (8 : Int))) || (decide (a_x2 > (4 : Int)))) ((G184 a_x0 a_x1 a_x2 a_x3 a_x4 a_x5 a_a1 a_a2 (4 : Int) (0 : Int)).bind fun (y2 : DMapState) => (some (y2.1, y2.2.1, y2.2.2.1, y2.2.2.2.1, y2.2.2.2.2.1, y2.2.2.2.2.2.1, ()))) (chk (capOk (a_x3.length + (1)) 72) ((G184 a_x0 a_x1 (IntKind.i64.wrap (a_x2 + (1 : Int))) (a_x3 ++ [(a_x2, a_a4, (1 : Int), (0 : Int), (0 : Int), (0 : Int), [], ())]) a_x4 a_x5 a_a1 a_a2 (0 : Int) a_x2).bind fun (y22 : DMapState) => (some (y22.1, y22.2.1, y22.2.2.1, y22.2.2.2.1, y22.2.2.2.2.1, y22.2.2.2.2.2.1, ()))))) (let k21 := fun (v3 : Bool) => (let k20 := fun (v17 : Int) (v18 : Int) (v19 : Int) => ((G184 a_x0 v19 a_x2 a_x3 a_x4 a_x5 a_a1 a_a2 v17 v18).bind fun (y23 : DMapState) => (some (y23.1, y23.2.1, y23.2.2.1, y23.2.2.2.1, y23.2.2.2.2.1, y23.2.2.2.2.2.1, ()))); (br v3 (br (decide (y1.1 < (0 : Int))) (k20 (1 : Int) (0 : Int) a_x1) (chk (decide (0 ≤ y1.1 ∧ y1.1 < ((a_x3.length : Nat) : Int))) (let e4 : DMapDisk := (a_x3.getD y1.1.toNat ((0 : Int), (0 : Int), (0 : Int), (0 : Int), (0 : Int), (0 : Int), [], ())); (br (e4.2.2.2.1 != (0 : Int)) (k20 (5 : Int) (0 : Int) a_x1) (chk (decide (0 ≤ y1.1 ∧ y1.1 < ((a_x3.length : Nat) : Int))) (let e5 : DMapDisk := (a_x3.getD y1.1.toNat ((0 : Int), (0 : Int), (0 : Int), (0 : Int), (0 : Int), (0 : Int), [], ())); (let k7 := fun (v6 : Int) => (chk (decide (0 ≤ y1.1 ∧ y1.1 < ((a_x3.length : Nat) : Int))) (some (a_x0, a_x1, a_x2, (a_x3.set y1.1.toNat (e5.1, e5.2.1, e5.2.2.1, v6, a_a1, a_a2, [], ())), a_x4, a_x5, ()))); (br (a_a0 == (3 : Int)) (k7 (2 : Int)) (k7 (1 : Int)))))))))) (let k16 := fun (v13 : Int) (v14 : Int) (v15 : Int) => (k20 v13 v14 v15); (br (a_a0 == (4 : Int)) (br (a_x1 == (5 : Int)) ((G184 a_x0 a_x1 a_x2 a_x3 a_x4 a_x5 a_a1 a_a2 (4 : Int) (0 : Int)).bind fun (y9 : DMapState) => (some (y9.1, y9.2.1, y9.2.2.1, y9.2.2.2.1, y9.2.2.2.2.1, y9.2.2.2.2.2.1, ()))) (k16 (0 : Int) (IntKind.i64.wrap (a_x1 + (1 : Int))) (IntKind.i64.wrap (a_x1 + (1 : Int))))) (chk ((decide (0 ≤ a_a6 ∧ a_a6 < ((a_x4.length : Nat) : Int))) || (!((a_a8 == (1 : Int)) && (!(!(f103 a_a6)))))) (let e10 : DMapView := (a_x4.getD a_a6.toNat ((0 : Int), (0 : Int), (0 : Int), ())); (br ((a_a8 == (1 : Int)) && ((!(f103 a_a6)) || (e10.1 != a_a7))) (some (a_x0, a_x1, a_x2, a_x3, a_x4, a_x5, ())) ((G105 a_x3 a_a3 a_a4 a_a5 (a_a8 == (1 : Int))).bind fun (y11 : Int × Unit) => (br (y11.1 == (0 : Int)) (k16 (6 : Int) (0 : Int) a_x1) (k16 y11.1 (0 : Int) a_x1)))))))))); (br (a_a0 == (2 : Int)) (k21 (a_a0 == (2 : Int))) (k21 (a_a0 == (3 : Int))))))))) := by kernel_rfl
noncomputable def ac108 : ACode := acOf Try.prog 108
theorem gd108 : Good Try.prog (108, ac108, [.cell 4 true 6], 40) := ⟨_, Try.func108, by kernel_rfl, by kernel_rfl, by kernel_rfl, by kernel_rfl⟩
/- impl.mapDo -/
def an108 : List (Nat × An) := [(7, .rows), (39, .rows)]
def S108 : List (Skel × List (Option Nat × Skel)) := []
def ps108 : List PK := [⟨none, true, MapState, false⟩, ⟨none, true, Cmd, false⟩]
def rs108 : List PK := [⟨some .S, true, MapState, false⟩]
noncomputable def F108 := FN (tabC T157) an108 S108 ac108 [.cell 4 true 6] 40 false 1 ps108 rs108
noncomputable def T108 : List (FuncId × Ctr) := (108, ⟨true, false, 1, ps108, rs108, F108⟩) :: T157
theorem hT108 : AllC Try.prog T108 := AllC.fresh (an := an108) (S := S108) (ps := ps108) (rs := rs108) hT157 gd108 (by kernel_rfl)
noncomputable def G108 (a_m0 : Int) (a_m1 : Int) (a_m2 : Int) (a_m3 : List (DMapDisk)) (a_m4 : List (DMapView)) (a_m5 : List (DMapDone)) (a_c0 : Int) (a_c1 : Int) (a_c2 : Int) (a_c3 : Int) (a_c4 : Int) (a_c5 : Int) (a_c6 : Int) (a_c7 : Int) (a_c8 : Int) (a_c9 : Int) : Option (DMapState) := F108 (a_m0, a_m1, a_m2, a_m3, a_m4, a_m5, a_c0, a_c1, a_c2, a_c3, a_c4, a_c5, a_c6, a_c7, a_c8, a_c9, ())
theorem G108_eq (a_m0 : Int) (a_m1 : Int) (a_m2 : Int) (a_m3 : List (DMapDisk)) (a_m4 : List (DMapView)) (a_m5 : List (DMapDone)) (a_c0 : Int) (a_c1 : Int) (a_c2 : Int) (a_c3 : Int) (a_c4 : Int) (a_c5 : Int) (a_c6 : Int) (a_c7 : Int) (a_c8 : Int) (a_c9 : Int) : (G108 a_m0 a_m1 a_m2 a_m3 a_m4 a_m5 a_c0 a_c1 a_c2 a_c3 a_c4 a_c5 a_c6 a_c7 a_c8 a_c9) = ((G154 a_m0 a_m1 a_m2 a_m3 a_m4 a_m5).bind fun (y1 : DMapState) => ((G81 a_c0 a_c1 a_c2 a_c3 a_c4 a_c5 a_c6 a_c7 a_c8 a_c9).bind fun (y2 : Bool × Unit) => (br ((!y2.1) || (a_c0 == (0 : Int))) ((G154 (IntKind.i64.wrap (y1.1 + (1 : Int))) y1.2.1 y1.2.2.1 y1.2.2.2.1 y1.2.2.2.2.1 y1.2.2.2.2.2.1).bind fun (y19 : DMapState) => (some (y19.1, y19.2.1, y19.2.2.1, y19.2.2.2.1, y19.2.2.2.2.1, y19.2.2.2.2.2.1, ()))) (let k18 := fun (v12 : Int) (v13 : Int) (v14 : Int) (v15 : List (DMapDisk)) (v16 : List (DMapView)) (v17 : List (DMapDone)) => ((G154 v12 v13 v14 v15 v16 v17).bind fun (y20 : DMapState) => (some (y20.1, y20.2.1, y20.2.2.1, y20.2.2.2.1, y20.2.2.2.2.1, y20.2.2.2.2.2.1, ()))); (br (a_c0 == (5 : Int)) ((G155 (IntKind.i64.wrap (y1.1 + (1 : Int))) y1.2.1 y1.2.2.1 y1.2.2.2.1 y1.2.2.2.2.1 y1.2.2.2.2.2.1 a_c0 a_c1 a_c2 a_c3 a_c4 a_c5 a_c6 a_c7 a_c8 a_c9).bind fun (y3 : DMapState) => (k18 y3.1 y3.2.1 y3.2.2.1 y3.2.2.2.1 y3.2.2.2.2.1 y3.2.2.2.2.2.1)) (br (a_c0 == (6 : Int)) ((G156 (IntKind.i64.wrap (y1.1 + (1 : Int))) y1.2.1 y1.2.2.1 y1.2.2.2.1 y1.2.2.2.2.1 y1.2.2.2.2.2.1 a_c0 a_c1 a_c2 a_c3 a_c4 a_c5 a_c6 a_c7 a_c8 a_c9).bind fun (y4 : DMapState) => (k18 y4.1 y4.2.1 y4.2.2.1 y4.2.2.2.1 y4.2.2.2.2.1 y4.2.2.2.2.2.1)) ((G157 (IntKind.i64.wrap (y1.1 + (1 : Int))) y1.2.1 y1.2.2.1 y1.2.2.2.1 y1.2.2.2.2.1 y1.2.2.2.2.2.1 a_c0 a_c1 a_c2 a_c3 a_c4 a_c5 a_c6 a_c7 a_c8 a_c9).bind fun (y5 : DMapState) => (k18 y5.1 y5.2.1 y5.2.2.1 y5.2.2.2.1 y5.2.2.2.2.1 y5.2.2.2.2.2.1)))))))) := by kernel_rfl
noncomputable def ac41 : ACode := acOf Try.prog 41
theorem gd41 : Good Try.prog (41, ac41, [.cell 2 true 6], 22) := ⟨_, Try.func41, by kernel_rfl, by kernel_rfl, by kernel_rfl, by kernel_rfl⟩
/- impl.MapOf -/
def sk41_0 : Skel := ⟨mkE 22 [(2, .box 0 0), (3, .box 1 0), (11, .lst Cmd), (12, .int .i64), (13, .int .i64)], [some [.int .i64, .int .i64, .int .i64, .nil, .nil, .nil], some [.int .i64, .int .i64, .int .i64, .ref 0, .ref 1, .ref 2]], [some (.m .S, MapDisk), some (.m .Z, MapView), some (.m .Z, MapDone)], 0⟩
def ou41_0 : List (Option Nat × Skel) := [(some 0, ⟨mkE 22 [(2, .box 0 0), (3, .box 1 0)], [some [.int .i64, .int .i64, .int .i64, .nil, .nil, .nil], some [.int .i64, .int .i64, .int .i64, .ref 0, .ref 1, .ref 2]], [some (.m .S, MapDisk), some (.m .Z, MapView), some (.m .Z, MapDone)], 0⟩)]
def an41 : List (Nat × An) := [(10, .rows), (19, .rows), (19, .drop [0, 1, 2])]
def S41 : List (Skel × List (Option Nat × Skel)) := [(sk41_0, ou41_0)]
def ps41 : List PK := [⟨none, false, [(.sl Cmd)], false⟩]
def rs41 : List PK := [⟨some .S, true, MapState, false⟩]
noncomputable def F41 := FN (tabC T108) an41 S41 ac41 [.cell 2 true 6] 22 false 1 ps41 rs41
noncomputable def T41 : List (FuncId × Ctr) := (41, ⟨true, false, 1, ps41, rs41, F41⟩) :: T108
theorem hT41 : AllC Try.prog T41 := AllC.fresh (an := an41) (S := S41) (ps := ps41) (rs := rs41) hT108 gd41 (by kernel_rfl)
noncomputable def lf41_0 : (List (DCmd)) × Int × Int × Int × Int × Int × Int × Int × Int × (List (DMapDisk)) × (List (DMapView)) × (List (DMapDone)) × Unit → Option (Outs ou41_0) := lfp (vround (tabC T108) an41 (mkL (tabC T108) an41 [] (ac41.body 0)) (ac41.body 0) sk41_0 ou41_0)
noncomputable def lg41_0 (v_t11 : List (DCmd)) (v_t12 : Int) (v_t13 : Int) (v_b0_0 : Int) (v_b0_1 : Int) (v_b0_2 : Int) (v_b1_0 : Int) (v_b1_1 : Int) (v_b1_2 : Int) (v_r0 : List (DMapDisk)) (v_r1 : List (DMapView)) (v_r2 : List (DMapDone)) : Option (Sum (Int × Int × Int × Int × Int × Int × (List (DMapDisk)) × (List (DMapView)) × (List (DMapDone)) × Unit) (Empty)) := lf41_0 (v_t11, v_t12, v_t13, v_b0_0, v_b0_1, v_b0_2, v_b1_0, v_b1_1, v_b1_2, v_r0, v_r1, v_r2, ())
theorem lg41_0_eq (v_t11 : List (DCmd)) (v_t12 : Int) (v_t13 : Int) (v_b0_0 : Int) (v_b0_1 : Int) (v_b0_2 : Int) (v_b1_0 : Int) (v_b1_1 : Int) (v_b1_2 : Int) (v_r0 : List (DMapDisk)) (v_r1 : List (DMapView)) (v_r2 : List (DMapDone)) : (lg41_0 v_t11 v_t12 v_t13 v_b0_0 v_b0_1 v_b0_2 v_b1_0 v_b1_1 v_b1_2 v_r0 v_r1 v_r2) = (br (decide (v_t13 < v_t12)) (chk (decide (0 ≤ v_t13 ∧ v_t13 < ((v_t11.length : Nat) : Int))) (let e2 : DCmd := (v_t11.getD v_t13.toNat ((0 : Int), (0 : Int), (0 : Int), (0 : Int), (0 : Int), (0 : Int), (0 : Int), (0 : Int), (0 : Int), (0 : Int), ())); ((G108 v_b1_0 v_b1_1 v_b1_2 v_r0 v_r1 v_r2 e2.1 e2.2.1 e2.2.2.1 e2.2.2.2.1 e2.2.2.2.2.1 e2.2.2.2.2.2.1 e2.2.2.2.2.2.2.1 e2.2.2.2.2.2.2.2.1 e2.2.2.2.2.2.2.2.2.1 e2.2.2.2.2.2.2.2.2.2.1).bind fun (y3 : DMapState) => (lg41_0 v_t11 v_t12 (IntKind.i64.wrap (v_t13 + (1 : Int))) v_b0_0 v_b0_1 v_b0_2 y3.1 y3.2.1 y3.2.2.1 y3.2.2.2.1 y3.2.2.2.2.1 y3.2.2.2.2.2.1)))) (some (.inl (v_b0_0, v_b0_1, v_b0_2, v_b1_0, v_b1_1, v_b1_2, v_r0, v_r1, v_r2, ())))) :=
  (show lf41_0 (v_t11, v_t12, v_t13, v_b0_0, v_b0_1, v_b0_2, v_b1_0, v_b1_1, v_b1_2, v_r0, v_r1, v_r2, ()) = _ from lfp_eq (fun x => vround_lin _ _ _ _ x) _).trans (by kernel_rfl)
noncomputable def G41 (a_list : List (DCmd)) : Option (DMapState) := F41 (a_list, ())
theorem G41_eq (a_list : List (DCmd)) : (G41 a_list) = (br (decide (((a_list.length : Nat) : Int) > (60 : Int))) (some ((0 : Int), (0 : Int), (0 : Int), [], [], [], ())) ((G107).bind fun (y1 : DMapState) => ((lg41_0 a_list ((a_list.length : Nat) : Int) (0 : Int) (0 : Int) (0 : Int) (0 : Int) y1.1 y1.2.1 y1.2.2.1 y1.2.2.2.1 y1.2.2.2.2.1 y1.2.2.2.2.2.1).bind fun o => match o with | .inl (y4 : Int × Int × Int × Int × Int × Int × (List (DMapDisk)) × (List (DMapView)) × (List (DMapDone)) × Unit) => (some (y4.2.2.2.1, y4.2.2.2.2.1, y4.2.2.2.2.2.1, y4.2.2.2.2.2.2.1, y4.2.2.2.2.2.2.2.1, y4.2.2.2.2.2.2.2.2.1, ()))))) := by kernel_rfl
noncomputable def ac186 : ACode := acOf Try.prog 186
theorem gd186 : Good Try.prog (186, ac186, [.tmp 4], 26) := ⟨_, Try.func186, by kernel_rfl, by kernel_rfl, by kernel_rfl, by kernel_rfl⟩
/- laws.eqIntS -/
def sk186_0 : Skel := ⟨mkE 26 [(0, .lst [I]), (1, .lst [I]), (5, .int .i64)], [], [], 0⟩
def ou186_0 : List (Option Nat × Skel) := [(some 0, ⟨mkE 26 [], [], [], 0⟩), (none, ⟨mkE 26 [(4, .bool)], [], [], 0⟩)]
def an186 : List (Nat × An) := []
def S186 : List (Skel × List (Option Nat × Skel)) := [(sk186_0, ou186_0)]
def ps186 : List PK := [⟨none, false, [(.sl [I])], false⟩, ⟨none, false, [(.sl [I])], false⟩]
def rs186 : List PK := [⟨some .S, false, [.bool], false⟩]
noncomputable def F186 := FN (tabC T41) an186 S186 ac186 [.tmp 4] 26 false 1 ps186 rs186
noncomputable def T186 : List (FuncId × Ctr) := (186, ⟨true, false, 1, ps186, rs186, F186⟩) :: T41
theorem hT186 : AllC Try.prog T186 := AllC.fresh (an := an186) (S := S186) (ps := ps186) (rs := rs186) hT41 gd186 (by kernel_rfl)
noncomputable def lf186_0 : (List (Int × Unit)) × (List (Int × Unit)) × Int × Unit → Option (Outs ou186_0) := lfp (vround (tabC T41) an186 (mkL (tabC T41) an186 [] (ac186.body 0)) (ac186.body 0) sk186_0 ou186_0)
noncomputable def lg186_0 (v_a : List (Int × Unit)) (v_b : List (Int × Unit)) (v_i : Int) : Option (Sum (Unit) (Sum (Bool × Unit) (Empty))) := lf186_0 (v_a, v_b, v_i, ())
theorem lg186_0_eq (v_a : List (Int × Unit)) (v_b : List (Int × Unit)) (v_i : Int) : (lg186_0 v_a v_b v_i) = (br (decide (v_i < (len v_a))) (chk (inb v_i v_a) (chk (inb v_i v_b) (br ((v_a.getD v_i.toNat ((0 : Int), ())).1 != (v_b.getD v_i.toNat ((0 : Int), ())).1) (some (.inr (.inl (false, ())))) (lg186_0 v_a v_b (W (v_i + (1 : Int))))))) (some (.inl (())))) :=
  (show lf186_0 (v_a, v_b, v_i, ()) = _ from lfp_eq (fun x => vround_lin _ _ _ _ x) _).trans (by kernel_rfl)
noncomputable def G186 (a_a : List (Int × Unit)) (a_b : List (Int × Unit)) : Option (Bool × Unit) := F186 (a_a, a_b, ())
theorem G186_eq (a_a : List (Int × Unit)) (a_b : List (Int × Unit)) : (G186 a_a a_b) = (br ((len a_a) != (len a_b)) (some (false, ())) ((lg186_0 a_a a_b (0 : Int)).bind fun o => match o with | .inl (y1 : Unit) => (some (true, ())) | .inr (.inl (y2 : Bool × Unit)) => (some (y2.1, ())))) := by kernel_rfl
noncomputable def ac158 : ACode := acOf Try.prog 158
theorem gd158 : Good Try.prog (158, ac158, [.tmp 4], 41) := ⟨_, Try.func158, by kernel_rfl, by kernel_rfl, by kernel_rfl, by kernel_rfl⟩
/- laws.eqMapDisk -/
def an158 : List (Nat × An) := []
def S158 : List (Skel × List (Option Nat × Skel)) := []
def ps158 : List PK := [⟨none, true, MapDisk, false⟩, ⟨none, true, MapDisk, false⟩]
def rs158 : List PK := [⟨some .S, false, [.bool], false⟩]
noncomputable def F158 := FN (tabC T186) an158 S158 ac158 [.tmp 4] 41 false 1 ps158 rs158
noncomputable def T158 : List (FuncId × Ctr) := (158, ⟨true, false, 1, ps158, rs158, F158⟩) :: T186
theorem hT158 : AllC Try.prog T158 := AllC.fresh (an := an158) (S := S158) (ps := ps158) (rs := rs158) hT186 gd158 (by kernel_rfl)
noncomputable def G158 (a_a : DMapDisk) (a_b : DMapDisk) : Option (Bool × Unit) := F158 (a_a.1, a_a.2.1, a_a.2.2.1, a_a.2.2.2.1, a_a.2.2.2.2.1, a_a.2.2.2.2.2.1, a_a.2.2.2.2.2.2.1, a_b)
theorem G158_eq (a_a : DMapDisk) (a_b : DMapDisk) : (G158 a_a a_b) = (br (a_a.Id != a_b.Id) (some (false, ())) (br (a_a.Size != a_b.Size) (some (false, ())) (br (a_a.Epoch != a_b.Epoch) (some (false, ())) (br (a_a.Frozen != a_b.Frozen) (some (false, ())) (br (a_a.Client != a_b.Client) (some (false, ())) (br (a_a.Call != a_b.Call) (some (false, ())) ((G186 a_a.Acks a_b.Acks).bind fun (y1 : Bool × Unit) => (br (!y1.1) (some (false, ())) (some (true, ())))))))))) := by kernel_rfl
noncomputable def ac109 : ACode := acOf Try.prog 109
theorem gd109 : Good Try.prog (109, ac109, [.tmp 4], 27) := ⟨_, Try.func109, by kernel_rfl, by kernel_rfl, by kernel_rfl, by kernel_rfl⟩
/- laws.eqMapDiskS -/
def sk109_0 : Skel := ⟨mkE 27 [(0, .lst MapDisk), (1, .lst MapDisk), (5, .int .i64)], [], [], 0⟩
def ou109_0 : List (Option Nat × Skel) := [(some 0, ⟨mkE 27 [], [], [], 0⟩), (none, ⟨mkE 27 [(4, .bool)], [], [], 0⟩)]
def an109 : List (Nat × An) := []
def S109 : List (Skel × List (Option Nat × Skel)) := [(sk109_0, ou109_0)]
def ps109 : List PK := [⟨none, false, [(.sl MapDisk)], false⟩, ⟨none, false, [(.sl MapDisk)], false⟩]
def rs109 : List PK := [⟨some .S, false, [.bool], false⟩]
noncomputable def F109 := FN (tabC T158) an109 S109 ac109 [.tmp 4] 27 false 1 ps109 rs109
noncomputable def T109 : List (FuncId × Ctr) := (109, ⟨true, false, 1, ps109, rs109, F109⟩) :: T158
theorem hT109 : AllC Try.prog T109 := AllC.fresh (an := an109) (S := S109) (ps := ps109) (rs := rs109) hT158 gd109 (by kernel_rfl)
noncomputable def lf109_0 : (List (DMapDisk)) × (List (DMapDisk)) × Int × Unit → Option (Outs ou109_0) := lfp (vround (tabC T158) an109 (mkL (tabC T158) an109 [] (ac109.body 0)) (ac109.body 0) sk109_0 ou109_0)
noncomputable def lg109_0 (v_a : List (DMapDisk)) (v_b : List (DMapDisk)) (v_i : Int) : Option (Sum (Unit) (Sum (Bool × Unit) (Empty))) := lf109_0 (v_a, v_b, v_i, ())
theorem lg109_0_eq (v_a : List (DMapDisk)) (v_b : List (DMapDisk)) (v_i : Int) : (lg109_0 v_a v_b v_i) = (br (decide (v_i < (len v_a))) (chk (inb v_i v_a) (let e1 : DMapDisk := (v_a.getD v_i.toNat DMapDisk.zero); (chk (inb v_i v_b) (let e2 : DMapDisk := (v_b.getD v_i.toNat DMapDisk.zero); ((G158 e1 e2).bind fun (y3 : Bool × Unit) => (br (!y3.1) (some (.inr (.inl (false, ())))) (lg109_0 v_a v_b (W (v_i + (1 : Int)))))))))) (some (.inl (())))) :=
  (show lf109_0 (v_a, v_b, v_i, ()) = _ from lfp_eq (fun x => vround_lin _ _ _ _ x) _).trans (by kernel_rfl)
noncomputable def G109 (a_a : List (DMapDisk)) (a_b : List (DMapDisk)) : Option (Bool × Unit) := F109 (a_a, a_b, ())
theorem G109_eq (a_a : List (DMapDisk)) (a_b : List (DMapDisk)) : (G109 a_a a_b) = (br ((len a_a) != (len a_b)) (some (false, ())) ((lg109_0 a_a a_b (0 : Int)).bind fun o => match o with | .inl (y4 : Unit) => (some (true, ())) | .inr (.inl (y5 : Bool × Unit)) => (some (y5.1, ())))) := by kernel_rfl
noncomputable def ac159 : ACode := acOf Try.prog 159
theorem gd159 : Good Try.prog (159, ac159, [.tmp 4], 20) := ⟨_, Try.func159, by kernel_rfl, by kernel_rfl, by kernel_rfl, by kernel_rfl⟩
/- laws.eqMapView -/
def an159 : List (Nat × An) := []
def S159 : List (Skel × List (Option Nat × Skel)) := []
def ps159 : List PK := [⟨none, true, MapView, false⟩, ⟨none, true, MapView, false⟩]
def rs159 : List PK := [⟨some .S, false, [.bool], false⟩]
noncomputable def F159 := FN (tabC T109) an159 S159 ac159 [.tmp 4] 20 false 1 ps159 rs159
noncomputable def T159 : List (FuncId × Ctr) := (159, ⟨true, false, 1, ps159, rs159, F159⟩) :: T109
theorem hT159 : AllC Try.prog T159 := AllC.fresh (an := an159) (S := S159) (ps := ps159) (rs := rs159) hT109 gd159 (by kernel_rfl)
noncomputable def G159 (a_a : DMapView) (a_b : DMapView) : Option (Bool × Unit) := F159 (a_a.1, a_a.2.1, a_a.2.2.1, a_b)
theorem G159_eq (a_a : DMapView) (a_b : DMapView) : (G159 a_a a_b) = (br (a_a.Num != a_b.Num) (some (false, ())) (br (a_a.A != a_b.A) (some (false, ())) (br (a_a.B != a_b.B) (some (false, ())) (some (true, ()))))) := by kernel_rfl
noncomputable def ac110 : ACode := acOf Try.prog 110
theorem gd110 : Good Try.prog (110, ac110, [.tmp 4], 27) := ⟨_, Try.func110, by kernel_rfl, by kernel_rfl, by kernel_rfl, by kernel_rfl⟩
/- laws.eqMapViewS -/
def sk110_0 : Skel := ⟨mkE 27 [(0, .lst MapView), (1, .lst MapView), (5, .int .i64)], [], [], 0⟩
def ou110_0 : List (Option Nat × Skel) := [(some 0, ⟨mkE 27 [], [], [], 0⟩), (none, ⟨mkE 27 [(4, .bool)], [], [], 0⟩)]
def an110 : List (Nat × An) := []
def S110 : List (Skel × List (Option Nat × Skel)) := [(sk110_0, ou110_0)]
def ps110 : List PK := [⟨none, false, [(.sl MapView)], false⟩, ⟨none, false, [(.sl MapView)], false⟩]
def rs110 : List PK := [⟨some .S, false, [.bool], false⟩]
noncomputable def F110 := FN (tabC T159) an110 S110 ac110 [.tmp 4] 27 false 1 ps110 rs110
noncomputable def T110 : List (FuncId × Ctr) := (110, ⟨true, false, 1, ps110, rs110, F110⟩) :: T159
theorem hT110 : AllC Try.prog T110 := AllC.fresh (an := an110) (S := S110) (ps := ps110) (rs := rs110) hT159 gd110 (by kernel_rfl)
noncomputable def lf110_0 : (List (DMapView)) × (List (DMapView)) × Int × Unit → Option (Outs ou110_0) := lfp (vround (tabC T159) an110 (mkL (tabC T159) an110 [] (ac110.body 0)) (ac110.body 0) sk110_0 ou110_0)
noncomputable def lg110_0 (v_a : List (DMapView)) (v_b : List (DMapView)) (v_i : Int) : Option (Sum (Unit) (Sum (Bool × Unit) (Empty))) := lf110_0 (v_a, v_b, v_i, ())
theorem lg110_0_eq (v_a : List (DMapView)) (v_b : List (DMapView)) (v_i : Int) : (lg110_0 v_a v_b v_i) = (br (decide (v_i < (len v_a))) (chk (inb v_i v_a) (let e1 : DMapView := (v_a.getD v_i.toNat DMapView.zero); (chk (inb v_i v_b) (let e2 : DMapView := (v_b.getD v_i.toNat DMapView.zero); ((G159 e1 e2).bind fun (y3 : Bool × Unit) => (br (!y3.1) (some (.inr (.inl (false, ())))) (lg110_0 v_a v_b (W (v_i + (1 : Int)))))))))) (some (.inl (())))) :=
  (show lf110_0 (v_a, v_b, v_i, ()) = _ from lfp_eq (fun x => vround_lin _ _ _ _ x) _).trans (by kernel_rfl)
noncomputable def G110 (a_a : List (DMapView)) (a_b : List (DMapView)) : Option (Bool × Unit) := F110 (a_a, a_b, ())
theorem G110_eq (a_a : List (DMapView)) (a_b : List (DMapView)) : (G110 a_a a_b) = (br ((len a_a) != (len a_b)) (some (false, ())) ((lg110_0 a_a a_b (0 : Int)).bind fun o => match o with | .inl (y4 : Unit) => (some (true, ())) | .inr (.inl (y5 : Bool × Unit)) => (some (y5.1, ())))) := by kernel_rfl
noncomputable def ac160 : ACode := acOf Try.prog 160
theorem gd160 : Good Try.prog (160, ac160, [.tmp 4], 25) := ⟨_, Try.func160, by kernel_rfl, by kernel_rfl, by kernel_rfl, by kernel_rfl⟩
/- laws.eqMapDone -/
def an160 : List (Nat × An) := []
def S160 : List (Skel × List (Option Nat × Skel)) := []
def ps160 : List PK := [⟨none, true, MapDone, false⟩, ⟨none, true, MapDone, false⟩]
def rs160 : List PK := [⟨some .S, false, [.bool], false⟩]
noncomputable def F160 := FN (tabC T110) an160 S160 ac160 [.tmp 4] 25 false 1 ps160 rs160
noncomputable def T160 : List (FuncId × Ctr) := (160, ⟨true, false, 1, ps160, rs160, F160⟩) :: T110
theorem hT160 : AllC Try.prog T160 := AllC.fresh (an := an160) (S := S160) (ps := ps160) (rs := rs160) hT110 gd160 (by kernel_rfl)
noncomputable def G160 (a_a : DMapDone) (a_b : DMapDone) : Option (Bool × Unit) := F160 (a_a.1, a_a.2.1, a_a.2.2.1, a_a.2.2.2.1, a_b)
theorem G160_eq (a_a : DMapDone) (a_b : DMapDone) : (G160 a_a a_b) = (br (a_a.Client != a_b.Client) (some (false, ())) (br (a_a.Call != a_b.Call) (some (false, ())) (br (a_a.Code != a_b.Code) (some (false, ())) (br (a_a.Value != a_b.Value) (some (false, ())) (some (true, ())))))) := by kernel_rfl
noncomputable def ac111 : ACode := acOf Try.prog 111
theorem gd111 : Good Try.prog (111, ac111, [.tmp 4], 27) := ⟨_, Try.func111, by kernel_rfl, by kernel_rfl, by kernel_rfl, by kernel_rfl⟩
/- laws.eqMapDoneS -/
def sk111_0 : Skel := ⟨mkE 27 [(0, .lst MapDone), (1, .lst MapDone), (5, .int .i64)], [], [], 0⟩
def ou111_0 : List (Option Nat × Skel) := [(some 0, ⟨mkE 27 [], [], [], 0⟩), (none, ⟨mkE 27 [(4, .bool)], [], [], 0⟩)]
def an111 : List (Nat × An) := []
def S111 : List (Skel × List (Option Nat × Skel)) := [(sk111_0, ou111_0)]
def ps111 : List PK := [⟨none, false, [(.sl MapDone)], false⟩, ⟨none, false, [(.sl MapDone)], false⟩]
def rs111 : List PK := [⟨some .S, false, [.bool], false⟩]
noncomputable def F111 := FN (tabC T160) an111 S111 ac111 [.tmp 4] 27 false 1 ps111 rs111
noncomputable def T111 : List (FuncId × Ctr) := (111, ⟨true, false, 1, ps111, rs111, F111⟩) :: T160
theorem hT111 : AllC Try.prog T111 := AllC.fresh (an := an111) (S := S111) (ps := ps111) (rs := rs111) hT160 gd111 (by kernel_rfl)
noncomputable def lf111_0 : (List (DMapDone)) × (List (DMapDone)) × Int × Unit → Option (Outs ou111_0) := lfp (vround (tabC T160) an111 (mkL (tabC T160) an111 [] (ac111.body 0)) (ac111.body 0) sk111_0 ou111_0)
noncomputable def lg111_0 (v_a : List (DMapDone)) (v_b : List (DMapDone)) (v_i : Int) : Option (Sum (Unit) (Sum (Bool × Unit) (Empty))) := lf111_0 (v_a, v_b, v_i, ())
theorem lg111_0_eq (v_a : List (DMapDone)) (v_b : List (DMapDone)) (v_i : Int) : (lg111_0 v_a v_b v_i) = (br (decide (v_i < (len v_a))) (chk (inb v_i v_a) (let e1 : DMapDone := (v_a.getD v_i.toNat DMapDone.zero); (chk (inb v_i v_b) (let e2 : DMapDone := (v_b.getD v_i.toNat DMapDone.zero); ((G160 e1 e2).bind fun (y3 : Bool × Unit) => (br (!y3.1) (some (.inr (.inl (false, ())))) (lg111_0 v_a v_b (W (v_i + (1 : Int)))))))))) (some (.inl (())))) :=
  (show lf111_0 (v_a, v_b, v_i, ()) = _ from lfp_eq (fun x => vround_lin _ _ _ _ x) _).trans (by kernel_rfl)
noncomputable def G111 (a_a : List (DMapDone)) (a_b : List (DMapDone)) : Option (Bool × Unit) := F111 (a_a, a_b, ())
theorem G111_eq (a_a : List (DMapDone)) (a_b : List (DMapDone)) : (G111 a_a a_b) = (br ((len a_a) != (len a_b)) (some (false, ())) ((lg111_0 a_a a_b (0 : Int)).bind fun o => match o with | .inl (y4 : Unit) => (some (true, ())) | .inr (.inl (y5 : Bool × Unit)) => (some (y5.1, ())))) := by kernel_rfl
noncomputable def ac42 : ACode := acOf Try.prog 42
theorem gd42 : Good Try.prog (42, ac42, [.tmp 4], 38) := ⟨_, Try.func42, by kernel_rfl, by kernel_rfl, by kernel_rfl, by kernel_rfl⟩
/- laws.eqMapState -/
def an42 : List (Nat × An) := []
def S42 : List (Skel × List (Option Nat × Skel)) := []
def ps42 : List PK := [⟨none, true, MapState, false⟩, ⟨none, true, MapState, false⟩]
def rs42 : List PK := [⟨some .S, false, [.bool], false⟩]
noncomputable def F42 := FN (tabC T111) an42 S42 ac42 [.tmp 4] 38 false 1 ps42 rs42
noncomputable def T42 : List (FuncId × Ctr) := (42, ⟨true, false, 1, ps42, rs42, F42⟩) :: T111
theorem hT42 : AllC Try.prog T42 := AllC.fresh (an := an42) (S := S42) (ps := ps42) (rs := rs42) hT111 gd42 (by kernel_rfl)
noncomputable def G42 (a_a : DMapState) (a_b : DMapState) : Option (Bool × Unit) := F42 (a_a.1, a_a.2.1, a_a.2.2.1, a_a.2.2.2.1, a_a.2.2.2.2.1, a_a.2.2.2.2.2.1, a_b)
theorem G42_eq (a_a : DMapState) (a_b : DMapState) : (G42 a_a a_b) = (br (a_a.Slots != a_b.Slots) (some (false, ())) (br (a_a.Servers != a_b.Servers) (some (false, ())) (br (a_a.Next != a_b.Next) (some (false, ())) ((G109 a_a.Disks a_b.Disks).bind fun (y1 : Bool × Unit) => (br (!y1.1) (some (false, ())) ((G110 a_a.Views a_b.Views).bind fun (y2 : Bool × Unit) => (br (!y2.1) (some (false, ())) ((G111 a_a.Done a_b.Done).bind fun (y3 : Bool × Unit) => (br (!y3.1) (some (false, ())) (some (true, ()))))))))))) := by kernel_rfl
noncomputable def ac93 : ACode := acOf Try.prog 93
theorem gd93 : Good Try.prog (93, ac93, [.tmp 4], 55) := ⟨_, Try.func93, by kernel_rfl, by kernel_rfl, by kernel_rfl, by kernel_rfl⟩
/- laws.eqCmd -/
def an93 : List (Nat × An) := []
def S93 : List (Skel × List (Option Nat × Skel)) := []
def ps93 : List PK := [⟨none, true, Cmd, false⟩, ⟨none, true, Cmd, false⟩]
def rs93 : List PK := [⟨some .S, false, [.bool], false⟩]
noncomputable def F93 := FN (tabC T42) an93 S93 ac93 [.tmp 4] 55 false 1 ps93 rs93
noncomputable def T93 : List (FuncId × Ctr) := (93, ⟨true, false, 1, ps93, rs93, F93⟩) :: T42
theorem hT93 : AllC Try.prog T93 := AllC.fresh (an := an93) (S := S93) (ps := ps93) (rs := rs93) hT42 gd93 (by kernel_rfl)
noncomputable def G93 (a_a : DCmd) (a_b : DCmd) : Option (Bool × Unit) := F93 (a_a.1, a_a.2.1, a_a.2.2.1, a_a.2.2.2.1, a_a.2.2.2.2.1, a_a.2.2.2.2.2.1, a_a.2.2.2.2.2.2.1, a_a.2.2.2.2.2.2.2.1, a_a.2.2.2.2.2.2.2.2.1, a_a.2.2.2.2.2.2.2.2.2.1, a_b)
theorem G93_eq (a_a : DCmd) (a_b : DCmd) : (G93 a_a a_b) = (br (a_a.Kind != a_b.Kind) (some (false, ())) (br (a_a.Client != a_b.Client) (some (false, ())) (br (a_a.Call != a_b.Call) (some (false, ())) (br (a_a.Disk != a_b.Disk) (some (false, ())) (br (a_a.Arg != a_b.Arg) (some (false, ())) (br (a_a.Epoch != a_b.Epoch) (some (false, ())) (br (a_a.Range != a_b.Range) (some (false, ())) (br (a_a.Num != a_b.Num) (some (false, ())) (br (a_a.A != a_b.A) (some (false, ())) (br (a_a.B != a_b.B) (some (false, ())) (some (true, ())))))))))))) := by kernel_rfl
noncomputable def ac43 : ACode := acOf Try.prog 43
theorem gd43 : Good Try.prog (43, ac43, [.tmp 4], 27) := ⟨_, Try.func43, by kernel_rfl, by kernel_rfl, by kernel_rfl, by kernel_rfl⟩
/- laws.eqCmdS -/
def sk43_0 : Skel := ⟨mkE 27 [(0, .lst Cmd), (1, .lst Cmd), (5, .int .i64)], [], [], 0⟩
def ou43_0 : List (Option Nat × Skel) := [(some 0, ⟨mkE 27 [], [], [], 0⟩), (none, ⟨mkE 27 [(4, .bool)], [], [], 0⟩)]
def an43 : List (Nat × An) := []
def S43 : List (Skel × List (Option Nat × Skel)) := [(sk43_0, ou43_0)]
def ps43 : List PK := [⟨none, false, [(.sl Cmd)], false⟩, ⟨none, false, [(.sl Cmd)], false⟩]
def rs43 : List PK := [⟨some .S, false, [.bool], false⟩]
noncomputable def F43 := FN (tabC T93) an43 S43 ac43 [.tmp 4] 27 false 1 ps43 rs43
noncomputable def T43 : List (FuncId × Ctr) := (43, ⟨true, false, 1, ps43, rs43, F43⟩) :: T93
theorem hT43 : AllC Try.prog T43 := AllC.fresh (an := an43) (S := S43) (ps := ps43) (rs := rs43) hT93 gd43 (by kernel_rfl)
noncomputable def lf43_0 : (List (DCmd)) × (List (DCmd)) × Int × Unit → Option (Outs ou43_0) := lfp (vround (tabC T93) an43 (mkL (tabC T93) an43 [] (ac43.body 0)) (ac43.body 0) sk43_0 ou43_0)
noncomputable def lg43_0 (v_a : List (DCmd)) (v_b : List (DCmd)) (v_i : Int) : Option (Sum (Unit) (Sum (Bool × Unit) (Empty))) := lf43_0 (v_a, v_b, v_i, ())
theorem lg43_0_eq (v_a : List (DCmd)) (v_b : List (DCmd)) (v_i : Int) : (lg43_0 v_a v_b v_i) = (br (decide (v_i < (len v_a))) (chk (inb v_i v_a) (let e1 : DCmd := (v_a.getD v_i.toNat DCmd.zero); (chk (inb v_i v_b) (let e2 : DCmd := (v_b.getD v_i.toNat DCmd.zero); ((G93 e1 e2).bind fun (y3 : Bool × Unit) => (br (!y3.1) (some (.inr (.inl (false, ())))) (lg43_0 v_a v_b (W (v_i + (1 : Int)))))))))) (some (.inl (())))) :=
  (show lf43_0 (v_a, v_b, v_i, ()) = _ from lfp_eq (fun x => vround_lin _ _ _ _ x) _).trans (by kernel_rfl)
noncomputable def G43 (a_a : List (DCmd)) (a_b : List (DCmd)) : Option (Bool × Unit) := F43 (a_a, a_b, ())
theorem G43_eq (a_a : List (DCmd)) (a_b : List (DCmd)) : (G43 a_a a_b) = (br ((len a_a) != (len a_b)) (some (false, ())) ((lg43_0 a_a a_b (0 : Int)).bind fun o => match o with | .inl (y4 : Unit) => (some (true, ())) | .inr (.inl (y5 : Bool × Unit)) => (some (y5.1, ())))) := by kernel_rfl
noncomputable def ac44 : ACode := acOf Try.prog 44
theorem gd44 : Good Try.prog (44, ac44, [.tmp 4], 83) := ⟨_, Try.func44, by kernel_rfl, by kernel_rfl, by kernel_rfl, by kernel_rfl⟩
/- laws.markCmdS -/
def sk44_0 : Skel := ⟨mkE 83 [(0, .ref 0), (1, .int .i64), (5, .int .i64)], [], [some (.m .Z, Cmd)], 1⟩
def ou44_0 : List (Option Nat × Skel) := [(some 0, ⟨mkE 83 [(1, .int .i64)], [], [some (.m .Z, Cmd)], 1⟩)]
def an44 : List (Nat × An) := []
def S44 : List (Skel × List (Option Nat × Skel)) := [(sk44_0, ou44_0)]
def ps44 : List PK := [⟨some .S, false, [(.sl Cmd)], false⟩, ⟨some .S, false, [I], false⟩]
def rs44 : List PK := [⟨some .S, false, [I], false⟩, ⟨some .S, false, [(.sl Cmd)], false⟩, ⟨some .S, false, [I], false⟩]
noncomputable def F44 := FN (tabC T43) an44 S44 ac44 [.tmp 4] 83 true 1 ps44 rs44
noncomputable def T44 : List (FuncId × Ctr) := (44, ⟨false, true, 1, ps44, rs44, F44⟩) :: T43
theorem hT44 : AllC Try.prog T44 := AllC.io (an := an44) (S := S44) (ps := ps44) (rs := rs44) hT43 gd44 (by kernel_rfl)
noncomputable def lf44_0 : Int × Int × (List (DCmd)) × Unit → Option (Outs ou44_0) := lfp (vround (tabC T43) an44 (mkL (tabC T43) an44 [] (ac44.body 0)) (ac44.body 0) sk44_0 ou44_0)
noncomputable def lg44_0 (v_k : Int) (v_i : Int) (v_r0 : List (DCmd)) : Option (Sum (Int × (List (DCmd)) × Unit) (Empty)) := lf44_0 (v_k, v_i, v_r0, ())
theorem lg44_0_eq (v_k : Int) (v_i : Int) (v_r0 : List (DCmd)) : (lg44_0 v_k v_i v_r0) = (br (decide (v_i < (len v_r0))) (chk (inb v_i v_r0) (let e1 : DCmd := (v_r0.getD v_i.toNat DCmd.zero); (let e2 : List (DCmd) := (v_r0.set v_i.toNat (e1.withKind v_k)); (chk (inb v_i e2) (let e3 : DCmd := (e2.getD v_i.toNat DCmd.zero); (let e4 : List (DCmd) := (e2.set v_i.toNat (e3.withClient (W (v_k + (1 : Int))))); (chk (inb v_i e4) (let e5 : DCmd := (e4.getD v_i.toNat DCmd.zero); (let e6 : List (DCmd) := (e4.set v_i.toNat (e5.withCall (W ((W (v_k + (1 : Int))) + (1 : Int))))); (chk (inb v_i e6) (let e7 : DCmd := (e6.getD v_i.toNat DCmd.zero); (let e8 : List (DCmd) := (e6.set v_i.toNat (e7.withDisk (W ((W ((W (v_k + (1 : Int))) + (1 : Int))) + (1 : Int))))); (chk (inb v_i e8) (let e9 : DCmd := (e8.getD v_i.toNat DCmd.zero); (let e10 : List (DCmd) := (e8.set v_i.toNat (e9.withArg (W ((W ((W ((W (v_k + (1 : Int))) + (1 : Int))) + (1 : Int))) + (1 : Int))))); (chk (inb v_i e10) (let e11 : DCmd := (e10.getD v_i.toNat DCmd.zero); (let e12 : List (DCmd) := (e10.set v_i.toNat (e11.withEpoch (W ((W ((W ((W ((W (v_k + (1 : Int))) + (1 : Int))) + (1 : Int))) + (1 : Int))) + (1 : Int))))); (chk (inb v_i e12) (let e13 : DCmd := (e12.getD v_i.toNat DCmd.zero); (let e14 : List (DCmd) := (e12.set v_i.toNat (e13.withRange (W ((W ((W ((W ((W ((W (v_k + (1 : Int))) + (1 : Int))) + (1 : Int))) + (1 : Int))) + (1 : Int))) + (1 : Int))))); (chk (inb v_i e14) (let e15 : DCmd := (e14.getD v_i.toNat DCmd.zero); (let e16 : List (DCmd) := (e14.set v_i.toNat (e15.withNum (W ((W ((W ((W ((W ((W ((W (v_k + (1 : Int))) + (1 : Int))) + (1 : Int))) + (1 : Int))) + (1 : Int))) + (1 : Int))) + (1 : Int))))); (chk (inb v_i e16) (let e17 : DCmd := (e16.getD v_i.toNat DCmd.zero); (let e18 : List (DCmd) := (e16.set v_i.toNat (e17.withA (W ((W ((W ((W ((W ((W ((W ((W (v_k + (1 : Int))) + (1 : Int))) + (1 : Int))) + (1 : Int))) + (1 : Int))) + (1 : Int))) + (1 : Int))) + (1 : Int))))); (chk (inb v_i e18) (let e19 : DCmd := (e18.getD v_i.toNat DCmd.zero); (let e20 : List (DCmd) := (e18.set v_i.toNat (e19.withB (W ((W ((W ((W ((W ((W ((W ((W ((W (v_k + (1 : Int))) + (1 : Int))) + (1 : Int))) + (1 : Int))) + (1 : Int))) + (1 : Int))) + (1 : Int))) + (1 : Int))) + (1 : Int))))); (lg44_0 (W ((W ((W ((W ((W ((W ((W ((W ((W ((W (v_k + (1 : Int))) + (1 : Int))) + (1 : Int))) + (1 : Int))) + (1 : Int))) + (1 : Int))) + (1 : Int))) + (1 : Int))) + (1 : Int))) + (1 : Int))) (W (v_i + (1 : Int))) e20))))))))))))))))))))))))))))))) (some (.inl (v_k, v_r0, ())))) :=
  (show lf44_0 (v_k, v_i, v_r0, ()) = _ from lfp_eq (fun x => vround_lin _ _ _ _ x) _).trans (by kernel_rfl)
noncomputable def G44 (a_a : List (DCmd)) (a_k : Int) : Option (Int × (List (DCmd)) × Int × Unit) := F44 (a_a, a_k, ())
theorem G44_eq (a_a : List (DCmd)) (a_k : Int) : (G44 a_a a_k) = ((lg44_0 a_k (0 : Int) a_a).bind fun o => match o with | .inl (y21 : Int × (List (DCmd)) × Unit) => (some (y21.1, y21.2.1, a_k, ()))) := by kernel_rfl
noncomputable def ac161 : ACode := acOf Try.prog 161
theorem gd161 : Good Try.prog (161, ac161, [.tmp 4], 19) := ⟨_, Try.func161, by kernel_rfl, by kernel_rfl, by kernel_rfl, by kernel_rfl⟩
/- laws.markIntS -/
def sk161_0 : Skel := ⟨mkE 19 [(0, .ref 0), (1, .int .i64), (5, .int .i64)], [], [some (.m .Z, [I])], 1⟩
def ou161_0 : List (Option Nat × Skel) := [(some 0, ⟨mkE 19 [(1, .int .i64)], [], [some (.m .Z, [I])], 1⟩)]
def an161 : List (Nat × An) := []
def S161 : List (Skel × List (Option Nat × Skel)) := [(sk161_0, ou161_0)]
def ps161 : List PK := [⟨some .S, false, [(.sl [I])], false⟩, ⟨some .S, false, [I], false⟩]
def rs161 : List PK := [⟨some .S, false, [I], false⟩, ⟨some .S, false, [(.sl [I])], false⟩, ⟨some .S, false, [I], false⟩]
noncomputable def F161 := FN (tabC T44) an161 S161 ac161 [.tmp 4] 19 true 1 ps161 rs161
noncomputable def T161 : List (FuncId × Ctr) := (161, ⟨false, true, 1, ps161, rs161, F161⟩) :: T44
theorem hT161 : AllC Try.prog T161 := AllC.io (an := an161) (S := S161) (ps := ps161) (rs := rs161) hT44 gd161 (by kernel_rfl)
noncomputable def lf161_0 : Int × Int × (List (Int × Unit)) × Unit → Option (Outs ou161_0) := lfp (vround (tabC T44) an161 (mkL (tabC T44) an161 [] (ac161.body 0)) (ac161.body 0) sk161_0 ou161_0)
noncomputable def lg161_0 (v_k : Int) (v_i : Int) (v_r0 : List (Int × Unit)) : Option (Sum (Int × (List (Int × Unit)) × Unit) (Empty)) := lf161_0 (v_k, v_i, v_r0, ())
theorem lg161_0_eq (v_k : Int) (v_i : Int) (v_r0 : List (Int × Unit)) : (lg161_0 v_k v_i v_r0) = (br (decide (v_i < (len v_r0))) (chk (inb v_i v_r0) (lg161_0 (W (v_k + (1 : Int))) (W (v_i + (1 : Int))) (v_r0.set v_i.toNat (v_k, ())))) (some (.inl (v_k, v_r0, ())))) :=
  (show lf161_0 (v_k, v_i, v_r0, ()) = _ from lfp_eq (fun x => vround_lin _ _ _ _ x) _).trans (by kernel_rfl)
noncomputable def G161 (a_a : List (Int × Unit)) (a_k : Int) : Option (Int × (List (Int × Unit)) × Int × Unit) := F161 (a_a, a_k, ())
theorem G161_eq (a_a : List (Int × Unit)) (a_k : Int) : (G161 a_a a_k) = ((lg161_0 a_k (0 : Int) a_a).bind fun o => match o with | .inl (y1 : Int × (List (Int × Unit)) × Unit) => (some (y1.1, y1.2.1, a_k, ()))) := by kernel_rfl
noncomputable def ac112 : ACode := acOf Try.prog 112
theorem gd112 : Good Try.prog (112, ac112, [.tmp 4], 62) := ⟨_, Try.func112, by kernel_rfl, by kernel_rfl, by kernel_rfl, by kernel_rfl⟩
/- laws.markMapDiskS -/
def sk112_0 : Skel := ⟨mkE 62 [(0, .ref 0), (1, .int .i64), (5, .int .i64)], [], [some (.m .S, MapDisk)], 1⟩
def ou112_0 : List (Option Nat × Skel) := [(some 0, ⟨mkE 62 [(1, .int .i64)], [], [some (.m .S, MapDisk)], 1⟩)]
def an112 : List (Nat × An) := []
def S112 : List (Skel × List (Option Nat × Skel)) := [(sk112_0, ou112_0)]
def ps112 : List PK := [⟨some .S, false, [(.sl MapDisk)], false⟩, ⟨some .S, false, [I], false⟩]
def rs112 : List PK := [⟨some .S, false, [I], false⟩, ⟨some .S, false, [(.sl MapDisk)], false⟩, ⟨some .S, false, [I], false⟩]
noncomputable def F112 := FN (tabC T161) an112 S112 ac112 [.tmp 4] 62 true 1 ps112 rs112
noncomputable def T112 : List (FuncId × Ctr) := (112, ⟨false, true, 1, ps112, rs112, F112⟩) :: T161
theorem hT112 : AllC Try.prog T112 := AllC.io (an := an112) (S := S112) (ps := ps112) (rs := rs112) hT161 gd112 (by kernel_rfl)
noncomputable def lf112_0 : Int × Int × (List (DMapDisk)) × Unit → Option (Outs ou112_0) := lfp (vround (tabC T161) an112 (mkL (tabC T161) an112 [] (ac112.body 0)) (ac112.body 0) sk112_0 ou112_0)
noncomputable def lg112_0 (v_k : Int) (v_i : Int) (v_r0 : List (DMapDisk)) : Option (Sum (Int × (List (DMapDisk)) × Unit) (Empty)) := lf112_0 (v_k, v_i, v_r0, ())
theorem lg112_0_eq (v_k : Int) (v_i : Int) (v_r0 : List (DMapDisk)) : (lg112_0 v_k v_i v_r0) = (br (decide (v_i < (len v_r0))) (chk (inb v_i v_r0) (let e1 : DMapDisk := (v_r0.getD v_i.toNat DMapDisk.zero); (let e2 : List (DMapDisk) := (v_r0.set v_i.toNat (e1.withId v_k)); (chk (inb v_i e2) (let e3 : DMapDisk := (e2.getD v_i.toNat DMapDisk.zero); (let e4 : List (DMapDisk) := (e2.set v_i.toNat (e3.withSize (W (v_k + (1 : Int))))); (chk (inb v_i e4) (let e5 : DMapDisk := (e4.getD v_i.toNat DMapDisk.zero); (let e6 : List (DMapDisk) := (e4.set v_i.toNat (e5.withEpoch (W ((W (v_k + (1 : Int))) + (1 : Int))))); (chk (inb v_i e6) (let e7 : DMapDisk := (e6.getD v_i.toNat DMapDisk.zero); (let e8 : List (DMapDisk) := (e6.set v_i.toNat (e7.withFrozen (W ((W ((W (v_k + (1 : Int))) + (1 : Int))) + (1 : Int))))); (chk (inb v_i e8) (let e9 : DMapDisk := (e8.getD v_i.toNat DMapDisk.zero); (let e10 : List (DMapDisk) := (e8.set v_i.toNat (e9.withClient (W ((W ((W ((W (v_k + (1 : Int))) + (1 : Int))) + (1 : Int))) + (1 : Int))))); (chk (inb v_i e10) (let e11 : DMapDisk := (e10.getD v_i.toNat DMapDisk.zero); (let e12 : List (DMapDisk) := (e10.set v_i.toNat (e11.withCall (W ((W ((W ((W ((W (v_k + (1 : Int))) + (1 : Int))) + (1 : Int))) + (1 : Int))) + (1 : Int))))); (chk (inb v_i e12) (let e13 : DMapDisk := (e12.getD v_i.toNat DMapDisk.zero); ((G161 e13.Acks (W ((W ((W ((W ((W ((W (v_k + (1 : Int))) + (1 : Int))) + (1 : Int))) + (1 : Int))) + (1 : Int))) + (1 : Int)))).bind fun (y14 : Int × (List (Int × Unit)) × Int × Unit) => (lg112_0 y14.1 (W (v_i + (1 : Int))) (e12.set v_i.toNat ((e12.getD v_i.toNat DMapDisk.zero).withAcks y14.2.1)))))))))))))))))))))))) (some (.inl (v_k, v_r0, ())))) :=
  (show lf112_0 (v_k, v_i, v_r0, ()) = _ from lfp_eq (fun x => vround_lin _ _ _ _ x) _).trans (by kernel_rfl)
noncomputable def G112 (a_a : List (DMapDisk)) (a_k : Int) : Option (Int × (List (DMapDisk)) × Int × Unit) := F112 (a_a, a_k, ())
theorem G112_eq (a_a : List (DMapDisk)) (a_k : Int) : (G112 a_a a_k) = ((lg112_0 a_k (0 : Int) a_a).bind fun o => match o with | .inl (y15 : Int × (List (DMapDisk)) × Unit) => (some (y15.1, y15.2.1, a_k, ()))) := by kernel_rfl
noncomputable def ac113 : ACode := acOf Try.prog 113
theorem gd113 : Good Try.prog (113, ac113, [.tmp 4], 34) := ⟨_, Try.func113, by kernel_rfl, by kernel_rfl, by kernel_rfl, by kernel_rfl⟩
/- laws.markMapViewS -/
def sk113_0 : Skel := ⟨mkE 34 [(0, .ref 0), (1, .int .i64), (5, .int .i64)], [], [some (.m .Z, MapView)], 1⟩
def ou113_0 : List (Option Nat × Skel) := [(some 0, ⟨mkE 34 [(1, .int .i64)], [], [some (.m .Z, MapView)], 1⟩)]
def an113 : List (Nat × An) := []
def S113 : List (Skel × List (Option Nat × Skel)) := [(sk113_0, ou113_0)]
def ps113 : List PK := [⟨some .S, false, [(.sl MapView)], false⟩, ⟨some .S, false, [I], false⟩]
def rs113 : List PK := [⟨some .S, false, [I], false⟩, ⟨some .S, false, [(.sl MapView)], false⟩, ⟨some .S, false, [I], false⟩]
noncomputable def F113 := FN (tabC T112) an113 S113 ac113 [.tmp 4] 34 true 1 ps113 rs113
noncomputable def T113 : List (FuncId × Ctr) := (113, ⟨false, true, 1, ps113, rs113, F113⟩) :: T112
theorem hT113 : AllC Try.prog T113 := AllC.io (an := an113) (S := S113) (ps := ps113) (rs := rs113) hT112 gd113 (by kernel_rfl)
noncomputable def lf113_0 : Int × Int × (List (DMapView)) × Unit → Option (Outs ou113_0) := lfp (vround (tabC T112) an113 (mkL (tabC T112) an113 [] (ac113.body 0)) (ac113.body 0) sk113_0 ou113_0)
noncomputable def lg113_0 (v_k : Int) (v_i : Int) (v_r0 : List (DMapView)) : Option (Sum (Int × (List (DMapView)) × Unit) (Empty)) := lf113_0 (v_k, v_i, v_r0, ())
theorem lg113_0_eq (v_k : Int) (v_i : Int) (v_r0 : List (DMapView)) : (lg113_0 v_k v_i v_r0) = (br (decide (v_i < (len v_r0))) (chk (inb v_i v_r0) (let e1 : DMapView := (v_r0.getD v_i.toNat DMapView.zero); (let e2 : List (DMapView) := (v_r0.set v_i.toNat (e1.withNum v_k)); (chk (inb v_i e2) (let e3 : DMapView := (e2.getD v_i.toNat DMapView.zero); (let e4 : List (DMapView) := (e2.set v_i.toNat (e3.withA (W (v_k + (1 : Int))))); (chk (inb v_i e4) (let e5 : DMapView := (e4.getD v_i.toNat DMapView.zero); (let e6 : List (DMapView) := (e4.set v_i.toNat (e5.withB (W ((W (v_k + (1 : Int))) + (1 : Int))))); (lg113_0 (W ((W ((W (v_k + (1 : Int))) + (1 : Int))) + (1 : Int))) (W (v_i + (1 : Int))) e6)))))))))) (some (.inl (v_k, v_r0, ())))) :=
  (show lf113_0 (v_k, v_i, v_r0, ()) = _ from lfp_eq (fun x => vround_lin _ _ _ _ x) _).trans (by kernel_rfl)
noncomputable def G113 (a_a : List (DMapView)) (a_k : Int) : Option (Int × (List (DMapView)) × Int × Unit) := F113 (a_a, a_k, ())
theorem G113_eq (a_a : List (DMapView)) (a_k : Int) : (G113 a_a a_k) = ((lg113_0 a_k (0 : Int) a_a).bind fun o => match o with | .inl (y7 : Int × (List (DMapView)) × Unit) => (some (y7.1, y7.2.1, a_k, ()))) := by kernel_rfl
noncomputable def ac114 : ACode := acOf Try.prog 114
theorem gd114 : Good Try.prog (114, ac114, [.tmp 4], 41) := ⟨_, Try.func114, by kernel_rfl, by kernel_rfl, by kernel_rfl, by kernel_rfl⟩
/- laws.markMapDoneS -/
def sk114_0 : Skel := ⟨mkE 41 [(0, .ref 0), (1, .int .i64), (5, .int .i64)], [], [some (.m .Z, MapDone)], 1⟩
def ou114_0 : List (Option Nat × Skel) := [(some 0, ⟨mkE 41 [(1, .int .i64)], [], [some (.m .Z, MapDone)], 1⟩)]
def an114 : List (Nat × An) := []
def S114 : List (Skel × List (Option Nat × Skel)) := [(sk114_0, ou114_0)]
def ps114 : List PK := [⟨some .S, false, [(.sl MapDone)], false⟩, ⟨some .S, false, [I], false⟩]
def rs114 : List PK := [⟨some .S, false, [I], false⟩, ⟨some .S, false, [(.sl MapDone)], false⟩, ⟨some .S, false, [I], false⟩]
noncomputable def F114 := FN (tabC T113) an114 S114 ac114 [.tmp 4] 41 true 1 ps114 rs114
noncomputable def T114 : List (FuncId × Ctr) := (114, ⟨false, true, 1, ps114, rs114, F114⟩) :: T113
theorem hT114 : AllC Try.prog T114 := AllC.io (an := an114) (S := S114) (ps := ps114) (rs := rs114) hT113 gd114 (by kernel_rfl)
noncomputable def lf114_0 : Int × Int × (List (DMapDone)) × Unit → Option (Outs ou114_0) := lfp (vround (tabC T113) an114 (mkL (tabC T113) an114 [] (ac114.body 0)) (ac114.body 0) sk114_0 ou114_0)
noncomputable def lg114_0 (v_k : Int) (v_i : Int) (v_r0 : List (DMapDone)) : Option (Sum (Int × (List (DMapDone)) × Unit) (Empty)) := lf114_0 (v_k, v_i, v_r0, ())
theorem lg114_0_eq (v_k : Int) (v_i : Int) (v_r0 : List (DMapDone)) : (lg114_0 v_k v_i v_r0) = (br (decide (v_i < (len v_r0))) (chk (inb v_i v_r0) (let e1 : DMapDone := (v_r0.getD v_i.toNat DMapDone.zero); (let e2 : List (DMapDone) := (v_r0.set v_i.toNat (e1.withClient v_k)); (chk (inb v_i e2) (let e3 : DMapDone := (e2.getD v_i.toNat DMapDone.zero); (let e4 : List (DMapDone) := (e2.set v_i.toNat (e3.withCall (W (v_k + (1 : Int))))); (chk (inb v_i e4) (let e5 : DMapDone := (e4.getD v_i.toNat DMapDone.zero); (let e6 : List (DMapDone) := (e4.set v_i.toNat (e5.withCode (W ((W (v_k + (1 : Int))) + (1 : Int))))); (chk (inb v_i e6) (let e7 : DMapDone := (e6.getD v_i.toNat DMapDone.zero); (let e8 : List (DMapDone) := (e6.set v_i.toNat (e7.withValue (W ((W ((W (v_k + (1 : Int))) + (1 : Int))) + (1 : Int))))); (lg114_0 (W ((W ((W ((W (v_k + (1 : Int))) + (1 : Int))) + (1 : Int))) + (1 : Int))) (W (v_i + (1 : Int))) e8))))))))))))) (some (.inl (v_k, v_r0, ())))) :=
  (show lf114_0 (v_k, v_i, v_r0, ()) = _ from lfp_eq (fun x => vround_lin _ _ _ _ x) _).trans (by kernel_rfl)
noncomputable def G114 (a_a : List (DMapDone)) (a_k : Int) : Option (Int × (List (DMapDone)) × Int × Unit) := F114 (a_a, a_k, ())
theorem G114_eq (a_a : List (DMapDone)) (a_k : Int) : (G114 a_a a_k) = ((lg114_0 a_k (0 : Int) a_a).bind fun o => match o with | .inl (y9 : Int × (List (DMapDone)) × Unit) => (some (y9.1, y9.2.1, a_k, ()))) := by kernel_rfl
noncomputable def ac45 : ACode := acOf Try.prog 45
theorem gd45 : Good Try.prog (45, ac45, [.tmp 4], 18) := ⟨_, Try.func45, by kernel_rfl, by kernel_rfl, by kernel_rfl, by kernel_rfl⟩
/- laws.markMapState -/
def an45 : List (Nat × An) := []
def S45 : List (Skel × List (Option Nat × Skel)) := []
def ps45 : List PK := [⟨some .S, true, MapState, false⟩, ⟨some .S, false, [I], false⟩]
def rs45 : List PK := [⟨some .S, false, [I], false⟩, ⟨some .S, true, MapState, false⟩, ⟨some .S, false, [I], false⟩]
noncomputable def F45 := FN (tabC T114) an45 S45 ac45 [.tmp 4] 18 true 1 ps45 rs45
noncomputable def T45 : List (FuncId × Ctr) := (45, ⟨false, true, 1, ps45, rs45, F45⟩) :: T114
theorem hT45 : AllC Try.prog T45 := AllC.io (an := an45) (S := S45) (ps := ps45) (rs := rs45) hT114 gd45 (by kernel_rfl)
abbrev R45 := Int × Int × Int × Int × (List (DMapDisk)) × (List (DMapView)) × (List (DMapDone)) × Int × Unit
abbrev R45.r0 (y : R45) : Int := y.1
abbrev R45.r1 (y : R45) : DMapState := (y.2.1, y.2.2.1, y.2.2.2.1, y.2.2.2.2.1, y.2.2.2.2.2.1, y.2.2.2.2.2.2.1, ())
abbrev R45.r2 (y : R45) : Int := y.2.2.2.2.2.2.2.1
abbrev R45.mk (r0 : Int) (r1 : DMapState) (r2 : Int) : R45 := (r0, r1.1, r1.2.1, r1.2.2.1, r1.2.2.2.1, r1.2.2.2.2.1, r1.2.2.2.2.2.1, r2, ())
noncomputable def G45 (a_a : DMapState) (a_k : Int) : Option (R45) := F45 (a_a.1, a_a.2.1, a_a.2.2.1, a_a.2.2.2.1, a_a.2.2.2.2.1, a_a.2.2.2.2.2.1, a_k, ())
theorem G45_eq (a_a : DMapState) (a_k : Int) : (G45 a_a a_k) = ((G112 a_a.Disks a_k).bind fun (y1 : Int × (List (DMapDisk)) × Int × Unit) => ((G113 a_a.Views y1.1).bind fun (y2 : Int × (List (DMapView)) × Int × Unit) => ((G114 a_a.Done y2.1).bind fun (y3 : Int × (List (DMapDone)) × Int × Unit) => (some (R45.mk y3.1 (((a_a.withDisks y1.2.1).withViews y2.2.1).withDone y3.2.1) a_k))))) := by kernel_rfl
noncomputable def ac162 : ACode := acOf Try.prog 162
theorem gd162 : Good Try.prog (162, ac162, [.tmp 4], 21) := ⟨_, Try.func162, by kernel_rfl, by kernel_rfl, by kernel_rfl, by kernel_rfl⟩
/- laws.heldIntS -/
def sk162_0 : Skel := ⟨mkE 21 [(0, .lst [I]), (1, .int .i64), (5, .int .i64)], [], [], 0⟩
def ou162_0 : List (Option Nat × Skel) := [(some 0, ⟨mkE 21 [(1, .int .i64)], [], [], 0⟩), (none, ⟨mkE 21 [(4, .int .i64)], [], [], 0⟩)]
def an162 : List (Nat × An) := []
def S162 : List (Skel × List (Option Nat × Skel)) := [(sk162_0, ou162_0)]
def ps162 : List PK := [⟨none, false, [(.sl [I])], false⟩, ⟨none, false, [I], false⟩]
def rs162 : List PK := [⟨some .S, false, [I], false⟩]
noncomputable def F162 := FN (tabC T45) an162 S162 ac162 [.tmp 4] 21 false 1 ps162 rs162
noncomputable def T162 : List (FuncId × Ctr) := (162, ⟨true, false, 1, ps162, rs162, F162⟩) :: T45
theorem hT162 : AllC Try.prog T162 := AllC.fresh (an := an162) (S := S162) (ps := ps162) (rs := rs162) hT45 gd162 (by kernel_rfl)
noncomputable def lf162_0 : (List (Int × Unit)) × Int × Int × Unit → Option (Outs ou162_0) := lfp (vround (tabC T45) an162 (mkL (tabC T45) an162 [] (ac162.body 0)) (ac162.body 0) sk162_0 ou162_0)
noncomputable def lg162_0 (v_a : List (Int × Unit)) (v_k : Int) (v_i : Int) : Option (Sum (Int × Unit) (Sum (Int × Unit) (Empty))) := lf162_0 (v_a, v_k, v_i, ())
theorem lg162_0_eq (v_a : List (Int × Unit)) (v_k : Int) (v_i : Int) : (lg162_0 v_a v_k v_i) = (br (decide (v_i < (len v_a))) (chk (inb v_i v_a) (br ((v_a.getD v_i.toNat ((0 : Int), ())).1 != v_k) (some (.inr (.inl ((-1 : Int), ())))) (lg162_0 v_a (W (v_k + (1 : Int))) (W (v_i + (1 : Int)))))) (some (.inl (v_k, ())))) :=
  (show lf162_0 (v_a, v_k, v_i, ()) = _ from lfp_eq (fun x => vround_lin _ _ _ _ x) _).trans (by kernel_rfl)
noncomputable def G162 (a_a : List (Int × Unit)) (a_k : Int) : Option (Int × Unit) := F162 (a_a, a_k, ())
theorem G162_eq (a_a : List (Int × Unit)) (a_k : Int) : (G162 a_a a_k) = ((lg162_0 a_a a_k (0 : Int)).bind fun o => match o with | .inl (y1 : Int × Unit) => (some (y1.1, ())) | .inr (.inl (y2 : Int × Unit)) => (some (y2.1, ()))) := by kernel_rfl
noncomputable def ac115 : ACode := acOf Try.prog 115
theorem gd115 : Good Try.prog (115, ac115, [.tmp 4], 76) := ⟨_, Try.func115, by kernel_rfl, by kernel_rfl, by kernel_rfl, by kernel_rfl⟩
/- laws.heldMapDiskS -/
def sk115_0 : Skel := ⟨mkE 76 [(0, .lst MapDisk), (1, .int .i64), (5, .int .i64)], [], [], 0⟩
def ou115_0 : List (Option Nat × Skel) := [(some 0, ⟨mkE 76 [(1, .int .i64)], [], [], 0⟩), (none, ⟨mkE 76 [(4, .int .i64)], [], [], 0⟩)]
def an115 : List (Nat × An) := []
def S115 : List (Skel × List (Option Nat × Skel)) := [(sk115_0, ou115_0)]
def ps115 : List PK := [⟨none, false, [(.sl MapDisk)], false⟩, ⟨none, false, [I], false⟩]
def rs115 : List PK := [⟨some .S, false, [I], false⟩]
noncomputable def F115 := FN (tabC T162) an115 S115 ac115 [.tmp 4] 76 false 1 ps115 rs115
noncomputable def T115 : List (FuncId × Ctr) := (115, ⟨true, false, 1, ps115, rs115, F115⟩) :: T162
theorem hT115 : AllC Try.prog T115 := AllC.fresh (an := an115) (S := S115) (ps := ps115) (rs := rs115) hT162 gd115 (by kernel_rfl)
noncomputable def lf115_0 : (List (DMapDisk)) × Int × Int × Unit → Option (Outs ou115_0) := lfp (vround (tabC T162) an115 (mkL (tabC T162) an115 [] (ac115.body 0)) (ac115.body 0) sk115_0 ou115_0)
noncomputable def lg115_0 (v_a : List (DMapDisk)) (v_k : Int) (v_i : Int) : Option (Sum (Int × Unit) (Sum (Int × Unit) (Empty))) := lf115_0 (v_a, v_k, v_i, ())
theorem lg115_0_eq (v_a : List (DMapDisk)) (v_k : Int) (v_i : Int) : (lg115_0 v_a v_k v_i) = (br (decide (v_i < (len v_a))) (chk (inb v_i v_a) (let e1 : DMapDisk := (v_a.getD v_i.toNat DMapDisk.zero); (br (e1.Id != v_k) (some (.inr (.inl ((-1 : Int), ())))) (chk (inb v_i v_a) (let e2 : DMapDisk := (v_a.getD v_i.toNat DMapDisk.zero); (br (e2.Size != (W (v_k + (1 : Int)))) (some (.inr (.inl ((-1 : Int), ())))) (chk (inb v_i v_a) (let e3 : DMapDisk := (v_a.getD v_i.toNat DMapDisk.zero); (br (e3.Epoch != (W ((W (v_k + (1 : Int))) + (1 : Int)))) (some (.inr (.inl ((-1 : Int), ())))) (chk (inb v_i v_a) (let e4 : DMapDisk := (v_a.getD v_i.toNat DMapDisk.zero); (br (e4.Frozen != (W ((W ((W (v_k + (1 : Int))) + (1 : Int))) + (1 : Int)))) (some (.inr (.inl ((-1 : Int), ())))) (chk (inb v_i v_a) (let e5 : DMapDisk := (v_a.getD v_i.toNat DMapDisk.zero); (br (e5.Client != (W ((W ((W ((W (v_k + (1 : Int))) + (1 : Int))) + (1 : Int))) + (1 : Int)))) (some (.inr (.inl ((-1 : Int), ())))) (chk (inb v_i v_a) (let e6 : DMapDisk := (v_a.getD v_i.toNat DMapDisk.zero); (br (e6.Call != (W ((W ((W ((W ((W (v_k + (1 : Int))) + (1 : Int))) + (1 : Int))) + (1 : Int))) + (1 : Int)))) (some (.inr (.inl ((-1 : Int), ())))) (chk (inb v_i v_a) (let e7 : DMapDisk := (v_a.getD v_i.toNat DMapDisk.zero); ((G162 e7.Acks (W ((W ((W ((W ((W ((W (v_k + (1 : Int))) + (1 : Int))) + (1 : Int))) + (1 : Int))) + (1 : Int))) + (1 : Int)))).bind fun (y8 : Int × Unit) => (br (decide (y8.1 < (0 : Int))) (some (.inr (.inl ((-1 : Int), ())))) (lg115_0 v_a y8.1 (W (v_i + (1 : Int)))))))))))))))))))))))))) (some (.inl (v_k, ())))) :=
  (show lf115_0 (v_a, v_k, v_i, ()) = _ from lfp_eq (fun x => vround_lin _ _ _ _ x) _).trans (by kernel_rfl)
noncomputable def G115 (a_a : List (DMapDisk)) (a_k : Int) : Option (Int × Unit) := F115 (a_a, a_k, ())
theorem G115_eq (a_a : List (DMapDisk)) (a_k : Int) : (G115 a_a a_k) = ((lg115_0 a_a a_k (0 : Int)).bind fun o => match o with | .inl (y9 : Int × Unit) => (some (y9.1, ())) | .inr (.inl (y10 : Int × Unit)) => (some (y10.1, ()))) := by kernel_rfl
noncomputable def ac116 : ACode := acOf Try.prog 116
theorem gd116 : Good Try.prog (116, ac116, [.tmp 4], 40) := ⟨_, Try.func116, by kernel_rfl, by kernel_rfl, by kernel_rfl, by kernel_rfl⟩
/- laws.heldMapViewS -/
def sk116_0 : Skel := ⟨mkE 40 [(0, .lst MapView), (1, .int .i64), (5, .int .i64)], [], [], 0⟩
def ou116_0 : List (Option Nat × Skel) := [(some 0, ⟨mkE 40 [(1, .int .i64)], [], [], 0⟩), (none, ⟨mkE 40 [(4, .int .i64)], [], [], 0⟩)]
def an116 : List (Nat × An) := []
def S116 : List (Skel × List (Option Nat × Skel)) := [(sk116_0, ou116_0)]
def ps116 : List PK := [⟨none, false, [(.sl MapView)], false⟩, ⟨none, false, [I], false⟩]
def rs116 : List PK := [⟨some .S, false, [I], false⟩]
noncomputable def F116 := FN (tabC T115) an116 S116 ac116 [.tmp 4] 40 false 1 ps116 rs116
noncomputable def T116 : List (FuncId × Ctr) := (116, ⟨true, false, 1, ps116, rs116, F116⟩) :: T115
theorem hT116 : AllC Try.prog T116 := AllC.fresh (an := an116) (S := S116) (ps := ps116) (rs := rs116) hT115 gd116 (by kernel_rfl)
noncomputable def lf116_0 : (List (DMapView)) × Int × Int × Unit → Option (Outs ou116_0) := lfp (vround (tabC T115) an116 (mkL (tabC T115) an116 [] (ac116.body 0)) (ac116.body 0) sk116_0 ou116_0)
noncomputable def lg116_0 (v_a : List (DMapView)) (v_k : Int) (v_i : Int) : Option (Sum (Int × Unit) (Sum (Int × Unit) (Empty))) := lf116_0 (v_a, v_k, v_i, ())
theorem lg116_0_eq (v_a : List (DMapView)) (v_k : Int) (v_i : Int) : (lg116_0 v_a v_k v_i) = (br (decide (v_i < (len v_a))) (chk (inb v_i v_a) (let e1 : DMapView := (v_a.getD v_i.toNat DMapView.zero); (br (e1.Num != v_k) (some (.inr (.inl ((-1 : Int), ())))) (chk (inb v_i v_a) (let e2 : DMapView := (v_a.getD v_i.toNat DMapView.zero); (br (e2.A != (W (v_k + (1 : Int)))) (some (.inr (.inl ((-1 : Int), ())))) (chk (inb v_i v_a) (let e3 : DMapView := (v_a.getD v_i.toNat DMapView.zero); (br (e3.B != (W ((W (v_k + (1 : Int))) + (1 : Int)))) (some (.inr (.inl ((-1 : Int), ())))) (lg116_0 v_a (W ((W ((W (v_k + (1 : Int))) + (1 : Int))) + (1 : Int))) (W (v_i + (1 : Int))))))))))))) (some (.inl (v_k, ())))) :=
  (show lf116_0 (v_a, v_k, v_i, ()) = _ from lfp_eq (fun x => vround_lin _ _ _ _ x) _).trans (by kernel_rfl)
noncomputable def G116 (a_a : List (DMapView)) (a_k : Int) : Option (Int × Unit) := F116 (a_a, a_k, ())
theorem G116_eq (a_a : List (DMapView)) (a_k : Int) : (G116 a_a a_k) = ((lg116_0 a_a a_k (0 : Int)).bind fun o => match o with | .inl (y4 : Int × Unit) => (some (y4.1, ())) | .inr (.inl (y5 : Int × Unit)) => (some (y5.1, ()))) := by kernel_rfl
noncomputable def ac117 : ACode := acOf Try.prog 117
theorem gd117 : Good Try.prog (117, ac117, [.tmp 4], 49) := ⟨_, Try.func117, by kernel_rfl, by kernel_rfl, by kernel_rfl, by kernel_rfl⟩
/- laws.heldMapDoneS -/
def sk117_0 : Skel := ⟨mkE 49 [(0, .lst MapDone), (1, .int .i64), (5, .int .i64)], [], [], 0⟩
def ou117_0 : List (Option Nat × Skel) := [(some 0, ⟨mkE 49 [(1, .int .i64)], [], [], 0⟩), (none, ⟨mkE 49 [(4, .int .i64)], [], [], 0⟩)]
def an117 : List (Nat × An) := []
def S117 : List (Skel × List (Option Nat × Skel)) := [(sk117_0, ou117_0)]
def ps117 : List PK := [⟨none, false, [(.sl MapDone)], false⟩, ⟨none, false, [I], false⟩]
def rs117 : List PK := [⟨some .S, false, [I], false⟩]
noncomputable def F117 := FN (tabC T116) an117 S117 ac117 [.tmp 4] 49 false 1 ps117 rs117
noncomputable def T117 : List (FuncId × Ctr) := (117, ⟨true, false, 1, ps117, rs117, F117⟩) :: T116
theorem hT117 : AllC Try.prog T117 := AllC.fresh (an := an117) (S := S117) (ps := ps117) (rs := rs117) hT116 gd117 (by kernel_rfl)
noncomputable def lf117_0 : (List (DMapDone)) × Int × Int × Unit → Option (Outs ou117_0) := lfp (vround (tabC T116) an117 (mkL (tabC T116) an117 [] (ac117.body 0)) (ac117.body 0) sk117_0 ou117_0)
noncomputable def lg117_0 (v_a : List (DMapDone)) (v_k : Int) (v_i : Int) : Option (Sum (Int × Unit) (Sum (Int × Unit) (Empty))) := lf117_0 (v_a, v_k, v_i, ())
theorem lg117_0_eq (v_a : List (DMapDone)) (v_k : Int) (v_i : Int) : (lg117_0 v_a v_k v_i) = (br (decide (v_i < (len v_a))) (chk (inb v_i v_a) (let e1 : DMapDone := (v_a.getD v_i.toNat DMapDone.zero); (br (e1.Client != v_k) (some (.inr (.inl ((-1 : Int), ())))) (chk (inb v_i v_a) (let e2 : DMapDone := (v_a.getD v_i.toNat DMapDone.zero); (br (e2.Call != (W (v_k + (1 : Int)))) (some (.inr (.inl ((-1 : Int), ())))) (chk (inb v_i v_a) (let e3 : DMapDone := (v_a.getD v_i.toNat DMapDone.zero); (br (e3.Code != (W ((W (v_k + (1 : Int))) + (1 : Int)))) (some (.inr (.inl ((-1 : Int), ())))) (chk (inb v_i v_a) (let e4 : DMapDone := (v_a.getD v_i.toNat DMapDone.zero); (br (e4.Value != (W ((W ((W (v_k + (1 : Int))) + (1 : Int))) + (1 : Int)))) (some (.inr (.inl ((-1 : Int), ())))) (lg117_0 v_a (W ((W ((W ((W (v_k + (1 : Int))) + (1 : Int))) + (1 : Int))) + (1 : Int))) (W (v_i + (1 : Int)))))))))))))))) (some (.inl (v_k, ())))) :=
  (show lf117_0 (v_a, v_k, v_i, ()) = _ from lfp_eq (fun x => vround_lin _ _ _ _ x) _).trans (by kernel_rfl)
noncomputable def G117 (a_a : List (DMapDone)) (a_k : Int) : Option (Int × Unit) := F117 (a_a, a_k, ())
theorem G117_eq (a_a : List (DMapDone)) (a_k : Int) : (G117 a_a a_k) = ((lg117_0 a_a a_k (0 : Int)).bind fun o => match o with | .inl (y5 : Int × Unit) => (some (y5.1, ())) | .inr (.inl (y6 : Int × Unit)) => (some (y6.1, ()))) := by kernel_rfl
noncomputable def ac46 : ACode := acOf Try.prog 46
theorem gd46 : Good Try.prog (46, ac46, [.tmp 4], 24) := ⟨_, Try.func46, by kernel_rfl, by kernel_rfl, by kernel_rfl, by kernel_rfl⟩
/- laws.heldMapState -/
def an46 : List (Nat × An) := []
def S46 : List (Skel × List (Option Nat × Skel)) := []
def ps46 : List PK := [⟨none, true, MapState, false⟩, ⟨none, false, [I], false⟩]
def rs46 : List PK := [⟨some .S, false, [I], false⟩]
noncomputable def F46 := FN (tabC T117) an46 S46 ac46 [.tmp 4] 24 false 1 ps46 rs46
noncomputable def T46 : List (FuncId × Ctr) := (46, ⟨true, false, 1, ps46, rs46, F46⟩) :: T117
theorem hT46 : AllC Try.prog T46 := AllC.fresh (an := an46) (S := S46) (ps := ps46) (rs := rs46) hT117 gd46 (by kernel_rfl)
noncomputable def G46 (a_a : DMapState) (a_k : Int) : Option (Int × Unit) := F46 (a_a.1, a_a.2.1, a_a.2.2.1, a_a.2.2.2.1, a_a.2.2.2.2.1, a_a.2.2.2.2.2.1, a_k, ())
theorem G46_eq (a_a : DMapState) (a_k : Int) : (G46 a_a a_k) = ((G115 a_a.Disks a_k).bind fun (y1 : Int × Unit) => (br (decide (y1.1 < (0 : Int))) (some ((-1 : Int), ())) ((G116 a_a.Views y1.1).bind fun (y2 : Int × Unit) => (br (decide (y2.1 < (0 : Int))) (some ((-1 : Int), ())) ((G117 a_a.Done y2.1).bind fun (y3 : Int × Unit) => (br (decide (y3.1 < (0 : Int))) (some ((-1 : Int), ())) (some (y3.1, ())))))))) := by kernel_rfl
noncomputable def ac10 : ACode := acOf Try.prog 10
theorem gd10 : Good Try.prog (10, ac10, [.tmp 2], 69) := ⟨_, Try.func10, by kernel_rfl, by kernel_rfl, by kernel_rfl, by kernel_rfl⟩
/- laws.FnExactMapOf -/
def an10 : List (Nat × An) := [(20, .rows), (22, .rows)]
def S10 : List (Skel × List (Option Nat × Skel)) := []
def ps10 : List PK := [⟨none, false, [(.sl Cmd)], false⟩]
def rs10 : List PK := [⟨some .S, false, [.bool], false⟩]
noncomputable def F10 := FN (tabC T46) an10 S10 ac10 [.tmp 2] 69 false 1 ps10 rs10
noncomputable def T10 : List (FuncId × Ctr) := (10, ⟨true, false, 1, ps10, rs10, F10⟩) :: T46
theorem hT10 : AllC Try.prog T10 := AllC.fresh (an := an10) (S := S10) (ps := ps10) (rs := rs10) hT46 gd10 (by kernel_rfl)
noncomputable def G10 (a_aList : List (DCmd)) : Option (Bool × Unit) := F10 (a_aList, ())
theorem G10_eq (a_aList : List (DCmd)) : (G10 a_aList) = ((G38 a_aList (1048576 : Int)).bind fun (y1 : Int × Unit) => (br (decide (y1.1 < (0 : Int))) (some (true, ())) ((G40 a_aList).bind fun (y2 : (List (DCmd)) × Unit) => ((G39 y2.1).bind fun (y3 : DMapState) => ((G40 a_aList).bind fun (y4 : (List (DCmd)) × Unit) => ((G41 y4.1).bind fun (y5 : DMapState) => ((G42 y5 y3).bind fun (y6 : Bool × Unit) => (br (!y6.1) (some (false, ())) ((G40 a_aList).bind fun (y7 : (List (DCmd)) × Unit) => ((G43 y4.1 y7.1).bind fun (y8 : Bool × Unit) => (br (!y8.1) (some (false, ())) ((G44 y4.1 (1 : Int)).bind fun (y9 : Int × (List (DCmd)) × Int × Unit) => (chk ((G42 y5 y3).isSome || (!(!(decide (y9.1 < (0 : Int)))))) (br ((decide (y9.1 < (0 : Int))) || (!((G42 y5 y3).getD (false, ())).1)) (some (false, ())) ((G45 y5 (1 : Int)).bind fun (y10 : R45) => ((G46 (((y5.withDisks y10.r1.Disks).withViews y10.r1.Views).withDone y10.r1.Done) (1 : Int)).bind fun (y11 : Int × Unit) => (br (decide (y11.1 < (0 : Int))) (some (false, ())) (br (y11.1 != y10.r0) (some (false, ())) ((G40 a_aList).bind fun (y12 : (List (DCmd)) × Unit) => ((G41 y12.1).bind fun (y13 : DMapState) => ((G42 y13 y3).bind fun (y14 : Bool × Unit) => (br (!y14.1) (some (false, ())) ((G46 (((y5.withDisks y10.r1.Disks).withViews y10.r1.Views).withDone y10.r1.Done) (1 : Int)).bind fun (y15 : Int × Unit) => (br (decide (y15.1 < (0 : Int))) (some (false, ())) (br (y15.1 != y10.r0) (some (false, ())) (some (true, ()))))))))))))))))))))))))))) := by kernel_rfl
noncomputable def ac172 : ACode := acOf Try.prog 172
theorem gd172 : Good Try.prog (172, ac172, [.tmp 2], 61) := ⟨_, Try.func172, by kernel_rfl, by kernel_rfl, by kernel_rfl, by kernel_rfl⟩
/- impl.frozenOk -/
def sk172_0 : Skel := ⟨mkE 61 [(1, .box 0 0), (23, .lst [I]), (24, .int .i64), (25, .int .i64)], [some [.int .i64, .int .i64, .int .i64, .int .i64, .int .i64, .int .i64, .lst [I]]], [], 0⟩
def ou172_0 : List (Option Nat × Skel) := [(some 0, ⟨mkE 61 [(1, .box 0 0)], [some [.int .i64, .int .i64, .int .i64, .int .i64, .int .i64, .int .i64, .lst [I]]], [], 0⟩), (none, ⟨mkE 61 [(2, .bool)], [], [], 0⟩)]
def an172 : List (Nat × An) := []
def S172 : List (Skel × List (Option Nat × Skel)) := [(sk172_0, ou172_0)]
def ps172 : List PK := [⟨none, true, MapDisk, false⟩]
def rs172 : List PK := [⟨some .S, false, [.bool], false⟩]
noncomputable def F172 := FN (tabC T10) an172 S172 ac172 [.tmp 2] 61 false 1 ps172 rs172
noncomputable def T172 : List (FuncId × Ctr) := (172, ⟨true, false, 1, ps172, rs172, F172⟩) :: T10
theorem hT172 : AllC Try.prog T172 := AllC.fresh (an := an172) (S := S172) (ps := ps172) (rs := rs172) hT10 gd172 (by kernel_rfl)
noncomputable def lf172_0 : (List (Int × Unit)) × Int × Int × Int × Int × Int × Int × Int × Int × (List (Int × Unit)) × Unit → Option (Outs ou172_0) := lfp (vround (tabC T10) an172 (mkL (tabC T10) an172 [] (ac172.body 0)) (ac172.body 0) sk172_0 ou172_0)
noncomputable def lg172_0 (v_t23 : List (Int × Unit)) (v_t24 : Int) (v_t25 : Int) (v_b0_0 : Int) (v_b0_1 : Int) (v_b0_2 : Int) (v_b0_3 : Int) (v_b0_4 : Int) (v_b0_5 : Int) (v_b0_6 : List (Int × Unit)) : Option (Sum (DMapDisk) (Sum (Bool × Unit) (Empty))) := lf172_0 (v_t23, v_t24, v_t25, v_b0_0, v_b0_1, v_b0_2, v_b0_3, v_b0_4, v_b0_5, v_b0_6, ())
theorem lg172_0_eq (v_t23 : List (Int × Unit)) (v_t24 : Int) (v_t25 : Int) (v_b0_0 : Int) (v_b0_1 : Int) (v_b0_2 : Int) (v_b0_3 : Int) (v_b0_4 : Int) (v_b0_5 : Int) (v_b0_6 : List (Int × Unit)) : (lg172_0 v_t23 v_t24 v_t25 v_b0_0 v_b0_1 v_b0_2 v_b0_3 v_b0_4 v_b0_5 v_b0_6) = (br (decide (v_t25 < v_t24)) (chk (decide (0 ≤ v_t25 ∧ v_t25 < ((v_t23.length : Nat) : Int))) (chk ((decide (0 ≤ (0 : Int) ∧ (0 : Int) ≤ v_t25 ∧ v_t25 ≤ ((v_b0_6.length : Nat) : Int))) || (!(!(!(f103 ((v_t23.getD v_t25.toNat ((0 : Int), ())).1)))))) (chk ((G182 ((v_b0_6.take v_t25.toNat).drop 0) ((v_t23.getD v_t25.toNat ((0 : Int), ())).1)).isSome || (!(!(!(f103 ((v_t23.getD v_t25.toNat ((0 : Int), ())).1)))))) (br ((!(f103 ((v_t23.getD v_t25.toNat ((0 : Int), ())).1))) || ((G182 ((v_b0_6.take v_t25.toNat).drop 0) ((v_t23.getD v_t25.toNat ((0 : Int), ())).1)).getD (false, ())).1) (some (.inr (.inl (false, ())))) (lg172_0 v_t23 v_t24 (IntKind.i64.wrap (v_t25 + (1 : Int))) v_b0_0 v_b0_1 v_b0_2 v_b0_3 v_b0_4 v_b0_5 v_b0_6))))) (some (.inl (v_b0_0, v_b0_1, v_b0_2, v_b0_3, v_b0_4, v_b0_5, v_b0_6, ())))) :=
  (show lf172_0 (v_t23, v_t24, v_t25, v_b0_0, v_b0_1, v_b0_2, v_b0_3, v_b0_4, v_b0_5, v_b0_6, ()) = _ from lfp_eq (fun x => vround_lin _ _ _ _ x) _).trans (by kernel_rfl)
noncomputable def G172 (a_d0 : Int) (a_d1 : Int) (a_d2 : Int) (a_d3 : Int) (a_d4 : Int) (a_d5 : Int) (a_d6 : List (Int × Unit)) : Option (Bool × Unit) := F172 (a_d0, a_d1, a_d2, a_d3, a_d4, a_d5, a_d6, ())
theorem G172_eq (a_d0 : Int) (a_d1 : Int) (a_d2 : Int) (a_d3 : Int) (a_d4 : Int) (a_d5 : Int) (a_d6 : List (Int × Unit)) : (G172 a_d0 a_d1 a_d2 a_d3 a_d4 a_d5 a_d6) = (br (a_d3 == (0 : Int)) (some ((((a_d4 == (0 : Int)) && (a_d5 == (0 : Int))) && (((a_d6.length : Nat) : Int) == (0 : Int))), ())) ((lg172_0 a_d6 ((a_d6.length : Nat) : Int) (0 : Int) a_d0 a_d1 a_d2 a_d3 a_d4 a_d5 a_d6).bind fun o => match o with | .inl (y1 : DMapDisk) => (some (((((f64 y1.2.2.2.1 (1 : Int) (2 : Int)) && (f143 y1.2.2.2.2.1)) && (f64 y1.2.2.2.2.2.1 (1 : Int) (99999 : Int))) && (decide (((y1.2.2.2.2.2.2.1.length : Nat) : Int) < (3 : Int)))), ())) | .inr (.inl (y2 : Bool × Unit)) => (some (y2.1, ())))) := by kernel_rfl
noncomputable def ac130 : ACode := acOf Try.prog 130
theorem gd130 : Good Try.prog (130, ac130, [.tmp 6], 68) := ⟨_, Try.func130, by kernel_rfl, by kernel_rfl, by kernel_rfl, by kernel_rfl⟩
/- impl.disksOk -/
def sk130_0 : Skel := ⟨mkE 68 [(1, .int .i64), (2, .lst MapDisk), (22, .lst MapDisk), (23, .int .i64), (24, .int .i64)], [], [], 0⟩
def ou130_0 : List (Option Nat × Skel) := [(some 0, ⟨mkE 68 [], [], [], 0⟩), (none, ⟨mkE 68 [(6, .bool)], [], [], 0⟩)]
def an130 : List (Nat × An) := []
def S130 : List (Skel × List (Option Nat × Skel)) := [(sk130_0, ou130_0)]
def ps130 : List PK := [⟨none, false, [I], false⟩, ⟨none, false, [I], false⟩, ⟨none, false, [(.sl MapDisk)], false⟩]
def rs130 : List PK := [⟨some .S, false, [.bool], false⟩]
noncomputable def F130 := FN (tabC T172) an130 S130 ac130 [.tmp 6] 68 false 1 ps130 rs130
noncomputable def T130 : List (FuncId × Ctr) := (130, ⟨true, false, 1, ps130, rs130, F130⟩) :: T172
theorem hT130 : AllC Try.prog T130 := AllC.fresh (an := an130) (S := S130) (ps := ps130) (rs := rs130) hT172 gd130 (by kernel_rfl)
noncomputable def lf130_0 : Int × (List (DMapDisk)) × (List (DMapDisk)) × Int × Int × Unit → Option (Outs ou130_0) := lfp (vround (tabC T172) an130 (mkL (tabC T172) an130 [] (ac130.body 0)) (ac130.body 0) sk130_0 ou130_0)
noncomputable def lg130_0 (v_next : Int) (v_list : List (DMapDisk)) (v_t22 : List (DMapDisk)) (v_t23 : Int) (v_t24 : Int) : Option (Sum (Unit) (Sum (Bool × Unit) (Empty))) := lf130_0 (v_next, v_list, v_t22, v_t23, v_t24, ())
theorem lg130_0_eq (v_next : Int) (v_list : List (DMapDisk)) (v_t22 : List (DMapDisk)) (v_t23 : Int) (v_t24 : Int) : (lg130_0 v_next v_list v_t22 v_t23 v_t24) = (br (decide (v_t24 < v_t23)) (chk (decide (0 ≤ v_t24 ∧ v_t24 < ((v_t22.length : Nat) : Int))) (let e1 : DMapDisk := (v_t22.getD v_t24.toNat ((0 : Int), (0 : Int), (0 : Int), (0 : Int), (0 : Int), (0 : Int), [], ())); (chk ((decide (0 ≤ (IntKind.i64.wrap (v_t24 - (1 : Int))) ∧ (IntKind.i64.wrap (v_t24 - (1 : Int))) < ((v_list.length : Nat) : Int))) || (!((!(!(f64 e1.1 (1 : Int) (IntKind.i64.wrap (v_next - (1 : Int)))))) && (decide (v_t24 > (0 : Int)))))) (let e2 : DMapDisk := (v_list.getD (IntKind.i64.wrap (v_t24 - (1 : Int))).toNat ((0 : Int), (0 : Int), (0 : Int), (0 : Int), (0 : Int), (0 : Int), [], ())); (chk ((G172 e1.1 e1.2.1 e1.2.2.1 e1.2.2.2.1 e1.2.2.2.2.1 e1.2.2.2.2.2.1 e1.2.2.2.2.2.2.1).isSome || (!(!((((!(f64 e1.1 (1 : Int) (IntKind.i64.wrap (v_next - (1 : Int))))) || ((decide (v_t24 > (0 : Int))) && (decide (e2.1 ≥ e1.1)))) || (!(f64 e1.2.1 (1 : Int) (8 : Int)))) || (!(f64 e1.2.2.1 (1 : Int) (99999 : Int))))))) (br (((((!(f64 e1.1 (1 : Int) (IntKind.i64.wrap (v_next - (1 : Int))))) || ((decide (v_t24 > (0 : Int))) && (decide (e2.1 ≥ e1.1)))) || (!(f64 e1.2.1 (1 : Int) (8 : Int)))) || (!(f64 e1.2.2.1 (1 : Int) (99999 : Int)))) || (!((G172 e1.1 e1.2.1 e1.2.2.1 e1.2.2.2.1 e1.2.2.2.2.1 e1.2.2.2.2.2.1 e1.2.2.2.2.2.2.1).getD (false, ())).1)) (some (.inr (.inl (false, ())))) (lg130_0 v_next v_list v_t22 v_t23 (IntKind.i64.wrap (v_t24 + (1 : Int)))))))))) (some (.inl (())))) :=
  (show lf130_0 (v_next, v_list, v_t22, v_t23, v_t24, ()) = _ from lfp_eq (fun x => vround_lin _ _ _ _ x) _).trans (by kernel_rfl)
noncomputable def G130 (a_servers : Int) (a_next : Int) (a_list : List (DMapDisk)) : Option (Bool × Unit) := F130 (a_servers, a_next, a_list, ())
theorem G130_eq (a_servers : Int) (a_next : Int) (a_list : List (DMapDisk)) : (G130 a_servers a_next a_list) = (br (((!(f64 a_servers (3 : Int) (5 : Int))) || (!(f64 a_next (1 : Int) (5 : Int)))) || (decide (((a_list.length : Nat) : Int) > (4 : Int)))) (some (false, ())) ((lg130_0 a_next a_list a_list ((a_list.length : Nat) : Int) (0 : Int)).bind fun o => match o with | .inl (y3 : Unit) => (some (true, ())) | .inr (.inl (y4 : Bool × Unit)) => (some (y4.1, ())))) := by kernel_rfl
noncomputable def ac102 : ACode := acOf Try.prog 102
theorem gd102 : Good Try.prog (102, ac102, [.tmp 2], 117) := ⟨_, Try.func102, by kernel_rfl, by kernel_rfl, by kernel_rfl, by kernel_rfl⟩
/- impl.MapOk -/
def sk102_0 : Skel := ⟨mkE 117 [(1, .box 0 0), (34, .lst MapView), (35, .int .i64), (36, .int .i64)], [some [.int .i64, .int .i64, .int .i64, .lst MapDisk, .lst MapView, .lst MapDone]], [], 0⟩
def ou102_0 : List (Option Nat × Skel) := [(some 0, ⟨mkE 117 [(1, .box 0 0)], [some [.int .i64, .int .i64, .int .i64, .lst MapDisk, .lst MapView, .lst MapDone]], [], 0⟩), (none, ⟨mkE 117 [(2, .bool)], [], [], 0⟩)]
def sk102_1 : Skel := ⟨mkE 117 [(1, .box 0 0), (71, .lst MapDone), (72, .int .i64), (73, .int .i64)], [some [.int .i64, .int .i64, .int .i64, .lst MapDisk, .lst MapView, .lst MapDone]], [], 0⟩
def ou102_1 : List (Option Nat × Skel) := [(some 2, ⟨mkE 117 [], [], [], 0⟩), (none, ⟨mkE 117 [(2, .bool)], [], [], 0⟩)]
def an102 : List (Nat × An) := []
def S102 : List (Skel × List (Option Nat × Skel)) := [(sk102_0, ou102_0), (sk102_1, ou102_1)]
def ps102 : List PK := [⟨none, true, MapState, false⟩]
def rs102 : List PK := [⟨some .S, false, [.bool], false⟩]
noncomputable def F102 := FN (tabC T130) an102 S102 ac102 [.tmp 2] 117 false 1 ps102 rs102
noncomputable def T102 : List (FuncId × Ctr) := (102, ⟨true, false, 1, ps102, rs102, F102⟩) :: T130
theorem hT102 : AllC Try.prog T102 := AllC.fresh (an := an102) (S := S102) (ps := ps102) (rs := rs102) hT130 gd102 (by kernel_rfl)
noncomputable def lf102_1 : (List (DMapDone)) × Int × Int × Int × Int × Int × (List (DMapDisk)) × (List (DMapView)) × (List (DMapDone)) × Unit → Option (Outs ou102_1) := lfp (vround (tabC T130) an102 (mkL (tabC T130) an102 [] (ac102.body 1)) (ac102.body 1) sk102_1 ou102_1)
noncomputable def lg102_1 (v_t71 : List (DMapDone)) (v_t72 : Int) (v_t73 : Int) (v_b0_0 : Int) (v_b0_1 : Int) (v_b0_2 : Int) (v_b0_3 : List (DMapDisk)) (v_b0_4 : List (DMapView)) (v_b0_5 : List (DMapDone)) : Option (Sum (Unit) (Sum (Bool × Unit) (Empty))) := lf102_1 (v_t71, v_t72, v_t73, v_b0_0, v_b0_1, v_b0_2, v_b0_3, v_b0_4, v_b0_5, ())
theorem lg102_1_eq (v_t71 : List (DMapDone)) (v_t72 : Int) (v_t73 : Int) (v_b0_0 : Int) (v_b0_1 : Int) (v_b0_2 : Int) (v_b0_3 : List (DMapDisk)) (v_b0_4 : List (DMapView)) (v_b0_5 : List (DMapDone)) : (lg102_1 v_t71 v_t72 v_t73 v_b0_0 v_b0_1 v_b0_2 v_b0_3 v_b0_4 v_b0_5) = (br (decide (v_t73 < v_t72)) (chk (decide (0 ≤ v_t73 ∧ v_t73 < ((v_t71.length : Nat) : Int))) (let e3 : DMapDone := (v_t71.getD v_t73.toNat ((0 : Int), (0 : Int), (0 : Int), (0 : Int), ())); (chk ((decide (0 ≤ (IntKind.i64.wrap (v_t73 - (1 : Int))) ∧ (IntKind.i64.wrap (v_t73 - (1 : Int))) < ((v_b0_5.length : Nat) : Int))) || (!((!(!(f143 e3.1))) && (decide (v_t73 > (0 : Int)))))) (let e4 : DMapDone := (v_b0_5.getD (IntKind.i64.wrap (v_t73 - (1 : Int))).toNat ((0 : Int), (0 : Int), (0 : Int), (0 : Int), ())); (br (((((!(f143 e3.1)) || ((decide (v_t73 > (0 : Int))) && (decide (e4.1 ≥ e3.1)))) || (!(f64 e3.2.1 (1 : Int) (99999 : Int)))) || (!(f64 e3.2.2.1 (0 : Int) (6 : Int)))) || (!(f64 e3.2.2.2.1 (-1 : Int) (99999 : Int)))) (some (.inr (.inl (false, ())))) (lg102_1 v_t71 v_t72 (IntKind.i64.wrap (v_t73 + (1 : Int))) v_b0_0 v_b0_1 v_b0_2 v_b0_3 v_b0_4 v_b0_5)))))) (some (.inl (())))) :=
  (show lf102_1 (v_t71, v_t72, v_t73, v_b0_0, v_b0_1, v_b0_2, v_b0_3, v_b0_4, v_b0_5, ()) = _ from lfp_eq (fun x => vround_lin _ _ _ _ x) _).trans (by kernel_rfl)
noncomputable def lf102_0 : (List (DMapView)) × Int × Int × Int × Int × Int × (List (DMapDisk)) × (List (DMapView)) × (List (DMapDone)) × Unit → Option (Outs ou102_0) := lfp (vround (tabC T130) an102 (mkL (tabC T130) an102 [] (ac102.body 0)) (ac102.body 0) sk102_0 ou102_0)
noncomputable def lg102_0 (v_t34 : List (DMapView)) (v_t35 : Int) (v_t36 : Int) (v_b0_0 : Int) (v_b0_1 : Int) (v_b0_2 : Int) (v_b0_3 : List (DMapDisk)) (v_b0_4 : List (DMapView)) (v_b0_5 : List (DMapDone)) : Option (Sum (DMapState) (Sum (Bool × Unit) (Empty))) := lf102_0 (v_t34, v_t35, v_t36, v_b0_0, v_b0_1, v_b0_2, v_b0_3, v_b0_4, v_b0_5, ())
theorem lg102_0_eq (v_t34 : List (DMapView)) (v_t35 : Int) (v_t36 : Int) (v_b0_0 : Int) (v_b0_1 : Int) (v_b0_2 : Int) (v_b0_3 : List (DMapDisk)) (v_b0_4 : List (DMapView)) (v_b0_5 : List (DMapDone)) : (lg102_0 v_t34 v_t35 v_t36 v_b0_0 v_b0_1 v_b0_2 v_b0_3 v_b0_4 v_b0_5) = (br (decide (v_t36 < v_t35)) (chk (decide (0 ≤ v_t36 ∧ v_t36 < ((v_t34.length : Nat) : Int))) (let e1 : DMapView := (v_t34.getD v_t36.toNat ((0 : Int), (0 : Int), (0 : Int), ())); (br ((((!(f64 e1.1 (1 : Int) (99999 : Int))) || (!(f64 e1.2.1 (0 : Int) (IntKind.i64.wrap (v_b0_1 - (1 : Int)))))) || (!(f64 e1.2.2.1 (-1 : Int) (IntKind.i64.wrap (v_b0_1 - (1 : Int)))))) || (e1.2.1 == e1.2.2.1)) (some (.inr (.inl (false, ())))) (lg102_0 v_t34 v_t35 (IntKind.i64.wrap (v_t36 + (1 : Int))) v_b0_0 v_b0_1 v_b0_2 v_b0_3 v_b0_4 v_b0_5)))) (some (.inl (v_b0_0, v_b0_1, v_b0_2, v_b0_3, v_b0_4, v_b0_5, ())))) :=
  (show lf102_0 (v_t34, v_t35, v_t36, v_b0_0, v_b0_1, v_b0_2, v_b0_3, v_b0_4, v_b0_5, ()) = _ from lfp_eq (fun x => vround_lin _ _ _ _ x) _).trans (by kernel_rfl)
noncomputable def G102 (a_m0 : Int) (a_m1 : Int) (a_m2 : Int) (a_m3 : List (DMapDisk)) (a_m4 : List (DMapView)) (a_m5 : List (DMapDone)) : Option (Bool × Unit) := F102 (a_m0, a_m1, a_m2, a_m3, a_m4, a_m5, ())
theorem G102_eq (a_m0 : Int) (a_m1 : Int) (a_m2 : Int) (a_m3 : List (DMapDisk)) (a_m4 : List (DMapView)) (a_m5 : List (DMapDone)) : (G102 a_m0 a_m1 a_m2 a_m3 a_m4 a_m5) = (chk ((G130 a_m1 a_m2 a_m3).isSome || (!(!(!(f64 a_m0 (0 : Int) (60 : Int)))))) (br ((((!(f64 a_m0 (0 : Int) (60 : Int))) || (!((G130 a_m1 a_m2 a_m3).getD (false, ())).1)) || (((a_m4.length : Nat) : Int) != (3 : Int))) || (decide (((a_m5.length : Nat) : Int) > (4 : Int)))) (some (false, ())) ((lg102_0 a_m4 ((a_m4.length : Nat) : Int) (0 : Int) a_m0 a_m1 a_m2 a_m3 a_m4 a_m5).bind fun o => match o with | .inl (y2 : DMapState) => ((lg102_1 y2.2.2.2.2.2.1 ((y2.2.2.2.2.2.1.length : Nat) : Int) (0 : Int) y2.1 y2.2.1 y2.2.2.1 y2.2.2.2.1 y2.2.2.2.2.1 y2.2.2.2.2.2.1).bind fun o => match o with | .inl (y5 : Unit) => (some (true, ())) | .inr (.inl (y6 : Bool × Unit)) => (some (y6.1, ()))) | .inr (.inl (y7 : Bool × Unit)) => (some (y7.1, ()))))) := by kernel_rfl
noncomputable def ac51 : ACode := acOf Try.prog 51
theorem gd51 : Good Try.prog (51, ac51, [.cell 4 true 6], 17) := ⟨_, Try.func51, by kernel_rfl, by kernel_rfl, by kernel_rfl, by kernel_rfl⟩
/- impl.MapDo -/
def an51 : List (Nat × An) := [(16, .rows)]
def S51 : List (Skel × List (Option Nat × Skel)) := []
def ps51 : List PK := [⟨none, true, MapState, false⟩, ⟨none, true, Cmd, false⟩]
def rs51 : List PK := [⟨some .S, true, MapState, false⟩]
noncomputable def F51 := FN (tabC T102) an51 S51 ac51 [.cell 4 true 6] 17 false 1 ps51 rs51
noncomputable def T51 : List (FuncId × Ctr) := (51, ⟨true, false, 1, ps51, rs51, F51⟩) :: T102
theorem hT51 : AllC Try.prog T51 := AllC.fresh (an := an51) (S := S51) (ps := ps51) (rs := rs51) hT102 gd51 (by kernel_rfl)
noncomputable def G51 (a_m0 : Int) (a_m1 : Int) (a_m2 : Int) (a_m3 : List (DMapDisk)) (a_m4 : List (DMapView)) (a_m5 : List (DMapDone)) (a_c0 : Int) (a_c1 : Int) (a_c2 : Int) (a_c3 : Int) (a_c4 : Int) (a_c5 : Int) (a_c6 : Int) (a_c7 : Int) (a_c8 : Int) (a_c9 : Int) : Option (DMapState) := F51 (a_m0, a_m1, a_m2, a_m3, a_m4, a_m5, a_c0, a_c1, a_c2, a_c3, a_c4, a_c5, a_c6, a_c7, a_c8, a_c9, ())
theorem G51_eq (a_m0 : Int) (a_m1 : Int) (a_m2 : Int) (a_m3 : List (DMapDisk)) (a_m4 : List (DMapView)) (a_m5 : List (DMapDone)) (a_c0 : Int) (a_c1 : Int) (a_c2 : Int) (a_c3 : Int) (a_c4 : Int) (a_c5 : Int) (a_c6 : Int) (a_c7 : Int) (a_c8 : Int) (a_c9 : Int) : (G51 a_m0 a_m1 a_m2 a_m3 a_m4 a_m5 a_c0 a_c1 a_c2 a_c3 a_c4 a_c5 a_c6 a_c7 a_c8 a_c9) = ((G102 a_m0 a_m1 a_m2 a_m3 a_m4 a_m5).bind fun (y1 : Bool × Unit) => (br ((!y1.1) || (a_m0 == (60 : Int))) (some ((0 : Int), (0 : Int), (0 : Int), [], [], [], ())) ((G108 a_m0 a_m1 a_m2 a_m3 a_m4 a_m5 a_c0 a_c1 a_c2 a_c3 a_c4 a_c5 a_c6 a_c7 a_c8 a_c9).bind fun (y2 : DMapState) => (some (y2.1, y2.2.1, y2.2.2.1, y2.2.2.2.1, y2.2.2.2.2.1, y2.2.2.2.2.2.1, ()))))) := by kernel_rfl
end Go.Proofs.Ytaekmccjendfoaa.MO
