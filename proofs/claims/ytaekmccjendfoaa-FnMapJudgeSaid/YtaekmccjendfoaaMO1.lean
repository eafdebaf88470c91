import Derived.Test.YtaekmccjendfoaaV21
import Derived.Test.YtaekmccjendfoaaChecked
namespace Go.Proofs.Ytaekmccjendfoaa.MO
open Go.PA
set_option linter.unusedVariables false
abbrev MapDone : List Ty := [I, I, I, I]
abbrev DMapDone := Int × Int × Int × Int × Unit
abbrev MapView : List Ty := [I, I, I]
abbrev DMapView := Int × Int × Int × Unit
abbrev Cmd : List Ty := [I, I, I, I, I, I, I, I, I, I]
abbrev DCmd := Int × Int × Int × Int × Int × Int × Int × Int × Int × Int × Unit
abbrev MapDisk : List Ty := [I, I, I, I, I, I, (.sl [I])]
abbrev DMapDisk := Int × Int × Int × Int × Int × Int × (List (Int × Unit)) × Unit
abbrev MapState : List Ty := [I, I, I, (.sl MapDisk), (.sl MapView), (.sl MapDone)]
abbrev DMapState := Int × Int × Int × (List (DMapDisk)) × (List (DMapView)) × (List (DMapDone)) × Unit
noncomputable def T0 : List (FuncId × Ctr) := []
theorem hT0 : AllC Try.prog T0 := AllC.nil _
noncomputable def ac52 : ACode := acOf Try.prog 52
theorem gd52 : Good Try.prog (52, ac52, [.tmp 2], 11) := ⟨_, Try.func52, by kernel_rfl, by kernel_rfl, by kernel_rfl, by kernel_rfl⟩
/- spec.l6Open -/
def an52 : List (Nat × An) := []
def S52 : List (Skel × List (Option Nat × Skel)) := []
def ps52 : List PK := [⟨none, false, [(.sl [(.int .u8)])], false⟩]
def rs52 : List PK := [⟨none, false, [(.sl [(.int .u8)]), I], true⟩]
noncomputable def F52 := FN (tabC T0) an52 S52 ac52 [.tmp 2] 11 false 1 ps52 rs52
noncomputable def T52 : List (FuncId × Ctr) := (52, ⟨false, false, 1, ps52, rs52, F52⟩) :: T0
theorem hT52 : AllC Try.prog T52 := AllC.own (an := an52) (S := S52) (ps := ps52) (rs := rs52) hT0 gd52 (by kernel_rfl)
noncomputable def G52 (a_code : List (Int × Unit)) : Option ((List (Int × Unit)) × Int × Unit) := F52 (a_code, ())
theorem G52_eq (a_code : List (Int × Unit)) : (G52 a_code) = (br (decide (((a_code.length : Nat) : Int) > (2000 : Int))) (chk (decide (0 ≤ (0 : Int) ∧ (0 : Int) ≤ (2000 : Int) ∧ (2000 : Int) ≤ ((a_code.length : Nat) : Int))) (some (((a_code.take 2000).drop 0), (0 : Int), ()))) (some (a_code, (0 : Int), ()))) := by kernel_rfl
noncomputable def ac106 : ACode := acOf Try.prog 106
theorem gd106 : Good Try.prog (106, ac106, [.cell 0 true 6], 20) := ⟨_, Try.func106, by kernel_rfl, by kernel_rfl, by kernel_rfl, by kernel_rfl⟩
/- spec.MapStart -/
def sk106_0 : Skel := ⟨mkE 20 [(0, .box 0 0), (1, .box 1 0), (2, .int .i64)], [some [.int .i64, .int .i64, .int .i64, .nil, .nil, .nil], some [.int .i64, .int .i64, .int .i64, .nil, .ref 1, .nil]], [none, some (.m .Z, MapView)], 0⟩
def ou106_0 : List (Option Nat × Skel) := [(some 0, ⟨mkE 20 [(0, .box 0 0), (1, .box 1 0)], [some [.int .i64, .int .i64, .int .i64, .nil, .nil, .nil], some [.int .i64, .int .i64, .int .i64, .nil, .ref 1, .nil]], [none, some (.m .Z, MapView)], 0⟩)]
def an106 : List (Nat × An) := []
def S106 : List (Skel × List (Option Nat × Skel)) := [(sk106_0, ou106_0)]
def ps106 : List PK := []
def rs106 : List PK := [⟨some .S, true, MapState, false⟩]
noncomputable def F106 := FN (tabC T52) an106 S106 ac106 [.cell 0 true 6] 20 false 1 ps106 rs106
noncomputable def T106 : List (FuncId × Ctr) := (106, ⟨true, false, 1, ps106, rs106, F106⟩) :: T52
theorem hT106 : AllC Try.prog T106 := AllC.fresh (an := an106) (S := S106) (ps := ps106) (rs := rs106) hT52 gd106 (by kernel_rfl)
noncomputable def lf106_0 : Int × Int × Int × Int × Int × Int × Int × (List (DMapView)) × Unit → Option (Outs ou106_0) := lfp (vround (tabC T52) an106 (mkL (tabC T52) an106 [] (ac106.body 0)) (ac106.body 0) sk106_0 ou106_0)
noncomputable def lg106_0 (v_r : Int) (v_b0_0 : Int) (v_b0_1 : Int) (v_b0_2 : Int) (v_b1_0 : Int) (v_b1_1 : Int) (v_b1_2 : Int) (v_r1 : List (DMapView)) : Option (Sum (Int × Int × Int × Int × Int × Int × (List (DMapView)) × Unit) (Empty)) := lf106_0 (v_r, v_b0_0, v_b0_1, v_b0_2, v_b1_0, v_b1_1, v_b1_2, v_r1, ())
theorem lg106_0_eq (v_r : Int) (v_b0_0 : Int) (v_b0_1 : Int) (v_b0_2 : Int) (v_b1_0 : Int) (v_b1_1 : Int) (v_b1_2 : Int) (v_r1 : List (DMapView)) : (lg106_0 v_r v_b0_0 v_b0_1 v_b0_2 v_b1_0 v_b1_1 v_b1_2 v_r1) = (br (decide (v_r < (3 : Int))) (chk (!((3 : Int) == 0)) (chk (!((3 : Int) == 0)) (chk (capOk (v_r1.length + (1)) 24) (lg106_0 (IntKind.i64.wrap (v_r + (1 : Int))) v_b0_0 v_b0_1 v_b0_2 v_b1_0 v_b1_1 v_b1_2 (v_r1 ++ [((1 : Int), (v_r.tmod (3 : Int)), ((IntKind.i64.wrap (v_r + (1 : Int))).tmod (3 : Int)), ())]))))) (some (.inl (v_b0_0, v_b0_1, v_b0_2, v_b1_0, v_b1_1, v_b1_2, v_r1, ())))) :=
  (show lf106_0 (v_r, v_b0_0, v_b0_1, v_b0_2, v_b1_0, v_b1_1, v_b1_2, v_r1, ()) = _ from lfp_eq (fun x => vround_lin _ _ _ _ x) _).trans (by kernel_rfl)
noncomputable def G106  : Option (DMapState) := F106 (())
theorem G106_eq  : (G106) = ((lg106_0 (0 : Int) (0 : Int) (0 : Int) (0 : Int) (0 : Int) (3 : Int) (1 : Int) []).bind fun o => match o with | .inl (y1 : Int × Int × Int × Int × Int × Int × (List (DMapView)) × Unit) => (some (y1.2.2.2.1, y1.2.2.2.2.1, y1.2.2.2.2.2.1, [], y1.2.2.2.2.2.2.1, [], ()))) := by kernel_rfl
noncomputable def ac54 : ACode := acOf Try.prog 54
theorem gd54 : Good Try.prog (54, ac54, [.tmp 4], 99) := ⟨_, Try.func54, by kernel_rfl, by kernel_rfl, by kernel_rfl, by kernel_rfl⟩
/- (*spec.l6Rd).pick -/
def an54 : List (Nat × An) := []
def S54 : List (Skel × List (Option Nat × Skel)) := []
def ps54 : List PK := [⟨none, false, [(.sl [(.int .u8)]), I], true⟩, ⟨none, false, [I], false⟩]
def rs54 : List PK := [⟨none, false, [I], false⟩, ⟨none, false, [(.sl [(.int .u8)]), I], true⟩]
noncomputable def F54 := FN (tabC T106) an54 S54 ac54 [.tmp 4] 99 false 1 ps54 rs54
noncomputable def T54 : List (FuncId × Ctr) := (54, ⟨false, false, 1, ps54, rs54, F54⟩) :: T106
theorem hT54 : AllC Try.prog T54 := AllC.own (an := an54) (S := S54) (ps := ps54) (rs := rs54) hT106 gd54 (by kernel_rfl)
noncomputable def G54 (a_r0 : List (Int × Unit)) (a_r1 : Int) (a_n : Int) : Option (Int × (List (Int × Unit)) × Int × Unit) := F54 (a_r0, a_r1, a_n, ())
theorem G54_eq (a_r0 : List (Int × Unit)) (a_r1 : Int) (a_n : Int) : (G54 a_r0 a_r1 a_n) = (br ((decide (a_n < (1 : Int))) || (((a_r0.length : Nat) : Int) == (0 : Int))) (some ((0 : Int), a_r0, (IntKind.i64.wrap (a_r1 + (1 : Int))), ())) (br (decide ((IntKind.i64.wrap ((IntKind.i64.wrap (a_r1 + (1 : Int))) - (1 : Int))) < ((a_r0.length : Nat) : Int))) (chk (decide (0 ≤ (IntKind.i64.wrap ((IntKind.i64.wrap (a_r1 + (1 : Int))) - (1 : Int))) ∧ (IntKind.i64.wrap ((IntKind.i64.wrap (a_r1 + (1 : Int))) - (1 : Int))) < ((a_r0.length : Nat) : Int))) (chk (!(a_n == 0)) (some (((IntKind.i64.wrap (a_r0.getD (IntKind.i64.wrap ((IntKind.i64.wrap (a_r1 + (1 : Int))) - (1 : Int))).toNat ((0 : Int), ())).1).tmod a_n), a_r0, (IntKind.i64.wrap (a_r1 + (1 : Int))), ())))) (chk (!(((a_r0.length : Nat) : Int) == 0)) (chk (decide (0 ≤ ((IntKind.i64.wrap ((IntKind.i64.wrap (a_r1 + (1 : Int))) - (1 : Int))).tmod ((a_r0.length : Nat) : Int)) ∧ ((IntKind.i64.wrap ((IntKind.i64.wrap (a_r1 + (1 : Int))) - (1 : Int))).tmod ((a_r0.length : Nat) : Int)) < ((a_r0.length : Nat) : Int))) (chk (!(((a_r0.length : Nat) : Int) == 0)) (chk (decide (0 ≤ ((IntKind.i64.wrap ((IntKind.i64.wrap ((IntKind.i64.wrap ((IntKind.i64.wrap (a_r1 + (1 : Int))) - (1 : Int))) * (7 : Int))) + (3 : Int))).tmod ((a_r0.length : Nat) : Int)) ∧ ((IntKind.i64.wrap ((IntKind.i64.wrap ((IntKind.i64.wrap ((IntKind.i64.wrap (a_r1 + (1 : Int))) - (1 : Int))) * (7 : Int))) + (3 : Int))).tmod ((a_r0.length : Nat) : Int)) < ((a_r0.length : Nat) : Int))) (chk (!(((a_r0.length : Nat) : Int) == 0)) (chk (!((64 : Int) == 0)) (chk (!(a_n == 0)) (some (((bits .xor .i64 (IntKind.i64.wrap ((IntKind.i64.wrap ((IntKind.i64.wrap ((IntKind.i64.wrap ((IntKind.i64.wrap (a_r0.getD ((IntKind.i64.wrap ((IntKind.i64.wrap (a_r1 + (1 : Int))) - (1 : Int))).tmod ((a_r0.length : Nat) : Int)).toNat ((0 : Int), ())).1) * (131 : Int))) + (IntKind.i64.wrap ((IntKind.i64.wrap (a_r0.getD ((IntKind.i64.wrap ((IntKind.i64.wrap ((IntKind.i64.wrap ((IntKind.i64.wrap (a_r1 + (1 : Int))) - (1 : Int))) * (7 : Int))) + (3 : Int))).tmod ((a_r0.length : Nat) : Int)).toNat ((0 : Int), ())).1) * (1117 : Int))))) + (IntKind.i64.wrap ((IntKind.i64.wrap ((IntKind.i64.wrap (a_r1 + (1 : Int))) - (1 : Int))) * (29 : Int))))) + (IntKind.i64.wrap ((IntKind.i64.wrap ((IntKind.i64.wrap ((IntKind.i64.wrap (a_r1 + (1 : Int))) - (1 : Int))).tdiv ((a_r0.length : Nat) : Int))) * (53 : Int))))) (IntKind.i64.wrap ((IntKind.i64.wrap ((IntKind.i64.wrap ((IntKind.i64.wrap ((IntKind.i64.wrap ((IntKind.i64.wrap (a_r0.getD ((IntKind.i64.wrap ((IntKind.i64.wrap (a_r1 + (1 : Int))) - (1 : Int))).tmod ((a_r0.length : Nat) : Int)).toNat ((0 : Int), ())).1) * (131 : Int))) + (IntKind.i64.wrap ((IntKind.i64.wrap (a_r0.getD ((IntKind.i64.wrap ((IntKind.i64.wrap ((IntKind.i64.wrap ((IntKind.i64.wrap (a_r1 + (1 : Int))) - (1 : Int))) * (7 : Int))) + (3 : Int))).tmod ((a_r0.length : Nat) : Int)).toNat ((0 : Int), ())).1) * (1117 : Int))))) + (IntKind.i64.wrap ((IntKind.i64.wrap ((IntKind.i64.wrap (a_r1 + (1 : Int))) - (1 : Int))) * (29 : Int))))) + (IntKind.i64.wrap ((IntKind.i64.wrap ((IntKind.i64.wrap ((IntKind.i64.wrap (a_r1 + (1 : Int))) - (1 : Int))).tdiv ((a_r0.length : Nat) : Int))) * (53 : Int))))).tdiv (64 : Int)))).tmod a_n), a_r0, (IntKind.i64.wrap (a_r1 + (1 : Int))), ()))))))))))) := by kernel_rfl
noncomputable def ac136 : ACode := acOf Try.prog 136
theorem gd136 : Good Try.prog (136, ac136, [.tmp 2], 13) := ⟨_, Try.func136, by kernel_rfl, by kernel_rfl, by kernel_rfl, by kernel_rfl⟩
/- spec.l72Num -/
def an136 : List (Nat × An) := []
def S136 : List (Skel × List (Option Nat × Skel)) := []
def ps136 : List PK := [⟨none, false, [(.sl [(.int .u8)]), I], true⟩]
def rs136 : List PK := [⟨none, false, [I], false⟩, ⟨none, false, [(.sl [(.int .u8)]), I], true⟩]
noncomputable def F136 := FN (tabC T54) an136 S136 ac136 [.tmp 2] 13 false 1 ps136 rs136
noncomputable def T136 : List (FuncId × Ctr) := (136, ⟨false, false, 1, ps136, rs136, F136⟩) :: T54
theorem hT136 : AllC Try.prog T136 := AllC.own (an := an136) (S := S136) (ps := ps136) (rs := rs136) hT54 gd136 (by kernel_rfl)
noncomputable def G136 (a_r0 : List (Int × Unit)) (a_r1 : Int) : Option (Int × (List (Int × Unit)) × Int × Unit) := F136 (a_r0, a_r1, ())
theorem G136_eq (a_r0 : List (Int × Unit)) (a_r1 : Int) : (G136 a_r0 a_r1) = ((G54 a_r0 a_r1 (200 : Int)).bind fun (y1 : Int × (List (Int × Unit)) × Int × Unit) => ((G54 y1.2.1 y1.2.2.1 (30000 : Int)).bind fun (y2 : Int × (List (Int × Unit)) × Int × Unit) => ((G54 y2.2.1 y2.2.2.1 (10 : Int)).bind fun (y3 : Int × (List (Int × Unit)) × Int × Unit) => (chk (decide (0 ≤ y3.1 ∧ y3.1 < (((10) : Nat) : Int))) (some (([((0 : Int), ()), ((1 : Int), ()), ((2 : Int), ()), ((3 : Int), ()), ((IntKind.i64.wrap (y1.1 - (1 : Int))), ()), ((99999 : Int), ()), ((127 : Int), ()), ((126 : Int), ()), ((16383 : Int), ()), (y2.1, ())].getD y3.1.toNat ((0 : Int), ())).1, y3.2.1, y3.2.2.1, ())))))) := by kernel_rfl
noncomputable def ac135 : ACode := acOf Try.prog 135
theorem gd135 : Good Try.prog (135, ac135, [.cell 2 true 10], 54) := ⟨_, Try.func135, by kernel_rfl, by kernel_rfl, by kernel_rfl, by kernel_rfl⟩
/- spec.l72Cmd -/
def an135 : List (Nat × An) := []
def S135 : List (Skel × List (Option Nat × Skel)) := []
def ps135 : List PK := [⟨none, false, [(.sl [(.int .u8)]), I], true⟩]
def rs135 : List PK := [⟨none, true, Cmd, false⟩, ⟨none, false, [(.sl [(.int .u8)]), I], true⟩]
noncomputable def F135 := FN (tabC T136) an135 S135 ac135 [.cell 2 true 10] 54 false 1 ps135 rs135
noncomputable def T135 : List (FuncId × Ctr) := (135, ⟨false, false, 1, ps135, rs135, F135⟩) :: T136
theorem hT135 : AllC Try.prog T135 := AllC.own (an := an135) (S := S135) (ps := ps135) (rs := rs135) hT136 gd135 (by kernel_rfl)
noncomputable def G135 (a_r0 : List (Int × Unit)) (a_r1 : Int) : Option (Int × Int × Int × Int × Int × Int × Int × Int × Int × Int × (List (Int × Unit)) × Int × Unit) := F135 (a_r0, a_r1, ())
theorem G135_eq (a_r0 : List (Int × Unit)) (a_r1 : Int) : (G135 a_r0 a_r1) = ((G54 a_r0 a_r1 (8 : Int)).bind fun (y1 : Int × (List (Int × Unit)) × Int × Unit) => ((G54 y1.2.1 y1.2.2.1 (4 : Int)).bind fun (y2 : Int × (List (Int × Unit)) × Int × Unit) => ((G54 y2.2.1 y2.2.2.1 (4 : Int)).bind fun (y3 : Int × (List (Int × Unit)) × Int × Unit) => ((G54 y3.2.1 y3.2.2.1 (3 : Int)).bind fun (y4 : Int × (List (Int × Unit)) × Int × Unit) => ((G54 y4.2.1 y4.2.2.1 (5 : Int)).bind fun (y5 : Int × (List (Int × Unit)) × Int × Unit) => ((G54 y5.2.1 y5.2.2.1 (3 : Int)).bind fun (y6 : Int × (List (Int × Unit)) × Int × Unit) => ((G54 y6.2.1 y6.2.2.1 (3 : Int)).bind fun (y7 : Int × (List (Int × Unit)) × Int × Unit) => ((G54 y7.2.1 y7.2.2.1 (4 : Int)).bind fun (y8 : Int × (List (Int × Unit)) × Int × Unit) => ((G54 y8.2.1 y8.2.2.1 (4 : Int)).bind fun (y9 : Int × (List (Int × Unit)) × Int × Unit) => ((G54 y9.2.1 y9.2.2.1 (5 : Int)).bind fun (y10 : Int × (List (Int × Unit)) × Int × Unit) => ((G54 y10.2.1 y10.2.2.1 (16 : Int)).bind fun (y11 : Int × (List (Int × Unit)) × Int × Unit) => (let k28 := fun (v23 : List (Int × Unit)) (v24 : Int) (v25 : Int) (v26 : Int) (v27 : Int) => (some (v25, y2.1, (IntKind.i64.wrap ((1 : Int) + y3.1)), (IntKind.i64.wrap ((1 : Int) + y4.1)), v26, y6.1, y7.1, v27, y9.1, (IntKind.i64.wrap (y10.1 - (1 : Int))), v23, v24, ())); (br (y11.1 == (0 : Int)) ((G136 y11.2.1 y11.2.2.1).bind fun (y12 : Int × (List (Int × Unit)) × Int × Unit) => (k28 y12.2.1 y12.2.2.1 y1.1 y12.1 (IntKind.i64.wrap ((1 : Int) + y8.1)))) (let k22 := fun (v18 : List (Int × Unit)) (v19 : Int) (v20 : Int) (v21 : Int) => (k28 v18 v19 v20 (IntKind.i64.wrap ((1 : Int) + y5.1)) v21); (br (y11.1 == (1 : Int)) ((G54 y11.2.1 y11.2.2.1 (3 : Int)).bind fun (y13 : Int × (List (Int × Unit)) × Int × Unit) => (chk (decide (0 ≤ y13.1 ∧ y13.1 < (((3) : Nat) : Int))) (k22 y13.2.1 y13.2.2.1 (([((-1 : Int), ()), ((8 : Int), ()), ((99 : Int), ())].getD y13.1.toNat ((0 : Int), ())).1) (IntKind.i64.wrap ((1 : Int) + y8.1))))) (br (y11.1 == (2 : Int)) ((G54 y11.2.1 y11.2.2.1 (2 : Int)).bind fun (y14 : Int × (List (Int × Unit)) × Int × Unit) => (chk (decide (0 ≤ y14.1 ∧ y14.1 < (((2) : Nat) : Int))) (k22 y14.2.1 y14.2.2.1 y1.1 (([((-2 : Int), ()), ((100000 : Int), ())].getD y14.1.toNat ((0 : Int), ())).1)))) (k22 y11.2.1 y11.2.2.1 y1.1 (IntKind.i64.wrap ((1 : Int) + y8.1))))))))))))))))))) := by kernel_rfl
noncomputable def ac179 : ACode := acOf Try.prog 179
theorem gd179 : Good Try.prog (179, ac179, [.cell 4 true 10], 87) := ⟨_, Try.func179, by kernel_rfl, by kernel_rfl, by kernel_rfl, by kernel_rfl⟩
/- spec.l72MapCmd -/
def an179 : List (Nat × An) := []
def S179 : List (Skel × List (Option Nat × Skel)) := []
def ps179 : List PK := [⟨none, false, [(.sl [(.int .u8)]), I], true⟩, ⟨none, true, MapState, false⟩]
def rs179 : List PK := [⟨none, true, Cmd, false⟩, ⟨none, false, [(.sl [(.int .u8)]), I], true⟩]
noncomputable def F179 := FN (tabC T135) an179 S179 ac179 [.cell 4 true 10] 87 false 1 ps179 rs179
noncomputable def T179 : List (FuncId × Ctr) := (179, ⟨false, false, 1, ps179, rs179, F179⟩) :: T135
theorem hT179 : AllC Try.prog T179 := AllC.own (an := an179) (S := S179) (ps := ps179) (rs := rs179) hT135 gd179 (by kernel_rfl)
noncomputable def G179 (a_r0 : List (Int × Unit)) (a_r1 : Int) (a_m0 : Int) (a_m1 : Int) (a_m2 : Int) (a_m3 : List (DMapDisk)) (a_m4 : List (DMapView)) (a_m5 : List (DMapDone)) : Option (Int × Int × Int × Int × Int × Int × Int × Int × Int × Int × (List (Int × Unit)) × Int × Unit) := F179 (a_r0, a_r1, a_m0, a_m1, a_m2, a_m3, a_m4, a_m5, ())
theorem G179_eq (a_r0 : List (Int × Unit)) (a_r1 : Int) (a_m0 : Int) (a_m1 : Int) (a_m2 : Int) (a_m3 : List (DMapDisk)) (a_m4 : List (DMapView)) (a_m5 : List (DMapDone)) : (G179 a_r0 a_r1 a_m0 a_m1 a_m2 a_m3 a_m4 a_m5) = ((G135 a_r0 a_r1).bind fun (y1 : Int × Int × Int × Int × Int × Int × Int × Int × Int × Int × (List (Int × Unit)) × Int × Unit) => ((G54 y1.2.2.2.2.2.2.2.2.2.2.1 y1.2.2.2.2.2.2.2.2.2.2.2.1 (3 : Int)).bind fun (y2 : Int × (List (Int × Unit)) × Int × Unit) => (chk (decide (0 ≤ y2.1 ∧ y2.1 < ((a_m4.length : Nat) : Int))) (let e3 : DMapView := (a_m4.getD y2.1.toNat ((0 : Int), (0 : Int), (0 : Int), ())); ((G54 y2.2.1 y2.2.2.1 (10 : Int)).bind fun (y4 : Int × (List (Int × Unit)) × Int × Unit) => (let k39 := fun (v5 : Bool) => (let k38 := fun (v34 : List (Int × Unit)) (v35 : Int) (v36 : Int) (v37 : Int) => (some (v36, y1.2.1, v37, y1.2.2.2.1, y1.2.2.2.2.1, y1.2.2.2.2.2.1, y1.2.2.2.2.2.2.1, y1.2.2.2.2.2.2.2.1, y1.2.2.2.2.2.2.2.2.1, y1.2.2.2.2.2.2.2.2.2.1, v34, v35, ())); (br v5 (let k11 := fun (v7 : Int) (v8 : List (Int × Unit)) (v9 : Int) => ((G54 v8 v9 (2 : Int)).bind fun (y10 : Int × (List (Int × Unit)) × Int × Unit) => (chk (decide (0 ≤ y10.1 ∧ y10.1 < (((2) : Nat) : Int))) (some ((5 : Int), (0 : Int), (0 : Int), (0 : Int), (0 : Int), (0 : Int), y2.1, (IntKind.i64.wrap (e3.1 + (1 : Int))), ([(e3.2.1, ()), (e3.2.2.1, ())].getD y10.1.toNat ((0 : Int), ())).1, v7, y10.2.1, y10.2.2.1, ())))); (br (decide (e3.2.2.1 < (0 : Int))) ((G54 y4.2.1 y4.2.2.1 a_m1).bind fun (y6 : Int × (List (Int × Unit)) × Int × Unit) => (k11 y6.1 y6.2.1 y6.2.2.1)) (k11 (-1 : Int) y4.2.1 y4.2.2.1))) (let k33 := fun (v15 : Bool) => (br v15 (br (decide (((a_m3.length : Nat) : Int) > (0 : Int))) ((G54 y4.2.1 y4.2.2.1 ((a_m3.length : Nat) : Int)).bind fun (y16 : Int × (List (Int × Unit)) × Int × Unit) => (chk (decide (0 ≤ y16.1 ∧ y16.1 < ((a_m3.length : Nat) : Int))) (let e17 : DMapDisk := (a_m3.getD y16.1.toNat ((0 : Int), (0 : Int), (0 : Int), (0 : Int), (0 : Int), (0 : Int), [], ())); (some ((6 : Int), (0 : Int), (0 : Int), e17.1, (0 : Int), e17.2.2.1, y2.1, e3.1, (0 : Int), (0 : Int), y16.2.1, y16.2.2.1, ()))))) (k38 y4.2.1 y4.2.2.1 y1.1 y1.2.2.1)) (let k28 := fun (v24 : List (Int × Unit)) (v25 : Int) (v26 : Int) (v27 : Int) => (k38 v24 v25 v26 v27); (br (y4.1 == (6 : Int)) ((G54 y4.2.1 y4.2.2.1 (9 : Int)).bind fun (y18 : Int × (List (Int × Unit)) × Int × Unit) => (k28 y18.2.1 y18.2.2.1 (2 : Int) (IntKind.i64.wrap ((1 : Int) + y18.1)))) (br (y4.1 == (7 : Int)) ((G54 y4.2.1 y4.2.2.1 (9 : Int)).bind fun (y19 : Int × (List (Int × Unit)) × Int × Unit) => (k28 y19.2.1 y19.2.2.1 (1 : Int) (IntKind.i64.wrap ((1 : Int) + y19.1)))) (k28 y4.2.1 y4.2.2.1 y1.1 y1.2.2.1))))); (br (y4.1 == (2 : Int)) (k33 (y4.1 == (2 : Int))) (let k14 := fun (v13 : Bool) => (k33 v13); (br (y4.1 == (3 : Int)) (k14 (y4.1 == (3 : Int))) (br (y4.1 == (4 : Int)) (k14 (y4.1 == (4 : Int))) (k14 (y4.1 == (5 : Int)))))))))); (br (y4.1 == (0 : Int)) (k39 (y4.1 == (0 : Int))) (k39 (y4.1 == (1 : Int)))))))))) := by kernel_rfl
noncomputable def ac56 : ACode := acOf Try.prog 56
theorem gd56 : Good Try.prog (56, ac56, [.tmp 6], 15) := ⟨_, Try.func56, by kernel_rfl, by kernel_rfl, by kernel_rfl, by kernel_rfl⟩
/- spec.l6In -/
def an56 : List (Nat × An) := []
def S56 : List (Skel × List (Option Nat × Skel)) := []
def ps56 : List PK := [⟨none, false, [I], false⟩, ⟨none, false, [I], false⟩, ⟨none, false, [I], false⟩]
def rs56 : List PK := [⟨some .S, false, [.bool], false⟩]
noncomputable def F56 := FN (tabC T179) an56 S56 ac56 [.tmp 6] 15 false 1 ps56 rs56
noncomputable def T56 : List (FuncId × Ctr) := (56, ⟨true, false, 1, ps56, rs56, F56⟩) :: T179
theorem hT56 : AllC Try.prog T56 := AllC.fresh (an := an56) (S := S56) (ps := ps56) (rs := rs56) hT179 gd56 (by kernel_rfl)
noncomputable def G56 (a_n : Int) (a_low : Int) (a_high : Int) : Option (Bool × Unit) := F56 (a_n, a_low, a_high, ())
def f56 (a_n : Int) (a_low : Int) (a_high : Int) : Bool := ((decide (a_n ≥ a_low)) && (decide (a_n ≤ a_high)))
theorem G56_eq (a_n : Int) (a_low : Int) (a_high : Int) : (G56 a_n a_low a_high) = some ((f56 a_n a_low a_high), ()) := by kernel_rfl
noncomputable def ac153 : ACode := acOf Try.prog 153
theorem gd153 : Good Try.prog (153, ac153, [.tmp 4], 18) := ⟨_, Try.func153, by kernel_rfl, by kernel_rfl, by kernel_rfl, by kernel_rfl⟩
/- spec.l22Has -/
def sk153_0 : Skel := ⟨mkE 18 [(0, .lst [I]), (1, .int .i64), (5, .int .i64)], [], [], 0⟩
def ou153_0 : List (Option Nat × Skel) := [(some 0, ⟨mkE 18 [], [], [], 0⟩), (none, ⟨mkE 18 [(4, .bool)], [], [], 0⟩)]
def an153 : List (Nat × An) := []
def S153 : List (Skel × List (Option Nat × Skel)) := [(sk153_0, ou153_0)]
def ps153 : List PK := [⟨none, false, [(.sl [I])], false⟩, ⟨none, false, [I], false⟩]
def rs153 : List PK := [⟨some .S, false, [.bool], false⟩]
noncomputable def F153 := FN (tabC T56) an153 S153 ac153 [.tmp 4] 18 false 1 ps153 rs153
noncomputable def T153 : List (FuncId × Ctr) := (153, ⟨true, false, 1, ps153, rs153, F153⟩) :: T56
theorem hT153 : AllC Try.prog T153 := AllC.fresh (an := an153) (S := S153) (ps := ps153) (rs := rs153) hT56 gd153 (by kernel_rfl)
noncomputable def lf153_0 : (List (Int × Unit)) × Int × Int × Unit → Option (Outs ou153_0) := lfp (vround (tabC T56) an153 (mkL (tabC T56) an153 [] (ac153.body 0)) (ac153.body 0) sk153_0 ou153_0)
noncomputable def lg153_0 (v_list : List (Int × Unit)) (v_n : Int) (v_i : Int) : Option (Sum (Unit) (Sum (Bool × Unit) (Empty))) := lf153_0 (v_list, v_n, v_i, ())
theorem lg153_0_eq (v_list : List (Int × Unit)) (v_n : Int) (v_i : Int) : (lg153_0 v_list v_n v_i) = (br (decide (v_i < ((v_list.length : Nat) : Int))) (chk (decide (0 ≤ v_i ∧ v_i < ((v_list.length : Nat) : Int))) (br ((v_list.getD v_i.toNat ((0 : Int), ())).1 == v_n) (some (.inr (.inl (true, ())))) (lg153_0 v_list v_n (IntKind.i64.wrap (v_i + (1 : Int)))))) (some (.inl (())))) :=
  (show lf153_0 (v_list, v_n, v_i, ()) = _ from lfp_eq (fun x => vround_lin _ _ _ _ x) _).trans (by kernel_rfl)
noncomputable def G153 (a_list : List (Int × Unit)) (a_n : Int) : Option (Bool × Unit) := F153 (a_list, a_n, ())
theorem G153_eq (a_list : List (Int × Unit)) (a_n : Int) : (G153 a_list a_n) = ((lg153_0 a_list a_n (0 : Int)).bind fun o => match o with | .inl (y1 : Unit) => (some (false, ())) | .inr (.inl (y2 : Bool × Unit)) => (some (y2.1, ()))) := by kernel_rfl
noncomputable def ac101 : ACode := acOf Try.prog 101
theorem gd101 : Good Try.prog (101, ac101, [.tmp 4], 90) := ⟨_, Try.func101, by kernel_rfl, by kernel_rfl, by kernel_rfl, by kernel_rfl⟩
/- spec.l31DiskOk -/
def sk101_0 : Skel := ⟨mkE 90 [(3, .box 1 0), (5, .int .i64)], [none, some [.int .i64, .int .i64, .int .i64, .int .i64, .int .i64, .int .i64, .lst [I]]], [], 0⟩
def ou101_0 : List (Option Nat × Skel) := [(some 0, ⟨mkE 90 [], [], [], 0⟩), (none, ⟨mkE 90 [(4, .bool)], [], [], 0⟩)]
def an101 : List (Nat × An) := []
def S101 : List (Skel × List (Option Nat × Skel)) := [(sk101_0, ou101_0)]
def ps101 : List PK := [⟨none, true, MapState, false⟩, ⟨none, true, MapDisk, false⟩]
def rs101 : List PK := [⟨some .S, false, [.bool], false⟩]
noncomputable def F101 := FN (tabC T153) an101 S101 ac101 [.tmp 4] 90 false 1 ps101 rs101
noncomputable def T101 : List (FuncId × Ctr) := (101, ⟨true, false, 1, ps101, rs101, F101⟩) :: T153
theorem hT101 : AllC Try.prog T101 := AllC.fresh (an := an101) (S := S101) (ps := ps101) (rs := rs101) hT153 gd101 (by kernel_rfl)
noncomputable def lf101_0 : Int × Int × Int × Int × Int × Int × Int × (List (Int × Unit)) × Unit → Option (Outs ou101_0) := lfp (vround (tabC T153) an101 (mkL (tabC T153) an101 [] (ac101.body 0)) (ac101.body 0) sk101_0 ou101_0)
noncomputable def lg101_0 (v_i : Int) (v_b1_0 : Int) (v_b1_1 : Int) (v_b1_2 : Int) (v_b1_3 : Int) (v_b1_4 : Int) (v_b1_5 : Int) (v_b1_6 : List (Int × Unit)) : Option (Sum (Unit) (Sum (Bool × Unit) (Empty))) := lf101_0 (v_i, v_b1_0, v_b1_1, v_b1_2, v_b1_3, v_b1_4, v_b1_5, v_b1_6, ())
theorem lg101_0_eq (v_i : Int) (v_b1_0 : Int) (v_b1_1 : Int) (v_b1_2 : Int) (v_b1_3 : Int) (v_b1_4 : Int) (v_b1_5 : Int) (v_b1_6 : List (Int × Unit)) : (lg101_0 v_i v_b1_0 v_b1_1 v_b1_2 v_b1_3 v_b1_4 v_b1_5 v_b1_6) = (br (decide (v_i < ((v_b1_6.length : Nat) : Int))) (chk (decide (0 ≤ v_i ∧ v_i < ((v_b1_6.length : Nat) : Int))) (chk ((decide (0 ≤ (0 : Int) ∧ (0 : Int) ≤ v_i ∧ v_i ≤ ((v_b1_6.length : Nat) : Int))) || (!(!(!(f56 ((v_b1_6.getD v_i.toNat ((0 : Int), ())).1) (0 : Int) (2 : Int)))))) (chk ((decide (0 ≤ v_i ∧ v_i < ((v_b1_6.length : Nat) : Int))) || (!(!(!(f56 ((v_b1_6.getD v_i.toNat ((0 : Int), ())).1) (0 : Int) (2 : Int)))))) (chk ((G153 ((v_b1_6.take v_i.toNat).drop 0) ((v_b1_6.getD v_i.toNat ((0 : Int), ())).1)).isSome || (!(!(!(f56 ((v_b1_6.getD v_i.toNat ((0 : Int), ())).1) (0 : Int) (2 : Int)))))) (br ((!(f56 ((v_b1_6.getD v_i.toNat ((0 : Int), ())).1) (0 : Int) (2 : Int))) || ((G153 ((v_b1_6.take v_i.toNat).drop 0) ((v_b1_6.getD v_i.toNat ((0 : Int), ())).1)).getD (false, ())).1) (some (.inr (.inl (false, ())))) (lg101_0 (IntKind.i64.wrap (v_i + (1 : Int))) v_b1_0 v_b1_1 v_b1_2 v_b1_3 v_b1_4 v_b1_5 v_b1_6)))))) (some (.inl (())))) :=
  (show lf101_0 (v_i, v_b1_0, v_b1_1, v_b1_2, v_b1_3, v_b1_4, v_b1_5, v_b1_6, ()) = _ from lfp_eq (fun x => vround_lin _ _ _ _ x) _).trans (by kernel_rfl)
noncomputable def G101 (a_m0 : Int) (a_m1 : Int) (a_m2 : Int) (a_m3 : List (DMapDisk)) (a_m4 : List (DMapView)) (a_m5 : List (DMapDone)) (a_d0 : Int) (a_d1 : Int) (a_d2 : Int) (a_d3 : Int) (a_d4 : Int) (a_d5 : Int) (a_d6 : List (Int × Unit)) : Option (Bool × Unit) := F101 (a_m0, a_m1, a_m2, a_m3, a_m4, a_m5, a_d0, a_d1, a_d2, a_d3, a_d4, a_d5, a_d6, ())
theorem G101_eq (a_m0 : Int) (a_m1 : Int) (a_m2 : Int) (a_m3 : List (DMapDisk)) (a_m4 : List (DMapView)) (a_m5 : List (DMapDone)) (a_d0 : Int) (a_d1 : Int) (a_d2 : Int) (a_d3 : Int) (a_d4 : Int) (a_d5 : Int) (a_d6 : List (Int × Unit)) : (G101 a_m0 a_m1 a_m2 a_m3 a_m4 a_m5 a_d0 a_d1 a_d2 a_d3 a_d4 a_d5 a_d6) = (br ((((!(f56 a_d0 (1 : Int) (IntKind.i64.wrap (a_m2 - (1 : Int))))) || (!(f56 a_d1 (1 : Int) (8 : Int)))) || (!(f56 a_d2 (1 : Int) (99999 : Int)))) || (!(f56 a_d3 (0 : Int) (2 : Int)))) (some (false, ())) (br (a_d3 == (0 : Int)) (some ((((a_d4 == (0 : Int)) && (a_d5 == (0 : Int))) && (((a_d6.length : Nat) : Int) == (0 : Int))), ())) (br (((!(f56 a_d4 (0 : Int) (3 : Int))) || (!(f56 a_d5 (1 : Int) (99999 : Int)))) || (decide (((a_d6.length : Nat) : Int) ≥ (3 : Int)))) (some (false, ())) ((lg101_0 (0 : Int) a_d0 a_d1 a_d2 a_d3 a_d4 a_d5 a_d6).bind fun o => match o with | .inl (y1 : Unit) => (some (true, ())) | .inr (.inl (y2 : Bool × Unit)) => (some (y2.1, ())))))) := by kernel_rfl
noncomputable def ac72 : ACode := acOf Try.prog 72
theorem gd72 : Good Try.prog (72, ac72, [.tmp 2], 5) := ⟨_, Try.func72, by kernel_rfl, by kernel_rfl, by kernel_rfl, by kernel_rfl⟩
/- spec.l11Num -/
def an72 : List (Nat × An) := []
def S72 : List (Skel × List (Option Nat × Skel)) := []
def ps72 : List PK := [⟨none, false, [I], false⟩]
def rs72 : List PK := [⟨some .S, false, [.bool], false⟩]
noncomputable def F72 := FN (tabC T101) an72 S72 ac72 [.tmp 2] 5 false 1 ps72 rs72
noncomputable def T72 : List (FuncId × Ctr) := (72, ⟨true, false, 1, ps72, rs72, F72⟩) :: T101
theorem hT72 : AllC Try.prog T72 := AllC.fresh (an := an72) (S := S72) (ps := ps72) (rs := rs72) hT101 gd72 (by kernel_rfl)
noncomputable def G72 (a_n : Int) : Option (Bool × Unit) := F72 (a_n, ())
def f72 (a_n : Int) : Bool := (f56 a_n (-1 : Int) (99999 : Int))
theorem G72_eq (a_n : Int) : (G72 a_n) = some ((f72 a_n), ()) := by kernel_rfl
noncomputable def ac33 : ACode := acOf Try.prog 33
theorem gd33 : Good Try.prog (33, ac33, [.tmp 2], 168) := ⟨_, Try.func33, by kernel_rfl, by kernel_rfl, by kernel_rfl, by kernel_rfl⟩
/- spec.MapOk -/
def sk33_0 : Skel := ⟨mkE 168 [(1, .box 0 0), (3, .int .i64)], [some [.int .i64, .int .i64, .int .i64, .lst MapDisk, .lst MapView, .lst MapDone]], [], 0⟩
def ou33_0 : List (Option Nat × Skel) := [(some 0, ⟨mkE 168 [(1, .box 0 0)], [some [.int .i64, .int .i64, .int .i64, .lst MapDisk, .lst MapView, .lst MapDone]], [], 0⟩), (none, ⟨mkE 168 [(2, .bool)], [], [], 0⟩)]
def sk33_1 : Skel := ⟨mkE 168 [(1, .box 0 0), (4, .int .i64)], [some [.int .i64, .int .i64, .int .i64, .lst MapDisk, .lst MapView, .lst MapDone]], [], 0⟩
def ou33_1 : List (Option Nat × Skel) := [(some 2, ⟨mkE 168 [(1, .box 0 0)], [some [.int .i64, .int .i64, .int .i64, .lst MapDisk, .lst MapView, .lst MapDone]], [], 0⟩), (none, ⟨mkE 168 [(2, .bool)], [], [], 0⟩)]
def sk33_2 : Skel := ⟨mkE 168 [(1, .box 0 0), (6, .int .i64)], [some [.int .i64, .int .i64, .int .i64, .lst MapDisk, .lst MapView, .lst MapDone]], [], 0⟩
def ou33_2 : List (Option Nat × Skel) := [(some 4, ⟨mkE 168 [], [], [], 0⟩), (none, ⟨mkE 168 [(2, .bool)], [], [], 0⟩)]
def an33 : List (Nat × An) := []
def S33 : List (Skel × List (Option Nat × Skel)) := [(sk33_0, ou33_0), (sk33_1, ou33_1), (sk33_2, ou33_2)]
def ps33 : List PK := [⟨none, true, MapState, false⟩]
def rs33 : List PK := [⟨some .S, false, [.bool], false⟩]
noncomputable def F33 := FN (tabC T72) an33 S33 ac33 [.tmp 2] 168 false 1 ps33 rs33
noncomputable def T33 : List (FuncId × Ctr) := (33, ⟨true, false, 1, ps33, rs33, F33⟩) :: T72
theorem hT33 : AllC Try.prog T33 := AllC.fresh (an := an33) (S := S33) (ps := ps33) (rs := rs33) hT72 gd33 (by kernel_rfl)
noncomputable def lf33_2 : Int × Int × Int × Int × (List (DMapDisk)) × (List (DMapView)) × (List (DMapDone)) × Unit → Option (Outs ou33_2) := lfp (vround (tabC T72) an33 (mkL (tabC T72) an33 [] (ac33.body 2)) (ac33.body 2) sk33_2 ou33_2)
noncomputable def lg33_2 (v_d : Int) (v_b0_0 : Int) (v_b0_1 : Int) (v_b0_2 : Int) (v_b0_3 : List (DMapDisk)) (v_b0_4 : List (DMapView)) (v_b0_5 : List (DMapDone)) : Option (Sum (Unit) (Sum (Bool × Unit) (Empty))) := lf33_2 (v_d, v_b0_0, v_b0_1, v_b0_2, v_b0_3, v_b0_4, v_b0_5, ())
theorem lg33_2_eq (v_d : Int) (v_b0_0 : Int) (v_b0_1 : Int) (v_b0_2 : Int) (v_b0_3 : List (DMapDisk)) (v_b0_4 : List (DMapView)) (v_b0_5 : List (DMapDone)) : (lg33_2 v_d v_b0_0 v_b0_1 v_b0_2 v_b0_3 v_b0_4 v_b0_5) = (br (decide (v_d < ((v_b0_5.length : Nat) : Int))) (chk (decide (0 ≤ v_d ∧ v_d < ((v_b0_5.length : Nat) : Int))) (let e8 : DMapDone := (v_b0_5.getD v_d.toNat ((0 : Int), (0 : Int), (0 : Int), (0 : Int), ())); (chk ((decide (0 ≤ (IntKind.i64.wrap (v_d - (1 : Int))) ∧ (IntKind.i64.wrap (v_d - (1 : Int))) < ((v_b0_5.length : Nat) : Int))) || (!((!((((!(f56 e8.1 (0 : Int) (3 : Int))) || (!(f56 e8.2.1 (1 : Int) (99999 : Int)))) || (!(f56 e8.2.2.1 (0 : Int) (6 : Int)))) || (!(f72 e8.2.2.2.1)))) && (decide (v_d > (0 : Int)))))) (let e9 : DMapDone := (v_b0_5.getD (IntKind.i64.wrap (v_d - (1 : Int))).toNat ((0 : Int), (0 : Int), (0 : Int), (0 : Int), ())); (br (((((!(f56 e8.1 (0 : Int) (3 : Int))) || (!(f56 e8.2.1 (1 : Int) (99999 : Int)))) || (!(f56 e8.2.2.1 (0 : Int) (6 : Int)))) || (!(f72 e8.2.2.2.1))) || ((decide (v_d > (0 : Int))) && (decide (e9.1 ≥ e8.1)))) (some (.inr (.inl (false, ())))) (lg33_2 (IntKind.i64.wrap (v_d + (1 : Int))) v_b0_0 v_b0_1 v_b0_2 v_b0_3 v_b0_4 v_b0_5)))))) (some (.inl (())))) :=
  (show lf33_2 (v_d, v_b0_0, v_b0_1, v_b0_2, v_b0_3, v_b0_4, v_b0_5, ()) = _ from lfp_eq (fun x => vround_lin _ _ _ _ x) _).trans (by kernel_rfl)
noncomputable def lf33_1 : Int × Int × Int × Int × (List (DMapDisk)) × (List (DMapView)) × (List (DMapDone)) × Unit → Option (Outs ou33_1) := lfp (vround (tabC T72) an33 (mkL (tabC T72) an33 [] (ac33.body 1)) (ac33.body 1) sk33_1 ou33_1)
noncomputable def lg33_1 (v_e : Int) (v_b0_0 : Int) (v_b0_1 : Int) (v_b0_2 : Int) (v_b0_3 : List (DMapDisk)) (v_b0_4 : List (DMapView)) (v_b0_5 : List (DMapDone)) : Option (Sum (DMapState) (Sum (Bool × Unit) (Empty))) := lf33_1 (v_e, v_b0_0, v_b0_1, v_b0_2, v_b0_3, v_b0_4, v_b0_5, ())
theorem lg33_1_eq (v_e : Int) (v_b0_0 : Int) (v_b0_1 : Int) (v_b0_2 : Int) (v_b0_3 : List (DMapDisk)) (v_b0_4 : List (DMapView)) (v_b0_5 : List (DMapDone)) : (lg33_1 v_e v_b0_0 v_b0_1 v_b0_2 v_b0_3 v_b0_4 v_b0_5) = (br (decide (v_e < ((v_b0_4.length : Nat) : Int))) (chk (decide (0 ≤ v_e ∧ v_e < ((v_b0_4.length : Nat) : Int))) (let e6 : DMapView := (v_b0_4.getD v_e.toNat ((0 : Int), (0 : Int), (0 : Int), ())); (br ((((!(f56 e6.1 (1 : Int) (99999 : Int))) || (!(f56 e6.2.1 (0 : Int) (IntKind.i64.wrap (v_b0_1 - (1 : Int)))))) || (!(f56 e6.2.2.1 (-1 : Int) (IntKind.i64.wrap (v_b0_1 - (1 : Int)))))) || (e6.2.1 == e6.2.2.1)) (some (.inr (.inl (false, ())))) (lg33_1 (IntKind.i64.wrap (v_e + (1 : Int))) v_b0_0 v_b0_1 v_b0_2 v_b0_3 v_b0_4 v_b0_5)))) (some (.inl (v_b0_0, v_b0_1, v_b0_2, v_b0_3, v_b0_4, v_b0_5, ())))) :=
  (show lf33_1 (v_e, v_b0_0, v_b0_1, v_b0_2, v_b0_3, v_b0_4, v_b0_5, ()) = _ from lfp_eq (fun x => vround_lin _ _ _ _ x) _).trans (by kernel_rfl)
noncomputable def lf33_0 : Int × Int × Int × Int × (List (DMapDisk)) × (List (DMapView)) × (List (DMapDone)) × Unit → Option (Outs ou33_0) := lfp (vround (tabC T72) an33 (mkL (tabC T72) an33 [] (ac33.body 0)) (ac33.body 0) sk33_0 ou33_0)
noncomputable def lg33_0 (v_p : Int) (v_b0_0 : Int) (v_b0_1 : Int) (v_b0_2 : Int) (v_b0_3 : List (DMapDisk)) (v_b0_4 : List (DMapView)) (v_b0_5 : List (DMapDone)) : Option (Sum (DMapState) (Sum (Bool × Unit) (Empty))) := lf33_0 (v_p, v_b0_0, v_b0_1, v_b0_2, v_b0_3, v_b0_4, v_b0_5, ())
theorem lg33_0_eq (v_p : Int) (v_b0_0 : Int) (v_b0_1 : Int) (v_b0_2 : Int) (v_b0_3 : List (DMapDisk)) (v_b0_4 : List (DMapView)) (v_b0_5 : List (DMapDone)) : (lg33_0 v_p v_b0_0 v_b0_1 v_b0_2 v_b0_3 v_b0_4 v_b0_5) = (br (decide (v_p < ((v_b0_3.length : Nat) : Int))) (chk (decide (0 ≤ v_p ∧ v_p < ((v_b0_3.length : Nat) : Int))) (let e1 : DMapDisk := (v_b0_3.getD v_p.toNat ((0 : Int), (0 : Int), (0 : Int), (0 : Int), (0 : Int), (0 : Int), [], ())); ((G101 v_b0_0 v_b0_1 v_b0_2 v_b0_3 v_b0_4 v_b0_5 e1.1 e1.2.1 e1.2.2.1 e1.2.2.2.1 e1.2.2.2.2.1 e1.2.2.2.2.2.1 e1.2.2.2.2.2.2.1).bind fun (y2 : Bool × Unit) => (chk ((decide (0 ≤ (IntKind.i64.wrap (v_p - (1 : Int))) ∧ (IntKind.i64.wrap (v_p - (1 : Int))) < ((v_b0_3.length : Nat) : Int))) || (!((!(!y2.1)) && (decide (v_p > (0 : Int)))))) (let e3 : DMapDisk := (v_b0_3.getD (IntKind.i64.wrap (v_p - (1 : Int))).toNat ((0 : Int), (0 : Int), (0 : Int), (0 : Int), (0 : Int), (0 : Int), [], ())); (chk ((decide (0 ≤ v_p ∧ v_p < ((v_b0_3.length : Nat) : Int))) || (!((!(!y2.1)) && (decide (v_p > (0 : Int)))))) (let e4 : DMapDisk := (v_b0_3.getD v_p.toNat ((0 : Int), (0 : Int), (0 : Int), (0 : Int), (0 : Int), (0 : Int), [], ())); (br ((!y2.1) || ((decide (v_p > (0 : Int))) && (decide (e3.1 ≥ e4.1)))) (some (.inr (.inl (false, ())))) (lg33_0 (IntKind.i64.wrap (v_p + (1 : Int))) v_b0_0 v_b0_1 v_b0_2 v_b0_3 v_b0_4 v_b0_5))))))))) (some (.inl (v_b0_0, v_b0_1, v_b0_2, v_b0_3, v_b0_4, v_b0_5, ())))) :=
  (show lf33_0 (v_p, v_b0_0, v_b0_1, v_b0_2, v_b0_3, v_b0_4, v_b0_5, ()) = _ from lfp_eq (fun x => vround_lin _ _ _ _ x) _).trans (by kernel_rfl)
noncomputable def G33 (a_x0 : Int) (a_x1 : Int) (a_x2 : Int) (a_x3 : List (DMapDisk)) (a_x4 : List (DMapView)) (a_x5 : List (DMapDone)) : Option (Bool × Unit) := F33 (a_x0, a_x1, a_x2, a_x3, a_x4, a_x5, ())
theorem G33_eq (a_x0 : Int) (a_x1 : Int) (a_x2 : Int) (a_x3 : List (DMapDisk)) (a_x4 : List (DMapView)) (a_x5 : List (DMapDone)) : (G33 a_x0 a_x1 a_x2 a_x3 a_x4 a_x5) = (br ((((((!(f56 a_x0 (0 : Int) (60 : Int))) || (!(f56 a_x1 (3 : Int) (5 : Int)))) || (!(f56 a_x2 (1 : Int) (5 : Int)))) || (decide (((a_x3.length : Nat) : Int) > (4 : Int)))) || (((a_x4.length : Nat) : Int) != (3 : Int))) || (decide (((a_x5.length : Nat) : Int) > (4 : Int)))) (some (false, ())) ((lg33_0 (0 : Int) a_x0 a_x1 a_x2 a_x3 a_x4 a_x5).bind fun o => match o with | .inl (y5 : DMapState) => ((lg33_1 (0 : Int) y5.1 y5.2.1 y5.2.2.1 y5.2.2.2.1 y5.2.2.2.2.1 y5.2.2.2.2.2.1).bind fun o => match o with | .inl (y7 : DMapState) => ((lg33_2 (0 : Int) y7.1 y7.2.1 y7.2.2.1 y7.2.2.2.1 y7.2.2.2.2.1 y7.2.2.2.2.2.1).bind fun o => match o with | .inl (y10 : Unit) => (some (true, ())) | .inr (.inl (y11 : Bool × Unit)) => (some (y11.1, ()))) | .inr (.inl (y12 : Bool × Unit)) => (some (y12.1, ()))) | .inr (.inl (y13 : Bool × Unit)) => (some (y13.1, ())))) := by kernel_rfl
noncomputable def ac121 : ACode := acOf Try.prog 121
theorem gd121 : Good Try.prog (121, ac121, [.cell 2 true 6], 43) := ⟨_, Try.func121, by kernel_rfl, by kernel_rfl, by kernel_rfl, by kernel_rfl⟩
/- spec.l31Copy -/
def sk121_0 : Skel := ⟨mkE 43 [(1, .box 0 0), (2, .box 1 0), (3, .box 2 0), (4, .int .i64)], [some [.int .i64, .int .i64, .int .i64, .lst MapDisk, .lst MapView, .lst MapDone], some [.int .i64, .int .i64, .int .i64, .nil, .nil, .nil], some [.int .i64, .int .i64, .int .i64, .ref 0, .lst MapView, .lst MapDone]], [some (.m .S, MapDisk)], 0⟩
def ou121_0 : List (Option Nat × Skel) := [(some 0, ⟨mkE 43 [(1, .box 0 0), (2, .box 1 0), (3, .box 2 0)], [some [.int .i64, .int .i64, .int .i64, .lst MapDisk, .lst MapView, .lst MapDone], some [.int .i64, .int .i64, .int .i64, .nil, .nil, .nil], some [.int .i64, .int .i64, .int .i64, .ref 0, .lst MapView, .lst MapDone]], [some (.m .S, MapDisk)], 0⟩)]
def an121 : List (Nat × An) := [(7, .ty MapDisk), (29, .ty MapDisk)]
def S121 : List (Skel × List (Option Nat × Skel)) := [(sk121_0, ou121_0)]
def ps121 : List PK := [⟨none, true, MapState, false⟩]
def rs121 : List PK := [⟨some .S, true, MapState, false⟩]
noncomputable def F121 := FN (tabC T33) an121 S121 ac121 [.cell 2 true 6] 43 false 1 ps121 rs121
noncomputable def T121 : List (FuncId × Ctr) := (121, ⟨true, false, 1, ps121, rs121, F121⟩) :: T33
theorem hT121 : AllC Try.prog T121 := AllC.fresh (an := an121) (S := S121) (ps := ps121) (rs := rs121) hT33 gd121 (by kernel_rfl)
noncomputable def lf121_0 : Int × Int × Int × Int × (List (DMapDisk)) × (List (DMapView)) × (List (DMapDone)) × Int × Int × Int × Int × Int × Int × (List (DMapView)) × (List (DMapDone)) × (List (DMapDisk)) × Unit → Option (Outs ou121_0) := lfp (vround (tabC T33) an121 (mkL (tabC T33) an121 [] (ac121.body 0)) (ac121.body 0) sk121_0 ou121_0)
noncomputable def lg121_0 (v_i : Int) (v_b0_0 : Int) (v_b0_1 : Int) (v_b0_2 : Int) (v_b0_3 : List (DMapDisk)) (v_b0_4 : List (DMapView)) (v_b0_5 : List (DMapDone)) (v_b1_0 : Int) (v_b1_1 : Int) (v_b1_2 : Int) (v_b2_0 : Int) (v_b2_1 : Int) (v_b2_2 : Int) (v_b2_4 : List (DMapView)) (v_b2_5 : List (DMapDone)) (v_r0 : List (DMapDisk)) : Option (Sum (Int × Int × Int × (List (DMapDisk)) × (List (DMapView)) × (List (DMapDone)) × Int × Int × Int × Int × Int × Int × (List (DMapView)) × (List (DMapDone)) × (List (DMapDisk)) × Unit) (Empty)) := lf121_0 (v_i, v_b0_0, v_b0_1, v_b0_2, v_b0_3, v_b0_4, v_b0_5, v_b1_0, v_b1_1, v_b1_2, v_b2_0, v_b2_1, v_b2_2, v_b2_4, v_b2_5, v_r0, ())
theorem lg121_0_eq (v_i : Int) (v_b0_0 : Int) (v_b0_1 : Int) (v_b0_2 : Int) (v_b0_3 : List (DMapDisk)) (v_b0_4 : List (DMapView)) (v_b0_5 : List (DMapDone)) (v_b1_0 : Int) (v_b1_1 : Int) (v_b1_2 : Int) (v_b2_0 : Int) (v_b2_1 : Int) (v_b2_2 : Int) (v_b2_4 : List (DMapView)) (v_b2_5 : List (DMapDone)) (v_r0 : List (DMapDisk)) : (lg121_0 v_i v_b0_0 v_b0_1 v_b0_2 v_b0_3 v_b0_4 v_b0_5 v_b1_0 v_b1_1 v_b1_2 v_b2_0 v_b2_1 v_b2_2 v_b2_4 v_b2_5 v_r0) = (br (decide (v_i < ((v_b0_3.length : Nat) : Int))) (chk (decide (0 ≤ v_i ∧ v_i < ((v_b0_3.length : Nat) : Int))) (let e1 : DMapDisk := (v_b0_3.getD v_i.toNat ((0 : Int), (0 : Int), (0 : Int), (0 : Int), (0 : Int), (0 : Int), [], ())); (chk (capOk ((0) + e1.2.2.2.2.2.2.1.length) 8) (chk (capOk (v_r0.length + (1)) 72) (lg121_0 (IntKind.i64.wrap (v_i + (1 : Int))) v_b0_0 v_b0_1 v_b0_2 v_b0_3 v_b0_4 v_b0_5 v_b1_0 v_b1_1 v_b1_2 v_b2_0 v_b2_1 v_b2_2 v_b2_4 v_b2_5 (v_r0 ++ [(e1.1, e1.2.1, e1.2.2.1, e1.2.2.2.1, e1.2.2.2.2.1, e1.2.2.2.2.2.1, e1.2.2.2.2.2.2.1, ())])))))) (some (.inl (v_b0_0, v_b0_1, v_b0_2, v_b0_3, v_b0_4, v_b0_5, v_b1_0, v_b1_1, v_b1_2, v_b2_0, v_b2_1, v_b2_2, v_b2_4, v_b2_5, v_r0, ())))) :=
  (show lf121_0 (v_i, v_b0_0, v_b0_1, v_b0_2, v_b0_3, v_b0_4, v_b0_5, v_b1_0, v_b1_1, v_b1_2, v_b2_0, v_b2_1, v_b2_2, v_b2_4, v_b2_5, v_r0, ()) = _ from lfp_eq (fun x => vround_lin _ _ _ _ x) _).trans (by kernel_rfl)
noncomputable def G121 (a_m0 : Int) (a_m1 : Int) (a_m2 : Int) (a_m3 : List (DMapDisk)) (a_m4 : List (DMapView)) (a_m5 : List (DMapDone)) : Option (DMapState) := F121 (a_m0, a_m1, a_m2, a_m3, a_m4, a_m5, ())
theorem G121_eq (a_m0 : Int) (a_m1 : Int) (a_m2 : Int) (a_m3 : List (DMapDisk)) (a_m4 : List (DMapView)) (a_m5 : List (DMapDone)) : (G121 a_m0 a_m1 a_m2 a_m3 a_m4 a_m5) = ((lg121_0 (0 : Int) a_m0 a_m1 a_m2 a_m3 a_m4 a_m5 (0 : Int) (0 : Int) (0 : Int) a_m0 a_m1 a_m2 a_m4 a_m5 []).bind fun o => match o with | .inl (y2 : Int × Int × Int × (List (DMapDisk)) × (List (DMapView)) × (List (DMapDone)) × Int × Int × Int × Int × Int × Int × (List (DMapView)) × (List (DMapDone)) × (List (DMapDisk)) × Unit) => (chk (capOk ((0) + y2.2.2.2.2.1.length) 24) (chk (capOk ((0) + y2.2.2.2.2.2.1.length) 32) (some (y2.2.2.2.2.2.2.2.2.2.1, y2.2.2.2.2.2.2.2.2.2.2.1, y2.2.2.2.2.2.2.2.2.2.2.2.1, y2.2.2.2.2.2.2.2.2.2.2.2.2.2.2.1, y2.2.2.2.2.1, y2.2.2.2.2.2.1, ()))))) := by kernel_rfl
noncomputable def ac74 : ACode := acOf Try.prog 74
theorem gd74 : Good Try.prog (74, ac74, [.tmp 2], 51) := ⟨_, Try.func74, by kernel_rfl, by kernel_rfl, by kernel_rfl, by kernel_rfl⟩
/- spec.l11CmdOk -/
def an74 : List (Nat × An) := []
def S74 : List (Skel × List (Option Nat × Skel)) := []
def ps74 : List PK := [⟨none, true, Cmd, false⟩]
def rs74 : List PK := [⟨some .S, false, [.bool], false⟩]
noncomputable def F74 := FN (tabC T121) an74 S74 ac74 [.tmp 2] 51 false 1 ps74 rs74
noncomputable def T74 : List (FuncId × Ctr) := (74, ⟨true, false, 1, ps74, rs74, F74⟩) :: T121
theorem hT74 : AllC Try.prog T74 := AllC.fresh (an := an74) (S := S74) (ps := ps74) (rs := rs74) hT121 gd74 (by kernel_rfl)
noncomputable def G74 (a_c0 : Int) (a_c1 : Int) (a_c2 : Int) (a_c3 : Int) (a_c4 : Int) (a_c5 : Int) (a_c6 : Int) (a_c7 : Int) (a_c8 : Int) (a_c9 : Int) : Option (Bool × Unit) := F74 (a_c0, a_c1, a_c2, a_c3, a_c4, a_c5, a_c6, a_c7, a_c8, a_c9, ())
def f74 (a_c0 : Int) (a_c1 : Int) (a_c2 : Int) (a_c3 : Int) (a_c4 : Int) (a_c5 : Int) (a_c6 : Int) (a_c7 : Int) (a_c8 : Int) (a_c9 : Int) : Bool := ((((((((((f56 a_c0 (0 : Int) (7 : Int)) && (f72 a_c1)) && (f72 a_c2)) && (f72 a_c3)) && (f72 a_c4)) && (f72 a_c5)) && (f72 a_c6)) && (f72 a_c7)) && (f72 a_c8)) && (f72 a_c9))
theorem G74_eq (a_c0 : Int) (a_c1 : Int) (a_c2 : Int) (a_c3 : Int) (a_c4 : Int) (a_c5 : Int) (a_c6 : Int) (a_c7 : Int) (a_c8 : Int) (a_c9 : Int) : (G74 a_c0 a_c1 a_c2 a_c3 a_c4 a_c5 a_c6 a_c7 a_c8 a_c9) = some ((f74 a_c0 a_c1 a_c2 a_c3 a_c4 a_c5 a_c6 a_c7 a_c8 a_c9), ()) := by kernel_rfl
noncomputable def ac122 : ACode := acOf Try.prog 122
theorem gd122 : Good Try.prog (122, ac122, [.cell 4 true 6], 85) := ⟨_, Try.func122, by kernel_rfl, by kernel_rfl, by kernel_rfl, by kernel_rfl⟩
/- spec.l31View -/
def an122 : List (Nat × An) := []
def S122 : List (Skel × List (Option Nat × Skel)) := []
def ps122 : List PK := [⟨some .A, true, MapState, false⟩, ⟨none, true, Cmd, false⟩]
def rs122 : List PK := [⟨some .A, true, MapState, false⟩]
noncomputable def F122 := FN (tabC T74) an122 S122 ac122 [.cell 4 true 6] 85 false 1 ps122 rs122
noncomputable def T122 : List (FuncId × Ctr) := (122, ⟨false, false, 1, ps122, rs122, F122⟩) :: T74
theorem hT122 : AllC Try.prog T122 := AllC.own (an := an122) (S := S122) (ps := ps122) (rs := rs122) hT74 gd122 (by kernel_rfl)
noncomputable def G122 (a_m0 : Int) (a_m1 : Int) (a_m2 : Int) (a_m3 : List (DMapDisk)) (a_m4 : List (DMapView)) (a_m5 : List (DMapDone)) (a_c0 : Int) (a_c1 : Int) (a_c2 : Int) (a_c3 : Int) (a_c4 : Int) (a_c5 : Int) (a_c6 : Int) (a_c7 : Int) (a_c8 : Int) (a_c9 : Int) : Option (DMapState) := F122 (a_m0, a_m1, a_m2, a_m3, a_m4, a_m5, a_c0, a_c1, a_c2, a_c3, a_c4, a_c5, a_c6, a_c7, a_c8, a_c9, ())
theorem G122_eq (a_m0 : Int) (a_m1 : Int) (a_m2 : Int) (a_m3 : List (DMapDisk)) (a_m4 : List (DMapView)) (a_m5 : List (DMapDone)) (a_c0 : Int) (a_c1 : Int) (a_c2 : Int) (a_c3 : Int) (a_c4 : Int) (a_c5 : Int) (a_c6 : Int) (a_c7 : Int) (a_c8 : Int) (a_c9 : Int) : (G122 a_m0 a_m1 a_m2 a_m3 a_m4 a_m5 a_c0 a_c1 a_c2 a_c3 a_c4 a_c5 a_c6 a_c7 a_c8 a_c9) = (br (!(f56 a_c6 (0 : Int) (2 : Int))) (some (a_m0, a_m1, a_m2, a_m3, a_m4, a_m5, ())) (chk (decide (0 ≤ a_c6 ∧ a_c6 < ((a_m4.length : Nat) : Int))) (let e1 : DMapView := (a_m4.getD a_c6.toNat ((0 : Int), (0 : Int), (0 : Int), ())); (br ((((((a_c7 != (IntKind.i64.wrap (e1.1 + (1 : Int)))) || ((a_c8 != e1.2.1) && (a_c8 != e1.2.2.1))) || (decide (a_c8 < (0 : Int)))) || (decide (a_c9 ≥ a_m1))) || (a_c8 == a_c9)) || ((decide (a_c9 ≥ (0 : Int))) && (decide (e1.2.2.1 ≥ (0 : Int))))) (some (a_m0, a_m1, a_m2, a_m3, a_m4, a_m5, ())) (let k3 := fun (v2 : Int) => (chk (decide (0 ≤ a_c6 ∧ a_c6 < ((a_m4.length : Nat) : Int))) (some (a_m0, a_m1, a_m2, a_m3, (a_m4.set a_c6.toNat (a_c7, a_c8, v2, ())), a_m5, ()))); (br (decide (a_c9 ≥ (0 : Int))) (k3 a_c9) (k3 (-1 : Int)))))))) := by kernel_rfl
noncomputable def ac104 : ACode := acOf Try.prog 104
theorem gd104 : Good Try.prog (104, ac104, [.tmp 4], 22) := ⟨_, Try.func104, by kernel_rfl, by kernel_rfl, by kernel_rfl, by kernel_rfl⟩
/- spec.l31Disk -/
def sk104_0 : Skel := ⟨mkE 22 [(1, .int .i64), (2, .box 0 0), (5, .int .i64)], [some [.int .i64, .int .i64, .int .i64, .lst MapDisk, .lst MapView, .lst MapDone]], [], 0⟩
def ou104_0 : List (Option Nat × Skel) := [(some 0, ⟨mkE 22 [], [], [], 0⟩), (none, ⟨mkE 22 [(4, .int .i64)], [], [], 0⟩)]
def an104 : List (Nat × An) := []
def S104 : List (Skel × List (Option Nat × Skel)) := [(sk104_0, ou104_0)]
def ps104 : List PK := [⟨none, true, MapState, false⟩, ⟨none, false, [I], false⟩]
def rs104 : List PK := [⟨some .S, false, [I], false⟩]
noncomputable def F104 := FN (tabC T122) an104 S104 ac104 [.tmp 4] 22 false 1 ps104 rs104
noncomputable def T104 : List (FuncId × Ctr) := (104, ⟨true, false, 1, ps104, rs104, F104⟩) :: T122
theorem hT104 : AllC Try.prog T104 := AllC.fresh (an := an104) (S := S104) (ps := ps104) (rs := rs104) hT122 gd104 (by kernel_rfl)
noncomputable def lf104_0 : Int × Int × Int × Int × Int × (List (DMapDisk)) × (List (DMapView)) × (List (DMapDone)) × Unit → Option (Outs ou104_0) := lfp (vround (tabC T122) an104 (mkL (tabC T122) an104 [] (ac104.body 0)) (ac104.body 0) sk104_0 ou104_0)
noncomputable def lg104_0 (v_id : Int) (v_i : Int) (v_b0_0 : Int) (v_b0_1 : Int) (v_b0_2 : Int) (v_b0_3 : List (DMapDisk)) (v_b0_4 : List (DMapView)) (v_b0_5 : List (DMapDone)) : Option (Sum (Unit) (Sum (Int × Unit) (Empty))) := lf104_0 (v_id, v_i, v_b0_0, v_b0_1, v_b0_2, v_b0_3, v_b0_4, v_b0_5, ())
theorem lg104_0_eq (v_id : Int) (v_i : Int) (v_b0_0 : Int) (v_b0_1 : Int) (v_b0_2 : Int) (v_b0_3 : List (DMapDisk)) (v_b0_4 : List (DMapView)) (v_b0_5 : List (DMapDone)) : (lg104_0 v_id v_i v_b0_0 v_b0_1 v_b0_2 v_b0_3 v_b0_4 v_b0_5) = (br (decide (v_i < ((v_b0_3.length : Nat) : Int))) (chk (decide (0 ≤ v_i ∧ v_i < ((v_b0_3.length : Nat) : Int))) (let e1 : DMapDisk := (v_b0_3.getD v_i.toNat ((0 : Int), (0 : Int), (0 : Int), (0 : Int), (0 : Int), (0 : Int), [], ())); (br (e1.1 == v_id) (some (.inr (.inl (v_i, ())))) (lg104_0 v_id (IntKind.i64.wrap (v_i + (1 : Int))) v_b0_0 v_b0_1 v_b0_2 v_b0_3 v_b0_4 v_b0_5)))) (some (.inl (())))) :=
  (show lf104_0 (v_id, v_i, v_b0_0, v_b0_1, v_b0_2, v_b0_3, v_b0_4, v_b0_5, ()) = _ from lfp_eq (fun x => vround_lin _ _ _ _ x) _).trans (by kernel_rfl)
noncomputable def G104 (a_m0 : Int) (a_m1 : Int) (a_m2 : Int) (a_m3 : List (DMapDisk)) (a_m4 : List (DMapView)) (a_m5 : List (DMapDone)) (a_id : Int) : Option (Int × Unit) := F104 (a_m0, a_m1, a_m2, a_m3, a_m4, a_m5, a_id, ())
theorem G104_eq (a_m0 : Int) (a_m1 : Int) (a_m2 : Int) (a_m3 : List (DMapDisk)) (a_m4 : List (DMapView)) (a_m5 : List (DMapDone)) (a_id : Int) : (G104 a_m0 a_m1 a_m2 a_m3 a_m4 a_m5 a_id) = ((lg104_0 a_id (0 : Int) a_m0 a_m1 a_m2 a_m3 a_m4 a_m5).bind fun o => match o with | .inl (y2 : Unit) => (some ((-1 : Int), ())) | .inr (.inl (y3 : Int × Unit)) => (some (y3.1, ()))) := by kernel_rfl
noncomputable def ac188 : ACode := acOf Try.prog 188
theorem gd188 : Good Try.prog (188, ac188, [.cell 4 true 4], 27) := ⟨_, Try.func188, by kernel_rfl, by kernel_rfl, by kernel_rfl, by kernel_rfl⟩
/- spec.l31Last -/
def sk188_0 : Skel := ⟨mkE 27 [(1, .int .i64), (2, .box 0 0), (4, .box 1 0), (5, .int .i64)], [some [.int .i64, .int .i64, .int .i64, .lst MapDisk, .lst MapView, .lst MapDone], some [.int .i64, .int .i64, .int .i64, .int .i64]], [], 0⟩
def ou188_0 : List (Option Nat × Skel) := [(some 0, ⟨mkE 27 [(4, .box 1 0)], [none, some [.int .i64, .int .i64, .int .i64, .int .i64]], [], 0⟩), (none, ⟨mkE 27 [(4, .box 1 0)], [none, some [.int .i64, .int .i64, .int .i64, .int .i64]], [], 0⟩)]
def an188 : List (Nat × An) := []
def S188 : List (Skel × List (Option Nat × Skel)) := [(sk188_0, ou188_0)]
def ps188 : List PK := [⟨none, true, MapState, false⟩, ⟨none, false, [I], false⟩]
def rs188 : List PK := [⟨some .S, true, MapDone, false⟩]
noncomputable def F188 := FN (tabC T104) an188 S188 ac188 [.cell 4 true 4] 27 false 1 ps188 rs188
noncomputable def T188 : List (FuncId × Ctr) := (188, ⟨true, false, 1, ps188, rs188, F188⟩) :: T104
theorem hT188 : AllC Try.prog T188 := AllC.fresh (an := an188) (S := S188) (ps := ps188) (rs := rs188) hT104 gd188 (by kernel_rfl)
noncomputable def lf188_0 : Int × Int × Int × Int × Int × (List (DMapDisk)) × (List (DMapView)) × (List (DMapDone)) × Int × Int × Int × Int × Unit → Option (Outs ou188_0) := lfp (vround (tabC T104) an188 (mkL (tabC T104) an188 [] (ac188.body 0)) (ac188.body 0) sk188_0 ou188_0)
noncomputable def lg188_0 (v_client : Int) (v_i : Int) (v_b0_0 : Int) (v_b0_1 : Int) (v_b0_2 : Int) (v_b0_3 : List (DMapDisk)) (v_b0_4 : List (DMapView)) (v_b0_5 : List (DMapDone)) (v_b1_0 : Int) (v_b1_1 : Int) (v_b1_2 : Int) (v_b1_3 : Int) : Option (Sum (DMapDone) (Sum (DMapDone) (Empty))) := lf188_0 (v_client, v_i, v_b0_0, v_b0_1, v_b0_2, v_b0_3, v_b0_4, v_b0_5, v_b1_0, v_b1_1, v_b1_2, v_b1_3, ())
theorem lg188_0_eq (v_client : Int) (v_i : Int) (v_b0_0 : Int) (v_b0_1 : Int) (v_b0_2 : Int) (v_b0_3 : List (DMapDisk)) (v_b0_4 : List (DMapView)) (v_b0_5 : List (DMapDone)) (v_b1_0 : Int) (v_b1_1 : Int) (v_b1_2 : Int) (v_b1_3 : Int) : (lg188_0 v_client v_i v_b0_0 v_b0_1 v_b0_2 v_b0_3 v_b0_4 v_b0_5 v_b1_0 v_b1_1 v_b1_2 v_b1_3) = (br (decide (v_i < ((v_b0_5.length : Nat) : Int))) (chk (decide (0 ≤ v_i ∧ v_i < ((v_b0_5.length : Nat) : Int))) (let e1 : DMapDone := (v_b0_5.getD v_i.toNat ((0 : Int), (0 : Int), (0 : Int), (0 : Int), ())); (br (e1.1 == v_client) (chk (decide (0 ≤ v_i ∧ v_i < ((v_b0_5.length : Nat) : Int))) (let e2 : DMapDone := (v_b0_5.getD v_i.toNat ((0 : Int), (0 : Int), (0 : Int), (0 : Int), ())); (some (.inr (.inl (e2.1, e2.2.1, e2.2.2.1, e2.2.2.2.1, ())))))) (lg188_0 v_client (IntKind.i64.wrap (v_i + (1 : Int))) v_b0_0 v_b0_1 v_b0_2 v_b0_3 v_b0_4 v_b0_5 v_b1_0 v_b1_1 v_b1_2 v_b1_3)))) (some (.inl (v_b1_0, v_b1_1, v_b1_2, v_b1_3, ())))) :=
  (show lf188_0 (v_client, v_i, v_b0_0, v_b0_1, v_b0_2, v_b0_3, v_b0_4, v_b0_5, v_b1_0, v_b1_1, v_b1_2, v_b1_3, ()) = _ from lfp_eq (fun x => vround_lin _ _ _ _ x) _).trans (by kernel_rfl)
noncomputable def G188 (a_m0 : Int) (a_m1 : Int) (a_m2 : Int) (a_m3 : List (DMapDisk)) (a_m4 : List (DMapView)) (a_m5 : List (DMapDone)) (a_client : Int) : Option (DMapDone) := F188 (a_m0, a_m1, a_m2, a_m3, a_m4, a_m5, a_client, ())
theorem G188_eq (a_m0 : Int) (a_m1 : Int) (a_m2 : Int) (a_m3 : List (DMapDisk)) (a_m4 : List (DMapView)) (a_m5 : List (DMapDone)) (a_client : Int) : (G188 a_m0 a_m1 a_m2 a_m3 a_m4 a_m5 a_client) = ((lg188_0 a_client (0 : Int) a_m0 a_m1 a_m2 a_m3 a_m4 a_m5 (0 : Int) (0 : Int) (0 : Int) (0 : Int)).bind fun o => match o with | .inl (y3 : DMapDone) => (some ((0 : Int), (0 : Int), (0 : Int), (0 : Int), ())) | .inr (.inl (y4 : DMapDone)) => (some (y4.1, y4.2.1, y4.2.2.1, y4.2.2.2.1, ()))) := by kernel_rfl
noncomputable def ac168 : ACode := acOf Try.prog 168
theorem gd168 : Good Try.prog (168, ac168, [.cell 4 true 6], 31) := ⟨_, Try.func168, by kernel_rfl, by kernel_rfl, by kernel_rfl, by kernel_rfl⟩
/- spec.l31Tell -/
def sk168_0 : Skel := ⟨mkE 31 [(2, .box 0 0), (3, .box 1 0), (4, .box 2 0), (5, .ref 3), (6, .int .i64)], [some [.int .i64, .int .i64, .int .i64, .ref 0, .ref 1, .ref 2], some [.int .i64, .int .i64, .int .i64, .int .i64], some [.int .i64, .int .i64, .int .i64, .nil, .nil, .nil]], [some (.m .A, MapDisk), some (.m .Z, MapView), some (.m .Z, MapDone), some (.m .Z, MapDone)], 0⟩
def ou168_0 : List (Option Nat × Skel) := [(some 0, ⟨mkE 31 [(2, .box 0 0), (4, .box 2 0), (5, .ref 3)], [some [.int .i64, .int .i64, .int .i64, .ref 0, .ref 1, .ref 2], none, some [.int .i64, .int .i64, .int .i64, .nil, .nil, .nil]], [some (.m .A, MapDisk), some (.m .Z, MapView), some (.m .Z, MapDone), some (.m .Z, MapDone)], 0⟩)]
def an168 : List (Nat × An) := []
def S168 : List (Skel × List (Option Nat × Skel)) := [(sk168_0, ou168_0)]
def ps168 : List PK := [⟨some .A, true, MapState, false⟩, ⟨none, true, MapDone, false⟩]
def rs168 : List PK := [⟨some .A, true, MapState, false⟩]
noncomputable def F168 := FN (tabC T188) an168 S168 ac168 [.cell 4 true 6] 31 false 1 ps168 rs168
noncomputable def T168 : List (FuncId × Ctr) := (168, ⟨false, false, 1, ps168, rs168, F168⟩) :: T188
theorem hT168 : AllC Try.prog T168 := AllC.own (an := an168) (S := S168) (ps := ps168) (rs := rs168) hT188 gd168 (by kernel_rfl)
noncomputable def lf168_0 : Int × Int × Int × Int × Int × Int × Int × Int × Int × Int × Int × (List (DMapDisk)) × (List (DMapView)) × (List (DMapDone)) × (List (DMapDone)) × Unit → Option (Outs ou168_0) := lfp (vround (tabC T188) an168 (mkL (tabC T188) an168 [] (ac168.body 0)) (ac168.body 0) sk168_0 ou168_0)
noncomputable def lg168_0 (v_c : Int) (v_b0_0 : Int) (v_b0_1 : Int) (v_b0_2 : Int) (v_b1_0 : Int) (v_b1_1 : Int) (v_b1_2 : Int) (v_b1_3 : Int) (v_b2_0 : Int) (v_b2_1 : Int) (v_b2_2 : Int) (v_r0 : List (DMapDisk)) (v_r1 : List (DMapView)) (v_r2 : List (DMapDone)) (v_r3 : List (DMapDone)) : Option (Sum (Int × Int × Int × Int × Int × Int × (List (DMapDisk)) × (List (DMapView)) × (List (DMapDone)) × (List (DMapDone)) × Unit) (Empty)) := lf168_0 (v_c, v_b0_0, v_b0_1, v_b0_2, v_b1_0, v_b1_1, v_b1_2, v_b1_3, v_b2_0, v_b2_1, v_b2_2, v_r0, v_r1, v_r2, v_r3, ())
theorem lg168_0_eq (v_c : Int) (v_b0_0 : Int) (v_b0_1 : Int) (v_b0_2 : Int) (v_b1_0 : Int) (v_b1_1 : Int) (v_b1_2 : Int) (v_b1_3 : Int) (v_b2_0 : Int) (v_b2_1 : Int) (v_b2_2 : Int) (v_r0 : List (DMapDisk)) (v_r1 : List (DMapView)) (v_r2 : List (DMapDone)) (v_r3 : List (DMapDone)) : (lg168_0 v_c v_b0_0 v_b0_1 v_b0_2 v_b1_0 v_b1_1 v_b1_2 v_b1_3 v_b2_0 v_b2_1 v_b2_2 v_r0 v_r1 v_r2 v_r3) = (br (decide (v_c < (4 : Int))) ((G188 v_b0_0 v_b0_1 v_b0_2 v_r0 v_r1 v_r2 v_c).bind fun (y1 : DMapDone) => (let k8 := fun (v2 : Int) (v3 : Int) (v4 : Int) (v5 : Int) => (let k7 := fun (v6 : List (DMapDone)) => (lg168_0 (IntKind.i64.wrap (v_c + (1 : Int))) v_b0_0 v_b0_1 v_b0_2 v_b1_0 v_b1_1 v_b1_2 v_b1_3 v_b2_0 v_b2_1 v_b2_2 v_r0 v_r1 v_r2 v6); (br (decide (v3 > (0 : Int))) (chk (capOk (v_r3.length + (1)) 32) (k7 (v_r3 ++ [(v2, v3, v4, v5, ())]))) (k7 v_r3))); (br (v_c == v_b1_0) (k8 v_b1_0 v_b1_1 v_b1_2 v_b1_3) (k8 y1.1 y1.2.1 y1.2.2.1 y1.2.2.2.1)))) (some (.inl (v_b0_0, v_b0_1, v_b0_2, v_b2_0, v_b2_1, v_b2_2, v_r0, v_r1, v_r2, v_r3, ())))) :=
  (show lf168_0 (v_c, v_b0_0, v_b0_1, v_b0_2, v_b1_0, v_b1_1, v_b1_2, v_b1_3, v_b2_0, v_b2_1, v_b2_2, v_r0, v_r1, v_r2, v_r3, ()) = _ from lfp_eq (fun x => vround_lin _ _ _ _ x) _).trans (by kernel_rfl)
noncomputable def G168 (a_m0 : Int) (a_m1 : Int) (a_m2 : Int) (a_m3 : List (DMapDisk)) (a_m4 : List (DMapView)) (a_m5 : List (DMapDone)) (a_x0 : Int) (a_x1 : Int) (a_x2 : Int) (a_x3 : Int) : Option (DMapState) := F168 (a_m0, a_m1, a_m2, a_m3, a_m4, a_m5, a_x0, a_x1, a_x2, a_x3, ())
theorem G168_eq (a_m0 : Int) (a_m1 : Int) (a_m2 : Int) (a_m3 : List (DMapDisk)) (a_m4 : List (DMapView)) (a_m5 : List (DMapDone)) (a_x0 : Int) (a_x1 : Int) (a_x2 : Int) (a_x3 : Int) : (G168 a_m0 a_m1 a_m2 a_m3 a_m4 a_m5 a_x0 a_x1 a_x2 a_x3) = ((lg168_0 (0 : Int) a_m0 a_m1 a_m2 a_x0 a_x1 a_x2 a_x3 (0 : Int) (0 : Int) (0 : Int) a_m3 a_m4 a_m5 []).bind fun o => match o with | .inl (y9 : Int × Int × Int × Int × Int × Int × (List (DMapDisk)) × (List (DMapView)) × (List (DMapDone)) × (List (DMapDone)) × Unit) => (some (y9.1, y9.2.1, y9.2.2.1, y9.2.2.2.2.2.2.1, y9.2.2.2.2.2.2.2.1, y9.2.2.2.2.2.2.2.2.2.1, ()))) := by kernel_rfl
noncomputable def ac164 : ACode := acOf Try.prog 164
theorem gd164 : Good Try.prog (164, ac164, [.cell 4 true 6], 60) := ⟨_, Try.func164, by kernel_rfl, by kernel_rfl, by kernel_rfl, by kernel_rfl⟩
/- spec.l31Thaw -/
def an164 : List (Nat × An) := [(35, .ty MapDisk)]
def S164 : List (Skel × List (Option Nat × Skel)) := []
def ps164 : List PK := [⟨some .A, true, MapState, false⟩, ⟨none, false, [I], false⟩]
def rs164 : List PK := [⟨some .A, true, MapState, false⟩]
noncomputable def F164 := FN (tabC T168) an164 S164 ac164 [.cell 4 true 6] 60 false 1 ps164 rs164
noncomputable def T164 : List (FuncId × Ctr) := (164, ⟨false, false, 1, ps164, rs164, F164⟩) :: T168
theorem hT164 : AllC Try.prog T164 := AllC.own (an := an164) (S := S164) (ps := ps164) (rs := rs164) hT168 gd164 (by kernel_rfl)
noncomputable def G164 (a_m0 : Int) (a_m1 : Int) (a_m2 : Int) (a_m3 : List (DMapDisk)) (a_m4 : List (DMapView)) (a_m5 : List (DMapDone)) (a_i : Int) : Option (DMapState) := F164 (a_m0, a_m1, a_m2, a_m3, a_m4, a_m5, a_i, ())
theorem G164_eq (a_m0 : Int) (a_m1 : Int) (a_m2 : Int) (a_m3 : List (DMapDisk)) (a_m4 : List (DMapView)) (a_m5 : List (DMapDone)) (a_i : Int) : (G164 a_m0 a_m1 a_m2 a_m3 a_m4 a_m5 a_i) = (chk (decide (0 ≤ a_i ∧ a_i < ((a_m3.length : Nat) : Int))) (let e1 : DMapDisk := (a_m3.getD a_i.toNat ((0 : Int), (0 : Int), (0 : Int), (0 : Int), (0 : Int), (0 : Int), [], ())); (br (e1.2.2.2.1 == (1 : Int)) (chk (decide (0 ≤ a_i ∧ a_i < ((a_m3.length : Nat) : Int))) ((G188 a_m0 a_m1 a_m2 (a_m3.set a_i.toNat (e1.1, e1.2.1, (IntKind.i64.wrap (e1.2.2.1 + (1 : Int))), (0 : Int), (0 : Int), (0 : Int), [], ())) a_m4 a_m5 e1.2.2.2.2.1).bind fun (y2 : DMapDone) => (br (decide (y2.2.1 > e1.2.2.2.2.2.1)) (some (a_m0, a_m1, a_m2, (a_m3.set a_i.toNat (e1.1, e1.2.1, (IntKind.i64.wrap (e1.2.2.1 + (1 : Int))), (0 : Int), (0 : Int), (0 : Int), [], ())), a_m4, a_m5, ())) ((G168 a_m0 a_m1 a_m2 (a_m3.set a_i.toNat (e1.1, e1.2.1, (IntKind.i64.wrap (e1.2.2.1 + (1 : Int))), (0 : Int), (0 : Int), (0 : Int), [], ())) a_m4 a_m5 e1.2.2.2.2.1 e1.2.2.2.2.2.1 (0 : Int) e1.2.2.1).bind fun (y3 : DMapState) => (some (y3.1, y3.2.1, y3.2.2.1, y3.2.2.2.1, y3.2.2.2.2.1, y3.2.2.2.2.2.1, ())))))) (chk (decide (0 ≤ (0 : Int) ∧ (0 : Int) ≤ a_i ∧ a_i ≤ ((a_m3.length : Nat) : Int))) (chk (decide (0 ≤ (IntKind.i64.wrap (a_i + (1 : Int))) ∧ (IntKind.i64.wrap (a_i + (1 : Int))) ≤ ((a_m3.length : Nat) : Int) ∧ ((a_m3.length : Nat) : Int) ≤ ((a_m3.length : Nat) : Int))) (chk (capOk ((0) + (((a_m3.take a_i.toNat).drop 0)).length) 72) (chk (capOk ((((a_m3.take a_i.toNat).drop 0)).length + (((a_m3.take ((a_m3.length : Nat) : Int).toNat).drop (IntKind.i64.wrap (a_i + (1 : Int))).toNat)).length) 72) ((G188 a_m0 a_m1 a_m2 (((a_m3.take a_i.toNat).drop 0) ++ ((a_m3.take ((a_m3.length : Nat) : Int).toNat).drop (IntKind.i64.wrap (a_i + (1 : Int))).toNat)) a_m4 a_m5 e1.2.2.2.2.1).bind fun (y4 : DMapDone) => (br (decide (y4.2.1 > e1.2.2.2.2.2.1)) (some (a_m0, a_m1, a_m2, (((a_m3.take a_i.toNat).drop 0) ++ ((a_m3.take ((a_m3.length : Nat) : Int).toNat).drop (IntKind.i64.wrap (a_i + (1 : Int))).toNat)), a_m4, a_m5, ())) ((G168 a_m0 a_m1 a_m2 (((a_m3.take a_i.toNat).drop 0) ++ ((a_m3.take ((a_m3.length : Nat) : Int).toNat).drop (IntKind.i64.wrap (a_i + (1 : Int))).toNat)) a_m4 a_m5 e1.2.2.2.2.1 e1.2.2.2.2.2.1 (0 : Int) (0 : Int)).bind fun (y5 : DMapState) => (some (y5.1, y5.2.1, y5.2.2.1, y5.2.2.2.1, y5.2.2.2.2.1, y5.2.2.2.2.2.1, ())))))))))))) := by kernel_rfl
noncomputable def ac123 : ACode := acOf Try.prog 123
theorem gd123 : Good Try.prog (123, ac123, [.cell 4 true 6], 91) := ⟨_, Try.func123, by kernel_rfl, by kernel_rfl, by kernel_rfl, by kernel_rfl⟩
/- spec.l31Ack -/
def an123 : List (Nat × An) := []
def S123 : List (Skel × List (Option Nat × Skel)) := []
def ps123 : List PK := [⟨some .A, true, MapState, false⟩, ⟨none, true, Cmd, false⟩]
def rs123 : List PK := [⟨some .A, true, MapState, false⟩]
noncomputable def F123 := FN (tabC T164) an123 S123 ac123 [.cell 4 true 6] 91 false 1 ps123 rs123
noncomputable def T123 : List (FuncId × Ctr) := (123, ⟨false, false, 1, ps123, rs123, F123⟩) :: T164
theorem hT123 : AllC Try.prog T123 := AllC.own (an := an123) (S := S123) (ps := ps123) (rs := rs123) hT164 gd123 (by kernel_rfl)
noncomputable def G123 (a_m0 : Int) (a_m1 : Int) (a_m2 : Int) (a_m3 : List (DMapDisk)) (a_m4 : List (DMapView)) (a_m5 : List (DMapDone)) (a_c0 : Int) (a_c1 : Int) (a_c2 : Int) (a_c3 : Int) (a_c4 : Int) (a_c5 : Int) (a_c6 : Int) (a_c7 : Int) (a_c8 : Int) (a_c9 : Int) : Option (DMapState) := F123 (a_m0, a_m1, a_m2, a_m3, a_m4, a_m5, a_c0, a_c1, a_c2, a_c3, a_c4, a_c5, a_c6, a_c7, a_c8, a_c9, ())
theorem G123_eq (a_m0 : Int) (a_m1 : Int) (a_m2 : Int) (a_m3 : List (DMapDisk)) (a_m4 : List (DMapView)) (a_m5 : List (DMapDone)) (a_c0 : Int) (a_c1 : Int) (a_c2 : Int) (a_c3 : Int) (a_c4 : Int) (a_c5 : Int) (a_c6 : Int) (a_c7 : Int) (a_c8 : Int) (a_c9 : Int) : (G123 a_m0 a_m1 a_m2 a_m3 a_m4 a_m5 a_c0 a_c1 a_c2 a_c3 a_c4 a_c5 a_c6 a_c7 a_c8 a_c9) = ((G104 a_m0 a_m1 a_m2 a_m3 a_m4 a_m5 a_c3).bind fun (y1 : Int × Unit) => (chk ((decide (0 ≤ a_c6 ∧ a_c6 < ((a_m4.length : Nat) : Int))) || (!(!((decide (y1.1 < (0 : Int))) || (!(f56 a_c6 (0 : Int) (2 : Int))))))) (let e2 : DMapView := (a_m4.getD a_c6.toNat ((0 : Int), (0 : Int), (0 : Int), ())); (chk ((decide (0 ≤ y1.1 ∧ y1.1 < ((a_m3.length : Nat) : Int))) || (!(!(((decide (y1.1 < (0 : Int))) || (!(f56 a_c6 (0 : Int) (2 : Int)))) || (e2.1 != a_c7))))) (let e3 : DMapDisk := (a_m3.getD y1.1.toNat ((0 : Int), (0 : Int), (0 : Int), (0 : Int), (0 : Int), (0 : Int), [], ())); (chk ((decide (0 ≤ y1.1 ∧ y1.1 < ((a_m3.length : Nat) : Int))) || (!(!((((decide (y1.1 < (0 : Int))) || (!(f56 a_c6 (0 : Int) (2 : Int)))) || (e2.1 != a_c7)) || (e3.2.2.2.1 == (0 : Int)))))) (let e4 : DMapDisk := (a_m3.getD y1.1.toNat ((0 : Int), (0 : Int), (0 : Int), (0 : Int), (0 : Int), (0 : Int), [], ())); (chk ((decide (0 ≤ y1.1 ∧ y1.1 < ((a_m3.length : Nat) : Int))) || (!(!(((((decide (y1.1 < (0 : Int))) || (!(f56 a_c6 (0 : Int) (2 : Int)))) || (e2.1 != a_c7)) || (e3.2.2.2.1 == (0 : Int))) || (e4.2.2.1 != a_c5))))) (let e5 : DMapDisk := (a_m3.getD y1.1.toNat ((0 : Int), (0 : Int), (0 : Int), (0 : Int), (0 : Int), (0 : Int), [], ())); (chk ((G153 e5.2.2.2.2.2.2.1 a_c6).isSome || (!(!(((((decide (y1.1 < (0 : Int))) || (!(f56 a_c6 (0 : Int) (2 : Int)))) || (e2.1 != a_c7)) || (e3.2.2.2.1 == (0 : Int))) || (e4.2.2.1 != a_c5))))) (br ((((((decide (y1.1 < (0 : Int))) || (!(f56 a_c6 (0 : Int) (2 : Int)))) || (e2.1 != a_c7)) || (e3.2.2.2.1 == (0 : Int))) || (e4.2.2.1 != a_c5)) || ((G153 e5.2.2.2.2.2.2.1 a_c6).getD (false, ())).1) (some (a_m0, a_m1, a_m2, a_m3, a_m4, a_m5, ())) (chk (decide (0 ≤ y1.1 ∧ y1.1 < ((a_m3.length : Nat) : Int))) (let e6 : DMapDisk := (a_m3.getD y1.1.toNat ((0 : Int), (0 : Int), (0 : Int), (0 : Int), (0 : Int), (0 : Int), [], ())); (chk (capOk ((0) + e6.2.2.2.2.2.2.1.length) 8) (chk (capOk (e6.2.2.2.2.2.2.1.length + (1)) 8) (chk (decide (0 ≤ y1.1 ∧ y1.1 < ((a_m3.length : Nat) : Int))) (let e7 : DMapDisk := (a_m3.getD y1.1.toNat ((0 : Int), (0 : Int), (0 : Int), (0 : Int), (0 : Int), (0 : Int), [], ())); (let e8 : List (DMapDisk) := (a_m3.set y1.1.toNat (e7.1, e7.2.1, e7.2.2.1, e7.2.2.2.1, e7.2.2.2.2.1, e7.2.2.2.2.2.1, (e6.2.2.2.2.2.2.1 ++ [(a_c6, ())]), ())); (chk (decide (0 ≤ y1.1 ∧ y1.1 < ((e8.length : Nat) : Int))) (let e9 : DMapDisk := (e8.getD y1.1.toNat ((0 : Int), (0 : Int), (0 : Int), (0 : Int), (0 : Int), (0 : Int), [], ())); (br (((e9.2.2.2.2.2.2.1.length : Nat) : Int) == (3 : Int)) ((G164 a_m0 a_m1 a_m2 e8 a_m4 a_m5 y1.1).bind fun (y10 : DMapState) => (some (y10.1, y10.2.1, y10.2.2.1, y10.2.2.2.1, y10.2.2.2.2.1, y10.2.2.2.2.2.1, ()))) (some (a_m0, a_m1, a_m2, e8, a_m4, a_m5, ()))))))))))))))))))))))) := by kernel_rfl
noncomputable def ac165 : ACode := acOf Try.prog 165
theorem gd165 : Good Try.prog (165, ac165, [.tmp 6], 66) := ⟨_, Try.func165, by kernel_rfl, by kernel_rfl, by kernel_rfl, by kernel_rfl⟩
/- spec.l31Past -/
def sk165_0 : Skel := ⟨mkE 66 [(1, .int .i64), (2, .int .i64), (3, .box 0 0), (8, .int .i64)], [some [.int .i64, .int .i64, .int .i64, .lst MapDisk, .lst MapView, .lst MapDone]], [], 0⟩
def ou165_0 : List (Option Nat × Skel) := [(some 0, ⟨mkE 66 [], [], [], 0⟩), (none, ⟨mkE 66 [(6, .bool)], [], [], 0⟩)]
def an165 : List (Nat × An) := []
def S165 : List (Skel × List (Option Nat × Skel)) := [(sk165_0, ou165_0)]
def ps165 : List PK := [⟨none, true, MapState, false⟩, ⟨none, false, [I], false⟩, ⟨none, false, [I], false⟩]
def rs165 : List PK := [⟨some .S, false, [.bool], false⟩]
noncomputable def F165 := FN (tabC T123) an165 S165 ac165 [.tmp 6] 66 false 1 ps165 rs165
noncomputable def T165 : List (FuncId × Ctr) := (165, ⟨true, false, 1, ps165, rs165, F165⟩) :: T123
theorem hT165 : AllC Try.prog T165 := AllC.fresh (an := an165) (S := S165) (ps := ps165) (rs := rs165) hT123 gd165 (by kernel_rfl)
noncomputable def lf165_0 : Int × Int × Int × Int × Int × Int × (List (DMapDisk)) × (List (DMapView)) × (List (DMapDone)) × Unit → Option (Outs ou165_0) := lfp (vround (tabC T123) an165 (mkL (tabC T123) an165 [] (ac165.body 0)) (ac165.body 0) sk165_0 ou165_0)
noncomputable def lg165_0 (v_client : Int) (v_call : Int) (v_i : Int) (v_b0_0 : Int) (v_b0_1 : Int) (v_b0_2 : Int) (v_b0_3 : List (DMapDisk)) (v_b0_4 : List (DMapView)) (v_b0_5 : List (DMapDone)) : Option (Sum (Unit) (Sum (Bool × Unit) (Empty))) := lf165_0 (v_client, v_call, v_i, v_b0_0, v_b0_1, v_b0_2, v_b0_3, v_b0_4, v_b0_5, ())
theorem lg165_0_eq (v_client : Int) (v_call : Int) (v_i : Int) (v_b0_0 : Int) (v_b0_1 : Int) (v_b0_2 : Int) (v_b0_3 : List (DMapDisk)) (v_b0_4 : List (DMapView)) (v_b0_5 : List (DMapDone)) : (lg165_0 v_client v_call v_i v_b0_0 v_b0_1 v_b0_2 v_b0_3 v_b0_4 v_b0_5) = (br (decide (v_i < ((v_b0_3.length : Nat) : Int))) (chk (decide (0 ≤ v_i ∧ v_i < ((v_b0_3.length : Nat) : Int))) (let e2 : DMapDisk := (v_b0_3.getD v_i.toNat ((0 : Int), (0 : Int), (0 : Int), (0 : Int), (0 : Int), (0 : Int), [], ())); (chk ((decide (0 ≤ v_i ∧ v_i < ((v_b0_3.length : Nat) : Int))) || (!(e2.2.2.2.1 != (0 : Int)))) (let e3 : DMapDisk := (v_b0_3.getD v_i.toNat ((0 : Int), (0 : Int), (0 : Int), (0 : Int), (0 : Int), (0 : Int), [], ())); (chk ((decide (0 ≤ v_i ∧ v_i < ((v_b0_3.length : Nat) : Int))) || (!((e2.2.2.2.1 != (0 : Int)) && (e3.2.2.2.2.1 == v_client)))) (let e4 : DMapDisk := (v_b0_3.getD v_i.toNat ((0 : Int), (0 : Int), (0 : Int), (0 : Int), (0 : Int), (0 : Int), [], ())); (br (((e2.2.2.2.1 != (0 : Int)) && (e3.2.2.2.2.1 == v_client)) && (decide (e4.2.2.2.2.2.1 ≥ v_call))) (some (.inr (.inl (true, ())))) (lg165_0 v_client v_call (IntKind.i64.wrap (v_i + (1 : Int))) v_b0_0 v_b0_1 v_b0_2 v_b0_3 v_b0_4 v_b0_5)))))))) (some (.inl (())))) :=
  (show lf165_0 (v_client, v_call, v_i, v_b0_0, v_b0_1, v_b0_2, v_b0_3, v_b0_4, v_b0_5, ()) = _ from lfp_eq (fun x => vround_lin _ _ _ _ x) _).trans (by kernel_rfl)
noncomputable def G165 (a_m0 : Int) (a_m1 : Int) (a_m2 : Int) (a_m3 : List (DMapDisk)) (a_m4 : List (DMapView)) (a_m5 : List (DMapDone)) (a_client : Int) (a_call : Int) : Option (Bool × Unit) := F165 (a_m0, a_m1, a_m2, a_m3, a_m4, a_m5, a_client, a_call, ())
theorem G165_eq (a_m0 : Int) (a_m1 : Int) (a_m2 : Int) (a_m3 : List (DMapDisk)) (a_m4 : List (DMapView)) (a_m5 : List (DMapDone)) (a_client : Int) (a_call : Int) : (G165 a_m0 a_m1 a_m2 a_m3 a_m4 a_m5 a_client a_call) = ((G188 a_m0 a_m1 a_m2 a_m3 a_m4 a_m5 a_client).bind fun (y1 : DMapDone) => (br ((decide (y1.2.1 > (0 : Int))) && ((decide (y1.2.1 > a_call)) || ((y1.2.1 == a_call) && (y1.2.2.1 != (6 : Int))))) (some (true, ())) ((lg165_0 a_client a_call (0 : Int) a_m0 a_m1 a_m2 a_m3 a_m4 a_m5).bind fun o => match o with | .inl (y5 : Unit) => (some (false, ())) | .inr (.inl (y6 : Bool × Unit)) => (some (y6.1, ()))))) := by kernel_rfl
noncomputable def ac166 : ACode := acOf Try.prog 166
theorem gd166 : Good Try.prog (166, ac166, [.cell 4 true 6], 45) := ⟨_, Try.func166, by kernel_rfl, by kernel_rfl, by kernel_rfl, by kernel_rfl⟩
/- spec.l31Create -/
def an166 : List (Nat × An) := [(28, .ty MapDisk)]
def S166 : List (Skel × List (Option Nat × Skel)) := []
def ps166 : List PK := [⟨some .A, true, MapState, false⟩, ⟨none, true, Cmd, false⟩]
def rs166 : List PK := [⟨some .A, true, MapState, false⟩]
noncomputable def F166 := FN (tabC T165) an166 S166 ac166 [.cell 4 true 6] 45 false 1 ps166 rs166
noncomputable def T166 : List (FuncId × Ctr) := (166, ⟨false, false, 1, ps166, rs166, F166⟩) :: T165
theorem hT166 : AllC Try.prog T166 := AllC.own (an := an166) (S := S166) (ps := ps166) (rs := rs166) hT165 gd166 (by kernel_rfl)
noncomputable def G166 (a_m0 : Int) (a_m1 : Int) (a_m2 : Int) (a_m3 : List (DMapDisk)) (a_m4 : List (DMapView)) (a_m5 : List (DMapDone)) (a_c0 : Int) (a_c1 : Int) (a_c2 : Int) (a_c3 : Int) (a_c4 : Int) (a_c5 : Int) (a_c6 : Int) (a_c7 : Int) (a_c8 : Int) (a_c9 : Int) : Option (DMapState) := F166 (a_m0, a_m1, a_m2, a_m3, a_m4, a_m5, a_c0, a_c1, a_c2, a_c3, a_c4, a_c5, a_c6, a_c7, a_c8, a_c9, ())
theorem G166_eq (a_m0 : Int) (a_m1 : Int) (a_m2 : Int) (a_m3 : List (DMapDisk)) (a_m4 : List (DMapView)) (a_m5 : List (DMapDone)) (a_c0 : Int) (a_c1 : Int) (a_c2 : Int) (a_c3 : Int) (a_c4 : Int) (a_c5 : Int) (a_c6 : Int) (a_c7 : Int) (a_c8 : Int) (a_c9 : Int) : (G166 a_m0 a_m1 a_m2 a_m3 a_m4 a_m5 a_c0 a_c1 a_c2 a_c3 a_c4 a_c5 a_c6 a_c7 a_c8 a_c9) = (br ((!(f56 a_c4 (1 : Int) (8 : Int))) || (decide (a_m2 > (4 : Int)))) ((G168 a_m0 a_m1 a_m2 a_m3 a_m4 a_m5 a_c1 a_c2 (4 : Int) (0 : Int)).bind fun (y1 : DMapState) => (some (y1.1, y1.2.1, y1.2.2.1, y1.2.2.2.1, y1.2.2.2.2.1, y1.2.2.2.2.2.1, ()))) (chk (capOk (a_m3.length + (1)) 72) ((G168 a_m0 a_m1 (IntKind.i64.wrap (a_m2 + (1 : Int))) (a_m3 ++ [(a_m2, a_c4, (1 : Int), (0 : Int), (0 : Int), (0 : Int), [], ())]) a_m4 a_m5 a_c1 a_c2 (0 : Int) (IntKind.i64.wrap ((IntKind.i64.wrap (a_m2 + (1 : Int))) - (1 : Int)))).bind fun (y2 : DMapState) => (some (y2.1, y2.2.1, y2.2.2.1, y2.2.2.2.1, y2.2.2.2.2.1, y2.2.2.2.2.2.1, ()))))) := by kernel_rfl
noncomputable def ac167 : ACode := acOf Try.prog 167
theorem gd167 : Good Try.prog (167, ac167, [.cell 6 true 6], 56) := ⟨_, Try.func167, by kernel_rfl, by kernel_rfl, by kernel_rfl, by kernel_rfl⟩
/- spec.l31Freeze -/
def an167 : List (Nat × An) := []
def S167 : List (Skel × List (Option Nat × Skel)) := []
def ps167 : List PK := [⟨some .A, true, MapState, false⟩, ⟨none, true, Cmd, false⟩, ⟨none, false, [I], false⟩]
def rs167 : List PK := [⟨some .A, true, MapState, false⟩]
noncomputable def F167 := FN (tabC T166) an167 S167 ac167 [.cell 6 true 6] 56 false 1 ps167 rs167
noncomputable def T167 : List (FuncId × Ctr) := (167, ⟨false, false, 1, ps167, rs167, F167⟩) :: T166
theorem hT167 : AllC Try.prog T167 := AllC.own (an := an167) (S := S167) (ps := ps167) (rs := rs167) hT166 gd167 (by kernel_rfl)
noncomputable def G167 (a_m0 : Int) (a_m1 : Int) (a_m2 : Int) (a_m3 : List (DMapDisk)) (a_m4 : List (DMapView)) (a_m5 : List (DMapDone)) (a_c0 : Int) (a_c1 : Int) (a_c2 : Int) (a_c3 : Int) (a_c4 : Int) (a_c5 : Int) (a_c6 : Int) (a_c7 : Int) (a_c8 : Int) (a_c9 : Int) (a_why : Int) : Option (DMapState) := F167 (a_m0, a_m1, a_m2, a_m3, a_m4, a_m5, a_c0, a_c1, a_c2, a_c3, a_c4, a_c5, a_c6, a_c7, a_c8, a_c9, a_why, ())
theorem G167_eq (a_m0 : Int) (a_m1 : Int) (a_m2 : Int) (a_m3 : List (DMapDisk)) (a_m4 : List (DMapView)) (a_m5 : List (DMapDone)) (a_c0 : Int) (a_c1 : Int) (a_c2 : Int) (a_c3 : Int) (a_c4 : Int) (a_c5 : Int) (a_c6 : Int) (a_c7 : Int) (a_c8 : Int) (a_c9 : Int) (a_why : Int) : (G167 a_m0 a_m1 a_m2 a_m3 a_m4 a_m5 a_c0 a_c1 a_c2 a_c3 a_c4 a_c5 a_c6 a_c7 a_c8 a_c9 a_why) = ((G104 a_m0 a_m1 a_m2 a_m3 a_m4 a_m5 a_c3).bind fun (y1 : Int × Unit) => (br (decide (y1.1 < (0 : Int))) ((G168 a_m0 a_m1 a_m2 a_m3 a_m4 a_m5 a_c1 a_c2 (1 : Int) (0 : Int)).bind fun (y2 : DMapState) => (some (y2.1, y2.2.1, y2.2.2.1, y2.2.2.2.1, y2.2.2.2.2.1, y2.2.2.2.2.2.1, ()))) (chk (decide (0 ≤ y1.1 ∧ y1.1 < ((a_m3.length : Nat) : Int))) (let e3 : DMapDisk := (a_m3.getD y1.1.toNat ((0 : Int), (0 : Int), (0 : Int), (0 : Int), (0 : Int), (0 : Int), [], ())); (br (e3.2.2.2.1 != (0 : Int)) ((G168 a_m0 a_m1 a_m2 a_m3 a_m4 a_m5 a_c1 a_c2 (5 : Int) (0 : Int)).bind fun (y4 : DMapState) => (some (y4.1, y4.2.1, y4.2.2.1, y4.2.2.2.1, y4.2.2.2.2.1, y4.2.2.2.2.2.1, ()))) (chk (decide (0 ≤ y1.1 ∧ y1.1 < ((a_m3.length : Nat) : Int))) (let e5 : DMapDisk := (a_m3.getD y1.1.toNat ((0 : Int), (0 : Int), (0 : Int), (0 : Int), (0 : Int), (0 : Int), [], ())); (let e6 : List (DMapDisk) := (a_m3.set y1.1.toNat (e5.1, e5.2.1, e5.2.2.1, a_why, e5.2.2.2.2.1, e5.2.2.2.2.2.1, e5.2.2.2.2.2.2.1, ())); (chk (decide (0 ≤ y1.1 ∧ y1.1 < ((e6.length : Nat) : Int))) (let e7 : DMapDisk := (e6.getD y1.1.toNat ((0 : Int), (0 : Int), (0 : Int), (0 : Int), (0 : Int), (0 : Int), [], ())); (let e8 : List (DMapDisk) := (e6.set y1.1.toNat (e7.1, e7.2.1, e7.2.2.1, e7.2.2.2.1, a_c1, e7.2.2.2.2.2.1, e7.2.2.2.2.2.2.1, ())); (chk (decide (0 ≤ y1.1 ∧ y1.1 < ((e8.length : Nat) : Int))) (let e9 : DMapDisk := (e8.getD y1.1.toNat ((0 : Int), (0 : Int), (0 : Int), (0 : Int), (0 : Int), (0 : Int), [], ())); (let e10 : List (DMapDisk) := (e8.set y1.1.toNat (e9.1, e9.2.1, e9.2.2.1, e9.2.2.2.1, e9.2.2.2.2.1, a_c2, e9.2.2.2.2.2.2.1, ())); (some (a_m0, a_m1, a_m2, e10, a_m4, a_m5, ())))))))))))))))) := by kernel_rfl
noncomputable def ac36 : ACode := acOf Try.prog 36
theorem gd36 : Good Try.prog (36, ac36, [.tmp 10], 51) := ⟨_, Try.func36, by kernel_rfl, by kernel_rfl, by kernel_rfl, by kernel_rfl⟩
/- spec.MapJudge -/
def an36 : List (Nat × An) := []
def S36 : List (Skel × List (Option Nat × Skel)) := []
def ps36 : List PK := [⟨none, true, MapState, false⟩, ⟨none, false, [I], false⟩, ⟨none, false, [I], false⟩, ⟨none, false, [I], false⟩, ⟨none, false, [.bool], false⟩]
def rs36 : List PK := [⟨some .S, false, [I], false⟩]
noncomputable def F36 := FN (tabC T167) an36 S36 ac36 [.tmp 10] 51 false 1 ps36 rs36
noncomputable def T36 : List (FuncId × Ctr) := (36, ⟨true, false, 1, ps36, rs36, F36⟩) :: T167
theorem hT36 : AllC Try.prog T36 := AllC.fresh (an := an36) (S := S36) (ps := ps36) (rs := rs36) hT167 gd36 (by kernel_rfl)
noncomputable def G36 (a_m0 : Int) (a_m1 : Int) (a_m2 : Int) (a_m3 : List (DMapDisk)) (a_m4 : List (DMapView)) (a_m5 : List (DMapDone)) (a_disk : Int) (a_block : Int) (a_epoch : Int) (a_write : Bool) : Option (Int × Unit) := F36 (a_m0, a_m1, a_m2, a_m3, a_m4, a_m5, a_disk, a_block, a_epoch, a_write, ())
theorem G36_eq (a_m0 : Int) (a_m1 : Int) (a_m2 : Int) (a_m3 : List (DMapDisk)) (a_m4 : List (DMapView)) (a_m5 : List (DMapDone)) (a_disk : Int) (a_block : Int) (a_epoch : Int) (a_write : Bool) : (G36 a_m0 a_m1 a_m2 a_m3 a_m4 a_m5 a_disk a_block a_epoch a_write) = ((G33 a_m0 a_m1 a_m2 a_m3 a_m4 a_m5).bind fun (y1 : Bool × Unit) => (br (!y1.1) (some ((1 : Int), ())) ((G104 a_m0 a_m1 a_m2 a_m3 a_m4 a_m5 a_disk).bind fun (y2 : Int × Unit) => (br (decide (y2.1 < (0 : Int))) (some ((1 : Int), ())) (chk (decide (0 ≤ y2.1 ∧ y2.1 < ((a_m3.length : Nat) : Int))) (let e3 : DMapDisk := (a_m3.getD y2.1.toNat ((0 : Int), (0 : Int), (0 : Int), (0 : Int), (0 : Int), (0 : Int), [], ())); (br (!(f56 a_block (0 : Int) (IntKind.i64.wrap (e3.2.1 - (1 : Int))))) (some ((2 : Int), ())) (chk ((decide (0 ≤ y2.1 ∧ y2.1 < ((a_m3.length : Nat) : Int))) || (!((!a_write) && (a_epoch != (0 : Int))))) (let e4 : DMapDisk := (a_m3.getD y2.1.toNat ((0 : Int), (0 : Int), (0 : Int), (0 : Int), (0 : Int), (0 : Int), [], ())); (br (((!a_write) && (a_epoch != (0 : Int))) && (!(f56 a_epoch (1 : Int) (IntKind.i64.wrap (e4.2.2.1 - (1 : Int)))))) (some ((3 : Int), ())) (some ((0 : Int), ())))))))))))) := by kernel_rfl
noncomputable def ac124 : ACode := acOf Try.prog 124
theorem gd124 : Good Try.prog (124, ac124, [.cell 4 true 6], 109) := ⟨_, Try.func124, by kernel_rfl, by kernel_rfl, by kernel_rfl, by kernel_rfl⟩
/- spec.l31Admin -/
def an124 : List (Nat × An) := []
def S124 : List (Skel × List (Option Nat × Skel)) := []
def ps124 : List PK := [⟨some .A, true, MapState, false⟩, ⟨none, true, Cmd, false⟩]
def rs124 : List PK := [⟨some .A, true, MapState, false⟩]
noncomputable def F124 := FN (tabC T36) an124 S124 ac124 [.cell 4 true 6] 109 false 1 ps124 rs124
noncomputable def T124 : List (FuncId × Ctr) := (124, ⟨false, false, 1, ps124, rs124, F124⟩) :: T36
theorem hT124 : AllC Try.prog T124 := AllC.own (an := an124) (S := S124) (ps := ps124) (rs := rs124) hT36 gd124 (by kernel_rfl)
noncomputable def G124 (a_m0 : Int) (a_m1 : Int) (a_m2 : Int) (a_m3 : List (DMapDisk)) (a_m4 : List (DMapView)) (a_m5 : List (DMapDone)) (a_c0 : Int) (a_c1 : Int) (a_c2 : Int) (a_c3 : Int) (a_c4 : Int) (a_c5 : Int) (a_c6 : Int) (a_c7 : Int) (a_c8 : Int) (a_c9 : Int) : Option (DMapState) := F124 (a_m0, a_m1, a_m2, a_m3, a_m4, a_m5, a_c0, a_c1, a_c2, a_c3, a_c4, a_c5, a_c6, a_c7, a_c8, a_c9, ())
theorem G124_eq (a_m0 : Int) (a_m1 : Int) (a_m2 : Int) (a_m3 : List (DMapDisk)) (a_m4 : List (DMapView)) (a_m5 : List (DMapDone)) (a_c0 : Int) (a_c1 : Int) (a_c2 : Int) (a_c3 : Int) (a_c4 : Int) (a_c5 : Int) (a_c6 : Int) (a_c7 : Int) (a_c8 : Int) (a_c9 : Int) : (G124 a_m0 a_m1 a_m2 a_m3 a_m4 a_m5 a_c0 a_c1 a_c2 a_c3 a_c4 a_c5 a_c6 a_c7 a_c8 a_c9) = (chk ((G165 a_m0 a_m1 a_m2 a_m3 a_m4 a_m5 a_c1 a_c2).isSome || (!(!((!(f56 a_c1 (0 : Int) (3 : Int))) || (decide (a_c2 < (1 : Int))))))) (br (((!(f56 a_c1 (0 : Int) (3 : Int))) || (decide (a_c2 < (1 : Int)))) || ((G165 a_m0 a_m1 a_m2 a_m3 a_m4 a_m5 a_c1 a_c2).getD (false, ())).1) (some (a_m0, a_m1, a_m2, a_m3, a_m4, a_m5, ())) (br (a_c0 == (1 : Int)) ((G166 a_m0 a_m1 a_m2 a_m3 a_m4 a_m5 a_c0 a_c1 a_c2 a_c3 a_c4 a_c5 a_c6 a_c7 a_c8 a_c9).bind fun (y1 : DMapState) => (some (y1.1, y1.2.1, y1.2.2.1, y1.2.2.2.1, y1.2.2.2.2.1, y1.2.2.2.2.2.1, ()))) (br (a_c0 == (2 : Int)) ((G167 a_m0 a_m1 a_m2 a_m3 a_m4 a_m5 a_c0 a_c1 a_c2 a_c3 a_c4 a_c5 a_c6 a_c7 a_c8 a_c9 (1 : Int)).bind fun (y2 : DMapState) => (some (y2.1, y2.2.1, y2.2.2.1, y2.2.2.2.1, y2.2.2.2.2.1, y2.2.2.2.2.2.1, ()))) (br (a_c0 == (3 : Int)) ((G167 a_m0 a_m1 a_m2 a_m3 a_m4 a_m5 a_c0 a_c1 a_c2 a_c3 a_c4 a_c5 a_c6 a_c7 a_c8 a_c9 (2 : Int)).bind fun (y3 : DMapState) => (some (y3.1, y3.2.1, y3.2.2.1, y3.2.2.2.1, y3.2.2.2.2.1, y3.2.2.2.2.2.1, ()))) (br (a_c0 == (4 : Int)) (br (decide (a_m1 ≥ (5 : Int))) ((G168 a_m0 a_m1 a_m2 a_m3 a_m4 a_m5 a_c1 a_c2 (4 : Int) (0 : Int)).bind fun (y4 : DMapState) => (some (y4.1, y4.2.1, y4.2.2.1, y4.2.2.2.1, y4.2.2.2.2.1, y4.2.2.2.2.2.1, ()))) ((G168 a_m0 (IntKind.i64.wrap (a_m1 + (1 : Int))) a_m2 a_m3 a_m4 a_m5 a_c1 a_c2 (0 : Int) (IntKind.i64.wrap (a_m1 + (1 : Int)))).bind fun (y5 : DMapState) => (some (y5.1, y5.2.1, y5.2.2.1, y5.2.2.2.1, y5.2.2.2.2.1, y5.2.2.2.2.2.1, ())))) (chk ((decide (0 ≤ a_c6 ∧ a_c6 < ((a_m4.length : Nat) : Int))) || (!((a_c8 == (1 : Int)) && (!(!(f56 a_c6 (0 : Int) (2 : Int))))))) (let e6 : DMapView := (a_m4.getD a_c6.toNat ((0 : Int), (0 : Int), (0 : Int), ())); (br ((a_c8 == (1 : Int)) && ((!(f56 a_c6 (0 : Int) (2 : Int))) || (e6.1 != a_c7))) (some (a_m0, a_m1, a_m2, a_m3, a_m4, a_m5, ())) ((G36 a_m0 a_m1 a_m2 a_m3 a_m4 a_m5 a_c3 a_c4 a_c5 (a_c8 == (1 : Int))).bind fun (y7 : Int × Unit) => (let k10 := fun (v8 : Int) => ((G168 a_m0 a_m1 a_m2 a_m3 a_m4 a_m5 a_c1 a_c2 v8 (0 : Int)).bind fun (y9 : DMapState) => (some (y9.1, y9.2.1, y9.2.2.1, y9.2.2.2.1, y9.2.2.2.2.1, y9.2.2.2.2.2.1, ()))); (br (y7.1 == (0 : Int)) (k10 (6 : Int)) (k10 y7.1))))))))))))) := by kernel_rfl
noncomputable def ac48 : ACode := acOf Try.prog 48
theorem gd48 : Good Try.prog (48, ac48, [.cell 4 true 6], 48) := ⟨_, Try.func48, by kernel_rfl, by kernel_rfl, by kernel_rfl, by kernel_rfl⟩
/- spec.MapDo -/
def an48 : List (Nat × An) := [(15, .rows), (47, .rows)]
def S48 : List (Skel × List (Option Nat × Skel)) := []
def ps48 : List PK := [⟨none, true, MapState, false⟩, ⟨none, true, Cmd, false⟩]
def rs48 : List PK := [⟨some .S, true, MapState, false⟩]
noncomputable def F48 := FN (tabC T124) an48 S48 ac48 [.cell 4 true 6] 48 false 1 ps48 rs48
noncomputable def T48 : List (FuncId × Ctr) := (48, ⟨true, false, 1, ps48, rs48, F48⟩) :: T124
theorem hT48 : AllC Try.prog T48 := AllC.fresh (an := an48) (S := S48) (ps := ps48) (rs := rs48) hT124 gd48 (by kernel_rfl)
noncomputable def G48 (a_m0 : Int) (a_m1 : Int) (a_m2 : Int) (a_m3 : List (DMapDisk)) (a_m4 : List (DMapView)) (a_m5 : List (DMapDone)) (a_c0 : Int) (a_c1 : Int) (a_c2 : Int) (a_c3 : Int) (a_c4 : Int) (a_c5 : Int) (a_c6 : Int) (a_c7 : Int) (a_c8 : Int) (a_c9 : Int) : Option (DMapState) := F48 (a_m0, a_m1, a_m2, a_m3, a_m4, a_m5, a_c0, a_c1, a_c2, a_c3, a_c4, a_c5, a_c6, a_c7, a_c8, a_c9, ())
theorem G48_eq (a_m0 : Int) (a_m1 : Int) (a_m2 : Int) (a_m3 : List (DMapDisk)) (a_m4 : List (DMapView)) (a_m5 : List (DMapDone)) (a_c0 : Int) (a_c1 : Int) (a_c2 : Int) (a_c3 : Int) (a_c4 : Int) (a_c5 : Int) (a_c6 : Int) (a_c7 : Int) (a_c8 : Int) (a_c9 : Int) : (G48 a_m0 a_m1 a_m2 a_m3 a_m4 a_m5 a_c0 a_c1 a_c2 a_c3 a_c4 a_c5 a_c6 a_c7 a_c8 a_c9) = ((G33 a_m0 a_m1 a_m2 a_m3 a_m4 a_m5).bind fun (y1 : Bool × Unit) => (br ((!y1.1) || (decide (a_m0 ≥ (60 : Int)))) (some ((0 : Int), (0 : Int), (0 : Int), [], [], [], ())) ((G121 a_m0 a_m1 a_m2 a_m3 a_m4 a_m5).bind fun (y2 : DMapState) => (br (!(f74 a_c0 a_c1 a_c2 a_c3 a_c4 a_c5 a_c6 a_c7 a_c8 a_c9)) (some ((IntKind.i64.wrap (y2.1 + (1 : Int))), y2.2.1, y2.2.2.1, y2.2.2.2.1, y2.2.2.2.2.1, y2.2.2.2.2.2.1, ())) (br (a_c0 == (5 : Int)) ((G122 (IntKind.i64.wrap (y2.1 + (1 : Int))) y2.2.1 y2.2.2.1 y2.2.2.2.1 y2.2.2.2.2.1 y2.2.2.2.2.2.1 a_c0 a_c1 a_c2 a_c3 a_c4 a_c5 a_c6 a_c7 a_c8 a_c9).bind fun (y3 : DMapState) => ((G121 y3.1 y3.2.1 y3.2.2.1 y3.2.2.2.1 y3.2.2.2.2.1 y3.2.2.2.2.2.1).bind fun (y6 : DMapState) => (some (y6.1, y6.2.1, y6.2.2.1, y6.2.2.2.1, y6.2.2.2.2.1, y6.2.2.2.2.2.1, ())))) (br (a_c0 == (6 : Int)) ((G123 (IntKind.i64.wrap (y2.1 + (1 : Int))) y2.2.1 y2.2.2.1 y2.2.2.2.1 y2.2.2.2.2.1 y2.2.2.2.2.2.1 a_c0 a_c1 a_c2 a_c3 a_c4 a_c5 a_c6 a_c7 a_c8 a_c9).bind fun (y4 : DMapState) => ((G121 y4.1 y4.2.1 y4.2.2.1 y4.2.2.2.1 y4.2.2.2.2.1 y4.2.2.2.2.2.1).bind fun (y7 : DMapState) => (some (y7.1, y7.2.1, y7.2.2.1, y7.2.2.2.1, y7.2.2.2.2.1, y7.2.2.2.2.2.1, ())))) (br (a_c0 != (0 : Int)) ((G124 (IntKind.i64.wrap (y2.1 + (1 : Int))) y2.2.1 y2.2.2.1 y2.2.2.2.1 y2.2.2.2.2.1 y2.2.2.2.2.2.1 a_c0 a_c1 a_c2 a_c3 a_c4 a_c5 a_c6 a_c7 a_c8 a_c9).bind fun (y5 : DMapState) => ((G121 y5.1 y5.2.1 y5.2.2.1 y5.2.2.2.1 y5.2.2.2.2.1 y5.2.2.2.2.2.1).bind fun (y8 : DMapState) => (some (y8.1, y8.2.1, y8.2.2.1, y8.2.2.2.1, y8.2.2.2.2.1, y8.2.2.2.2.2.1, ())))) ((G121 (IntKind.i64.wrap (y2.1 + (1 : Int))) y2.2.1 y2.2.2.1 y2.2.2.2.1 y2.2.2.2.2.1 y2.2.2.2.2.2.1).bind fun (y9 : DMapState) => (some (y9.1, y9.2.1, y9.2.2.1, y9.2.2.2.1, y9.2.2.2.2.1, y9.2.2.2.2.2.1, ())))))))))) := by kernel_rfl
noncomputable def ac152 : ACode := acOf Try.prog 152
theorem gd152 : Good Try.prog (152, ac152, [.tmp 4, .cell 5 true 6], 31) := ⟨_, Try.func152, by kernel_rfl, by kernel_rfl, by kernel_rfl, by kernel_rfl⟩
/- spec.l72Cmds -/
def sk152_0 : Skel := ⟨mkE 31 [(0, .box 0 0), (5, .box 1 0), (6, .box 2 0), (7, .ref 3), (8, .int .i64)], [some [.lst [(.int .u8)], .int .i64], some [.int .i64, .int .i64, .int .i64, .nil, .nil, .nil], some [.int .i64, .int .i64, .int .i64, .ref 0, .ref 1, .ref 2]], [some (.m .S, MapDisk), some (.m .Z, MapView), some (.m .Z, MapDone), some (.m .Z, Cmd)], 0⟩
def ou152_0 : List (Option Nat × Skel) := [(some 0, ⟨mkE 31 [(5, .box 1 0), (6, .box 2 0), (7, .ref 3)], [some [.lst [(.int .u8)], .int .i64], some [.int .i64, .int .i64, .int .i64, .nil, .nil, .nil], some [.int .i64, .int .i64, .int .i64, .ref 0, .ref 1, .ref 2]], [some (.m .S, MapDisk), some (.m .Z, MapView), some (.m .Z, MapDone), some (.m .Z, Cmd)], 0⟩)]
def an152 : List (Nat × An) := [(10, .rows), (24, .rows)]
def S152 : List (Skel × List (Option Nat × Skel)) := [(sk152_0, ou152_0)]
def ps152 : List PK := [⟨none, false, [(.sl [(.int .u8)]), I], true⟩, ⟨none, false, [I], false⟩]
def rs152 : List PK := [⟨some .S, false, [(.sl Cmd)], false⟩, ⟨some .S, true, MapState, false⟩, ⟨none, false, [(.sl [(.int .u8)]), I], true⟩]
noncomputable def F152 := FN (tabC T48) an152 S152 ac152 [.tmp 4, .cell 5 true 6] 31 false 2 ps152 rs152
noncomputable def T152 : List (FuncId × Ctr) := (152, ⟨false, false, 2, ps152, rs152, F152⟩) :: T48
theorem hT152 : AllC Try.prog T152 := AllC.own (an := an152) (S := S152) (ps := ps152) (rs := rs152) hT48 gd152 (by kernel_rfl)
noncomputable def lf152_0 : Int × (List (Int × Unit)) × Int × Int × Int × Int × Int × Int × Int × (List (DMapDisk)) × (List (DMapView)) × (List (DMapDone)) × (List (DCmd)) × Unit → Option (Outs ou152_0) := lfp (vround (tabC T48) an152 (mkL (tabC T48) an152 [] (ac152.body 0)) (ac152.body 0) sk152_0 ou152_0)
noncomputable def lg152_0 (v_n : Int) (v_b0_0 : List (Int × Unit)) (v_b0_1 : Int) (v_b1_0 : Int) (v_b1_1 : Int) (v_b1_2 : Int) (v_b2_0 : Int) (v_b2_1 : Int) (v_b2_2 : Int) (v_r0 : List (DMapDisk)) (v_r1 : List (DMapView)) (v_r2 : List (DMapDone)) (v_r3 : List (DCmd)) : Option (Sum ((List (Int × Unit)) × Int × Int × Int × Int × Int × Int × Int × (List (DMapDisk)) × (List (DMapView)) × (List (DMapDone)) × (List (DCmd)) × Unit) (Empty)) := lf152_0 (v_n, v_b0_0, v_b0_1, v_b1_0, v_b1_1, v_b1_2, v_b2_0, v_b2_1, v_b2_2, v_r0, v_r1, v_r2, v_r3, ())
theorem lg152_0_eq (v_n : Int) (v_b0_0 : List (Int × Unit)) (v_b0_1 : Int) (v_b1_0 : Int) (v_b1_1 : Int) (v_b1_2 : Int) (v_b2_0 : Int) (v_b2_1 : Int) (v_b2_2 : Int) (v_r0 : List (DMapDisk)) (v_r1 : List (DMapView)) (v_r2 : List (DMapDone)) (v_r3 : List (DCmd)) : (lg152_0 v_n v_b0_0 v_b0_1 v_b1_0 v_b1_1 v_b1_2 v_b2_0 v_b2_1 v_b2_2 v_r0 v_r1 v_r2 v_r3) = (br (decide (v_n > (0 : Int))) ((G179 v_b0_0 v_b0_1 v_b2_0 v_b2_1 v_b2_2 v_r0 v_r1 v_r2).bind fun (y3 : Int × Int × Int × Int × Int × Int × Int × Int × Int × Int × (List (Int × Unit)) × Int × Unit) => ((G48 v_b2_0 v_b2_1 v_b2_2 v_r0 v_r1 v_r2 y3.1 y3.2.1 y3.2.2.1 y3.2.2.2.1 y3.2.2.2.2.1 y3.2.2.2.2.2.1 y3.2.2.2.2.2.2.1 y3.2.2.2.2.2.2.2.1 y3.2.2.2.2.2.2.2.2.1 y3.2.2.2.2.2.2.2.2.2.1).bind fun (y4 : DMapState) => (chk (capOk (v_r3.length + (1)) 80) (lg152_0 (IntKind.i64.wrap (v_n - (1 : Int))) y3.2.2.2.2.2.2.2.2.2.2.1 y3.2.2.2.2.2.2.2.2.2.2.2.1 v_b1_0 v_b1_1 v_b1_2 y4.1 y4.2.1 y4.2.2.1 y4.2.2.2.1 y4.2.2.2.2.1 y4.2.2.2.2.2.1 (v_r3 ++ [(y3.1, y3.2.1, y3.2.2.1, y3.2.2.2.1, y3.2.2.2.2.1, y3.2.2.2.2.2.1, y3.2.2.2.2.2.2.1, y3.2.2.2.2.2.2.2.1, y3.2.2.2.2.2.2.2.2.1, y3.2.2.2.2.2.2.2.2.2.1, ())]))))) (some (.inl (v_b0_0, v_b0_1, v_b1_0, v_b1_1, v_b1_2, v_b2_0, v_b2_1, v_b2_2, v_r0, v_r1, v_r2, v_r3, ())))) :=
  (show lf152_0 (v_n, v_b0_0, v_b0_1, v_b1_0, v_b1_1, v_b1_2, v_b2_0, v_b2_1, v_b2_2, v_r0, v_r1, v_r2, v_r3, ()) = _ from lfp_eq (fun x => vround_lin _ _ _ _ x) _).trans (by kernel_rfl)
noncomputable def G152 (a_r0 : List (Int × Unit)) (a_r1 : Int) (a_most : Int) : Option ((List (DCmd)) × Int × Int × Int × (List (DMapDisk)) × (List (DMapView)) × (List (DMapDone)) × (List (Int × Unit)) × Int × Unit) := F152 (a_r0, a_r1, a_most, ())
theorem G152_eq (a_r0 : List (Int × Unit)) (a_r1 : Int) (a_most : Int) : (G152 a_r0 a_r1 a_most) = ((G106).bind fun (y1 : DMapState) => ((G54 a_r0 a_r1 a_most).bind fun (y2 : Int × (List (Int × Unit)) × Int × Unit) => ((lg152_0 y2.1 y2.2.1 y2.2.2.1 (0 : Int) (0 : Int) (0 : Int) y1.1 y1.2.1 y1.2.2.1 y1.2.2.2.1 y1.2.2.2.2.1 y1.2.2.2.2.2.1 []).bind fun o => match o with | .inl (y5 : (List (Int × Unit)) × Int × Int × Int × Int × Int × Int × Int × (List (DMapDisk)) × (List (DMapView)) × (List (DMapDone)) × (List (DCmd)) × Unit) => (some (y5.2.2.2.2.2.2.2.2.2.2.2.1, y5.2.2.2.2.2.1, y5.2.2.2.2.2.2.1, y5.2.2.2.2.2.2.2.1, y5.2.2.2.2.2.2.2.2.1, y5.2.2.2.2.2.2.2.2.2.1, y5.2.2.2.2.2.2.2.2.2.2.1, y5.1, y5.2.1, ()))))) := by kernel_rfl
noncomputable def ac100 : ACode := acOf Try.prog 100
theorem gd100 : Good Try.prog (100, ac100, [.cell 2 true 6], 61) := ⟨_, Try.func100, by kernel_rfl, by kernel_rfl, by kernel_rfl, by kernel_rfl⟩
/- spec.l72Map -/
def an100 : List (Nat × An) := []
def S100 : List (Skel × List (Option Nat × Skel)) := []
def ps100 : List PK := [⟨none, false, [(.sl [(.int .u8)]), I], true⟩]
def rs100 : List PK := [⟨none, true, MapState, false⟩, ⟨none, false, [(.sl [(.int .u8)]), I], true⟩]
noncomputable def F100 := FN (tabC T152) an100 S100 ac100 [.cell 2 true 6] 61 false 1 ps100 rs100
noncomputable def T100 : List (FuncId × Ctr) := (100, ⟨false, false, 1, ps100, rs100, F100⟩) :: T152
theorem hT100 : AllC Try.prog T100 := AllC.own (an := an100) (S := S100) (ps := ps100) (rs := rs100) hT152 gd100 (by kernel_rfl)
noncomputable def G100 (a_r0 : List (Int × Unit)) (a_r1 : Int) : Option (Int × Int × Int × (List (DMapDisk)) × (List (DMapView)) × (List (DMapDone)) × (List (Int × Unit)) × Int × Unit) := F100 (a_r0, a_r1, ())
theorem G100_eq (a_r0 : List (Int × Unit)) (a_r1 : Int) : (G100 a_r0 a_r1) = ((G152 a_r0 a_r1 (26 : Int)).bind fun (y1 : (List (DCmd)) × Int × Int × Int × (List (DMapDisk)) × (List (DMapView)) × (List (DMapDone)) × (List (Int × Unit)) × Int × Unit) => ((G54 y1.2.2.2.2.2.2.2.1 y1.2.2.2.2.2.2.2.2.1 (20 : Int)).bind fun (y2 : Int × (List (Int × Unit)) × Int × Unit) => (let k38 := fun (v31 : List (Int × Unit)) (v32 : Int) (v33 : Int) (v34 : Int) (v35 : Int) (v36 : List (DMapDisk)) (v37 : List (DMapView)) => (some (v33, v34, v35, v36, v37, y1.2.2.2.2.2.2.1, v31, v32, ())); (br (y2.1 == (0 : Int)) ((G54 y2.2.1 y2.2.2.1 (3 : Int)).bind fun (y3 : Int × (List (Int × Unit)) × Int × Unit) => (chk (decide (0 ≤ y3.1 ∧ y3.1 < (((3) : Nat) : Int))) (k38 y3.2.1 y3.2.2.1 y1.2.1 (([((2 : Int), ()), ((6 : Int), ()), ((3 : Int), ())].getD y3.1.toNat ((0 : Int), ())).1) y1.2.2.2.1 y1.2.2.2.2.1 y1.2.2.2.2.2.1))) (br (y2.1 == (1 : Int)) ((G54 y2.2.1 y2.2.2.1 (3 : Int)).bind fun (y4 : Int × (List (Int × Unit)) × Int × Unit) => ((G54 y4.2.1 y4.2.2.1 (3 : Int)).bind fun (y5 : Int × (List (Int × Unit)) × Int × Unit) => (chk (decide (0 ≤ y5.1 ∧ y5.1 < (((3) : Nat) : Int))) (chk (decide (0 ≤ y4.1 ∧ y4.1 < ((y1.2.2.2.2.2.1.length : Nat) : Int))) (let e6 : DMapView := (y1.2.2.2.2.2.1.getD y4.1.toNat ((0 : Int), (0 : Int), (0 : Int), ())); (let e7 : List (DMapView) := (y1.2.2.2.2.2.1.set y4.1.toNat (e6.1, e6.2.1, ([((-2 : Int), ()), ((4 : Int), ()), ((0 : Int), ())].getD y5.1.toNat ((0 : Int), ())).1, ())); (k38 y5.2.1 y5.2.2.1 y1.2.1 y1.2.2.1 y1.2.2.2.1 y1.2.2.2.2.1 e7))))))) (let k24 := fun (v19 : List (Int × Unit)) (v20 : Int) (v21 : Int) (v22 : Int) (v23 : List (DMapDisk)) => (k38 v19 v20 v21 y1.2.2.1 v22 v23 y1.2.2.2.2.2.1); (br (y2.1 == (2 : Int)) ((G54 y2.2.1 y2.2.2.1 (3 : Int)).bind fun (y8 : Int × (List (Int × Unit)) × Int × Unit) => (chk (decide (0 ≤ y8.1 ∧ y8.1 < (((3) : Nat) : Int))) (k24 y8.2.1 y8.2.2.1 (([((-1 : Int), ()), ((60 : Int), ()), ((61 : Int), ())].getD y8.1.toNat ((0 : Int), ())).1) y1.2.2.2.1 y1.2.2.2.2.1))) (br (y2.1 == (3 : Int)) ((G54 y2.2.1 y2.2.2.1 (3 : Int)).bind fun (y9 : Int × (List (Int × Unit)) × Int × Unit) => (chk (decide (0 ≤ y9.1 ∧ y9.1 < (((3) : Nat) : Int))) (k24 y9.2.1 y9.2.2.1 y1.2.1 (([((0 : Int), ()), ((1 : Int), ()), ((6 : Int), ())].getD y9.1.toNat ((0 : Int), ())).1) y1.2.2.2.2.1))) (let k14 := fun (v13 : List (DMapDisk)) => (k24 y2.2.1 y2.2.2.1 y1.2.1 y1.2.2.2.1 v13); (br (y2.1 == (4 : Int)) (br (decide (((y1.2.2.2.2.1.length : Nat) : Int) > (0 : Int))) (chk (decide (0 ≤ (0 : Int) ∧ (0 : Int) < ((y1.2.2.2.2.1.length : Nat) : Int))) (let e10 : DMapDisk := (y1.2.2.2.2.1.getD 0 ((0 : Int), (0 : Int), (0 : Int), (0 : Int), (0 : Int), (0 : Int), [], ())); (let e11 : List (DMapDisk) := (y1.2.2.2.2.1.set 0 (e10.1, e10.2.1, e10.2.2.1, e10.2.2.2.1, e10.2.2.2.2.1, e10.2.2.2.2.2.1, [((0 : Int), ()), ((0 : Int), ())], ())); (k14 e11)))) (k14 y1.2.2.2.2.1)) (k14 y1.2.2.2.2.1))))))))))) := by kernel_rfl
noncomputable def ac35 : ACode := acOf Try.prog 35
theorem gd35 : Good Try.prog (35, ac35, [.cell 2 true 6, .tmp 3, .tmp 4, .tmp 5, .tmp 6], 30) := ⟨_, Try.func35, by kernel_rfl, by kernel_rfl, by kernel_rfl, by kernel_rfl⟩
/- spec.DrawMapJudge -/
def an35 : List (Nat × An) := []
def S35 : List (Skel × List (Option Nat × Skel)) := []
def ps35 : List PK := [⟨none, false, [(.sl [(.int .u8)])], false⟩]
def rs35 : List PK := [⟨none, true, MapState, false⟩, ⟨none, false, [I], false⟩, ⟨none, false, [I], false⟩, ⟨none, false, [I], false⟩, ⟨none, false, [.bool], false⟩]
noncomputable def F35 := FN (tabC T100) an35 S35 ac35 [.cell 2 true 6, .tmp 3, .tmp 4, .tmp 5, .tmp 6] 30 false 5 ps35 rs35
noncomputable def T35 : List (FuncId × Ctr) := (35, ⟨false, false, 5, ps35, rs35, F35⟩) :: T100
theorem hT35 : AllC Try.prog T35 := AllC.own (an := an35) (S := S35) (ps := ps35) (rs := rs35) hT100 gd35 (by kernel_rfl)
noncomputable def G35 (a_code : List (Int × Unit)) : Option (Int × Int × Int × (List (DMapDisk)) × (List (DMapView)) × (List (DMapDone)) × Int × Int × Int × Bool × Unit) := F35 (a_code, ())
theorem G35_eq (a_code : List (Int × Unit)) : (G35 a_code) = ((G52 a_code).bind fun (y1 : (List (Int × Unit)) × Int × Unit) => ((G100 y1.1 y1.2.1).bind fun (y2 : Int × Int × Int × (List (DMapDisk)) × (List (DMapView)) × (List (DMapDone)) × (List (Int × Unit)) × Int × Unit) => ((G54 y2.2.2.2.2.2.2.1 y2.2.2.2.2.2.2.2.1 (3 : Int)).bind fun (y3 : Int × (List (Int × Unit)) × Int × Unit) => ((G54 y3.2.1 y3.2.2.1 (7 : Int)).bind fun (y4 : Int × (List (Int × Unit)) × Int × Unit) => ((G54 y4.2.1 y4.2.2.1 (6 : Int)).bind fun (y5 : Int × (List (Int × Unit)) × Int × Unit) => (chk (!((5 : Int) == 0)) ((G54 y5.2.1 y5.2.2.1 (4 : Int)).bind fun (y6 : Int × (List (Int × Unit)) × Int × Unit) => ((G54 y6.2.1 y6.2.2.1 (9 : Int)).bind fun (y7 : Int × (List (Int × Unit)) × Int × Unit) => (chk (!((8 : Int) == 0)) ((G54 y7.2.1 y7.2.2.1 (2 : Int)).bind fun (y8 : Int × (List (Int × Unit)) × Int × Unit) => (some (y2.1, y2.2.1, y2.2.2.1, y2.2.2.2.1, y2.2.2.2.2.1, y2.2.2.2.2.2.1, (IntKind.i64.wrap ((1 : Int) + y3.1)), (IntKind.i64.wrap (y4.1 - (IntKind.i64.wrap (y5.1.tdiv (5 : Int))))), (IntKind.i64.wrap (y6.1 - (IntKind.i64.wrap (y7.1.tdiv (8 : Int))))), (y8.1 == (0 : Int)), ())))))))))))) := by kernel_rfl
noncomputable def ac64 : ACode := acOf Try.prog 64
theorem gd64 : Good Try.prog (64, ac64, [.tmp 6], 15) := ⟨_, Try.func64, by kernel_rfl, by kernel_rfl, by kernel_rfl, by kernel_rfl⟩
/- impl.in -/
def an64 : List (Nat × An) := []
def S64 : List (Skel × List (Option Nat × Skel)) := []
def ps64 : List PK := [⟨none, false, [I], false⟩, ⟨none, false, [I], false⟩, ⟨none, false, [I], false⟩]
def rs64 : List PK := [⟨some .S, false, [.bool], false⟩]
noncomputable def F64 := FN (tabC T35) an64 S64 ac64 [.tmp 6] 15 false 1 ps64 rs64
noncomputable def T64 : List (FuncId × Ctr) := (64, ⟨true, false, 1, ps64, rs64, F64⟩) :: T35
theorem hT64 : AllC Try.prog T64 := AllC.fresh (an := an64) (S := S64) (ps := ps64) (rs := rs64) hT35 gd64 (by kernel_rfl)
noncomputable def G64 (a_n : Int) (a_low : Int) (a_high : Int) : Option (Bool × Unit) := F64 (a_n, a_low, a_high, ())
def f64 (a_n : Int) (a_low : Int) (a_high : Int) : Bool := ((decide (a_n ≥ a_low)) && (decide (a_n ≤ a_high)))
theorem G64_eq (a_n : Int) (a_low : Int) (a_high : Int) : (G64 a_n a_low a_high) = some ((f64 a_n a_low a_high), ()) := by kernel_rfl
noncomputable def ac103 : ACode := acOf Try.prog 103
theorem gd103 : Good Try.prog (103, ac103, [.tmp 2], 5) := ⟨_, Try.func103, by kernel_rfl, by kernel_rfl, by kernel_rfl, by kernel_rfl⟩
/- impl.isRange -/
def an103 : List (Nat × An) := []
def S103 : List (Skel × List (Option Nat × Skel)) := []
def ps103 : List PK := [⟨none, false, [I], false⟩]
def rs103 : List PK := [⟨some .S, false, [.bool], false⟩]
noncomputable def F103 := FN (tabC T64) an103 S103 ac103 [.tmp 2] 5 false 1 ps103 rs103
noncomputable def T103 : List (FuncId × Ctr) := (103, ⟨true, false, 1, ps103, rs103, F103⟩) :: T64
theorem hT103 : AllC Try.prog T103 := AllC.fresh (an := an103) (S := S103) (ps := ps103) (rs := rs103) hT64 gd103 (by kernel_rfl)
noncomputable def G103 (a_r : Int) : Option (Bool × Unit) := F103 (a_r, ())
def f103 (a_r : Int) : Bool := (f64 a_r (0 : Int) (2 : Int))
theorem G103_eq (a_r : Int) : (G103 a_r) = some ((f103 a_r), ()) := by kernel_rfl
noncomputable def ac182 : ACode := acOf Try.prog 182
theorem gd182 : Good Try.prog (182, ac182, [.tmp 4], 17) := ⟨_, Try.func182, by kernel_rfl, by kernel_rfl, by kernel_rfl, by kernel_rfl⟩
/- impl.hasNumber -/
def sk182_0 : Skel := ⟨mkE 17 [(1, .int .i64), (7, .lst [I]), (8, .int .i64), (9, .int .i64)], [], [], 0⟩
def ou182_0 : List (Option Nat × Skel) := [(some 0, ⟨mkE 17 [], [], [], 0⟩), (none, ⟨mkE 17 [(4, .bool)], [], [], 0⟩)]
def an182 : List (Nat × An) := []
def S182 : List (Skel × List (Option Nat × Skel)) := [(sk182_0, ou182_0)]
def ps182 : List PK := [⟨none, false, [(.sl [I])], false⟩, ⟨none, false, [I], false⟩]
def rs182 : List PK := [⟨some .S, false, [.bool], false⟩]
noncomputable def F182 := FN (tabC T103) an182 S182 ac182 [.tmp 4] 17 false 1 ps182 rs182
noncomputable def T182 : List (FuncId × Ctr) := (182, ⟨true, false, 1, ps182, rs182, F182⟩) :: T103
theorem hT182 : AllC Try.prog T182 := AllC.fresh (an := an182) (S := S182) (ps := ps182) (rs := rs182) hT103 gd182 (by kernel_rfl)
noncomputable def lf182_0 : Int × (List (Int × Unit)) × Int × Int × Unit → Option (Outs ou182_0) := lfp (vround (tabC T103) an182 (mkL (tabC T103) an182 [] (ac182.body 0)) (ac182.body 0) sk182_0 ou182_0)
noncomputable def lg182_0 (v_n : Int) (v_t7 : List (Int × Unit)) (v_t8 : Int) (v_t9 : Int) : Option (Sum (Unit) (Sum (Bool × Unit) (Empty))) := lf182_0 (v_n, v_t7, v_t8, v_t9, ())
theorem lg182_0_eq (v_n : Int) (v_t7 : List (Int × Unit)) (v_t8 : Int) (v_t9 : Int) : (lg182_0 v_n v_t7 v_t8 v_t9) = (br (decide (v_t9 < v_t8)) (chk (decide (0 ≤ v_t9 ∧ v_t9 < ((v_t7.length : Nat) : Int))) (br ((v_t7.getD v_t9.toNat ((0 : Int), ())).1 == v_n) (some (.inr (.inl (true, ())))) (lg182_0 v_n v_t7 v_t8 (IntKind.i64.wrap (v_t9 + (1 : Int)))))) (some (.inl (())))) :=
  (show lf182_0 (v_n, v_t7, v_t8, v_t9, ()) = _ from lfp_eq (fun x => vround_lin _ _ _ _ x) _).trans (by kernel_rfl)
noncomputable def G182 (a_list : List (Int × Unit)) (a_n : Int) : Option (Bool × Unit) := F182 (a_list, a_n, ())
theorem G182_eq (a_list : List (Int × Unit)) (a_n : Int) : (G182 a_list a_n) = ((lg182_0 a_n a_list ((a_list.length : Nat) : Int) (0 : Int)).bind fun o => match o with | .inl (y1 : Unit) => (some (false, ())) | .inr (.inl (y2 : Bool × Unit)) => (some (y2.1, ()))) := by kernel_rfl
noncomputable def ac143 : ACode := acOf Try.prog 143
theorem gd143 : Good Try.prog (143, ac143, [.tmp 2], 5) := ⟨_, Try.func143, by kernel_rfl, by kernel_rfl, by kernel_rfl, by kernel_rfl⟩
/- impl.isClient -/
def an143 : List (Nat × An) := []
def S143 : List (Skel × List (Option Nat × Skel)) := []
def ps143 : List PK := [⟨none, false, [I], false⟩]
def rs143 : List PK := [⟨some .S, false, [.bool], false⟩]
noncomputable def F143 := FN (tabC T182) an143 S143 ac143 [.tmp 2] 5 false 1 ps143 rs143
noncomputable def T143 : List (FuncId × Ctr) := (143, ⟨true, false, 1, ps143, rs143, F143⟩) :: T182
theorem hT143 : AllC Try.prog T143 := AllC.fresh (an := an143) (S := S143) (ps := ps143) (rs := rs143) hT182 gd143 (by kernel_rfl)
noncomputable def G143 (a_n : Int) : Option (Bool × Unit) := F143 (a_n, ())
def f143 (a_n : Int) : Bool := (f64 a_n (0 : Int) (3 : Int))
theorem G143_eq (a_n : Int) : (G143 a_n) = some ((f143 a_n), ()) := by kernel_rfl
noncomputable def ac172 : ACode := acOf Try.prog 172
theorem gd172 : Good Try.prog (172, ac172, [.tmp 2], 61) := ⟨_, Try.func172, by kernel_rfl, by kernel_rfl, by kernel_rfl, by kernel_rfl⟩
/- impl.frozenOk -/
def sk172_0 : Skel := ⟨mkE 61 [(1, .box 0 0), (23, .lst [I]), (24, .int .i64), (25, .int .i64)], [some [.int .i64, .int .i64, .int .i64, .int .i64, .int .i64, .int .i64, .lst [I]]], [], 0⟩
def ou172_0 : List (Option Nat × Skel) := [(some 0, ⟨mkE 61 [(1, .box 0 0)], [some [.int .i64, .int .i64, .int .i64, .int .i64, .int .i64, .int .i64, .lst [I]]], [], 0⟩), (none, ⟨mkE 61 [(2, .bool)], [], [], 0⟩)]
def an172 : List (Nat × An) := []
def S172 : List (Skel × List (Option Nat × Skel)) := [(sk172_0, ou172_0)]
def ps172 : List PK := [⟨none, true, MapDisk, false⟩]
def rs172 : List PK := [⟨some .S, false, [.bool], false⟩]
noncomputable def F172 := FN (tabC T143) an172 S172 ac172 [.tmp 2] 61 false 1 ps172 rs172
noncomputable def T172 : List (FuncId × Ctr) := (172, ⟨true, false, 1, ps172, rs172, F172⟩) :: T143
theorem hT172 : AllC Try.prog T172 := AllC.fresh (an := an172) (S := S172) (ps := ps172) (rs := rs172) hT143 gd172 (by kernel_rfl)
noncomputable def lf172_0 : (List (Int × Unit)) × Int × Int × Int × Int × Int × Int × Int × Int × (List (Int × Unit)) × Unit → Option (Outs ou172_0) := lfp (vround (tabC T143) an172 (mkL (tabC T143) an172 [] (ac172.body 0)) (ac172.body 0) sk172_0 ou172_0)
noncomputable def lg172_0 (v_t23 : List (Int × Unit)) (v_t24 : Int) (v_t25 : Int) (v_b0_0 : Int) (v_b0_1 : Int) (v_b0_2 : Int) (v_b0_3 : Int) (v_b0_4 : Int) (v_b0_5 : Int) (v_b0_6 : List (Int × Unit)) : Option (Sum (DMapDisk) (Sum (Bool × Unit) (Empty))) := lf172_0 (v_t23, v_t24, v_t25, v_b0_0, v_b0_1, v_b0_2, v_b0_3, v_b0_4, v_b0_5, v_b0_6, ())
theorem lg172_0_eq (v_t23 : List (Int × Unit)) (v_t24 : Int) (v_t25 : Int) (v_b0_0 : Int) (v_b0_1 : Int) (v_b0_2 : Int) (v_b0_3 : Int) (v_b0_4 : Int) (v_b0_5 : Int) (v_b0_6 : List (Int × Unit)) : (lg172_0 v_t23 v_t24 v_t25 v_b0_0 v_b0_1 v_b0_2 v_b0_3 v_b0_4 v_b0_5 v_b0_6) = (br (decide (v_t25 < v_t24)) (chk (decide (0 ≤ v_t25 ∧ v_t25 < ((v_t23.length : Nat) : Int))) (chk ((decide (0 ≤ (0 : Int) ∧ (0 : Int) ≤ v_t25 ∧ v_t25 ≤ ((v_b0_6.length : Nat) : Int))) || (!(!(!(f103 ((v_t23.getD v_t25.toNat ((0 : Int), ())).1)))))) (chk ((G182 ((v_b0_6.take v_t25.toNat).drop 0) ((v_t23.getD v_t25.toNat ((0 : Int), ())).1)).isSome || (!(!(!(f103 ((v_t23.getD v_t25.toNat ((0 : Int), ())).1)))))) (br ((!(f103 ((v_t23.getD v_t25.toNat ((0 : Int), ())).1))) || ((G182 ((v_b0_6.take v_t25.toNat).drop 0) ((v_t23.getD v_t25.toNat ((0 : Int), ())).1)).getD (false, ())).1) (some (.inr (.inl (false, ())))) (lg172_0 v_t23 v_t24 (IntKind.i64.wrap (v_t25 + (1 : Int))) v_b0_0 v_b0_1 v_b0_2 v_b0_3 v_b0_4 v_b0_5 v_b0_6))))) (some (.inl (v_b0_0, v_b0_1, v_b0_2, v_b0_3, v_b0_4, v_b0_5, v_b0_6, ())))) :=
  (show lf172_0 (v_t23, v_t24, v_t25, v_b0_0, v_b0_1, v_b0_2, v_b0_3, v_b0_4, v_b0_5, v_b0_6, ()) = _ from lfp_eq (fun x => vround_lin _ _ _ _ x) _).trans (by kernel_rfl)
noncomputable def G172 (a_d0 : Int) (a_d1 : Int) (a_d2 : Int) (a_d3 : Int) (a_d4 : Int) (a_d5 : Int) (a_d6 : List (Int × Unit)) : Option (Bool × Unit) := F172 (a_d0, a_d1, a_d2, a_d3, a_d4, a_d5, a_d6, ())
theorem G172_eq (a_d0 : Int) (a_d1 : Int) (a_d2 : Int) (a_d3 : Int) (a_d4 : Int) (a_d5 : Int) (a_d6 : List (Int × Unit)) : (G172 a_d0 a_d1 a_d2 a_d3 a_d4 a_d5 a_d6) = (br (a_d3 == (0 : Int)) (some ((((a_d4 == (0 : Int)) && (a_d5 == (0 : Int))) && (((a_d6.length : Nat) : Int) == (0 : Int))), ())) ((lg172_0 a_d6 ((a_d6.length : Nat) : Int) (0 : Int) a_d0 a_d1 a_d2 a_d3 a_d4 a_d5 a_d6).bind fun o => match o with | .inl (y1 : DMapDisk) => (some (((((f64 y1.2.2.2.1 (1 : Int) (2 : Int)) && (f143 y1.2.2.2.2.1)) && (f64 y1.2.2.2.2.2.1 (1 : Int) (99999 : Int))) && (decide (((y1.2.2.2.2.2.2.1.length : Nat) : Int) < (3 : Int)))), ())) | .inr (.inl (y2 : Bool × Unit)) => (some (y2.1, ())))) := by kernel_rfl
noncomputable def ac130 : ACode := acOf Try.prog 130
theorem gd130 : Good Try.prog (130, ac130, [.tmp 6], 68) := ⟨_, Try.func130, by kernel_rfl, by kernel_rfl, by kernel_rfl, by kernel_rfl⟩
/- impl.disksOk -/
def sk130_0 : Skel := ⟨mkE 68 [(1, .int .i64), (2, .lst MapDisk), (22, .lst MapDisk), (23, .int .i64), (24, .int .i64)], [], [], 0⟩
def ou130_0 : List (Option Nat × Skel) := [(some 0, ⟨mkE 68 [], [], [], 0⟩), (none, ⟨mkE 68 [(6, .bool)], [], [], 0⟩)]
def an130 : List (Nat × An) := []
def S130 : List (Skel × List (Option Nat × Skel)) := [(sk130_0, ou130_0)]
def ps130 : List PK := [⟨none, false, [I], false⟩, ⟨none, false, [I], false⟩, ⟨none, false, [(.sl MapDisk)], false⟩]
def rs130 : List PK := [⟨some .S, false, [.bool], false⟩]
noncomputable def F130 := FN (tabC T172) an130 S130 ac130 [.tmp 6] 68 false 1 ps130 rs130
noncomputable def T130 : List (FuncId × Ctr) := (130, ⟨true, false, 1, ps130, rs130, F130⟩) :: T172
theorem hT130 : AllC Try.prog T130 := AllC.fresh (an := an130) (S := S130) (ps := ps130) (rs := rs130) hT172 gd130 (by kernel_rfl)
noncomputable def lf130_0 : Int × (List (DMapDisk)) × (List (DMapDisk)) × Int × Int × Unit → Option (Outs ou130_0) := lfp (vround (tabC T172) an130 (mkL (tabC T172) an130 [] (ac130.body 0)) (ac130.body 0) sk130_0 ou130_0)
noncomputable def lg130_0 (v_next : Int) (v_list : List (DMapDisk)) (v_t22 : List (DMapDisk)) (v_t23 : Int) (v_t24 : Int) : Option (Sum (Unit) (Sum (Bool × Unit) (Empty))) := lf130_0 (v_next, v_list, v_t22, v_t23, v_t24, ())
theorem lg130_0_eq (v_next : Int) (v_list : List (DMapDisk)) (v_t22 : List (DMapDisk)) (v_t23 : Int) (v_t24 : Int) : (lg130_0 v_next v_list v_t22 v_t23 v_t24) = (br (decide (v_t24 < v_t23)) (chk (decide (0 ≤ v_t24 ∧ v_t24 < ((v_t22.length : Nat) : Int))) (let e1 : DMapDisk := (v_t22.getD v_t24.toNat ((0 : Int), (0 : Int), (0 : Int), (0 : Int), (0 : Int), (0 : Int), [], ())); (chk ((decide (0 ≤ (IntKind.i64.wrap (v_t24 - (1 : Int))) ∧ (IntKind.i64.wrap (v_t24 - (1 : Int))) < ((v_list.length : Nat) : Int))) || (!((!(!(f64 e1.1 (1 : Int) (IntKind.i64.wrap (v_next - (1 : Int)))))) && (decide (v_t24 > (0 : Int)))))) (let e2 : DMapDisk := (v_list.getD (IntKind.i64.wrap (v_t24 - (1 : Int))).toNat ((0 : Int), (0 : Int), (0 : Int), (0 : Int), (0 : Int), (0 : Int), [], ())); (chk ((G172 e1.1 e1.2.1 e1.2.2.1 e1.2.2.2.1 e1.2.2.2.2.1 e1.2.2.2.2.2.1 e1.2.2.2.2.2.2.1).isSome || (!(!((((!(f64 e1.1 (1 : Int) (IntKind.i64.wrap (v_next - (1 : Int))))) || ((decide (v_t24 > (0 : Int))) && (decide (e2.1 ≥ e1.1)))) || (!(f64 e1.2.1 (1 : Int) (8 : Int)))) || (!(f64 e1.2.2.1 (1 : Int) (99999 : Int))))))) (br (((((!(f64 e1.1 (1 : Int) (IntKind.i64.wrap (v_next - (1 : Int))))) || ((decide (v_t24 > (0 : Int))) && (decide (e2.1 ≥ e1.1)))) || (!(f64 e1.2.1 (1 : Int) (8 : Int)))) || (!(f64 e1.2.2.1 (1 : Int) (99999 : Int)))) || (!((G172 e1.1 e1.2.1 e1.2.2.1 e1.2.2.2.1 e1.2.2.2.2.1 e1.2.2.2.2.2.1 e1.2.2.2.2.2.2.1).getD (false, ())).1)) (some (.inr (.inl (false, ())))) (lg130_0 v_next v_list v_t22 v_t23 (IntKind.i64.wrap (v_t24 + (1 : Int)))))))))) (some (.inl (())))) :=
  (show lf130_0 (v_next, v_list, v_t22, v_t23, v_t24, ()) = _ from lfp_eq (fun x => vround_lin _ _ _ _ x) _).trans (by kernel_rfl)
noncomputable def G130 (a_servers : Int) (a_next : Int) (a_list : List (DMapDisk)) : Option (Bool × Unit) := F130 (a_servers, a_next, a_list, ())
theorem G130_eq (a_servers : Int) (a_next : Int) (a_list : List (DMapDisk)) : (G130 a_servers a_next a_list) = (br (((!(f64 a_servers (3 : Int) (5 : Int))) || (!(f64 a_next (1 : Int) (5 : Int)))) || (decide (((a_list.length : Nat) : Int) > (4 : Int)))) (some (false, ())) ((lg130_0 a_next a_list a_list ((a_list.length : Nat) : Int) (0 : Int)).bind fun o => match o with | .inl (y3 : Unit) => (some (true, ())) | .inr (.inl (y4 : Bool × Unit)) => (some (y4.1, ())))) := by kernel_rfl
noncomputable def ac102 : ACode := acOf Try.prog 102
theorem gd102 : Good Try.prog (102, ac102, [.tmp 2], 117) := ⟨_, Try.func102, by kernel_rfl, by kernel_rfl, by kernel_rfl, by kernel_rfl⟩
/- impl.MapOk -/
def sk102_0 : Skel := ⟨mkE 117 [(1, .box 0 0), (34, .lst MapView), (35, .int .i64), (36, .int .i64)], [some [.int .i64, .int .i64, .int .i64, .lst MapDisk, .lst MapView, .lst MapDone]], [], 0⟩
def ou102_0 : List (Option Nat × Skel) := [(some 0, ⟨mkE 117 [(1, .box 0 0)], [some [.int .i64, .int .i64, .int .i64, .lst MapDisk, .lst MapView, .lst MapDone]], [], 0⟩), (none, ⟨mkE 117 [(2, .bool)], [], [], 0⟩)]
def sk102_1 : Skel := ⟨mkE 117 [(1, .box 0 0), (71, .lst MapDone), (72, .int .i64), (73, .int .i64)], [some [.int .i64, .int .i64, .int .i64, .lst MapDisk, .lst MapView, .lst MapDone]], [], 0⟩
def ou102_1 : List (Option Nat × Skel) := [(some 2, ⟨mkE 117 [], [], [], 0⟩), (none, ⟨mkE 117 [(2, .bool)], [], [], 0⟩)]
def an102 : List (Nat × An) := []
def S102 : List (Skel × List (Option Nat × Skel)) := [(sk102_0, ou102_0), (sk102_1, ou102_1)]
def ps102 : List PK := [⟨none, true, MapState, false⟩]
def rs102 : List PK := [⟨some .S, false, [.bool], false⟩]
noncomputable def F102 := FN (tabC T130) an102 S102 ac102 [.tmp 2] 117 false 1 ps102 rs102
noncomputable def T102 : List (FuncId × Ctr) := (102, ⟨true, false, 1, ps102, rs102, F102⟩) :: T130
theorem hT102 : AllC Try.prog T102 := AllC.fresh (an := an102) (S := S102) (ps := ps102) (rs := rs102) hT130 gd102 (by kernel_rfl)
noncomputable def lf102_1 : (List (DMapDone)) × Int × Int × Int × Int × Int × (List (DMapDisk)) × (List (DMapView)) × (List (DMapDone)) × Unit → Option (Outs ou102_1) := lfp (vround (tabC T130) an102 (mkL (tabC T130) an102 [] (ac102.body 1)) (ac102.body 1) sk102_1 ou102_1)
noncomputable def lg102_1 (v_t71 : List (DMapDone)) (v_t72 : Int) (v_t73 : Int) (v_b0_0 : Int) (v_b0_1 : Int) (v_b0_2 : Int) (v_b0_3 : List (DMapDisk)) (v_b0_4 : List (DMapView)) (v_b0_5 : List (DMapDone)) : Option (Sum (Unit) (Sum (Bool × Unit) (Empty))) := lf102_1 (v_t71, v_t72, v_t73, v_b0_0, v_b0_1, v_b0_2, v_b0_3, v_b0_4, v_b0_5, ())
theorem lg102_1_eq (v_t71 : List (DMapDone)) (v_t72 : Int) (v_t73 : Int) (v_b0_0 : Int) (v_b0_1 : Int) (v_b0_2 : Int) (v_b0_3 : List (DMapDisk)) (v_b0_4 : List (DMapView)) (v_b0_5 : List (DMapDone)) : (lg102_1 v_t71 v_t72 v_t73 v_b0_0 v_b0_1 v_b0_2 v_b0_3 v_b0_4 v_b0_5) = (br (decide (v_t73 < v_t72)) (chk (decide (0 ≤ v_t73 ∧ v_t73 < ((v_t71.length : Nat) : Int))) (let e3 : DMapDone := (v_t71.getD v_t73.toNat ((0 : Int), (0 : Int), (0 : Int), (0 : Int), ())); (chk ((decide (0 ≤ (IntKind.i64.wrap (v_t73 - (1 : Int))) ∧ (IntKind.i64.wrap (v_t73 - (1 : Int))) < ((v_b0_5.length : Nat) : Int))) || (!((!(!(f143 e3.1))) && (decide (v_t73 > (0 : Int)))))) (let e4 : DMapDone := (v_b0_5.getD (IntKind.i64.wrap (v_t73 - (1 : Int))).toNat ((0 : Int), (0 : Int), (0 : Int), (0 : Int), ())); (br (((((!(f143 e3.1)) || ((decide (v_t73 > (0 : Int))) && (decide (e4.1 ≥ e3.1)))) || (!(f64 e3.2.1 (1 : Int) (99999 : Int)))) || (!(f64 e3.2.2.1 (0 : Int) (6 : Int)))) || (!(f64 e3.2.2.2.1 (-1 : Int) (99999 : Int)))) (some (.inr (.inl (false, ())))) (lg102_1 v_t71 v_t72 (IntKind.i64.wrap (v_t73 + (1 : Int))) v_b0_0 v_b0_1 v_b0_2 v_b0_3 v_b0_4 v_b0_5)))))) (some (.inl (())))) :=
  (show lf102_1 (v_t71, v_t72, v_t73, v_b0_0, v_b0_1, v_b0_2, v_b0_3, v_b0_4, v_b0_5, ()) = _ from lfp_eq (fun x => vround_lin _ _ _ _ x) _).trans (by kernel_rfl)
noncomputable def lf102_0 : (List (DMapView)) × Int × Int × Int × Int × Int × (List (DMapDisk)) × (List (DMapView)) × (List (DMapDone)) × Unit → Option (Outs ou102_0) := lfp (vround (tabC T130) an102 (mkL (tabC T130) an102 [] (ac102.body 0)) (ac102.body 0) sk102_0 ou102_0)
noncomputable def lg102_0 (v_t34 : List (DMapView)) (v_t35 : Int) (v_t36 : Int) (v_b0_0 : Int) (v_b0_1 : Int) (v_b0_2 : Int) (v_b0_3 : List (DMapDisk)) (v_b0_4 : List (DMapView)) (v_b0_5 : List (DMapDone)) : Option (Sum (DMapState) (Sum (Bool × Unit) (Empty))) := lf102_0 (v_t34, v_t35, v_t36, v_b0_0, v_b0_1, v_b0_2, v_b0_3, v_b0_4, v_b0_5, ())
theorem lg102_0_eq (v_t34 : List (DMapView)) (v_t35 : Int) (v_t36 : Int) (v_b0_0 : Int) (v_b0_1 : Int) (v_b0_2 : Int) (v_b0_3 : List (DMapDisk)) (v_b0_4 : List (DMapView)) (v_b0_5 : List (DMapDone)) : (lg102_0 v_t34 v_t35 v_t36 v_b0_0 v_b0_1 v_b0_2 v_b0_3 v_b0_4 v_b0_5) = (br (decide (v_t36 < v_t35)) (chk (decide (0 ≤ v_t36 ∧ v_t36 < ((v_t34.length : Nat) : Int))) (let e1 : DMapView := (v_t34.getD v_t36.toNat ((0 : Int), (0 : Int), (0 : Int), ())); (br ((((!(f64 e1.1 (1 : Int) (99999 : Int))) || (!(f64 e1.2.1 (0 : Int) (IntKind.i64.wrap (v_b0_1 - (1 : Int)))))) || (!(f64 e1.2.2.1 (-1 : Int) (IntKind.i64.wrap (v_b0_1 - (1 : Int)))))) || (e1.2.1 == e1.2.2.1)) (some (.inr (.inl (false, ())))) (lg102_0 v_t34 v_t35 (IntKind.i64.wrap (v_t36 + (1 : Int))) v_b0_0 v_b0_1 v_b0_2 v_b0_3 v_b0_4 v_b0_5)))) (some (.inl (v_b0_0, v_b0_1, v_b0_2, v_b0_3, v_b0_4, v_b0_5, ())))) :=
  (show lf102_0 (v_t34, v_t35, v_t36, v_b0_0, v_b0_1, v_b0_2, v_b0_3, v_b0_4, v_b0_5, ()) = _ from lfp_eq (fun x => vround_lin _ _ _ _ x) _).trans (by kernel_rfl)
noncomputable def G102 (a_m0 : Int) (a_m1 : Int) (a_m2 : Int) (a_m3 : List (DMapDisk)) (a_m4 : List (DMapView)) (a_m5 : List (DMapDone)) : Option (Bool × Unit) := F102 (a_m0, a_m1, a_m2, a_m3, a_m4, a_m5, ())
theorem G102_eq (a_m0 : Int) (a_m1 : Int) (a_m2 : Int) (a_m3 : List (DMapDisk)) (a_m4 : List (DMapView)) (a_m5 : List (DMapDone)) : (G102 a_m0 a_m1 a_m2 a_m3 a_m4 a_m5) = (chk ((G130 a_m1 a_m2 a_m3).isSome || (!(!(!(f64 a_m0 (0 : Int) (60 : Int)))))) (br ((((!(f64 a_m0 (0 : Int) (60 : Int))) || (!((G130 a_m1 a_m2 a_m3).getD (false, ())).1)) || (((a_m4.length : Nat) : Int) != (3 : Int))) || (decide (((a_m5.length : Nat) : Int) > (4 : Int)))) (some (false, ())) ((lg102_0 a_m4 ((a_m4.length : Nat) : Int) (0 : Int) a_m0 a_m1 a_m2 a_m3 a_m4 a_m5).bind fun o => match o with | .inl (y2 : DMapState) => ((lg102_1 y2.2.2.2.2.2.1 ((y2.2.2.2.2.2.1.length : Nat) : Int) (0 : Int) y2.1 y2.2.1 y2.2.2.1 y2.2.2.2.1 y2.2.2.2.2.1 y2.2.2.2.2.2.1).bind fun o => match o with | .inl (y5 : Unit) => (some (true, ())) | .inr (.inl (y6 : Bool × Unit)) => (some (y6.1, ()))) | .inr (.inl (y7 : Bool × Unit)) => (some (y7.1, ()))))) := by kernel_rfl
noncomputable def ac131 : ACode := acOf Try.prog 131
theorem gd131 : Good Try.prog (131, ac131, [.tmp 4], 20) := ⟨_, Try.func131, by kernel_rfl, by kernel_rfl, by kernel_rfl, by kernel_rfl⟩
/- impl.diskAt -/
def sk131_0 : Skel := ⟨mkE 20 [(1, .int .i64), (7, .lst MapDisk), (8, .int .i64), (9, .int .i64)], [], [], 0⟩
def ou131_0 : List (Option Nat × Skel) := [(some 0, ⟨mkE 20 [], [], [], 0⟩), (none, ⟨mkE 20 [(4, .int .i64)], [], [], 0⟩)]
def an131 : List (Nat × An) := []
def S131 : List (Skel × List (Option Nat × Skel)) := [(sk131_0, ou131_0)]
def ps131 : List PK := [⟨none, false, [(.sl MapDisk)], false⟩, ⟨none, false, [I], false⟩]
def rs131 : List PK := [⟨some .S, false, [I], false⟩]
noncomputable def F131 := FN (tabC T102) an131 S131 ac131 [.tmp 4] 20 false 1 ps131 rs131
noncomputable def T131 : List (FuncId × Ctr) := (131, ⟨true, false, 1, ps131, rs131, F131⟩) :: T102
theorem hT131 : AllC Try.prog T131 := AllC.fresh (an := an131) (S := S131) (ps := ps131) (rs := rs131) hT102 gd131 (by kernel_rfl)
noncomputable def lf131_0 : Int × (List (DMapDisk)) × Int × Int × Unit → Option (Outs ou131_0) := lfp (vround (tabC T102) an131 (mkL (tabC T102) an131 [] (ac131.body 0)) (ac131.body 0) sk131_0 ou131_0)
noncomputable def lg131_0 (v_id : Int) (v_t7 : List (DMapDisk)) (v_t8 : Int) (v_t9 : Int) : Option (Sum (Unit) (Sum (Int × Unit) (Empty))) := lf131_0 (v_id, v_t7, v_t8, v_t9, ())
theorem lg131_0_eq (v_id : Int) (v_t7 : List (DMapDisk)) (v_t8 : Int) (v_t9 : Int) : (lg131_0 v_id v_t7 v_t8 v_t9) = (br (decide (v_t9 < v_t8)) (chk (decide (0 ≤ v_t9 ∧ v_t9 < ((v_t7.length : Nat) : Int))) (let e1 : DMapDisk := (v_t7.getD v_t9.toNat ((0 : Int), (0 : Int), (0 : Int), (0 : Int), (0 : Int), (0 : Int), [], ())); (br (e1.1 == v_id) (some (.inr (.inl (v_t9, ())))) (lg131_0 v_id v_t7 v_t8 (IntKind.i64.wrap (v_t9 + (1 : Int))))))) (some (.inl (())))) :=
  (show lf131_0 (v_id, v_t7, v_t8, v_t9, ()) = _ from lfp_eq (fun x => vround_lin _ _ _ _ x) _).trans (by kernel_rfl)
noncomputable def G131 (a_list : List (DMapDisk)) (a_id : Int) : Option (Int × Unit) := F131 (a_list, a_id, ())
theorem G131_eq (a_list : List (DMapDisk)) (a_id : Int) : (G131 a_list a_id) = ((lg131_0 a_id a_list ((a_list.length : Nat) : Int) (0 : Int)).bind fun o => match o with | .inl (y2 : Unit) => (some ((-1 : Int), ())) | .inr (.inl (y3 : Int × Unit)) => (some (y3.1, ()))) := by kernel_rfl
noncomputable def ac105 : ACode := acOf Try.prog 105
theorem gd105 : Good Try.prog (105, ac105, [.tmp 10], 46) := ⟨_, Try.func105, by kernel_rfl, by kernel_rfl, by kernel_rfl, by kernel_rfl⟩
/- impl.judge -/
def an105 : List (Nat × An) := []
def S105 : List (Skel × List (Option Nat × Skel)) := []
def ps105 : List PK := [⟨none, false, [(.sl MapDisk)], false⟩, ⟨none, false, [I], false⟩, ⟨none, false, [I], false⟩, ⟨none, false, [I], false⟩, ⟨none, false, [.bool], false⟩]
def rs105 : List PK := [⟨some .S, false, [I], false⟩]
noncomputable def F105 := FN (tabC T131) an105 S105 ac105 [.tmp 10] 46 false 1 ps105 rs105
noncomputable def T105 : List (FuncId × Ctr) := (105, ⟨true, false, 1, ps105, rs105, F105⟩) :: T131
theorem hT105 : AllC Try.prog T105 := AllC.fresh (an := an105) (S := S105) (ps := ps105) (rs := rs105) hT131 gd105 (by kernel_rfl)
noncomputable def G105 (a_list : List (DMapDisk)) (a_disk : Int) (a_block : Int) (a_epoch : Int) (a_write : Bool) : Option (Int × Unit) := F105 (a_list, a_disk, a_block, a_epoch, a_write, ())
theorem G105_eq (a_list : List (DMapDisk)) (a_disk : Int) (a_block : Int) (a_epoch : Int) (a_write : Bool) : (G105 a_list a_disk a_block a_epoch a_write) = ((G131 a_list a_disk).bind fun (y1 : Int × Unit) => (br (decide (y1.1 < (0 : Int))) (some ((1 : Int), ())) (chk (decide (0 ≤ y1.1 ∧ y1.1 < ((a_list.length : Nat) : Int))) (let e2 : DMapDisk := (a_list.getD y1.1.toNat ((0 : Int), (0 : Int), (0 : Int), (0 : Int), (0 : Int), (0 : Int), [], ())); (br (!(f64 a_block (0 : Int) (IntKind.i64.wrap (e2.2.1 - (1 : Int))))) (some ((2 : Int), ())) (chk ((decide (0 ≤ y1.1 ∧ y1.1 < ((a_list.length : Nat) : Int))) || (!((!a_write) && (a_epoch != (0 : Int))))) (let e3 : DMapDisk := (a_list.getD y1.1.toNat ((0 : Int), (0 : Int), (0 : Int), (0 : Int), (0 : Int), (0 : Int), [], ())); (br (((!a_write) && (a_epoch != (0 : Int))) && (!(f64 a_epoch (1 : Int) (IntKind.i64.wrap (e3.2.2.1 - (1 : Int)))))) (some ((3 : Int), ())) (some ((0 : Int), ())))))))))) := by kernel_rfl
noncomputable def ac37 : ACode := acOf Try.prog 37
theorem gd37 : Good Try.prog (37, ac37, [.tmp 10], 21) := ⟨_, Try.func37, by kernel_rfl, by kernel_rfl, by kernel_rfl, by kernel_rfl⟩
/- impl.MapJudge -/
def an37 : List (Nat × An) := []
def S37 : List (Skel × List (Option Nat × Skel)) := []
def ps37 : List PK := [⟨none, true, MapState, false⟩, ⟨none, false, [I], false⟩, ⟨none, false, [I], false⟩, ⟨none, false, [I], false⟩, ⟨none, false, [.bool], false⟩]
def rs37 : List PK := [⟨some .S, false, [I], false⟩]
noncomputable def F37 := FN (tabC T105) an37 S37 ac37 [.tmp 10] 21 false 1 ps37 rs37
noncomputable def T37 : List (FuncId × Ctr) := (37, ⟨true, false, 1, ps37, rs37, F37⟩) :: T105
theorem hT37 : AllC Try.prog T37 := AllC.fresh (an := an37) (S := S37) (ps := ps37) (rs := rs37) hT105 gd37 (by kernel_rfl)
noncomputable def G37 (a_m0 : Int) (a_m1 : Int) (a_m2 : Int) (a_m3 : List (DMapDisk)) (a_m4 : List (DMapView)) (a_m5 : List (DMapDone)) (a_disk : Int) (a_block : Int) (a_epoch : Int) (a_write : Bool) : Option (Int × Unit) := F37 (a_m0, a_m1, a_m2, a_m3, a_m4, a_m5, a_disk, a_block, a_epoch, a_write, ())
theorem G37_eq (a_m0 : Int) (a_m1 : Int) (a_m2 : Int) (a_m3 : List (DMapDisk)) (a_m4 : List (DMapView)) (a_m5 : List (DMapDone)) (a_disk : Int) (a_block : Int) (a_epoch : Int) (a_write : Bool) : (G37 a_m0 a_m1 a_m2 a_m3 a_m4 a_m5 a_disk a_block a_epoch a_write) = ((G102 a_m0 a_m1 a_m2 a_m3 a_m4 a_m5).bind fun (y1 : Bool × Unit) => (br (!y1.1) (some ((1 : Int), ())) ((G105 a_m3 a_disk a_block a_epoch a_write).bind fun (y2 : Int × Unit) => (some (y2.1, ()))))) := by kernel_rfl
noncomputable def ac9 : ACode := acOf Try.prog 9
theorem gd9 : Good Try.prog (9, ac9, [.tmp 2], 100) := ⟨_, Try.func9, by kernel_rfl, by kernel_rfl, by kernel_rfl, by kernel_rfl⟩
/- laws.FnMapJudge -/
def sk9_0 : Skel := ⟨mkE 100 [(3, .box 0 0), (4, .int .i64), (5, .int .i64), (6, .int .i64), (7, .bool), (9, .int .i64), (10, .int .i64)], [some [.int .i64, .int .i64, .int .i64, .lst MapDisk, .lst MapView, .lst MapDone]], [], 0⟩
def ou9_0 : List (Option Nat × Skel) := [(some 0, ⟨mkE 100 [(9, .int .i64)], [], [], 0⟩), (none, ⟨mkE 100 [(2, .bool)], [], [], 0⟩)]
def an9 : List (Nat × An) := []
def S9 : List (Skel × List (Option Nat × Skel)) := [(sk9_0, ou9_0)]
def ps9 : List PK := [⟨none, false, [(.sl [(.int .u8)])], false⟩]
def rs9 : List PK := [⟨some .S, false, [.bool], false⟩]
noncomputable def F9 := FN (tabC T37) an9 S9 ac9 [.tmp 2] 100 false 1 ps9 rs9
noncomputable def T9 : List (FuncId × Ctr) := (9, ⟨true, false, 1, ps9, rs9, F9⟩) :: T37
theorem hT9 : AllC Try.prog T9 := AllC.fresh (an := an9) (S := S9) (ps := ps9) (rs := rs9) hT37 gd9 (by kernel_rfl)
noncomputable def lf9_0 : Int × Int × Int × Bool × Int × Int × Int × Int × Int × (List (DMapDisk)) × (List (DMapView)) × (List (DMapDone)) × Unit → Option (Outs ou9_0) := lfp (vround (tabC T37) an9 (mkL (tabC T37) an9 [] (ac9.body 0)) (ac9.body 0) sk9_0 ou9_0)
noncomputable def lg9_0 (v_disk : Int) (v_block : Int) (v_epoch : Int) (v_write : Bool) (v_n : Int) (v_i : Int) (v_b0_0 : Int) (v_b0_1 : Int) (v_b0_2 : Int) (v_b0_3 : List (DMapDisk)) (v_b0_4 : List (DMapView)) (v_b0_5 : List (DMapDone)) : Option (Sum (Int × Unit) (Sum (Bool × Unit) (Empty))) := lf9_0 (v_disk, v_block, v_epoch, v_write, v_n, v_i, v_b0_0, v_b0_1, v_b0_2, v_b0_3, v_b0_4, v_b0_5, ())
theorem lg9_0_eq (v_disk : Int) (v_block : Int) (v_epoch : Int) (v_write : Bool) (v_n : Int) (v_i : Int) (v_b0_0 : Int) (v_b0_1 : Int) (v_b0_2 : Int) (v_b0_3 : List (DMapDisk)) (v_b0_4 : List (DMapView)) (v_b0_5 : List (DMapDone)) : (lg9_0 v_disk v_block v_epoch v_write v_n v_i v_b0_0 v_b0_1 v_b0_2 v_b0_3 v_b0_4 v_b0_5) = (br (decide (v_i < ((v_b0_3.length : Nat) : Int))) (chk (decide (0 ≤ v_i ∧ v_i < ((v_b0_3.length : Nat) : Int))) (let e4 : DMapDisk := (v_b0_3.getD v_i.toNat ((0 : Int), (0 : Int), (0 : Int), (0 : Int), (0 : Int), (0 : Int), [], ())); (br (e4.1 != v_disk) (lg9_0 v_disk v_block v_epoch v_write v_n (IntKind.i64.wrap (v_i + (1 : Int))) v_b0_0 v_b0_1 v_b0_2 v_b0_3 v_b0_4 v_b0_5) (br ((decide (v_block < (0 : Int))) || (decide (v_block ≥ e4.2.1))) (some (.inr (.inl ((v_n == (2 : Int)), ())))) (br (((!v_write) && (v_epoch != (0 : Int))) && ((decide (v_epoch < (0 : Int))) || (decide (v_epoch ≥ e4.2.2.1)))) (some (.inr (.inl ((v_n == (3 : Int)), ())))) (some (.inr (.inl ((v_n == (0 : Int)), ()))))))))) (some (.inl (v_n, ())))) :=
  (show lf9_0 (v_disk, v_block, v_epoch, v_write, v_n, v_i, v_b0_0, v_b0_1, v_b0_2, v_b0_3, v_b0_4, v_b0_5, ()) = _ from lfp_eq (fun x => vround_lin _ _ _ _ x) _).trans (by kernel_rfl)
noncomputable def G9 (a_code : List (Int × Unit)) : Option (Bool × Unit) := F9 (a_code, ())
theorem G9_eq (a_code : List (Int × Unit)) : (G9 a_code) = (br (decide (((a_code.length : Nat) : Int) > (1048576 : Int))) (some (true, ())) ((G35 a_code).bind fun (y1 : Int × Int × Int × (List (DMapDisk)) × (List (DMapView)) × (List (DMapDone)) × Int × Int × Int × Bool × Unit) => ((G36 y1.1 y1.2.1 y1.2.2.1 y1.2.2.2.1 y1.2.2.2.2.1 y1.2.2.2.2.2.1 y1.2.2.2.2.2.2.1 y1.2.2.2.2.2.2.2.1 y1.2.2.2.2.2.2.2.2.1 y1.2.2.2.2.2.2.2.2.2.1).bind fun (y2 : Int × Unit) => ((G37 y1.1 y1.2.1 y1.2.2.1 y1.2.2.2.1 y1.2.2.2.2.1 y1.2.2.2.2.2.1 y1.2.2.2.2.2.2.1 y1.2.2.2.2.2.2.2.1 y1.2.2.2.2.2.2.2.2.1 y1.2.2.2.2.2.2.2.2.2.1).bind fun (y3 : Int × Unit) => (chk ((G33 y1.1 y1.2.1 y1.2.2.1 y1.2.2.2.1 y1.2.2.2.2.1 y1.2.2.2.2.2.1).isSome || (!(!(y3.1 != y2.1)))) (br ((y3.1 != y2.1) || (!((G33 y1.1 y1.2.1 y1.2.2.1 y1.2.2.2.1 y1.2.2.2.2.1 y1.2.2.2.2.2.1).getD (false, ())).1)) (some (((y3.1 == y2.1) && (y3.1 == (1 : Int))), ())) ((lg9_0 y1.2.2.2.2.2.2.1 y1.2.2.2.2.2.2.2.1 y1.2.2.2.2.2.2.2.2.1 y1.2.2.2.2.2.2.2.2.2.1 y3.1 (0 : Int) y1.1 y1.2.1 y1.2.2.1 y1.2.2.2.1 y1.2.2.2.2.1 y1.2.2.2.2.2.1).bind fun o => match o with | .inl (y5 : Int × Unit) => (some ((y5.1 == (1 : Int)), ())) | .inr (.inl (y6 : Bool × Unit)) => (some (y6.1, ()))))))))) := by kernel_rfl
noncomputable def ac175 : ACode := acOf Try.prog 175
theorem gd175 : Good Try.prog (175, ac175, [.tmp 2], 14) := ⟨_, Try.func175, by kernel_rfl, by kernel_rfl, by kernel_rfl, by kernel_rfl⟩
/- impl.copied[impl.MapDisk] -/
def an175 : List (Nat × An) := [(9, .ty MapDisk)]
def S175 : List (Skel × List (Option Nat × Skel)) := []
def ps175 : List PK := [⟨none, false, [(.sl MapDisk)], false⟩]
def rs175 : List PK := [⟨some .L, false, [(.sl MapDisk)], false⟩]
noncomputable def F175 := FN (tabC T9) an175 S175 ac175 [.tmp 2] 14 false 1 ps175 rs175
noncomputable def T175 : List (FuncId × Ctr) := (175, ⟨false, false, 1, ps175, rs175, F175⟩) :: T9
theorem hT175 : AllC Try.prog T175 := AllC.own (an := an175) (S := S175) (ps := ps175) (rs := rs175) hT9 gd175 (by kernel_rfl)
noncomputable def G175 (a_list : List (DMapDisk)) : Option ((List (DMapDisk)) × Unit) := F175 (a_list, ())
theorem G175_eq (a_list : List (DMapDisk)) : (G175 a_list) = (br (((a_list.length : Nat) : Int) == (0 : Int)) (some ([], ())) (chk (decide (0 ≤ ((a_list.length : Nat) : Int) ∧ ((72 : Nat) : Int) * ((a_list.length : Nat) : Int) ≤ 281474976710656 ∧ ((a_list.length : Nat) : Int) ≤ 281474976710656)) (some ((a_list.take (min a_list.length ((List.replicate ((a_list.length : Nat) : Int).toNat (((0 : Int), (0 : Int), (0 : Int), (0 : Int), (0 : Int), (0 : Int), [], ()) : DMapDisk))).length) ++ (List.replicate ((a_list.length : Nat) : Int).toNat (((0 : Int), (0 : Int), (0 : Int), (0 : Int), (0 : Int), (0 : Int), [], ()) : DMapDisk)).drop (min a_list.length ((List.replicate ((a_list.length : Nat) : Int).toNat (((0 : Int), (0 : Int), (0 : Int), (0 : Int), (0 : Int), (0 : Int), [], ()) : DMapDisk))).length)), ())))) := by kernel_rfl
noncomputable def ac176 : ACode := acOf Try.prog 176
theorem gd176 : Good Try.prog (176, ac176, [.tmp 2], 14) := ⟨_, Try.func176, by kernel_rfl, by kernel_rfl, by kernel_rfl, by kernel_rfl⟩
/- impl.copied[int] -/
def an176 : List (Nat × An) := []
def S176 : List (Skel × List (Option Nat × Skel)) := []
def ps176 : List PK := [⟨none, false, [(.sl [I])], false⟩]
def rs176 : List PK := [⟨some .S, false, [(.sl [I])], false⟩]
noncomputable def F176 := FN (tabC T175) an176 S176 ac176 [.tmp 2] 14 false 1 ps176 rs176
noncomputable def T176 : List (FuncId × Ctr) := (176, ⟨true, false, 1, ps176, rs176, F176⟩) :: T175
theorem hT176 : AllC Try.prog T176 := AllC.fresh (an := an176) (S := S176) (ps := ps176) (rs := rs176) hT175 gd176 (by kernel_rfl)
noncomputable def G176 (a_list : List (Int × Unit)) : Option ((List (Int × Unit)) × Unit) := F176 (a_list, ())
theorem G176_eq (a_list : List (Int × Unit)) : (G176 a_list) = (br (((a_list.length : Nat) : Int) == (0 : Int)) (some ([], ())) (chk (decide (0 ≤ ((a_list.length : Nat) : Int) ∧ ((8 : Nat) : Int) * ((a_list.length : Nat) : Int) ≤ 281474976710656 ∧ ((a_list.length : Nat) : Int) ≤ 281474976710656)) (some ((a_list.take (min a_list.length ((List.replicate ((a_list.length : Nat) : Int).toNat (((0 : Int), ()) : Int × Unit))).length) ++ (List.replicate ((a_list.length : Nat) : Int).toNat (((0 : Int), ()) : Int × Unit)).drop (min a_list.length ((List.replicate ((a_list.length : Nat) : Int).toNat (((0 : Int), ()) : Int × Unit))).length)), ())))) := by kernel_rfl
noncomputable def ac133 : ACode := acOf Try.prog 133
theorem gd133 : Good Try.prog (133, ac133, [.tmp 2], 24) := ⟨_, Try.func133, by kernel_rfl, by kernel_rfl, by kernel_rfl, by kernel_rfl⟩
/- impl.disksCopy -/
def sk133_0 : Skel := ⟨mkE 24 [(3, .ref 0), (8, .int .i64), (9, .int .i64)], [], [some (.sp, MapDisk)], 0⟩
def ou133_0 : List (Option Nat × Skel) := [(some 0, ⟨mkE 24 [(3, .ref 0)], [], [some (.sp, MapDisk)], 0⟩)]
def an133 : List (Nat × An) := [(19, .rows)]
def S133 : List (Skel × List (Option Nat × Skel)) := [(sk133_0, ou133_0)]
def ps133 : List PK := [⟨none, false, [(.sl MapDisk)], false⟩]
def rs133 : List PK := [⟨some .S, false, [(.sl MapDisk)], false⟩]
noncomputable def F133 := FN (tabC T176) an133 S133 ac133 [.tmp 2] 24 false 1 ps133 rs133
noncomputable def T133 : List (FuncId × Ctr) := (133, ⟨true, false, 1, ps133, rs133, F133⟩) :: T176
theorem hT133 : AllC Try.prog T133 := AllC.fresh (an := an133) (S := S133) (ps := ps133) (rs := rs133) hT176 gd133 (by kernel_rfl)
noncomputable def lf133_0 : Int × Int × Int × (List (DMapDisk)) × Unit → Option (Outs ou133_0) := lfp (vround (tabC T176) an133 (mkL (tabC T176) an133 [] (ac133.body 0)) (ac133.body 0) sk133_0 ou133_0)
noncomputable def lg133_0 (v_t8 : Int) (v_t9 : Int) (v_p0 : Int) (v_r0 : List (DMapDisk)) : Option (Sum (Int × (List (DMapDisk)) × Unit) (Empty)) := lf133_0 (v_t8, v_t9, v_p0, v_r0, ())
theorem lg133_0_eq (v_t8 : Int) (v_t9 : Int) (v_p0 : Int) (v_r0 : List (DMapDisk)) : (lg133_0 v_t8 v_t9 v_p0 v_r0) = (br (decide (v_t9 < v_t8)) (chk (decide (0 ≤ v_t9 ∧ v_t9 < ((v_r0.length : Nat) : Int))) (let e2 : DMapDisk := (v_r0.getD v_t9.toNat ((0 : Int), (0 : Int), (0 : Int), (0 : Int), (0 : Int), (0 : Int), [], ())); ((G176 e2.2.2.2.2.2.2.1).bind fun (y3 : (List (Int × Unit)) × Unit) => (chk (decide (0 ≤ v_t9 ∧ v_t9 < ((v_r0.length : Nat) : Int))) (chk (decide (v_t9 = v_p0)) (lg133_0 v_t8 (IntKind.i64.wrap (v_t9 + (1 : Int))) (v_p0 + 1) (v_r0.set v_t9.toNat ((v_r0.getD v_t9.toNat ((0 : Int), (0 : Int), (0 : Int), (0 : Int), (0 : Int), (0 : Int), [], ())).1, (v_r0.getD v_t9.toNat ((0 : Int), (0 : Int), (0 : Int), (0 : Int), (0 : Int), (0 : Int), [], ())).2.1, (v_r0.getD v_t9.toNat ((0 : Int), (0 : Int), (0 : Int), (0 : Int), (0 : Int), (0 : Int), [], ())).2.2.1, (v_r0.getD v_t9.toNat ((0 : Int), (0 : Int), (0 : Int), (0 : Int), (0 : Int), (0 : Int), [], ())).2.2.2.1, (v_r0.getD v_t9.toNat ((0 : Int), (0 : Int), (0 : Int), (0 : Int), (0 : Int), (0 : Int), [], ())).2.2.2.2.1, (v_r0.getD v_t9.toNat ((0 : Int), (0 : Int), (0 : Int), (0 : Int), (0 : Int), (0 : Int), [], ())).2.2.2.2.2.1, y3.1, ())))))))) (some (.inl (v_p0, v_r0, ())))) :=
  (show lf133_0 (v_t8, v_t9, v_p0, v_r0, ()) = _ from lfp_eq (fun x => vround_lin _ _ _ _ x) _).trans (by kernel_rfl)
noncomputable def G133 (a_list : List (DMapDisk)) : Option ((List (DMapDisk)) × Unit) := F133 (a_list, ())
theorem G133_eq (a_list : List (DMapDisk)) : (G133 a_list) = ((G175 a_list).bind fun (y1 : (List (DMapDisk)) × Unit) => ((lg133_0 ((y1.1.length : Nat) : Int) (0 : Int) (0 : Int) y1.1).bind fun o => match o with | .inl (y4 : Int × (List (DMapDisk)) × Unit) => (chk (decide (y4.1 = ((y4.2.1.length : Nat) : Int))) (some (y4.2.1, ()))))) := by kernel_rfl
noncomputable def ac180 : ACode := acOf Try.prog 180
theorem gd180 : Good Try.prog (180, ac180, [.tmp 2], 14) := ⟨_, Try.func180, by kernel_rfl, by kernel_rfl, by kernel_rfl, by kernel_rfl⟩
/- impl.copied[impl.MapView] -/
def an180 : List (Nat × An) := []
def S180 : List (Skel × List (Option Nat × Skel)) := []
def ps180 : List PK := [⟨none, false, [(.sl MapView)], false⟩]
def rs180 : List PK := [⟨some .S, false, [(.sl MapView)], false⟩]
noncomputable def F180 := FN (tabC T133) an180 S180 ac180 [.tmp 2] 14 false 1 ps180 rs180
noncomputable def T180 : List (FuncId × Ctr) := (180, ⟨true, false, 1, ps180, rs180, F180⟩) :: T133
theorem hT180 : AllC Try.prog T180 := AllC.fresh (an := an180) (S := S180) (ps := ps180) (rs := rs180) hT133 gd180 (by kernel_rfl)
noncomputable def G180 (a_list : List (DMapView)) : Option ((List (DMapView)) × Unit) := F180 (a_list, ())
theorem G180_eq (a_list : List (DMapView)) : (G180 a_list) = (br (((a_list.length : Nat) : Int) == (0 : Int)) (some ([], ())) (chk (decide (0 ≤ ((a_list.length : Nat) : Int) ∧ ((24 : Nat) : Int) * ((a_list.length : Nat) : Int) ≤ 281474976710656 ∧ ((a_list.length : Nat) : Int) ≤ 281474976710656)) (some ((a_list.take (min a_list.length ((List.replicate ((a_list.length : Nat) : Int).toNat (((0 : Int), (0 : Int), (0 : Int), ()) : DMapView))).length) ++ (List.replicate ((a_list.length : Nat) : Int).toNat (((0 : Int), (0 : Int), (0 : Int), ()) : DMapView)).drop (min a_list.length ((List.replicate ((a_list.length : Nat) : Int).toNat (((0 : Int), (0 : Int), (0 : Int), ()) : DMapView))).length)), ())))) := by kernel_rfl
noncomputable def ac181 : ACode := acOf Try.prog 181
theorem gd181 : Good Try.prog (181, ac181, [.tmp 2], 14) := ⟨_, Try.func181, by kernel_rfl, by kernel_rfl, by kernel_rfl, by kernel_rfl⟩
/- impl.copied[impl.MapDone] -/
def an181 : List (Nat × An) := []
def S181 : List (Skel × List (Option Nat × Skel)) := []
def ps181 : List PK := [⟨none, false, [(.sl MapDone)], false⟩]
def rs181 : List PK := [⟨some .S, false, [(.sl MapDone)], false⟩]
noncomputable def F181 := FN (tabC T180) an181 S181 ac181 [.tmp 2] 14 false 1 ps181 rs181
noncomputable def T181 : List (FuncId × Ctr) := (181, ⟨true, false, 1, ps181, rs181, F181⟩) :: T180
theorem hT181 : AllC Try.prog T181 := AllC.fresh (an := an181) (S := S181) (ps := ps181) (rs := rs181) hT180 gd181 (by kernel_rfl)
noncomputable def G181 (a_list : List (DMapDone)) : Option ((List (DMapDone)) × Unit) := F181 (a_list, ())
theorem G181_eq (a_list : List (DMapDone)) : (G181 a_list) = (br (((a_list.length : Nat) : Int) == (0 : Int)) (some ([], ())) (chk (decide (0 ≤ ((a_list.length : Nat) : Int) ∧ ((32 : Nat) : Int) * ((a_list.length : Nat) : Int) ≤ 281474976710656 ∧ ((a_list.length : Nat) : Int) ≤ 281474976710656)) (some ((a_list.take (min a_list.length ((List.replicate ((a_list.length : Nat) : Int).toNat (((0 : Int), (0 : Int), (0 : Int), (0 : Int), ()) : DMapDone))).length) ++ (List.replicate ((a_list.length : Nat) : Int).toNat (((0 : Int), (0 : Int), (0 : Int), (0 : Int), ()) : DMapDone)).drop (min a_list.length ((List.replicate ((a_list.length : Nat) : Int).toNat (((0 : Int), (0 : Int), (0 : Int), (0 : Int), ()) : DMapDone))).length)), ())))) := by kernel_rfl
noncomputable def ac154 : ACode := acOf Try.prog 154
theorem gd154 : Good Try.prog (154, ac154, [.cell 2 true 6], 18) := ⟨_, Try.func154, by kernel_rfl, by kernel_rfl, by kernel_rfl, by kernel_rfl⟩
/- impl.mapCopy -/
def an154 : List (Nat × An) := [(7, .rows), (11, .rows), (15, .rows)]
def S154 : List (Skel × List (Option Nat × Skel)) := []
def ps154 : List PK := [⟨none, true, MapState, false⟩]
def rs154 : List PK := [⟨some .S, true, MapState, false⟩]
noncomputable def F154 := FN (tabC T181) an154 S154 ac154 [.cell 2 true 6] 18 false 1 ps154 rs154
noncomputable def T154 : List (FuncId × Ctr) := (154, ⟨true, false, 1, ps154, rs154, F154⟩) :: T181
theorem hT154 : AllC Try.prog T154 := AllC.fresh (an := an154) (S := S154) (ps := ps154) (rs := rs154) hT181 gd154 (by kernel_rfl)
noncomputable def G154 (a_m0 : Int) (a_m1 : Int) (a_m2 : Int) (a_m3 : List (DMapDisk)) (a_m4 : List (DMapView)) (a_m5 : List (DMapDone)) : Option (DMapState) := F154 (a_m0, a_m1, a_m2, a_m3, a_m4, a_m5, ())
theorem G154_eq (a_m0 : Int) (a_m1 : Int) (a_m2 : Int) (a_m3 : List (DMapDisk)) (a_m4 : List (DMapView)) (a_m5 : List (DMapDone)) : (G154 a_m0 a_m1 a_m2 a_m3 a_m4 a_m5) = ((G133 a_m3).bind fun (y1 : (List (DMapDisk)) × Unit) => ((G180 a_m4).bind fun (y2 : (List (DMapView)) × Unit) => ((G181 a_m5).bind fun (y3 : (List (DMapDone)) × Unit) => (some (a_m0, a_m1, a_m2, y1.1, y2.1, y3.1, ()))))) := by kernel_rfl
noncomputable def ac139 : ACode := acOf Try.prog 139
theorem gd139 : Good Try.prog (139, ac139, [.tmp 2], 24) := ⟨_, Try.func139, by kernel_rfl, by kernel_rfl, by kernel_rfl, by kernel_rfl⟩
/- impl.cmdNumbers -/
def an139 : List (Nat × An) := []
def S139 : List (Skel × List (Option Nat × Skel)) := []
def ps139 : List PK := [⟨none, true, Cmd, false⟩]
def rs139 : List PK := [⟨some .S, false, [(.sl [I])], false⟩]
noncomputable def F139 := FN (tabC T154) an139 S139 ac139 [.tmp 2] 24 false 1 ps139 rs139
noncomputable def T139 : List (FuncId × Ctr) := (139, ⟨true, false, 1, ps139, rs139, F139⟩) :: T154
theorem hT139 : AllC Try.prog T139 := AllC.fresh (an := an139) (S := S139) (ps := ps139) (rs := rs139) hT154 gd139 (by kernel_rfl)
noncomputable def G139 (a_c0 : Int) (a_c1 : Int) (a_c2 : Int) (a_c3 : Int) (a_c4 : Int) (a_c5 : Int) (a_c6 : Int) (a_c7 : Int) (a_c8 : Int) (a_c9 : Int) : Option ((List (Int × Unit)) × Unit) := F139 (a_c0, a_c1, a_c2, a_c3, a_c4, a_c5, a_c6, a_c7, a_c8, a_c9, ())
theorem G139_eq (a_c0 : Int) (a_c1 : Int) (a_c2 : Int) (a_c3 : Int) (a_c4 : Int) (a_c5 : Int) (a_c6 : Int) (a_c7 : Int) (a_c8 : Int) (a_c9 : Int) : (G139 a_c0 a_c1 a_c2 a_c3 a_c4 a_c5 a_c6 a_c7 a_c8 a_c9) = (some ([(a_c0, ()), (a_c1, ()), (a_c2, ()), (a_c3, ()), (a_c4, ()), (a_c5, ()), (a_c6, ()), (a_c7, ()), (a_c8, ()), (a_c9, ())], ())) := by kernel_rfl
noncomputable def ac84 : ACode := acOf Try.prog 84
theorem gd84 : Good Try.prog (84, ac84, [.tmp 2], 15) := ⟨_, Try.func84, by kernel_rfl, by kernel_rfl, by kernel_rfl, by kernel_rfl⟩
/- impl.numbersOk -/
def sk84_0 : Skel := ⟨mkE 15 [(5, .lst [I]), (6, .int .i64), (7, .int .i64)], [], [], 0⟩
def ou84_0 : List (Option Nat × Skel) := [(some 0, ⟨mkE 15 [], [], [], 0⟩), (none, ⟨mkE 15 [(2, .bool)], [], [], 0⟩)]
def an84 : List (Nat × An) := []
def S84 : List (Skel × List (Option Nat × Skel)) := [(sk84_0, ou84_0)]
def ps84 : List PK := [⟨none, false, [(.sl [I])], false⟩]
def rs84 : List PK := [⟨some .S, false, [.bool], false⟩]
noncomputable def F84 := FN (tabC T139) an84 S84 ac84 [.tmp 2] 15 false 1 ps84 rs84
noncomputable def T84 : List (FuncId × Ctr) := (84, ⟨true, false, 1, ps84, rs84, F84⟩) :: T139
theorem hT84 : AllC Try.prog T84 := AllC.fresh (an := an84) (S := S84) (ps := ps84) (rs := rs84) hT139 gd84 (by kernel_rfl)
noncomputable def lf84_0 : (List (Int × Unit)) × Int × Int × Unit → Option (Outs ou84_0) := lfp (vround (tabC T139) an84 (mkL (tabC T139) an84 [] (ac84.body 0)) (ac84.body 0) sk84_0 ou84_0)
noncomputable def lg84_0 (v_t5 : List (Int × Unit)) (v_t6 : Int) (v_t7 : Int) : Option (Sum (Unit) (Sum (Bool × Unit) (Empty))) := lf84_0 (v_t5, v_t6, v_t7, ())
theorem lg84_0_eq (v_t5 : List (Int × Unit)) (v_t6 : Int) (v_t7 : Int) : (lg84_0 v_t5 v_t6 v_t7) = (br (decide (v_t7 < v_t6)) (chk (decide (0 ≤ v_t7 ∧ v_t7 < ((v_t5.length : Nat) : Int))) (br (!(f64 ((v_t5.getD v_t7.toNat ((0 : Int), ())).1) (-1 : Int) (99999 : Int))) (some (.inr (.inl (false, ())))) (lg84_0 v_t5 v_t6 (IntKind.i64.wrap (v_t7 + (1 : Int)))))) (some (.inl (())))) :=
  (show lf84_0 (v_t5, v_t6, v_t7, ()) = _ from lfp_eq (fun x => vround_lin _ _ _ _ x) _).trans (by kernel_rfl)
noncomputable def G84 (a_list : List (Int × Unit)) : Option (Bool × Unit) := F84 (a_list, ())
theorem G84_eq (a_list : List (Int × Unit)) : (G84 a_list) = ((lg84_0 a_list ((a_list.length : Nat) : Int) (0 : Int)).bind fun o => match o with | .inl (y1 : Unit) => (some (true, ())) | .inr (.inl (y2 : Bool × Unit)) => (some (y2.1, ()))) := by kernel_rfl
noncomputable def ac81 : ACode := acOf Try.prog 81
theorem gd81 : Good Try.prog (81, ac81, [.tmp 2], 11) := ⟨_, Try.func81, by kernel_rfl, by kernel_rfl, by kernel_rfl, by kernel_rfl⟩
/- impl.cmdOk -/
def an81 : List (Nat × An) := []
def S81 : List (Skel × List (Option Nat × Skel)) := []
def ps81 : List PK := [⟨none, true, Cmd, false⟩]
def rs81 : List PK := [⟨some .S, false, [.bool], false⟩]
noncomputable def F81 := FN (tabC T84) an81 S81 ac81 [.tmp 2] 11 false 1 ps81 rs81
noncomputable def T81 : List (FuncId × Ctr) := (81, ⟨true, false, 1, ps81, rs81, F81⟩) :: T84
theorem hT81 : AllC Try.prog T81 := AllC.fresh (an := an81) (S := S81) (ps := ps81) (rs := rs81) hT84 gd81 (by kernel_rfl)
noncomputable def G81 (a_c0 : Int) (a_c1 : Int) (a_c2 : Int) (a_c3 : Int) (a_c4 : Int) (a_c5 : Int) (a_c6 : Int) (a_c7 : Int) (a_c8 : Int) (a_c9 : Int) : Option (Bool × Unit) := F81 (a_c0, a_c1, a_c2, a_c3, a_c4, a_c5, a_c6, a_c7, a_c8, a_c9, ())
theorem G81_eq (a_c0 : Int) (a_c1 : Int) (a_c2 : Int) (a_c3 : Int) (a_c4 : Int) (a_c5 : Int) (a_c6 : Int) (a_c7 : Int) (a_c8 : Int) (a_c9 : Int) : (G81 a_c0 a_c1 a_c2 a_c3 a_c4 a_c5 a_c6 a_c7 a_c8 a_c9) = (chk ((G139 a_c0 a_c1 a_c2 a_c3 a_c4 a_c5 a_c6 a_c7 a_c8 a_c9).isSome || (!(f64 a_c0 (0 : Int) (7 : Int)))) (chk ((G84 (((G139 a_c0 a_c1 a_c2 a_c3 a_c4 a_c5 a_c6 a_c7 a_c8 a_c9).getD ([], ())).1)).isSome || (!(f64 a_c0 (0 : Int) (7 : Int)))) (some (((f64 a_c0 (0 : Int) (7 : Int)) && ((G84 (((G139 a_c0 a_c1 a_c2 a_c3 a_c4 a_c5 a_c6 a_c7 a_c8 a_c9).getD ([], ())).1)).getD (false, ())).1), ())))) := by kernel_rfl
noncomputable def ac155 : ACode := acOf Try.prog 155
theorem gd155 : Good Try.prog (155, ac155, [.cell 4 true 6], 81) := ⟨_, Try.func155, by kernel_rfl, by kernel_rfl, by kernel_rfl, by kernel_rfl⟩
/- impl.doView -/
def an155 : List (Nat × An) := []
def S155 : List (Skel × List (Option Nat × Skel)) := []
def ps155 : List PK := [⟨some .A, true, MapState, false⟩, ⟨none, true, Cmd, false⟩]
def rs155 : List PK := [⟨some .A, true, MapState, false⟩]
noncomputable def F155 := FN (tabC T81) an155 S155 ac155 [.cell 4 true 6] 81 false 1 ps155 rs155
noncomputable def T155 : List (FuncId × Ctr) := (155, ⟨false, false, 1, ps155, rs155, F155⟩) :: T81
theorem hT155 : AllC Try.prog T155 := AllC.own (an := an155) (S := S155) (ps := ps155) (rs := rs155) hT81 gd155 (by kernel_rfl)
noncomputable def G155 (a_m0 : Int) (a_m1 : Int) (a_m2 : Int) (a_m3 : List (DMapDisk)) (a_m4 : List (DMapView)) (a_m5 : List (DMapDone)) (a_c0 : Int) (a_c1 : Int) (a_c2 : Int) (a_c3 : Int) (a_c4 : Int) (a_c5 : Int) (a_c6 : Int) (a_c7 : Int) (a_c8 : Int) (a_c9 : Int) : Option (DMapState) := F155 (a_m0, a_m1, a_m2, a_m3, a_m4, a_m5, a_c0, a_c1, a_c2, a_c3, a_c4, a_c5, a_c6, a_c7, a_c8, a_c9, ())
theorem G155_eq (a_m0 : Int) (a_m1 : Int) (a_m2 : Int) (a_m3 : List (DMapDisk)) (a_m4 : List (DMapView)) (a_m5 : List (DMapDone)) (a_c0 : Int) (a_c1 : Int) (a_c2 : Int) (a_c3 : Int) (a_c4 : Int) (a_c5 : Int) (a_c6 : Int) (a_c7 : Int) (a_c8 : Int) (a_c9 : Int) : (G155 a_m0 a_m1 a_m2 a_m3 a_m4 a_m5 a_c0 a_c1 a_c2 a_c3 a_c4 a_c5 a_c6 a_c7 a_c8 a_c9) = (br (!(f103 a_c6)) (some (a_m0, a_m1, a_m2, a_m3, a_m4, a_m5, ())) (chk (decide (0 ≤ a_c6 ∧ a_c6 < ((a_m4.length : Nat) : Int))) (let e1 : DMapView := (a_m4.getD a_c6.toNat ((0 : Int), (0 : Int), (0 : Int), ())); (br ((((((a_c7 != (IntKind.i64.wrap (e1.1 + (1 : Int)))) || (decide (a_c8 < (0 : Int)))) || ((a_c8 != e1.2.1) && (a_c8 != e1.2.2.1))) || (decide (a_c9 ≥ a_m1))) || (a_c9 == a_c8)) || ((decide (a_c9 ≥ (0 : Int))) && (decide (e1.2.2.1 ≥ (0 : Int))))) (some (a_m0, a_m1, a_m2, a_m3, a_m4, a_m5, ())) (chk (decide (0 ≤ a_c6 ∧ a_c6 < ((a_m4.length : Nat) : Int))) (some (a_m0, a_m1, a_m2, a_m3, (a_m4.set a_c6.toNat (a_c7, a_c8, (if a_c9 > (-1 : Int) then a_c9 else (-1 : Int)), ())), a_m5, ()))))))) := by kernel_rfl
noncomputable def ac183 : ACode := acOf Try.prog 183
theorem gd183 : Good Try.prog (183, ac183, [.cell 4 true 4], 21) := ⟨_, Try.func183, by kernel_rfl, by kernel_rfl, by kernel_rfl, by kernel_rfl⟩
/- impl.doneOf -/
def sk183_0 : Skel := ⟨mkE 21 [(1, .int .i64), (4, .box 1 0), (8, .lst MapDone), (9, .int .i64), (10, .int .i64)], [none, some [.int .i64, .int .i64, .int .i64, .int .i64]], [], 0⟩
def ou183_0 : List (Option Nat × Skel) := [(some 0, ⟨mkE 21 [(4, .box 1 0)], [none, some [.int .i64, .int .i64, .int .i64, .int .i64]], [], 0⟩), (none, ⟨mkE 21 [(4, .box 1 0)], [none, some [.int .i64, .int .i64, .int .i64, .int .i64]], [], 0⟩)]
def an183 : List (Nat × An) := []
def S183 : List (Skel × List (Option Nat × Skel)) := [(sk183_0, ou183_0)]
def ps183 : List PK := [⟨none, true, MapState, false⟩, ⟨none, false, [I], false⟩]
def rs183 : List PK := [⟨some .S, true, MapDone, false⟩]
noncomputable def F183 := FN (tabC T155) an183 S183 ac183 [.cell 4 true 4] 21 false 1 ps183 rs183
noncomputable def T183 : List (FuncId × Ctr) := (183, ⟨true, false, 1, ps183, rs183, F183⟩) :: T155
theorem hT183 : AllC Try.prog T183 := AllC.fresh (an := an183) (S := S183) (ps := ps183) (rs := rs183) hT155 gd183 (by kernel_rfl)
noncomputable def lf183_0 : Int × (List (DMapDone)) × Int × Int × Int × Int × Int × Int × Unit → Option (Outs ou183_0) := lfp (vround (tabC T155) an183 (mkL (tabC T155) an183 [] (ac183.body 0)) (ac183.body 0) sk183_0 ou183_0)
noncomputable def lg183_0 (v_client : Int) (v_t8 : List (DMapDone)) (v_t9 : Int) (v_t10 : Int) (v_b1_0 : Int) (v_b1_1 : Int) (v_b1_2 : Int) (v_b1_3 : Int) : Option (Sum (DMapDone) (Sum (DMapDone) (Empty))) := lf183_0 (v_client, v_t8, v_t9, v_t10, v_b1_0, v_b1_1, v_b1_2, v_b1_3, ())
theorem lg183_0_eq (v_client : Int) (v_t8 : List (DMapDone)) (v_t9 : Int) (v_t10 : Int) (v_b1_0 : Int) (v_b1_1 : Int) (v_b1_2 : Int) (v_b1_3 : Int) : (lg183_0 v_client v_t8 v_t9 v_t10 v_b1_0 v_b1_1 v_b1_2 v_b1_3) = (br (decide (v_t10 < v_t9)) (chk (decide (0 ≤ v_t10 ∧ v_t10 < ((v_t8.length : Nat) : Int))) (let e1 : DMapDone := (v_t8.getD v_t10.toNat ((0 : Int), (0 : Int), (0 : Int), (0 : Int), ())); (br (e1.1 == v_client) (some (.inr (.inl (e1.1, e1.2.1, e1.2.2.1, e1.2.2.2.1, ())))) (lg183_0 v_client v_t8 v_t9 (IntKind.i64.wrap (v_t10 + (1 : Int))) v_b1_0 v_b1_1 v_b1_2 v_b1_3)))) (some (.inl (v_b1_0, v_b1_1, v_b1_2, v_b1_3, ())))) :=
  (show lf183_0 (v_client, v_t8, v_t9, v_t10, v_b1_0, v_b1_1, v_b1_2, v_b1_3, ()) = _ from lfp_eq (fun x => vround_lin _ _ _ _ x) _).trans (by kernel_rfl)
noncomputable def G183 (a_m0 : Int) (a_m1 : Int) (a_m2 : Int) (a_m3 : List (DMapDisk)) (a_m4 : List (DMapView)) (a_m5 : List (DMapDone)) (a_client : Int) : Option (DMapDone) := F183 (a_m0, a_m1, a_m2, a_m3, a_m4, a_m5, a_client, ())
theorem G183_eq (a_m0 : Int) (a_m1 : Int) (a_m2 : Int) (a_m3 : List (DMapDisk)) (a_m4 : List (DMapView)) (a_m5 : List (DMapDone)) (a_client : Int) : (G183 a_m0 a_m1 a_m2 a_m3 a_m4 a_m5 a_client) = ((lg183_0 a_client a_m5 ((a_m5.length : Nat) : Int) (0 : Int) (0 : Int) (0 : Int) (0 : Int) (0 : Int)).bind fun o => match o with | .inl (y2 : DMapDone) => (some ((0 : Int), (0 : Int), (0 : Int), (0 : Int), ())) | .inr (.inl (y3 : DMapDone)) => (some (y3.1, y3.2.1, y3.2.2.1, y3.2.2.2.1, ()))) := by kernel_rfl
noncomputable def ac184 : ACode := acOf Try.prog 184
theorem gd184 : Good Try.prog (184, ac184, [.cell 4 true 6], 48) := ⟨_, Try.func184, by kernel_rfl, by kernel_rfl, by kernel_rfl, by kernel_rfl⟩
/- impl.tell -/
def sk184_0 : Skel := ⟨mkE 48 [(2, .box 0 0), (3, .box 1 0), (4, .box 2 0), (5, .ref 4), (6, .bool), (10, .ref 2), (11, .int .i64), (12, .int .i64)], [some [.int .i64, .int .i64, .int .i64, .ref 0, .ref 1, .ref 2], some [.int .i64, .int .i64, .int .i64, .int .i64], some [.int .i64, .int .i64, .int .i64, .nil, .nil, .nil]], [some (.m .A, MapDisk), some (.m .Z, MapView), some (.m .Z, MapDone), none, some (.m .Z, MapDone)], 0⟩
def ou184_0 : List (Option Nat × Skel) := [(some 0, ⟨mkE 48 [(2, .box 0 0), (3, .box 1 0), (4, .box 2 0), (5, .ref 4), (6, .bool)], [some [.int .i64, .int .i64, .int .i64, .ref 0, .ref 1, .ref 2], some [.int .i64, .int .i64, .int .i64, .int .i64], some [.int .i64, .int .i64, .int .i64, .nil, .nil, .nil]], [some (.m .A, MapDisk), some (.m .Z, MapView), some (.m .Z, MapDone), none, some (.m .Z, MapDone)], 0⟩)]
def an184 : List (Nat × An) := []
def S184 : List (Skel × List (Option Nat × Skel)) := [(sk184_0, ou184_0)]
def ps184 : List PK := [⟨some .A, true, MapState, false⟩, ⟨none, true, MapDone, false⟩]
def rs184 : List PK := [⟨some .A, true, MapState, false⟩]
noncomputable def F184 := FN (tabC T183) an184 S184 ac184 [.cell 4 true 6] 48 false 1 ps184 rs184
noncomputable def T184 : List (FuncId × Ctr) := (184, ⟨false, false, 1, ps184, rs184, F184⟩) :: T183
theorem hT184 : AllC Try.prog T184 := AllC.own (an := an184) (S := S184) (ps := ps184) (rs := rs184) hT183 gd184 (by kernel_rfl)
noncomputable def lf184_0 : Bool × Int × Int × Int × Int × Int × Int × Int × Int × Int × Int × Int × Int × (List (DMapDisk)) × (List (DMapView)) × (List (DMapDone)) × (List (DMapDone)) × Unit → Option (Outs ou184_0) := lfp (vround (tabC T183) an184 (mkL (tabC T183) an184 [] (ac184.body 0)) (ac184.body 0) sk184_0 ou184_0)
noncomputable def lg184_0 (v_put : Bool) (v_t11 : Int) (v_t12 : Int) (v_b0_0 : Int) (v_b0_1 : Int) (v_b0_2 : Int) (v_b1_0 : Int) (v_b1_1 : Int) (v_b1_2 : Int) (v_b1_3 : Int) (v_b2_0 : Int) (v_b2_1 : Int) (v_b2_2 : Int) (v_r0 : List (DMapDisk)) (v_r1 : List (DMapView)) (v_r2 : List (DMapDone)) (v_r4 : List (DMapDone)) : Option (Sum (Bool × Int × Int × Int × Int × Int × Int × Int × Int × Int × Int × (List (DMapDisk)) × (List (DMapView)) × (List (DMapDone)) × (List (DMapDone)) × Unit) (Empty)) := lf184_0 (v_put, v_t11, v_t12, v_b0_0, v_b0_1, v_b0_2, v_b1_0, v_b1_1, v_b1_2, v_b1_3, v_b2_0, v_b2_1, v_b2_2, v_r0, v_r1, v_r2, v_r4, ())
theorem lg184_0_eq (v_put : Bool) (v_t11 : Int) (v_t12 : Int) (v_b0_0 : Int) (v_b0_1 : Int) (v_b0_2 : Int) (v_b1_0 : Int) (v_b1_1 : Int) (v_b1_2 : Int) (v_b1_3 : Int) (v_b2_0 : Int) (v_b2_1 : Int) (v_b2_2 : Int) (v_r0 : List (DMapDisk)) (v_r1 : List (DMapView)) (v_r2 : List (DMapDone)) (v_r4 : List (DMapDone)) : (lg184_0 v_put v_t11 v_t12 v_b0_0 v_b0_1 v_b0_2 v_b1_0 v_b1_1 v_b1_2 v_b1_3 v_b2_0 v_b2_1 v_b2_2 v_r0 v_r1 v_r2 v_r4) = (br (decide (v_t12 < v_t11)) (chk (decide (0 ≤ v_t12 ∧ v_t12 < ((v_r2.length : Nat) : Int))) (let e1 : DMapDone := (v_r2.getD v_t12.toNat ((0 : Int), (0 : Int), (0 : Int), (0 : Int), ())); (let k6 := fun (v2 : Bool) (v3 : List (DMapDone)) => (let k5 := fun (v4 : List (DMapDone)) => (lg184_0 v2 v_t11 (IntKind.i64.wrap (v_t12 + (1 : Int))) v_b0_0 v_b0_1 v_b0_2 v_b1_0 v_b1_1 v_b1_2 v_b1_3 v_b2_0 v_b2_1 v_b2_2 v_r0 v_r1 v_r2 v4); (br (e1.1 != v_b1_0) (chk (capOk (v3.length + (1)) 32) (k5 (v3 ++ [(e1.1, e1.2.1, e1.2.2.1, e1.2.2.2.1, ())]))) (k5 v3))); (br ((!v_put) && (decide (e1.1 ≥ v_b1_0))) (chk (capOk (v_r4.length + (1)) 32) (k6 true (v_r4 ++ [(v_b1_0, v_b1_1, v_b1_2, v_b1_3, ())]))) (k6 v_put v_r4))))) (some (.inl (v_put, v_b0_0, v_b0_1, v_b0_2, v_b1_0, v_b1_1, v_b1_2, v_b1_3, v_b2_0, v_b2_1, v_b2_2, v_r0, v_r1, v_r2, v_r4, ())))) :=
  (show lf184_0 (v_put, v_t11, v_t12, v_b0_0, v_b0_1, v_b0_2, v_b1_0, v_b1_1, v_b1_2, v_b1_3, v_b2_0, v_b2_1, v_b2_2, v_r0, v_r1, v_r2, v_r4, ()) = _ from lfp_eq (fun x => vround_lin _ _ _ _ x) _).trans (by kernel_rfl)
noncomputable def G184 (a_m0 : Int) (a_m1 : Int) (a_m2 : Int) (a_m3 : List (DMapDisk)) (a_m4 : List (DMapView)) (a_m5 : List (DMapDone)) (a_d0 : Int) (a_d1 : Int) (a_d2 : Int) (a_d3 : Int) : Option (DMapState) := F184 (a_m0, a_m1, a_m2, a_m3, a_m4, a_m5, a_d0, a_d1, a_d2, a_d3, ())
theorem G184_eq (a_m0 : Int) (a_m1 : Int) (a_m2 : Int) (a_m3 : List (DMapDisk)) (a_m4 : List (DMapView)) (a_m5 : List (DMapDone)) (a_d0 : Int) (a_d1 : Int) (a_d2 : Int) (a_d3 : Int) : (G184 a_m0 a_m1 a_m2 a_m3 a_m4 a_m5 a_d0 a_d1 a_d2 a_d3) = ((lg184_0 false ((a_m5.length : Nat) : Int) (0 : Int) a_m0 a_m1 a_m2 a_d0 a_d1 a_d2 a_d3 (0 : Int) (0 : Int) (0 : Int) a_m3 a_m4 a_m5 []).bind fun o => match o with | .inl (y7 : Bool × Int × Int × Int × Int × Int × Int × Int × Int × Int × Int × (List (DMapDisk)) × (List (DMapView)) × (List (DMapDone)) × (List (DMapDone)) × Unit) => (br (!y7.1) (chk (capOk (y7.2.2.2.2.2.2.2.2.2.2.2.2.2.2.1.length + (1)) 32) (some (y7.2.1, y7.2.2.1, y7.2.2.2.1, y7.2.2.2.2.2.2.2.2.2.2.2.1, y7.2.2.2.2.2.2.2.2.2.2.2.2.1, (y7.2.2.2.2.2.2.2.2.2.2.2.2.2.2.1 ++ [(y7.2.2.2.2.1, y7.2.2.2.2.2.1, y7.2.2.2.2.2.2.1, y7.2.2.2.2.2.2.2.1, ())]), ()))) (some (y7.2.1, y7.2.2.1, y7.2.2.2.1, y7.2.2.2.2.2.2.2.2.2.2.2.1, y7.2.2.2.2.2.2.2.2.2.2.2.2.1, y7.2.2.2.2.2.2.2.2.2.2.2.2.2.2.1, ())))) := by kernel_rfl
noncomputable def ac156 : ACode := acOf Try.prog 156
theorem gd156 : Good Try.prog (156, ac156, [.cell 4 true 6], 120) := ⟨_, Try.func156, by kernel_rfl, by kernel_rfl, by kernel_rfl, by kernel_rfl⟩
/- impl.doAck -/
def an156 : List (Nat × An) := []
def S156 : List (Skel × List (Option Nat × Skel)) := []
def ps156 : List PK := [⟨some .S, true, MapState, false⟩, ⟨none, true, Cmd, false⟩]
def rs156 : List PK := [⟨some .A, true, MapState, false⟩]
noncomputable def F156 := FN (tabC T184) an156 S156 ac156 [.cell 4 true 6] 120 false 1 ps156 rs156
noncomputable def T156 : List (FuncId × Ctr) := (156, ⟨false, false, 1, ps156, rs156, F156⟩) :: T184
theorem hT156 : AllC Try.prog T156 := AllC.own (an := an156) (S := S156) (ps := ps156) (rs := rs156) hT184 gd156 (by kernel_rfl)
noncomputable def G156 (a_m0 : Int) (a_m1 : Int) (a_m2 : Int) (a_m3 : List (DMapDisk)) (a_m4 : List (DMapView)) (a_m5 : List (DMapDone)) (a_c0 : Int) (a_c1 : Int) (a_c2 : Int) (a_c3 : Int) (a_c4 : Int) (a_c5 : Int) (a_c6 : Int) (a_c7 : Int) (a_c8 : Int) (a_c9 : Int) : Option (DMapState) := F156 (a_m0, a_m1, a_m2, a_m3, a_m4, a_m5, a_c0, a_c1, a_c2, a_c3, a_c4, a_c5, a_c6, a_c7, a_c8, a_c9, ())
theorem G156_eq (a_m0 : Int) (a_m1 : Int) (a_m2 : Int) (a_m3 : List (DMapDisk)) (a_m4 : List (DMapView)) (a_m5 : List (DMapDone)) (a_c0 : Int) (a_c1 : Int) (a_c2 : Int) (a_c3 : Int) (a_c4 : Int) (a_c5 : Int) (a_c6 : Int) (a_c7 : Int) (a_c8 : Int) (a_c9 : Int) : (G156 a_m0 a_m1 a_m2 a_m3 a_m4 a_m5 a_c0 a_c1 a_c2 a_c3 a_c4 a_c5 a_c6 a_c7 a_c8 a_c9) = ((G131 a_m3 a_c3).bind fun (y1 : Int × Unit) => (br ((decide (y1.1 < (0 : Int))) || (!(f103 a_c6))) (some (a_m0, a_m1, a_m2, a_m3, a_m4, a_m5, ())) (chk (decide (0 ≤ y1.1 ∧ y1.1 < ((a_m3.length : Nat) : Int))) (let e2 : DMapDisk := (a_m3.getD y1.1.toNat ((0 : Int), (0 : Int), (0 : Int), (0 : Int), (0 : Int), (0 : Int), [], ())); (chk ((decide (0 ≤ a_c6 ∧ a_c6 < ((a_m4.length : Nat) : Int))) || (!(!((e2.2.2.2.1 == (0 : Int)) || (e2.2.2.1 != a_c5))))) (let e3 : DMapView := (a_m4.getD a_c6.toNat ((0 : Int), (0 : Int), (0 : Int), ())); (chk ((G182 e2.2.2.2.2.2.2.1 a_c6).isSome || (!(!(((e2.2.2.2.1 == (0 : Int)) || (e2.2.2.1 != a_c5)) || (e3.1 != a_c7))))) (br ((((e2.2.2.2.1 == (0 : Int)) || (e2.2.2.1 != a_c5)) || (e3.1 != a_c7)) || ((G182 e2.2.2.2.2.2.2.1 a_c6).getD (false, ())).1) (some (a_m0, a_m1, a_m2, a_m3, a_m4, a_m5, ())) (chk (capOk (e2.2.2.2.2.2.2.1.length + (1)) 8) (br (decide (((((e2.2.2.2.2.2.2.1 ++ [(a_c6, ())])).length : Nat) : Int) < (3 : Int))) (chk (decide (0 ≤ y1.1 ∧ y1.1 < ((a_m3.length : Nat) : Int))) (chk (decide (y1.1 = y1.1)) (some (a_m0, a_m1, a_m2, (a_m3.set y1.1.toNat (e2.1, e2.2.1, e2.2.2.1, e2.2.2.2.1, e2.2.2.2.2.1, e2.2.2.2.2.2.1, (e2.2.2.2.2.2.2.1 ++ [(a_c6, ())]), ())), a_m4, a_m5, ())))) (let k8 := fun (v4 : Int) (v5 : List (DMapDisk)) => ((G183 a_m0 a_m1 a_m2 v5 a_m4 a_m5 e2.2.2.2.2.1).bind fun (y6 : DMapDone) => (br (decide (y6.2.1 > e2.2.2.2.2.2.1)) (some (a_m0, a_m1, a_m2, v5, a_m4, a_m5, ())) ((G184 a_m0 a_m1 a_m2 v5 a_m4 a_m5 e2.2.2.2.2.1 e2.2.2.2.2.2.1 (0 : Int) v4).bind fun (y7 : DMapState) => (some (y7.1, y7.2.1, y7.2.2.1, y7.2.2.2.1, y7.2.2.2.2.1, y7.2.2.2.2.2.1, ()))))); (br (e2.2.2.2.1 == (1 : Int)) (chk (decide (0 ≤ y1.1 ∧ y1.1 < ((a_m3.length : Nat) : Int))) (chk (decide (y1.1 = y1.1)) (k8 e2.2.2.1 (a_m3.set y1.1.toNat (e2.1, e2.2.1, (IntKind.i64.wrap (e2.2.2.1 + (1 : Int))), (0 : Int), (0 : Int), (0 : Int), [], ()))))) (chk (decide (0 ≤ (0 : Int) ∧ (0 : Int) ≤ y1.1 ∧ y1.1 ≤ ((a_m3.length : Nat) : Int))) (chk (decide (0 ≤ (IntKind.i64.wrap (y1.1 + (1 : Int))) ∧ (IntKind.i64.wrap (y1.1 + (1 : Int))) ≤ ((a_m3.length : Nat) : Int) ∧ ((a_m3.length : Nat) : Int) ≤ ((a_m3.length : Nat) : Int))) (chk (decide ((0 : Int) = 0)) (chk (decide (y1.1 ≤ y1.1)) (chk (decide (y1.1 < (IntKind.i64.wrap (y1.1 + (1 : Int))))) (chk (capOk (y1.1.toNat + (((a_m3.take ((a_m3.length : Nat) : Int).toNat).drop (IntKind.i64.wrap (y1.1 + (1 : Int))).toNat)).length) 72) (k8 (0 : Int) (a_m3.take y1.1.toNat ++ ((a_m3.take ((a_m3.length : Nat) : Int).toNat).drop (IntKind.i64.wrap (y1.1 + (1 : Int))).toNat))))))))))))))))))))) := by kernel_rfl
noncomputable def ac185 : ACode := acOf Try.prog 185
theorem gd185 : Good Try.prog (185, ac185, [.tmp 6], 56) := ⟨_, Try.func185, by kernel_rfl, by kernel_rfl, by kernel_rfl, by kernel_rfl⟩
/- impl.past -/
def sk185_0 : Skel := ⟨mkE 56 [(1, .int .i64), (2, .int .i64), (34, .lst MapDisk), (35, .int .i64), (36, .int .i64)], [], [], 0⟩
def ou185_0 : List (Option Nat × Skel) := [(some 0, ⟨mkE 56 [], [], [], 0⟩), (none, ⟨mkE 56 [(6, .bool)], [], [], 0⟩)]
def an185 : List (Nat × An) := []
def S185 : List (Skel × List (Option Nat × Skel)) := [(sk185_0, ou185_0)]
def ps185 : List PK := [⟨none, true, MapState, false⟩, ⟨none, false, [I], false⟩, ⟨none, false, [I], false⟩]
def rs185 : List PK := [⟨some .S, false, [.bool], false⟩]
noncomputable def F185 := FN (tabC T156) an185 S185 ac185 [.tmp 6] 56 false 1 ps185 rs185
noncomputable def T185 : List (FuncId × Ctr) := (185, ⟨true, false, 1, ps185, rs185, F185⟩) :: T156
theorem hT185 : AllC Try.prog T185 := AllC.fresh (an := an185) (S := S185) (ps := ps185) (rs := rs185) hT156 gd185 (by kernel_rfl)
noncomputable def lf185_0 : Int × Int × (List (DMapDisk)) × Int × Int × Unit → Option (Outs ou185_0) := lfp (vround (tabC T156) an185 (mkL (tabC T156) an185 [] (ac185.body 0)) (ac185.body 0) sk185_0 ou185_0)
noncomputable def lg185_0 (v_client : Int) (v_call : Int) (v_t34 : List (DMapDisk)) (v_t35 : Int) (v_t36 : Int) : Option (Sum (Unit) (Sum (Bool × Unit) (Empty))) := lf185_0 (v_client, v_call, v_t34, v_t35, v_t36, ())
theorem lg185_0_eq (v_client : Int) (v_call : Int) (v_t34 : List (DMapDisk)) (v_t35 : Int) (v_t36 : Int) : (lg185_0 v_client v_call v_t34 v_t35 v_t36) = (br (decide (v_t36 < v_t35)) (chk (decide (0 ≤ v_t36 ∧ v_t36 < ((v_t34.length : Nat) : Int))) (let e2 : DMapDisk := (v_t34.getD v_t36.toNat ((0 : Int), (0 : Int), (0 : Int), (0 : Int), (0 : Int), (0 : Int), [], ())); (br (((e2.2.2.2.1 != (0 : Int)) && (e2.2.2.2.2.1 == v_client)) && (decide (e2.2.2.2.2.2.1 ≥ v_call))) (some (.inr (.inl (true, ())))) (lg185_0 v_client v_call v_t34 v_t35 (IntKind.i64.wrap (v_t36 + (1 : Int))))))) (some (.inl (())))) :=
  (show lf185_0 (v_client, v_call, v_t34, v_t35, v_t36, ()) = _ from lfp_eq (fun x => vround_lin _ _ _ _ x) _).trans (by kernel_rfl)
noncomputable def G185 (a_m0 : Int) (a_m1 : Int) (a_m2 : Int) (a_m3 : List (DMapDisk)) (a_m4 : List (DMapView)) (a_m5 : List (DMapDone)) (a_client : Int) (a_call : Int) : Option (Bool × Unit) := F185 (a_m0, a_m1, a_m2, a_m3, a_m4, a_m5, a_client, a_call, ())
theorem G185_eq (a_m0 : Int) (a_m1 : Int) (a_m2 : Int) (a_m3 : List (DMapDisk)) (a_m4 : List (DMapView)) (a_m5 : List (DMapDone)) (a_client : Int) (a_call : Int) : (G185 a_m0 a_m1 a_m2 a_m3 a_m4 a_m5 a_client a_call) = ((G183 a_m0 a_m1 a_m2 a_m3 a_m4 a_m5 a_client).bind fun (y1 : DMapDone) => (br ((decide (y1.2.1 > (0 : Int))) && ((decide (y1.2.1 > a_call)) || ((y1.2.1 == a_call) && (y1.2.2.1 != (6 : Int))))) (some (true, ())) ((lg185_0 a_client a_call a_m3 ((a_m3.length : Nat) : Int) (0 : Int)).bind fun o => match o with | .inl (y3 : Unit) => (some (false, ())) | .inr (.inl (y4 : Bool × Unit)) => (some (y4.1, ()))))) := by kernel_rfl
noncomputable def ac157 : ACode := acOf Try.prog 157
theorem gd157 : Good Try.prog (157, ac157, [.cell 4 true 6], 154) := ⟨_, Try.func157, by kernel_rfl, by kernel_rfl, by kernel_rfl, by kernel_rfl⟩
/- impl.doCall -/
def an157 : List (Nat × An) := [(88, .ty MapDisk)]
def S157 : List (Skel × List (Option Nat × Skel)) := []
def ps157 : List PK := [⟨some .A, true, MapState, false⟩, ⟨none, true, Cmd, false⟩]
def rs157 : List PK := [⟨some .A, true, MapState, false⟩]
noncomputable def F157 := FN (tabC T185) an157 S157 ac157 [.cell 4 true 6] 154 false 1 ps157 rs157
noncomputable def T157 : List (FuncId × Ctr) := (157, ⟨false, false, 1, ps157, rs157, F157⟩) :: T185
theorem hT157 : AllC Try.prog T157 := AllC.own (an := an157) (S := S157) (ps := ps157) (rs := rs157) hT185 gd157 (by kernel_rfl)
noncomputable def G157 (a_x0 : Int) (a_x1 : Int) (a_x2 : Int) (a_x3 : List (DMapDisk)) (a_x4 : List (DMapView)) (a_x5 : List (DMapDone)) (a_a0 : Int) (a_a1 : Int) (a_a2 : Int) (a_a3 : Int) (a_a4 : Int) (a_a5 : Int) (a_a6 : Int) (a_a7 : Int) (a_a8 : Int) (a_a9 : Int) : Option (DMapState) := F157 (a_x0, a_x1, a_x2, a_x3, a_x4, a_x5, a_a0, a_a1, a_a2, a_a3, a_a4, a_a5, a_a6, a_a7, a_a8, a_a9, ())
theorem G157_eq (a_x0 : Int) (a_x1 : Int) (a_x2 : Int) (a_x3 : List (DMapDisk)) (a_x4 : List (DMapView)) (a_x5 : List (DMapDone)) (a_a0 : Int) (a_a1 : Int) (a_a2 : Int) (a_a3 : Int) (a_a4 : Int) (a_a5 : Int) (a_a6 : Int) (a_a7 : Int) (a_a8 : Int) (a_a9 : Int) : (G157 a_x0 a_x1 a_x2 a_x3 a_x4 a_x5 a_a0 a_a1 a_a2 a_a3 a_a4 a_a5 a_a6 a_a7 a_a8 a_a9) = (chk ((G185 a_x0 a_x1 a_x2 a_x3 a_x4 a_x5 a_a1 a_a2).isSome || (!(!((!(f143 a_a1)) || (decide (a_a2 < (1 : Int))))))) (br (((!(f143 a_a1)) || (decide (a_a2 < (1 : Int)))) || ((G185 a_x0 a_x1 a_x2 a_x3 a_x4 a_x5 a_a1 a_a2).getD (false, ())).1) (some (a_x0, a_x1, a_x2, a_x3, a_x4, a_x5, ())) ((G131 a_x3 a_a3).bind fun (y1 : Int × Unit) => (br (a_a0 == (1 : Int)) (br ((!(f64 a_a4 (1 : Int) (8 : Int))) || (decide (a_x2 > (4 : Int)))) ((G184 a_x0 a_x1 a_x2 a_x3 a_x4 a_x5 a_a1 a_a2 (4 : Int) (0 : Int)).bind fun (y2 : DMapState) => (some (y2.1, y2.2.1, y2.2.2.1, y2.2.2.2.1, y2.2.2.2.2.1, y2.2.2.2.2.2.1, ()))) (chk (capOk (a_x3.length + (1)) 72) ((G184 a_x0 a_x1 (IntKind.i64.wrap (a_x2 + (1 : Int))) (a_x3 ++ [(a_x2, a_a4, (1 : Int), (0 : Int), (0 : Int), (0 : Int), [], ())]) a_x4 a_x5 a_a1 a_a2 (0 : Int) a_x2).bind fun (y22 : DMapState) => (some (y22.1, y22.2.1, y22.2.2.1, y22.2.2.2.1, y22.2.2.2.2.1, y22.2.2.2.2.2.1, ()))))) (let k21 := fun (v3 : Bool) => (let k20 := fun (v17 : Int) (v18 : Int) (v19 : Int) => ((G184 a_x0 v19 a_x2 a_x3 a_x4 a_x5 a_a1 a_a2 v17 v18).bind fun (y23 : DMapState) => (some (y23.1, y23.2.1, y23.2.2.1, y23.2.2.2.1, y23.2.2.2.2.1, y23.2.2.2.2.2.1, ()))); (br v3 (br (decide (y1.1 < (0 : Int))) (k20 (1 : Int) (0 : Int) a_x1) (chk (decide (0 ≤ y1.1 ∧ y1.1 < ((a_x3.length : Nat) : Int))) (let e4 : DMapDisk := (a_x3.getD y1.1.toNat ((0 : Int), (0 : Int), (0 : Int), (0 : Int), (0 : Int), (0 : Int), [], ())); (br (e4.2.2.2.1 != (0 : Int)) (k20 (5 : Int) (0 : Int) a_x1) (chk (decide (0 ≤ y1.1 ∧ y1.1 < ((a_x3.length : Nat) : Int))) (let e5 : DMapDisk := (a_x3.getD y1.1.toNat ((0 : Int), (0 : Int), (0 : Int), (0 : Int), (0 : Int), (0 : Int), [], ())); (let k7 := fun (v6 : Int) => (chk (decide (0 ≤ y1.1 ∧ y1.1 < ((a_x3.length : Nat) : Int))) (some (a_x0, a_x1, a_x2, (a_x3.set y1.1.toNat (e5.1, e5.2.1, e5.2.2.1, v6, a_a1, a_a2, [], ())), a_x4, a_x5, ()))); (br (a_a0 == (3 : Int)) (k7 (2 : Int)) (k7 (1 : Int)))))))))) (let k16 := fun (v13 : Int) (v14 : Int) (v15 : Int) => (k20 v13 v14 v15); (br (a_a0 == (4 : Int)) (br (a_x1 == (5 : Int)) ((G184 a_x0 a_x1 a_x2 a_x3 a_x4 a_x5 a_a1 a_a2 (4 : Int) (0 : Int)).bind fun (y9 : DMapState) => (some (y9.1, y9.2.1, y9.2.2.1, y9.2.2.2.1, y9.2.2.2.2.1, y9.2.2.2.2.2.1, ()))) (k16 (0 : Int) (IntKind.i64.wrap (a_x1 + (1 : Int))) (IntKind.i64.wrap (a_x1 + (1 : Int))))) (chk ((decide (0 ≤ a_a6 ∧ a_a6 < ((a_x4.length : Nat) : Int))) || (!((a_a8 == (1 : Int)) && (!(!(f103 a_a6)))))) (let e10 : DMapView := (a_x4.getD a_a6.toNat ((0 : Int), (0 : Int), (0 : Int), ())); (br ((a_a8 == (1 : Int)) && ((!(f103 a_a6)) || (e10.1 != a_a7))) (some (a_x0, a_x1, a_x2, a_x3, a_x4, a_x5, ())) ((G105 a_x3 a_a3 a_a4 a_a5 (a_a8 == (1 : Int))).bind fun (y11 : Int × Unit) => (br (y11.1 == (0 : Int)) (k16 (6 : Int) (0 : Int) a_x1) (k16 y11.1 (0 : Int) a_x1)))))))))); (br (a_a0 == (2 : Int)) (k21 (a_a0 == (2 : Int))) (k21 (a_a0 == (3 : Int))))))))) := by kernel_rfl
noncomputable def ac108 : ACode := acOf Try.prog 108
theorem gd108 : Good Try.prog (108, ac108, [.cell 4 true 6], 40) := ⟨_, Try.func108, by kernel_rfl, by kernel_rfl, by kernel_rfl, by kernel_rfl⟩
/- impl.mapDo -/
def an108 : List (Nat × An) := [(7, .rows), (39, .rows)]
def S108 : List (Skel × List (Option Nat × Skel)) := []
def ps108 : List PK := [⟨none, true, MapState, false⟩, ⟨none, true, Cmd, false⟩]
def rs108 : List PK := [⟨some .S, true, MapState, false⟩]
noncomputable def F108 := FN (tabC T157) an108 S108 ac108 [.cell 4 true 6] 40 false 1 ps108 rs108
noncomputable def T108 : List (FuncId × Ctr) := (108, ⟨true, false, 1, ps108, rs108, F108⟩) :: T157
theorem hT108 : AllC Try.prog T108 := AllC.fresh (an := an108) (S := S108) (ps := ps108) (rs := rs108) hT157 gd108 (by kernel_rfl)
noncomputable def G108 (a_m0 : Int) (a_m1 : Int) (a_m2 : Int) (a_m3 : List (DMapDisk)) (a_m4 : List (DMapView)) (a_m5 : List (DMapDone)) (a_c0 : Int) (a_c1 : Int) (a_c2 : Int) (a_c3 : Int) (a_c4 : Int) (a_c5 : Int) (a_c6 : Int) (a_c7 : Int) (a_c8 : Int) (a_c9 : Int) : Option (DMapState) := F108 (a_m0, a_m1, a_m2, a_m3, a_m4, a_m5, a_c0, a_c1, a_c2, a_c3, a_c4, a_c5, a_c6, a_c7, a_c8, a_c9, ())
theorem G108_eq (a_m0 : Int) (a_m1 : Int) (a_m2 : Int) (a_m3 : List (DMapDisk)) (a_m4 : List (DMapView)) (a_m5 : List (DMapDone)) (a_c0 : Int) (a_c1 : Int) (a_c2 : Int) (a_c3 : Int) (a_c4 : Int) (a_c5 : Int) (a_c6 : Int) (a_c7 : Int) (a_c8 : Int) (a_c9 : Int) : (G108 a_m0 a_m1 a_m2 a_m3 a_m4 a_m5 a_c0 a_c1 a_c2 a_c3 a_c4 a_c5 a_c6 a_c7 a_c8 a_c9) = ((G154 a_m0 a_m1 a_m2 a_m3 a_m4 a_m5).bind fun (y1 : DMapState) => ((G81 a_c0 a_c1 a_c2 a_c3 a_c4 a_c5 a_c6 a_c7 a_c8 a_c9).bind fun (y2 : Bool × Unit) => (br ((!y2.1) || (a_c0 == (0 : Int))) ((G154 (IntKind.i64.wrap (y1.1 + (1 : Int))) y1.2.1 y1.2.2.1 y1.2.2.2.1 y1.2.2.2.2.1 y1.2.2.2.2.2.1).bind fun (y19 : DMapState) => (some (y19.1, y19.2.1, y19.2.2.1, y19.2.2.2.1, y19.2.2.2.2.1, y19.2.2.2.2.2.1, ()))) (let k18 := fun (v12 : Int) (v13 : Int) (v14 : Int) (v15 : List (DMapDisk)) (v16 : List (DMapView)) (v17 : List (DMapDone)) => ((G154 v12 v13 v14 v15 v16 v17).bind fun (y20 : DMapState) => (some (y20.1, y20.2.1, y20.2.2.1, y20.2.2.2.1, y20.2.2.2.2.1, y20.2.2.2.2.2.1, ()))); (br (a_c0 == (5 : Int)) ((G155 (IntKind.i64.wrap (y1.1 + (1 : Int))) y1.2.1 y1.2.2.1 y1.2.2.2.1 y1.2.2.2.2.1 y1.2.2.2.2.2.1 a_c0 a_c1 a_c2 a_c3 a_c4 a_c5 a_c6 a_c7 a_c8 a_c9).bind fun (y3 : DMapState) => (k18 y3.1 y3.2.1 y3.2.2.1 y3.2.2.2.1 y3.2.2.2.2.1 y3.2.2.2.2.2.1)) (br (a_c0 == (6 : Int)) ((G156 (IntKind.i64.wrap (y1.1 + (1 : Int))) y1.2.1 y1.2.2.1 y1.2.2.2.1 y1.2.2.2.2.1 y1.2.2.2.2.2.1 a_c0 a_c1 a_c2 a_c3 a_c4 a_c5 a_c6 a_c7 a_c8 a_c9).bind fun (y4 : DMapState) => (k18 y4.1 y4.2.1 y4.2.2.1 y4.2.2.2.1 y4.2.2.2.2.1 y4.2.2.2.2.2.1)) ((G157 (IntKind.i64.wrap (y1.1 + (1 : Int))) y1.2.1 y1.2.2.1 y1.2.2.2.1 y1.2.2.2.2.1 y1.2.2.2.2.2.1 a_c0 a_c1 a_c2 a_c3 a_c4 a_c5 a_c6 a_c7 a_c8 a_c9).bind fun (y5 : DMapState) => (k18 y5.1 y5.2.1 y5.2.2.1 y5.2.2.2.1 y5.2.2.2.2.1 y5.2.2.2.2.2.1)))))))) := by kernel_rfl
noncomputable def ac51 : ACode := acOf Try.prog 51
theorem gd51 : Good Try.prog (51, ac51, [.cell 4 true 6], 17) := ⟨_, Try.func51, by kernel_rfl, by kernel_rfl, by kernel_rfl, by kernel_rfl⟩
/- impl.MapDo -/
def an51 : List (Nat × An) := [(16, .rows)]
def S51 : List (Skel × List (Option Nat × Skel)) := []
def ps51 : List PK := [⟨none, true, MapState, false⟩, ⟨none, true, Cmd, false⟩]
def rs51 : List PK := [⟨some .S, true, MapState, false⟩]
noncomputable def F51 := FN (tabC T108) an51 S51 ac51 [.cell 4 true 6] 17 false 1 ps51 rs51
noncomputable def T51 : List (FuncId × Ctr) := (51, ⟨true, false, 1, ps51, rs51, F51⟩) :: T108
theorem hT51 : AllC Try.prog T51 := AllC.fresh (an := an51) (S := S51) (ps := ps51) (rs := rs51) hT108 gd51 (by kernel_rfl)
noncomputable def G51 (a_m0 : Int) (a_m1 : Int) (a_m2 : Int) (a_m3 : List (DMapDisk)) (a_m4 : List (DMapView)) (a_m5 : List (DMapDone)) (a_c0 : Int) (a_c1 : Int) (a_c2 : Int) (a_c3 : Int) (a_c4 : Int) (a_c5 : Int) (a_c6 : Int) (a_c7 : Int) (a_c8 : Int) (a_c9 : Int) : Option (DMapState) := F51 (a_m0, a_m1, a_m2, a_m3, a_m4, a_m5, a_c0, a_c1, a_c2, a_c3, a_c4, a_c5, a_c6, a_c7, a_c8, a_c9, ())
theorem G51_eq (a_m0 : Int) (a_m1 : Int) (a_m2 : Int) (a_m3 : List (DMapDisk)) (a_m4 : List (DMapView)) (a_m5 : List (DMapDone)) (a_c0 : Int) (a_c1 : Int) (a_c2 : Int) (a_c3 : Int) (a_c4 : Int) (a_c5 : Int) (a_c6 : Int) (a_c7 : Int) (a_c8 : Int) (a_c9 : Int) : (G51 a_m0 a_m1 a_m2 a_m3 a_m4 a_m5 a_c0 a_c1 a_c2 a_c3 a_c4 a_c5 a_c6 a_c7 a_c8 a_c9) = ((G102 a_m0 a_m1 a_m2 a_m3 a_m4 a_m5).bind fun (y1 : Bool × Unit) => (br ((!y1.1) || (a_m0 == (60 : Int))) (some ((0 : Int), (0 : Int), (0 : Int), [], [], [], ())) ((G108 a_m0 a_m1 a_m2 a_m3 a_m4 a_m5 a_c0 a_c1 a_c2 a_c3 a_c4 a_c5 a_c6 a_c7 a_c8 a_c9).bind fun (y2 : DMapState) => (some (y2.1, y2.2.1, y2.2.2.1, y2.2.2.2.1, y2.2.2.2.2.1, y2.2.2.2.2.2.1, ()))))) := by kernel_rfl
end Go.Proofs.Ytaekmccjendfoaa.MO
