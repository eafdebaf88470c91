import Derived.Test.YtnbhalhlodnmpaaK18
import Derived.Test.YtnbhalhlodnmpaaChecked
import Derived.KernelRfl
namespace Go.Proofs.Ytnbhalhlodnmpaa.FnExactHistStartT
open Go.PA

/-- laws.FnExactHistStart -/
def ac6 : ACode :=
 (.seq (.ops [⟨(some 0), .mv (.const (.bool false)), none⟩])
 (.seq (.ops [⟨(some 6), .call 26 [], none⟩,
  ⟨(some 1), .alloc [(.int .i64 0), (.int .i64 0), .nils, .nils], none⟩,
  ⟨none, .store 4 (.tmp 1) (.tmp 6), none⟩])
 (.seq (.ops [⟨(some 7), .call 27 [], none⟩,
  ⟨(some 2), .alloc [(.int .i64 0), (.int .i64 0), .nils, .nils], none⟩,
  ⟨none, .store 4 (.tmp 2) (.tmp 7), none⟩])
 (.seq (.seq (.ops [⟨(some 8), .load true 4 (.tmp 2), none⟩,
  ⟨(some 9), .load true 4 (.tmp 1), none⟩,
  ⟨(some 10), .call 28 [(.tmp 8), (.tmp 9)], none⟩,
  ⟨(some 11), .un .not (.tmp 10), none⟩])
 (.cond (.tmp 11) (.seq (.ops [⟨(some 0), .mv (.const (.bool false)), none⟩])
 .ret) .skip))
 (.seq (.ops [⟨(some 3), .mv (.const (.int .i64 1)), none⟩])
 (.seq (.ops [⟨(some 12), .load true 4 (.tmp 2), none⟩,
  ⟨(some 13), .mv (.tmp 3), none⟩,
  ⟨(some 14), .call 29 [(.tmp 12), (.tmp 13)], none⟩,
  ⟨(some 3), .mv (.tmp 14), none⟩])
 (.seq (.ops [⟨(some 4), .mv (.const (.int .i64 1)), none⟩])
 (.seq (.ops [⟨(some 15), .load true 4 (.tmp 2), none⟩,
  ⟨(some 16), .mv (.tmp 4), none⟩,
  ⟨(some 17), .call 30 [(.tmp 15), (.tmp 16)], none⟩,
  ⟨(some 4), .mv (.tmp 17), none⟩])
 (.seq (.seq (.ops [⟨(some 18), .mv (.tmp 4), none⟩,
  ⟨(some 19), .bin .lss (.tmp 18) (.const (.int .i64 0)), none⟩])
 (.cond (.tmp 19) (.seq (.ops [⟨(some 0), .mv (.const (.bool false)), none⟩])
 .ret) .skip))
 (.seq (.seq (.ops [⟨(some 20), .mv (.tmp 4), none⟩,
  ⟨(some 21), .mv (.tmp 3), none⟩,
  ⟨(some 22), .bin .neq (.tmp 20) (.tmp 21), none⟩])
 (.cond (.tmp 22) (.seq (.ops [⟨(some 0), .mv (.const (.bool false)), none⟩])
 .ret) .skip))
 (.seq (.ops [⟨(some 23), .call 27 [], none⟩,
  ⟨(some 5), .alloc [(.int .i64 0), (.int .i64 0), .nils, .nils], none⟩,
  ⟨none, .store 4 (.tmp 5) (.tmp 23), none⟩])
 (.seq (.seq (.ops [⟨(some 24), .load true 4 (.tmp 5), none⟩,
  ⟨(some 25), .load true 4 (.tmp 1), none⟩,
  ⟨(some 26), .call 28 [(.tmp 24), (.tmp 25)], none⟩,
  ⟨(some 27), .un .not (.tmp 26), none⟩])
 (.cond (.tmp 27) (.seq (.ops [⟨(some 0), .mv (.const (.bool false)), none⟩])
 .ret) .skip))
 (.seq (.ops [⟨(some 4), .mv (.const (.int .i64 1)), none⟩])
 (.seq (.ops [⟨(some 28), .load true 4 (.tmp 2), none⟩,
  ⟨(some 29), .mv (.tmp 4), none⟩,
  ⟨(some 30), .call 30 [(.tmp 28), (.tmp 29)], none⟩,
  ⟨(some 4), .mv (.tmp 30), none⟩])
 (.seq (.seq (.ops [⟨(some 31), .mv (.tmp 4), none⟩,
  ⟨(some 32), .bin .lss (.tmp 31) (.const (.int .i64 0)), none⟩])
 (.cond (.tmp 32) (.seq (.ops [⟨(some 0), .mv (.const (.bool false)), none⟩])
 .ret) .skip))
 (.seq (.seq (.ops [⟨(some 33), .mv (.tmp 4), none⟩,
  ⟨(some 34), .mv (.tmp 3), none⟩,
  ⟨(some 35), .bin .neq (.tmp 33) (.tmp 34), none⟩])
 (.cond (.tmp 35) (.seq (.ops [⟨(some 0), .mv (.const (.bool false)), none⟩])
 .ret) .skip))
 (.seq (.ops [⟨(some 0), .mv (.const (.bool true)), none⟩])
 .ret)))))))))))))))))
theorem gd6 : Good Try.prog (6, ac6, [.tmp 0], 36) := ⟨_, Try.func6, by kernel_rfl, by kernel_rfl, by kernel_rfl, by kernel_rfl⟩
/-- laws.eqIntS -/
def ac22 : ACode :=
 (.seq (.ops [⟨(some 4), .mv (.const (.bool false)), none⟩])
 (.seq (.seq (.ops [⟨(some 6), .mv (.tmp 0), none⟩,
  ⟨(some 7), .len false (.tmp 6), none⟩,
  ⟨(some 8), .mv (.tmp 1), none⟩,
  ⟨(some 9), .len false (.tmp 8), none⟩,
  ⟨(some 10), .bin .neq (.tmp 7) (.tmp 9), none⟩])
 (.cond (.tmp 10) (.seq (.ops [⟨(some 4), .mv (.const (.bool false)), none⟩])
 .ret) .skip))
 (.seq (.seq (.ops [⟨(some 5), .mv (.const (.int .i64 0)), none⟩])
 (.block 0 (.loop (.seq (.seq (.ops [⟨(some 11), .mv (.tmp 5), none⟩,
  ⟨(some 12), .mv (.tmp 0), none⟩,
  ⟨(some 13), .len false (.tmp 12), none⟩,
  ⟨(some 14), .bin .lss (.tmp 11) (.tmp 13), none⟩])
 (.cond (.tmp 14) .skip (.exit 0)))
 (.seq (.block 1 (.seq (.dops [⟨(some 17), .mv (.tmp 0), none⟩,
  ⟨(some 18), .mv (.tmp 5), none⟩,
  ⟨(some 19), .ia 1 (.tmp 17) (.tmp 18), none⟩,
  ⟨(some 20), .load false 1 (.tmp 19), none⟩,
  ⟨(some 21), .mv (.tmp 1), none⟩,
  ⟨(some 22), .mv (.tmp 5), none⟩,
  ⟨(some 23), .ia 1 (.tmp 21) (.tmp 22), none⟩,
  ⟨(some 24), .load false 1 (.tmp 23), none⟩,
  ⟨(some 25), .bin .neq (.tmp 20) (.tmp 24), none⟩])
 (.cond (.tmp 25) (.seq (.ops [⟨(some 4), .mv (.const (.bool false)), none⟩])
 .ret) .skip)))
 (.ops [⟨(some 15), .mv (.tmp 5), none⟩,
  ⟨(some 16), .bin .add (.tmp 15) (.const (.int .i64 1)), none⟩,
  ⟨(some 5), .mv (.tmp 16), none⟩]))))))
 (.seq (.ops [⟨(some 4), .mv (.const (.bool true)), none⟩])
 .ret))))
theorem gd22 : Good Try.prog (22, ac22, [.tmp 4], 26) := ⟨_, Try.func22, by kernel_rfl, by kernel_rfl, by kernel_rfl, by kernel_rfl⟩
/-- laws.markIntS -/
def ac23 : ACode :=
 (.seq (.ops [⟨(some 4), .mv (.const (.int .i64 0)), none⟩])
 (.seq (.seq (.ops [⟨(some 5), .mv (.const (.int .i64 0)), none⟩])
 (.block 0 (.loop (.seq (.seq (.ops [⟨(some 6), .mv (.tmp 5), none⟩,
  ⟨(some 7), .mv (.tmp 0), none⟩,
  ⟨(some 8), .len false (.tmp 7), none⟩,
  ⟨(some 9), .bin .lss (.tmp 6) (.tmp 8), none⟩])
 (.cond (.tmp 9) .skip (.exit 0)))
 (.seq (.block 1 (.seq (.ops [⟨(some 12), .mv (.tmp 0), none⟩,
  ⟨(some 13), .mv (.tmp 5), none⟩,
  ⟨(some 14), .mv (.tmp 1), none⟩,
  ⟨(some 15), .ia 1 (.tmp 12) (.tmp 13), none⟩,
  ⟨none, .store 1 (.tmp 15) (.tmp 14), none⟩])
 (.ops [⟨(some 16), .mv (.tmp 1), none⟩,
  ⟨(some 17), .bin .add (.tmp 16) (.const (.int .i64 1)), none⟩,
  ⟨(some 1), .mv (.tmp 17), none⟩])))
 (.ops [⟨(some 10), .mv (.tmp 5), none⟩,
  ⟨(some 11), .bin .add (.tmp 10) (.const (.int .i64 1)), none⟩,
  ⟨(some 5), .mv (.tmp 11), none⟩]))))))
 (.seq (.ops [⟨(some 18), .mv (.tmp 1), none⟩,
  ⟨(some 4), .mv (.tmp 18), none⟩])
 .ret)))
theorem gd23 : Good Try.prog (23, ac23, [.tmp 4], 19) := ⟨_, Try.func23, by kernel_rfl, by kernel_rfl, by kernel_rfl, by kernel_rfl⟩
/-- spec.HistStart -/
def ac26 : ACode :=
 (.seq (.ops [⟨(some 0), .alloc [(.int .i64 0), (.int .i64 0), .nils, .nils], none⟩])
 (.seq (.ops [⟨(some 1), .build [(.int .i64 0), (.int .i64 0), .nils, .nils] [(0, 1, (.const (.int .i64 1))), (1, 1, (.const (.int .i64 3)))], none⟩,
  ⟨none, .store 4 (.tmp 0) (.tmp 1), none⟩])
 .ret))
theorem gd26 : Good Try.prog (26, ac26, [.cell 0 true 4], 2) := ⟨_, Try.func26, by kernel_rfl, by kernel_rfl, by kernel_rfl, by kernel_rfl⟩
/-- impl.HistStart -/
def ac27 : ACode :=
 (.seq (.ops [⟨(some 0), .alloc [(.int .i64 0), (.int .i64 0), .nils, .nils], none⟩])
 (.seq (.ops [⟨(some 1), .build [(.int .i64 0), (.int .i64 0), .nils, .nils] [(0, 1, (.const (.int .i64 1))), (1, 1, (.const (.int .i64 3)))], none⟩,
  ⟨none, .store 4 (.tmp 0) (.tmp 1), none⟩])
 .ret))
theorem gd27 : Good Try.prog (27, ac27, [.cell 0 true 4], 2) := ⟨_, Try.func27, by kernel_rfl, by kernel_rfl, by kernel_rfl, by kernel_rfl⟩
/-- laws.eqHistState -/
def ac28 : ACode :=
 (.seq (.ops [⟨(some 2), .box (.tmp 0), none⟩,
  ⟨(some 3), .box (.tmp 1), none⟩,
  ⟨(some 4), .mv (.const (.bool false)), none⟩])
 (.seq (.seq (.ops [⟨(some 5), .fa 0 (.tmp 2), none⟩,
  ⟨(some 6), .load false 1 (.tmp 5), none⟩,
  ⟨(some 7), .fa 0 (.tmp 3), none⟩,
  ⟨(some 8), .load false 1 (.tmp 7), none⟩,
  ⟨(some 9), .bin .neq (.tmp 6) (.tmp 8), none⟩])
 (.cond (.tmp 9) (.seq (.ops [⟨(some 4), .mv (.const (.bool false)), none⟩])
 .ret) .skip))
 (.seq (.seq (.ops [⟨(some 10), .fa 1 (.tmp 2), none⟩,
  ⟨(some 11), .load false 1 (.tmp 10), none⟩,
  ⟨(some 12), .fa 1 (.tmp 3), none⟩,
  ⟨(some 13), .load false 1 (.tmp 12), none⟩,
  ⟨(some 14), .bin .neq (.tmp 11) (.tmp 13), none⟩])
 (.cond (.tmp 14) (.seq (.ops [⟨(some 4), .mv (.const (.bool false)), none⟩])
 .ret) .skip))
 (.seq (.seq (.ops [⟨(some 15), .fa 2 (.tmp 2), none⟩,
  ⟨(some 16), .load false 1 (.tmp 15), none⟩,
  ⟨(some 17), .fa 2 (.tmp 3), none⟩,
  ⟨(some 18), .load false 1 (.tmp 17), none⟩,
  ⟨(some 19), .call 62 [(.tmp 16), (.tmp 18)], none⟩,
  ⟨(some 20), .un .not (.tmp 19), none⟩])
 (.cond (.tmp 20) (.seq (.ops [⟨(some 4), .mv (.const (.bool false)), none⟩])
 .ret) .skip))
 (.seq (.seq (.ops [⟨(some 21), .fa 3 (.tmp 2), none⟩,
  ⟨(some 22), .load false 1 (.tmp 21), none⟩,
  ⟨(some 23), .fa 3 (.tmp 3), none⟩,
  ⟨(some 24), .load false 1 (.tmp 23), none⟩,
  ⟨(some 25), .call 63 [(.tmp 22), (.tmp 24)], none⟩,
  ⟨(some 26), .un .not (.tmp 25), none⟩])
 (.cond (.tmp 26) (.seq (.ops [⟨(some 4), .mv (.const (.bool false)), none⟩])
 .ret) .skip))
 (.seq (.ops [⟨(some 4), .mv (.const (.bool true)), none⟩])
 .ret))))))
theorem gd28 : Good Try.prog (28, ac28, [.tmp 4], 27) := ⟨_, Try.func28, by kernel_rfl, by kernel_rfl, by kernel_rfl, by kernel_rfl⟩
/-- laws.markHistState -/
def ac29 : ACode :=
 (.seq (.ops [⟨(some 2), .box (.tmp 0), none⟩,
  ⟨(some 4), .mv (.const (.int .i64 0)), none⟩])
 (.seq (.ops [⟨(some 5), .fa 2 (.tmp 2), none⟩,
  ⟨(some 6), .load false 1 (.tmp 5), none⟩,
  ⟨(some 7), .mv (.tmp 1), none⟩,
  ⟨(some 8), .call 64 [(.tmp 6), (.tmp 7)], none⟩,
  ⟨(some 1), .mv (.tmp 8), none⟩])
 (.seq (.ops [⟨(some 9), .fa 3 (.tmp 2), none⟩,
  ⟨(some 10), .load false 1 (.tmp 9), none⟩,
  ⟨(some 11), .mv (.tmp 1), none⟩,
  ⟨(some 12), .call 65 [(.tmp 10), (.tmp 11)], none⟩,
  ⟨(some 1), .mv (.tmp 12), none⟩])
 (.seq (.ops [⟨(some 13), .mv (.tmp 1), none⟩,
  ⟨(some 4), .mv (.tmp 13), none⟩])
 .ret))))
theorem gd29 : Good Try.prog (29, ac29, [.tmp 4], 14) := ⟨_, Try.func29, by kernel_rfl, by kernel_rfl, by kernel_rfl, by kernel_rfl⟩
/-- laws.heldHistState -/
def ac30 : ACode :=
 (.seq (.ops [⟨(some 2), .box (.tmp 0), none⟩,
  ⟨(some 4), .mv (.const (.int .i64 0)), none⟩])
 (.seq (.ops [⟨(some 5), .fa 2 (.tmp 2), none⟩,
  ⟨(some 6), .load false 1 (.tmp 5), none⟩,
  ⟨(some 7), .mv (.tmp 1), none⟩,
  ⟨(some 8), .call 66 [(.tmp 6), (.tmp 7)], none⟩,
  ⟨(some 1), .mv (.tmp 8), none⟩])
 (.seq (.seq (.ops [⟨(some 9), .mv (.tmp 1), none⟩,
  ⟨(some 10), .bin .lss (.tmp 9) (.const (.int .i64 0)), none⟩])
 (.cond (.tmp 10) (.seq (.ops [⟨(some 4), .mv (.const (.int .i64 (-1))), none⟩])
 .ret) .skip))
 (.seq (.ops [⟨(some 11), .fa 3 (.tmp 2), none⟩,
  ⟨(some 12), .load false 1 (.tmp 11), none⟩,
  ⟨(some 13), .mv (.tmp 1), none⟩,
  ⟨(some 14), .call 67 [(.tmp 12), (.tmp 13)], none⟩,
  ⟨(some 1), .mv (.tmp 14), none⟩])
 (.seq (.seq (.ops [⟨(some 15), .mv (.tmp 1), none⟩,
  ⟨(some 16), .bin .lss (.tmp 15) (.const (.int .i64 0)), none⟩])
 (.cond (.tmp 16) (.seq (.ops [⟨(some 4), .mv (.const (.int .i64 (-1))), none⟩])
 .ret) .skip))
 (.seq (.ops [⟨(some 17), .mv (.tmp 1), none⟩,
  ⟨(some 4), .mv (.tmp 17), none⟩])
 .ret))))))
theorem gd30 : Good Try.prog (30, ac30, [.tmp 4], 18) := ⟨_, Try.func30, by kernel_rfl, by kernel_rfl, by kernel_rfl, by kernel_rfl⟩
/-- laws.eqMapDiskS -/
def ac62 : ACode :=
 (.seq (.ops [⟨(some 4), .mv (.const (.bool false)), none⟩])
 (.seq (.seq (.ops [⟨(some 6), .mv (.tmp 0), none⟩,
  ⟨(some 7), .len false (.tmp 6), none⟩,
  ⟨(some 8), .mv (.tmp 1), none⟩,
  ⟨(some 9), .len false (.tmp 8), none⟩,
  ⟨(some 10), .bin .neq (.tmp 7) (.tmp 9), none⟩])
 (.cond (.tmp 10) (.seq (.ops [⟨(some 4), .mv (.const (.bool false)), none⟩])
 .ret) .skip))
 (.seq (.seq (.ops [⟨(some 5), .mv (.const (.int .i64 0)), none⟩])
 (.block 0 (.loop (.seq (.seq (.ops [⟨(some 11), .mv (.tmp 5), none⟩,
  ⟨(some 12), .mv (.tmp 0), none⟩,
  ⟨(some 13), .len false (.tmp 12), none⟩,
  ⟨(some 14), .bin .lss (.tmp 11) (.tmp 13), none⟩])
 (.cond (.tmp 14) .skip (.exit 0)))
 (.seq (.block 1 (.seq (.dops [⟨(some 17), .mv (.tmp 0), none⟩,
  ⟨(some 18), .mv (.tmp 5), none⟩,
  ⟨(some 19), .ia 7 (.tmp 17) (.tmp 18), none⟩,
  ⟨(some 20), .load true 7 (.tmp 19), none⟩,
  ⟨(some 21), .mv (.tmp 1), none⟩,
  ⟨(some 22), .mv (.tmp 5), none⟩,
  ⟨(some 23), .ia 7 (.tmp 21) (.tmp 22), none⟩,
  ⟨(some 24), .load true 7 (.tmp 23), none⟩,
  ⟨(some 25), .call 92 [(.tmp 20), (.tmp 24)], none⟩,
  ⟨(some 26), .un .not (.tmp 25), none⟩])
 (.cond (.tmp 26) (.seq (.ops [⟨(some 4), .mv (.const (.bool false)), none⟩])
 .ret) .skip)))
 (.ops [⟨(some 15), .mv (.tmp 5), none⟩,
  ⟨(some 16), .bin .add (.tmp 15) (.const (.int .i64 1)), none⟩,
  ⟨(some 5), .mv (.tmp 16), none⟩]))))))
 (.seq (.ops [⟨(some 4), .mv (.const (.bool true)), none⟩])
 .ret))))
theorem gd62 : Good Try.prog (62, ac62, [.tmp 4], 27) := ⟨_, Try.func62, by kernel_rfl, by kernel_rfl, by kernel_rfl, by kernel_rfl⟩
/-- laws.eqBlkPieceS -/
def ac63 : ACode :=
 (.seq (.ops [⟨(some 4), .mv (.const (.bool false)), none⟩])
 (.seq (.seq (.ops [⟨(some 6), .mv (.tmp 0), none⟩,
  ⟨(some 7), .len false (.tmp 6), none⟩,
  ⟨(some 8), .mv (.tmp 1), none⟩,
  ⟨(some 9), .len false (.tmp 8), none⟩,
  ⟨(some 10), .bin .neq (.tmp 7) (.tmp 9), none⟩])
 (.cond (.tmp 10) (.seq (.ops [⟨(some 4), .mv (.const (.bool false)), none⟩])
 .ret) .skip))
 (.seq (.seq (.ops [⟨(some 5), .mv (.const (.int .i64 0)), none⟩])
 (.block 0 (.loop (.seq (.seq (.ops [⟨(some 11), .mv (.tmp 5), none⟩,
  ⟨(some 12), .mv (.tmp 0), none⟩,
  ⟨(some 13), .len false (.tmp 12), none⟩,
  ⟨(some 14), .bin .lss (.tmp 11) (.tmp 13), none⟩])
 (.cond (.tmp 14) .skip (.exit 0)))
 (.seq (.block 1 (.seq (.dops [⟨(some 17), .mv (.tmp 0), none⟩,
  ⟨(some 18), .mv (.tmp 5), none⟩,
  ⟨(some 19), .ia 4 (.tmp 17) (.tmp 18), none⟩,
  ⟨(some 20), .load true 4 (.tmp 19), none⟩,
  ⟨(some 21), .mv (.tmp 1), none⟩,
  ⟨(some 22), .mv (.tmp 5), none⟩,
  ⟨(some 23), .ia 4 (.tmp 21) (.tmp 22), none⟩,
  ⟨(some 24), .load true 4 (.tmp 23), none⟩,
  ⟨(some 25), .call 93 [(.tmp 20), (.tmp 24)], none⟩,
  ⟨(some 26), .un .not (.tmp 25), none⟩])
 (.cond (.tmp 26) (.seq (.ops [⟨(some 4), .mv (.const (.bool false)), none⟩])
 .ret) .skip)))
 (.ops [⟨(some 15), .mv (.tmp 5), none⟩,
  ⟨(some 16), .bin .add (.tmp 15) (.const (.int .i64 1)), none⟩,
  ⟨(some 5), .mv (.tmp 16), none⟩]))))))
 (.seq (.ops [⟨(some 4), .mv (.const (.bool true)), none⟩])
 .ret))))
theorem gd63 : Good Try.prog (63, ac63, [.tmp 4], 27) := ⟨_, Try.func63, by kernel_rfl, by kernel_rfl, by kernel_rfl, by kernel_rfl⟩
/-- laws.markMapDiskS -/
def ac64 : ACode :=
 (.seq (.ops [⟨(some 4), .mv (.const (.int .i64 0)), none⟩])
 (.seq (.seq (.ops [⟨(some 5), .mv (.const (.int .i64 0)), none⟩])
 (.block 0 (.loop (.seq (.seq (.ops [⟨(some 6), .mv (.tmp 5), none⟩,
  ⟨(some 7), .mv (.tmp 0), none⟩,
  ⟨(some 8), .len false (.tmp 7), none⟩,
  ⟨(some 9), .bin .lss (.tmp 6) (.tmp 8), none⟩])
 (.cond (.tmp 9) .skip (.exit 0)))
 (.seq (.block 1 (.seq (.ops [⟨(some 12), .mv (.tmp 0), none⟩,
  ⟨(some 13), .mv (.tmp 5), none⟩,
  ⟨(some 14), .mv (.tmp 1), none⟩,
  ⟨(some 15), .ia 7 (.tmp 12) (.tmp 13), none⟩,
  ⟨(some 16), .fa 0 (.tmp 15), none⟩,
  ⟨none, .store 1 (.tmp 16) (.tmp 14), none⟩])
 (.seq (.ops [⟨(some 17), .mv (.tmp 1), none⟩,
  ⟨(some 18), .bin .add (.tmp 17) (.const (.int .i64 1)), none⟩,
  ⟨(some 1), .mv (.tmp 18), none⟩])
 (.seq (.ops [⟨(some 19), .mv (.tmp 0), none⟩,
  ⟨(some 20), .mv (.tmp 5), none⟩,
  ⟨(some 21), .mv (.tmp 1), none⟩,
  ⟨(some 22), .ia 7 (.tmp 19) (.tmp 20), none⟩,
  ⟨(some 23), .fa 1 (.tmp 22), none⟩,
  ⟨none, .store 1 (.tmp 23) (.tmp 21), none⟩])
 (.seq (.ops [⟨(some 24), .mv (.tmp 1), none⟩,
  ⟨(some 25), .bin .add (.tmp 24) (.const (.int .i64 1)), none⟩,
  ⟨(some 1), .mv (.tmp 25), none⟩])
 (.seq (.ops [⟨(some 26), .mv (.tmp 0), none⟩,
  ⟨(some 27), .mv (.tmp 5), none⟩,
  ⟨(some 28), .mv (.tmp 1), none⟩,
  ⟨(some 29), .ia 7 (.tmp 26) (.tmp 27), none⟩,
  ⟨(some 30), .fa 2 (.tmp 29), none⟩,
  ⟨none, .store 1 (.tmp 30) (.tmp 28), none⟩])
 (.seq (.ops [⟨(some 31), .mv (.tmp 1), none⟩,
  ⟨(some 32), .bin .add (.tmp 31) (.const (.int .i64 1)), none⟩,
  ⟨(some 1), .mv (.tmp 32), none⟩])
 (.seq (.ops [⟨(some 33), .mv (.tmp 0), none⟩,
  ⟨(some 34), .mv (.tmp 5), none⟩,
  ⟨(some 35), .mv (.tmp 1), none⟩,
  ⟨(some 36), .ia 7 (.tmp 33) (.tmp 34), none⟩,
  ⟨(some 37), .fa 3 (.tmp 36), none⟩,
  ⟨none, .store 1 (.tmp 37) (.tmp 35), none⟩])
 (.seq (.ops [⟨(some 38), .mv (.tmp 1), none⟩,
  ⟨(some 39), .bin .add (.tmp 38) (.const (.int .i64 1)), none⟩,
  ⟨(some 1), .mv (.tmp 39), none⟩])
 (.seq (.ops [⟨(some 40), .mv (.tmp 0), none⟩,
  ⟨(some 41), .mv (.tmp 5), none⟩,
  ⟨(some 42), .mv (.tmp 1), none⟩,
  ⟨(some 43), .ia 7 (.tmp 40) (.tmp 41), none⟩,
  ⟨(some 44), .fa 4 (.tmp 43), none⟩,
  ⟨none, .store 1 (.tmp 44) (.tmp 42), none⟩])
 (.seq (.ops [⟨(some 45), .mv (.tmp 1), none⟩,
  ⟨(some 46), .bin .add (.tmp 45) (.const (.int .i64 1)), none⟩,
  ⟨(some 1), .mv (.tmp 46), none⟩])
 (.seq (.ops [⟨(some 47), .mv (.tmp 0), none⟩,
  ⟨(some 48), .mv (.tmp 5), none⟩,
  ⟨(some 49), .mv (.tmp 1), none⟩,
  ⟨(some 50), .ia 7 (.tmp 47) (.tmp 48), none⟩,
  ⟨(some 51), .fa 5 (.tmp 50), none⟩,
  ⟨none, .store 1 (.tmp 51) (.tmp 49), none⟩])
 (.seq (.ops [⟨(some 52), .mv (.tmp 1), none⟩,
  ⟨(some 53), .bin .add (.tmp 52) (.const (.int .i64 1)), none⟩,
  ⟨(some 1), .mv (.tmp 53), none⟩])
 (.ops [⟨(some 54), .mv (.tmp 0), none⟩,
  ⟨(some 55), .mv (.tmp 5), none⟩,
  ⟨(some 56), .ia 7 (.tmp 54) (.tmp 55), none⟩,
  ⟨(some 57), .fa 6 (.tmp 56), none⟩,
  ⟨(some 58), .load false 1 (.tmp 57), none⟩,
  ⟨(some 59), .mv (.tmp 1), none⟩,
  ⟨(some 60), .call 23 [(.tmp 58), (.tmp 59)], none⟩,
  ⟨(some 1), .mv (.tmp 60), none⟩]))))))))))))))
 (.ops [⟨(some 10), .mv (.tmp 5), none⟩,
  ⟨(some 11), .bin .add (.tmp 10) (.const (.int .i64 1)), none⟩,
  ⟨(some 5), .mv (.tmp 11), none⟩]))))))
 (.seq (.ops [⟨(some 61), .mv (.tmp 1), none⟩,
  ⟨(some 4), .mv (.tmp 61), none⟩])
 .ret)))
theorem gd64 : Good Try.prog (64, ac64, [.tmp 4], 62) := ⟨_, Try.func64, by kernel_rfl, by kernel_rfl, by kernel_rfl, by kernel_rfl⟩
/-- laws.markBlkPieceS -/
def ac65 : ACode :=
 (.seq (.ops [⟨(some 4), .mv (.const (.int .i64 0)), none⟩])
 (.seq (.seq (.ops [⟨(some 5), .mv (.const (.int .i64 0)), none⟩])
 (.block 0 (.loop (.seq (.seq (.ops [⟨(some 6), .mv (.tmp 5), none⟩,
  ⟨(some 7), .mv (.tmp 0), none⟩,
  ⟨(some 8), .len false (.tmp 7), none⟩,
  ⟨(some 9), .bin .lss (.tmp 6) (.tmp 8), none⟩])
 (.cond (.tmp 9) .skip (.exit 0)))
 (.seq (.block 1 (.seq (.ops [⟨(some 12), .mv (.tmp 0), none⟩,
  ⟨(some 13), .mv (.tmp 5), none⟩,
  ⟨(some 14), .mv (.tmp 1), none⟩,
  ⟨(some 15), .ia 4 (.tmp 12) (.tmp 13), none⟩,
  ⟨(some 16), .fa 0 (.tmp 15), none⟩,
  ⟨none, .store 1 (.tmp 16) (.tmp 14), none⟩])
 (.seq (.ops [⟨(some 17), .mv (.tmp 1), none⟩,
  ⟨(some 18), .bin .add (.tmp 17) (.const (.int .i64 1)), none⟩,
  ⟨(some 1), .mv (.tmp 18), none⟩])
 (.seq (.ops [⟨(some 19), .mv (.tmp 0), none⟩,
  ⟨(some 20), .mv (.tmp 5), none⟩,
  ⟨(some 21), .mv (.tmp 1), none⟩,
  ⟨(some 22), .ia 4 (.tmp 19) (.tmp 20), none⟩,
  ⟨(some 23), .fa 1 (.tmp 22), none⟩,
  ⟨none, .store 1 (.tmp 23) (.tmp 21), none⟩])
 (.seq (.ops [⟨(some 24), .mv (.tmp 1), none⟩,
  ⟨(some 25), .bin .add (.tmp 24) (.const (.int .i64 1)), none⟩,
  ⟨(some 1), .mv (.tmp 25), none⟩])
 (.seq (.ops [⟨(some 26), .mv (.tmp 0), none⟩,
  ⟨(some 27), .mv (.tmp 5), none⟩,
  ⟨(some 28), .mv (.tmp 1), none⟩,
  ⟨(some 29), .ia 4 (.tmp 26) (.tmp 27), none⟩,
  ⟨(some 30), .fa 2 (.tmp 29), none⟩,
  ⟨none, .store 1 (.tmp 30) (.tmp 28), none⟩])
 (.seq (.ops [⟨(some 31), .mv (.tmp 1), none⟩,
  ⟨(some 32), .bin .add (.tmp 31) (.const (.int .i64 1)), none⟩,
  ⟨(some 1), .mv (.tmp 32), none⟩])
 (.seq (.ops [⟨(some 33), .mv (.tmp 0), none⟩,
  ⟨(some 34), .mv (.tmp 5), none⟩,
  ⟨(some 35), .mv (.tmp 1), none⟩,
  ⟨(some 36), .ia 4 (.tmp 33) (.tmp 34), none⟩,
  ⟨(some 37), .fa 3 (.tmp 36), none⟩,
  ⟨none, .store 1 (.tmp 37) (.tmp 35), none⟩])
 (.ops [⟨(some 38), .mv (.tmp 1), none⟩,
  ⟨(some 39), .bin .add (.tmp 38) (.const (.int .i64 1)), none⟩,
  ⟨(some 1), .mv (.tmp 39), none⟩])))))))))
 (.ops [⟨(some 10), .mv (.tmp 5), none⟩,
  ⟨(some 11), .bin .add (.tmp 10) (.const (.int .i64 1)), none⟩,
  ⟨(some 5), .mv (.tmp 11), none⟩]))))))
 (.seq (.ops [⟨(some 40), .mv (.tmp 1), none⟩,
  ⟨(some 4), .mv (.tmp 40), none⟩])
 .ret)))
theorem gd65 : Good Try.prog (65, ac65, [.tmp 4], 41) := ⟨_, Try.func65, by kernel_rfl, by kernel_rfl, by kernel_rfl, by kernel_rfl⟩
/-- laws.heldMapDiskS -/
def ac66 : ACode :=
 (.seq (.ops [⟨(some 4), .mv (.const (.int .i64 0)), none⟩])
 (.seq (.seq (.ops [⟨(some 5), .mv (.const (.int .i64 0)), none⟩])
 (.block 0 (.loop (.seq (.seq (.ops [⟨(some 6), .mv (.tmp 5), none⟩,
  ⟨(some 7), .mv (.tmp 0), none⟩,
  ⟨(some 8), .len false (.tmp 7), none⟩,
  ⟨(some 9), .bin .lss (.tmp 6) (.tmp 8), none⟩])
 (.cond (.tmp 9) .skip (.exit 0)))
 (.seq (.block 1 (.seq (.seq (.ops [⟨(some 12), .mv (.tmp 0), none⟩,
  ⟨(some 13), .mv (.tmp 5), none⟩,
  ⟨(some 14), .ia 7 (.tmp 12) (.tmp 13), none⟩,
  ⟨(some 15), .fa 0 (.tmp 14), none⟩,
  ⟨(some 16), .load false 1 (.tmp 15), none⟩,
  ⟨(some 17), .mv (.tmp 1), none⟩,
  ⟨(some 18), .bin .neq (.tmp 16) (.tmp 17), none⟩])
 (.cond (.tmp 18) (.seq (.ops [⟨(some 4), .mv (.const (.int .i64 (-1))), none⟩])
 .ret) .skip))
 (.seq (.ops [⟨(some 19), .mv (.tmp 1), none⟩,
  ⟨(some 20), .bin .add (.tmp 19) (.const (.int .i64 1)), none⟩,
  ⟨(some 1), .mv (.tmp 20), none⟩])
 (.seq (.seq (.ops [⟨(some 21), .mv (.tmp 0), none⟩,
  ⟨(some 22), .mv (.tmp 5), none⟩,
  ⟨(some 23), .ia 7 (.tmp 21) (.tmp 22), none⟩,
  ⟨(some 24), .fa 1 (.tmp 23), none⟩,
  ⟨(some 25), .load false 1 (.tmp 24), none⟩,
  ⟨(some 26), .mv (.tmp 1), none⟩,
  ⟨(some 27), .bin .neq (.tmp 25) (.tmp 26), none⟩])
 (.cond (.tmp 27) (.seq (.ops [⟨(some 4), .mv (.const (.int .i64 (-1))), none⟩])
 .ret) .skip))
 (.seq (.ops [⟨(some 28), .mv (.tmp 1), none⟩,
  ⟨(some 29), .bin .add (.tmp 28) (.const (.int .i64 1)), none⟩,
  ⟨(some 1), .mv (.tmp 29), none⟩])
 (.seq (.seq (.ops [⟨(some 30), .mv (.tmp 0), none⟩,
  ⟨(some 31), .mv (.tmp 5), none⟩,
  ⟨(some 32), .ia 7 (.tmp 30) (.tmp 31), none⟩,
  ⟨(some 33), .fa 2 (.tmp 32), none⟩,
  ⟨(some 34), .load false 1 (.tmp 33), none⟩,
  ⟨(some 35), .mv (.tmp 1), none⟩,
  ⟨(some 36), .bin .neq (.tmp 34) (.tmp 35), none⟩])
 (.cond (.tmp 36) (.seq (.ops [⟨(some 4), .mv (.const (.int .i64 (-1))), none⟩])
 .ret) .skip))
 (.seq (.ops [⟨(some 37), .mv (.tmp 1), none⟩,
  ⟨(some 38), .bin .add (.tmp 37) (.const (.int .i64 1)), none⟩,
  ⟨(some 1), .mv (.tmp 38), none⟩])
 (.seq (.seq (.ops [⟨(some 39), .mv (.tmp 0), none⟩,
  ⟨(some 40), .mv (.tmp 5), none⟩,
  ⟨(some 41), .ia 7 (.tmp 39) (.tmp 40), none⟩,
  ⟨(some 42), .fa 3 (.tmp 41), none⟩,
  ⟨(some 43), .load false 1 (.tmp 42), none⟩,
  ⟨(some 44), .mv (.tmp 1), none⟩,
  ⟨(some 45), .bin .neq (.tmp 43) (.tmp 44), none⟩])
 (.cond (.tmp 45) (.seq (.ops [⟨(some 4), .mv (.const (.int .i64 (-1))), none⟩])
 .ret) .skip))
 (.seq (.ops [⟨(some 46), .mv (.tmp 1), none⟩,
  ⟨(some 47), .bin .add (.tmp 46) (.const (.int .i64 1)), none⟩,
  ⟨(some 1), .mv (.tmp 47), none⟩])
 (.seq (.seq (.ops [⟨(some 48), .mv (.tmp 0), none⟩,
  ⟨(some 49), .mv (.tmp 5), none⟩,
  ⟨(some 50), .ia 7 (.tmp 48) (.tmp 49), none⟩,
  ⟨(some 51), .fa 4 (.tmp 50), none⟩,
  ⟨(some 52), .load false 1 (.tmp 51), none⟩,
  ⟨(some 53), .mv (.tmp 1), none⟩,
  ⟨(some 54), .bin .neq (.tmp 52) (.tmp 53), none⟩])
 (.cond (.tmp 54) (.seq (.ops [⟨(some 4), .mv (.const (.int .i64 (-1))), none⟩])
 .ret) .skip))
 (.seq (.ops [⟨(some 55), .mv (.tmp 1), none⟩,
  ⟨(some 56), .bin .add (.tmp 55) (.const (.int .i64 1)), none⟩,
  ⟨(some 1), .mv (.tmp 56), none⟩])
 (.seq (.seq (.ops [⟨(some 57), .mv (.tmp 0), none⟩,
  ⟨(some 58), .mv (.tmp 5), none⟩,
  ⟨(some 59), .ia 7 (.tmp 57) (.tmp 58), none⟩,
  ⟨(some 60), .fa 5 (.tmp 59), none⟩,
  ⟨(some 61), .load false 1 (.tmp 60), none⟩,
  ⟨(some 62), .mv (.tmp 1), none⟩,
  ⟨(some 63), .bin .neq (.tmp 61) (.tmp 62), none⟩])
 (.cond (.tmp 63) (.seq (.ops [⟨(some 4), .mv (.const (.int .i64 (-1))), none⟩])
 .ret) .skip))
 (.seq (.ops [⟨(some 64), .mv (.tmp 1), none⟩,
  ⟨(some 65), .bin .add (.tmp 64) (.const (.int .i64 1)), none⟩,
  ⟨(some 1), .mv (.tmp 65), none⟩])
 (.seq (.ops [⟨(some 66), .mv (.tmp 0), none⟩,
  ⟨(some 67), .mv (.tmp 5), none⟩,
  ⟨(some 68), .ia 7 (.tmp 66) (.tmp 67), none⟩,
  ⟨(some 69), .fa 6 (.tmp 68), none⟩,
  ⟨(some 70), .load false 1 (.tmp 69), none⟩,
  ⟨(some 71), .mv (.tmp 1), none⟩,
  ⟨(some 72), .call 94 [(.tmp 70), (.tmp 71)], none⟩,
  ⟨(some 1), .mv (.tmp 72), none⟩])
 (.seq (.ops [⟨(some 73), .mv (.tmp 1), none⟩,
  ⟨(some 74), .bin .lss (.tmp 73) (.const (.int .i64 0)), none⟩])
 (.cond (.tmp 74) (.seq (.ops [⟨(some 4), .mv (.const (.int .i64 (-1))), none⟩])
 .ret) .skip))))))))))))))))
 (.ops [⟨(some 10), .mv (.tmp 5), none⟩,
  ⟨(some 11), .bin .add (.tmp 10) (.const (.int .i64 1)), none⟩,
  ⟨(some 5), .mv (.tmp 11), none⟩]))))))
 (.seq (.ops [⟨(some 75), .mv (.tmp 1), none⟩,
  ⟨(some 4), .mv (.tmp 75), none⟩])
 .ret)))
theorem gd66 : Good Try.prog (66, ac66, [.tmp 4], 76) := ⟨_, Try.func66, by kernel_rfl, by kernel_rfl, by kernel_rfl, by kernel_rfl⟩
/-- laws.heldBlkPieceS -/
def ac67 : ACode :=
 (.seq (.ops [⟨(some 4), .mv (.const (.int .i64 0)), none⟩])
 (.seq (.seq (.ops [⟨(some 5), .mv (.const (.int .i64 0)), none⟩])
 (.block 0 (.loop (.seq (.seq (.ops [⟨(some 6), .mv (.tmp 5), none⟩,
  ⟨(some 7), .mv (.tmp 0), none⟩,
  ⟨(some 8), .len false (.tmp 7), none⟩,
  ⟨(some 9), .bin .lss (.tmp 6) (.tmp 8), none⟩])
 (.cond (.tmp 9) .skip (.exit 0)))
 (.seq (.block 1 (.seq (.seq (.ops [⟨(some 12), .mv (.tmp 0), none⟩,
  ⟨(some 13), .mv (.tmp 5), none⟩,
  ⟨(some 14), .ia 4 (.tmp 12) (.tmp 13), none⟩,
  ⟨(some 15), .fa 0 (.tmp 14), none⟩,
  ⟨(some 16), .load false 1 (.tmp 15), none⟩,
  ⟨(some 17), .mv (.tmp 1), none⟩,
  ⟨(some 18), .bin .neq (.tmp 16) (.tmp 17), none⟩])
 (.cond (.tmp 18) (.seq (.ops [⟨(some 4), .mv (.const (.int .i64 (-1))), none⟩])
 .ret) .skip))
 (.seq (.ops [⟨(some 19), .mv (.tmp 1), none⟩,
  ⟨(some 20), .bin .add (.tmp 19) (.const (.int .i64 1)), none⟩,
  ⟨(some 1), .mv (.tmp 20), none⟩])
 (.seq (.seq (.ops [⟨(some 21), .mv (.tmp 0), none⟩,
  ⟨(some 22), .mv (.tmp 5), none⟩,
  ⟨(some 23), .ia 4 (.tmp 21) (.tmp 22), none⟩,
  ⟨(some 24), .fa 1 (.tmp 23), none⟩,
  ⟨(some 25), .load false 1 (.tmp 24), none⟩,
  ⟨(some 26), .mv (.tmp 1), none⟩,
  ⟨(some 27), .bin .neq (.tmp 25) (.tmp 26), none⟩])
 (.cond (.tmp 27) (.seq (.ops [⟨(some 4), .mv (.const (.int .i64 (-1))), none⟩])
 .ret) .skip))
 (.seq (.ops [⟨(some 28), .mv (.tmp 1), none⟩,
  ⟨(some 29), .bin .add (.tmp 28) (.const (.int .i64 1)), none⟩,
  ⟨(some 1), .mv (.tmp 29), none⟩])
 (.seq (.seq (.ops [⟨(some 30), .mv (.tmp 0), none⟩,
  ⟨(some 31), .mv (.tmp 5), none⟩,
  ⟨(some 32), .ia 4 (.tmp 30) (.tmp 31), none⟩,
  ⟨(some 33), .fa 2 (.tmp 32), none⟩,
  ⟨(some 34), .load false 1 (.tmp 33), none⟩,
  ⟨(some 35), .mv (.tmp 1), none⟩,
  ⟨(some 36), .bin .neq (.tmp 34) (.tmp 35), none⟩])
 (.cond (.tmp 36) (.seq (.ops [⟨(some 4), .mv (.const (.int .i64 (-1))), none⟩])
 .ret) .skip))
 (.seq (.ops [⟨(some 37), .mv (.tmp 1), none⟩,
  ⟨(some 38), .bin .add (.tmp 37) (.const (.int .i64 1)), none⟩,
  ⟨(some 1), .mv (.tmp 38), none⟩])
 (.seq (.seq (.ops [⟨(some 39), .mv (.tmp 0), none⟩,
  ⟨(some 40), .mv (.tmp 5), none⟩,
  ⟨(some 41), .ia 4 (.tmp 39) (.tmp 40), none⟩,
  ⟨(some 42), .fa 3 (.tmp 41), none⟩,
  ⟨(some 43), .load false 1 (.tmp 42), none⟩,
  ⟨(some 44), .mv (.tmp 1), none⟩,
  ⟨(some 45), .bin .neq (.tmp 43) (.tmp 44), none⟩])
 (.cond (.tmp 45) (.seq (.ops [⟨(some 4), .mv (.const (.int .i64 (-1))), none⟩])
 .ret) .skip))
 (.ops [⟨(some 46), .mv (.tmp 1), none⟩,
  ⟨(some 47), .bin .add (.tmp 46) (.const (.int .i64 1)), none⟩,
  ⟨(some 1), .mv (.tmp 47), none⟩])))))))))
 (.ops [⟨(some 10), .mv (.tmp 5), none⟩,
  ⟨(some 11), .bin .add (.tmp 10) (.const (.int .i64 1)), none⟩,
  ⟨(some 5), .mv (.tmp 11), none⟩]))))))
 (.seq (.ops [⟨(some 48), .mv (.tmp 1), none⟩,
  ⟨(some 4), .mv (.tmp 48), none⟩])
 .ret)))
theorem gd67 : Good Try.prog (67, ac67, [.tmp 4], 49) := ⟨_, Try.func67, by kernel_rfl, by kernel_rfl, by kernel_rfl, by kernel_rfl⟩
/-- laws.eqMapDisk -/
def ac92 : ACode :=
 (.seq (.ops [⟨(some 2), .box (.tmp 0), none⟩,
  ⟨(some 3), .box (.tmp 1), none⟩,
  ⟨(some 4), .mv (.const (.bool false)), none⟩])
 (.seq (.seq (.ops [⟨(some 5), .fa 0 (.tmp 2), none⟩,
  ⟨(some 6), .load false 1 (.tmp 5), none⟩,
  ⟨(some 7), .fa 0 (.tmp 3), none⟩,
  ⟨(some 8), .load false 1 (.tmp 7), none⟩,
  ⟨(some 9), .bin .neq (.tmp 6) (.tmp 8), none⟩])
 (.cond (.tmp 9) (.seq (.ops [⟨(some 4), .mv (.const (.bool false)), none⟩])
 .ret) .skip))
 (.seq (.seq (.ops [⟨(some 10), .fa 1 (.tmp 2), none⟩,
  ⟨(some 11), .load false 1 (.tmp 10), none⟩,
  ⟨(some 12), .fa 1 (.tmp 3), none⟩,
  ⟨(some 13), .load false 1 (.tmp 12), none⟩,
  ⟨(some 14), .bin .neq (.tmp 11) (.tmp 13), none⟩])
 (.cond (.tmp 14) (.seq (.ops [⟨(some 4), .mv (.const (.bool false)), none⟩])
 .ret) .skip))
 (.seq (.seq (.ops [⟨(some 15), .fa 2 (.tmp 2), none⟩,
  ⟨(some 16), .load false 1 (.tmp 15), none⟩,
  ⟨(some 17), .fa 2 (.tmp 3), none⟩,
  ⟨(some 18), .load false 1 (.tmp 17), none⟩,
  ⟨(some 19), .bin .neq (.tmp 16) (.tmp 18), none⟩])
 (.cond (.tmp 19) (.seq (.ops [⟨(some 4), .mv (.const (.bool false)), none⟩])
 .ret) .skip))
 (.seq (.seq (.ops [⟨(some 20), .fa 3 (.tmp 2), none⟩,
  ⟨(some 21), .load false 1 (.tmp 20), none⟩,
  ⟨(some 22), .fa 3 (.tmp 3), none⟩,
  ⟨(some 23), .load false 1 (.tmp 22), none⟩,
  ⟨(some 24), .bin .neq (.tmp 21) (.tmp 23), none⟩])
 (.cond (.tmp 24) (.seq (.ops [⟨(some 4), .mv (.const (.bool false)), none⟩])
 .ret) .skip))
 (.seq (.seq (.ops [⟨(some 25), .fa 4 (.tmp 2), none⟩,
  ⟨(some 26), .load false 1 (.tmp 25), none⟩,
  ⟨(some 27), .fa 4 (.tmp 3), none⟩,
  ⟨(some 28), .load false 1 (.tmp 27), none⟩,
  ⟨(some 29), .bin .neq (.tmp 26) (.tmp 28), none⟩])
 (.cond (.tmp 29) (.seq (.ops [⟨(some 4), .mv (.const (.bool false)), none⟩])
 .ret) .skip))
 (.seq (.seq (.ops [⟨(some 30), .fa 5 (.tmp 2), none⟩,
  ⟨(some 31), .load false 1 (.tmp 30), none⟩,
  ⟨(some 32), .fa 5 (.tmp 3), none⟩,
  ⟨(some 33), .load false 1 (.tmp 32), none⟩,
  ⟨(some 34), .bin .neq (.tmp 31) (.tmp 33), none⟩])
 (.cond (.tmp 34) (.seq (.ops [⟨(some 4), .mv (.const (.bool false)), none⟩])
 .ret) .skip))
 (.seq (.seq (.ops [⟨(some 35), .fa 6 (.tmp 2), none⟩,
  ⟨(some 36), .load false 1 (.tmp 35), none⟩,
  ⟨(some 37), .fa 6 (.tmp 3), none⟩,
  ⟨(some 38), .load false 1 (.tmp 37), none⟩,
  ⟨(some 39), .call 22 [(.tmp 36), (.tmp 38)], none⟩,
  ⟨(some 40), .un .not (.tmp 39), none⟩])
 (.cond (.tmp 40) (.seq (.ops [⟨(some 4), .mv (.const (.bool false)), none⟩])
 .ret) .skip))
 (.seq (.ops [⟨(some 4), .mv (.const (.bool true)), none⟩])
 .ret)))))))))
theorem gd92 : Good Try.prog (92, ac92, [.tmp 4], 41) := ⟨_, Try.func92, by kernel_rfl, by kernel_rfl, by kernel_rfl, by kernel_rfl⟩
/-- laws.eqBlkPiece -/
def ac93 : ACode :=
 (.seq (.ops [⟨(some 2), .box (.tmp 0), none⟩,
  ⟨(some 3), .box (.tmp 1), none⟩,
  ⟨(some 4), .mv (.const (.bool false)), none⟩])
 (.seq (.seq (.ops [⟨(some 5), .fa 0 (.tmp 2), none⟩,
  ⟨(some 6), .load false 1 (.tmp 5), none⟩,
  ⟨(some 7), .fa 0 (.tmp 3), none⟩,
  ⟨(some 8), .load false 1 (.tmp 7), none⟩,
  ⟨(some 9), .bin .neq (.tmp 6) (.tmp 8), none⟩])
 (.cond (.tmp 9) (.seq (.ops [⟨(some 4), .mv (.const (.bool false)), none⟩])
 .ret) .skip))
 (.seq (.seq (.ops [⟨(some 10), .fa 1 (.tmp 2), none⟩,
  ⟨(some 11), .load false 1 (.tmp 10), none⟩,
  ⟨(some 12), .fa 1 (.tmp 3), none⟩,
  ⟨(some 13), .load false 1 (.tmp 12), none⟩,
  ⟨(some 14), .bin .neq (.tmp 11) (.tmp 13), none⟩])
 (.cond (.tmp 14) (.seq (.ops [⟨(some 4), .mv (.const (.bool false)), none⟩])
 .ret) .skip))
 (.seq (.seq (.ops [⟨(some 15), .fa 2 (.tmp 2), none⟩,
  ⟨(some 16), .load false 1 (.tmp 15), none⟩,
  ⟨(some 17), .fa 2 (.tmp 3), none⟩,
  ⟨(some 18), .load false 1 (.tmp 17), none⟩,
  ⟨(some 19), .bin .neq (.tmp 16) (.tmp 18), none⟩])
 (.cond (.tmp 19) (.seq (.ops [⟨(some 4), .mv (.const (.bool false)), none⟩])
 .ret) .skip))
 (.seq (.seq (.ops [⟨(some 20), .fa 3 (.tmp 2), none⟩,
  ⟨(some 21), .load false 1 (.tmp 20), none⟩,
  ⟨(some 22), .fa 3 (.tmp 3), none⟩,
  ⟨(some 23), .load false 1 (.tmp 22), none⟩,
  ⟨(some 24), .bin .neq (.tmp 21) (.tmp 23), none⟩])
 (.cond (.tmp 24) (.seq (.ops [⟨(some 4), .mv (.const (.bool false)), none⟩])
 .ret) .skip))
 (.seq (.ops [⟨(some 4), .mv (.const (.bool true)), none⟩])
 .ret))))))
theorem gd93 : Good Try.prog (93, ac93, [.tmp 4], 25) := ⟨_, Try.func93, by kernel_rfl, by kernel_rfl, by kernel_rfl, by kernel_rfl⟩
/-- laws.heldIntS -/
def ac94 : ACode :=
 (.seq (.ops [⟨(some 4), .mv (.const (.int .i64 0)), none⟩])
 (.seq (.seq (.ops [⟨(some 5), .mv (.const (.int .i64 0)), none⟩])
 (.block 0 (.loop (.seq (.seq (.ops [⟨(some 6), .mv (.tmp 5), none⟩,
  ⟨(some 7), .mv (.tmp 0), none⟩,
  ⟨(some 8), .len false (.tmp 7), none⟩,
  ⟨(some 9), .bin .lss (.tmp 6) (.tmp 8), none⟩])
 (.cond (.tmp 9) .skip (.exit 0)))
 (.seq (.block 1 (.seq (.seq (.ops [⟨(some 12), .mv (.tmp 0), none⟩,
  ⟨(some 13), .mv (.tmp 5), none⟩,
  ⟨(some 14), .ia 1 (.tmp 12) (.tmp 13), none⟩,
  ⟨(some 15), .load false 1 (.tmp 14), none⟩,
  ⟨(some 16), .mv (.tmp 1), none⟩,
  ⟨(some 17), .bin .neq (.tmp 15) (.tmp 16), none⟩])
 (.cond (.tmp 17) (.seq (.ops [⟨(some 4), .mv (.const (.int .i64 (-1))), none⟩])
 .ret) .skip))
 (.ops [⟨(some 18), .mv (.tmp 1), none⟩,
  ⟨(some 19), .bin .add (.tmp 18) (.const (.int .i64 1)), none⟩,
  ⟨(some 1), .mv (.tmp 19), none⟩])))
 (.ops [⟨(some 10), .mv (.tmp 5), none⟩,
  ⟨(some 11), .bin .add (.tmp 10) (.const (.int .i64 1)), none⟩,
  ⟨(some 5), .mv (.tmp 11), none⟩]))))))
 (.seq (.ops [⟨(some 20), .mv (.tmp 1), none⟩,
  ⟨(some 4), .mv (.tmp 20), none⟩])
 .ret)))
theorem gd94 : Good Try.prog (94, ac94, [.tmp 4], 21) := ⟨_, Try.func94, by kernel_rfl, by kernel_rfl, by kernel_rfl, by kernel_rfl⟩
def tabL : List (FuncId × ACode × List AR × Nat) := [(6, ac6, [.tmp 0], 36), (22, ac22, [.tmp 4], 26), (23, ac23, [.tmp 4], 19), (26, ac26, [.cell 0 true 4], 2), (27, ac27, [.cell 0 true 4], 2), (28, ac28, [.tmp 4], 27), (29, ac29, [.tmp 4], 14), (30, ac30, [.tmp 4], 18), (62, ac62, [.tmp 4], 27), (63, ac63, [.tmp 4], 27), (64, ac64, [.tmp 4], 62), (65, ac65, [.tmp 4], 41), (66, ac66, [.tmp 4], 76), (67, ac67, [.tmp 4], 49), (92, ac92, [.tmp 4], 41), (93, ac93, [.tmp 4], 25), (94, ac94, [.tmp 4], 21)]
theorem tab_ok : TabOk Try.prog (tabOf tabL) := tabOf_ok tabL ⟨gd6, gd22, gd23, gd26, gd27, gd28, gd29, gd30, gd62, gd63, gd64, gd65, gd66, gd67, gd92, gd93, gd94, trivial⟩
end Go.Proofs.Ytnbhalhlodnmpaa.FnExactHistStartT
