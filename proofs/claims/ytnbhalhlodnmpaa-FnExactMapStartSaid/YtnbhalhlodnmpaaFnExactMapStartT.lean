import Derived.Test.YtnbhalhlodnmpaaK18
import Derived.Test.YtnbhalhlodnmpaaChecked
import Derived.KernelRfl
namespace Go.Proofs.Ytnbhalhlodnmpaa.FnExactMapStartT
open Go.PA

/-- laws.FnExactMapStart -/
def ac7 : ACode :=
 (.seq (.ops [⟨(some 0), .mv (.const (.bool false)), none⟩])
 (.seq (.ops [⟨(some 6), .call 31 [], none⟩,
  ⟨(some 1), .alloc [(.int .i64 0), (.int .i64 0), (.int .i64 0), .nils, .nils, .nils], none⟩,
  ⟨none, .store 6 (.tmp 1) (.tmp 6), none⟩])
 (.seq (.ops [⟨(some 7), .call 32 [], none⟩,
  ⟨(some 2), .alloc [(.int .i64 0), (.int .i64 0), (.int .i64 0), .nils, .nils, .nils], none⟩,
  ⟨none, .store 6 (.tmp 2) (.tmp 7), none⟩])
 (.seq (.seq (.ops [⟨(some 8), .load true 6 (.tmp 2), none⟩,
  ⟨(some 9), .load true 6 (.tmp 1), none⟩,
  ⟨(some 10), .call 33 [(.tmp 8), (.tmp 9)], none⟩,
  ⟨(some 11), .un .not (.tmp 10), none⟩])
 (.cond (.tmp 11) (.seq (.ops [⟨(some 0), .mv (.const (.bool false)), none⟩])
 .ret) .skip))
 (.seq (.ops [⟨(some 3), .mv (.const (.int .i64 1)), none⟩])
 (.seq (.ops [⟨(some 12), .load true 6 (.tmp 2), none⟩,
  ⟨(some 13), .mv (.tmp 3), none⟩,
  ⟨(some 14), .call 34 [(.tmp 12), (.tmp 13)], none⟩,
  ⟨(some 3), .mv (.tmp 14), none⟩])
 (.seq (.ops [⟨(some 4), .mv (.const (.int .i64 1)), none⟩])
 (.seq (.ops [⟨(some 15), .load true 6 (.tmp 2), none⟩,
  ⟨(some 16), .mv (.tmp 4), none⟩,
  ⟨(some 17), .call 35 [(.tmp 15), (.tmp 16)], none⟩,
  ⟨(some 4), .mv (.tmp 17), none⟩])
 (.seq (.seq (.ops [⟨(some 18), .mv (.tmp 4), none⟩,
  ⟨(some 19), .bin .lss (.tmp 18) (.const (.int .i64 0)), none⟩])
 (.cond (.tmp 19) (.seq (.ops [⟨(some 0), .mv (.const (.bool false)), none⟩])
 .ret) .skip))
 (.seq (.seq (.ops [⟨(some 20), .mv (.tmp 4), none⟩,
  ⟨(some 21), .mv (.tmp 3), none⟩,
  ⟨(some 22), .bin .neq (.tmp 20) (.tmp 21), none⟩])
 (.cond (.tmp 22) (.seq (.ops [⟨(some 0), .mv (.const (.bool false)), none⟩])
 .ret) .skip))
 (.seq (.ops [⟨(some 23), .call 32 [], none⟩,
  ⟨(some 5), .alloc [(.int .i64 0), (.int .i64 0), (.int .i64 0), .nils, .nils, .nils], none⟩,
  ⟨none, .store 6 (.tmp 5) (.tmp 23), none⟩])
 (.seq (.seq (.ops [⟨(some 24), .load true 6 (.tmp 5), none⟩,
  ⟨(some 25), .load true 6 (.tmp 1), none⟩,
  ⟨(some 26), .call 33 [(.tmp 24), (.tmp 25)], none⟩,
  ⟨(some 27), .un .not (.tmp 26), none⟩])
 (.cond (.tmp 27) (.seq (.ops [⟨(some 0), .mv (.const (.bool false)), none⟩])
 .ret) .skip))
 (.seq (.ops [⟨(some 4), .mv (.const (.int .i64 1)), none⟩])
 (.seq (.ops [⟨(some 28), .load true 6 (.tmp 2), none⟩,
  ⟨(some 29), .mv (.tmp 4), none⟩,
  ⟨(some 30), .call 35 [(.tmp 28), (.tmp 29)], none⟩,
  ⟨(some 4), .mv (.tmp 30), none⟩])
 (.seq (.seq (.ops [⟨(some 31), .mv (.tmp 4), none⟩,
  ⟨(some 32), .bin .lss (.tmp 31) (.const (.int .i64 0)), none⟩])
 (.cond (.tmp 32) (.seq (.ops [⟨(some 0), .mv (.const (.bool false)), none⟩])
 .ret) .skip))
 (.seq (.seq (.ops [⟨(some 33), .mv (.tmp 4), none⟩,
  ⟨(some 34), .mv (.tmp 3), none⟩,
  ⟨(some 35), .bin .neq (.tmp 33) (.tmp 34), none⟩])
 (.cond (.tmp 35) (.seq (.ops [⟨(some 0), .mv (.const (.bool false)), none⟩])
 .ret) .skip))
 (.seq (.ops [⟨(some 0), .mv (.const (.bool true)), none⟩])
 .ret)))))))))))))))))
theorem gd7 : Good Try.prog (7, ac7, [.tmp 0], 36) := ⟨_, Try.func7, by kernel_rfl, by kernel_rfl, by kernel_rfl, by kernel_rfl⟩
/-- laws.eqIntS -/
def ac22 : ACode :=
 (.seq (.ops [⟨(some 4), .mv (.const (.bool false)), none⟩])
 (.seq (.seq (.ops [⟨(some 6), .mv (.tmp 0), none⟩,
  ⟨(some 7), .len false (.tmp 6), none⟩,
  ⟨(some 8), .mv (.tmp 1), none⟩,
  ⟨(some 9), .len false (.tmp 8), none⟩,
  ⟨(some 10), .bin .neq (.tmp 7) (.tmp 9), none⟩])
 (.cond (.tmp 10) (.seq (.ops [⟨(some 4), .mv (.const (.bool false)), none⟩])
 .ret) .skip))
 (.seq (.seq (.ops [⟨(some 5), .mv (.const (.int .i64 0)), none⟩])
 (.block 0 (.loop (.seq (.seq (.ops [⟨(some 11), .mv (.tmp 5), none⟩,
  ⟨(some 12), .mv (.tmp 0), none⟩,
  ⟨(some 13), .len false (.tmp 12), none⟩,
  ⟨(some 14), .bin .lss (.tmp 11) (.tmp 13), none⟩])
 (.cond (.tmp 14) .skip (.exit 0)))
 (.seq (.block 1 (.seq (.dops [⟨(some 17), .mv (.tmp 0), none⟩,
  ⟨(some 18), .mv (.tmp 5), none⟩,
  ⟨(some 19), .ia 1 (.tmp 17) (.tmp 18), none⟩,
  ⟨(some 20), .load false 1 (.tmp 19), none⟩,
  ⟨(some 21), .mv (.tmp 1), none⟩,
  ⟨(some 22), .mv (.tmp 5), none⟩,
  ⟨(some 23), .ia 1 (.tmp 21) (.tmp 22), none⟩,
  ⟨(some 24), .load false 1 (.tmp 23), none⟩,
  ⟨(some 25), .bin .neq (.tmp 20) (.tmp 24), none⟩])
 (.cond (.tmp 25) (.seq (.ops [⟨(some 4), .mv (.const (.bool false)), none⟩])
 .ret) .skip)))
 (.ops [⟨(some 15), .mv (.tmp 5), none⟩,
  ⟨(some 16), .bin .add (.tmp 15) (.const (.int .i64 1)), none⟩,
  ⟨(some 5), .mv (.tmp 16), none⟩]))))))
 (.seq (.ops [⟨(some 4), .mv (.const (.bool true)), none⟩])
 .ret))))
theorem gd22 : Good Try.prog (22, ac22, [.tmp 4], 26) := ⟨_, Try.func22, by kernel_rfl, by kernel_rfl, by kernel_rfl, by kernel_rfl⟩
/-- laws.markIntS -/
def ac23 : ACode :=
 (.seq (.ops [⟨(some 4), .mv (.const (.int .i64 0)), none⟩])
 (.seq (.seq (.ops [⟨(some 5), .mv (.const (.int .i64 0)), none⟩])
 (.block 0 (.loop (.seq (.seq (.ops [⟨(some 6), .mv (.tmp 5), none⟩,
  ⟨(some 7), .mv (.tmp 0), none⟩,
  ⟨(some 8), .len false (.tmp 7), none⟩,
  ⟨(some 9), .bin .lss (.tmp 6) (.tmp 8), none⟩])
 (.cond (.tmp 9) .skip (.exit 0)))
 (.seq (.block 1 (.seq (.ops [⟨(some 12), .mv (.tmp 0), none⟩,
  ⟨(some 13), .mv (.tmp 5), none⟩,
  ⟨(some 14), .mv (.tmp 1), none⟩,
  ⟨(some 15), .ia 1 (.tmp 12) (.tmp 13), none⟩,
  ⟨none, .store 1 (.tmp 15) (.tmp 14), none⟩])
 (.ops [⟨(some 16), .mv (.tmp 1), none⟩,
  ⟨(some 17), .bin .add (.tmp 16) (.const (.int .i64 1)), none⟩,
  ⟨(some 1), .mv (.tmp 17), none⟩])))
 (.ops [⟨(some 10), .mv (.tmp 5), none⟩,
  ⟨(some 11), .bin .add (.tmp 10) (.const (.int .i64 1)), none⟩,
  ⟨(some 5), .mv (.tmp 11), none⟩]))))))
 (.seq (.ops [⟨(some 18), .mv (.tmp 1), none⟩,
  ⟨(some 4), .mv (.tmp 18), none⟩])
 .ret)))
theorem gd23 : Good Try.prog (23, ac23, [.tmp 4], 19) := ⟨_, Try.func23, by kernel_rfl, by kernel_rfl, by kernel_rfl, by kernel_rfl⟩
/-- spec.MapStart -/
def ac31 : ACode :=
 (.seq (.ops [⟨(some 0), .alloc [(.int .i64 0), (.int .i64 0), (.int .i64 0), .nils, .nils, .nils], none⟩])
 (.seq (.ops [⟨(some 3), .build [(.int .i64 0), (.int .i64 0), (.int .i64 0), .nils, .nils, .nils] [(1, 1, (.const (.int .i64 3))), (2, 1, (.const (.int .i64 1)))], none⟩,
  ⟨(some 1), .alloc [(.int .i64 0), (.int .i64 0), (.int .i64 0), .nils, .nils, .nils], none⟩,
  ⟨none, .store 6 (.tmp 1) (.tmp 3), none⟩])
 (.seq (.seq (.ops [⟨(some 2), .mv (.const (.int .i64 0)), none⟩])
 (.block 0 (.loop (.seq (.seq (.ops [⟨(some 4), .mv (.tmp 2), none⟩,
  ⟨(some 5), .bin .lss (.tmp 4) (.const (.int .i64 3)), none⟩])
 (.cond (.tmp 5) .skip (.exit 0)))
 (.seq (.block 1 (.ops [⟨(some 8), .fa 4 (.tmp 1), none⟩,
  ⟨(some 9), .load false 1 (.tmp 8), none⟩,
  ⟨(some 10), .mv (.tmp 2), none⟩,
  ⟨(some 11), .bin .rem (.tmp 10) (.const (.int .i64 3)), none⟩,
  ⟨(some 12), .mv (.tmp 2), none⟩,
  ⟨(some 13), .bin .add (.tmp 12) (.const (.int .i64 1)), none⟩,
  ⟨(some 14), .bin .rem (.tmp 13) (.const (.int .i64 3)), none⟩,
  ⟨(some 15), .build [(.int .i64 0), (.int .i64 0), (.int .i64 0)] [(0, 1, (.const (.int .i64 1))), (1, 1, (.tmp 11)), (2, 1, (.tmp 14))], none⟩,
  ⟨(some 16), .bslice 3 1 [(.int .i64 0), (.int .i64 0), (.int .i64 0)] [(0, (.tmp 15))], none⟩,
  ⟨(some 17), .app 3 24 (.tmp 9) (.tmp 16), none⟩,
  ⟨(some 18), .fa 4 (.tmp 1), none⟩,
  ⟨none, .store 1 (.tmp 18) (.tmp 17), none⟩]))
 (.ops [⟨(some 6), .mv (.tmp 2), none⟩,
  ⟨(some 7), .bin .add (.tmp 6) (.const (.int .i64 1)), none⟩,
  ⟨(some 2), .mv (.tmp 7), none⟩]))))))
 (.seq (.ops [⟨(some 19), .load true 6 (.tmp 1), none⟩,
  ⟨none, .store 6 (.tmp 0) (.tmp 19), none⟩])
 .ret))))
theorem gd31 : Good Try.prog (31, ac31, [.cell 0 true 6], 20) := ⟨_, Try.func31, by kernel_rfl, by kernel_rfl, by kernel_rfl, by kernel_rfl⟩
/-- impl.MapStart -/
def ac32 : ACode :=
 (.seq (.ops [⟨(some 0), .alloc [(.int .i64 0), (.int .i64 0), (.int .i64 0), .nils, .nils, .nils], none⟩])
 (.seq (.ops [⟨(some 3), .build [(.int .i64 0), (.int .i64 0), (.int .i64 0), .nils, .nils, .nils] [(1, 1, (.const (.int .i64 3))), (2, 1, (.const (.int .i64 1)))], none⟩,
  ⟨(some 1), .alloc [(.int .i64 0), (.int .i64 0), (.int .i64 0), .nils, .nils, .nils], none⟩,
  ⟨none, .store 6 (.tmp 1) (.tmp 3), none⟩])
 (.seq (.seq (.ops [⟨(some 2), .mv (.const (.int .i64 0)), none⟩])
 (.block 0 (.loop (.seq (.seq (.ops [⟨(some 4), .mv (.tmp 2), none⟩,
  ⟨(some 5), .bin .lss (.tmp 4) (.const (.int .i64 3)), none⟩])
 (.cond (.tmp 5) .skip (.exit 0)))
 (.seq (.block 1 (.ops [⟨(some 8), .fa 4 (.tmp 1), none⟩,
  ⟨(some 9), .load false 1 (.tmp 8), none⟩,
  ⟨(some 10), .mv (.tmp 2), none⟩,
  ⟨(some 11), .bin .rem (.tmp 10) (.const (.int .i64 3)), none⟩,
  ⟨(some 12), .mv (.tmp 2), none⟩,
  ⟨(some 13), .bin .add (.tmp 12) (.const (.int .i64 1)), none⟩,
  ⟨(some 14), .bin .rem (.tmp 13) (.const (.int .i64 3)), none⟩,
  ⟨(some 15), .build [(.int .i64 0), (.int .i64 0), (.int .i64 0)] [(0, 1, (.const (.int .i64 1))), (1, 1, (.tmp 11)), (2, 1, (.tmp 14))], none⟩,
  ⟨(some 16), .bslice 3 1 [(.int .i64 0), (.int .i64 0), (.int .i64 0)] [(0, (.tmp 15))], none⟩,
  ⟨(some 17), .app 3 24 (.tmp 9) (.tmp 16), none⟩,
  ⟨(some 18), .fa 4 (.tmp 1), none⟩,
  ⟨none, .store 1 (.tmp 18) (.tmp 17), none⟩]))
 (.ops [⟨(some 6), .mv (.tmp 2), none⟩,
  ⟨(some 7), .bin .add (.tmp 6) (.const (.int .i64 1)), none⟩,
  ⟨(some 2), .mv (.tmp 7), none⟩]))))))
 (.seq (.ops [⟨(some 19), .load true 6 (.tmp 1), none⟩,
  ⟨(some 20), .call 68 [(.tmp 19)], none⟩,
  ⟨none, .store 6 (.tmp 0) (.tmp 20), none⟩])
 .ret))))
theorem gd32 : Good Try.prog (32, ac32, [.cell 0 true 6], 21) := ⟨_, Try.func32, by kernel_rfl, by kernel_rfl, by kernel_rfl, by kernel_rfl⟩
/-- laws.eqMapState -/
def ac33 : ACode :=
 (.seq (.ops [⟨(some 2), .box (.tmp 0), none⟩,
  ⟨(some 3), .box (.tmp 1), none⟩,
  ⟨(some 4), .mv (.const (.bool false)), none⟩])
 (.seq (.seq (.ops [⟨(some 5), .fa 0 (.tmp 2), none⟩,
  ⟨(some 6), .load false 1 (.tmp 5), none⟩,
  ⟨(some 7), .fa 0 (.tmp 3), none⟩,
  ⟨(some 8), .load false 1 (.tmp 7), none⟩,
  ⟨(some 9), .bin .neq (.tmp 6) (.tmp 8), none⟩])
 (.cond (.tmp 9) (.seq (.ops [⟨(some 4), .mv (.const (.bool false)), none⟩])
 .ret) .skip))
 (.seq (.seq (.ops [⟨(some 10), .fa 1 (.tmp 2), none⟩,
  ⟨(some 11), .load false 1 (.tmp 10), none⟩,
  ⟨(some 12), .fa 1 (.tmp 3), none⟩,
  ⟨(some 13), .load false 1 (.tmp 12), none⟩,
  ⟨(some 14), .bin .neq (.tmp 11) (.tmp 13), none⟩])
 (.cond (.tmp 14) (.seq (.ops [⟨(some 4), .mv (.const (.bool false)), none⟩])
 .ret) .skip))
 (.seq (.seq (.ops [⟨(some 15), .fa 2 (.tmp 2), none⟩,
  ⟨(some 16), .load false 1 (.tmp 15), none⟩,
  ⟨(some 17), .fa 2 (.tmp 3), none⟩,
  ⟨(some 18), .load false 1 (.tmp 17), none⟩,
  ⟨(some 19), .bin .neq (.tmp 16) (.tmp 18), none⟩])
 (.cond (.tmp 19) (.seq (.ops [⟨(some 4), .mv (.const (.bool false)), none⟩])
 .ret) .skip))
 (.seq (.seq (.ops [⟨(some 20), .fa 3 (.tmp 2), none⟩,
  ⟨(some 21), .load false 1 (.tmp 20), none⟩,
  ⟨(some 22), .fa 3 (.tmp 3), none⟩,
  ⟨(some 23), .load false 1 (.tmp 22), none⟩,
  ⟨(some 24), .call 62 [(.tmp 21), (.tmp 23)], none⟩,
  ⟨(some 25), .un .not (.tmp 24), none⟩])
 (.cond (.tmp 25) (.seq (.ops [⟨(some 4), .mv (.const (.bool false)), none⟩])
 .ret) .skip))
 (.seq (.seq (.ops [⟨(some 26), .fa 4 (.tmp 2), none⟩,
  ⟨(some 27), .load false 1 (.tmp 26), none⟩,
  ⟨(some 28), .fa 4 (.tmp 3), none⟩,
  ⟨(some 29), .load false 1 (.tmp 28), none⟩,
  ⟨(some 30), .call 69 [(.tmp 27), (.tmp 29)], none⟩,
  ⟨(some 31), .un .not (.tmp 30), none⟩])
 (.cond (.tmp 31) (.seq (.ops [⟨(some 4), .mv (.const (.bool false)), none⟩])
 .ret) .skip))
 (.seq (.seq (.ops [⟨(some 32), .fa 5 (.tmp 2), none⟩,
  ⟨(some 33), .load false 1 (.tmp 32), none⟩,
  ⟨(some 34), .fa 5 (.tmp 3), none⟩,
  ⟨(some 35), .load false 1 (.tmp 34), none⟩,
  ⟨(some 36), .call 70 [(.tmp 33), (.tmp 35)], none⟩,
  ⟨(some 37), .un .not (.tmp 36), none⟩])
 (.cond (.tmp 37) (.seq (.ops [⟨(some 4), .mv (.const (.bool false)), none⟩])
 .ret) .skip))
 (.seq (.ops [⟨(some 4), .mv (.const (.bool true)), none⟩])
 .ret))))))))
theorem gd33 : Good Try.prog (33, ac33, [.tmp 4], 38) := ⟨_, Try.func33, by kernel_rfl, by kernel_rfl, by kernel_rfl, by kernel_rfl⟩
/-- laws.markMapState -/
def ac34 : ACode :=
 (.seq (.ops [⟨(some 2), .box (.tmp 0), none⟩,
  ⟨(some 4), .mv (.const (.int .i64 0)), none⟩])
 (.seq (.ops [⟨(some 5), .fa 3 (.tmp 2), none⟩,
  ⟨(some 6), .load false 1 (.tmp 5), none⟩,
  ⟨(some 7), .mv (.tmp 1), none⟩,
  ⟨(some 8), .call 64 [(.tmp 6), (.tmp 7)], none⟩,
  ⟨(some 1), .mv (.tmp 8), none⟩])
 (.seq (.ops [⟨(some 9), .fa 4 (.tmp 2), none⟩,
  ⟨(some 10), .load false 1 (.tmp 9), none⟩,
  ⟨(some 11), .mv (.tmp 1), none⟩,
  ⟨(some 12), .call 71 [(.tmp 10), (.tmp 11)], none⟩,
  ⟨(some 1), .mv (.tmp 12), none⟩])
 (.seq (.ops [⟨(some 13), .fa 5 (.tmp 2), none⟩,
  ⟨(some 14), .load false 1 (.tmp 13), none⟩,
  ⟨(some 15), .mv (.tmp 1), none⟩,
  ⟨(some 16), .call 72 [(.tmp 14), (.tmp 15)], none⟩,
  ⟨(some 1), .mv (.tmp 16), none⟩])
 (.seq (.ops [⟨(some 17), .mv (.tmp 1), none⟩,
  ⟨(some 4), .mv (.tmp 17), none⟩])
 .ret)))))
theorem gd34 : Good Try.prog (34, ac34, [.tmp 4], 18) := ⟨_, Try.func34, by kernel_rfl, by kernel_rfl, by kernel_rfl, by kernel_rfl⟩
/-- laws.heldMapState -/
def ac35 : ACode :=
 (.seq (.ops [⟨(some 2), .box (.tmp 0), none⟩,
  ⟨(some 4), .mv (.const (.int .i64 0)), none⟩])
 (.seq (.ops [⟨(some 5), .fa 3 (.tmp 2), none⟩,
  ⟨(some 6), .load false 1 (.tmp 5), none⟩,
  ⟨(some 7), .mv (.tmp 1), none⟩,
  ⟨(some 8), .call 66 [(.tmp 6), (.tmp 7)], none⟩,
  ⟨(some 1), .mv (.tmp 8), none⟩])
 (.seq (.seq (.ops [⟨(some 9), .mv (.tmp 1), none⟩,
  ⟨(some 10), .bin .lss (.tmp 9) (.const (.int .i64 0)), none⟩])
 (.cond (.tmp 10) (.seq (.ops [⟨(some 4), .mv (.const (.int .i64 (-1))), none⟩])
 .ret) .skip))
 (.seq (.ops [⟨(some 11), .fa 4 (.tmp 2), none⟩,
  ⟨(some 12), .load false 1 (.tmp 11), none⟩,
  ⟨(some 13), .mv (.tmp 1), none⟩,
  ⟨(some 14), .call 73 [(.tmp 12), (.tmp 13)], none⟩,
  ⟨(some 1), .mv (.tmp 14), none⟩])
 (.seq (.seq (.ops [⟨(some 15), .mv (.tmp 1), none⟩,
  ⟨(some 16), .bin .lss (.tmp 15) (.const (.int .i64 0)), none⟩])
 (.cond (.tmp 16) (.seq (.ops [⟨(some 4), .mv (.const (.int .i64 (-1))), none⟩])
 .ret) .skip))
 (.seq (.ops [⟨(some 17), .fa 5 (.tmp 2), none⟩,
  ⟨(some 18), .load false 1 (.tmp 17), none⟩,
  ⟨(some 19), .mv (.tmp 1), none⟩,
  ⟨(some 20), .call 74 [(.tmp 18), (.tmp 19)], none⟩,
  ⟨(some 1), .mv (.tmp 20), none⟩])
 (.seq (.seq (.ops [⟨(some 21), .mv (.tmp 1), none⟩,
  ⟨(some 22), .bin .lss (.tmp 21) (.const (.int .i64 0)), none⟩])
 (.cond (.tmp 22) (.seq (.ops [⟨(some 4), .mv (.const (.int .i64 (-1))), none⟩])
 .ret) .skip))
 (.seq (.ops [⟨(some 23), .mv (.tmp 1), none⟩,
  ⟨(some 4), .mv (.tmp 23), none⟩])
 .ret))))))))
theorem gd35 : Good Try.prog (35, ac35, [.tmp 4], 24) := ⟨_, Try.func35, by kernel_rfl, by kernel_rfl, by kernel_rfl, by kernel_rfl⟩
/-- laws.eqMapDiskS -/
def ac62 : ACode :=
 (.seq (.ops [⟨(some 4), .mv (.const (.bool false)), none⟩])
 (.seq (.seq (.ops [⟨(some 6), .mv (.tmp 0), none⟩,
  ⟨(some 7), .len false (.tmp 6), none⟩,
  ⟨(some 8), .mv (.tmp 1), none⟩,
  ⟨(some 9), .len false (.tmp 8), none⟩,
  ⟨(some 10), .bin .neq (.tmp 7) (.tmp 9), none⟩])
 (.cond (.tmp 10) (.seq (.ops [⟨(some 4), .mv (.const (.bool false)), none⟩])
 .ret) .skip))
 (.seq (.seq (.ops [⟨(some 5), .mv (.const (.int .i64 0)), none⟩])
 (.block 0 (.loop (.seq (.seq (.ops [⟨(some 11), .mv (.tmp 5), none⟩,
  ⟨(some 12), .mv (.tmp 0), none⟩,
  ⟨(some 13), .len false (.tmp 12), none⟩,
  ⟨(some 14), .bin .lss (.tmp 11) (.tmp 13), none⟩])
 (.cond (.tmp 14) .skip (.exit 0)))
 (.seq (.block 1 (.seq (.dops [⟨(some 17), .mv (.tmp 0), none⟩,
  ⟨(some 18), .mv (.tmp 5), none⟩,
  ⟨(some 19), .ia 7 (.tmp 17) (.tmp 18), none⟩,
  ⟨(some 20), .load true 7 (.tmp 19), none⟩,
  ⟨(some 21), .mv (.tmp 1), none⟩,
  ⟨(some 22), .mv (.tmp 5), none⟩,
  ⟨(some 23), .ia 7 (.tmp 21) (.tmp 22), none⟩,
  ⟨(some 24), .load true 7 (.tmp 23), none⟩,
  ⟨(some 25), .call 92 [(.tmp 20), (.tmp 24)], none⟩,
  ⟨(some 26), .un .not (.tmp 25), none⟩])
 (.cond (.tmp 26) (.seq (.ops [⟨(some 4), .mv (.const (.bool false)), none⟩])
 .ret) .skip)))
 (.ops [⟨(some 15), .mv (.tmp 5), none⟩,
  ⟨(some 16), .bin .add (.tmp 15) (.const (.int .i64 1)), none⟩,
  ⟨(some 5), .mv (.tmp 16), none⟩]))))))
 (.seq (.ops [⟨(some 4), .mv (.const (.bool true)), none⟩])
 .ret))))
theorem gd62 : Good Try.prog (62, ac62, [.tmp 4], 27) := ⟨_, Try.func62, by kernel_rfl, by kernel_rfl, by kernel_rfl, by kernel_rfl⟩
/-- laws.markMapDiskS -/
def ac64 : ACode :=
 (.seq (.ops [⟨(some 4), .mv (.const (.int .i64 0)), none⟩])
 (.seq (.seq (.ops [⟨(some 5), .mv (.const (.int .i64 0)), none⟩])
 (.block 0 (.loop (.seq (.seq (.ops [⟨(some 6), .mv (.tmp 5), none⟩,
  ⟨(some 7), .mv (.tmp 0), none⟩,
  ⟨(some 8), .len false (.tmp 7), none⟩,
  ⟨(some 9), .bin .lss (.tmp 6) (.tmp 8), none⟩])
 (.cond (.tmp 9) .skip (.exit 0)))
 (.seq (.block 1 (.seq (.ops [⟨(some 12), .mv (.tmp 0), none⟩,
  ⟨(some 13), .mv (.tmp 5), none⟩,
  ⟨(some 14), .mv (.tmp 1), none⟩,
  ⟨(some 15), .ia 7 (.tmp 12) (.tmp 13), none⟩,
  ⟨(some 16), .fa 0 (.tmp 15), none⟩,
  ⟨none, .store 1 (.tmp 16) (.tmp 14), none⟩])
 (.seq (.ops [⟨(some 17), .mv (.tmp 1), none⟩,
  ⟨(some 18), .bin .add (.tmp 17) (.const (.int .i64 1)), none⟩,
  ⟨(some 1), .mv (.tmp 18), none⟩])
 (.seq (.ops [⟨(some 19), .mv (.tmp 0), none⟩,
  ⟨(some 20), .mv (.tmp 5), none⟩,
  ⟨(some 21), .mv (.tmp 1), none⟩,
  ⟨(some 22), .ia 7 (.tmp 19) (.tmp 20), none⟩,
  ⟨(some 23), .fa 1 (.tmp 22), none⟩,
  ⟨none, .store 1 (.tmp 23) (.tmp 21), none⟩])
 (.seq (.ops [⟨(some 24), .mv (.tmp 1), none⟩,
  ⟨(some 25), .bin .add (.tmp 24) (.const (.int .i64 1)), none⟩,
  ⟨(some 1), .mv (.tmp 25), none⟩])
 (.seq (.ops [⟨(some 26), .mv (.tmp 0), none⟩,
  ⟨(some 27), .mv (.tmp 5), none⟩,
  ⟨(some 28), .mv (.tmp 1), none⟩,
  ⟨(some 29), .ia 7 (.tmp 26) (.tmp 27), none⟩,
  ⟨(some 30), .fa 2 (.tmp 29), none⟩,
  ⟨none, .store 1 (.tmp 30) (.tmp 28), none⟩])
 (.seq (.ops [⟨(some 31), .mv (.tmp 1), none⟩,
  ⟨(some 32), .bin .add (.tmp 31) (.const (.int .i64 1)), none⟩,
  ⟨(some 1), .mv (.tmp 32), none⟩])
 (.seq (.ops [⟨(some 33), .mv (.tmp 0), none⟩,
  ⟨(some 34), .mv (.tmp 5), none⟩,
  ⟨(some 35), .mv (.tmp 1), none⟩,
  ⟨(some 36), .ia 7 (.tmp 33) (.tmp 34), none⟩,
  ⟨(some 37), .fa 3 (.tmp 36), none⟩,
  ⟨none, .store 1 (.tmp 37) (.tmp 35), none⟩])
 (.seq (.ops [⟨(some 38), .mv (.tmp 1), none⟩,
  ⟨(some 39), .bin .add (.tmp 38) (.const (.int .i64 1)), none⟩,
  ⟨(some 1), .mv (.tmp 39), none⟩])
 (.seq (.ops [⟨(some 40), .mv (.tmp 0), none⟩,
  ⟨(some 41), .mv (.tmp 5), none⟩,
  ⟨(some 42), .mv (.tmp 1), none⟩,
  ⟨(some 43), .ia 7 (.tmp 40) (.tmp 41), none⟩,
  ⟨(some 44), .fa 4 (.tmp 43), none⟩,
  ⟨none, .store 1 (.tmp 44) (.tmp 42), none⟩])
 (.seq (.ops [⟨(some 45), .mv (.tmp 1), none⟩,
  ⟨(some 46), .bin .add (.tmp 45) (.const (.int .i64 1)), none⟩,
  ⟨(some 1), .mv (.tmp 46), none⟩])
 (.seq (.ops [⟨(some 47), .mv (.tmp 0), none⟩,
  ⟨(some 48), .mv (.tmp 5), none⟩,
  ⟨(some 49), .mv (.tmp 1), none⟩,
  ⟨(some 50), .ia 7 (.tmp 47) (.tmp 48), none⟩,
  ⟨(some 51), .fa 5 (.tmp 50), none⟩,
  ⟨none, .store 1 (.tmp 51) (.tmp 49), none⟩])
 (.seq (.ops [⟨(some 52), .mv (.tmp 1), none⟩,
  ⟨(some 53), .bin .add (.tmp 52) (.const (.int .i64 1)), none⟩,
  ⟨(some 1), .mv (.tmp 53), none⟩])
 (.ops [⟨(some 54), .mv (.tmp 0), none⟩,
  ⟨(some 55), .mv (.tmp 5), none⟩,
  ⟨(some 56), .ia 7 (.tmp 54) (.tmp 55), none⟩,
  ⟨(some 57), .fa 6 (.tmp 56), none⟩,
  ⟨(some 58), .load false 1 (.tmp 57), none⟩,
  ⟨(some 59), .mv (.tmp 1), none⟩,
  ⟨(some 60), .call 23 [(.tmp 58), (.tmp 59)], none⟩,
  ⟨(some 1), .mv (.tmp 60), none⟩]))))))))))))))
 (.ops [⟨(some 10), .mv (.tmp 5), none⟩,
  ⟨(some 11), .bin .add (.tmp 10) (.const (.int .i64 1)), none⟩,
  ⟨(some 5), .mv (.tmp 11), none⟩]))))))
 (.seq (.ops [⟨(some 61), .mv (.tmp 1), none⟩,
  ⟨(some 4), .mv (.tmp 61), none⟩])
 .ret)))
theorem gd64 : Good Try.prog (64, ac64, [.tmp 4], 62) := ⟨_, Try.func64, by kernel_rfl, by kernel_rfl, by kernel_rfl, by kernel_rfl⟩
/-- laws.heldMapDiskS -/
def ac66 : ACode :=
 (.seq (.ops [⟨(some 4), .mv (.const (.int .i64 0)), none⟩])
 (.seq (.seq (.ops [⟨(some 5), .mv (.const (.int .i64 0)), none⟩])
 (.block 0 (.loop (.seq (.seq (.ops [⟨(some 6), .mv (.tmp 5), none⟩,
  ⟨(some 7), .mv (.tmp 0), none⟩,
  ⟨(some 8), .len false (.tmp 7), none⟩,
  ⟨(some 9), .bin .lss (.tmp 6) (.tmp 8), none⟩])
 (.cond (.tmp 9) .skip (.exit 0)))
 (.seq (.block 1 (.seq (.seq (.ops [⟨(some 12), .mv (.tmp 0), none⟩,
  ⟨(some 13), .mv (.tmp 5), none⟩,
  ⟨(some 14), .ia 7 (.tmp 12) (.tmp 13), none⟩,
  ⟨(some 15), .fa 0 (.tmp 14), none⟩,
  ⟨(some 16), .load false 1 (.tmp 15), none⟩,
  ⟨(some 17), .mv (.tmp 1), none⟩,
  ⟨(some 18), .bin .neq (.tmp 16) (.tmp 17), none⟩])
 (.cond (.tmp 18) (.seq (.ops [⟨(some 4), .mv (.const (.int .i64 (-1))), none⟩])
 .ret) .skip))
 (.seq (.ops [⟨(some 19), .mv (.tmp 1), none⟩,
  ⟨(some 20), .bin .add (.tmp 19) (.const (.int .i64 1)), none⟩,
  ⟨(some 1), .mv (.tmp 20), none⟩])
 (.seq (.seq (.ops [⟨(some 21), .mv (.tmp 0), none⟩,
  ⟨(some 22), .mv (.tmp 5), none⟩,
  ⟨(some 23), .ia 7 (.tmp 21) (.tmp 22), none⟩,
  ⟨(some 24), .fa 1 (.tmp 23), none⟩,
  ⟨(some 25), .load false 1 (.tmp 24), none⟩,
  ⟨(some 26), .mv (.tmp 1), none⟩,
  ⟨(some 27), .bin .neq (.tmp 25) (.tmp 26), none⟩])
 (.cond (.tmp 27) (.seq (.ops [⟨(some 4), .mv (.const (.int .i64 (-1))), none⟩])
 .ret) .skip))
 (.seq (.ops [⟨(some 28), .mv (.tmp 1), none⟩,
  ⟨(some 29), .bin .add (.tmp 28) (.const (.int .i64 1)), none⟩,
  ⟨(some 1), .mv (.tmp 29), none⟩])
 (.seq (.seq (.ops [⟨(some 30), .mv (.tmp 0), none⟩,
  ⟨(some 31), .mv (.tmp 5), none⟩,
  ⟨(some 32), .ia 7 (.tmp 30) (.tmp 31), none⟩,
  ⟨(some 33), .fa 2 (.tmp 32), none⟩,
  ⟨(some 34), .load false 1 (.tmp 33), none⟩,
  ⟨(some 35), .mv (.tmp 1), none⟩,
  ⟨(some 36), .bin .neq (.tmp 34) (.tmp 35), none⟩])
 (.cond (.tmp 36) (.seq (.ops [⟨(some 4), .mv (.const (.int .i64 (-1))), none⟩])
 .ret) .skip))
 (.seq (.ops [⟨(some 37), .mv (.tmp 1), none⟩,
  ⟨(some 38), .bin .add (.tmp 37) (.const (.int .i64 1)), none⟩,
  ⟨(some 1), .mv (.tmp 38), none⟩])
 (.seq (.seq (.ops [⟨(some 39), .mv (.tmp 0), none⟩,
  ⟨(some 40), .mv (.tmp 5), none⟩,
  ⟨(some 41), .ia 7 (.tmp 39) (.tmp 40), none⟩,
  ⟨(some 42), .fa 3 (.tmp 41), none⟩,
  ⟨(some 43), .load false 1 (.tmp 42), none⟩,
  ⟨(some 44), .mv (.tmp 1), none⟩,
  ⟨(some 45), .bin .neq (.tmp 43) (.tmp 44), none⟩])
 (.cond (.tmp 45) (.seq (.ops [⟨(some 4), .mv (.const (.int .i64 (-1))), none⟩])
 .ret) .skip))
 (.seq (.ops [⟨(some 46), .mv (.tmp 1), none⟩,
  ⟨(some 47), .bin .add (.tmp 46) (.const (.int .i64 1)), none⟩,
  ⟨(some 1), .mv (.tmp 47), none⟩])
 (.seq (.seq (.ops [⟨(some 48), .mv (.tmp 0), none⟩,
  ⟨(some 49), .mv (.tmp 5), none⟩,
  ⟨(some 50), .ia 7 (.tmp 48) (.tmp 49), none⟩,
  ⟨(some 51), .fa 4 (.tmp 50), none⟩,
  ⟨(some 52), .load false 1 (.tmp 51), none⟩,
  ⟨(some 53), .mv (.tmp 1), none⟩,
  ⟨(some 54), .bin .neq (.tmp 52) (.tmp 53), none⟩])
 (.cond (.tmp 54) (.seq (.ops [⟨(some 4), .mv (.const (.int .i64 (-1))), none⟩])
 .ret) .skip))
 (.seq (.ops [⟨(some 55), .mv (.tmp 1), none⟩,
  ⟨(some 56), .bin .add (.tmp 55) (.const (.int .i64 1)), none⟩,
  ⟨(some 1), .mv (.tmp 56), none⟩])
 (.seq (.seq (.ops [⟨(some 57), .mv (.tmp 0), none⟩,
  ⟨(some 58), .mv (.tmp 5), none⟩,
  ⟨(some 59), .ia 7 (.tmp 57) (.tmp 58), none⟩,
  ⟨(some 60), .fa 5 (.tmp 59), none⟩,
  ⟨(some 61), .load false 1 (.tmp 60), none⟩,
  ⟨(some 62), .mv (.tmp 1), none⟩,
  ⟨(some 63), .bin .neq (.tmp 61) (.tmp 62), none⟩])
 (.cond (.tmp 63) (.seq (.ops [⟨(some 4), .mv (.const (.int .i64 (-1))), none⟩])
 .ret) .skip))
 (.seq (.ops [⟨(some 64), .mv (.tmp 1), none⟩,
  ⟨(some 65), .bin .add (.tmp 64) (.const (.int .i64 1)), none⟩,
  ⟨(some 1), .mv (.tmp 65), none⟩])
 (.seq (.ops [⟨(some 66), .mv (.tmp 0), none⟩,
  ⟨(some 67), .mv (.tmp 5), none⟩,
  ⟨(some 68), .ia 7 (.tmp 66) (.tmp 67), none⟩,
  ⟨(some 69), .fa 6 (.tmp 68), none⟩,
  ⟨(some 70), .load false 1 (.tmp 69), none⟩,
  ⟨(some 71), .mv (.tmp 1), none⟩,
  ⟨(some 72), .call 94 [(.tmp 70), (.tmp 71)], none⟩,
  ⟨(some 1), .mv (.tmp 72), none⟩])
 (.seq (.ops [⟨(some 73), .mv (.tmp 1), none⟩,
  ⟨(some 74), .bin .lss (.tmp 73) (.const (.int .i64 0)), none⟩])
 (.cond (.tmp 74) (.seq (.ops [⟨(some 4), .mv (.const (.int .i64 (-1))), none⟩])
 .ret) .skip))))))))))))))))
 (.ops [⟨(some 10), .mv (.tmp 5), none⟩,
  ⟨(some 11), .bin .add (.tmp 10) (.const (.int .i64 1)), none⟩,
  ⟨(some 5), .mv (.tmp 11), none⟩]))))))
 (.seq (.ops [⟨(some 75), .mv (.tmp 1), none⟩,
  ⟨(some 4), .mv (.tmp 75), none⟩])
 .ret)))
theorem gd66 : Good Try.prog (66, ac66, [.tmp 4], 76) := ⟨_, Try.func66, by kernel_rfl, by kernel_rfl, by kernel_rfl, by kernel_rfl⟩
/-- impl.mapCopy -/
def ac68 : ACode :=
 (.seq (.ops [⟨(some 1), .box (.tmp 0), none⟩,
  ⟨(some 2), .alloc [(.int .i64 0), (.int .i64 0), (.int .i64 0), .nils, .nils, .nils], none⟩])
 (.seq (.ops [⟨(some 4), .load true 6 (.tmp 1), none⟩,
  ⟨(some 3), .alloc [(.int .i64 0), (.int .i64 0), (.int .i64 0), .nils, .nils, .nils], none⟩,
  ⟨none, .store 6 (.tmp 3) (.tmp 4), none⟩])
 (.seq (.ops [⟨(some 5), .fa 3 (.tmp 1), none⟩,
  ⟨(some 6), .load false 1 (.tmp 5), none⟩,
  ⟨(some 7), .call 95 [(.tmp 6)], none⟩,
  ⟨(some 8), .fa 3 (.tmp 3), none⟩,
  ⟨none, .store 1 (.tmp 8) (.tmp 7), none⟩])
 (.seq (.ops [⟨(some 9), .fa 4 (.tmp 1), none⟩,
  ⟨(some 10), .load false 1 (.tmp 9), none⟩,
  ⟨(some 11), .call 96 [(.tmp 10)], none⟩,
  ⟨(some 12), .fa 4 (.tmp 3), none⟩,
  ⟨none, .store 1 (.tmp 12) (.tmp 11), none⟩])
 (.seq (.ops [⟨(some 13), .fa 5 (.tmp 1), none⟩,
  ⟨(some 14), .load false 1 (.tmp 13), none⟩,
  ⟨(some 15), .call 97 [(.tmp 14)], none⟩,
  ⟨(some 16), .fa 5 (.tmp 3), none⟩,
  ⟨none, .store 1 (.tmp 16) (.tmp 15), none⟩])
 (.seq (.ops [⟨(some 17), .load true 6 (.tmp 3), none⟩,
  ⟨none, .store 6 (.tmp 2) (.tmp 17), none⟩])
 .ret))))))
theorem gd68 : Good Try.prog (68, ac68, [.cell 2 true 6], 18) := ⟨_, Try.func68, by kernel_rfl, by kernel_rfl, by kernel_rfl, by kernel_rfl⟩
/-- laws.eqMapViewS -/
def ac69 : ACode :=
 (.seq (.ops [⟨(some 4), .mv (.const (.bool false)), none⟩])
 (.seq (.seq (.ops [⟨(some 6), .mv (.tmp 0), none⟩,
  ⟨(some 7), .len false (.tmp 6), none⟩,
  ⟨(some 8), .mv (.tmp 1), none⟩,
  ⟨(some 9), .len false (.tmp 8), none⟩,
  ⟨(some 10), .bin .neq (.tmp 7) (.tmp 9), none⟩])
 (.cond (.tmp 10) (.seq (.ops [⟨(some 4), .mv (.const (.bool false)), none⟩])
 .ret) .skip))
 (.seq (.seq (.ops [⟨(some 5), .mv (.const (.int .i64 0)), none⟩])
 (.block 0 (.loop (.seq (.seq (.ops [⟨(some 11), .mv (.tmp 5), none⟩,
  ⟨(some 12), .mv (.tmp 0), none⟩,
  ⟨(some 13), .len false (.tmp 12), none⟩,
  ⟨(some 14), .bin .lss (.tmp 11) (.tmp 13), none⟩])
 (.cond (.tmp 14) .skip (.exit 0)))
 (.seq (.block 1 (.seq (.dops [⟨(some 17), .mv (.tmp 0), none⟩,
  ⟨(some 18), .mv (.tmp 5), none⟩,
  ⟨(some 19), .ia 3 (.tmp 17) (.tmp 18), none⟩,
  ⟨(some 20), .load true 3 (.tmp 19), none⟩,
  ⟨(some 21), .mv (.tmp 1), none⟩,
  ⟨(some 22), .mv (.tmp 5), none⟩,
  ⟨(some 23), .ia 3 (.tmp 21) (.tmp 22), none⟩,
  ⟨(some 24), .load true 3 (.tmp 23), none⟩,
  ⟨(some 25), .call 98 [(.tmp 20), (.tmp 24)], none⟩,
  ⟨(some 26), .un .not (.tmp 25), none⟩])
 (.cond (.tmp 26) (.seq (.ops [⟨(some 4), .mv (.const (.bool false)), none⟩])
 .ret) .skip)))
 (.ops [⟨(some 15), .mv (.tmp 5), none⟩,
  ⟨(some 16), .bin .add (.tmp 15) (.const (.int .i64 1)), none⟩,
  ⟨(some 5), .mv (.tmp 16), none⟩]))))))
 (.seq (.ops [⟨(some 4), .mv (.const (.bool true)), none⟩])
 .ret))))
theorem gd69 : Good Try.prog (69, ac69, [.tmp 4], 27) := ⟨_, Try.func69, by kernel_rfl, by kernel_rfl, by kernel_rfl, by kernel_rfl⟩
/-- laws.eqMapDoneS -/
def ac70 : ACode :=
 (.seq (.ops [⟨(some 4), .mv (.const (.bool false)), none⟩])
 (.seq (.seq (.ops [⟨(some 6), .mv (.tmp 0), none⟩,
  ⟨(some 7), .len false (.tmp 6), none⟩,
  ⟨(some 8), .mv (.tmp 1), none⟩,
  ⟨(some 9), .len false (.tmp 8), none⟩,
  ⟨(some 10), .bin .neq (.tmp 7) (.tmp 9), none⟩])
 (.cond (.tmp 10) (.seq (.ops [⟨(some 4), .mv (.const (.bool false)), none⟩])
 .ret) .skip))
 (.seq (.seq (.ops [⟨(some 5), .mv (.const (.int .i64 0)), none⟩])
 (.block 0 (.loop (.seq (.seq (.ops [⟨(some 11), .mv (.tmp 5), none⟩,
  ⟨(some 12), .mv (.tmp 0), none⟩,
  ⟨(some 13), .len false (.tmp 12), none⟩,
  ⟨(some 14), .bin .lss (.tmp 11) (.tmp 13), none⟩])
 (.cond (.tmp 14) .skip (.exit 0)))
 (.seq (.block 1 (.seq (.dops [⟨(some 17), .mv (.tmp 0), none⟩,
  ⟨(some 18), .mv (.tmp 5), none⟩,
  ⟨(some 19), .ia 4 (.tmp 17) (.tmp 18), none⟩,
  ⟨(some 20), .load true 4 (.tmp 19), none⟩,
  ⟨(some 21), .mv (.tmp 1), none⟩,
  ⟨(some 22), .mv (.tmp 5), none⟩,
  ⟨(some 23), .ia 4 (.tmp 21) (.tmp 22), none⟩,
  ⟨(some 24), .load true 4 (.tmp 23), none⟩,
  ⟨(some 25), .call 99 [(.tmp 20), (.tmp 24)], none⟩,
  ⟨(some 26), .un .not (.tmp 25), none⟩])
 (.cond (.tmp 26) (.seq (.ops [⟨(some 4), .mv (.const (.bool false)), none⟩])
 .ret) .skip)))
 (.ops [⟨(some 15), .mv (.tmp 5), none⟩,
  ⟨(some 16), .bin .add (.tmp 15) (.const (.int .i64 1)), none⟩,
  ⟨(some 5), .mv (.tmp 16), none⟩]))))))
 (.seq (.ops [⟨(some 4), .mv (.const (.bool true)), none⟩])
 .ret))))
theorem gd70 : Good Try.prog (70, ac70, [.tmp 4], 27) := ⟨_, Try.func70, by kernel_rfl, by kernel_rfl, by kernel_rfl, by kernel_rfl⟩
/-- laws.markMapViewS -/
def ac71 : ACode :=
 (.seq (.ops [⟨(some 4), .mv (.const (.int .i64 0)), none⟩])
 (.seq (.seq (.ops [⟨(some 5), .mv (.const (.int .i64 0)), none⟩])
 (.block 0 (.loop (.seq (.seq (.ops [⟨(some 6), .mv (.tmp 5), none⟩,
  ⟨(some 7), .mv (.tmp 0), none⟩,
  ⟨(some 8), .len false (.tmp 7), none⟩,
  ⟨(some 9), .bin .lss (.tmp 6) (.tmp 8), none⟩])
 (.cond (.tmp 9) .skip (.exit 0)))
 (.seq (.block 1 (.seq (.ops [⟨(some 12), .mv (.tmp 0), none⟩,
  ⟨(some 13), .mv (.tmp 5), none⟩,
  ⟨(some 14), .mv (.tmp 1), none⟩,
  ⟨(some 15), .ia 3 (.tmp 12) (.tmp 13), none⟩,
  ⟨(some 16), .fa 0 (.tmp 15), none⟩,
  ⟨none, .store 1 (.tmp 16) (.tmp 14), none⟩])
 (.seq (.ops [⟨(some 17), .mv (.tmp 1), none⟩,
  ⟨(some 18), .bin .add (.tmp 17) (.const (.int .i64 1)), none⟩,
  ⟨(some 1), .mv (.tmp 18), none⟩])
 (.seq (.ops [⟨(some 19), .mv (.tmp 0), none⟩,
  ⟨(some 20), .mv (.tmp 5), none⟩,
  ⟨(some 21), .mv (.tmp 1), none⟩,
  ⟨(some 22), .ia 3 (.tmp 19) (.tmp 20), none⟩,
  ⟨(some 23), .fa 1 (.tmp 22), none⟩,
  ⟨none, .store 1 (.tmp 23) (.tmp 21), none⟩])
 (.seq (.ops [⟨(some 24), .mv (.tmp 1), none⟩,
  ⟨(some 25), .bin .add (.tmp 24) (.const (.int .i64 1)), none⟩,
  ⟨(some 1), .mv (.tmp 25), none⟩])
 (.seq (.ops [⟨(some 26), .mv (.tmp 0), none⟩,
  ⟨(some 27), .mv (.tmp 5), none⟩,
  ⟨(some 28), .mv (.tmp 1), none⟩,
  ⟨(some 29), .ia 3 (.tmp 26) (.tmp 27), none⟩,
  ⟨(some 30), .fa 2 (.tmp 29), none⟩,
  ⟨none, .store 1 (.tmp 30) (.tmp 28), none⟩])
 (.ops [⟨(some 31), .mv (.tmp 1), none⟩,
  ⟨(some 32), .bin .add (.tmp 31) (.const (.int .i64 1)), none⟩,
  ⟨(some 1), .mv (.tmp 32), none⟩])))))))
 (.ops [⟨(some 10), .mv (.tmp 5), none⟩,
  ⟨(some 11), .bin .add (.tmp 10) (.const (.int .i64 1)), none⟩,
  ⟨(some 5), .mv (.tmp 11), none⟩]))))))
 (.seq (.ops [⟨(some 33), .mv (.tmp 1), none⟩,
  ⟨(some 4), .mv (.tmp 33), none⟩])
 .ret)))
theorem gd71 : Good Try.prog (71, ac71, [.tmp 4], 34) := ⟨_, Try.func71, by kernel_rfl, by kernel_rfl, by kernel_rfl, by kernel_rfl⟩
/-- laws.markMapDoneS -/
def ac72 : ACode :=
 (.seq (.ops [⟨(some 4), .mv (.const (.int .i64 0)), none⟩])
 (.seq (.seq (.ops [⟨(some 5), .mv (.const (.int .i64 0)), none⟩])
 (.block 0 (.loop (.seq (.seq (.ops [⟨(some 6), .mv (.tmp 5), none⟩,
  ⟨(some 7), .mv (.tmp 0), none⟩,
  ⟨(some 8), .len false (.tmp 7), none⟩,
  ⟨(some 9), .bin .lss (.tmp 6) (.tmp 8), none⟩])
 (.cond (.tmp 9) .skip (.exit 0)))
 (.seq (.block 1 (.seq (.ops [⟨(some 12), .mv (.tmp 0), none⟩,
  ⟨(some 13), .mv (.tmp 5), none⟩,
  ⟨(some 14), .mv (.tmp 1), none⟩,
  ⟨(some 15), .ia 4 (.tmp 12) (.tmp 13), none⟩,
  ⟨(some 16), .fa 0 (.tmp 15), none⟩,
  ⟨none, .store 1 (.tmp 16) (.tmp 14), none⟩])
 (.seq (.ops [⟨(some 17), .mv (.tmp 1), none⟩,
  ⟨(some 18), .bin .add (.tmp 17) (.const (.int .i64 1)), none⟩,
  ⟨(some 1), .mv (.tmp 18), none⟩])
 (.seq (.ops [⟨(some 19), .mv (.tmp 0), none⟩,
  ⟨(some 20), .mv (.tmp 5), none⟩,
  ⟨(some 21), .mv (.tmp 1), none⟩,
  ⟨(some 22), .ia 4 (.tmp 19) (.tmp 20), none⟩,
  ⟨(some 23), .fa 1 (.tmp 22), none⟩,
  ⟨none, .store 1 (.tmp 23) (.tmp 21), none⟩])
 (.seq (.ops [⟨(some 24), .mv (.tmp 1), none⟩,
  ⟨(some 25), .bin .add (.tmp 24) (.const (.int .i64 1)), none⟩,
  ⟨(some 1), .mv (.tmp 25), none⟩])
 (.seq (.ops [⟨(some 26), .mv (.tmp 0), none⟩,
  ⟨(some 27), .mv (.tmp 5), none⟩,
  ⟨(some 28), .mv (.tmp 1), none⟩,
  ⟨(some 29), .ia 4 (.tmp 26) (.tmp 27), none⟩,
  ⟨(some 30), .fa 2 (.tmp 29), none⟩,
  ⟨none, .store 1 (.tmp 30) (.tmp 28), none⟩])
 (.seq (.ops [⟨(some 31), .mv (.tmp 1), none⟩,
  ⟨(some 32), .bin .add (.tmp 31) (.const (.int .i64 1)), none⟩,
  ⟨(some 1), .mv (.tmp 32), none⟩])
 (.seq (.ops [⟨(some 33), .mv (.tmp 0), none⟩,
  ⟨(some 34), .mv (.tmp 5), none⟩,
  ⟨(some 35), .mv (.tmp 1), none⟩,
  ⟨(some 36), .ia 4 (.tmp 33) (.tmp 34), none⟩,
  ⟨(some 37), .fa 3 (.tmp 36), none⟩,
  ⟨none, .store 1 (.tmp 37) (.tmp 35), none⟩])
 (.ops [⟨(some 38), .mv (.tmp 1), none⟩,
  ⟨(some 39), .bin .add (.tmp 38) (.const (.int .i64 1)), none⟩,
  ⟨(some 1), .mv (.tmp 39), none⟩])))))))))
 (.ops [⟨(some 10), .mv (.tmp 5), none⟩,
  ⟨(some 11), .bin .add (.tmp 10) (.const (.int .i64 1)), none⟩,
  ⟨(some 5), .mv (.tmp 11), none⟩]))))))
 (.seq (.ops [⟨(some 40), .mv (.tmp 1), none⟩,
  ⟨(some 4), .mv (.tmp 40), none⟩])
 .ret)))
theorem gd72 : Good Try.prog (72, ac72, [.tmp 4], 41) := ⟨_, Try.func72, by kernel_rfl, by kernel_rfl, by kernel_rfl, by kernel_rfl⟩
/-- laws.heldMapViewS -/
def ac73 : ACode :=
 (.seq (.ops [⟨(some 4), .mv (.const (.int .i64 0)), none⟩])
 (.seq (.seq (.ops [⟨(some 5), .mv (.const (.int .i64 0)), none⟩])
 (.block 0 (.loop (.seq (.seq (.ops [⟨(some 6), .mv (.tmp 5), none⟩,
  ⟨(some 7), .mv (.tmp 0), none⟩,
  ⟨(some 8), .len false (.tmp 7), none⟩,
  ⟨(some 9), .bin .lss (.tmp 6) (.tmp 8), none⟩])
 (.cond (.tmp 9) .skip (.exit 0)))
 (.seq (.block 1 (.seq (.seq (.ops [⟨(some 12), .mv (.tmp 0), none⟩,
  ⟨(some 13), .mv (.tmp 5), none⟩,
  ⟨(some 14), .ia 3 (.tmp 12) (.tmp 13), none⟩,
  ⟨(some 15), .fa 0 (.tmp 14), none⟩,
  ⟨(some 16), .load false 1 (.tmp 15), none⟩,
  ⟨(some 17), .mv (.tmp 1), none⟩,
  ⟨(some 18), .bin .neq (.tmp 16) (.tmp 17), none⟩])
 (.cond (.tmp 18) (.seq (.ops [⟨(some 4), .mv (.const (.int .i64 (-1))), none⟩])
 .ret) .skip))
 (.seq (.ops [⟨(some 19), .mv (.tmp 1), none⟩,
  ⟨(some 20), .bin .add (.tmp 19) (.const (.int .i64 1)), none⟩,
  ⟨(some 1), .mv (.tmp 20), none⟩])
 (.seq (.seq (.ops [⟨(some 21), .mv (.tmp 0), none⟩,
  ⟨(some 22), .mv (.tmp 5), none⟩,
  ⟨(some 23), .ia 3 (.tmp 21) (.tmp 22), none⟩,
  ⟨(some 24), .fa 1 (.tmp 23), none⟩,
  ⟨(some 25), .load false 1 (.tmp 24), none⟩,
  ⟨(some 26), .mv (.tmp 1), none⟩,
  ⟨(some 27), .bin .neq (.tmp 25) (.tmp 26), none⟩])
 (.cond (.tmp 27) (.seq (.ops [⟨(some 4), .mv (.const (.int .i64 (-1))), none⟩])
 .ret) .skip))
 (.seq (.ops [⟨(some 28), .mv (.tmp 1), none⟩,
  ⟨(some 29), .bin .add (.tmp 28) (.const (.int .i64 1)), none⟩,
  ⟨(some 1), .mv (.tmp 29), none⟩])
 (.seq (.seq (.ops [⟨(some 30), .mv (.tmp 0), none⟩,
  ⟨(some 31), .mv (.tmp 5), none⟩,
  ⟨(some 32), .ia 3 (.tmp 30) (.tmp 31), none⟩,
  ⟨(some 33), .fa 2 (.tmp 32), none⟩,
  ⟨(some 34), .load false 1 (.tmp 33), none⟩,
  ⟨(some 35), .mv (.tmp 1), none⟩,
  ⟨(some 36), .bin .neq (.tmp 34) (.tmp 35), none⟩])
 (.cond (.tmp 36) (.seq (.ops [⟨(some 4), .mv (.const (.int .i64 (-1))), none⟩])
 .ret) .skip))
 (.ops [⟨(some 37), .mv (.tmp 1), none⟩,
  ⟨(some 38), .bin .add (.tmp 37) (.const (.int .i64 1)), none⟩,
  ⟨(some 1), .mv (.tmp 38), none⟩])))))))
 (.ops [⟨(some 10), .mv (.tmp 5), none⟩,
  ⟨(some 11), .bin .add (.tmp 10) (.const (.int .i64 1)), none⟩,
  ⟨(some 5), .mv (.tmp 11), none⟩]))))))
 (.seq (.ops [⟨(some 39), .mv (.tmp 1), none⟩,
  ⟨(some 4), .mv (.tmp 39), none⟩])
 .ret)))
theorem gd73 : Good Try.prog (73, ac73, [.tmp 4], 40) := ⟨_, Try.func73, by kernel_rfl, by kernel_rfl, by kernel_rfl, by kernel_rfl⟩
/-- laws.heldMapDoneS -/
def ac74 : ACode :=
 (.seq (.ops [⟨(some 4), .mv (.const (.int .i64 0)), none⟩])
 (.seq (.seq (.ops [⟨(some 5), .mv (.const (.int .i64 0)), none⟩])
 (.block 0 (.loop (.seq (.seq (.ops [⟨(some 6), .mv (.tmp 5), none⟩,
  ⟨(some 7), .mv (.tmp 0), none⟩,
  ⟨(some 8), .len false (.tmp 7), none⟩,
  ⟨(some 9), .bin .lss (.tmp 6) (.tmp 8), none⟩])
 (.cond (.tmp 9) .skip (.exit 0)))
 (.seq (.block 1 (.seq (.seq (.ops [⟨(some 12), .mv (.tmp 0), none⟩,
  ⟨(some 13), .mv (.tmp 5), none⟩,
  ⟨(some 14), .ia 4 (.tmp 12) (.tmp 13), none⟩,
  ⟨(some 15), .fa 0 (.tmp 14), none⟩,
  ⟨(some 16), .load false 1 (.tmp 15), none⟩,
  ⟨(some 17), .mv (.tmp 1), none⟩,
  ⟨(some 18), .bin .neq (.tmp 16) (.tmp 17), none⟩])
 (.cond (.tmp 18) (.seq (.ops [⟨(some 4), .mv (.const (.int .i64 (-1))), none⟩])
 .ret) .skip))
 (.seq (.ops [⟨(some 19), .mv (.tmp 1), none⟩,
  ⟨(some 20), .bin .add (.tmp 19) (.const (.int .i64 1)), none⟩,
  ⟨(some 1), .mv (.tmp 20), none⟩])
 (.seq (.seq (.ops [⟨(some 21), .mv (.tmp 0), none⟩,
  ⟨(some 22), .mv (.tmp 5), none⟩,
  ⟨(some 23), .ia 4 (.tmp 21) (.tmp 22), none⟩,
  ⟨(some 24), .fa 1 (.tmp 23), none⟩,
  ⟨(some 25), .load false 1 (.tmp 24), none⟩,
  ⟨(some 26), .mv (.tmp 1), none⟩,
  ⟨(some 27), .bin .neq (.tmp 25) (.tmp 26), none⟩])
 (.cond (.tmp 27) (.seq (.ops [⟨(some 4), .mv (.const (.int .i64 (-1))), none⟩])
 .ret) .skip))
 (.seq (.ops [⟨(some 28), .mv (.tmp 1), none⟩,
  ⟨(some 29), .bin .add (.tmp 28) (.const (.int .i64 1)), none⟩,
  ⟨(some 1), .mv (.tmp 29), none⟩])
 (.seq (.seq (.ops [⟨(some 30), .mv (.tmp 0), none⟩,
  ⟨(some 31), .mv (.tmp 5), none⟩,
  ⟨(some 32), .ia 4 (.tmp 30) (.tmp 31), none⟩,
  ⟨(some 33), .fa 2 (.tmp 32), none⟩,
  ⟨(some 34), .load false 1 (.tmp 33), none⟩,
  ⟨(some 35), .mv (.tmp 1), none⟩,
  ⟨(some 36), .bin .neq (.tmp 34) (.tmp 35), none⟩])
 (.cond (.tmp 36) (.seq (.ops [⟨(some 4), .mv (.const (.int .i64 (-1))), none⟩])
 .ret) .skip))
 (.seq (.ops [⟨(some 37), .mv (.tmp 1), none⟩,
  ⟨(some 38), .bin .add (.tmp 37) (.const (.int .i64 1)), none⟩,
  ⟨(some 1), .mv (.tmp 38), none⟩])
 (.seq (.seq (.ops [⟨(some 39), .mv (.tmp 0), none⟩,
  ⟨(some 40), .mv (.tmp 5), none⟩,
  ⟨(some 41), .ia 4 (.tmp 39) (.tmp 40), none⟩,
  ⟨(some 42), .fa 3 (.tmp 41), none⟩,
  ⟨(some 43), .load false 1 (.tmp 42), none⟩,
  ⟨(some 44), .mv (.tmp 1), none⟩,
  ⟨(some 45), .bin .neq (.tmp 43) (.tmp 44), none⟩])
 (.cond (.tmp 45) (.seq (.ops [⟨(some 4), .mv (.const (.int .i64 (-1))), none⟩])
 .ret) .skip))
 (.ops [⟨(some 46), .mv (.tmp 1), none⟩,
  ⟨(some 47), .bin .add (.tmp 46) (.const (.int .i64 1)), none⟩,
  ⟨(some 1), .mv (.tmp 47), none⟩])))))))))
 (.ops [⟨(some 10), .mv (.tmp 5), none⟩,
  ⟨(some 11), .bin .add (.tmp 10) (.const (.int .i64 1)), none⟩,
  ⟨(some 5), .mv (.tmp 11), none⟩]))))))
 (.seq (.ops [⟨(some 48), .mv (.tmp 1), none⟩,
  ⟨(some 4), .mv (.tmp 48), none⟩])
 .ret)))
theorem gd74 : Good Try.prog (74, ac74, [.tmp 4], 49) := ⟨_, Try.func74, by kernel_rfl, by kernel_rfl, by kernel_rfl, by kernel_rfl⟩
/-- laws.eqMapDisk -/
def ac92 : ACode :=
 (.seq (.ops [⟨(some 2), .box (.tmp 0), none⟩,
  ⟨(some 3), .box (.tmp 1), none⟩,
  ⟨(some 4), .mv (.const (.bool false)), none⟩])
 (.seq (.seq (.ops [⟨(some 5), .fa 0 (.tmp 2), none⟩,
  ⟨(some 6), .load false 1 (.tmp 5), none⟩,
  ⟨(some 7), .fa 0 (.tmp 3), none⟩,
  ⟨(some 8), .load false 1 (.tmp 7), none⟩,
  ⟨(some 9), .bin .neq (.tmp 6) (.tmp 8), none⟩])
 (.cond (.tmp 9) (.seq (.ops [⟨(some 4), .mv (.const (.bool false)), none⟩])
 .ret) .skip))
 (.seq (.seq (.ops [⟨(some 10), .fa 1 (.tmp 2), none⟩,
  ⟨(some 11), .load false 1 (.tmp 10), none⟩,
  ⟨(some 12), .fa 1 (.tmp 3), none⟩,
  ⟨(some 13), .load false 1 (.tmp 12), none⟩,
  ⟨(some 14), .bin .neq (.tmp 11) (.tmp 13), none⟩])
 (.cond (.tmp 14) (.seq (.ops [⟨(some 4), .mv (.const (.bool false)), none⟩])
 .ret) .skip))
 (.seq (.seq (.ops [⟨(some 15), .fa 2 (.tmp 2), none⟩,
  ⟨(some 16), .load false 1 (.tmp 15), none⟩,
  ⟨(some 17), .fa 2 (.tmp 3), none⟩,
  ⟨(some 18), .load false 1 (.tmp 17), none⟩,
  ⟨(some 19), .bin .neq (.tmp 16) (.tmp 18), none⟩])
 (.cond (.tmp 19) (.seq (.ops [⟨(some 4), .mv (.const (.bool false)), none⟩])
 .ret) .skip))
 (.seq (.seq (.ops [⟨(some 20), .fa 3 (.tmp 2), none⟩,
  ⟨(some 21), .load false 1 (.tmp 20), none⟩,
  ⟨(some 22), .fa 3 (.tmp 3), none⟩,
  ⟨(some 23), .load false 1 (.tmp 22), none⟩,
  ⟨(some 24), .bin .neq (.tmp 21) (.tmp 23), none⟩])
 (.cond (.tmp 24) (.seq (.ops [⟨(some 4), .mv (.const (.bool false)), none⟩])
 .ret) .skip))
 (.seq (.seq (.ops [⟨(some 25), .fa 4 (.tmp 2), none⟩,
  ⟨(some 26), .load false 1 (.tmp 25), none⟩,
  ⟨(some 27), .fa 4 (.tmp 3), none⟩,
  ⟨(some 28), .load false 1 (.tmp 27), none⟩,
  ⟨(some 29), .bin .neq (.tmp 26) (.tmp 28), none⟩])
 (.cond (.tmp 29) (.seq (.ops [⟨(some 4), .mv (.const (.bool false)), none⟩])
 .ret) .skip))
 (.seq (.seq (.ops [⟨(some 30), .fa 5 (.tmp 2), none⟩,
  ⟨(some 31), .load false 1 (.tmp 30), none⟩,
  ⟨(some 32), .fa 5 (.tmp 3), none⟩,
  ⟨(some 33), .load false 1 (.tmp 32), none⟩,
  ⟨(some 34), .bin .neq (.tmp 31) (.tmp 33), none⟩])
 (.cond (.tmp 34) (.seq (.ops [⟨(some 4), .mv (.const (.bool false)), none⟩])
 .ret) .skip))
 (.seq (.seq (.ops [⟨(some 35), .fa 6 (.tmp 2), none⟩,
  ⟨(some 36), .load false 1 (.tmp 35), none⟩,
  ⟨(some 37), .fa 6 (.tmp 3), none⟩,
  ⟨(some 38), .load false 1 (.tmp 37), none⟩,
  ⟨(some 39), .call 22 [(.tmp 36), (.tmp 38)], none⟩,
  ⟨(some 40), .un .not (.tmp 39), none⟩])
 (.cond (.tmp 40) (.seq (.ops [⟨(some 4), .mv (.const (.bool false)), none⟩])
 .ret) .skip))
 (.seq (.ops [⟨(some 4), .mv (.const (.bool true)), none⟩])
 .ret)))))))))
theorem gd92 : Good Try.prog (92, ac92, [.tmp 4], 41) := ⟨_, Try.func92, by kernel_rfl, by kernel_rfl, by kernel_rfl, by kernel_rfl⟩
/-- laws.heldIntS -/
def ac94 : ACode :=
 (.seq (.ops [⟨(some 4), .mv (.const (.int .i64 0)), none⟩])
 (.seq (.seq (.ops [⟨(some 5), .mv (.const (.int .i64 0)), none⟩])
 (.block 0 (.loop (.seq (.seq (.ops [⟨(some 6), .mv (.tmp 5), none⟩,
  ⟨(some 7), .mv (.tmp 0), none⟩,
  ⟨(some 8), .len false (.tmp 7), none⟩,
  ⟨(some 9), .bin .lss (.tmp 6) (.tmp 8), none⟩])
 (.cond (.tmp 9) .skip (.exit 0)))
 (.seq (.block 1 (.seq (.seq (.ops [⟨(some 12), .mv (.tmp 0), none⟩,
  ⟨(some 13), .mv (.tmp 5), none⟩,
  ⟨(some 14), .ia 1 (.tmp 12) (.tmp 13), none⟩,
  ⟨(some 15), .load false 1 (.tmp 14), none⟩,
  ⟨(some 16), .mv (.tmp 1), none⟩,
  ⟨(some 17), .bin .neq (.tmp 15) (.tmp 16), none⟩])
 (.cond (.tmp 17) (.seq (.ops [⟨(some 4), .mv (.const (.int .i64 (-1))), none⟩])
 .ret) .skip))
 (.ops [⟨(some 18), .mv (.tmp 1), none⟩,
  ⟨(some 19), .bin .add (.tmp 18) (.const (.int .i64 1)), none⟩,
  ⟨(some 1), .mv (.tmp 19), none⟩])))
 (.ops [⟨(some 10), .mv (.tmp 5), none⟩,
  ⟨(some 11), .bin .add (.tmp 10) (.const (.int .i64 1)), none⟩,
  ⟨(some 5), .mv (.tmp 11), none⟩]))))))
 (.seq (.ops [⟨(some 20), .mv (.tmp 1), none⟩,
  ⟨(some 4), .mv (.tmp 20), none⟩])
 .ret)))
theorem gd94 : Good Try.prog (94, ac94, [.tmp 4], 21) := ⟨_, Try.func94, by kernel_rfl, by kernel_rfl, by kernel_rfl, by kernel_rfl⟩
/-- impl.disksCopy -/
def ac95 : ACode :=
 (.seq (.ops [⟨(some 2), .mv (.const (.slice none 0 0)), none⟩])
 (.seq (.ops [⟨(some 5), .mv (.tmp 0), none⟩,
  ⟨(some 6), .call 111 [(.tmp 5)], none⟩,
  ⟨(some 3), .mv (.tmp 6), none⟩])
 (.seq (.seq (.ops [⟨(some 7), .mv (.tmp 3), none⟩,
  ⟨(some 8), .len false (.tmp 7), none⟩,
  ⟨(some 9), .mv (.const (.int .i64 0)), none⟩])
 (.block 0 (.loop (.seq (.ops [⟨(some 10), .bin .lss (.tmp 9) (.tmp 8), none⟩])
 (.seq (.cond (.tmp 10) .skip (.exit 0))
 (.seq (.block 1 (.seq (.ops [⟨(some 11), .mv (.tmp 9), none⟩,
  ⟨(some 4), .mv (.tmp 11), none⟩])
 (.ops [⟨(some 12), .mv (.tmp 3), none⟩,
  ⟨(some 13), .mv (.tmp 4), none⟩,
  ⟨(some 14), .mv (.tmp 3), none⟩,
  ⟨(some 15), .mv (.tmp 4), none⟩,
  ⟨(some 16), .ia 7 (.tmp 14) (.tmp 15), none⟩,
  ⟨(some 17), .fa 6 (.tmp 16), none⟩,
  ⟨(some 18), .load false 1 (.tmp 17), none⟩,
  ⟨(some 19), .call 112 [(.tmp 18)], none⟩,
  ⟨(some 20), .ia 7 (.tmp 12) (.tmp 13), none⟩,
  ⟨(some 21), .fa 6 (.tmp 20), none⟩,
  ⟨none, .store 1 (.tmp 21) (.tmp 19), none⟩])))
 (.ops [⟨(some 22), .bin .add (.tmp 9) (.const (.int .i64 1)), none⟩,
  ⟨(some 9), .mv (.tmp 22), none⟩])))))))
 (.seq (.ops [⟨(some 23), .mv (.tmp 3), none⟩,
  ⟨(some 2), .mv (.tmp 23), none⟩])
 .ret))))
theorem gd95 : Good Try.prog (95, ac95, [.tmp 2], 24) := ⟨_, Try.func95, by kernel_rfl, by kernel_rfl, by kernel_rfl, by kernel_rfl⟩
/-- impl.copied[impl.MapView] -/
def ac96 : ACode :=
 (.seq (.ops [⟨(some 2), .mv (.const (.slice none 0 0)), none⟩])
 (.seq (.seq (.ops [⟨(some 4), .mv (.tmp 0), none⟩,
  ⟨(some 5), .len false (.tmp 4), none⟩,
  ⟨(some 6), .bin .eql (.tmp 5) (.const (.int .i64 0)), none⟩])
 (.cond (.tmp 6) (.seq (.ops [⟨(some 2), .mv (.const (.slice none 0 0)), none⟩])
 .ret) .skip))
 (.seq (.ops [⟨(some 7), .mv (.tmp 0), none⟩,
  ⟨(some 8), .len false (.tmp 7), none⟩,
  ⟨(some 9), .mks 3 24 [(.int .i64 0), (.int .i64 0), (.int .i64 0)] (.tmp 8) (.tmp 8), none⟩,
  ⟨(some 3), .mv (.tmp 9), none⟩])
 (.seq (.ops [⟨(some 10), .mv (.tmp 3), none⟩,
  ⟨(some 11), .mv (.tmp 0), none⟩,
  ⟨(some 12), .cpy 3 (.tmp 10) (.tmp 11), none⟩])
 (.seq (.ops [⟨(some 13), .mv (.tmp 3), none⟩,
  ⟨(some 2), .mv (.tmp 13), none⟩])
 .ret)))))
theorem gd96 : Good Try.prog (96, ac96, [.tmp 2], 14) := ⟨_, Try.func96, by kernel_rfl, by kernel_rfl, by kernel_rfl, by kernel_rfl⟩
/-- impl.copied[impl.MapDone] -/
def ac97 : ACode :=
 (.seq (.ops [⟨(some 2), .mv (.const (.slice none 0 0)), none⟩])
 (.seq (.seq (.ops [⟨(some 4), .mv (.tmp 0), none⟩,
  ⟨(some 5), .len false (.tmp 4), none⟩,
  ⟨(some 6), .bin .eql (.tmp 5) (.const (.int .i64 0)), none⟩])
 (.cond (.tmp 6) (.seq (.ops [⟨(some 2), .mv (.const (.slice none 0 0)), none⟩])
 .ret) .skip))
 (.seq (.ops [⟨(some 7), .mv (.tmp 0), none⟩,
  ⟨(some 8), .len false (.tmp 7), none⟩,
  ⟨(some 9), .mks 4 32 [(.int .i64 0), (.int .i64 0), (.int .i64 0), (.int .i64 0)] (.tmp 8) (.tmp 8), none⟩,
  ⟨(some 3), .mv (.tmp 9), none⟩])
 (.seq (.ops [⟨(some 10), .mv (.tmp 3), none⟩,
  ⟨(some 11), .mv (.tmp 0), none⟩,
  ⟨(some 12), .cpy 4 (.tmp 10) (.tmp 11), none⟩])
 (.seq (.ops [⟨(some 13), .mv (.tmp 3), none⟩,
  ⟨(some 2), .mv (.tmp 13), none⟩])
 .ret)))))
theorem gd97 : Good Try.prog (97, ac97, [.tmp 2], 14) := ⟨_, Try.func97, by kernel_rfl, by kernel_rfl, by kernel_rfl, by kernel_rfl⟩
/-- laws.eqMapView -/
def ac98 : ACode :=
 (.seq (.ops [⟨(some 2), .box (.tmp 0), none⟩,
  ⟨(some 3), .box (.tmp 1), none⟩,
  ⟨(some 4), .mv (.const (.bool false)), none⟩])
 (.seq (.seq (.ops [⟨(some 5), .fa 0 (.tmp 2), none⟩,
  ⟨(some 6), .load false 1 (.tmp 5), none⟩,
  ⟨(some 7), .fa 0 (.tmp 3), none⟩,
  ⟨(some 8), .load false 1 (.tmp 7), none⟩,
  ⟨(some 9), .bin .neq (.tmp 6) (.tmp 8), none⟩])
 (.cond (.tmp 9) (.seq (.ops [⟨(some 4), .mv (.const (.bool false)), none⟩])
 .ret) .skip))
 (.seq (.seq (.ops [⟨(some 10), .fa 1 (.tmp 2), none⟩,
  ⟨(some 11), .load false 1 (.tmp 10), none⟩,
  ⟨(some 12), .fa 1 (.tmp 3), none⟩,
  ⟨(some 13), .load false 1 (.tmp 12), none⟩,
  ⟨(some 14), .bin .neq (.tmp 11) (.tmp 13), none⟩])
 (.cond (.tmp 14) (.seq (.ops [⟨(some 4), .mv (.const (.bool false)), none⟩])
 .ret) .skip))
 (.seq (.seq (.ops [⟨(some 15), .fa 2 (.tmp 2), none⟩,
  ⟨(some 16), .load false 1 (.tmp 15), none⟩,
  ⟨(some 17), .fa 2 (.tmp 3), none⟩,
  ⟨(some 18), .load false 1 (.tmp 17), none⟩,
  ⟨(some 19), .bin .neq (.tmp 16) (.tmp 18), none⟩])
 (.cond (.tmp 19) (.seq (.ops [⟨(some 4), .mv (.const (.bool false)), none⟩])
 .ret) .skip))
 (.seq (.ops [⟨(some 4), .mv (.const (.bool true)), none⟩])
 .ret)))))
theorem gd98 : Good Try.prog (98, ac98, [.tmp 4], 20) := ⟨_, Try.func98, by kernel_rfl, by kernel_rfl, by kernel_rfl, by kernel_rfl⟩
/-- laws.eqMapDone -/
def ac99 : ACode :=
 (.seq (.ops [⟨(some 2), .box (.tmp 0), none⟩,
  ⟨(some 3), .box (.tmp 1), none⟩,
  ⟨(some 4), .mv (.const (.bool false)), none⟩])
 (.seq (.seq (.ops [⟨(some 5), .fa 0 (.tmp 2), none⟩,
  ⟨(some 6), .load false 1 (.tmp 5), none⟩,
  ⟨(some 7), .fa 0 (.tmp 3), none⟩,
  ⟨(some 8), .load false 1 (.tmp 7), none⟩,
  ⟨(some 9), .bin .neq (.tmp 6) (.tmp 8), none⟩])
 (.cond (.tmp 9) (.seq (.ops [⟨(some 4), .mv (.const (.bool false)), none⟩])
 .ret) .skip))
 (.seq (.seq (.ops [⟨(some 10), .fa 1 (.tmp 2), none⟩,
  ⟨(some 11), .load false 1 (.tmp 10), none⟩,
  ⟨(some 12), .fa 1 (.tmp 3), none⟩,
  ⟨(some 13), .load false 1 (.tmp 12), none⟩,
  ⟨(some 14), .bin .neq (.tmp 11) (.tmp 13), none⟩])
 (.cond (.tmp 14) (.seq (.ops [⟨(some 4), .mv (.const (.bool false)), none⟩])
 .ret) .skip))
 (.seq (.seq (.ops [⟨(some 15), .fa 2 (.tmp 2), none⟩,
  ⟨(some 16), .load false 1 (.tmp 15), none⟩,
  ⟨(some 17), .fa 2 (.tmp 3), none⟩,
  ⟨(some 18), .load false 1 (.tmp 17), none⟩,
  ⟨(some 19), .bin .neq (.tmp 16) (.tmp 18), none⟩])
 (.cond (.tmp 19) (.seq (.ops [⟨(some 4), .mv (.const (.bool false)), none⟩])
 .ret) .skip))
 (.seq (.seq (.ops [⟨(some 20), .fa 3 (.tmp 2), none⟩,
  ⟨(some 21), .load false 1 (.tmp 20), none⟩,
  ⟨(some 22), .fa 3 (.tmp 3), none⟩,
  ⟨(some 23), .load false 1 (.tmp 22), none⟩,
  ⟨(some 24), .bin .neq (.tmp 21) (.tmp 23), none⟩])
 (.cond (.tmp 24) (.seq (.ops [⟨(some 4), .mv (.const (.bool false)), none⟩])
 .ret) .skip))
 (.seq (.ops [⟨(some 4), .mv (.const (.bool true)), none⟩])
 .ret))))))
theorem gd99 : Good Try.prog (99, ac99, [.tmp 4], 25) := ⟨_, Try.func99, by kernel_rfl, by kernel_rfl, by kernel_rfl, by kernel_rfl⟩
/-- impl.copied[impl.MapDisk] -/
def ac111 : ACode :=
 (.seq (.ops [⟨(some 2), .mv (.const (.slice none 0 0)), none⟩])
 (.seq (.seq (.ops [⟨(some 4), .mv (.tmp 0), none⟩,
  ⟨(some 5), .len false (.tmp 4), none⟩,
  ⟨(some 6), .bin .eql (.tmp 5) (.const (.int .i64 0)), none⟩])
 (.cond (.tmp 6) (.seq (.ops [⟨(some 2), .mv (.const (.slice none 0 0)), none⟩])
 .ret) .skip))
 (.seq (.ops [⟨(some 7), .mv (.tmp 0), none⟩,
  ⟨(some 8), .len false (.tmp 7), none⟩,
  ⟨(some 9), .mks 7 72 [(.int .i64 0), (.int .i64 0), (.int .i64 0), (.int .i64 0), (.int .i64 0), (.int .i64 0), .nils] (.tmp 8) (.tmp 8), none⟩,
  ⟨(some 3), .mv (.tmp 9), none⟩])
 (.seq (.ops [⟨(some 10), .mv (.tmp 3), none⟩,
  ⟨(some 11), .mv (.tmp 0), none⟩,
  ⟨(some 12), .cpy 7 (.tmp 10) (.tmp 11), none⟩])
 (.seq (.ops [⟨(some 13), .mv (.tmp 3), none⟩,
  ⟨(some 2), .mv (.tmp 13), none⟩])
 .ret)))))
theorem gd111 : Good Try.prog (111, ac111, [.tmp 2], 14) := ⟨_, Try.func111, by kernel_rfl, by kernel_rfl, by kernel_rfl, by kernel_rfl⟩
/-- impl.copied[int] -/
def ac112 : ACode :=
 (.seq (.ops [⟨(some 2), .mv (.const (.slice none 0 0)), none⟩])
 (.seq (.seq (.ops [⟨(some 4), .mv (.tmp 0), none⟩,
  ⟨(some 5), .len false (.tmp 4), none⟩,
  ⟨(some 6), .bin .eql (.tmp 5) (.const (.int .i64 0)), none⟩])
 (.cond (.tmp 6) (.seq (.ops [⟨(some 2), .mv (.const (.slice none 0 0)), none⟩])
 .ret) .skip))
 (.seq (.ops [⟨(some 7), .mv (.tmp 0), none⟩,
  ⟨(some 8), .len false (.tmp 7), none⟩,
  ⟨(some 9), .mks 1 8 [(.int .i64 0)] (.tmp 8) (.tmp 8), none⟩,
  ⟨(some 3), .mv (.tmp 9), none⟩])
 (.seq (.ops [⟨(some 10), .mv (.tmp 3), none⟩,
  ⟨(some 11), .mv (.tmp 0), none⟩,
  ⟨(some 12), .cpy 1 (.tmp 10) (.tmp 11), none⟩])
 (.seq (.ops [⟨(some 13), .mv (.tmp 3), none⟩,
  ⟨(some 2), .mv (.tmp 13), none⟩])
 .ret)))))
theorem gd112 : Good Try.prog (112, ac112, [.tmp 2], 14) := ⟨_, Try.func112, by kernel_rfl, by kernel_rfl, by kernel_rfl, by kernel_rfl⟩
def tabL : List (FuncId × ACode × List AR × Nat) := [(7, ac7, [.tmp 0], 36), (22, ac22, [.tmp 4], 26), (23, ac23, [.tmp 4], 19), (31, ac31, [.cell 0 true 6], 20), (32, ac32, [.cell 0 true 6], 21), (33, ac33, [.tmp 4], 38), (34, ac34, [.tmp 4], 18), (35, ac35, [.tmp 4], 24), (62, ac62, [.tmp 4], 27), (64, ac64, [.tmp 4], 62), (66, ac66, [.tmp 4], 76), (68, ac68, [.cell 2 true 6], 18), (69, ac69, [.tmp 4], 27), (70, ac70, [.tmp 4], 27), (71, ac71, [.tmp 4], 34), (72, ac72, [.tmp 4], 41), (73, ac73, [.tmp 4], 40), (74, ac74, [.tmp 4], 49), (92, ac92, [.tmp 4], 41), (94, ac94, [.tmp 4], 21), (95, ac95, [.tmp 2], 24), (96, ac96, [.tmp 2], 14), (97, ac97, [.tmp 2], 14), (98, ac98, [.tmp 4], 20), (99, ac99, [.tmp 4], 25), (111, ac111, [.tmp 2], 14), (112, ac112, [.tmp 2], 14)]
theorem tab_ok : TabOk Try.prog (tabOf tabL) := tabOf_ok tabL ⟨gd7, gd22, gd23, gd31, gd32, gd33, gd34, gd35, gd62, gd64, gd66, gd68, gd69, gd70, gd71, gd72, gd73, gd74, gd92, gd94, gd95, gd96, gd97, gd98, gd99, gd111, gd112, trivial⟩
end Go.Proofs.Ytnbhalhlodnmpaa.FnExactMapStartT
