import Derived.Test.YtefbofjonjdebaaB1
import Derived.IntWalk
import Derived.WalkKit
import Derived.ProofKit
import Derived.OpenShut
import Derived.JoinedCond
import Derived.ReadAgain
import Derived.WideKeyArgs
import Derived.ChangeArms
import Derived.Shelf.SlSortCmp.NoneTotal
import Derived.Shelf.Lay
import Derived.Ground.SlsfProg
import Derived.Lib.Strings
import Derived.Lib.Slices
import Derived.Lib.Walk
import Derived.Lib.Bytealg
set_option linter.unusedVariables false
set_option linter.unusedSimpArgs false
namespace Go.VL.lww
open Go Go.VL Go.Proofs
/-- (*topiary/lww.Regs).All: 1 parameters, 24 slots. -/
def c22 : C :=
  .seq (.ops [⟨none, .mv 2 (.c (.sl true .pub 7 []))⟩])
  (.seq (.seq (.ops [⟨none, .mv 6 (.t 0)⟩,
    ⟨none, .bq 7 false .ptr (.t 6) (.c (.ptr none))⟩])
  (.cond (.t 7) (.seq (.ops [⟨none, .mv 2 (.c (.sl true .pub 7 []))⟩])
    (.ret))
    (.skip)))
  (.seq (.ops [⟨none, .mv 3 (.c (.sl true .pub 7 []))⟩])
  (.seq (.seq (.ops [⟨none, .mv 8 (.t 0)⟩,
    ⟨none, .nc 9 (.t 8)⟩,
    ⟨none, .fa 10 (.t 9) 0⟩,
    ⟨none, .ld 11 (.t 10) 1 false⟩,
    ⟨none, .rg 12 (.t 11)⟩])
  (.block 0 (.loop (.seq (.ops [⟨none, .nx 13 (.t 12)⟩,
    ⟨none, .ex 14 (.t 13) 0⟩])
  (.seq (.cond (.t 14) (.skip)
    (.exit 0))
  (.block 1 (.seq (.ops [⟨none, .en 15 (.t 12)⟩,
    ⟨none, .ex 16 (.t 15) 1⟩,
    ⟨none, .alL 5 [.int .i64 0, .int .i64 0, .str [], .int .i64 0, .int .i64 0, .str [], .bool false]⟩,
    ⟨none, .st (.t 5) (.t 16) 7⟩])
  (.ops [⟨none, .mv 17 (.t 3)⟩,
    ⟨none, .ld 18 (.t 5) 7 true⟩,
    ⟨none, .lit 19 7 [(.t 18)]⟩,
    ⟨none, .ap 20 7 (.t 17) (.t 19)⟩,
    ⟨none, .mv 3 (.t 20)⟩]))))))))
  (.seq (.ops [⟨none, .mv 21 (.t 3)⟩,
    ⟨none, .cm (some 22) 37 [(.t 21), (.c (.fn 38 []))]⟩])
  (.seq (.ops [⟨none, .mv 23 (.t 3)⟩,
    ⟨none, .mv 2 (.t 23)⟩])
  (.ret))))))
theorem comp22 : compFn Try.prog [5, 3000037] Try.f22 = some ([.t 2], c22) := by kernel_rfl
/-- (*topiary/lww.Regs).Each: 2 parameters, 33 slots. -/
def c26 : C :=
  .seq (.ops [⟨none, .bxH 3 (.t 1)⟩,
    ⟨none, .mv 4 (.c (.nilf))⟩])
  (.seq (.ops [⟨none, .alH 5 [.sl true .pub 0 []]⟩])
  (.seq (.seq (.ops [⟨none, .mv 7 (.t 0)⟩,
    ⟨none, .ca (some 8) 40 [(.t 7)]⟩])
  (.block 0 (.range (.t 8) [9] (.ops [⟨none, .alL 6 [.int .i64 0, .int .i64 0, .str [], .int .i64 0, .int .i64 0, .str [], .bool false]⟩,
    ⟨none, .st (.t 6) (.t 9) 7⟩])
  (.block 1 (.seq (.ops [⟨none, .fa 10 (.t 6) 0⟩,
    ⟨none, .ld 11 (.t 10) 2 true⟩,
    ⟨none, .ld 12 (.t 3) 2 true⟩,
    ⟨none, .be 13 false [.int .i64, .int .i64] (.t 11) (.t 12)⟩,
    ⟨none, .mv 14 (.t 13)⟩,
    ⟨some (14, true), .fa 15 (.t 6) 2⟩,
    ⟨some (14, true), .ld 16 (.t 15) 1 false⟩,
    ⟨some (14, true), .bi 17 .neq (.t 16) (.c (.str []))⟩,
    ⟨none, .pk 18 (.t 14) (.t 17) (.c (.bool false))⟩,
    ⟨none, .mv 19 (.t 18)⟩,
    ⟨some (19, true), .fa 20 (.t 6) 6⟩,
    ⟨some (19, true), .ld 21 (.t 20) 1 false⟩,
    ⟨some (19, true), .un 22 .not (.t 21)⟩,
    ⟨none, .pk 23 (.t 19) (.t 22) (.c (.bool false))⟩])
  (.cond (.t 23) (.ops [⟨none, .ld 24 (.t 5) 1 false⟩,
      ⟨none, .fa 25 (.t 6) 2⟩,
      ⟨none, .ld 26 (.t 25) 1 false⟩,
      ⟨none, .fa 27 (.t 6) 5⟩,
      ⟨none, .ld 28 (.t 27) 1 false⟩,
      ⟨none, .bld 29 [.str [], .str []] [(0, 1, (.t 26)), (1, 1, (.t 28))]⟩,
      ⟨none, .lit 30 2 [(.t 29)]⟩,
      ⟨none, .ap 31 2 (.t 24) (.t 30)⟩,
      ⟨none, .st (.t 5) (.t 31) 1⟩])
    (.skip)))))))
  (.seq (.ops [⟨none, .mf 32 41 [(.t 5)]⟩,
    ⟨none, .mv 4 (.t 32)⟩])
  (.ret))))
theorem comp26 : compFn Try.prog [6] Try.f26 = some ([.t 4], c26) := by kernel_rfl
/-- (*topiary/lww.Regs).Clone: 1 parameters, 11 slots. -/
def c27 : C :=
  .seq (.ops [⟨none, .mv 2 (.c (.ptr none))⟩])
  (.seq (.seq (.ops [⟨none, .mv 4 (.t 0)⟩,
    ⟨none, .bq 5 false .ptr (.t 4) (.c (.ptr none))⟩])
  (.cond (.t 5) (.seq (.ops [⟨none, .mv 2 (.c (.ptr none))⟩])
    (.ret))
    (.skip)))
  (.seq (.ops [⟨none, .ca (some 6) 18 []⟩,
    ⟨none, .mv 3 (.t 6)⟩])
  (.seq (.ops [⟨none, .mv 7 (.t 3)⟩,
    ⟨none, .mv 8 (.t 0)⟩,
    ⟨none, .ca (some 9) 28 [(.t 7), (.t 8)]⟩])
  (.seq (.ops [⟨none, .mv 10 (.t 3)⟩,
    ⟨none, .mv 2 (.t 10)⟩])
  (.ret)))))
theorem comp27 : compFn Try.prog [] Try.f27 = some ([.t 2], c27) := by kernel_rfl
/-- (*topiary/lww.Regs).Merge: 2 parameters, 14 slots. -/
def c28 : C :=
  .seq (.ops [⟨none, .bxH 2 (.t 0)⟩,
    ⟨none, .mv 4 (.c (.int .i64 0))⟩])
  (.seq (.seq (.ops [⟨none, .ld 6 (.t 2) 1 false⟩,
    ⟨none, .bq 7 false .ptr (.t 6) (.c (.ptr none))⟩])
  (.cond (.t 7) (.seq (.ops [⟨none, .mv 4 (.c (.int .i64 7))⟩])
    (.ret))
    (.skip)))
  (.seq (.seq (.ops [⟨none, .mv 8 (.t 1)⟩,
    ⟨none, .ca (some 9) 40 [(.t 8)]⟩])
  (.block 0 (.range (.t 9) [10] (.ops [⟨none, .alL 5 [.int .i64 0, .int .i64 0, .str [], .int .i64 0, .int .i64 0, .str [], .bool false]⟩,
    ⟨none, .st (.t 5) (.t 10) 7⟩])
  (.block 1 (.ops [⟨none, .ld 11 (.t 2) 1 false⟩,
    ⟨none, .ld 12 (.t 5) 7 true⟩,
    ⟨none, .ca (some 13) 20 [(.t 11), (.t 12)]⟩])))))
  (.seq (.ops [⟨none, .mv 4 (.c (.int .i64 0))⟩])
  (.ret))))
theorem comp28 : compFn Try.prog [5] Try.f28 = some ([.t 4], c28) := by kernel_rfl
/-- (*topiary/lww.Regs).regs: 1 parameters, 4 slots. -/
def c40 : C :=
  .seq (.ops [⟨none, .bxH 1 (.t 0)⟩,
    ⟨none, .mv 2 (.c (.nilf))⟩])
  (.seq (.ops [⟨none, .mf 3 46 [(.t 1)]⟩,
    ⟨none, .mv 2 (.t 3)⟩])
  (.ret))
theorem comp40 : compFn Try.prog [] Try.f40 = some ([.t 2], c40) := by kernel_rfl
/-- (*topiary/lww.Regs).Each$1: 1 parameters, 16 slots. -/
def c41 : C :=
  .seq (.ops [⟨none, .ld 5 (.t 1) 1 false⟩,
    ⟨none, .ln 6 .sl (.t 5)⟩,
    ⟨none, .mv 7 (.c (.int .i64 0))⟩])
  (.block 0 (.loop (.seq (.ops [⟨none, .bi 8 .lss (.t 7) (.t 6)⟩])
  (.seq (.cond (.t 8) (.skip)
    (.exit 0))
  (.seq (.block 1 (.seq (.ops [⟨none, .ia 9 (.t 5) (.t 7) 2⟩,
    ⟨none, .ld 10 (.t 9) 2 true⟩,
    ⟨none, .alL 4 [.str [], .str []]⟩,
    ⟨none, .st (.t 4) (.t 10) 2⟩])
  (.seq (.ops [⟨none, .mv 11 (.t 0)⟩,
    ⟨none, .ld 12 (.t 4) 2 true⟩,
    ⟨none, .cv (some 13) (.t 11) [(.t 12)]⟩,
    ⟨none, .un 14 .not (.t 13)⟩])
  (.cond (.t 14) (.ret)
    (.skip)))))
  (.ops [⟨none, .bi 15 .add (.t 7) (.c (.int .i64 1))⟩,
    ⟨none, .mv 7 (.t 15)⟩]))))))
theorem comp41 : compFn Try.prog [4] Try.f41 = some ([], c41) := by kernel_rfl
/-- (*topiary/lww.Regs).regs$1: 1 parameters, 17 slots. -/
def c46 : C :=
  .seq (.ops [⟨none, .ld 5 (.t 1) 1 false⟩,
    ⟨none, .ca (some 6) 22 [(.t 5)]⟩,
    ⟨none, .ln 7 .sl (.t 6)⟩,
    ⟨none, .mv 8 (.c (.int .i64 0))⟩])
  (.block 0 (.loop (.seq (.ops [⟨none, .bi 9 .lss (.t 8) (.t 7)⟩])
  (.seq (.cond (.t 9) (.skip)
    (.exit 0))
  (.seq (.block 1 (.seq (.ops [⟨none, .ia 10 (.t 6) (.t 8) 7⟩,
    ⟨none, .ld 11 (.t 10) 7 true⟩,
    ⟨none, .alL 4 [.int .i64 0, .int .i64 0, .str [], .int .i64 0, .int .i64 0, .str [], .bool false]⟩,
    ⟨none, .st (.t 4) (.t 11) 7⟩])
  (.seq (.ops [⟨none, .mv 12 (.t 0)⟩,
    ⟨none, .ld 13 (.t 4) 7 true⟩,
    ⟨none, .cv (some 14) (.t 12) [(.t 13)]⟩,
    ⟨none, .un 15 .not (.t 14)⟩])
  (.cond (.t 15) (.ret)
    (.skip)))))
  (.ops [⟨none, .bi 16 .add (.t 8) (.c (.int .i64 1))⟩,
    ⟨none, .mv 8 (.t 16)⟩]))))))
theorem comp46 : compFn Try.prog [4] Try.f46 = some ([], c46) := by kernel_rfl
/-- (*topiary/lww.Regs).All$1: 2 parameters, 19 slots. -/
def c38 : C :=
  .seq (.ops [⟨none, .bxL 2 (.t 0)⟩,
    ⟨none, .bxL 3 (.t 1)⟩,
    ⟨none, .mv 4 (.c (.int .i64 0))⟩])
  (.seq (.seq (.ops [⟨none, .fa 6 (.t 2) 0⟩,
    ⟨none, .ld 7 (.t 6) 2 true⟩,
    ⟨none, .fa 8 (.t 3) 0⟩,
    ⟨none, .ld 9 (.t 8) 2 true⟩,
    ⟨none, .ca (some 10) 34 [(.t 7), (.t 9)]⟩,
    ⟨none, .mv 5 (.t 10)⟩])
  (.seq (.ops [⟨none, .mv 11 (.t 5)⟩,
    ⟨none, .bi 12 .neq (.t 11) (.c (.int .i64 0))⟩])
  (.cond (.t 12) (.seq (.ops [⟨none, .mv 13 (.t 5)⟩,
      ⟨none, .mv 4 (.t 13)⟩])
    (.ret))
    (.skip))))
  (.seq (.ops [⟨none, .fa 14 (.t 2) 2⟩,
    ⟨none, .ld 15 (.t 14) 1 false⟩,
    ⟨none, .fa 16 (.t 3) 2⟩,
    ⟨none, .ld 17 (.t 16) 1 false⟩,
    ⟨none, .ca (some 18) 39 [(.t 15), (.t 17)]⟩,
    ⟨none, .mv 4 (.t 18)⟩])
  (.ret)))
theorem comp38 : compFn Try.prog [2, 3] Try.f38 = some ([.t 4], c38) := by kernel_rfl
/-- topiary/topiaryref13.Attrs: 2 parameters, 52 slots. -/
def c25 : C :=
  .seq (.ops [⟨none, .bxL 3 (.t 1)⟩,
    ⟨none, .mv 4 (.c (.sl true .pub 2 []))⟩])
  (.seq (.ops [⟨none, .lit 7 2 []⟩,
    ⟨none, .mv 5 (.t 7)⟩])
  (.seq (.seq (.ops [⟨none, .mv 6 (.c (.int .i64 0))⟩])
  (.block 0 (.loop (.seq (.seq (.ops [⟨none, .mv 8 (.t 6)⟩,
    ⟨none, .mv 9 (.t 0)⟩,
    ⟨none, .ln 10 .sl (.t 9)⟩,
    ⟨none, .bi 11 .lss (.t 8) (.t 10)⟩])
  (.cond (.t 11) (.skip)
    (.exit 0)))
  (.cut (.block 1 (.seq (.opsD [⟨none, .mv 14 (.t 0)⟩,
    ⟨none, .mv 15 (.t 6)⟩,
    ⟨none, .ia 16 (.t 14) (.t 15) 7⟩,
    ⟨none, .fa 17 (.t 16) 0⟩,
    ⟨none, .ld 18 (.t 17) 2 true⟩,
    ⟨none, .ld 19 (.t 3) 2 true⟩,
    ⟨none, .be 20 false [.int .i64, .int .i64] (.t 18) (.t 19)⟩,
    ⟨none, .mv 21 (.t 20)⟩,
    ⟨some (21, true), .mv 22 (.t 0)⟩,
    ⟨some (21, true), .mv 23 (.t 6)⟩,
    ⟨some (21, true), .ia 24 (.t 22) (.t 23) 7⟩,
    ⟨some (21, true), .fa 25 (.t 24) 2⟩,
    ⟨some (21, true), .ld 26 (.t 25) 1 false⟩,
    ⟨some (21, true), .bi 27 .neq (.t 26) (.c (.str []))⟩,
    ⟨none, .pk 28 (.t 21) (.t 27) (.c (.bool false))⟩,
    ⟨none, .mv 29 (.t 28)⟩,
    ⟨some (29, true), .mv 30 (.t 0)⟩,
    ⟨some (29, true), .mv 31 (.t 6)⟩,
    ⟨some (29, true), .ia 32 (.t 30) (.t 31) 7⟩,
    ⟨some (29, true), .fa 33 (.t 32) 6⟩,
    ⟨some (29, true), .ld 34 (.t 33) 1 false⟩,
    ⟨some (29, true), .un 35 .not (.t 34)⟩,
    ⟨none, .pk 36 (.t 29) (.t 35) (.c (.bool false))⟩])
  (.cond (.t 36) (.opsD [⟨none, .mv 37 (.t 5)⟩,
      ⟨none, .mv 38 (.t 0)⟩,
      ⟨none, .mv 39 (.t 6)⟩,
      ⟨none, .ia 40 (.t 38) (.t 39) 7⟩,
      ⟨none, .fa 41 (.t 40) 2⟩,
      ⟨none, .ld 42 (.t 41) 1 false⟩,
      ⟨none, .mv 43 (.t 0)⟩,
      ⟨none, .mv 44 (.t 6)⟩,
      ⟨none, .ia 45 (.t 43) (.t 44) 7⟩,
      ⟨none, .fa 46 (.t 45) 5⟩,
      ⟨none, .ld 47 (.t 46) 1 false⟩,
      ⟨none, .bld 48 [.str [], .str []] [(0, 1, (.t 42)), (1, 1, (.t 47))]⟩,
      ⟨none, .lit 49 2 [(.t 48)]⟩,
      ⟨none, .ap 50 2 (.t 37) (.t 49)⟩,
      ⟨none, .mv 5 (.t 50)⟩])
    (.skip))))
  (.ops [⟨none, .mv 12 (.t 6)⟩,
    ⟨none, .bi 13 .add (.t 12) (.c (.int .i64 1))⟩,
    ⟨none, .mv 6 (.t 13)⟩]))))))
  (.seq (.ops [⟨none, .mv 51 (.t 5)⟩,
    ⟨none, .mv 4 (.t 51)⟩])
  (.ret))))
theorem comp25 : compFn Try.prog [3] Try.f25 = some ([.t 4], c25) := by kernel_rfl
/-- topiary/topiaryref13.Merge: 2 parameters, 22 slots. -/
def c29 : C :=
  .seq (.ops [⟨none, .mv 4 (.c (.sl true .pub 7 []))⟩])
  (.seq (.seq (.ops [⟨none, .mv 5 (.c (.int .i64 0))⟩])
  (.block 0 (.loop (.seq (.seq (.ops [⟨none, .mv 6 (.t 5)⟩,
    ⟨none, .mv 7 (.t 1)⟩,
    ⟨none, .ln 8 .sl (.t 7)⟩,
    ⟨none, .bi 9 .lss (.t 6) (.t 8)⟩])
  (.cond (.t 9) (.skip)
    (.exit 0)))
  (.seq (.block 1 (.ops [⟨none, .mv 13 (.t 0)⟩,
    ⟨none, .mv 14 (.t 1)⟩,
    ⟨none, .mv 15 (.t 5)⟩,
    ⟨none, .ia 16 (.t 14) (.t 15) 7⟩,
    ⟨none, .ld 17 (.t 16) 7 true⟩,
    ⟨none, .ca (some 18) 19 [(.t 13), (.t 17)]⟩,
    ⟨none, .mv 12 (.t 18)⟩,
    ⟨none, .ex 19 (.t 12) 0⟩,
    ⟨none, .ex 20 (.t 12) 1⟩,
    ⟨none, .mv 0 (.t 19)⟩]))
  (.ops [⟨none, .mv 10 (.t 5)⟩,
    ⟨none, .bi 11 .add (.t 10) (.c (.int .i64 1))⟩,
    ⟨none, .mv 5 (.t 11)⟩]))))))
  (.seq (.ops [⟨none, .mv 21 (.t 0)⟩,
    ⟨none, .mv 4 (.t 21)⟩])
  (.ret)))
theorem comp29 : compFn Try.prog [] Try.f29 = some ([.t 4], c29) := by kernel_rfl
/-- topiary/topiaryref13.Same: 2 parameters, 26 slots. -/
def c21 : C :=
  .seq (.ops [⟨none, .mv 4 (.c (.bool false))⟩])
  (.seq (.seq (.ops [⟨none, .mv 6 (.t 0)⟩,
    ⟨none, .ln 7 .sl (.t 6)⟩,
    ⟨none, .mv 8 (.t 1)⟩,
    ⟨none, .ln 9 .sl (.t 8)⟩,
    ⟨none, .bi 10 .neq (.t 7) (.t 9)⟩])
  (.cond (.t 10) (.seq (.ops [⟨none, .mv 4 (.c (.bool false))⟩])
    (.ret))
    (.skip)))
  (.seq (.seq (.ops [⟨none, .mv 5 (.c (.int .i64 0))⟩])
  (.block 0 (.loop (.seq (.seq (.ops [⟨none, .mv 11 (.t 5)⟩,
    ⟨none, .mv 12 (.t 0)⟩,
    ⟨none, .ln 13 .sl (.t 12)⟩,
    ⟨none, .bi 14 .lss (.t 11) (.t 13)⟩])
  (.cond (.t 14) (.skip)
    (.exit 0)))
  (.seq (.block 1 (.seq (.opsD [⟨none, .mv 17 (.t 0)⟩,
    ⟨none, .mv 18 (.t 5)⟩,
    ⟨none, .ia 19 (.t 17) (.t 18) 7⟩,
    ⟨none, .ld 20 (.t 19) 7 true⟩,
    ⟨none, .mv 21 (.t 1)⟩,
    ⟨none, .mv 22 (.t 5)⟩,
    ⟨none, .ia 23 (.t 21) (.t 22) 7⟩,
    ⟨none, .ld 24 (.t 23) 7 true⟩,
    ⟨none, .be 25 true [.int .i64, .int .i64, .str, .int .i64, .int .i64, .str, .bool] (.t 20) (.t 24)⟩])
  (.cond (.t 25) (.seq (.ops [⟨none, .mv 4 (.c (.bool false))⟩])
    (.ret))
    (.skip))))
  (.ops [⟨none, .mv 15 (.t 5)⟩,
    ⟨none, .bi 16 .add (.t 15) (.c (.int .i64 1))⟩,
    ⟨none, .mv 5 (.t 16)⟩]))))))
  (.seq (.ops [⟨none, .mv 4 (.c (.bool true))⟩])
  (.ret))))
theorem comp21 : compFn Try.prog [] Try.f21 = some ([.t 4], c21) := by kernel_rfl
/-- topiary/topiaryref13.Get: 3 parameters, 36 slots. -/
def c23 : C :=
  .seq (.ops [⟨none, .bxL 4 (.t 1)⟩,
    ⟨none, .alL 6 [.int .i64 0, .int .i64 0, .str [], .int .i64 0, .int .i64 0, .str [], .bool false]⟩,
    ⟨none, .mv 7 (.c (.bool false))⟩])
  (.seq (.seq (.ops [⟨none, .mv 8 (.c (.int .i64 0))⟩])
  (.block 0 (.loop (.seq (.seq (.ops [⟨none, .mv 9 (.t 8)⟩,
    ⟨none, .mv 10 (.t 0)⟩,
    ⟨none, .ln 11 .sl (.t 10)⟩,
    ⟨none, .bi 12 .lss (.t 9) (.t 11)⟩])
  (.cond (.t 12) (.skip)
    (.exit 0)))
  (.seq (.block 1 (.seq (.opsD [⟨none, .mv 15 (.t 0)⟩,
    ⟨none, .mv 16 (.t 8)⟩,
    ⟨none, .ia 17 (.t 15) (.t 16) 7⟩,
    ⟨none, .fa 18 (.t 17) 0⟩,
    ⟨none, .ld 19 (.t 18) 2 true⟩,
    ⟨none, .ld 20 (.t 4) 2 true⟩,
    ⟨none, .be 21 false [.int .i64, .int .i64] (.t 19) (.t 20)⟩,
    ⟨none, .mv 22 (.t 21)⟩,
    ⟨some (22, true), .mv 23 (.t 0)⟩,
    ⟨some (22, true), .mv 24 (.t 8)⟩,
    ⟨some (22, true), .ia 25 (.t 23) (.t 24) 7⟩,
    ⟨some (22, true), .fa 26 (.t 25) 2⟩,
    ⟨some (22, true), .ld 27 (.t 26) 1 false⟩,
    ⟨some (22, true), .mv 28 (.t 2)⟩,
    ⟨some (22, true), .bi 29 .eql (.t 27) (.t 28)⟩,
    ⟨none, .pk 30 (.t 22) (.t 29) (.c (.bool false))⟩])
  (.cond (.t 30) (.seq (.ops [⟨none, .mv 31 (.t 0)⟩,
      ⟨none, .mv 32 (.t 8)⟩,
      ⟨none, .ia 33 (.t 31) (.t 32) 7⟩,
      ⟨none, .ld 34 (.t 33) 7 true⟩,
      ⟨none, .st (.t 6) (.t 34) 7⟩,
      ⟨none, .mv 7 (.c (.bool true))⟩])
    (.ret))
    (.skip))))
  (.ops [⟨none, .mv 13 (.t 8)⟩,
    ⟨none, .bi 14 .add (.t 13) (.c (.int .i64 1))⟩,
    ⟨none, .mv 8 (.t 14)⟩]))))))
  (.seq (.ops [⟨none, .bld 35 [.int .i64 0, .int .i64 0, .str [], .int .i64 0, .int .i64 0, .str [], .bool false] []⟩,
    ⟨none, .st (.t 6) (.t 35) 7⟩,
    ⟨none, .mv 7 (.c (.bool false))⟩])
  (.ret)))
theorem comp23 : compFn Try.prog [4, 6] Try.f23 = some ([.c 6 7 true, .t 7], c23) := by kernel_rfl
/-- topiary/topiarylaw13.LwwPuts: 1 parameters, 48 slots. -/
def c5 : C :=
  .seq (.ops [⟨none, .mv 2 (.c (.bool false))⟩])
  (.seq (.ops [⟨none, .ca (some 8) 18 []⟩,
    ⟨none, .mv 3 (.t 8)⟩])
  (.seq (.seq (.ops [⟨none, .mv 9 (.t 3)⟩,
    ⟨none, .bq 10 false .ptr (.t 9) (.c (.ptr none))⟩])
  (.cond (.t 10) (.seq (.ops [⟨none, .mv 2 (.c (.bool false))⟩])
    (.ret))
    (.skip)))
  (.seq (.ops [⟨none, .lit 11 7 []⟩,
    ⟨none, .mv 4 (.t 11)⟩])
  (.seq (.seq (.ops [⟨none, .mv 5 (.c (.int .i64 0))⟩])
  (.block 0 (.loop (.seq (.seq (.ops [⟨none, .mv 12 (.t 5)⟩,
    ⟨none, .mv 13 (.t 0)⟩,
    ⟨none, .ln 14 .sl (.t 13)⟩,
    ⟨none, .bi 15 .lss (.t 12) (.t 14)⟩,
    ⟨none, .mv 16 (.t 15)⟩,
    ⟨some (16, true), .mv 17 (.t 5)⟩,
    ⟨some (16, true), .bi 18 .lss (.t 17) (.c (.int .i64 200))⟩,
    ⟨none, .pk 19 (.t 16) (.t 18) (.c (.bool false))⟩])
  (.cond (.t 19) (.skip)
    (.exit 0)))
  (.seq (.block 1 (.seq (.ops [⟨none, .mv 23 (.t 4)⟩,
    ⟨none, .mv 24 (.t 0)⟩,
    ⟨none, .mv 25 (.t 5)⟩,
    ⟨none, .ia 26 (.t 24) (.t 25) 7⟩,
    ⟨none, .ld 27 (.t 26) 7 true⟩,
    ⟨none, .ca (some 28) 19 [(.t 23), (.t 27)]⟩,
    ⟨none, .mv 22 (.t 28)⟩,
    ⟨none, .ex 29 (.t 22) 0⟩,
    ⟨none, .ex 30 (.t 22) 1⟩,
    ⟨none, .mv 6 (.t 29)⟩,
    ⟨none, .mv 7 (.t 30)⟩])
  (.seq (.ops [⟨none, .mv 31 (.t 6)⟩,
    ⟨none, .mv 4 (.t 31)⟩])
  (.seq (.ops [⟨none, .mv 32 (.t 3)⟩,
    ⟨none, .mv 33 (.t 0)⟩,
    ⟨none, .mv 34 (.t 5)⟩,
    ⟨none, .ia 35 (.t 33) (.t 34) 7⟩,
    ⟨none, .ld 36 (.t 35) 7 true⟩,
    ⟨none, .ca (some 37) 20 [(.t 32), (.t 36)]⟩,
    ⟨none, .mv 38 (.t 7)⟩,
    ⟨none, .bi 39 .neq (.t 37) (.t 38)⟩,
    ⟨none, .mv 40 (.t 39)⟩,
    ⟨some (40, false), .mv 41 (.t 3)⟩,
    ⟨some (40, false), .ca (some 42) 22 [(.t 41)]⟩,
    ⟨some (40, false), .mv 43 (.t 4)⟩,
    ⟨some (40, false), .ca (some 44) 21 [(.t 42), (.t 43)]⟩,
    ⟨some (40, false), .un 45 .not (.t 44)⟩,
    ⟨none, .pk 46 (.t 40) (.c (.bool true)) (.t 45)⟩])
  (.cond (.t 46) (.seq (.ops [⟨none, .mv 2 (.c (.bool false))⟩])
    (.ret))
    (.skip))))))
  (.ops [⟨none, .mv 20 (.t 5)⟩,
    ⟨none, .bi 21 .add (.t 20) (.c (.int .i64 1))⟩,
    ⟨none, .mv 5 (.t 21)⟩]))))))
  (.seq (.ops [⟨none, .ca (some 47) 15 []⟩,
    ⟨none, .mv 2 (.t 47)⟩])
  (.ret))))))
theorem comp5 : compFn Try.prog [] Try.f5 = some ([.t 2], c5) := by kernel_rfl
/-- topiary/topiarylaw13.LwwAny: 2 parameters, 83 slots. -/
def c6 : C :=
  .seq (.ops [⟨none, .mv 4 (.c (.bool false))⟩])
  (.seq (.ops [⟨none, .mv 13 (.t 0)⟩,
    ⟨none, .ca (some 14) 16 [(.t 13)]⟩,
    ⟨none, .mv 12 (.t 14)⟩,
    ⟨none, .ex 15 (.t 12) 0⟩,
    ⟨none, .ex 16 (.t 12) 1⟩,
    ⟨none, .mv 5 (.t 15)⟩,
    ⟨none, .mv 6 (.t 16)⟩])
  (.seq (.ops [⟨none, .ca (some 17) 18 []⟩,
    ⟨none, .mv 7 (.t 17)⟩])
  (.seq (.seq (.ops [⟨none, .mv 18 (.t 7)⟩,
    ⟨none, .bq 19 false .ptr (.t 18) (.c (.ptr none))⟩])
  (.cond (.t 19) (.seq (.ops [⟨none, .mv 4 (.c (.bool false))⟩])
    (.ret))
    (.skip)))
  (.cut (.seq (.ops [⟨none, .mv 20 (.t 0)⟩,
    ⟨none, .ln 21 .sl (.t 20)⟩,
    ⟨none, .bi 22 .gtr (.t 21) (.c (.int .i64 200))⟩])
  (.cond (.t 22) (.ops [⟨none, .mv 23 (.t 0)⟩,
      ⟨none, .sl 24 7 (.t 23) none (some (.c (.int .i64 200)))⟩,
      ⟨none, .mv 0 (.t 24)⟩])
    (.skip)))
  (.seq (.ops [⟨none, .lit 25 7 []⟩,
    ⟨none, .mv 26 (.t 0)⟩,
    ⟨none, .ap 27 7 (.t 25) (.t 26)⟩,
    ⟨none, .mv 8 (.t 27)⟩])
  (.seq (.seq (.ops [⟨none, .mv 9 (.c (.int .i64 0))⟩])
  (.block 0 (.loop (.seq (.seq (.ops [⟨none, .mv 28 (.t 8)⟩,
    ⟨none, .ln 29 .sl (.t 28)⟩,
    ⟨none, .bi 30 .gtr (.t 29) (.c (.int .i64 0))⟩])
  (.cond (.t 30) (.skip)
    (.exit 0)))
  (.seq (.block 1 (.seq (.ops [⟨none, .mv 10 (.c (.int .i64 0))⟩])
  (.cut (.seq (.ops [⟨none, .mv 33 (.t 9)⟩,
    ⟨none, .mv 34 (.t 1)⟩,
    ⟨none, .ln 35 .sl (.t 34)⟩,
    ⟨none, .bi 36 .lss (.t 33) (.t 35)⟩])
  (.cond (.t 36) (.ops [⟨none, .mv 37 (.t 1)⟩,
      ⟨none, .mv 38 (.t 9)⟩,
      ⟨none, .ia 39 (.t 37) (.t 38) 1⟩,
      ⟨none, .ld 40 (.t 39) 1 false⟩,
      ⟨none, .cI 41 .u64 (.t 40)⟩,
      ⟨none, .mv 42 (.t 8)⟩,
      ⟨none, .ln 43 .sl (.t 42)⟩,
      ⟨none, .cI 44 .u64 (.t 43)⟩,
      ⟨none, .bi 45 .rem (.t 41) (.t 44)⟩,
      ⟨none, .cI 46 .i64 (.t 45)⟩,
      ⟨none, .mv 10 (.t 46)⟩])
    (.skip)))
  (.seq (.ops [⟨none, .mv 47 (.t 7)⟩,
    ⟨none, .mv 48 (.t 8)⟩,
    ⟨none, .mv 49 (.t 10)⟩,
    ⟨none, .ia 50 (.t 48) (.t 49) 7⟩,
    ⟨none, .ld 51 (.t 50) 7 true⟩,
    ⟨none, .ca (some 52) 20 [(.t 47), (.t 51)]⟩])
  (.seq (.ops [⟨none, .mv 53 (.t 7)⟩,
    ⟨none, .mv 54 (.t 8)⟩,
    ⟨none, .ia 55 (.t 54) (.c (.int .i64 0)) 7⟩,
    ⟨none, .ld 56 (.t 55) 7 true⟩,
    ⟨none, .ca (some 57) 20 [(.t 53), (.t 56)]⟩])
  (.seq (.ops [⟨none, .lit 58 7 []⟩,
    ⟨none, .mv 59 (.t 8)⟩,
    ⟨none, .mv 60 (.t 10)⟩,
    ⟨none, .sl 61 7 (.t 59) none (some (.t 60))⟩,
    ⟨none, .ap 62 7 (.t 58) (.t 61)⟩,
    ⟨none, .mv 11 (.t 62)⟩])
  (.ops [⟨none, .mv 63 (.t 11)⟩,
    ⟨none, .mv 64 (.t 8)⟩,
    ⟨none, .mv 65 (.t 10)⟩,
    ⟨none, .bi 66 .add (.t 65) (.c (.int .i64 1))⟩,
    ⟨none, .sl 67 7 (.t 64) (some (.t 66)) none⟩,
    ⟨none, .ap 68 7 (.t 63) (.t 67)⟩,
    ⟨none, .mv 8 (.t 68)⟩])))))))
  (.ops [⟨none, .mv 31 (.t 9)⟩,
    ⟨none, .bi 32 .add (.t 31) (.c (.int .i64 1))⟩,
    ⟨none, .mv 9 (.t 32)⟩]))))))
  (.seq (.ops [⟨none, .mv 69 (.t 5)⟩,
    ⟨none, .ca (some 70) 22 [(.t 69)]⟩,
    ⟨none, .mv 71 (.t 7)⟩,
    ⟨none, .ca (some 72) 22 [(.t 71)]⟩,
    ⟨none, .ca (some 73) 21 [(.t 70), (.t 72)]⟩,
    ⟨none, .mv 74 (.t 73)⟩,
    ⟨some (74, true), .mv 75 (.t 7)⟩,
    ⟨some (74, true), .ca (some 76) 22 [(.t 75)]⟩,
    ⟨some (74, true), .mv 77 (.t 6)⟩,
    ⟨some (74, true), .ca (some 78) 21 [(.t 76), (.t 77)]⟩,
    ⟨none, .pk 79 (.t 74) (.t 78) (.c (.bool false))⟩,
    ⟨none, .mv 80 (.t 79)⟩,
    ⟨some (80, true), .ca (some 81) 15 []⟩,
    ⟨none, .pk 82 (.t 80) (.t 81) (.c (.bool false))⟩,
    ⟨none, .mv 4 (.t 82)⟩])
  (.ret))))))))
theorem comp6 : compFn Try.prog [] Try.f6 = some ([.t 4], c6) := by kernel_rfl
/-- topiary/topiarylaw13.LwwApart: 2 parameters, 120 slots. -/
def c7 : C :=
  .seq (.ops [⟨none, .bxL 3 (.t 1)⟩,
    ⟨none, .mv 4 (.c (.bool false))⟩])
  (.seq (.ops [⟨none, .mv 11 (.t 0)⟩,
    ⟨none, .ca (some 12) 16 [(.t 11)]⟩,
    ⟨none, .mv 10 (.t 12)⟩,
    ⟨none, .ex 13 (.t 10) 0⟩,
    ⟨none, .ex 14 (.t 10) 1⟩,
    ⟨none, .mv 5 (.t 13)⟩,
    ⟨none, .mv 6 (.t 14)⟩])
  (.seq (.ops [⟨none, .mv 15 (.t 5)⟩,
    ⟨none, .ld 16 (.t 3) 7 true⟩,
    ⟨none, .ca (some 17) 20 [(.t 15), (.t 16)]⟩])
  (.seq (.ops [⟨none, .mv 18 (.t 5)⟩,
    ⟨none, .ca (some 19) 22 [(.t 18)]⟩,
    ⟨none, .mv 7 (.t 19)⟩])
  (.seq (.ops [⟨none, .mv 8 (.c (.int .i64 0))⟩])
  (.seq (.seq (.ops [⟨none, .mv 9 (.c (.int .i64 0))⟩])
  (.block 0 (.loop (.seq (.seq (.ops [⟨none, .mv 20 (.t 9)⟩,
    ⟨none, .mv 21 (.t 7)⟩,
    ⟨none, .ln 22 .sl (.t 21)⟩,
    ⟨none, .bi 23 .lss (.t 20) (.t 22)⟩])
  (.cond (.t 23) (.skip)
    (.exit 0)))
  (.cut (.block 1 (.seq (.seq (.opsD [⟨none, .mv 26 (.t 7)⟩,
    ⟨none, .mv 27 (.t 9)⟩,
    ⟨none, .ia 28 (.t 26) (.t 27) 7⟩,
    ⟨none, .fa 29 (.t 28) 0⟩,
    ⟨none, .ld 30 (.t 29) 2 true⟩,
    ⟨none, .fa 31 (.t 3) 0⟩,
    ⟨none, .ld 32 (.t 31) 2 true⟩,
    ⟨none, .be 33 false [.int .i64, .int .i64] (.t 30) (.t 32)⟩,
    ⟨none, .mv 34 (.t 33)⟩,
    ⟨some (34, true), .mv 35 (.t 7)⟩,
    ⟨some (34, true), .mv 36 (.t 9)⟩,
    ⟨some (34, true), .ia 37 (.t 35) (.t 36) 7⟩,
    ⟨some (34, true), .fa 38 (.t 37) 2⟩,
    ⟨some (34, true), .ld 39 (.t 38) 1 false⟩,
    ⟨some (34, true), .fa 40 (.t 3) 2⟩,
    ⟨some (34, true), .ld 41 (.t 40) 1 false⟩,
    ⟨some (34, true), .bi 42 .eql (.t 39) (.t 41)⟩,
    ⟨none, .pk 43 (.t 34) (.t 42) (.c (.bool false))⟩])
  (.cond (.t 43) (.exit 1)
    (.skip)))
  (.seq (.block 2 (.loop (.seq (.seq (.opsD [⟨none, .mv 44 (.t 8)⟩,
    ⟨none, .mv 45 (.t 6)⟩,
    ⟨none, .ln 46 .sl (.t 45)⟩,
    ⟨none, .bi 47 .lss (.t 44) (.t 46)⟩,
    ⟨none, .mv 48 (.t 47)⟩,
    ⟨some (48, true), .mv 49 (.t 6)⟩,
    ⟨some (48, true), .mv 50 (.t 8)⟩,
    ⟨some (48, true), .ia 51 (.t 49) (.t 50) 7⟩,
    ⟨some (48, true), .fa 52 (.t 51) 0⟩,
    ⟨some (48, true), .ld 53 (.t 52) 2 true⟩,
    ⟨some (48, true), .fa 54 (.t 3) 0⟩,
    ⟨some (48, true), .ld 55 (.t 54) 2 true⟩,
    ⟨some (48, true), .be 56 false [.int .i64, .int .i64] (.t 53) (.t 55)⟩,
    ⟨none, .pk 57 (.t 48) (.t 56) (.c (.bool false))⟩,
    ⟨none, .mv 58 (.t 57)⟩,
    ⟨some (58, true), .mv 59 (.t 6)⟩,
    ⟨some (58, true), .mv 60 (.t 8)⟩,
    ⟨some (58, true), .ia 61 (.t 59) (.t 60) 7⟩,
    ⟨some (58, true), .fa 62 (.t 61) 2⟩,
    ⟨some (58, true), .ld 63 (.t 62) 1 false⟩,
    ⟨some (58, true), .fa 64 (.t 3) 2⟩,
    ⟨some (58, true), .ld 65 (.t 64) 1 false⟩,
    ⟨some (58, true), .bi 66 .eql (.t 63) (.t 65)⟩,
    ⟨none, .pk 67 (.t 58) (.t 66) (.c (.bool false))⟩])
  (.cond (.t 67) (.skip)
    (.exit 2)))
  (.block 3 (.ops [⟨none, .mv 68 (.t 8)⟩,
    ⟨none, .bi 69 .add (.t 68) (.c (.int .i64 1))⟩,
    ⟨none, .mv 8 (.t 69)⟩])))))
  (.seq (.seq (.opsD [⟨none, .mv 70 (.t 8)⟩,
    ⟨none, .mv 71 (.t 6)⟩,
    ⟨none, .ln 72 .sl (.t 71)⟩,
    ⟨none, .bi 73 .geq (.t 70) (.t 72)⟩,
    ⟨none, .mv 74 (.t 73)⟩,
    ⟨some (74, false), .mv 75 (.t 7)⟩,
    ⟨some (74, false), .mv 76 (.t 9)⟩,
    ⟨some (74, false), .ia 77 (.t 75) (.t 76) 7⟩,
    ⟨some (74, false), .ld 78 (.t 77) 7 true⟩,
    ⟨some (74, false), .mv 79 (.t 6)⟩,
    ⟨some (74, false), .mv 80 (.t 8)⟩,
    ⟨some (74, false), .ia 81 (.t 79) (.t 80) 7⟩,
    ⟨some (74, false), .ld 82 (.t 81) 7 true⟩,
    ⟨some (74, false), .be 83 true [.int .i64, .int .i64, .str, .int .i64, .int .i64, .str, .bool] (.t 78) (.t 82)⟩,
    ⟨none, .pk 84 (.t 74) (.c (.bool true)) (.t 83)⟩])
  (.cond (.t 84) (.seq (.ops [⟨none, .mv 4 (.c (.bool false))⟩])
    (.ret))
    (.skip)))
  (.ops [⟨none, .mv 85 (.t 8)⟩,
    ⟨none, .bi 86 .add (.t 85) (.c (.int .i64 1))⟩,
    ⟨none, .mv 8 (.t 86)⟩])))))
  (.ops [⟨none, .mv 24 (.t 9)⟩,
    ⟨none, .bi 25 .add (.t 24) (.c (.int .i64 1))⟩,
    ⟨none, .mv 9 (.t 25)⟩]))))))
  (.seq (.block 4 (.loop (.seq (.seq (.opsD [⟨none, .mv 87 (.t 8)⟩,
    ⟨none, .mv 88 (.t 6)⟩,
    ⟨none, .ln 89 .sl (.t 88)⟩,
    ⟨none, .bi 90 .lss (.t 87) (.t 89)⟩,
    ⟨none, .mv 91 (.t 90)⟩,
    ⟨some (91, true), .mv 92 (.t 6)⟩,
    ⟨some (91, true), .mv 93 (.t 8)⟩,
    ⟨some (91, true), .ia 94 (.t 92) (.t 93) 7⟩,
    ⟨some (91, true), .fa 95 (.t 94) 0⟩,
    ⟨some (91, true), .ld 96 (.t 95) 2 true⟩,
    ⟨some (91, true), .fa 97 (.t 3) 0⟩,
    ⟨some (91, true), .ld 98 (.t 97) 2 true⟩,
    ⟨some (91, true), .be 99 false [.int .i64, .int .i64] (.t 96) (.t 98)⟩,
    ⟨none, .pk 100 (.t 91) (.t 99) (.c (.bool false))⟩,
    ⟨none, .mv 101 (.t 100)⟩,
    ⟨some (101, true), .mv 102 (.t 6)⟩,
    ⟨some (101, true), .mv 103 (.t 8)⟩,
    ⟨some (101, true), .ia 104 (.t 102) (.t 103) 7⟩,
    ⟨some (101, true), .fa 105 (.t 104) 2⟩,
    ⟨some (101, true), .ld 106 (.t 105) 1 false⟩,
    ⟨some (101, true), .fa 107 (.t 3) 2⟩,
    ⟨some (101, true), .ld 108 (.t 107) 1 false⟩,
    ⟨some (101, true), .bi 109 .eql (.t 106) (.t 108)⟩,
    ⟨none, .pk 110 (.t 101) (.t 109) (.c (.bool false))⟩])
  (.cond (.t 110) (.skip)
    (.exit 4)))
  (.block 5 (.ops [⟨none, .mv 111 (.t 8)⟩,
    ⟨none, .bi 112 .add (.t 111) (.c (.int .i64 1))⟩,
    ⟨none, .mv 8 (.t 112)⟩])))))
  (.seq (.ops [⟨none, .mv 113 (.t 8)⟩,
    ⟨none, .mv 114 (.t 6)⟩,
    ⟨none, .ln 115 .sl (.t 114)⟩,
    ⟨none, .bi 116 .eql (.t 113) (.t 115)⟩,
    ⟨none, .mv 117 (.t 116)⟩,
    ⟨some (117, true), .ca (some 118) 15 []⟩,
    ⟨none, .pk 119 (.t 117) (.t 118) (.c (.bool false))⟩,
    ⟨none, .mv 4 (.t 119)⟩])
  (.ret))))))))
theorem comp7 : compFn Try.prog [3] Try.f7 = some ([.t 4], c7) := by kernel_rfl
/-- topiary/topiarylaw13.LwwAsks: 3 parameters, 130 slots. -/
def c8 : C :=
  .seq (.ops [⟨none, .bxL 4 (.t 1)⟩,
    ⟨none, .bxH 5 (.t 2)⟩,
    ⟨none, .alH 6 [.bool false]⟩])
  (.seq (.ops [⟨none, .mv 20 (.t 0)⟩,
    ⟨none, .ca (some 21) 16 [(.t 20)]⟩,
    ⟨none, .mv 19 (.t 21)⟩,
    ⟨none, .ex 22 (.t 19) 0⟩,
    ⟨none, .ex 23 (.t 19) 1⟩,
    ⟨none, .mv 7 (.t 22)⟩,
    ⟨none, .mv 8 (.t 23)⟩])
  (.seq (.ops [⟨none, .mv 25 (.t 7)⟩,
    ⟨none, .fa 26 (.t 4) 0⟩,
    ⟨none, .ld 27 (.t 26) 2 true⟩,
    ⟨none, .fa 28 (.t 4) 2⟩,
    ⟨none, .ld 29 (.t 28) 1 false⟩,
    ⟨none, .ca (some 30) 17 [(.t 25), (.t 27), (.t 29)]⟩,
    ⟨none, .mv 24 (.t 30)⟩,
    ⟨none, .ex 31 (.t 24) 0⟩,
    ⟨none, .ex 32 (.t 24) 1⟩,
    ⟨none, .alL 9 [.int .i64 0, .int .i64 0, .str [], .int .i64 0, .int .i64 0, .str [], .bool false]⟩,
    ⟨none, .st (.t 9) (.t 31) 7⟩,
    ⟨none, .mv 10 (.t 32)⟩])
  (.seq (.ops [⟨none, .mv 34 (.t 8)⟩,
    ⟨none, .fa 35 (.t 4) 0⟩,
    ⟨none, .ld 36 (.t 35) 2 true⟩,
    ⟨none, .fa 37 (.t 4) 2⟩,
    ⟨none, .ld 38 (.t 37) 1 false⟩,
    ⟨none, .ca (some 39) 23 [(.t 34), (.t 36), (.t 38)]⟩,
    ⟨none, .mv 33 (.t 39)⟩,
    ⟨none, .ex 40 (.t 33) 0⟩,
    ⟨none, .ex 41 (.t 33) 1⟩,
    ⟨none, .alL 11 [.int .i64 0, .int .i64 0, .str [], .int .i64 0, .int .i64 0, .str [], .bool false]⟩,
    ⟨none, .st (.t 11) (.t 40) 7⟩,
    ⟨none, .mv 12 (.t 41)⟩])
  (.seq (.seq (.opsD [⟨none, .ld 42 (.t 9) 7 true⟩,
    ⟨none, .ld 43 (.t 11) 7 true⟩,
    ⟨none, .be 44 true [.int .i64, .int .i64, .str, .int .i64, .int .i64, .str, .bool] (.t 42) (.t 43)⟩,
    ⟨none, .mv 45 (.t 44)⟩,
    ⟨some (45, false), .mv 46 (.t 10)⟩,
    ⟨some (45, false), .mv 47 (.t 12)⟩,
    ⟨some (45, false), .bq 48 true .bool (.t 46) (.t 47)⟩,
    ⟨none, .pk 49 (.t 45) (.c (.bool true)) (.t 48)⟩,
    ⟨none, .mv 50 (.t 49)⟩,
    ⟨some (50, false), .mv 51 (.t 7)⟩,
    ⟨some (50, false), .fa 52 (.t 4) 0⟩,
    ⟨some (50, false), .ld 53 (.t 52) 2 true⟩,
    ⟨some (50, false), .fa 54 (.t 4) 2⟩,
    ⟨some (50, false), .ld 55 (.t 54) 1 false⟩,
    ⟨some (50, false), .fa 57 (.t 11) 5⟩,
    ⟨some (50, false), .ld 58 (.t 57) 1 false⟩,
    ⟨some (50, false), .ca (some 56) 24 [(.t 51), (.t 53), (.t 55)]⟩,
    ⟨some (50, false), .bi 59 .neq (.t 56) (.t 58)⟩,
    ⟨none, .pk 60 (.t 50) (.c (.bool true)) (.t 59)⟩])
  (.cond (.t 60) (.seq (.ops [⟨none, .st (.t 6) (.c (.bool false)) 1⟩])
    (.ret))
    (.skip)))
  (.seq (.ops [⟨none, .mv 61 (.t 8)⟩,
    ⟨none, .fa 62 (.t 4) 0⟩,
    ⟨none, .ld 63 (.t 62) 2 true⟩,
    ⟨none, .ca (some 64) 25 [(.t 61), (.t 63)]⟩,
    ⟨none, .alH 13 [.sl true .pub 0 []]⟩,
    ⟨none, .st (.t 13) (.t 64) 1⟩])
  (.seq (.ops [⟨none, .mv 65 (.t 7)⟩,
    ⟨none, .fa 66 (.t 4) 0⟩,
    ⟨none, .ld 67 (.t 66) 2 true⟩,
    ⟨none, .ca (some 68) 26 [(.t 65), (.t 67)]⟩,
    ⟨none, .mv 14 (.t 68)⟩])
  (.seq (.seq (.ops [⟨none, .mv 69 (.t 14)⟩,
    ⟨none, .bq 70 false .fn (.t 69) (.c (.nilf))⟩])
  (.cond (.t 70) (.seq (.ops [⟨none, .st (.t 6) (.c (.bool false)) 1⟩])
    (.ret))
    (.skip)))
  (.seq (.ops [⟨none, .mv 71 (.t 7)⟩,
    ⟨none, .fa 72 (.t 4) 0⟩,
    ⟨none, .ld 73 (.t 72) 2 true⟩,
    ⟨none, .bld 74 [.int .i64 0, .int .i64 0] [(0, 1, (.c (.int .i64 1099511627776)))]⟩,
    ⟨none, .bld 75 [.int .i64 0, .int .i64 0, .str [], .int .i64 0, .int .i64 0, .str [], .bool false] [(0, 2, (.t 73)), (2, 1, (.c (.str [122, 122]))), (3, 2, (.t 74))]⟩,
    ⟨none, .ca (some 76) 20 [(.t 71), (.t 75)]⟩])
  (.seq (.ops [⟨none, .alH 15 [.int .i64 0]⟩,
    ⟨none, .st (.t 15) (.c (.int .i64 0)) 1⟩])
  (.cut (.seq (.ops [⟨none, .mv 77 (.t 14)⟩])
  (.block 0 (.range (.t 77) [78] (.ops [⟨none, .alL 16 [.str [], .str []]⟩,
    ⟨none, .st (.t 16) (.t 78) 2⟩])
  (.block 1 (.seq (.seq (.ops [⟨none, .ld 79 (.t 15) 1 false⟩,
    ⟨none, .ld 80 (.t 5) 1 false⟩,
    ⟨none, .bi 81 .eql (.t 79) (.t 80)⟩])
  (.cond (.t 81) (.exit 0)
    (.skip)))
  (.seq (.seq (.opsD [⟨none, .ld 82 (.t 15) 1 false⟩,
    ⟨none, .ld 83 (.t 13) 1 false⟩,
    ⟨none, .ln 84 .sl (.t 83)⟩,
    ⟨none, .bi 85 .geq (.t 82) (.t 84)⟩,
    ⟨none, .mv 86 (.t 85)⟩,
    ⟨some (86, false), .ld 87 (.t 16) 2 true⟩,
    ⟨some (86, false), .ld 88 (.t 13) 1 false⟩,
    ⟨some (86, false), .ld 89 (.t 15) 1 false⟩,
    ⟨some (86, false), .ia 90 (.t 88) (.t 89) 2⟩,
    ⟨some (86, false), .ld 91 (.t 90) 2 true⟩,
    ⟨some (86, false), .be 92 true [.str, .str] (.t 87) (.t 91)⟩,
    ⟨none, .pk 93 (.t 86) (.c (.bool true)) (.t 92)⟩])
  (.cond (.t 93) (.seq (.ops [⟨none, .st (.t 6) (.c (.bool false)) 1⟩])
    (.ret))
    (.skip)))
  (.ops [⟨none, .ld 94 (.t 15) 1 false⟩,
    ⟨none, .bi 95 .add (.t 94) (.c (.int .i64 1))⟩,
    ⟨none, .st (.t 15) (.t 95) 1⟩])))))))
  (.seq (.ops [⟨none, .alH 17 [.int .i64 0]⟩,
    ⟨none, .st (.t 17) (.c (.int .i64 0)) 1⟩])
  (.seq (.seq (.ops [⟨none, .mv 96 (.t 14)⟩])
  (.block 2 (.range (.t 96) [97] (.ops [⟨none, .alL 18 [.str [], .str []]⟩,
    ⟨none, .st (.t 18) (.t 97) 2⟩])
  (.block 3 (.seq (.seq (.opsD [⟨none, .ld 98 (.t 17) 1 false⟩,
    ⟨none, .ld 99 (.t 13) 1 false⟩,
    ⟨none, .ln 100 .sl (.t 99)⟩,
    ⟨none, .bi 101 .geq (.t 98) (.t 100)⟩,
    ⟨none, .mv 102 (.t 101)⟩,
    ⟨some (102, false), .ld 103 (.t 18) 2 true⟩,
    ⟨some (102, false), .ld 104 (.t 13) 1 false⟩,
    ⟨some (102, false), .ld 105 (.t 17) 1 false⟩,
    ⟨some (102, false), .ia 106 (.t 104) (.t 105) 2⟩,
    ⟨some (102, false), .ld 107 (.t 106) 2 true⟩,
    ⟨some (102, false), .be 108 true [.str, .str] (.t 103) (.t 107)⟩,
    ⟨none, .pk 109 (.t 102) (.c (.bool true)) (.t 108)⟩])
  (.cond (.t 109) (.seq (.ops [⟨none, .st (.t 6) (.c (.bool false)) 1⟩])
    (.ret))
    (.skip)))
  (.ops [⟨none, .ld 110 (.t 17) 1 false⟩,
    ⟨none, .bi 111 .add (.t 110) (.c (.int .i64 1))⟩,
    ⟨none, .st (.t 17) (.t 111) 1⟩]))))))
  (.seq (.ops [⟨none, .ld 112 (.t 17) 1 false⟩,
    ⟨none, .ld 113 (.t 13) 1 false⟩,
    ⟨none, .ln 114 .sl (.t 113)⟩,
    ⟨none, .bi 115 .eql (.t 112) (.t 114)⟩,
    ⟨none, .mv 116 (.t 115)⟩,
    ⟨some (116, true), .ld 117 (.t 15) 1 false⟩,
    ⟨some (116, true), .ld 118 (.t 13) 1 false⟩,
    ⟨some (116, true), .ln 119 .sl (.t 118)⟩,
    ⟨some (116, true), .bi 120 .eql (.t 117) (.t 119)⟩,
    ⟨some (116, true), .mv 121 (.t 120)⟩,
    ⟨some (121, false), .ld 122 (.t 15) 1 false⟩,
    ⟨some (121, false), .ld 123 (.t 5) 1 false⟩,
    ⟨some (121, false), .bi 124 .eql (.t 122) (.t 123)⟩,
    ⟨some (116, true), .pk 125 (.t 121) (.c (.bool true)) (.t 124)⟩,
    ⟨none, .pk 126 (.t 116) (.t 125) (.c (.bool false))⟩,
    ⟨none, .mv 127 (.t 126)⟩,
    ⟨some (127, true), .ca (some 128) 15 []⟩,
    ⟨none, .pk 129 (.t 127) (.t 128) (.c (.bool false))⟩,
    ⟨none, .st (.t 6) (.t 129) 1⟩])
  (.ret))))))))))))))
theorem comp8 : compFn Try.prog [4, 9, 11, 16, 18] Try.f8 = some ([.c 6 1 false], c8) := by kernel_rfl
/-- topiary/topiarylaw13.LwwMerges: 3 parameters, 137 slots. -/
def c9 : C :=
  .seq (.ops [⟨none, .mv 6 (.c (.bool false))⟩])
  (.seq (.ops [⟨none, .mv 18 (.t 0)⟩,
    ⟨none, .ca (some 19) 16 [(.t 18)]⟩,
    ⟨none, .mv 17 (.t 19)⟩,
    ⟨none, .ex 20 (.t 17) 0⟩,
    ⟨none, .ex 21 (.t 17) 1⟩,
    ⟨none, .mv 7 (.t 20)⟩,
    ⟨none, .mv 8 (.t 21)⟩])
  (.seq (.ops [⟨none, .mv 23 (.t 1)⟩,
    ⟨none, .ca (some 24) 16 [(.t 23)]⟩,
    ⟨none, .mv 22 (.t 24)⟩,
    ⟨none, .ex 25 (.t 22) 0⟩,
    ⟨none, .ex 26 (.t 22) 1⟩,
    ⟨none, .mv 9 (.t 25)⟩,
    ⟨none, .mv 10 (.t 26)⟩])
  (.seq (.ops [⟨none, .mv 28 (.t 2)⟩,
    ⟨none, .ca (some 29) 16 [(.t 28)]⟩,
    ⟨none, .mv 27 (.t 29)⟩,
    ⟨none, .ex 30 (.t 27) 0⟩,
    ⟨none, .ex 31 (.t 27) 1⟩,
    ⟨none, .mv 11 (.t 30)⟩,
    ⟨none, .mv 12 (.t 31)⟩])
  (.seq (.ops [⟨none, .mv 32 (.t 7)⟩,
    ⟨none, .ca (some 33) 27 [(.t 32)]⟩,
    ⟨none, .mv 13 (.t 33)⟩])
  (.seq (.ops [⟨none, .mv 34 (.t 9)⟩,
    ⟨none, .ca (some 35) 27 [(.t 34)]⟩,
    ⟨none, .mv 14 (.t 35)⟩])
  (.seq (.seq (.ops [⟨none, .mv 36 (.t 13)⟩,
    ⟨none, .bq 37 false .ptr (.t 36) (.c (.ptr none))⟩,
    ⟨none, .mv 38 (.t 37)⟩,
    ⟨some (38, false), .mv 39 (.t 14)⟩,
    ⟨some (38, false), .bq 40 false .ptr (.t 39) (.c (.ptr none))⟩,
    ⟨none, .pk 41 (.t 38) (.c (.bool true)) (.t 40)⟩,
    ⟨none, .mv 42 (.t 41)⟩,
    ⟨some (42, false), .mv 43 (.t 13)⟩,
    ⟨some (42, false), .mv 44 (.t 9)⟩,
    ⟨some (42, false), .ca (some 45) 28 [(.t 43), (.t 44)]⟩,
    ⟨some (42, false), .bi 46 .neq (.t 45) (.c (.int .i64 0))⟩,
    ⟨none, .pk 47 (.t 42) (.c (.bool true)) (.t 46)⟩,
    ⟨none, .mv 48 (.t 47)⟩,
    ⟨some (48, false), .mv 49 (.t 14)⟩,
    ⟨some (48, false), .mv 50 (.t 7)⟩,
    ⟨some (48, false), .ca (some 51) 28 [(.t 49), (.t 50)]⟩,
    ⟨some (48, false), .bi 52 .neq (.t 51) (.c (.int .i64 0))⟩,
    ⟨none, .pk 53 (.t 48) (.c (.bool true)) (.t 52)⟩])
  (.cond (.t 53) (.seq (.ops [⟨none, .mv 6 (.c (.bool false))⟩])
    (.ret))
    (.skip)))
  (.seq (.ops [⟨none, .mv 54 (.t 8)⟩,
    ⟨none, .mv 55 (.t 10)⟩,
    ⟨none, .ca (some 56) 29 [(.t 54), (.t 55)]⟩,
    ⟨none, .mv 15 (.t 56)⟩])
  (.seq (.seq (.ops [⟨none, .mv 57 (.t 13)⟩,
    ⟨none, .ca (some 58) 22 [(.t 57)]⟩,
    ⟨none, .mv 59 (.t 15)⟩,
    ⟨none, .ca (some 60) 21 [(.t 58), (.t 59)]⟩,
    ⟨none, .un 61 .not (.t 60)⟩,
    ⟨none, .mv 62 (.t 61)⟩,
    ⟨some (62, false), .mv 63 (.t 14)⟩,
    ⟨some (62, false), .ca (some 64) 22 [(.t 63)]⟩,
    ⟨some (62, false), .mv 65 (.t 15)⟩,
    ⟨some (62, false), .ca (some 66) 21 [(.t 64), (.t 65)]⟩,
    ⟨some (62, false), .un 67 .not (.t 66)⟩,
    ⟨none, .pk 68 (.t 62) (.c (.bool true)) (.t 67)⟩,
    ⟨none, .mv 69 (.t 68)⟩,
    ⟨some (69, false), .mv 70 (.t 13)⟩,
    ⟨some (69, false), .mv 71 (.t 9)⟩,
    ⟨some (69, false), .ca (some 72) 28 [(.t 70), (.t 71)]⟩,
    ⟨some (69, false), .bi 73 .neq (.t 72) (.c (.int .i64 0))⟩,
    ⟨none, .pk 74 (.t 69) (.c (.bool true)) (.t 73)⟩,
    ⟨none, .mv 75 (.t 74)⟩,
    ⟨some (75, false), .mv 76 (.t 13)⟩,
    ⟨some (75, false), .ca (some 77) 22 [(.t 76)]⟩,
    ⟨some (75, false), .mv 78 (.t 15)⟩,
    ⟨some (75, false), .ca (some 79) 21 [(.t 77), (.t 78)]⟩,
    ⟨some (75, false), .un 80 .not (.t 79)⟩,
    ⟨none, .pk 81 (.t 75) (.c (.bool true)) (.t 80)⟩])
  (.cond (.t 81) (.seq (.ops [⟨none, .mv 6 (.c (.bool false))⟩])
    (.ret))
    (.skip)))
  (.seq (.ops [⟨none, .mv 82 (.t 9)⟩,
    ⟨none, .ca (some 83) 27 [(.t 82)]⟩,
    ⟨none, .mv 16 (.t 83)⟩])
  (.seq (.seq (.ops [⟨none, .mv 84 (.t 16)⟩,
    ⟨none, .bq 85 false .ptr (.t 84) (.c (.ptr none))⟩,
    ⟨none, .mv 86 (.t 85)⟩,
    ⟨some (86, false), .mv 87 (.t 16)⟩,
    ⟨some (86, false), .mv 88 (.t 11)⟩,
    ⟨some (86, false), .ca (some 89) 28 [(.t 87), (.t 88)]⟩,
    ⟨some (86, false), .bi 90 .neq (.t 89) (.c (.int .i64 0))⟩,
    ⟨none, .pk 91 (.t 86) (.c (.bool true)) (.t 90)⟩,
    ⟨none, .mv 92 (.t 91)⟩,
    ⟨some (92, false), .mv 93 (.t 13)⟩,
    ⟨some (92, false), .mv 94 (.t 11)⟩,
    ⟨some (92, false), .ca (some 95) 28 [(.t 93), (.t 94)]⟩,
    ⟨some (92, false), .bi 96 .neq (.t 95) (.c (.int .i64 0))⟩,
    ⟨none, .pk 97 (.t 92) (.c (.bool true)) (.t 96)⟩,
    ⟨none, .mv 98 (.t 97)⟩,
    ⟨some (98, false), .mv 99 (.t 7)⟩,
    ⟨some (98, false), .mv 100 (.t 16)⟩,
    ⟨some (98, false), .ca (some 101) 28 [(.t 99), (.t 100)]⟩,
    ⟨some (98, false), .bi 102 .neq (.t 101) (.c (.int .i64 0))⟩,
    ⟨none, .pk 103 (.t 98) (.c (.bool true)) (.t 102)⟩,
    ⟨none, .mv 104 (.t 103)⟩,
    ⟨some (104, false), .mv 105 (.t 13)⟩,
    ⟨some (104, false), .ca (some 106) 28 [(.t 105), (.c (.ptr none))]⟩,
    ⟨some (104, false), .bi 107 .neq (.t 106) (.c (.int .i64 0))⟩,
    ⟨none, .pk 108 (.t 104) (.c (.bool true)) (.t 107)⟩])
  (.cond (.t 108) (.seq (.ops [⟨none, .mv 6 (.c (.bool false))⟩])
    (.ret))
    (.skip)))
  (.seq (.ops [⟨none, .mv 109 (.t 7)⟩,
    ⟨none, .ca (some 110) 22 [(.t 109)]⟩,
    ⟨none, .mv 111 (.t 13)⟩,
    ⟨none, .ca (some 112) 22 [(.t 111)]⟩,
    ⟨none, .ca (some 113) 21 [(.t 110), (.t 112)]⟩,
    ⟨none, .mv 114 (.t 113)⟩,
    ⟨some (114, true), .mv 115 (.t 13)⟩,
    ⟨some (114, true), .ca (some 116) 22 [(.t 115)]⟩,
    ⟨some (114, true), .mv 117 (.t 15)⟩,
    ⟨some (114, true), .mv 118 (.t 12)⟩,
    ⟨some (114, true), .ca (some 119) 29 [(.t 117), (.t 118)]⟩,
    ⟨some (114, true), .ca (some 120) 21 [(.t 116), (.t 119)]⟩,
    ⟨none, .pk 121 (.t 114) (.t 120) (.c (.bool false))⟩,
    ⟨none, .mv 122 (.t 121)⟩,
    ⟨some (122, true), .mv 123 (.t 9)⟩,
    ⟨some (122, true), .ca (some 124) 22 [(.t 123)]⟩,
    ⟨some (122, true), .mv 125 (.t 10)⟩,
    ⟨some (122, true), .ca (some 126) 21 [(.t 124), (.t 125)]⟩,
    ⟨none, .pk 127 (.t 122) (.t 126) (.c (.bool false))⟩,
    ⟨none, .mv 128 (.t 127)⟩,
    ⟨some (128, true), .mv 129 (.t 11)⟩,
    ⟨some (128, true), .ca (some 130) 22 [(.t 129)]⟩,
    ⟨some (128, true), .mv 131 (.t 12)⟩,
    ⟨some (128, true), .ca (some 132) 21 [(.t 130), (.t 131)]⟩,
    ⟨none, .pk 133 (.t 128) (.t 132) (.c (.bool false))⟩,
    ⟨none, .mv 134 (.t 133)⟩,
    ⟨some (134, true), .ca (some 135) 15 []⟩,
    ⟨none, .pk 136 (.t 134) (.t 135) (.c (.bool false))⟩,
    ⟨none, .mv 6 (.t 136)⟩])
  (.ret))))))))))))
theorem comp9 : compFn Try.prog [] Try.f9 = some ([.t 6], c9) := by kernel_rfl
/-- topiary/topiarylaw13.LwwNil: 1 parameters, 66 slots. -/
def c10 : C :=
  .seq (.ops [⟨none, .bxL 1 (.t 0)⟩,
    ⟨none, .alH 2 [.bool false]⟩])
  (.seq (.ops [⟨none, .mv 3 (.c (.ptr none))⟩])
  (.seq (.ops [⟨none, .mv 8 (.t 3)⟩,
    ⟨none, .fa 9 (.t 1) 0⟩,
    ⟨none, .ld 10 (.t 9) 2 true⟩,
    ⟨none, .fa 11 (.t 1) 2⟩,
    ⟨none, .ld 12 (.t 11) 1 false⟩,
    ⟨none, .ca (some 13) 17 [(.t 8), (.t 10), (.t 12)]⟩,
    ⟨none, .mv 7 (.t 13)⟩,
    ⟨none, .ex 14 (.t 7) 0⟩,
    ⟨none, .ex 15 (.t 7) 1⟩,
    ⟨none, .alL 4 [.int .i64 0, .int .i64 0, .str [], .int .i64 0, .int .i64 0, .str [], .bool false]⟩,
    ⟨none, .st (.t 4) (.t 14) 7⟩,
    ⟨none, .mv 5 (.t 15)⟩])
  (.seq (.ops [⟨none, .mv 16 (.t 3)⟩,
    ⟨none, .fa 17 (.t 1) 0⟩,
    ⟨none, .ld 18 (.t 17) 2 true⟩,
    ⟨none, .ca (some 19) 26 [(.t 16), (.t 18)]⟩,
    ⟨none, .mv 6 (.t 19)⟩])
  (.seq (.seq (.ops [⟨none, .mv 20 (.t 6)⟩,
    ⟨none, .bq 21 false .fn (.t 20) (.c (.nilf))⟩])
  (.cond (.t 21) (.seq (.ops [⟨none, .st (.t 2) (.c (.bool false)) 1⟩])
    (.ret))
    (.skip)))
  (.seq (.seq (.ops [⟨none, .mv 22 (.t 6)⟩])
  (.block 0 (.range (.t 22) [23] (.skip)
  (.block 1 (.seq (.ops [⟨none, .st (.t 2) (.c (.bool false)) 1⟩])
  (.ret))))))
  (.seq (.ops [⟨none, .mv 24 (.t 3)⟩,
    ⟨none, .ld 25 (.t 1) 7 true⟩,
    ⟨none, .ca (some 26) 20 [(.t 24), (.t 25)]⟩,
    ⟨none, .bi 27 .eql (.t 26) (.c (.int .i64 7))⟩,
    ⟨none, .mv 28 (.t 27)⟩,
    ⟨some (28, true), .mv 29 (.t 3)⟩,
    ⟨some (28, true), .mv 30 (.t 3)⟩,
    ⟨some (28, true), .ca (some 31) 28 [(.t 29), (.t 30)]⟩,
    ⟨some (28, true), .bi 32 .eql (.t 31) (.c (.int .i64 7))⟩,
    ⟨none, .pk 33 (.t 28) (.t 32) (.c (.bool false))⟩,
    ⟨none, .mv 34 (.t 33)⟩,
    ⟨some (34, true), .ld 35 (.t 4) 7 true⟩,
    ⟨some (34, true), .bld 36 [.int .i64 0, .int .i64 0, .str [], .int .i64 0, .int .i64 0, .str [], .bool false] []⟩,
    ⟨some (34, true), .be 37 false [.int .i64, .int .i64, .str, .int .i64, .int .i64, .str, .bool] (.t 35) (.t 36)⟩,
    ⟨none, .pk 38 (.t 34) (.t 37) (.c (.bool false))⟩,
    ⟨none, .mv 39 (.t 38)⟩,
    ⟨some (39, true), .mv 40 (.t 5)⟩,
    ⟨some (39, true), .un 41 .not (.t 40)⟩,
    ⟨none, .pk 42 (.t 39) (.t 41) (.c (.bool false))⟩,
    ⟨none, .mv 43 (.t 42)⟩,
    ⟨some (43, true), .mv 44 (.t 3)⟩,
    ⟨some (43, true), .fa 45 (.t 1) 0⟩,
    ⟨some (43, true), .ld 46 (.t 45) 2 true⟩,
    ⟨some (43, true), .fa 47 (.t 1) 2⟩,
    ⟨some (43, true), .ld 48 (.t 47) 1 false⟩,
    ⟨some (43, true), .ca (some 49) 24 [(.t 44), (.t 46), (.t 48)]⟩,
    ⟨some (43, true), .bi 50 .eql (.t 49) (.c (.str []))⟩,
    ⟨none, .pk 51 (.t 43) (.t 50) (.c (.bool false))⟩,
    ⟨none, .mv 52 (.t 51)⟩,
    ⟨some (52, true), .mv 53 (.t 3)⟩,
    ⟨some (52, true), .ca (some 54) 22 [(.t 53)]⟩,
    ⟨some (52, true), .ln 55 .sl (.t 54)⟩,
    ⟨some (52, true), .bi 56 .eql (.t 55) (.c (.int .i64 0))⟩,
    ⟨none, .pk 57 (.t 52) (.t 56) (.c (.bool false))⟩,
    ⟨none, .mv 58 (.t 57)⟩,
    ⟨some (58, true), .mv 59 (.t 3)⟩,
    ⟨some (58, true), .ca (some 60) 27 [(.t 59)]⟩,
    ⟨some (58, true), .bq 61 false .ptr (.t 60) (.c (.ptr none))⟩,
    ⟨none, .pk 62 (.t 58) (.t 61) (.c (.bool false))⟩,
    ⟨none, .mv 63 (.t 62)⟩,
    ⟨some (63, true), .ca (some 64) 15 []⟩,
    ⟨none, .pk 65 (.t 63) (.t 64) (.c (.bool false))⟩,
    ⟨none, .st (.t 2) (.t 65) 1⟩])
  (.ret)))))))
theorem comp10 : compFn Try.prog [1, 4] Try.f10 = some ([.c 2 1 false], c10) := by kernel_rfl
end Go.VL.lww

namespace Go.VL
open Go

/-- A slice that may be read. -/
def RdS (σ : St) (v : V) (s : Nat) (es : List (List V)) : Prop := ∃ b r s', v = .sl b r s' es ∧ (b = true → es = []) ∧ (b = true ∨ rd σ.live r ∧ s' = s)
def intsV (k : IntKind) (l : List Int) : List (List V) := l.map fun n => [V.int k n]

theorem RdS.ext {σ τ : St} {v : V} {s : Nat} {es : List (List V)} (h : RdS σ v s es) (he : Ext σ τ) : RdS τ v s es := by
  obtain ⟨b, r, s', h1, h2, h3⟩ := h
  exact ⟨b, r, s', h1, h2, h3.imp_right fun x => ⟨rd_ext he x.1, x.2⟩⟩

theorem intsV_get {k : IntKind} {l : List Int} {i : Nat} (h : i < l.length) : (intsV k l)[((i : Nat) : Int).toNat]?.getD [] = [V.int k l[i]] := by
  simp [intsV, h]
theorem bytesV_get {l : List UInt8} {i : Nat} (h : i < l.length) : (bytesV l)[((i : Nat) : Int).toNat]?.getD [] = [V.int .u8 l[i].toNat] := by
  simp [bytesV, h]
theorem intsV_length (k : IntKind) (l : List Int) : (intsV k l).length = l.length := by simp [intsV]

/-- A slice that is owned, and new since a state. -/
def NewS (σ σ' : St) (v : V) (s : Nat) (es : List (List V)) : Prop := ∃ r, v = .sl false (.own r) s es ∧ σ'.live[r]? = some true ∧ σ.live.length ≤ r

theorem NewS.rd {σ σ' : St} {v : V} {s : Nat} {es : List (List V)} (h : NewS σ σ' v s es) : RdS σ' v s es := by
  obtain ⟨r, rfl, h1, _⟩ := h
  exact ⟨false, .own r, s, rfl, by simp, .inr ⟨h1, rfl⟩⟩
theorem NewS.ext {σ σ' τ : St} {v : V} {s : Nat} {es : List (List V)} (h : NewS σ σ' v s es) (he : Ext σ' τ) : NewS σ τ v s es := by
  obtain ⟨r, h0, h1, h2⟩ := h
  exact ⟨r, h0, he.live _ h1, h2⟩

/-- A right that is new has gone, another one has come. -/
theorem ext_kill {σ σ' : St} (h : Ext σ σ') {r : Nat} (hr : σ.live.length ≤ r) {b : Bool} : Ext σ ⟨σ'.objs, σ'.live.set r false ++ [b]⟩ :=
  ⟨h.objs, fun i hi => by
    have h1 := (List.getElem?_eq_some_iff.1 hi).1
    have h2 := h.live i hi
    have h3 := (List.getElem?_eq_some_iff.1 h2).1
    rw [List.getElem?_append_left (by simpa using h3), List.getElem?_set_ne (by omega)]
    exact h2, h.olen, by simp; have := h.llen; omega⟩
theorem ext_push {σ σ' : St} (h : Ext σ σ') {b : Bool} : Ext σ ⟨σ'.objs, σ'.live ++ [b]⟩ := h.trans (ext_live _ _)
/-- What is older than a right is not renamed with it. -/
theorem renS_old {σ : St} {b : Bool} {R : R} {z n r r' s : Nat} {es l : List (List V)} (h : RdS σ (.sl b R z l) n l) (hr : σ.live.length ≤ r) : renS r r' s es (.v (.sl b R z l)) = .v (.sl b R z l) := by
  obtain ⟨_, _, _, e, _, h2⟩ := h
  cases e
  rcases h2 with rfl | h2
  · exact renS_nil _ _ _
  · cases R with
    | pub => exact renS_pub _ _ _
    | view q => exact renS_view _ _ _ _
    | own q =>
      cases b with
      | true => exact renS_nil _ _ _
      | false =>
        have h3 : σ.live[q]? = some true := h2.1
        have := (List.getElem?_eq_some_iff.1 h3).1
        have h4 : Nat.beq q r = false := by
          rw [beq_nat]
          simp
          omega
        simp [renS_own, h4]
theorem live_last (l : List Bool) (b : Bool) : (l ++ [b])[l.length]? = some b := by simp
theorem live_last' (l : List Bool) (r : Nat) (b : Bool) : (l.set r false ++ [b])[l.length]? = some b := by
  rw [List.getElem?_append_right (by simp)]; simp

theorem bytesV_append (a b : List UInt8) : bytesV a ++ bytesV b = bytesV (a ++ b) := by simp [bytesV]
theorem bytesV_length (a : List UInt8) : (bytesV a).length = a.length := by simp [bytesV]
theorem bytes_back (s : List UInt8) : (bytesV s).map byteOfC = s := by
  induction s with
  | nil => rfl
  | cons c r ih => simp only [bytesV, List.map_cons, byteOfC] at ih ⊢; rw [ih]; simp
theorem byte1 (n : Int) (h : 0 ≤ n ∧ n ≤ 255) : [[V.int .u8 n]] = bytesV [UInt8.ofNat n.toNat] := by
  have : ((UInt8.ofNat n.toNat).toNat : Int) = n := by
    rw [UInt8.toNat_ofNat']; omega
  simp only [bytesV, List.map_cons, List.map_nil, this]

theorem and_127 (n : Nat) (h : n < 9223372036854775808) : ibits .and .i64 n 127 = (n % 128 : Nat) := by
  have h1 : (BitVec.ofInt IntKind.i64.bits (n : Int)).toNat = n := by
    rw [BitVec.ofInt_natCast, BitVec.toNat_ofNat, show IntKind.i64.bits = 64 from rfl]; omega
  have h2 : (BitVec.ofInt IntKind.i64.bits 127).toNat = 127 := rfl
  simp only [ibits, BitVec.toNat_and, h1, h2]
  rw [show n &&& 127 = n % 128 from Nat.and_two_pow_sub_one_eq_mod n 7, IntWalk.i64_in _ (by omega)]
theorem or_128 (n : Nat) (h : n < 128) : ibits .or .i64 n 128 = (n + 128 : Nat) := by
  have h1 : (BitVec.ofInt IntKind.i64.bits (n : Int)).toNat = n := by
    rw [BitVec.ofInt_natCast, BitVec.toNat_ofNat, show IntKind.i64.bits = 64 from rfl]; omega
  have h2 : (BitVec.ofInt IntKind.i64.bits 128).toNat = 128 := rfl
  simp only [ibits, BitVec.toNat_or, h1, h2]
  have : n ||| 128 = n + 128 := by
    have := Nat.two_pow_add_eq_or_of_lt (i := 7) (b := n) (by omega) 1
    rw [Nat.or_comm]; simp only [Nat.reducePow, Nat.mul_one] at this; omega
  rw [this, IntWalk.i64_in _ (by omega)]
theorem shr_7 (n : Nat) : (n : Int).fdiv (2 ^ min (Int.toNat 7) 64) = (n / 128 : Nat) := by
  show (n : Int).fdiv (2 ^ 7) = _
  rw [Int.fdiv_eq_ediv_of_nonneg _ (by decide)]; rfl
end Go.VL

namespace Go.VL
open Go

theorem setC_self {σ : St} {i : Nat} {cs : List V} (h : σ.objs[i]? = some (.cells cs)) : σ.setC i cs = σ := by
  obtain ⟨h1, h2⟩ := List.getElem?_eq_some_iff.1 h
  simp only [St.setC]
  rw [← h2, List.set_getElem_self]
theorem RdS.setC {σ : St} {v : V} {s i : Nat} {es : List (List V)} {cs : List V} (h : RdS σ v s es) : RdS (σ.setC i cs) v s es := by
  obtain ⟨b, r, s', h1, h2, h3⟩ := h
  refine ⟨b, r, s', h1, h2, h3.imp_right fun x => ⟨?_, x.2⟩⟩
  have := x.1
  cases r <;> exact this
theorem lit_rd {σ : St} {l : List Bool} {es : List (List V)} {n : Nat} : RdS ⟨σ.objs, σ.live ++ [true]⟩ (.sl false (.own σ.live.length) n es) n es :=
  ⟨false, _, n, rfl, by simp, .inr ⟨live_last _ _, rfl⟩⟩
theorem ext_set {σ σ' : St} (h : Ext σ σ') {i : Nat} (hi : σ.objs.length ≤ i) {cs : List V} : Ext σ (σ'.setC i cs) :=
  ⟨fun j o hj => by
    have h1 := (List.getElem?_eq_some_iff.1 hj).1
    show (σ'.objs.set i _)[j]? = some o
    rw [List.getElem?_set_ne (by omega)]
    exact h.objs _ _ hj, h.live, by
    show σ.objs.length ≤ (σ'.objs.set i _).length
    rw [List.length_set]; exact h.olen, h.llen⟩
theorem tmod_nat (a b : Nat) : ((a : Int).tmod (b : Int)) = ((a % b : Nat) : Int) := by rw [Int.ofNat_tmod]
theorem tdiv_nat (a b : Nat) : ((a : Int).tdiv (b : Int)) = ((a / b : Nat) : Int) := by rw [Int.ofNat_tdiv]
theorem kept_setC {L : List Nat} {σ : St} {i : Nat} {cs : List V} (h : i ∉ L) : Kept (some L) σ (σ.setC i cs) := by
  intro L' hL
  cases hL
  refine ⟨fun j hj o ho => ?_, fun r hr => hr⟩
  show (σ.objs.set i _)[j]? = some o
  rw [List.getElem?_set_ne (fun e => h (by rw [e]; exact hj))]
  exact ho
theorem bytesV_set {g : List UInt8} {i : Nat} {x : Int} (h : 0 ≤ x ∧ x ≤ 255) : (bytesV g).set i [V.int .u8 x] = bytesV (g.set i (UInt8.ofNat x.toNat)) := by
  have : ((UInt8.ofNat x.toNat).toNat : Int) = x := by rw [UInt8.toNat_ofNat']; omega
  simp only [bytesV, List.map_set, this]
theorem rdl {τ : St} {b : Bool} {r : R} {s n : Nat} {es : List (List V)} (h : RdS τ (.sl b r s es) n es) (hne : es ≠ []) : rd τ.live r ∧ s = n := by
  obtain ⟨b', r', s', e, h1, h2⟩ := h
  cases e
  exact h2.resolve_left fun hb => hne (h1 hb)
theorem rd_src {τ : St} {b : Bool} {r : R} {s n : Nat} {es : List (List V)} (h : RdS τ (.sl b r s es) n es) : (b = true ∨ rd τ.live r) ∧ (s = n ∨ es = []) := by
  obtain ⟨b', r', s', e, h1, h2⟩ := h
  cases e
  rcases h2 with h2 | h2
  · exact ⟨.inl h2, .inr (h1 h2)⟩
  · exact ⟨.inr h2.1, .inl h2.2⟩
/-- A value that is a slice. -/
def IsSl (s : V) : Prop := ∃ b r z es, s = .sl b r z es
theorem RdS.isSl {σ : St} {s : V} {n : Nat} {es : List (List V)} (h : RdS σ s n es) : IsSl s := by
  obtain ⟨b, r, z, h, _⟩ := h
  exact ⟨b, r, z, es, h⟩
theorem rd_z {σ : St} {b : Bool} {r : R} {z n : Nat} {es : List (List V)} (h : RdS σ (.sl b r z es) n es) : b = true ∨ z = n := by
  obtain ⟨_, _, _, e, _, h2⟩ := h
  cases e
  exact h2.imp_right (·.2)
theorem rd_toView {l : List Bool} {r : R} (h : rd l r) : rd l r.toView := by cases r <;> exact h
theorem rdS_drop {σ : St} {b : Bool} {r : R} {z : Nat} {p : List UInt8} (h : RdS σ (.sl b r z (bytesV p)) 1 (bytesV p)) (k : Nat) : RdS σ (.sl b r.toView z (bytesV (p.drop k))) 1 (bytesV (p.drop k)) := by
  obtain ⟨_, _, _, e, h1, h2⟩ := h
  cases e
  refine ⟨_, _, _, rfl, fun hb => ?_, h2.imp_right fun x => ⟨rd_toView x.1, x.2⟩⟩
  have := h1 hb
  simp only [bytesV, List.map_eq_nil_iff] at this
  subst this
  simp [bytesV]
end Go.VL

namespace Go.VL.lww
open Go Go.VL Go.Proofs Go.IntWalk

def right (c r : Int) : Bool := decide (1 ≤ c) && (decide (c ≤ 1099511627776) && (decide (0 ≤ r) && decide (r < 64)))
def stV (c r : Int) : V := .agg [.int .i64 c, .int .i64 r]

section
variable {σ : St} {c r a1 a2 b1 b2 : Int}
set_option maxRecDepth 100000 in
theorem replica_ok : CallA Try.prog 42 [.int .i64 r] σ fun v σ' => σ' = σ ∧ v = .bool (decide (0 ≤ r) && decide (r < 64)) := by
  refine fn_at Try.func42 (by decide) comp42 rfl fun Q q1 q2 => ?_
  cases h1 : decide (0 ≤ r) <;> cases h2 : decide (r < 64)
  all_goals
    rw [h1, h2] at q2
    simp -implicitDefEqProofs only [go_sem, Nat.reduceBEq, Nat.reduceAdd, eq_self, true_and, and_self, c42, h1, h2]
    refine q2 _ _ ?_
    simp -implicitDefEqProofs only [go_sem, Nat.reduceBEq, Nat.reduceAdd]
    first | exact ⟨trivial, trivial⟩ | exact ⟨trivial, rfl⟩ | exact ⟨rfl, rfl⟩ | exact ⟨rfl, trivial⟩ | trivial
set_option maxRecDepth 100000 in
theorem right_ok : CallA Try.prog 30 [stV c r] σ fun v σ' => σ' = σ ∧ v = .bool (right c r) := by
  refine fn_at Try.func30 (by decide) comp30 rfl fun Q q1 q2 => ?_
  simp only [right] at q2
  cases h1 : decide (1 ≤ c) <;> cases h2 : decide (c ≤ 1099511627776)
  case true.true =>
    rw [h1, h2] at q2
    simp -implicitDefEqProofs only [go_sem, Nat.reduceBEq, Nat.reduceAdd, eq_self, true_and, and_self, c30, stV, h1, h2]
    refine call_at replica_ok ?_
    rintro v σ' ⟨rfl, rfl⟩
    refine ⟨kept_none, ?_⟩
    simp -implicitDefEqProofs only [go_sem, Nat.reduceBEq, Nat.reduceAdd]
    refine q2 _ _ ?_
    simp -implicitDefEqProofs only [go_sem, Nat.reduceBEq, Nat.reduceAdd]
    first | exact ⟨trivial, trivial⟩ | exact ⟨trivial, rfl⟩ | exact ⟨rfl, rfl⟩ | exact ⟨rfl, trivial⟩ | trivial
  all_goals
    rw [h1, h2] at q2
    simp -implicitDefEqProofs only [go_sem, Nat.reduceBEq, Nat.reduceAdd, eq_self, true_and, and_self, c30, stV, h1, h2]
    refine q2 _ _ ?_
    simp -implicitDefEqProofs only [go_sem, Nat.reduceBEq, Nat.reduceAdd]
    first | exact ⟨trivial, trivial⟩ | exact ⟨trivial, rfl⟩ | exact ⟨rfl, rfl⟩ | exact ⟨rfl, trivial⟩ | trivial
set_option maxRecDepth 100000 in
theorem rright_ok : CallA Try.prog 32 [stV c r] σ fun v σ' => σ' = σ ∧ v = .bool (right c r) := by
  refine fn_at Try.func32 (by decide) comp32 rfl fun Q q1 q2 => ?_
  simp only [right] at q2
  cases h1 : decide (1 ≤ c) <;> cases h2 : decide (c ≤ 1099511627776) <;> cases h3 : decide (0 ≤ r) <;> cases h4 : decide (r < 64)
  all_goals
    rw [h1, h2, h3, h4] at q2
    simp -implicitDefEqProofs only [go_sem, Nat.reduceBEq, Nat.reduceAdd, eq_self, true_and, and_self, c32, stV, h1, h2, h3, h4]
    refine q2 _ _ ?_
    simp -implicitDefEqProofs only [go_sem, Nat.reduceBEq, Nat.reduceAdd]
    first | exact ⟨trivial, trivial⟩ | exact ⟨trivial, rfl⟩ | exact ⟨rfl, rfl⟩ | exact ⟨rfl, trivial⟩ | trivial

def less (a1 a2 b1 b2 : Int) : Bool := decide (a1 < b1) || (decide (a1 = b1) && decide (a2 < b2))
def cmp (a1 a2 b1 b2 : Int) : Int := bif decide (a1 = b1) && decide (a2 = b2) then 0 else bif less a1 a2 b1 b2 then -1 else 1

set_option maxRecDepth 100000 in
theorem compare_ok : CallA Try.prog 34 [stV a1 a2, stV b1 b2] σ fun v σ' => σ' = σ ∧ v = .int .i64 (cmp a1 a2 b1 b2) := by
  refine fn_at Try.func34 (by decide) comp34 rfl fun Q q1 q2 => ?_
  simp only [cmp, less] at q2
  cases h1 : decide (a1 = b1) <;> cases h2 : decide (a2 = b2) <;> cases h3 : decide (a1 < b1) <;> cases h4 : decide (a2 < b2)
  all_goals
    rw [h1, h2, h3, h4] at q2
    simp -implicitDefEqProofs only [go_sem, Nat.reduceBEq, Nat.reduceAdd, eq_self, true_and, and_self, c34, stV, h1, h2, h3, h4, V.eqs, V.eq]
    refine q2 _ _ ?_
    simp -implicitDefEqProofs only [go_sem, Nat.reduceBEq, Nat.reduceAdd]
    first | exact ⟨trivial, trivial⟩ | exact ⟨trivial, rfl⟩ | exact ⟨rfl, rfl⟩ | exact ⟨rfl, trivial⟩ | trivial
set_option maxRecDepth 100000 in
theorem less_ok : CallA Try.prog 35 [stV a1 a2, stV b1 b2] σ fun v σ' => σ' = σ ∧ v = .bool (less a1 a2 b1 b2) := by
  refine fn_at Try.func35 (by decide) comp35 rfl fun Q q1 q2 => ?_
  simp only [less] at q2
  cases h1 : decide (a1 = b1) <;> cases h3 : decide (a1 < b1) <;> cases h4 : decide (a2 < b2)
  all_goals
    rw [h1, h3, h4] at q2
    simp -implicitDefEqProofs only [go_sem, Nat.reduceBEq, Nat.reduceAdd, eq_self, true_and, and_self, c35, stV, h1, h3, h4]
    refine q2 _ _ ?_
    simp -implicitDefEqProofs only [go_sem, Nat.reduceBEq, Nat.reduceAdd]
    first | exact ⟨trivial, trivial⟩ | exact ⟨trivial, rfl⟩ | exact ⟨rfl, rfl⟩ | exact ⟨rfl, trivial⟩ | trivial
end
end Go.VL.lww

namespace Go.VL.lww
open Go Go.VL Go.Proofs Go.IntWalk

def letter (c : UInt8) : Bool := !(decide ((c.toNat : Int) < 97) || decide ((122 : Int) < c.toNat))
def okc (c : UInt8) : Bool := !((decide ((c.toNat : Int) < 97) || decide ((122 : Int) < c.toNat)) && ((decide ((c.toNat : Int) < 48) || decide ((57 : Int) < c.toNat)) && !decide ((c.toNat : Int) = 45)))
def nameB : List UInt8 → Bool
  | [] => false
  | c :: r => decide (((c :: r).length : Int) ≤ 32) && (letter c && (c :: r).all okc)
theorem letter_okc {c : UInt8} (h : letter c = true) : okc c = true := by
  unfold letter at h
  simp only [Bool.not_eq_true'] at h
  simp [okc, h]
theorem all_take {s : List UInt8} {f : UInt8 → Bool} {i : Nat} (hi : i < s.length) : (s.take (i + 1)).all f = ((s.take i).all f && f s[i]) := by
  rw [List.take_succ_eq_append_getElem hi, List.all_append]; simp
theorem all_bad {s : List UInt8} {f : UInt8 → Bool} {i : Nat} (hi : i < s.length) (h : f s[i] = false) : s.all f = false := by
  rw [List.all_eq_false]
  exact ⟨s[i], List.getElem_mem hi, by simp [h]⟩

section
variable {σ : St} {s : List UInt8}
set_option maxRecDepth 100000 in
set_option maxHeartbeats 1600000 in
theorem name_ok (hlen : s.length < 4611686018427387904) : CallA Try.prog 31 [.str s] σ fun v σ' => σ' = σ ∧ v = .bool (nameB s) := by
  refine fn_at Try.func31 (by decide) comp31 rfl fun Q q1 q2 => ?_
  cases s with
  | nil =>
    have h0 : decide (((0 : Nat) : Int) = 0) = true := by decide
    simp -implicitDefEqProofs only [go_sem, Nat.reduceBEq, Nat.reduceAdd, eq_self, true_and, and_self, c31, h0]
    refine q2 _ _ ?_
    simp -implicitDefEqProofs only [go_sem, Nat.reduceBEq, Nat.reduceAdd]
    first | exact ⟨trivial, trivial⟩ | exact ⟨trivial, rfl⟩ | exact ⟨rfl, rfl⟩ | exact ⟨rfl, trivial⟩ | trivial
  | cons c r =>
    have h0 : decide (((c :: r).length : Int) = 0) = false := by simp; omega
    have hg : ((c :: r)[Int.toNat 0]?.getD 0) = c := rfl
    have hl : ((c :: r).length : Int) = ((r.length + 1 : Nat) : Int) := rfl
    generalize hs : c :: r = s at h0 hg hl hlen q1 q2 ⊢
    have hn : nameB s = (decide ((s.length : Int) ≤ 32) && (letter c && s.all okc)) := by rw [← hs]; rfl
    have d1 : decide ((32 : Int) < s.length) = !decide ((s.length : Int) ≤ 32) := by
      by_cases h : (s.length : Int) ≤ 32 <;> simp [h] <;> omega
    have hpos : (0 : Int) ≤ 0 ∧ (0 : Int) < s.length := by omega
    rw [hn] at q2
    cases h1 : decide ((s.length : Int) ≤ 32)
    · rw [h1] at q2
      simp -implicitDefEqProofs only [go_sem, Nat.reduceBEq, Nat.reduceAdd, eq_self, true_and, and_self, c31, h0, d1, h1]
      refine q2 _ _ ?_
      simp -implicitDefEqProofs only [go_sem, Nat.reduceBEq, Nat.reduceAdd]
      first | exact ⟨trivial, trivial⟩ | exact ⟨trivial, rfl⟩ | exact ⟨rfl, rfl⟩ | exact ⟨rfl, trivial⟩ | trivial
    unfold letter at q2
    cases h2 : decide ((c.toNat : Int) < 97) <;> cases h3 : decide ((122 : Int) < c.toNat)
    case true.true | true.false | false.true =>
      rw [h1, h2, h3] at q2
      simp -implicitDefEqProofs only [go_sem, Nat.reduceBEq, Nat.reduceAdd, eq_self, true_and, and_self, c31, h0, d1, h1, hg, h2, h3]
      refine ⟨hpos, ?_⟩
      try refine ⟨hpos, ?_⟩
      refine q2 _ _ ?_
      simp -implicitDefEqProofs only [go_sem, Nat.reduceBEq, Nat.reduceAdd]
      first | exact ⟨trivial, trivial⟩ | exact ⟨trivial, rfl⟩ | exact ⟨rfl, rfl⟩ | exact ⟨rfl, trivial⟩ | trivial
    rw [h1, h2, h3] at q2
    simp -implicitDefEqProofs only [go_sem, Nat.reduceBEq, Nat.reduceAdd, eq_self, true_and, and_self, c31, h0, d1, h1, hg, h2, h3]
    refine ⟨hpos, hpos, ?_⟩
    refine loop_at (fun (i : Nat) => ⟨[(0, .v (.str s)), (24, .v (.int .i64 s.length)), (25, .v (.int .i64 i))], []⟩) (fun i τ => τ = σ ∧ i ≤ s.length ∧ (s.take i).all okc = true) (fun i => s.length - i) 0 ?_ ?_ ?_
    · exact .inr (by simp [go_sem])
    · exact ⟨rfl, Nat.zero_le _, by simp⟩
    rintro i τ ⟨rfl, g1, g2⟩ Z z1 z2 z3
    simp -implicitDefEqProofs only [go_sem, Nat.reduceBEq, Nat.reduceAdd]
    refine CondW_b (fun hc => ?_) (fun hc => ?_)
    · have hi : i < s.length := by simpa using hc
      have hget : (s[((i : Nat) : Int).toNat]?.getD 0) = s[i] := by simp [hi]
      have hb : (0 : Int) ≤ i ∧ (i : Int) < s.length := by omega
      have hbad := fun h => all_bad (f := okc) hi h
      have hall := all_take (f := okc) hi
      rw [g2, Bool.true_and] at hall
      generalize s[i] = x at hget hbad hall
      have hx : okc x = !((decide ((x.toNat : Int) < 97) || decide ((122 : Int) < x.toNat)) && ((decide ((x.toNat : Int) < 48) || decide ((57 : Int) < x.toNat)) && !decide ((x.toNat : Int) = 45))) := rfl
      cases e1 : decide ((x.toNat : Int) < 97) <;> cases e2 : decide ((122 : Int) < x.toNat) <;> cases e3 : decide ((x.toNat : Int) < 48) <;> cases e4 : decide ((57 : Int) < x.toNat) <;> cases e5 : decide ((x.toNat : Int) = 45)
      all_goals
        rw [e1, e2, e3, e4, e5] at hx
        simp -implicitDefEqProofs only [go_sem, Nat.reduceBEq, Nat.reduceAdd, eq_self, true_and, and_self, hget, e1, e2, e3, e4, e5]
        refine ⟨hb, ?_⟩
        first
        | (rw [hbad hx] at q2
           refine z3 _ _ ?_
           simp -implicitDefEqProofs only [go_sem, Nat.reduceBEq, Nat.reduceAdd]
           refine q2 _ _ ?_
           simp -implicitDefEqProofs only [go_sem, Nat.reduceBEq, Nat.reduceAdd]
           first | exact ⟨trivial, trivial⟩ | exact ⟨trivial, rfl⟩ | exact ⟨rfl, rfl⟩ | exact ⟨rfl, trivial⟩ | trivial)
        | (refine z1 (i + 1) _ _ (.inr ?_) (by omega) ⟨rfl, by omega, by rw [hall]; exact hx⟩
           simp -implicitDefEqProofs only [go_sem, Nat.reduceBEq, Nat.reduceAdd, and_true]
           rw [i64_in _ (by omega)]; simp)
    · have hi : ¬ (i < s.length) := by simpa using hc
      simp -implicitDefEqProofs only [go_sem, Nat.reduceBEq, Nat.reduceAdd]
      refine z2 _ _ _ ?_
      simp -implicitDefEqProofs only [go_sem, Nat.reduceBEq, Nat.reduceAdd]
      rw [List.take_of_length_le (by omega)] at g2
      rw [g2] at q2
      refine q2 _ _ ?_
      simp -implicitDefEqProofs only [go_sem, Nat.reduceBEq, Nat.reduceAdd]
      first | exact ⟨trivial, trivial⟩ | exact ⟨trivial, rfl⟩ | exact ⟨rfl, rfl⟩ | exact ⟨rfl, trivial⟩ | trivial

set_option maxRecDepth 100000 in
set_option maxHeartbeats 3200000 in
theorem rname_ok (hlen : s.length < 4611686018427387904) : CallA Try.prog 33 [.str s] σ fun v σ' => σ' = σ ∧ v = .bool (nameB s) := by
  refine fn_at Try.func33 (by decide) comp33 rfl fun Q q1 q2 => ?_
  simp -implicitDefEqProofs only [go_sem, Nat.reduceBEq, Nat.reduceAdd, c33]
  refine loop_at (fun (i : Nat) => ⟨[(0, .v (.str s)), (3, .v (.int .i64 i))], []⟩) (fun i τ => τ = σ ∧ i ≤ s.length ∧ (0 < i → (s.take i).all okc = true ∧ nameB s = (decide ((s.length : Int) ≤ 32) && s.all okc))) (fun i => s.length - i) 0 ?_ ?_ ?_
  · exact .inr (by simp [go_sem])
  · exact ⟨rfl, Nat.zero_le _, fun h => absurd h (Nat.lt_irrefl 0)⟩
  rintro i τ ⟨rfl, g1, g2⟩ Z z1 z2 z3
  simp -implicitDefEqProofs only [go_sem, Nat.reduceBEq, Nat.reduceAdd]
  refine CondW_b (fun hc => ?_) (fun hc => ?_)
  · have hi : i < s.length := by simpa using hc
    have hget : (s[((i : Nat) : Int).toNat]?.getD 0) = s[i] := by simp [hi]
    have hb : (0 : Int) ≤ i ∧ (i : Int) < s.length := by omega
    have hbad := fun h => all_bad (f := okc) hi h
    have hall := all_take (f := okc) hi
    have hfirst : i = 0 → nameB s = (decide ((s.length : Int) ≤ 32) && (letter s[i] && s.all okc)) := by
      intro e
      subst e
      cases s with
      | nil => simp at hi
      | cons c r => rfl
    generalize s[i] = x at hget hbad hall hfirst
    have hx : okc x = !((decide ((x.toNat : Int) < 97) || decide ((122 : Int) < x.toNat)) && ((decide ((x.toNat : Int) < 48) || decide ((57 : Int) < x.toNat)) && !decide ((x.toNat : Int) = 45))) := rfl
    have hy : letter x = !(decide ((x.toNat : Int) < 97) || decide ((122 : Int) < x.toNat)) := rfl
    have f1 : decide ((97 : Int) ≤ x.toNat) = !decide ((x.toNat : Int) < 97) := by by_cases h : (x.toNat : Int) < 97 <;> simp [h] <;> omega
    have f2 : decide ((x.toNat : Int) ≤ 122) = !decide ((122 : Int) < x.toNat) := by by_cases h : (122 : Int) < x.toNat <;> simp [h] <;> omega
    have next : okc x = true → (i = 0 → letter x = true) → Z .normal ⟨[(0, .v (.str s)), (3, .v (.int .i64 ((i + 1 : Nat) : Int)))], []⟩ τ := by
      intro h1 h2
      refine z1 (i + 1) _ _ (.inl rfl) (by omega) ⟨rfl, by omega, fun _ => ⟨?_, ?_⟩⟩
      · rw [hall, h1, Bool.and_true]
        by_cases e : i = 0
        · subst e; simp
        · exact (g2 (by omega)).1
      · by_cases e : i = 0
        · rw [hfirst e, h2 e, Bool.true_and]
        · exact (g2 (by omega)).2
    by_cases hi0 : i = 0
    · have e0 : decide ((i : Int) = 0) = true := by simp [hi0]
      have hf := hfirst hi0
      cases e1 : decide ((x.toNat : Int) < 97) <;> cases e2 : decide ((122 : Int) < x.toNat)
      all_goals
        rw [e1, e2] at hy
        simp -implicitDefEqProofs only [go_sem, Nat.reduceBEq, Nat.reduceAdd, eq_self, true_and, and_self, hget, f1, f2, e1, e2, e0]
        first
        | (refine ⟨hb, ?_⟩
           try refine ⟨hb, ?_⟩
           rw [hf, hy] at q2
           refine z3 _ _ ?_
           simp -implicitDefEqProofs only [go_sem, Nat.reduceBEq, Nat.reduceAdd]
           refine q2 _ _ ?_
           simp -implicitDefEqProofs only [go_sem, Nat.reduceBEq, Nat.reduceAdd, Bool.not_true, Bool.or_true, Bool.true_or, Bool.and_false, Bool.false_and]
           first | exact ⟨trivial, trivial⟩ | exact ⟨trivial, rfl⟩ | exact ⟨rfl, rfl⟩ | exact ⟨rfl, trivial⟩ | trivial)
        | (refine ⟨hb, hb, ?_⟩
           refine z1 (i + 1) _ _ (.inr ?_) (by omega) ⟨rfl, by omega, fun _ => ⟨?_, ?_⟩⟩
           · simp -implicitDefEqProofs only [go_sem, Nat.reduceBEq, Nat.reduceAdd, and_true]
             rw [i64_in _ (by omega)]; simp
           · rw [hall, letter_okc hy, Bool.and_true, hi0]; simp
           · rw [hf, hy]; simp)
    · have e0 : decide ((i : Int) = 0) = false := by simp [hi0]
      obtain ⟨g3, g4⟩ := g2 (by omega)
      rw [g3, Bool.true_and] at hall
      cases e1 : decide ((x.toNat : Int) < 97) <;> cases e2 : decide ((122 : Int) < x.toNat) <;> cases e3 : decide ((x.toNat : Int) < 48) <;> cases e4 : decide ((57 : Int) < x.toNat) <;> cases e5 : decide ((x.toNat : Int) = 45)
      all_goals
        rw [e1, e2, e3, e4, e5] at hx
        simp -implicitDefEqProofs only [go_sem, Nat.reduceBEq, Nat.reduceAdd, eq_self, true_and, and_self, hget, f1, f2, e1, e2, e3, e4, e5, e0]
        refine ⟨hb, ?_⟩
        try refine ⟨hb, ?_⟩
        try refine ⟨hb, ?_⟩
        try refine ⟨hb, ?_⟩
        try refine ⟨hb, ?_⟩
        first
        | (rw [g4, hbad hx, Bool.and_false] at q2
           refine z3 _ _ ?_
           simp -implicitDefEqProofs only [go_sem, Nat.reduceBEq, Nat.reduceAdd]
           refine q2 _ _ ?_
           simp -implicitDefEqProofs only [go_sem, Nat.reduceBEq, Nat.reduceAdd]
           first | exact ⟨trivial, trivial⟩ | exact ⟨trivial, rfl⟩ | exact ⟨rfl, rfl⟩ | exact ⟨rfl, trivial⟩ | trivial)
        | (refine z1 (i + 1) _ _ (.inr ?_) (by omega) ⟨rfl, by omega, fun _ => ⟨by rw [hall]; exact hx, g4⟩⟩
           simp -implicitDefEqProofs only [go_sem, Nat.reduceBEq, Nat.reduceAdd, and_true]
           rw [i64_in _ (by omega)]; simp)
  · have hi : ¬ (i < s.length) := by simpa using hc
    simp -implicitDefEqProofs only [go_sem, Nat.reduceBEq, Nat.reduceAdd]
    refine z2 _ _ _ ?_
    by_cases hs : s = []
    · subst hs
      have h0 : decide ((1 : Int) ≤ ((0 : Nat) : Int)) = false := by decide
      simp -implicitDefEqProofs only [go_sem, Nat.reduceBEq, Nat.reduceAdd, eq_self, true_and, and_self, h0]
      refine q2 _ _ ?_
      simp -implicitDefEqProofs only [go_sem, Nat.reduceBEq, Nat.reduceAdd]
      first | exact ⟨trivial, trivial⟩ | exact ⟨trivial, rfl⟩ | exact ⟨rfl, rfl⟩ | exact ⟨rfl, trivial⟩ | trivial
    · have hpos : 0 < s.length := by cases s <;> simp at hs ⊢
      obtain ⟨g3, g4⟩ := g2 (by omega)
      rw [List.take_of_length_le (by omega)] at g3
      rw [g4, g3, Bool.and_true] at q2
      have h0 : decide ((1 : Int) ≤ s.length) = true := by simp; omega
      cases h1 : decide ((s.length : Int) ≤ 32)
      all_goals
        rw [h1] at q2
        simp -implicitDefEqProofs only [go_sem, Nat.reduceBEq, Nat.reduceAdd, eq_self, true_and, and_self, h0, h1]
        refine q2 _ _ ?_
        simp -implicitDefEqProofs only [go_sem, Nat.reduceBEq, Nat.reduceAdd]
        first | exact ⟨trivial, trivial⟩ | exact ⟨trivial, rfl⟩ | exact ⟨rfl, rfl⟩ | exact ⟨rfl, trivial⟩ | trivial
end
end Go.VL.lww

namespace Go.VL.lww
open Go Go.VL Go.Proofs Go.IntWalk

structure Rg where
  nc : Int
  nr : Int
  name : List UInt8
  ac : Int
  ar : Int
  val : List UInt8
  gone : Bool
def regC (r : Rg) : List V := [.int .i64 r.nc, .int .i64 r.nr, .str r.name, .int .i64 r.ac, .int .i64 r.ar, .str r.val, .bool r.gone]
def regV (r : Rg) : V := .agg (regC r)
def root (r : Rg) : Bool := decide (r.nc = 0) && decide (r.nr = 0)
def chk (r : Rg) : Int :=
  bif !root r && !right r.nc r.nr then 2 else bif !right r.ac r.ar then 2 else
  bif !decide (r.name = []) && !nameB r.name then 8 else bif decide ((256 : Int) < r.val.length) then 3 else bif r.gone && !decide (r.val = []) then 2 else 0
def wins (a b : Rg) : Bool :=
  bif decide (a.ac = b.ac) && decide (a.ar = b.ar) then (bif a.gone || b.gone then b.gone && !a.gone else strLess b.val a.val) else less b.ac b.ar a.ac a.ar

section
variable {σ : St} {r a b : Rg}
theorem strlen (s : List UInt8) : decide (s = []) = decide ((s.length : Int) = 0) := by cases s <;> simp; omega
set_option maxRecDepth 100000 in
set_option maxHeartbeats 1600000 in
theorem check_ok (hlen : r.name.length < 4611686018427387904) : CallA Try.prog 11 [regV r] σ fun v σ' => σ' = σ ∧ v = .int .i64 (chk r) := by
  refine fn_at Try.func11 (by decide) comp11 rfl fun Q q1 q2 => ?_
  have hroot : root r = (decide (r.nc = 0) && decide (r.nr = 0)) := rfl
  unfold chk at q1 q2
  simp -implicitDefEqProofs only [go_sem, Nat.reduceBEq, Nat.reduceAdd, c11, regV, regC]
  refine cut_at (fun G τ => τ = σ ∧ G = ⟨[(1, .loc 1 0), (3, .v (.bool ((!root r && !right r.nc r.nr) || !right r.ac r.ar)))], [(1, regC r)]⟩) ?_ ?_
  · intro Z z1 z2 z3
    have second : ∀ (F : Fr), sget 1 F.s = .loc 1 0 → lget 1 F.l = some (regC r) → True := fun _ _ _ => trivial
    cases hr : root r <;> rw [hr] at hroot z1
    case' false =>
      simp -implicitDefEqProofs only [go_sem, Nat.reduceBEq, Nat.reduceAdd, eq_self, true_and, and_self, V.eqs, V.eq, Bool.and_true, ← hroot]
      refine call_at right_ok ?_
      rintro v τ ⟨rfl, rfl⟩
      refine ⟨kept_none, ?_⟩
      cases hn : right r.nc r.nr <;> rw [hn] at z1
      case' false =>
        simp -implicitDefEqProofs only [go_sem, Nat.reduceBEq, Nat.reduceAdd, eq_self, true_and, and_self, hn]
        refine z1 _ _ _ (.inr ?_) ⟨rfl, rfl⟩
        simp -implicitDefEqProofs only [go_sem, Nat.reduceBEq, Nat.reduceAdd, eq_self, true_and, and_self, regC, and_true, Bool.true_or]
      case' true =>
        simp -implicitDefEqProofs only [go_sem, Nat.reduceBEq, Nat.reduceAdd, eq_self, true_and, and_self, hn]
    case' true =>
      simp -implicitDefEqProofs only [go_sem, Nat.reduceBEq, Nat.reduceAdd, eq_self, true_and, and_self, V.eqs, V.eq, Bool.and_true, ← hroot]
    all_goals
      refine call_at right_ok ?_
      rintro v τ ⟨rfl, rfl⟩
      refine ⟨kept_none, ?_⟩
      simp -implicitDefEqProofs only [go_sem, Nat.reduceBEq, Nat.reduceAdd]
      refine z1 _ _ _ (.inr ?_) ⟨rfl, rfl⟩
      simp -implicitDefEqProofs only [go_sem, Nat.reduceBEq, Nat.reduceAdd, eq_self, true_and, and_self, regC, and_true, Bool.false_or]
  · rintro G τ ⟨rfl, rfl⟩
    cases ht : (!root r && !right r.nc r.nr) || !right r.ac r.ar
    case true =>
      simp -implicitDefEqProofs only [go_sem, Nat.reduceBEq, Nat.reduceAdd, eq_self, true_and, and_self, ht]
      have : (bif !root r && !right r.nc r.nr then (2 : Int) else bif !right r.ac r.ar then 2 else
        bif !decide (r.name = []) && !nameB r.name then 8 else bif decide ((256 : Int) < r.val.length) then 3 else bif r.gone && !decide (r.val = []) then 2 else 0) = 2 := by
        cases h1 : (!root r && !right r.nc r.nr) <;> rw [h1] at ht
        · rw [Bool.false_or] at ht; rw [ht]; rfl
        · rfl
      rw [this] at q2
      refine q2 _ _ ?_
      simp -implicitDefEqProofs only [go_sem, Nat.reduceBEq, Nat.reduceAdd]
      first | exact ⟨trivial, trivial⟩ | exact ⟨trivial, rfl⟩ | exact ⟨rfl, rfl⟩ | exact ⟨rfl, trivial⟩ | trivial
    case false =>
      rw [Bool.or_eq_false_iff] at ht
      rw [ht.1, ht.2] at q1 q2
      simp only [cond_false] at q1 q2
      cases hn : decide (r.name = []) <;> rw [hn] at q1 q2
      case' false =>
        simp -implicitDefEqProofs only [go_sem, Nat.reduceBEq, Nat.reduceAdd, eq_self, true_and, and_self, ht.1, ht.2, Bool.or_self, regC, hn]
        refine call_at (name_ok hlen) ?_
        rintro v τ ⟨rfl, rfl⟩
        refine ⟨kept_none, ?_⟩
        cases hm : nameB r.name <;> rw [hm] at q1 q2
        case' false =>
          simp -implicitDefEqProofs only [go_sem, Nat.reduceBEq, Nat.reduceAdd, eq_self, true_and, and_self, hm]
          refine q2 _ _ ?_
          simp -implicitDefEqProofs only [go_sem, Nat.reduceBEq, Nat.reduceAdd]
          first | exact ⟨trivial, trivial⟩ | exact ⟨trivial, rfl⟩ | exact ⟨rfl, rfl⟩ | exact ⟨rfl, trivial⟩ | trivial
        case' true =>
          simp -implicitDefEqProofs only [go_sem, Nat.reduceBEq, Nat.reduceAdd, eq_self, true_and, and_self, hm]
      case' true =>
        simp -implicitDefEqProofs only [go_sem, Nat.reduceBEq, Nat.reduceAdd, eq_self, true_and, and_self, ht.1, ht.2, Bool.or_self, regC, hn]
      all_goals
        cases h3 : decide ((256 : Int) < r.val.length) <;> rw [h3] at q2
        case true =>
          simp -implicitDefEqProofs only [go_sem, Nat.reduceBEq, Nat.reduceAdd, eq_self, true_and, and_self, h3]
          refine q2 _ _ ?_
          simp -implicitDefEqProofs only [go_sem, Nat.reduceBEq, Nat.reduceAdd]
          first | exact ⟨trivial, trivial⟩ | exact ⟨trivial, rfl⟩ | exact ⟨rfl, rfl⟩ | exact ⟨rfl, trivial⟩ | trivial
        cases hg : r.gone <;> rw [hg] at q2
        case false =>
          simp -implicitDefEqProofs only [go_sem, Nat.reduceBEq, Nat.reduceAdd, eq_self, true_and, and_self, h3, hg]
          refine q2 _ _ ?_
          simp -implicitDefEqProofs only [go_sem, Nat.reduceBEq, Nat.reduceAdd]
          first | exact ⟨trivial, trivial⟩ | exact ⟨trivial, rfl⟩ | exact ⟨rfl, rfl⟩ | exact ⟨rfl, trivial⟩ | trivial
        cases hv : decide (r.val = []) <;> rw [hv] at q2
        all_goals
          simp -implicitDefEqProofs only [go_sem, Nat.reduceBEq, Nat.reduceAdd, eq_self, true_and, and_self, h3, hg, hv]
          refine q2 _ _ ?_
          simp -implicitDefEqProofs only [go_sem, Nat.reduceBEq, Nat.reduceAdd]
          first | exact ⟨trivial, trivial⟩ | exact ⟨trivial, rfl⟩ | exact ⟨rfl, rfl⟩ | exact ⟨rfl, trivial⟩ | trivial

set_option maxRecDepth 100000 in
set_option maxHeartbeats 1600000 in
theorem rcheck_ok (hlen : r.name.length < 4611686018427387904) : CallA Try.prog 12 [regV r] σ fun v σ' => σ' = σ ∧ v = .int .i64 (chk r) := by
  refine fn_at Try.func12 (by decide) comp12 rfl fun Q q1 q2 => ?_
  have hroot : root r = (decide (r.nc = 0) && decide (r.nr = 0)) := rfl
  unfold chk at q1 q2
  cases h1 : decide (r.nc = 0) <;> cases h2 : decide (r.nr = 0) <;> rw [h1, h2] at hroot <;> rw [hroot] at q1 q2
  case' true.true => simp -implicitDefEqProofs only [go_sem, Nat.reduceBEq, Nat.reduceAdd, eq_self, true_and, and_self, c12, regV, regC, h1, h2]
  case' false.false | false.true | true.false =>
    simp -implicitDefEqProofs only [go_sem, Nat.reduceBEq, Nat.reduceAdd, eq_self, true_and, and_self, c12, regV, regC, h1, h2]
    refine call_at rright_ok ?_
    rintro v τ ⟨rfl, rfl⟩
    refine ⟨kept_none, ?_⟩
    cases hn : right r.nc r.nr <;> rw [hn] at q1 q2
    case' false =>
      simp -implicitDefEqProofs only [go_sem, Nat.reduceBEq, Nat.reduceAdd, eq_self, true_and, and_self, hn]
      refine q2 _ _ ?_
      simp -implicitDefEqProofs only [go_sem, Nat.reduceBEq, Nat.reduceAdd]
      first | exact ⟨trivial, trivial⟩ | exact ⟨trivial, rfl⟩ | exact ⟨rfl, rfl⟩ | exact ⟨rfl, trivial⟩ | trivial
    simp -implicitDefEqProofs only [go_sem, Nat.reduceBEq, Nat.reduceAdd, eq_self, true_and, and_self, hn]
  all_goals
    refine call_at rright_ok ?_
    rintro v τ ⟨rfl, rfl⟩
    refine ⟨kept_none, ?_⟩
    cases ha : right r.ac r.ar <;> rw [ha] at q1 q2
    case' false =>
      simp -implicitDefEqProofs only [go_sem, Nat.reduceBEq, Nat.reduceAdd, eq_self, true_and, and_self, ha]
      refine q2 _ _ ?_
      simp -implicitDefEqProofs only [go_sem, Nat.reduceBEq, Nat.reduceAdd]
      first | exact ⟨trivial, trivial⟩ | exact ⟨trivial, rfl⟩ | exact ⟨rfl, rfl⟩ | exact ⟨rfl, trivial⟩ | trivial
    cases hn : decide (r.name = []) <;> rw [hn] at q1 q2
    case' false =>
      simp -implicitDefEqProofs only [go_sem, Nat.reduceBEq, Nat.reduceAdd, eq_self, true_and, and_self, ha, hn]
      refine call_at (rname_ok hlen) ?_
      rintro v τ ⟨rfl, rfl⟩
      refine ⟨kept_none, ?_⟩
      cases hm : nameB r.name <;> rw [hm] at q1 q2
      case' false =>
        simp -implicitDefEqProofs only [go_sem, Nat.reduceBEq, Nat.reduceAdd, eq_self, true_and, and_self, hm]
        refine q2 _ _ ?_
        simp -implicitDefEqProofs only [go_sem, Nat.reduceBEq, Nat.reduceAdd]
        first | exact ⟨trivial, trivial⟩ | exact ⟨trivial, rfl⟩ | exact ⟨rfl, rfl⟩ | exact ⟨rfl, trivial⟩ | trivial
      simp -implicitDefEqProofs only [go_sem, Nat.reduceBEq, Nat.reduceAdd, eq_self, true_and, and_self, hm]
    case' true => simp -implicitDefEqProofs only [go_sem, Nat.reduceBEq, Nat.reduceAdd, eq_self, true_and, and_self, ha, hn]
    all_goals
      cases h3 : decide ((256 : Int) < r.val.length) <;> rw [h3] at q2
      case true =>
        simp -implicitDefEqProofs only [go_sem, Nat.reduceBEq, Nat.reduceAdd, eq_self, true_and, and_self, h3]
        refine q2 _ _ ?_
        simp -implicitDefEqProofs only [go_sem, Nat.reduceBEq, Nat.reduceAdd]
        first | exact ⟨trivial, trivial⟩ | exact ⟨trivial, rfl⟩ | exact ⟨rfl, rfl⟩ | exact ⟨rfl, trivial⟩ | trivial
      cases hg : r.gone <;> rw [hg] at q2
      case false =>
        simp -implicitDefEqProofs only [go_sem, Nat.reduceBEq, Nat.reduceAdd, eq_self, true_and, and_self, h3, hg]
        refine q2 _ _ ?_
        simp -implicitDefEqProofs only [go_sem, Nat.reduceBEq, Nat.reduceAdd]
        first | exact ⟨trivial, trivial⟩ | exact ⟨trivial, rfl⟩ | exact ⟨rfl, rfl⟩ | exact ⟨rfl, trivial⟩ | trivial
      cases hv : decide (r.val = []) <;> rw [hv] at q2
      all_goals
        simp -implicitDefEqProofs only [go_sem, Nat.reduceBEq, Nat.reduceAdd, eq_self, true_and, and_self, h3, hg, hv]
        refine q2 _ _ ?_
        simp -implicitDefEqProofs only [go_sem, Nat.reduceBEq, Nat.reduceAdd]
        first | exact ⟨trivial, trivial⟩ | exact ⟨trivial, rfl⟩ | exact ⟨rfl, rfl⟩ | exact ⟨rfl, trivial⟩ | trivial

theorem strLess_flip : ∀ (a b : List UInt8), (!(strLess a b || decide (a = b))) = strLess b a
  | [], [] => by simp [strLess]
  | [], _ :: _ => by simp [strLess]
  | _ :: _, [] => by simp [strLess]
  | x :: a, y :: b => by
    have ih := strLess_flip a b
    simp only [strLess]
    by_cases h1 : x < y
    · have h2 : ¬ y < x := by rw [UInt8.lt_iff_toNat_lt] at h1 ⊢; omega
      have h3 : ¬ y = x := by intro e; rw [e] at h1; exact absurd h1 (by rw [UInt8.lt_iff_toNat_lt]; omega)
      simp [h1, h2, h3]
    · by_cases h2 : x = y
      · subst h2
        simp [h1, ih.symm]
      · have h3 : y < x := by
          rw [UInt8.lt_iff_toNat_lt] at h1 ⊢
          have : x.toNat ≠ y.toNat := fun e => h2 (UInt8.toNat_inj.1 e)
          omega
        have h4 : ¬ y = x := fun e => h2 e.symm
        simp [h1, h2, h3]
theorem cmp_zero {a1 a2 b1 b2 : Int} : decide (cmp a1 a2 b1 b2 = 0) = (decide (a1 = b1) && decide (a2 = b2)) := by
  unfold cmp
  cases (decide (a1 = b1) && decide (a2 = b2)) with
  | true => rfl
  | false => cases less a1 a2 b1 b2 <;> rfl
theorem cmp_pos {a1 a2 b1 b2 : Int} (h : (decide (a1 = b1) && decide (a2 = b2)) = false) : decide (0 < cmp a1 a2 b1 b2) = less b1 b2 a1 a2 := by
  unfold cmp
  rw [h]
  simp only [Bool.and_eq_false_iff, decide_eq_false_iff_not] at h
  have hl : less b1 b2 a1 a2 = !less a1 a2 b1 b2 := by
    unfold less
    rw [Bool.eq_iff_iff]
    simp only [Bool.or_eq_true, Bool.and_eq_true, decide_eq_true_eq, Bool.not_eq_true', Bool.or_eq_false_iff, Bool.and_eq_false_iff, decide_eq_false_iff_not]
    omega
  rw [hl]
  cases less a1 a2 b1 b2 <;> rfl

set_option maxRecDepth 100000 in
set_option maxHeartbeats 1600000 in
theorem wins_ok : CallA Try.prog 13 [regV a, regV b] σ fun v σ' => σ' = σ ∧ v = .bool (wins a b) := by
  refine fn_at Try.func13 (by decide) comp13 rfl fun Q q1 q2 => ?_
  unfold wins at q1 q2
  simp -implicitDefEqProofs only [go_sem, Nat.reduceBEq, Nat.reduceAdd, eq_self, true_and, and_self, c13, regV, regC]
  refine call_at compare_ok ?_
  rintro v τ ⟨rfl, rfl⟩
  refine ⟨kept_none, ?_⟩
  cases he : (decide (a.ac = b.ac) && decide (a.ar = b.ar)) <;> rw [he] at q2
  · have hp := cmp_pos he
    simp -implicitDefEqProofs only [go_sem, Nat.reduceBEq, Nat.reduceAdd, eq_self, true_and, and_self, cmp_zero, he, hp]
    refine q2 _ _ ?_
    simp -implicitDefEqProofs only [go_sem, Nat.reduceBEq, Nat.reduceAdd]
    first | exact ⟨trivial, trivial⟩ | exact ⟨trivial, rfl⟩ | exact ⟨rfl, rfl⟩ | exact ⟨rfl, trivial⟩ | trivial
  · cases ha : a.gone <;> cases hb : b.gone <;> rw [ha, hb] at q2
    all_goals
      simp -implicitDefEqProofs only [go_sem, Nat.reduceBEq, Nat.reduceAdd, eq_self, true_and, and_self, cmp_zero, he, ha, hb]
      refine q2 _ _ ?_
      simp -implicitDefEqProofs only [go_sem, Nat.reduceBEq, Nat.reduceAdd, strLess_flip]
      first | exact ⟨trivial, trivial⟩ | exact ⟨trivial, rfl⟩ | exact ⟨rfl, rfl⟩ | exact ⟨rfl, trivial⟩ | trivial

set_option maxRecDepth 100000 in
set_option maxHeartbeats 1600000 in
theorem rwins_ok : CallA Try.prog 14 [regV a, regV b] σ fun v σ' => σ' = σ ∧ v = .bool (wins a b) := by
  refine fn_at Try.func14 (by decide) comp14 rfl fun Q q1 q2 => ?_
  unfold wins at q1 q2
  cases he : (decide (a.ac = b.ac) && decide (a.ar = b.ar)) <;> rw [he] at q2
  · simp -implicitDefEqProofs only [go_sem, Nat.reduceBEq, Nat.reduceAdd, eq_self, true_and, and_self, c14, regV, regC, V.eqs, V.eq, Bool.and_true, he]
    refine call_at less_ok ?_
    rintro v τ ⟨rfl, rfl⟩
    refine ⟨kept_none, ?_⟩
    simp -implicitDefEqProofs only [go_sem, Nat.reduceBEq, Nat.reduceAdd]
    refine q2 _ _ ?_
    simp -implicitDefEqProofs only [go_sem, Nat.reduceBEq, Nat.reduceAdd]
    first | exact ⟨trivial, trivial⟩ | exact ⟨trivial, rfl⟩ | exact ⟨rfl, rfl⟩ | exact ⟨rfl, trivial⟩ | trivial
  · cases ha : a.gone <;> cases hb : b.gone <;> rw [ha, hb] at q2
    all_goals
      have t1 : (true == true) = true := rfl
      have t2 : (false == false) = true := rfl
      have t3 : (true == false) = false := rfl
      have t4 : (false == true) = false := rfl
      simp -implicitDefEqProofs only [go_sem, Nat.reduceBEq, Nat.reduceAdd, eq_self, true_and, and_self, c14, regV, regC, V.eqs, V.eq, Bool.and_true, he, ha, hb, t1, t2, t3, t4]
      refine q2 _ _ ?_
      simp -implicitDefEqProofs only [go_sem, Nat.reduceBEq, Nat.reduceAdd, strLess_flip]
      first | exact ⟨trivial, trivial⟩ | exact ⟨trivial, rfl⟩ | exact ⟨rfl, rfl⟩ | exact ⟨rfl, trivial⟩ | trivial

theorem strLess_self : ∀ s, strLess s s = false
  | [] => rfl
  | x :: s => by simp [strLess, strLess_self s, UInt8.lt_iff_toNat_lt]
theorem wins_self (a : Rg) : wins a a = false := by
  unfold wins
  simp only [decide_true, Bool.and_true, cond_true]
  cases a.gone <;> simp [strLess_self]
theorem less_asym {a1 a2 b1 b2 : Int} (h : less a1 a2 b1 b2 = true) : less b1 b2 a1 a2 = false := by
  unfold less at *
  simp only [Bool.or_eq_true, Bool.and_eq_true, decide_eq_true_eq, Bool.or_eq_false_iff, Bool.and_eq_false_iff, decide_eq_false_iff_not] at *
  omega
theorem strLess_asym {a b : List UInt8} (h : strLess a b = true) : strLess b a = false := by
  have := strLess_flip a b
  rw [h] at this
  simpa using this.symm
theorem wins_asym {a b : Rg} (h : wins a b = true) : wins b a = false := by
  have he : (decide (b.ac = a.ac) && decide (b.ar = a.ar)) = (decide (a.ac = b.ac) && decide (a.ar = b.ar)) := by
    rw [Bool.eq_iff_iff]; simp only [Bool.and_eq_true, decide_eq_true_eq]; omega
  unfold wins at *
  rw [he]
  cases h1 : (decide (a.ac = b.ac) && decide (a.ar = b.ar)) <;> rw [h1] at h
  · exact less_asym h
  · simp only [cond_true] at *
    cases ha : a.gone <;> cases hb : b.gone <;> rw [ha, hb] at h <;> simp at h ⊢
    exact strLess_asym h
def ahead (a b : Rg) : Bool := less a.nc a.nr b.nc b.nr || ((decide (a.nc = b.nc) && decide (a.nr = b.nr)) && strLess a.name b.name)
set_option maxRecDepth 100000 in
set_option maxHeartbeats 1600000 in
theorem ahead_ok : CallA Try.prog 36 [regV a, regV b] σ fun v σ' => σ' = σ ∧ v = .bool (ahead a b) := by
  refine fn_at Try.func36 (by decide) comp36 rfl fun Q q1 q2 => ?_
  unfold ahead at q1 q2
  simp -implicitDefEqProofs only [go_sem, Nat.reduceBEq, Nat.reduceAdd, eq_self, true_and, and_self, c36, regV, regC]
  refine call_at less_ok ?_
  rintro v τ ⟨rfl, rfl⟩
  refine ⟨kept_none, ?_⟩
  cases hl : less a.nc a.nr b.nc b.nr <;> cases he : (decide (a.nc = b.nc) && decide (a.nr = b.nr)) <;> rw [hl, he] at q2
  all_goals
    simp -implicitDefEqProofs only [go_sem, Nat.reduceBEq, Nat.reduceAdd, eq_self, true_and, and_self, hl, V.eqs, V.eq, Bool.and_true, he]
    refine q2 _ _ ?_
    simp -implicitDefEqProofs only [go_sem, Nat.reduceBEq, Nat.reduceAdd]
    first | exact ⟨trivial, trivial⟩ | exact ⟨trivial, rfl⟩ | exact ⟨rfl, rfl⟩ | exact ⟨rfl, trivial⟩ | trivial
end
end Go.VL.lww

namespace Go.VL.lww
open Go Go.VL Go.Proofs Go.IntWalk

def keyC (r : Rg) : List V := [.int .i64 r.nc, .int .i64 r.nr, .str r.name]
def sameK (a b : Rg) : Bool := decide (a.nc = b.nc) && (decide (a.nr = b.nr) && decide (a.name = b.name))
def KL : List LK := [.agg, .int .i64, .int .i64, .str]
def ents (l : List Rg) : List (V × V) := l.map fun r => (.agg (keyC r), regV r)
def updR (r : Rg) : List Rg → List Rg
  | [] => [r]
  | x :: l => bif sameK r x then r :: l else x :: updR r l
def putR (l : List Rg) (r : Rg) : List Rg :=
  bif decide (chk r = 0) then (match l.find? (sameK r) with
    | some w => bif wins r w then updR r l else l
    | none => l ++ [r]) else l

theorem key_eq (a b : Rg) : V.eq (.agg (keyC a)) (.agg (keyC b)) = sameK a b := by
  simp [V.eq, V.eqs, keyC, sameK, beqL]
theorem find_ents (r : Rg) : ∀ l : List Rg, find (.agg (keyC r)) (ents l) = (l.find? (sameK r)).map regV
  | [] => rfl
  | x :: l => by
    have ih := find_ents r l
    simp only [ents] at ih
    simp only [ents, List.map_cons, find, key_eq, List.find?_cons]
    cases sameK r x with
    | true => rfl
    | false => simpa using ih
theorem upd_ents (r : Rg) : ∀ l : List Rg, upd (.agg (keyC r)) (regV r) (ents l) = ents (updR r l)
  | [] => rfl
  | x :: l => by
    have ih := upd_ents r l
    simp only [ents] at ih
    simp only [ents, List.map_cons, upd, key_eq, updR]
    cases sameK r x with
    | true => rfl
    | false => simp only [cond_false, List.map_cons, ih]
theorem updR_none (r : Rg) : ∀ {l : List Rg}, l.find? (sameK r) = none → updR r l = l ++ [r]
  | [], _ => rfl
  | x :: l, h => by
    simp only [List.find?_cons] at h
    cases hs : sameK r x with
    | true => rw [hs] at h; cases h
    | false =>
      rw [hs] at h
      simp only [updR, hs, cond_false, List.cons_append, updR_none r h]

/-- Registers in memory. -/
def IsRegs (σ : St) (i m : Nat) (l : List Rg) : Prop := ∃ ver, σ.objs[i]? = some (.cells [.map (some m)]) ∧ σ.objs[m]? = some (.mp KL (ents l) ver)

section
variable {σ : St} {r : Rg} {i m : Nat} {l : List Rg}
set_option maxRecDepth 100000 in
theorem new_ok : CallA Try.prog 18 [] σ fun v σ' => v = .ptr (some (σ.objs.length + 1, 0)) ∧ IsRegs σ' (σ.objs.length + 1) σ.objs.length [] ∧ Ext σ σ' ∧ σ'.live = σ.live := by
  refine fn_at Try.func18 (by decide) comp18 rfl fun Q q1 q2 => ?_
  simp -implicitDefEqProofs only [go_sem, Nat.reduceBEq, Nat.reduceAdd, c18, Nat.reduceLeDiff, Nat.zero_add]
  refine q2 _ _ ?_
  simp -implicitDefEqProofs only [go_sem, Nat.reduceBEq, Nat.reduceAdd]
  refine ⟨by simp, ⟨0, by simp, ?_⟩, (ext_obj σ _).trans (ext_obj _ _), trivial⟩
  simp [KL, ents]

set_option maxRecDepth 100000 in
set_option maxHeartbeats 1600000 in
theorem put_ok (h : IsRegs σ i m l) (hlen : r.name.length < 4611686018427387904) :
    CallA Try.prog 20 [.ptr (some (i, 0)), regV r] σ fun v σ' => v = .int .i64 (chk r) ∧ IsRegs σ' i m (putR l r) ∧ σ'.live = σ.live ∧ ∀ σ0, Ext σ0 σ → σ0.objs.length ≤ m → Ext σ0 σ' := by
  obtain ⟨ver, h1, h2⟩ := h
  refine fn_at Try.func20 (by decide) comp20 rfl fun Q q1 q2 => ?_
  simp -implicitDefEqProofs only [go_sem, Nat.reduceBEq, Nat.reduceAdd, eq_self, true_and, and_self, c20, regV, regC]
  refine call_at (check_ok hlen) ?_
  rintro v τ ⟨rfl, rfl⟩
  refine ⟨kept_none, ?_⟩
  cases hc : decide (chk r = 0)
  case false =>
    simp -implicitDefEqProofs only [go_sem, Nat.reduceBEq, Nat.reduceAdd, eq_self, true_and, and_self, hc]
    refine q2 _ _ ?_
    simp -implicitDefEqProofs only [go_sem, Nat.reduceBEq, Nat.reduceAdd]
    refine ⟨trivial, ?_, trivial, fun σ0 h _ => h⟩
    unfold putR
    rw [hc]
    exact ⟨ver, h1, h2⟩
  have hk : keyFits [.agg, .int .i64, .int .i64, .str] (.agg [.int .i64 r.nc, .int .i64 r.nr, .str r.name]) = true := rfl
  have hf : find (.agg [.int .i64 r.nc, .int .i64 r.nr, .str r.name]) (ents l) = (l.find? (sameK r)).map regV := find_ents r l
  have hlast : ∀ x, (τ.objs ++ [x])[τ.objs.length]? = some x := fun x => by simp
  have h2' : τ.objs[m]? = some (.mp [.agg, .int .i64, .int .i64, .str] (ents l) ver) := h2
  have hil := (List.getElem?_eq_some_iff.1 h1).1
  have hml := (List.getElem?_eq_some_iff.1 h2).1
  have old : ∀ x cs (j : Nat) o, τ.objs[j]? = some o → ((St.mk (τ.objs ++ [x]) τ.live).setC τ.objs.length cs).objs[j]? = some o := by
    intro x cs j o hj
    have := (List.getElem?_eq_some_iff.1 hj).1
    show ((τ.objs ++ [x]).set _ _)[j]? = _
    rw [List.getElem?_set_ne (by omega), List.getElem?_append_left this]
    exact hj
  have oi := fun x cs => old x cs i _ h1
  have om := fun x cs => old x cs m _ h2'
  have ol : ∀ x cs, ((St.mk (τ.objs ++ [x]) τ.live).setC τ.objs.length cs).objs[τ.objs.length]? = some (.cells cs) := by
    intro x cs
    show ((τ.objs ++ [x]).set _ _)[_]? = _
    simp
  have hext : ∀ x cs σ0, Ext σ0 τ → σ0.objs.length ≤ m → Ext σ0 ((St.mk (τ.objs ++ [x]) τ.live).setC τ.objs.length cs) := by
    intro x cs σ0 h hm
    refine ⟨fun j o hj => old x cs j o (h.objs j o hj), h.live, ?_, h.llen⟩
    show _ ≤ ((τ.objs ++ [x]).set _ _).length
    have := h.olen
    simp; omega
  have hsetM : ∀ (τ1 : St) (σ0 : St) es ver, Ext σ0 τ1 → σ0.objs.length ≤ m → Ext σ0 (τ1.setM m [.agg, .int .i64, .int .i64, .str] es ver) := by
    intro τ1 σ0 es ver h hm
    refine ⟨fun j o hj => ?_, h.live, ?_, h.llen⟩
    · have := (List.getElem?_eq_some_iff.1 hj).1
      show (τ1.objs.set _ _)[j]? = _
      rw [List.getElem?_set_ne (by omega)]
      exact h.objs j o hj
    · show _ ≤ (τ1.objs.set _ _).length
      rw [List.length_set]; exact h.olen
  have him : i ≠ m := by
    intro e
    rw [e, h2] at h1
    cases h1
  have hu : upd (.agg [.int .i64 r.nc, .int .i64 r.nr, .str r.name]) (.agg [.int .i64 r.nc, .int .i64 r.nr, .str r.name, .int .i64 r.ac, .int .i64 r.ar, .str r.val, .bool r.gone]) (ents l) = ents (updR r l) := upd_ents r l
  have fin : ∀ x cs, IsRegs (((St.mk (τ.objs ++ [x]) τ.live).setC τ.objs.length cs).setM m [.agg, .int .i64, .int .i64, .str] (ents (updR r l)) (ver + 1)) i m (updR r l) := by
    intro x cs
    refine ⟨ver + 1, ?_, ?_⟩
    · show ((((St.mk (τ.objs ++ [x]) τ.live).setC τ.objs.length cs).objs.set m _))[i]? = _
      rw [List.getElem?_set_ne (Ne.symm him)]
      exact oi x cs
    · show ((((St.mk (τ.objs ++ [x]) τ.live).setC τ.objs.length cs).objs.set m _))[m]? = _
      rw [List.getElem?_set_self (List.getElem?_eq_some_iff.1 (om x cs)).1]
      rfl
  simp -implicitDefEqProofs only [go_sem, Nat.reduceBEq, Nat.reduceAdd, eq_self, true_and, and_self, hc, Nat.reduceLeDiff, Nat.zero_add, Nat.reduceSub]
  cases hfi : l.find? (sameK r) with
  | none =>
    rw [hfi] at hf
    simp only [Option.map_none] at hf
    refine cut_dup ?_
    simp -implicitDefEqProofs only [go_sem, Nat.reduceBEq, Nat.reduceAdd, eq_self, true_and, and_self, List.getElem?_cons_zero, List.getElem?_cons_succ, Nat.reduceLeDiff, Nat.zero_add, Nat.reduceSub, h1, h2', hk, hf, hlast, oi, om, ol, hu, Nat.le_refl]
    refine q2 _ _ ?_
    simp -implicitDefEqProofs only [go_sem, Nat.reduceBEq, Nat.reduceAdd, eq_self, true_and, and_self, hc]
    have hp : putR l r = updR r l := by rw [updR_none r hfi]; unfold putR; rw [hc, hfi]; rfl
    rw [hp]
    exact ⟨by simp only [decide_eq_true_eq] at hc; rw [hc], fin _ _, rfl, fun σ0 h hm => hsetM _ _ _ _ (hext _ _ _ h hm) hm⟩
  | some w =>
    rw [hfi] at hf
    simp only [Option.map_some] at hf
    refine cut_dup ?_
    simp -implicitDefEqProofs only [go_sem, Nat.reduceBEq, Nat.reduceAdd, eq_self, true_and, and_self, List.getElem?_cons_zero, List.getElem?_cons_succ, Nat.reduceLeDiff, Nat.zero_add, Nat.reduceSub, h1, h2', hk, hf, hlast, oi, om, ol, regV, regC, Nat.le_refl]
    refine call_at (wins_ok (a := r) (b := w)) ?_
    rintro v τ2 ⟨rfl, rfl⟩
    refine ⟨kept_none, ?_⟩
    cases hw : wins r w
    case false =>
      simp -implicitDefEqProofs only [go_sem, Nat.reduceBEq, Nat.reduceAdd, eq_self, true_and, and_self, List.getElem?_cons_zero, List.getElem?_cons_succ, Nat.reduceLeDiff, Nat.zero_add, Nat.reduceSub, Nat.le_refl, hw]
      refine q2 _ _ ?_
      simp -implicitDefEqProofs only [go_sem, Nat.reduceBEq, Nat.reduceAdd, eq_self, true_and, and_self, List.getElem?_cons_zero, List.getElem?_cons_succ, Nat.reduceLeDiff, Nat.zero_add, Nat.reduceSub, Nat.le_refl, hc]
      have hp : putR l r = l := by unfold putR; rw [hc, hfi]; simp only [cond_true, hw, cond_false]
      rw [hp]
      exact ⟨by simp only [decide_eq_true_eq] at hc; rw [hc], ⟨ver, oi _ _, om _ _⟩, rfl, fun σ0 h hm => hext _ _ _ h hm⟩
    case true =>
      simp -implicitDefEqProofs only [go_sem, Nat.reduceBEq, Nat.reduceAdd, eq_self, true_and, and_self, List.getElem?_cons_zero, List.getElem?_cons_succ, Nat.reduceLeDiff, Nat.zero_add, Nat.reduceSub, Nat.le_refl, hw, oi, om, ol, hk, hu]
      refine q2 _ _ ?_
      simp -implicitDefEqProofs only [go_sem, Nat.reduceBEq, Nat.reduceAdd, eq_self, true_and, and_self, List.getElem?_cons_zero, List.getElem?_cons_succ, Nat.reduceLeDiff, Nat.zero_add, Nat.reduceSub, Nat.le_refl, hc]
      have hp : putR l r = updR r l := by unfold putR; rw [hc, hfi]; simp only [cond_true, hw]
      rw [hp]
      exact ⟨by simp only [decide_eq_true_eq] at hc; rw [hc], fin _ _, rfl, fun σ0 h hm => hsetM _ _ _ _ (hext _ _ _ h hm) hm⟩
end
end Go.VL.lww

namespace Go.VL
open Go Go.ChangeShapes Go.WideShapes Go.ChangeAt Go.RowKit

/-- What was there is as it was. -/
structure OldKept (W w' : World) : Prop where
  os : w'.os = W.os
  out : w'.output = W.output
  heap : ∀ (b : Nat) (o : Obj), W.heap[b]? = some o → w'.heap[b]? = some o

def pubOf (W : World) (b : Nat) : List Value := match W.heap[b]? with
  | some (.cells c _ _) => c.toList
  | _ => []
/-- The ghost at a claim's start: all that is there is laid aside, and may be read. -/
def g0 (W : World) : G := { mu := [], rho := [], pub := pubOf W, phi := fun b => W.heap[b]?, snap := fun _ _ => none, os := W.os, tape := W.tape, out := W.output, drn := W.drawn }

theorem inv0 (W : World) : INV (g0 W) ⟨[], []⟩ W where
  os := rfl
  tape := rfl
  out := rfl
  phi := fun _ _ h => h
  pub := fun b i v h => by
    simp only [g0, pubOf] at h
    split at h
    · rename_i c e z hx
      exact ⟨c, e, z, hx, by simpa using h⟩
    · simp at h
  mulen := rfl
  objs := fun i b o h => by simp [g0] at h
  inj := fun i j b h => by simp [g0] at h
  rholen := rfl
  own := fun r v s es h => by simp at h
  snapb := fun b n x h => by simp [g0] at h
  apart := fun r r' v s es v' s' es' b h => by simp at h
  drn := Nat.le_refl _

theorem entry {P : Program} {f : FuncId} {xs : List V} {W : World} {vs : List Value} {K : V → St → Prop} (h : CallA P f xs ⟨[], []⟩ K) (hr : RepL (g0 W) xs vs) :
    Calls P f vs.toArray W fun e w' => ∃ v x σ γ, e = .returned v ∧ OldKept W w' ∧ INV γ σ w' ∧ Rep γ x v ∧ K x σ := by
  refine (h.2 (g0 W) W vs (inv0 W) hr).mono ?_
  rintro e w' ⟨v, x, σ, γ, rfl, hle, hi, hx, hk⟩
  refine ⟨v, x, σ, γ, rfl, ⟨hi.os.trans hle.os, hi.out.trans hle.out, fun b o hb => hi.phi b o ?_⟩, hi, hx, hk⟩
  rw [hle.phi]; exact hb

theorem OldKept.frame {W w' : World} (h : OldKept W w') (may : MemPlace → Prop) : W.keptBut w' may := by
  refine ⟨h.os, h.out, fun i hi => ?_⟩
  have h1 : W.heap[i]? = some W.heap[i] := Array.getElem?_eq_getElem hi
  rw [h1, h.heap _ _ h1]
  cases W.heap[i] <;> simp

theorem OldKept.frozen {W w' : World} (h : OldKept W w') {a : Addr} (ha : a.block < W.heap.size) : w'.frozen? a = W.frozen? a := by
  have h1 : W.heap[a.block]? = some W.heap[a.block] := Array.getElem?_eq_getElem ha
  simp only [World.frozen?, h1, h.heap _ _ h1]

/-- A claim's postcondition where nothing that was there has changed. -/
theorem post_of_old {H : Type} {enc : TypeId × Value → H} {P : Program} {f : Func} {s : ChangeSpec} {apart fresh handsOn again : Bool} {W W' : World} {args : Array Value} {v : Value} {ds gs : List (DataW H)} {before pa pv : List MemPlace}
    (hW : DataW.Whole enc P f.params.toList s.vars apart W args.toList ds gs before)
    (hres : ∀ (b : Nat) (sp : Nat → Bool) (hd : Bool), DataW.TrodAll enc P W' b sp hd f.resultTypes.toList (v.resultList f.resultTypes.size) (s.fn H (ds ++ gs)).results [])
    (hargs : ∀ sp : Nat → Bool, (∀ p ∈ before, sp p.block = true) → DataW.TrodAll enc P W' 0 sp true f.params.toList args.toList (s.fn H (ds ++ gs)).args pa)
    (hvars : ∀ sp : Nat → Bool, (∀ p ∈ before, sp p.block = true) → DataW.TrodVars enc P W' sp s.vars (s.fn H (ds ++ gs)).vars pv)
    (hps : before = pa ++ pv) (hk : OldKept W W')
    (hok : ∀ (j : Nat) (t : TypeId) (r : Value), f.resultTypes[j]? = some t → (v.resultList f.resultTypes.size)[j]? = some r → Value.okWide P W' .any 0 t r) :
    s.post enc P f apart fresh handsOn again W args v W' := by
  have hold : ∀ p ∈ before, (fun b => decide (b < W.heap.size)) p.block = true := fun p hp => by simpa using hW.lt p hp
  have hlt := hW.lt
  refine ⟨ds, gs, before, [], pa, pv, hW, hres _ _ _, hargs _ hold, hvars _ hold, World.keptBut_mono (fun p hp => ⟨hp, ?_⟩) (hk.frame (· ∈ before)), fun _ => ?_⟩
  · rw [hps, List.mem_append] at hp
    exact Or.inr hp
  · obtain ⟨_, _, _, _, _, hz, hn⟩ := hW
    refine ⟨hok, _, _, ([] ++ pa) ++ pv, ⟨[] ++ pa, pv, trodAll_append (hargs _ (fun _ _ => rfl)) (hres _ _ _), hvars _ (fun _ _ => rfl), rfl, ?_, ?_⟩, ?_⟩
    · intro b off hp
      have hp' : MemPlace.cell b off ∈ before := by rw [hps]; simpa using hp
      rw [hk.frozen (by have := hlt _ hp'; exact this)]
      exact hz b off hp'
    · intro ha
      have := hn ha
      rw [hps] at this
      simpa using this
    · intro p hp _
      rw [hps]
      simpa using hp
end Go.VL

namespace Go.VL
open Go

section
variable {H : Type} {enc : TypeId × Value → H} {P : Program} {w w' : World} {base : Nat} {sp : Nat → Bool} {held : Bool}

theorem OldKept.same {W W' : World} (h : OldKept W W') {p : MemPlace} (hp : p.block < W.heap.size) : W.sameAt W' p := by
  have h1 : W.heap[p.block]? = some W.heap[p.block] := Array.getElem?_eq_getElem hp
  have h2 := h.heap _ _ h1
  cases p with
  | cell b off =>
    simp only [MemPlace.block] at h1 h2
    simp only [World.sameAt, World.cell?, h1, h2]
  | map b =>
    simp only [MemPlace.block] at h1 h2
    simp only [World.sameAt, h1, h2]

theorem trodAll_old : ∀ {ts : List TypeId} {vs : List Value} {ds : List (DataW H)} {ps : List MemPlace}, DataW.TrodAll enc P w base sp held ts vs ds ps → (∀ p ∈ ps, w.sameAt w' p) → DataW.TrodAll enc P w' base sp held ts vs ds ps
  | [], [], [], _, h, _ => h
  | _ :: _, _ :: _, _ :: _, _, ⟨p, q, ⟨n, h1⟩, h2, e⟩, hs =>
    ⟨p, q, ⟨n, DataW.trod_carry n _ _ _ h1 (fun x hx => hs x (by rw [e]; exact List.mem_append_left _ hx))⟩, trodAll_old h2 (fun x hx => hs x (by rw [e]; exact List.mem_append_right _ hx)), e⟩
end
end Go.VL

namespace Go.VL
open Go

/-- Cells that were there from the start. -/
theorem pub_cells {W : World} {a : Addr} {vs : List Value} (h : ∀ (i : Nat) v, vs[i]? = some v → W.cell? ⟨a.block, a.off + i, none⟩ = some v) : pubAt (g0 W) a.block a.off vs := by
  intro i v hv
  have hc := h i v hv
  simp only [g0, pubOf]
  unfold World.cell? at hc
  cases hb : W.heap[a.block]? with
  | none => rw [hb] at hc; cases hc
  | some o =>
    rw [hb] at hc
    cases o with
    | cells c e z => simpa using hc
    | _ => cases hc

theorem repE_ints {γ : G} (k : IntKind) : ∀ (zs : List Int), RepE γ 1 (intsV k zs) (zs.map fun n => Value.int k n)
  | [] => by simp [intsV, RepE]
  | z :: r => by
    simp only [intsV, List.map_cons, RepE]
    exact ⟨[.int k z], r.map fun n => Value.int k n, rfl, rfl, by simp only [RepL]; exact ⟨_, _, rfl, by simp only [Rep], rfl⟩, repE_ints k r, by simp [Value.oneCell']⟩

/-- A slice of numbers that was there. -/
theorem arg_ints {W : World} {k : IntKind} {a : Addr} {len cap : Nat} {zs : List Int} (hsp : a.spot = none) (hl : zs.length = len) (hc : len ≤ cap) (h : ∀ i, i < zs.length → W.cell? (a.add i) = some (.int k (zs.getD i 0))) :
    Rep (g0 W) (.sl false .pub 1 (intsV k zs)) (.slice (some a) len cap) := by
  simp only [Rep, intsV_length]
  refine ⟨a, cap, zs.map fun n => Value.int k n, by rw [hl], .inr hsp, by omega, pub_cells fun i v hv => ?_, repE_ints k zs⟩
  rw [List.getElem?_map] at hv
  cases hz : zs[i]? with
  | none => rw [hz] at hv; cases hv
  | some z =>
    rw [hz] at hv
    have hi := (List.getElem?_eq_some_iff.1 hz).1
    have := h i hi
    obtain ⟨b, o, s⟩ := a
    simp only at hsp
    subst hsp
    simp only [Option.map_some, Option.some.injEq] at hv
    subst hv
    have hd : zs.getD i 0 = z := by simp [List.getD, hz]
    rw [hd] at this
    rwa [add_spot rfl] at this

theorem repE_strs {γ : G} : ∀ (ss : List ByteArray), RepE γ 1 (ss.map fun s => [V.str s.data.toList]) (ss.map Value.string)
  | [] => by simp [RepE]
  | s :: r => by
    simp only [List.map_cons, RepE]
    exact ⟨[.string s], r.map Value.string, rfl, rfl, by simp only [RepL]; exact ⟨_, _, rfl, by simp only [Rep], rfl⟩, repE_strs r, by simp [Value.oneCell']⟩

/-- A slice of texts that was there. -/
theorem arg_strs {W : World} {a : Addr} {len cap : Nat} {ss : List ByteArray} (hsp : a.spot = none) (hl : ss.length = len) (hc : len ≤ cap) (h : ∀ i, i < ss.length → W.cell? (a.add i) = some (.string (ss.getD i ByteArray.empty))) :
    Rep (g0 W) (.sl false .pub 1 (ss.map fun s => [V.str s.data.toList])) (.slice (some a) len cap) := by
  simp only [Rep, List.length_map]
  refine ⟨a, cap, ss.map Value.string, by rw [hl], .inr hsp, by omega, pub_cells fun i v hv => ?_, repE_strs ss⟩
  rw [List.getElem?_map] at hv
  cases hz : ss[i]? with
  | none => rw [hz] at hv; cases hv
  | some z =>
    rw [hz] at hv
    have hi := (List.getElem?_eq_some_iff.1 hz).1
    have := h i hi
    obtain ⟨b, o, s⟩ := a
    simp only at hsp
    subst hsp
    simp only [Option.map_some, Option.some.injEq] at hv
    subst hv
    have hd : ss.getD i ByteArray.empty = z := by simp [List.getD, hz]
    rw [hd] at this
    rwa [add_spot rfl] at this
end Go.VL

namespace Go.VL
open Go Go.ChangeShapes Go.WideShapes Go.ChangeAt Go.RowKit

/-- Shapes of what is read. -/
inductive T where
  | int (k : IntKind)
  | bool
  | str
  | sl (s : Nat) (e : T)
  | agg (l : List T)
  | arr (n : Nat) (e : T)

def tysOf (P : Program) (f : TypeId → Option T) (all : Nat) : Nat → List Field → Option (List T)
  | o, [] => bif Nat.beq o all then some [] else none
  | o, x :: r => bif Nat.beq x.offset o then (match f x.type, tysOf P f all (o + P.cellsOf x.type) r with
    | some a, some b => some (a :: b)
    | _, _ => none) else none
/-- A type's shape. -/
def tyOf (P : Program) : Nat → TypeId → Option T
  | 0, _ => none
  | n + 1, t => match P.underlying t with
    | some (.int k) => bif Nat.beq (P.cellsOf t) 1 then some (.int k) else none
    | some .bool => bif Nat.beq (P.cellsOf t) 1 then some .bool else none
    | some .string => bif Nat.beq (P.cellsOf t) 1 then some .str else none
    | some (.slice e) => bif Nat.beq (P.cellsOf t) 1 && Nat.ble 1 (P.cellsOf e) then (tyOf P n e).map (.sl (P.cellsOf e)) else none
    | some (.struct fs) => (tysOf P (tyOf P n) (P.cellsOf t) 0 fs.toList).map .agg
    | some (.array m e) => bif Nat.beq (P.cellsOf t) (m * P.cellsOf e) then (tyOf P n e).map (.arr m) else none
    | _ => none

mutual
/-- Cells of a shape. -/
def T.has : T → List V → Prop
  | .int k, xs => ∃ n, xs = [.int k n] ∧ (Lit.int k n).wf = true
  | .bool, xs => ∃ b, xs = [.bool b]
  | .str, xs => ∃ s, xs = [.str s]
  | .sl s e, xs => xs = [.sl true .pub 0 []] ∨ ∃ es, xs = [.sl false .pub s es] ∧ ∀ x ∈ es, e.has x
  | .agg l, xs => T.hasL l xs
  | .arr n e, xs => ∃ l : List (List V), l.length = n ∧ xs = l.flatten ∧ ∀ x ∈ l, e.has x
def T.hasL : List T → List V → Prop
  | [], xs => xs = []
  | t :: r, xs => ∃ a b, xs = a ++ b ∧ t.has a ∧ T.hasL r b
end

mutual
/-- How much there is of it. -/
def vb : V → Nat
  | .str s => s.length + 1
  | .sl _ _ _ es => vbe es + 1
  | .int _ _ | .bool _ | .agg _ | .tup _ | .ptr _ | .elt _ _ _ _ _ | .map _ | .fn _ _ | .nilf | .raw _ | .bad => 1
def vbs : List V → Nat
  | [] => 0
  | x :: r => vb x + vbs r
def vbe : List (List V) → Nat
  | [] => 0
  | x :: r => vbs x + vbe r
end
theorem vbs_append : ∀ (a b : List V), vbs (a ++ b) = vbs a + vbs b
  | [], b => by simp [vbs]
  | x :: a, b => by simp [vbs, vbs_append a b, Nat.add_assoc]
theorem vbs_flatten : ∀ (l : List (List V)), vbs l.flatten = vbe l
  | [] => by simp [vbs, vbe]
  | x :: l => by simp [vbe, vbs_append, vbs_flatten l]

/-- A measure of data that counts at least so much. -/
structure Bulk {H : Type} (B : DataW H → Nat) : Prop where
  lit : ∀ l, 1 ≤ B (.lit l)
  str : ∀ s, s.length + 1 ≤ B (.lit (.string s))
  nil : 1 ≤ B .nil
  slice : ∀ es sp, (es.map B).sum + 1 ≤ B (.slice es sp)
  agg : ∀ ps, (ps.map B).sum ≤ B (.agg ps)

section
variable {H : Type} {enc : TypeId × Value → H} {P : Program} {W : World} {sp : Nat → Bool} {held : Bool} {B : DataW H → Nat}

/-- What is read is of its type's shape. -/
def Reads (W : World) (B : DataW H → Nat) (T0 : T) (c : Nat) (cs : List Value) (d : DataW H) : Prop :=
  ∃ xs, RepL (g0 W) xs cs ∧ T0.has xs ∧ vbs xs ≤ B d ∧ (∀ v ∈ cs, v.oneCell' = true) ∧ cs.length = c

theorem RepL.len {γ : G} : ∀ {xs : List V} {vs : List Value}, RepL γ xs vs → xs.length = vs.length
  | [], vs, h => by simp only [RepL] at h; subst h; rfl
  | x :: xs, vs, h => by
    simp only [RepL] at h
    obtain ⟨v, ws, rfl, _, h2⟩ := h
    simp [RepL.len h2]

theorem rows_read {T0 : T} {a : Addr} {c : Nat} (hsp : a.spot = none) : ∀ (elems : List (DataW H × List MemPlace)) (k : Nat),
    (∀ (i : Nat) y, elems[i]? = some y → ∃ cs, W.cells? 0 (a.add ((k + i) * c)) c = some cs ∧ Reads W B T0 c cs y.1) →
    ∃ es vs, es.length = elems.length ∧ RepE (g0 W) c es vs ∧ (∀ x ∈ es, T0.has x) ∧ vbe es ≤ ((elems.map (·.1)).map B).sum ∧ ∀ (j : Nat) v, vs[j]? = some v → W.cell? ⟨a.block, a.off + k * c + j, none⟩ = some v
  | [], k, _ => ⟨[], [], rfl, by simp [RepE], by simp, by simp [vbe], by simp⟩
  | y :: r, k, h => by
    obtain ⟨es, vs, h1, h2, h3, h4, h5⟩ := rows_read hsp r (k + 1) fun i y hy => by
      obtain ⟨cs, e1, e2⟩ := h (i + 1) y (by simpa using hy)
      exact ⟨cs, by rw [show k + 1 + i = k + (i + 1) from by omega]; exact e1, e2⟩
    obtain ⟨cs, e1, xs, f1, f2, f3, f4, f5⟩ := h 0 y rfl
    obtain ⟨_, g1, g2⟩ := World.cells?_some e1
    refine ⟨xs :: es, cs ++ vs, by simp [h1], ?_, ?_, ?_, ?_⟩
    · simp only [RepE]
      exact ⟨cs, vs, rfl, by rw [f1.len, f5], f1, h2, f4⟩
    · intro x hx
      rcases List.mem_cons.1 hx with rfl | hx
      · exact f2
      · exact h3 x hx
    · simp only [vbe, List.map_cons, List.sum_cons]; omega
    · intro j v hv
      by_cases hj : j < cs.length
      · rw [List.getElem?_append_left hj] at hv
        have := g2 j (by omega)
        rw [hv, Nat.add_zero, add_spot hsp, add_spot rfl] at this
        exact this
      · rw [List.getElem?_append_right (by omega)] at hv
        have := h5 _ _ hv
        rw [show a.off + k * c + j = a.off + (k + 1) * c + (j - cs.length) from by rw [Nat.succ_mul]; omega]
        exact this

theorem fields_read (hB : Bulk B) {f : TypeId → Option T} {rd : TypeId → List Value → Option (DataW H × List MemPlace)} (ih : ∀ t T0 cs d ps, f t = some T0 → rd t cs = some (d, ps) → Reads W B T0 (P.cellsOf t) cs d) {all : Nat} :
    ∀ (fs : List Field) (o : Nat) (Ts : List T) (cs : List Value) (xs : List (DataW H × List MemPlace)), tysOf P f all o fs = some Ts → cs.length + o = all → xs.length = fs.length →
      (∀ (i : Nat) (x : Field), fs[i]? = some x → rd x.type ((cs.drop (x.offset - o)).take (P.cellsOf x.type)) = xs[i]?) →
      ∃ ys, RepL (g0 W) ys cs ∧ T.hasL Ts ys ∧ vbs ys ≤ ((xs.map (·.1)).map B).sum ∧ (∀ v ∈ cs, v.oneCell' = true)
  | [], o, Ts, cs, xs, ht, hl, hx, h => by
    simp only [tysOf] at ht
    cases hb : Nat.beq o all with
    | false => simp [hb] at ht
    | true =>
      simp only [hb, cond_true, Option.some.injEq] at ht
      subst ht
      have := Nat.eq_of_beq_eq_true hb
      have : cs = [] := by apply List.eq_nil_of_length_eq_zero; omega
      subst this
      exact ⟨[], by simp [RepL], by simp [T.hasL], by simp [vbs], by simp⟩
  | x :: r, o, Ts, cs, xs, ht, hl, hx, h => by
    simp only [tysOf] at ht
    cases hb : Nat.beq x.offset o with
    | false => simp [hb] at ht
    | true =>
      have ho := Nat.eq_of_beq_eq_true hb
      simp only [hb, cond_true] at ht
      split at ht
      · rename_i a b ha hbb
        simp only [Option.some.injEq] at ht
        subst ht
        cases xs with
        | nil => simp at hx
        | cons y ys =>
          have h0 := h 0 x rfl
          simp only [ho, Nat.sub_self, List.drop_zero, List.getElem?_cons_zero] at h0
          obtain ⟨zs, f1, f2, f3, f4, f5⟩ := ih _ _ _ _ _ ha h0
          have hle : P.cellsOf x.type ≤ cs.length := by rw [← f5, List.length_take]; omega
          obtain ⟨us, k1, k2, k3, k4⟩ := fields_read hB ih r (o + P.cellsOf x.type) b (cs.drop (P.cellsOf x.type)) ys hbb (by rw [List.length_drop]; omega) (by simpa using hx) (by
            intro i fd hfd
            have := h (i + 1) fd (by simpa using hfd)
            simp only [List.getElem?_cons_succ] at this
            rw [← this, List.drop_drop]
            -- a field's place is not ahead of where we are
            have hge : o + P.cellsOf x.type ≤ fd.offset := tysOf_ge hbb hfd
            congr 3
            omega)
          refine ⟨zs ++ us, ?_, ⟨zs, us, rfl, f2, k2⟩, ?_, ?_⟩
          · rw [← List.take_append_drop (P.cellsOf x.type) cs]
            exact f1.append k1
          · rw [vbs_append]; simp only [List.map_cons, List.sum_cons]; omega
          · intro v hv
            rw [← List.take_append_drop (P.cellsOf x.type) cs] at hv
            rcases List.mem_append.1 hv with hv | hv
            · exact f4 v hv
            · exact k4 v hv
      · cases ht
where
  tysOf_ge {f : TypeId → Option T} {all : Nat} : ∀ {fs : List Field} {o : Nat} {Ts : List T} {i : Nat} {fd : Field}, tysOf P f all o fs = some Ts → fs[i]? = some fd → o ≤ fd.offset
    | [], o, Ts, i, fd, _, h => by simp at h
    | x :: r, o, Ts, i, fd, ht, h => by
      simp only [tysOf] at ht
      cases hb : Nat.beq x.offset o with
      | false => simp [hb] at ht
      | true =>
        have ho := Nat.eq_of_beq_eq_true hb
        simp only [hb, cond_true] at ht
        split at ht
        · rename_i a b ha hbb
          cases i with
          | zero => simp only [List.getElem?_cons_zero, Option.some.injEq] at h; subst h; omega
          | succ i =>
            simp only [List.getElem?_cons_succ] at h
            have := tysOf_ge hbb h
            omega
        · cases ht

theorem arr_read {T0 : T} {c : Nat} {rd : List Value → Option (DataW H × List MemPlace)} (ih : ∀ cs d ps, rd cs = some (d, ps) → Reads W B T0 c cs d) :
    ∀ (n : Nat) (cs : List Value) (xs : List (DataW H × List MemPlace)), cs.length = n * c → xs.length = n → (∀ (i : Nat), i < n → rd ((cs.drop (i * c)).take c) = xs[i]?) →
      ∃ l : List (List V), l.length = n ∧ RepL (g0 W) l.flatten cs ∧ (∀ x ∈ l, T0.has x) ∧ vbe l ≤ ((xs.map (·.1)).map B).sum ∧ (∀ v ∈ cs, v.oneCell' = true)
  | 0, cs, xs, hl, hx, h => by
    have : cs = [] := by apply List.eq_nil_of_length_eq_zero; omega
    subst this
    exact ⟨[], rfl, by simp [RepL], by simp, by simp [vbe], by simp⟩
  | n + 1, cs, xs, hl, hx, h => by
    cases xs with
    | nil => simp at hx
    | cons y ys =>
      have h0 := h 0 (by omega)
      simp only [Nat.zero_mul, List.drop_zero, List.getElem?_cons_zero] at h0
      obtain ⟨zs, f1, f2, f3, f4, f5⟩ := ih _ _ _ h0
      obtain ⟨l, k1, k2, k3, k4, k5⟩ := arr_read ih n (cs.drop c) ys (by rw [List.length_drop, hl, Nat.succ_mul]; omega) (by simpa using hx) (fun i hi => by
        have := h (i + 1) (by omega)
        simp only [List.getElem?_cons_succ] at this
        rw [← this, List.drop_drop, Nat.succ_mul, Nat.add_comm])
      refine ⟨zs :: l, by simp [k1], ?_, ?_, ?_, ?_⟩
      · rw [List.flatten_cons, ← List.take_append_drop c cs]
        exact f1.append k2
      · intro x hx
        rcases List.mem_cons.1 hx with rfl | hx
        · exact f2
        · exact k3 x hx
      · simp only [vbe, List.map_cons, List.sum_cons]; omega
      · intro v hv
        rw [← List.take_append_drop c cs] at hv
        rcases List.mem_append.1 hv with hv | hv
        · exact f4 v hv
        · exact k5 v hv

theorem one_read {x : V} {v : Value} {T0 : T} {d : DataW H} (hr : Rep (g0 W) x v) (ht : T0.has [x]) (hb : vb x ≤ B d) (h1 : v.oneCell' = true) : Reads W B T0 1 [v] d :=
  ⟨[x], by simp only [RepL]; exact ⟨v, [], rfl, hr, rfl⟩, ht, by simpa [vbs] using hb, by simpa using h1, rfl⟩

theorem read_has (hB : Bulk B) : ∀ (n : Nat) (t : TypeId) (T0 : T) (fuel : Nat) (cs : List Value) (d : DataW H) (ps : List MemPlace), tyOf P n t = some T0 → DataW.trod enc P W 0 sp held fuel t cs = some (d, ps) → Reads W B T0 (P.cellsOf t) cs d
  | 0, t, T0, fuel, cs, d, ps, ht, _ => by simp [tyOf] at ht
  | n + 1, t, T0, fuel, cs, d, ps, ht, h => by
    have c1 : ∀ {x : Option T}, (bif Nat.beq (P.cellsOf t) 1 then x else none) = some T0 → P.cellsOf t = 1 ∧ x = some T0 := by
      intro x hx
      cases hb : Nat.beq (P.cellsOf t) 1 with
      | false => simp [hb] at hx
      | true => exact ⟨Nat.eq_of_beq_eq_true hb, by simpa [hb] using hx⟩
    simp only [tyOf] at ht
    split at ht
    · rename_i k hu
      obtain ⟨hc, h0⟩ := c1 ht
      cases h0
      rw [hc]
      obtain ⟨n', rfl, h1, hw⟩ := DataW.trod_int hu h
      simp only [Prod.mk.injEq] at h1
      obtain ⟨rfl, rfl⟩ := h1
      exact one_read (x := .int k n') (by simp only [Rep]) ⟨_, rfl, hw⟩ (by simpa [vb] using hB.lit _) rfl
    · rename_i hu
      obtain ⟨hc, h0⟩ := c1 ht
      cases h0
      rw [hc]
      obtain ⟨b, rfl, h1⟩ := DataW.trod_bool hu h
      simp only [Prod.mk.injEq] at h1
      obtain ⟨rfl, rfl⟩ := h1
      exact one_read (x := .bool b) (by simp only [Rep]) ⟨_, rfl⟩ (by simpa [vb] using hB.lit _) rfl
    · rename_i hu
      obtain ⟨hc, h0⟩ := c1 ht
      cases h0
      rw [hc]
      obtain ⟨s, rfl, h1, _⟩ := DataW.trod_string hu h
      simp only [Prod.mk.injEq] at h1
      obtain ⟨rfl, rfl⟩ := h1
      exact one_read (x := .str s.data.toList) (by simp only [Rep]) ⟨_, rfl⟩ (by simp only [vb]; exact hB.str _) rfl
    · rename_i e hu
      cases hb : (Nat.beq (P.cellsOf t) 1 && Nat.ble 1 (P.cellsOf e)) with
      | false => simp [hb] at ht
      | true =>
        simp only [hb, cond_true, Option.map_eq_some_iff] at ht
        obtain ⟨Te, hTe, rfl⟩ := ht
        simp only [Bool.and_eq_true] at hb
        have hc := Nat.eq_of_beq_eq_true hb.1
        have he := Nat.le_of_ble_eq_true hb.2
        rw [hc]
        rcases DataW.trod_slice hu h with ⟨rfl, h0⟩ | ⟨a, len, cap, elems, rest, m, _, rfl, h0, _, hl, _, hlen, hel, _⟩
        · simp only [Prod.mk.injEq] at h0
          obtain ⟨rfl, rfl⟩ := h0
          exact one_read (x := .sl true .pub 0 []) (by simp [Rep]) (.inl rfl) (by simpa [vb, vbe] using hB.nil) rfl
        · simp only [Prod.mk.injEq] at h0
          obtain ⟨rfl, rfl⟩ := h0
          have each : ∀ (i : Nat) y, elems[i]? = some y → ∃ cs, W.cells? 0 (a.add ((0 + i) * P.cellsOf e)) (P.cellsOf e) = some cs ∧ Reads W B Te (P.cellsOf e) cs y.1 := by
            intro i y hy
            have hi : i < len := by rw [← hlen]; exact (List.getElem?_eq_some_iff.1 hy).1
            have := hel i hi
            rw [hy, Option.bind_eq_some_iff] at this
            obtain ⟨cs, e1, e2⟩ := this
            exact ⟨cs, by rw [Nat.zero_add]; exact e1, read_has hB n e Te m cs y.1 y.2 hTe e2⟩
          by_cases hsp : a.spot = none
          · obtain ⟨es, vs, k1, k2, k3, k4, k5⟩ := rows_read hsp elems 0 each
            refine one_read (x := .sl false .pub (P.cellsOf e) es) ?_ (.inr ⟨es, rfl, k3⟩) ?_ rfl
            · simp only [Rep]
              exact ⟨a, cap, vs, by rw [k1, hlen], .inr hsp, by omega, pub_cells (fun i v hv => by simpa using k5 i v hv), k2⟩
            · have := hB.slice (elems.map (·.1)) (rest.map (·.1))
              simp only [vb]
              omega
          · have hnil : elems = [] := by
              cases elems with
              | nil => rfl
              | cons y r =>
                exfalso
                obtain ⟨cs, e1, _⟩ := each 0 y rfl
                obtain ⟨_, g1, g2⟩ := World.cells?_some e1
                have := g2 0 he
                have h0 : (a.add ((0 + 0) * P.cellsOf e)).add 0 = a := by simp [Addr.add]
                rw [h0] at this
                have hcs : cs[0]? = some cs[0] := List.getElem?_eq_getElem (by omega)
                rw [hcs] at this
                unfold World.cell? at this
                split at this
                · cases hx : a.spot with
                  | none => exact hsp hx
                  | some b => simp [hx] at this
                · cases this
            subst hnil
            refine one_read (x := .sl false .pub (P.cellsOf e) []) ?_ (.inr ⟨[], rfl, by simp⟩) ?_ rfl
            · simp only [Rep]
              simp only [List.length_nil] at hlen
              exact ⟨a, cap, [], by rw [← hlen]; rfl, .inl trivial, by simp, fun i v hv => by simp at hv, by simp [RepE]⟩
            · have := hB.slice ([] : List (DataW H)) (rest.map (·.1))
              simp only [vb, vbe]
              simp only [List.map_nil, List.sum_nil] at this ⊢
              omega
    · rename_i fs hu
      simp only [Option.map_eq_some_iff] at ht
      obtain ⟨Ts, hTs, rfl⟩ := ht
      obtain ⟨xs, m, _, h0, hl, hlen, hf⟩ := DataW.trod_struct hu h
      simp only [Prod.mk.injEq] at h0
      obtain ⟨rfl, rfl⟩ := h0
      obtain ⟨ys, k1, k2, k3, k4⟩ := fields_read (P := P) hB (f := tyOf P n) (rd := fun t cs => DataW.trod enc P W 0 sp held m t cs) (fun t T0 cs d ps h1 h2 => read_has hB n t T0 m cs d ps h1 h2) fs.toList 0 Ts cs xs hTs (by omega) (by simpa using hlen)
        (fun i x hx => by simpa using hf i x (by simpa using hx))
      exact ⟨ys, k1, k2, Nat.le_trans k3 (hB.agg _), k4, hl⟩
    · rename_i m e hu
      cases hb : Nat.beq (P.cellsOf t) (m * P.cellsOf e) with
      | false => simp [hb] at ht
      | true =>
        simp only [hb, cond_true, Option.map_eq_some_iff] at ht
        obtain ⟨Te, hTe, rfl⟩ := ht
        have hc := Nat.eq_of_beq_eq_true hb
        obtain ⟨xs, q, _, h0, hl, hlen, hf⟩ := DataW.trod_array hu h
        simp only [Prod.mk.injEq] at h0
        obtain ⟨rfl, rfl⟩ := h0
        obtain ⟨l, k1, k2, k3, k4, k5⟩ := arr_read (rd := fun cs => DataW.trod enc P W 0 sp held q e cs) (T0 := Te) (c := P.cellsOf e) (W := W) (B := B) (fun cs d ps h2 => read_has hB n e Te q cs d ps hTe h2) m cs xs (by rw [hl, hc]) hlen hf
        exact ⟨l.flatten, k2, ⟨l, k1, rfl, k3⟩, by rw [vbs_flatten]; exact Nat.le_trans k4 (hB.agg _), k5, hl⟩
    · cases ht

/-- An argument of a shape. -/
def T.arg : T → V → Prop
  | .agg l, x => ∃ xs, x = .agg xs ∧ T.hasL l xs
  | .arr n e, x => ∃ xs, x = .agg xs ∧ (T.arr n e).has xs
  | t, x => t.has [x]
def T.args : List T → List V → Prop
  | [], xs => xs = []
  | t :: r, xs => ∃ x ys, xs = x :: ys ∧ t.arg x ∧ T.args r ys
def vba : V → Nat
  | .agg xs => vbs xs
  | x => vb x
def vbas : List V → Nat
  | [] => 0
  | x :: r => vba x + vbas r

theorem vba_one {x : V} (h : ∀ xs, x ≠ .agg xs) : vba x = vbs [x] := by
  cases x <;> first | rfl | exact absurd rfl (h _)

def tysAll (P : Program) (n : Nat) : List TypeId → Option (List T)
  | [] => some []
  | t :: r => match tyOf P n t, tysAll P n r with
    | some a, some b => some (a :: b)
    | _, _ => none

theorem cells_one {v q : Value} (hq : v.cells.toList = [q]) (ha : ∀ cs, v ≠ .agg cs) : v.cells.toList = [v] := by
  cases v <;> first | rfl | exact absurd rfl (ha _)

theorem arg_read (hB : Bulk B) {n : Nat} {t : TypeId} {T0 : T} {base : Nat} {v : Value} {d : DataW H} {ps : List MemPlace} (ht : tyOf P n t = some T0) (hok : Value.okWide P W .any base t v) (h : DataW.Trod enc P W 0 sp held t v d ps) :
    ∃ x, Rep (g0 W) x v ∧ T0.arg x ∧ vba x ≤ B d := by
  obtain ⟨fuel, h⟩ := h
  obtain ⟨xs, k1, k2, k3, k4, k5⟩ := read_has hB n t T0 fuel _ d ps ht h
  have flat : ∀ (T1 : T), T0 = T1 → (∀ x, T1.has [x] → T1.arg x ∧ ∀ xs, x ≠ .agg xs) → v.cells.toList = [v] → (∃ x, xs = [x]) → ∃ x, Rep (g0 W) x v ∧ T0.arg x ∧ vba x ≤ B d := by
    rintro T1 rfl ha hv ⟨x, rfl⟩
    rw [hv] at k1
    simp only [RepL, List.cons.injEq] at k1
    obtain ⟨w, ws, ⟨rfl, rfl⟩, k1, -⟩ := k1
    obtain ⟨a1, a2⟩ := ha x k2
    exact ⟨x, k1, a1, by rw [vba_one a2]; exact k3⟩
  have agg : ∀ cs, v = .agg cs → Rep (g0 W) (.agg xs) v := by
    intro cs hv
    subst hv
    simp only [Rep]
    exact ⟨cs.toList, by simp, k1⟩
  cases n with
  | zero => simp [tyOf] at ht
  | succ n =>
    unfold Value.okWide at hok
    simp only [tyOf] at ht
    split at ht
    · rename_i k hu
      rw [hu] at hok
      have hT : T0 = .int k := by
        cases hb : Nat.beq (P.cellsOf t) 1 <;> simp [hb] at ht
        exact ht.symm
      subst hT
      obtain ⟨m, rfl, hw⟩ := k2
      exact flat _ rfl (fun x hx => ⟨hx, by obtain ⟨m, hx, _⟩ := hx; simp only [List.cons.injEq, and_true] at hx; subst hx; simp⟩) (by
        obtain ⟨q, hq, _⟩ := DataW.trod_int hu h
        exact cells_one hq (by intro cs hcs; subst hcs; simp [Cell.okWide, Cell.ok, hu] at hok)) ⟨_, rfl⟩
    · rename_i hu
      rw [hu] at hok
      have hT : T0 = .bool := by
        cases hb : Nat.beq (P.cellsOf t) 1 <;> simp [hb] at ht
        exact ht.symm
      subst hT
      obtain ⟨m, rfl⟩ := k2
      exact flat _ rfl (fun x hx => ⟨hx, by obtain ⟨m, hx⟩ := hx; simp only [List.cons.injEq, and_true] at hx; subst hx; simp⟩) (by
        obtain ⟨q, hq, _⟩ := DataW.trod_bool hu h
        exact cells_one hq (by intro cs hcs; subst hcs; simp [Cell.okWide, Cell.ok, hu] at hok)) ⟨_, rfl⟩
    · rename_i hu
      rw [hu] at hok
      have hT : T0 = .str := by
        cases hb : Nat.beq (P.cellsOf t) 1 <;> simp [hb] at ht
        exact ht.symm
      subst hT
      obtain ⟨m, rfl⟩ := k2
      exact flat _ rfl (fun x hx => ⟨hx, by obtain ⟨m, hx⟩ := hx; simp only [List.cons.injEq, and_true] at hx; subst hx; simp⟩) (by
        obtain ⟨q, hq, _⟩ := DataW.trod_string hu h
        exact cells_one hq (by intro cs hcs; subst hcs; simp [Cell.okWide, Cell.ok, hu] at hok)) ⟨_, rfl⟩
    · rename_i e hu
      rw [hu] at hok
      have hT : ∃ s Te, T0 = .sl s Te := by
        cases hb : (Nat.beq (P.cellsOf t) 1 && Nat.ble 1 (P.cellsOf e)) <;> simp [hb] at ht
        obtain ⟨Te, _, h⟩ := ht
        exact ⟨_, _, h.symm⟩
      obtain ⟨s, Te, rfl⟩ := hT
      have hxs : ∃ x, xs = [x] := by
        rcases k2 with rfl | ⟨es, rfl, _⟩ <;> exact ⟨_, rfl⟩
      exact flat _ rfl (fun x hx => ⟨hx, by
        rcases hx with hx | ⟨es, hx, _⟩ <;> (simp only [List.cons.injEq, and_true] at hx; subst hx; simp)⟩) (by
        have : ∃ q, v.cells.toList = [q] := by
          rcases DataW.trod_slice hu h with ⟨hq, _⟩ | ⟨a, len, cap, elems, rest, m, _, hq, _⟩ <;> exact ⟨_, hq⟩
        obtain ⟨q, hq⟩ := this
        exact cells_one hq (by intro cs hcs; subst hcs; simp [Cell.okWide, Cell.ok, hu] at hok)) hxs
    · rename_i fs hu
      rw [hu] at hok
      obtain ⟨cs, hv, _⟩ := hok
      simp only [Option.map_eq_some_iff] at ht
      obtain ⟨Ts, hTs, rfl⟩ := ht
      exact ⟨.agg xs, agg cs hv, ⟨xs, rfl, k2⟩, k3⟩
    · rename_i m e hu
      rw [hu] at hok
      obtain ⟨cs, hv, _⟩ := hok
      have hT : ∃ Te, T0 = .arr m Te := by
        cases hb : Nat.beq (P.cellsOf t) (m * P.cellsOf e) <;> simp [hb] at ht
        obtain ⟨Te, _, h⟩ := ht
        exact ⟨_, h.symm⟩
      obtain ⟨Te, rfl⟩ := hT
      exact ⟨.agg xs, agg cs hv, ⟨xs, rfl, k2⟩, k3⟩
    · cases ht
theorem args_read (hB : Bulk B) {n base : Nat} : ∀ (ts : List TypeId) (Ts : List T) (vs : List Value) (ds : List (DataW H)) (ps : List MemPlace), tysAll P n ts = some Ts → (∀ (j : Nat) t v, ts[j]? = some t → vs[j]? = some v → Value.okWide P W .any base t v) →
    DataW.TrodAll enc P W 0 sp held ts vs ds ps → ∃ xs, RepL (g0 W) xs vs ∧ T.args Ts xs ∧ vbas xs ≤ (ds.map B).sum
  | [], Ts, [], [], ps, ht, _, _ => by
    simp only [tysAll, Option.some.injEq] at ht
    subst ht
    exact ⟨[], by simp [RepL], by simp [T.args], by simp [vbas]⟩
  | t :: ts, Ts, v :: vs, d :: ds, ps, ht, hok, ⟨p, q, h1, h2, _⟩ => by
    simp only [tysAll] at ht
    split at ht
    · rename_i a b ha hb
      simp only [Option.some.injEq] at ht
      subst ht
      obtain ⟨x, e1, e2, e3⟩ := arg_read hB ha (hok 0 t v rfl rfl) h1
      obtain ⟨xs, f1, f2, f3⟩ := args_read hB ts b vs ds q hb (fun j t v h1 h2 => hok (j + 1) t v (by simpa using h1) (by simpa using h2)) h2
      refine ⟨x :: xs, by simp only [RepL]; exact ⟨v, vs, rfl, e1, f1⟩, ⟨x, xs, rfl, e2, f2⟩, ?_⟩
      simp only [vbas, List.map_cons, List.sum_cons]; omega
    · cases ht
  | [], _, _ :: _, _, _, _, _, h => by simp [DataW.TrodAll] at h
  | [], _, [], _ :: _, _, _, _, h => by simp [DataW.TrodAll] at h
  | _ :: _, _, [], _, _, _, _, h => by simp [DataW.TrodAll] at h
  | _ :: _, _, _ :: _, [], _, _, _, h => by simp [DataW.TrodAll] at h

theorem trodAll_stays (hl : laidOutB P = true) {W' : World} {sp' : Nat → Bool} : ∀ {ts : List TypeId} {vs : List Value} {ds : List (DataW H)} {ps : List MemPlace}, (ts.all fun t => P.readableRec t && decide (t < P.types.size)) = true →
    DataW.TrodAll enc P W 0 (fun _ => true) true ts vs ds ps → (∀ p ∈ ps, W.sameAt W' p) → (∀ p ∈ ps, sp' p.block = true) → DataW.TrodAll enc P W' 0 sp' true ts vs ds ps
  | [], [], [], _, _, h, _, _ => h
  | _ :: _, _ :: _, _ :: _, _, hr, ⟨p, q, h1, h2, e⟩, hs, hp => by
    simp only [List.all_cons, Bool.and_eq_true, decide_eq_true_eq] at hr
    exact ⟨p, q, WideElems.Trod_stays hl hr.1.1 hr.1.2 h1 (fun x hx => hs x (by rw [e]; exact List.mem_append_left _ hx)) (fun x hx => hp x (by rw [e]; exact List.mem_append_left _ hx)),
      trodAll_stays hl (by simpa using hr.2) h2 (fun x hx => hs x (by rw [e]; exact List.mem_append_right _ hx)) (fun x hx => hp x (by rw [e]; exact List.mem_append_right _ hx)), e⟩

/-- A law's contract, from V-logic: whatever the arguments of the types' shapes, it tells true. -/
theorem law_calls (hB : Bulk B) {f : Func} {fid : FuncId} {s : ChangeSpec} {W : World} {base n : Nat} {args : Array Value} {ds gs : List (DataW H)} {before : List MemPlace} {Ts : List T} {tb : TypeId}
    (hlo : laidOutB P = true) (hts : tysAll P n f.params.toList = some Ts) (hrd : (f.params.toList.all fun t => P.readableRec t && decide (t < P.types.size)) = true) (hvars : s.vars = []) (hres : f.resultTypes = #[tb]) (hb : P.underlying tb = some .bool)
    (hspec : ∀ ds : List (DataW H), ds.length = f.params.size → s.fn H ds = { results := [.lit (.bool true)], args := ds })
    (hval : ∀ (j : Nat) t v, f.params[j]? = some t → args[j]? = some v → Value.okWide P W .any base t v)
    (hW : DataW.Whole enc P f.params.toList s.vars false W args.toList ds gs before)
    (hc : ∀ xs, T.args Ts xs → vbas xs ≤ ((ds ++ gs).map B).sum → CallA P fid xs ⟨[], []⟩ fun v _ => v = .bool true) :
    Calls P fid args W fun e W' => ∃ v, e = .returned v ∧ s.post enc P f false true false false W args v W' := by
  have hW' := hW
  obtain ⟨p, q, hA, hV, rfl, hfz, hnd⟩ := hW
  rw [hvars] at hV
  obtain ⟨rfl, rfl⟩ := trodVars_none hV
  rw [List.append_nil] at hc
  have hlen : ∀ {ts : List TypeId} {vs : List Value} {ds : List (DataW H)} {ps : List MemPlace}, DataW.TrodAll enc P W 0 (fun _ => true) true ts vs ds ps → ds.length = ts.length := by
    intro ts
    induction ts with
    | nil => intro vs ds ps h; cases vs <;> cases ds <;> simp_all [DataW.TrodAll]
    | cons t ts ih =>
      intro vs ds ps h
      cases vs <;> cases ds <;> simp only [DataW.TrodAll] at h
      obtain ⟨_, _, _, h2, _⟩ := h
      simp [ih h2]
  have hs := hspec ds (by rw [hlen hA]; simp)
  obtain ⟨xs, k1, k2, k3⟩ := args_read hB f.params.toList Ts args.toList ds p hts (fun j t v h1 h2 => hval j t v (by simpa using h1) (by simpa using h2)) hA
  refine (entry (hc xs k2 k3) k1).mono fun e W' ⟨v, x, σ, γ, he, hk, hi, hx, hxv⟩ => ?_
  subst he hxv
  simp only [Rep] at hx
  subst hx
  simp only [List.append_nil] at hW'
  refine ⟨_, rfl, post_of_old (pa := p) (pv := []) (gs := []) (ds := ds) (before := p) (by simpa using hW') ?_ ?_ ?_ (by simp) hk (ok_one hres rfl (okWide_bool_mk hb _))⟩
  · intro b sp hd
    rw [List.append_nil, hs, hres]
    exact (trodAll_cons_mk (shut_bool hb _) trodAll_mk0)
  · intro sp hsp
    rw [List.append_nil, hs]
    exact trodAll_stays hlo hrd hA (fun x hx => hk.same (hW'.lt x (by simpa using hx))) hsp
  · intro sp _
    rw [List.append_nil, hs, hvars]
    rfl
end
end Go.VL
namespace Go.VL
open Go

/-- A slice whose elements are one cell. -/
theorem has_sl {s : Nat} {e : T} {x : V} (h : (T.sl s e).arg x) : ∃ es, (x = .sl true .pub 0 [] ∧ es = [] ∨ x = .sl false .pub s es) ∧ (∀ y ∈ es, e.has y) ∧ vbe es + 1 = vba x := by
  rcases h with h | ⟨es, h, h2⟩
  · simp only [List.cons.injEq, and_true] at h
    subst h
    exact ⟨[], .inl ⟨rfl, rfl⟩, by simp, by simp [vba, vb, vbe]⟩
  · simp only [List.cons.injEq, and_true] at h
    subst h
    exact ⟨es, .inr rfl, h2, by simp [vba, vb]⟩
theorem arg_rd {s : Nat} {e : T} {x : V} (h : (T.sl s e).arg x) : ∃ es, RdS ⟨[], []⟩ x s es ∧ (∀ y ∈ es, e.has y) ∧ vbe es < vba x := by
  obtain ⟨es, h1, h2, h3⟩ := has_sl h
  refine ⟨es, ?_, h2, by omega⟩
  rcases h1 with ⟨rfl, rfl⟩ | rfl
  · exact ⟨true, .pub, 0, rfl, by simp, .inl rfl⟩
  · exact ⟨false, .pub, s, rfl, by simp, .inr ⟨trivial, rfl⟩⟩
theorem bytes_of : ∀ {es : List (List V)}, (∀ y ∈ es, (T.int .u8).has y) → ∃ bs, es = bytesV bs ∧ bs.length ≤ vbe es
  | [], _ => ⟨[], rfl, by simp⟩
  | y :: es, h => by
    obtain ⟨bs, rfl, h2⟩ := bytes_of (es := es) fun y hy => h y (by simp [hy])
    obtain ⟨n, rfl, hw⟩ := h y (by simp)
    have hr : 0 ≤ n ∧ n ≤ 255 := by
      have : 0 ≤ n ∧ n ≤ 255 := by simpa [Lit.wf, IntKind.min, IntKind.max, IntKind.signed, IntKind.bits] using hw
      exact this
    refine ⟨UInt8.ofNat n.toNat :: bs, ?_, by simp only [List.length_cons, vbe, vbs, vb]; omega⟩
    have := byte1 n hr
    simp only [bytesV, List.map_cons, List.map_nil, List.cons.injEq, and_true] at this ⊢
    exact this
theorem ints_of : ∀ {es : List (List V)}, (∀ y ∈ es, (T.int .i64).has y) → ∃ ns : List Int, es = intsV .i64 ns ∧ ns.length ≤ vbe es ∧ ∀ n ∈ ns, -9223372036854775808 ≤ n ∧ n < 9223372036854775808
  | [], _ => ⟨[], rfl, by simp, by simp⟩
  | y :: es, h => by
    obtain ⟨bs, rfl, h2, h3⟩ := ints_of (es := es) fun y hy => h y (by simp [hy])
    obtain ⟨n, rfl, hw⟩ := h y (by simp)
    have hr : -9223372036854775808 ≤ n ∧ n ≤ 9223372036854775807 := by
      simpa [Lit.wf, IntKind.min, IntKind.max, IntKind.signed, IntKind.bits] using hw
    refine ⟨n :: bs, rfl, by simp only [List.length_cons, vbe, vbs, vb]; omega, fun m hm => ?_⟩
    rcases List.mem_cons.1 hm with rfl | hm
    · omega
    · exact h3 m hm
theorem strs_of : ∀ {es : List (List V)}, (∀ y ∈ es, T.str.has y) → ∃ ss : List (List UInt8), es = (ss.map fun s => [V.str s]) ∧ (ss.map fun s => s.length + 1).sum ≤ vbe es
  | [], _ => ⟨[], rfl, by simp⟩
  | y :: es, h => by
    obtain ⟨bs, rfl, h2⟩ := strs_of (es := es) fun y hy => h y (by simp [hy])
    obtain ⟨s, rfl⟩ := h y (by simp)
    exact ⟨s :: bs, rfl, by simp only [List.map_cons, List.sum_cons, vbe, vbs, vb]; omega⟩
theorem arg_bytes {x : V} (h : (T.sl 1 (.int .u8)).arg x) : ∃ bs, RdS ⟨[], []⟩ x 1 (bytesV bs) ∧ bs.length < vba x := by
  obtain ⟨es, h1, h2, h3⟩ := arg_rd h
  obtain ⟨bs, rfl, h4⟩ := bytes_of h2
  exact ⟨bs, h1, by omega⟩
theorem arg_int {x : V} (h : (T.int .i64).arg x) : ∃ n, x = .int .i64 n ∧ -9223372036854775808 ≤ n ∧ n < 9223372036854775808 := by
  obtain ⟨n, h1, hw⟩ := h
  simp only [List.cons.injEq, and_true] at h1
  have hr : -9223372036854775808 ≤ n ∧ n ≤ 9223372036854775807 := by
    simpa [Lit.wf, IntKind.min, IntKind.max, IntKind.signed, IntKind.bits] using hw
  exact ⟨n, h1, by omega, by omega⟩
end Go.VL
namespace Go.VL
open Go
theorem arg_ints' {x : V} (h : (T.sl 1 (.int .i64)).arg x) : ∃ ns : List Int, RdS ⟨[], []⟩ x 1 (intsV .i64 ns) ∧ ns.length < vba x ∧ ∀ n ∈ ns, -9223372036854775808 ≤ n ∧ n < 9223372036854775808 := by
  obtain ⟨es, h1, h2, h3⟩ := arg_rd h
  obtain ⟨ns, rfl, h4, h5⟩ := ints_of h2
  exact ⟨ns, h1, by omega, h5⟩
theorem arg_strs' {x : V} (h : (T.sl 1 .str).arg x) : ∃ ss : List (List UInt8), RdS ⟨[], []⟩ x 1 (ss.map fun s => [V.str s]) ∧ (ss.map fun s => s.length + 1).sum < vba x := by
  obtain ⟨es, h1, h2, h3⟩ := arg_rd h
  obtain ⟨ss, rfl, h4⟩ := strs_of h2
  exact ⟨ss, h1, by omega⟩
end Go.VL

namespace Go.VL.lww
open Go Go.VL Go.Proofs Go.IntWalk

def zeroR : Rg := ⟨0, 0, [], 0, 0, [], false⟩
def getR (l : List Rg) (r : Rg) : Rg := (l.find? (sameK r)).getD zeroR

section
variable {σ : St} {r : Rg} {i m : Nat} {l : List Rg}
theorem ext_cell {σ : St} (x : AObj) (cs : List V) : Ext σ ((St.mk (σ.objs ++ [x]) σ.live).setC σ.objs.length cs) := by
  refine ⟨fun j o hj => ?_, fun _ h => h, ?_, Nat.le_refl _⟩
  · have := (List.getElem?_eq_some_iff.1 hj).1
    show ((σ.objs ++ [x]).set _ _)[j]? = _
    rw [List.getElem?_set_ne (by omega), List.getElem?_append_left this]
    exact hj
  · show _ ≤ ((σ.objs ++ [x]).set _ _).length
    simp
theorem IsRegs.ext {σ σ' : St} (h : IsRegs σ i m l) (he : Ext σ σ') : IsRegs σ' i m l := by
  obtain ⟨ver, h1, h2⟩ := h
  exact ⟨ver, he.objs _ _ h1, he.objs _ _ h2⟩

set_option maxRecDepth 100000 in
set_option maxHeartbeats 1600000 in
theorem get_ok (h : IsRegs σ i m l) : CallA Try.prog 17 [.ptr (some (i, 0)), stV r.nc r.nr, .str r.name] σ fun v σ' => v = .tup [regV (getR l r), .bool (l.find? (sameK r)).isSome] ∧ Ext σ σ' ∧ σ'.live = σ.live := by
  obtain ⟨ver, h1, h2⟩ := h
  refine fn_at Try.func17 (by decide) comp17 rfl fun Q q1 q2 => ?_
  have hk : keyFits [.agg, .int .i64, .int .i64, .str] (.agg [.int .i64 r.nc, .int .i64 r.nr, .str r.name]) = true := rfl
  have hf : find (.agg [.int .i64 r.nc, .int .i64 r.nr, .str r.name]) (ents l) = (l.find? (sameK r)).map regV := find_ents r l
  have hlast : ∀ x, (σ.objs ++ [x])[σ.objs.length]? = some x := fun x => by simp
  have h2' : σ.objs[m]? = some (.mp [.agg, .int .i64, .int .i64, .str] (ents l) ver) := h2
  have ol : ∀ x cs, ((St.mk (σ.objs ++ [x]) σ.live).setC σ.objs.length cs).objs[σ.objs.length]? = some (.cells cs) := by
    intro x cs
    show ((σ.objs ++ [x]).set _ _)[_]? = _
    simp
  unfold getR at q2
  cases hfi : l.find? (sameK r) with
  | none =>
    rw [hfi] at hf q2
    simp only [Option.map_none] at hf
    simp -implicitDefEqProofs only [go_sem, Nat.reduceBEq, Nat.reduceAdd, eq_self, true_and, and_self, List.getElem?_cons_zero, List.getElem?_cons_succ, Nat.reduceLeDiff, Nat.zero_add, Nat.reduceSub, Nat.le_refl, c17, stV, h1, h2', hk, hf, hlast, ol]
    refine q2 _ _ ?_
    simp -implicitDefEqProofs only [go_sem, Nat.reduceBEq, Nat.reduceAdd, eq_self, true_and, and_self, List.getElem?_cons_zero, List.getElem?_cons_succ, Nat.reduceLeDiff, Nat.zero_add, Nat.reduceSub, Nat.le_refl, Option.getD_none, regV, regC, zeroR]
    exact ⟨rfl, ext_cell _ _, rfl⟩
  | some w =>
    rw [hfi] at hf q2
    simp only [Option.map_some] at hf
    simp -implicitDefEqProofs only [go_sem, Nat.reduceBEq, Nat.reduceAdd, eq_self, true_and, and_self, List.getElem?_cons_zero, List.getElem?_cons_succ, Nat.reduceLeDiff, Nat.zero_add, Nat.reduceSub, Nat.le_refl, c17, stV, h1, h2', hk, hf, hlast, ol, regV, regC]
    refine q2 _ _ ?_
    simp -implicitDefEqProofs only [go_sem, Nat.reduceBEq, Nat.reduceAdd, eq_self, true_and, and_self, List.getElem?_cons_zero, List.getElem?_cons_succ, Nat.reduceLeDiff, Nat.zero_add, Nat.reduceSub, Nat.le_refl, Option.getD_some, regV, regC]
    exact ⟨rfl, ext_cell _ _, rfl⟩

set_option maxRecDepth 100000 in
theorem value_ok (h : IsRegs σ i m l) : CallA Try.prog 24 [.ptr (some (i, 0)), stV r.nc r.nr, .str r.name] σ fun v σ' => v = .str (getR l r).val ∧ Ext σ σ' ∧ σ'.live = σ.live := by
  refine fn_at Try.func24 (by decide) comp24 rfl fun Q q1 q2 => ?_
  simp -implicitDefEqProofs only [go_sem, Nat.reduceBEq, Nat.reduceAdd, eq_self, true_and, and_self, List.getElem?_cons_zero, List.getElem?_cons_succ, Nat.reduceLeDiff, Nat.zero_add, Nat.reduceSub, Nat.le_refl, c24, stV]
  refine call_at (get_ok (r := r) h) ?_
  rintro v τ ⟨rfl, h1, h2⟩
  refine ⟨kept_none, ?_⟩
  simp -implicitDefEqProofs only [go_sem, Nat.reduceBEq, Nat.reduceAdd, eq_self, true_and, and_self, List.getElem?_cons_zero, List.getElem?_cons_succ, Nat.reduceLeDiff, Nat.zero_add, Nat.reduceSub, Nat.le_refl, regV, regC]
  refine q2 _ _ ?_
  simp -implicitDefEqProofs only [go_sem, Nat.reduceBEq, Nat.reduceAdd, eq_self, true_and, and_self, List.getElem?_cons_zero, List.getElem?_cons_succ, Nat.reduceLeDiff, Nat.zero_add, Nat.reduceSub, Nat.le_refl, h1, h2]

def awR : Rg := ⟨1, 0, [99, 108, 97, 115, 115], 3, 0, [97], false⟩
set_option maxRecDepth 100000 in
theorem awake_ok : CallA Try.prog 15 [] σ fun v σ' => v = .bool true ∧ Ext σ σ' := by
  refine fn_at Try.func15 (by decide) comp15 rfl fun Q q1 q2 => ?_
  simp -implicitDefEqProofs only [go_sem, Nat.reduceBEq, Nat.reduceAdd, eq_self, true_and, and_self, List.getElem?_cons_zero, List.getElem?_cons_succ, Nat.reduceLeDiff, Nat.zero_add, Nat.reduceSub, Nat.le_refl, c15]
  refine call_at new_ok ?_
  rintro v σ1 ⟨rfl, hr, he, hl⟩
  refine ⟨kept_none, ?_⟩
  simp -implicitDefEqProofs only [go_sem, Nat.reduceBEq, Nat.reduceAdd, eq_self, true_and, and_self, List.getElem?_cons_zero, List.getElem?_cons_succ, Nat.reduceLeDiff, Nat.zero_add, Nat.reduceSub, Nat.le_refl, hr]
  refine call_at (put_ok (r := awR) hr (by decide)) ?_
  rintro v σ2 ⟨rfl, hr2, hl2, he2⟩
  refine ⟨kept_none, ?_⟩
  have hx := he2 σ he (Nat.le_refl _)
  have hp : putR [] awR = [awR] := by
    unfold putR
    rw [show decide (chk awR = 0) = true from by decide]; rfl
  rw [hp] at hr2
  have hc : decide (chk awR = 0) = true := by decide
  simp -implicitDefEqProofs only [go_sem, Nat.reduceBEq, Nat.reduceAdd, eq_self, true_and, and_self, List.getElem?_cons_zero, List.getElem?_cons_succ, Nat.reduceLeDiff, Nat.zero_add, Nat.reduceSub, Nat.le_refl, hc]
  refine call_at (value_ok (r := awR) hr2) ?_
  rintro v σ3 ⟨rfl, he3, hl3⟩
  refine ⟨kept_none, ?_⟩
  have hv : decide ((getR [awR] awR).val = [97]) = true := by decide
  simp -implicitDefEqProofs only [go_sem, Nat.reduceBEq, Nat.reduceAdd, eq_self, true_and, and_self, List.getElem?_cons_zero, List.getElem?_cons_succ, Nat.reduceLeDiff, Nat.zero_add, Nat.reduceSub, Nat.le_refl, hv]
  refine call_at (check_ok (r := zeroR) (by decide)) ?_
  rintro v σ4 ⟨rfl, rfl⟩
  refine ⟨kept_none, ?_⟩
  have hz : decide (chk zeroR = 2) = true := by decide
  simp -implicitDefEqProofs only [go_sem, Nat.reduceBEq, Nat.reduceAdd, eq_self, true_and, and_self, List.getElem?_cons_zero, List.getElem?_cons_succ, Nat.reduceLeDiff, Nat.zero_add, Nat.reduceSub, Nat.le_refl, hz]
  refine q2 _ _ ?_
  simp -implicitDefEqProofs only [go_sem, Nat.reduceBEq, Nat.reduceAdd]
  exact ⟨trivial, hx.trans he3⟩

set_option maxRecDepth 100000 in
set_option maxHeartbeats 1600000 in
/-- LwwChecks. -/
theorem checks_ok {a b : Rg} (ha : a.name.length < 4611686018427387904) : CallA Try.prog 3 [regV a, regV b] σ fun v _ => v = .bool true := by
  refine fn_at Try.func3 (by decide) comp3 rfl fun Q q1 q2 => ?_
  simp -implicitDefEqProofs only [go_sem, Nat.reduceBEq, Nat.reduceAdd, eq_self, true_and, and_self, List.getElem?_cons_zero, List.getElem?_cons_succ, Nat.reduceLeDiff, Nat.zero_add, Nat.reduceSub, Nat.le_refl, c3, regV, regC]
  refine call_at (check_ok (r := a) ha) ?_
  rintro v τ ⟨rfl, rfl⟩
  refine ⟨(Ext.refl _).kept, ?_⟩
  simp -implicitDefEqProofs only [go_sem, Nat.reduceBEq, Nat.reduceAdd, eq_self, true_and, and_self, List.getElem?_cons_zero, List.getElem?_cons_succ, Nat.reduceLeDiff, Nat.zero_add, Nat.reduceSub, Nat.le_refl, Nat.lt_irrefl]
  refine call_at (rcheck_ok (r := a) ha) ?_
  rintro v τ ⟨rfl, rfl⟩
  refine ⟨(Ext.refl _).kept, ?_⟩
  have d1 : decide (chk a = chk a) = true := by simp
  simp -implicitDefEqProofs only [go_sem, Nat.reduceBEq, Nat.reduceAdd, eq_self, true_and, and_self, List.getElem?_cons_zero, List.getElem?_cons_succ, Nat.reduceLeDiff, Nat.zero_add, Nat.reduceSub, Nat.le_refl, d1]
  refine call_at (wins_ok (a := a) (b := b)) ?_
  rintro v τ ⟨rfl, rfl⟩
  refine ⟨(Ext.refl _).kept, ?_⟩
  simp -implicitDefEqProofs only [go_sem, Nat.reduceBEq, Nat.reduceAdd, eq_self, true_and, and_self, List.getElem?_cons_zero, List.getElem?_cons_succ, Nat.reduceLeDiff, Nat.zero_add, Nat.reduceSub, Nat.le_refl, Nat.lt_irrefl]
  refine call_at (rwins_ok (a := a) (b := b)) ?_
  rintro v τ ⟨rfl, rfl⟩
  refine ⟨(Ext.refl _).kept, ?_⟩
  have d2 : (wins a b == wins a b) = true := by simp
  simp -implicitDefEqProofs only [go_sem, Nat.reduceBEq, Nat.reduceAdd, eq_self, true_and, and_self, List.getElem?_cons_zero, List.getElem?_cons_succ, Nat.reduceLeDiff, Nat.zero_add, Nat.reduceSub, Nat.le_refl, d2]
  refine call_at (wins_ok (a := a) (b := a)) ?_
  rintro v τ ⟨rfl, rfl⟩
  refine ⟨(Ext.refl _).kept, ?_⟩
  have d3 : wins a a = false := wins_self a
  simp -implicitDefEqProofs only [go_sem, Nat.reduceBEq, Nat.reduceAdd, eq_self, true_and, and_self, List.getElem?_cons_zero, List.getElem?_cons_succ, Nat.reduceLeDiff, Nat.zero_add, Nat.reduceSub, Nat.le_refl, d3]
  refine call_at (wins_ok (a := a) (b := b)) ?_
  rintro v τ ⟨rfl, rfl⟩
  refine ⟨(Ext.refl _).kept, ?_⟩
  cases hw : wins a b
  case' true =>
    simp -implicitDefEqProofs only [go_sem, Nat.reduceBEq, Nat.reduceAdd, eq_self, true_and, and_self, List.getElem?_cons_zero, List.getElem?_cons_succ, Nat.reduceLeDiff, Nat.zero_add, Nat.reduceSub, Nat.le_refl, hw]
    refine call_at (wins_ok (a := b) (b := a)) ?_
    rintro v τ ⟨rfl, rfl⟩
    refine ⟨(Ext.refl _).kept, ?_⟩
    have d4 : wins b a = false := wins_asym hw
    simp -implicitDefEqProofs only [go_sem, Nat.reduceBEq, Nat.reduceAdd, eq_self, true_and, and_self, List.getElem?_cons_zero, List.getElem?_cons_succ, Nat.reduceLeDiff, Nat.zero_add, Nat.reduceSub, Nat.le_refl, d4]
  case' false =>
    simp -implicitDefEqProofs only [go_sem, Nat.reduceBEq, Nat.reduceAdd, eq_self, true_and, and_self, List.getElem?_cons_zero, List.getElem?_cons_succ, Nat.reduceLeDiff, Nat.zero_add, Nat.reduceSub, Nat.le_refl, hw]
  all_goals
    refine call_at awake_ok ?_
    rintro v τ ⟨rfl, he⟩
    refine ⟨he.kept, ?_⟩
    simp -implicitDefEqProofs only [go_sem, Nat.reduceBEq, Nat.reduceAdd]
    refine q2 _ _ ?_
    simp -implicitDefEqProofs only [go_sem, Nat.reduceBEq, Nat.reduceAdd]
end
end Go.VL.lww
namespace Go.VL.lww
open Go Go.VL
def RgT : List T := [.agg [.int .i64, .int .i64], .str, .agg [.int .i64, .int .i64], .str, .bool]
theorem has_reg {xs : List V} (h : T.hasL RgT xs) : ∃ r : Rg, xs = regC r ∧ r.name.length + r.val.length < vbs xs := by
  obtain ⟨_, _, rfl, ⟨_, _, rfl, ⟨nc, rfl, _⟩, _, _, rfl, ⟨nr, rfl, _⟩, rfl⟩, _, _, rfl, ⟨name, rfl⟩, _, _, rfl, ⟨_, _, rfl, ⟨ac, rfl, _⟩, _, _, rfl, ⟨ar, rfl, _⟩, rfl⟩, _, _, rfl, ⟨val, rfl⟩, _, _, rfl, ⟨gone, rfl⟩, rfl⟩ := h
  refine ⟨⟨nc, nr, name, ac, ar, val, gone⟩, rfl, ?_⟩
  simp only [List.cons_append, List.nil_append, List.append_nil, vbs, vb]
  omega
end Go.VL.lww

namespace Go.VL.lww
open Go Go.VL Go.Proofs Go.IntWalk

def regsV (l : List Rg) : List (List V) := l.map regC
theorem regsV_get {l : List Rg} {i : Nat} (h : i < l.length) : (regsV l)[((i : Nat) : Int).toNat]?.getD [] = regC l[i] := by simp [regsV, h]
theorem regsV_length (l : List Rg) : (regsV l).length = l.length := by simp [regsV]
theorem regsV_append (a b : List Rg) : regsV a ++ regsV b = regsV (a ++ b) := by simp [regsV]
theorem regsV_one (r : Rg) : [regC r] = regsV [r] := rfl

/-- A pass over what was there: what came out, was it done. -/
def passR (r : Rg) : List Rg → Bool → List Rg × Bool
  | [], d => ([], d)
  | x :: l, d =>
    bif sameK x r && wins r x then (r :: (passR r l true).1, (passR r l true).2)
    else bif !(d || sameK x r) && ahead r x then (r :: x :: (passR r l true).1, (passR r l true).2)
    else (x :: (passR r l (d || sameK x r)).1, (passR r l (d || sameK x r)).2)
/-- The answer's Put. -/
def rputR (l : List Rg) (r : Rg) : List Rg :=
  bif decide (chk r = 0) then (bif (passR r l false).2 then (passR r l false).1 else (passR r l false).1 ++ [r]) else l

theorem passR_append (r : Rg) (x : Rg) : ∀ (l : List Rg) (d : Bool), passR r (l ++ [x]) d = ((passR r l d).1 ++ (passR r [x] (passR r l d).2).1, (passR r [x] (passR r l d).2).2)
  | [], d => by simp [passR]
  | y :: l, d => by
    have ih := fun d => passR_append r x l d
    rw [List.cons_append, passR.eq_def r (y :: l) d, passR.eq_def r (y :: (l ++ [x])) d]
    simp only [ih]
    cases (sameK y r && wins r y) <;> cases (!(d || sameK y r) && ahead r y) <;> rfl
theorem passR_length' (r : Rg) : ∀ (l : List Rg) (d : Bool), (passR r l d).1.length ≤ l.length + (bif d then 0 else 1)
  | [], d => by simp [passR]
  | y :: l, d => by
    have h1 := passR_length' r l true
    have h2 := passR_length' r l (d || sameK y r)
    rw [passR]
    cases h3 : (sameK y r && wins r y) <;> cases h4 : (!(d || sameK y r) && ahead r y)
    · simp only [cond_false, List.length_cons]
      cases d <;> cases hs : sameK y r <;> simp [hs] at h2 ⊢ <;> omega
    · cases d
      · simp at h1; simp only [cond_true, cond_false, List.length_cons]; omega
      · simp at h4
    · simp at h1; simp only [cond_true, List.length_cons]; cases d <;> simp <;> omega
    · simp at h1; simp only [cond_true, List.length_cons]; cases d <;> simp <;> omega
theorem passR_length (r : Rg) (l : List Rg) (d : Bool) : (passR r l d).1.length ≤ l.length + 1 := by
  have := passR_length' r l d
  cases d <;> simp at this <;> omega
theorem rputR_length (r : Rg) (l : List Rg) : (rputR l r).length ≤ l.length + 2 := by
  have := passR_length r l false
  unfold rputR
  cases decide (chk r = 0)
  · simp only [cond_false]; omega
  · cases (passR r l false).2 <;> simp only [cond_true, cond_false, List.length_append, List.length_cons, List.length_nil] <;> omega

section
variable {σ : St} {r : Rg} {l : List Rg} {v : V}
set_option maxRecDepth 100000 in
set_option maxHeartbeats 3200000 in
theorem rput_ok (hv : RdS σ v 7 (regsV l)) (hlen : r.name.length < 4611686018427387904) (hl : l.length ≤ 268435456) :
    CallA Try.prog 19 [v, regV r] σ fun w σ' => (∃ x, w = .tup [x, .int .i64 (bif decide (chk r = 0) then 0 else chk r)] ∧ RdS σ' x 7 (regsV (rputR l r)) ∧ (chk r ≠ 0 → x = v)) ∧ Ext σ σ' ∧ σ'.objs = σ.objs := by
  obtain ⟨b, R, z, rfl, -, -⟩ := id hv
  refine fn_at Try.func19 (by decide) comp19 rfl fun Q q1 q2 => ?_
  simp -implicitDefEqProofs only [go_sem, Nat.reduceBEq, Nat.reduceAdd, eq_self, true_and, and_true, and_self, List.getElem?_cons_zero, List.getElem?_cons_succ, Nat.reduceLeDiff, Nat.zero_add, Nat.reduceSub, Nat.le_refl, c19, regV, regC]
  refine call_at (rcheck_ok hlen) ?_
  rintro v τ ⟨rfl, rfl⟩
  refine ⟨kept_none, ?_⟩
  cases hc : decide (chk r = 0)
  case false =>
    simp -implicitDefEqProofs only [go_sem, Nat.reduceBEq, Nat.reduceAdd, eq_self, true_and, and_true, and_self, List.getElem?_cons_zero, List.getElem?_cons_succ, Nat.reduceLeDiff, Nat.zero_add, Nat.reduceSub, Nat.le_refl, hc]
    refine call_at (rcheck_ok hlen) ?_
    rintro v τ ⟨rfl, rfl⟩
    refine ⟨kept_none, ?_⟩
    simp -implicitDefEqProofs only [go_sem, Nat.reduceBEq, Nat.reduceAdd, eq_self, true_and, and_true, and_self, List.getElem?_cons_zero, List.getElem?_cons_succ, Nat.reduceLeDiff, Nat.zero_add, Nat.reduceSub, Nat.le_refl, Nat.lt_irrefl]
    refine q2 _ _ ?_
    simp -implicitDefEqProofs only [go_sem, Nat.reduceBEq, Nat.reduceAdd, eq_self, true_and, and_true, and_self, List.getElem?_cons_zero, List.getElem?_cons_succ, Nat.reduceLeDiff, Nat.zero_add, Nat.reduceSub, Nat.le_refl, hc]
    refine ⟨⟨_, rfl, ?_, fun _ => rfl⟩, Ext.refl _⟩
    unfold rputR
    rw [hc]
    exact hv
  simp -implicitDefEqProofs only [go_sem, Nat.reduceBEq, Nat.reduceAdd, eq_self, true_and, and_true, and_self, List.getElem?_cons_zero, List.getElem?_cons_succ, Nat.reduceLeDiff, Nat.zero_add, Nat.reduceSub, Nat.le_refl, hc]
  refine loop_at (fun (x : Nat × Nat) => ⟨[(0, .v (.sl b R z (regsV l))), (3, .loc 3 0), (6, .v (.sl false (.own x.2) 7 (regsV (passR r (l.take x.1) false).1))), (7, .v (.bool (passR r (l.take x.1) false).2)), (8, .v (.int .i64 x.1))], [(3, regC r)]⟩)
    (fun x τ' => x.1 ≤ l.length ∧ Ext τ τ' ∧ τ'.objs = τ.objs ∧ τ'.live[x.2]? = some true ∧ τ.live.length ≤ x.2) (fun x => l.length - x.1) (0, τ.live.length) ?_ ?_ ?_
  · exact .inr (by simp [go_sem, passR, regsV, regC])
  · exact ⟨Nat.zero_le _, ext_live τ true, rfl, live_last _ _, Nat.le_refl _⟩
  rintro ⟨i, q⟩ τ' ⟨g1, g2, g3, g4, g5⟩ Z z1 z2 z3
  simp only at g1 g4 g5
  simp -implicitDefEqProofs only [go_sem, Nat.reduceBEq, Nat.reduceAdd]
  refine CondW_b (fun hcc => ?_) (fun hcc => ?_)
  · have hi : i < l.length := by simpa [regsV_length] using hcc
    obtain ⟨k1, k2⟩ := rdl (hv.ext g2) (by cases l <;> simp [regsV] at hi ⊢)
    have hget := regsV_get hi
    have hib : (i : Int) < (regsV l).length := by rw [regsV_length]; omega
    have htk : l.take (i + 1) = l.take i ++ [l[i]] := List.take_succ_eq_append_getElem hi
    have hstep := passR_append r l[i] (l.take i) false
    rw [← htk] at hstep
    have hpl := passR_length r (l.take i) false
    rw [List.length_take] at hpl
    generalize l[i] = x at hget hstep
    generalize passR r (l.take i) false = pr at hstep hpl
    obtain ⟨out, d⟩ := pr
    simp only at hstep hpl
    have hsz : (regsV out).length ≤ l.length + 1 := by rw [regsV_length]; omega
    have hsame : sameK x r = ((decide (x.nc = r.nc) && decide (x.nr = r.nr)) && decide (x.name = r.name)) := by simp [sameK, Bool.and_assoc]
    have hw64 : IntKind.i64.wrap ((i : Int) + 1) = ((i + 1 : Nat) : Int) := by rw [i64_in _ (by omega)]; omega
    have e2 := g2.trans (ext_live τ' true)
    -- what comes behind a round
    have next : ∀ (F : Fr) (q' : Nat) (τ2 : St) (out' : List Rg) (d' : Bool), passR r (l.take (i + 1)) false = (out', d') → FrLe ⟨[(0, .v (.sl b R z (regsV l))), (3, .loc 3 0), (6, .v (.sl false (.own q') 7 (regsV out'))), (7, .v (.bool d')), (8, .v (.int .i64 ((i + 1 : Nat) : Int)))], [(3, regC r)]⟩ F →
        Ext τ τ2 → τ2.objs = τ.objs → τ2.live[q']? = some true → τ.live.length ≤ q' → Z .normal F τ2 := by
      intro F q' τ2 out' d' hp hF h1 h2 h3 h4
      refine z1 (i + 1, q') F τ2 ?_ (by simp only; omega) ⟨by simp only; omega, h1, h2, h3, h4⟩
      simp only [hp]
      exact hF
    simp -implicitDefEqProofs only [go_sem, Nat.reduceBEq, Nat.reduceAdd, eq_self, true_and, and_true, and_self, List.getElem?_cons_zero, List.getElem?_cons_succ, Nat.reduceLeDiff, Nat.zero_add, Nat.reduceSub, Nat.le_refl, Nat.lt_irrefl]
    refine cut_dup ?_
    simp -implicitDefEqProofs only [go_sem, Nat.reduceBEq, Nat.reduceAdd]
    refine cut_dup ?_
    have hlitr : ∀ (τ : St), (⟨τ.objs, τ.live ++ [true]⟩ : St).live[τ.live.length]? = some true := fun τ => by simp
    cases h1 : (decide (x.nc = r.nc) && decide (x.nr = r.nr)) <;> rw [h1] at hsame
    case true =>
      cases h2 : decide (x.name = r.name) <;> rw [h2] at hsame
      case true =>
        simp -implicitDefEqProofs only [go_sem, Nat.reduceBEq, Nat.reduceAdd, eq_self, true_and, and_true, and_self, List.getElem?_cons_zero, List.getElem?_cons_succ, Nat.reduceLeDiff, Nat.zero_add, Nat.reduceSub, Nat.le_refl, hget, regC, V.eqs, V.eq, Bool.and_true, h1, h2]
        repeat refine ⟨⟨by omega, hib, k2⟩, k1, ?_⟩
        refine call_at (rwins_ok (a := r) (b := x)) ?_
        rintro v τ1 ⟨rfl, rfl⟩
        refine ⟨(Ext.refl _).kept, ?_⟩
        cases hw : wins r x
        case true =>
          simp -implicitDefEqProofs only [go_sem, Nat.reduceBEq, Nat.reduceAdd, eq_self, true_and, and_true, and_self, List.getElem?_cons_zero, List.getElem?_cons_succ, Nat.reduceLeDiff, Nat.zero_add, Nat.reduceSub, Nat.le_refl, hw]
          refine ⟨⟨.inr trivial, .inr ((ext_live _ _).live _ g4), ⟨.inr (live_last _ _), .inl trivial⟩, by omega⟩, ?_⟩
          have hp : passR r (l.take (i + 1)) false = (out ++ [r], true) := by
            rw [hstep]; simp only [passR, hsame, hw, Bool.and_self, Bool.true_and, cond_true]
          refine next _ _ _ _ _ hp (.inr ?_) (ext_kill (ext_push g2) g5) g3 (live_last' _ _ _) (by have := g2.llen; simp only [List.length_append, List.length_cons, List.length_nil]; omega)
          simp -implicitDefEqProofs only [go_sem, Nat.reduceBEq, Nat.reduceAdd, eq_self, true_and, and_true, and_self, List.getElem?_cons_zero, List.getElem?_cons_succ, Nat.reduceLeDiff, Nat.zero_add, Nat.reduceSub, Nat.le_refl, hw64, regC, regsV, List.map_append, List.map_cons, List.map_nil]
        case false =>
          simp -implicitDefEqProofs only [go_sem, Nat.reduceBEq, Nat.reduceAdd, eq_self, true_and, and_true, and_self, List.getElem?_cons_zero, List.getElem?_cons_succ, Nat.reduceLeDiff, Nat.zero_add, Nat.reduceSub, Nat.le_refl, hw]
          refine cut_dup ?_
          have hp : passR r (l.take (i + 1)) false = (out ++ [x], true) := by
            rw [hstep]; simp only [passR, hsame, hw, Bool.and_self, Bool.true_and, Bool.and_false, cond_false, Bool.or_true, Bool.not_true, Bool.false_and]
          simp -implicitDefEqProofs only [go_sem, Nat.reduceBEq, Nat.reduceAdd, eq_self, true_and, and_true, and_self, List.getElem?_cons_zero, List.getElem?_cons_succ, Nat.reduceLeDiff, Nat.zero_add, Nat.reduceSub, Nat.le_refl, hget, regC]
          repeat refine ⟨⟨by omega, hib, k2⟩, k1, ?_⟩
          refine ⟨⟨.inr trivial, .inr ((ext_live _ _).live _ g4), ⟨.inr (live_last _ _), .inl trivial⟩, by first | omega | (simp only [List.length_append, List.length_cons, List.length_nil]; omega)⟩, ?_⟩
          refine next _ _ _ _ _ hp (.inr ?_) (ext_kill (ext_push g2) g5) g3 (live_last' _ _ _) (by have := g2.llen; simp only [List.length_append, List.length_cons, List.length_nil]; omega)
          simp -implicitDefEqProofs only [go_sem, Nat.reduceBEq, Nat.reduceAdd, eq_self, true_and, and_true, and_self, List.getElem?_cons_zero, List.getElem?_cons_succ, Nat.reduceLeDiff, Nat.zero_add, Nat.reduceSub, Nat.le_refl, hw64, regC, regsV, List.map_append, List.map_cons, List.map_nil, List.append_assoc, List.cons_append, List.nil_append]
      case false =>
        simp -implicitDefEqProofs only [go_sem, Nat.reduceBEq, Nat.reduceAdd, eq_self, true_and, and_true, and_self, List.getElem?_cons_zero, List.getElem?_cons_succ, Nat.reduceLeDiff, Nat.zero_add, Nat.reduceSub, Nat.le_refl, hget, regC, V.eqs, V.eq, h1, h2]
        repeat refine ⟨⟨by omega, hib, k2⟩, k1, ?_⟩
        refine cut_dup ?_
        cases d
        case true =>
          have hp : passR r (l.take (i + 1)) false = (out ++ [x], true) := by
            rw [hstep]; simp only [passR, hsame, Bool.and_false, Bool.false_and, Bool.true_and, cond_false, Bool.true_or, Bool.not_true]
          simp -implicitDefEqProofs only [go_sem, Nat.reduceBEq, Nat.reduceAdd, eq_self, true_and, and_true, and_self, List.getElem?_cons_zero, List.getElem?_cons_succ, Nat.reduceLeDiff, Nat.zero_add, Nat.reduceSub, Nat.le_refl, hget, regC]
          repeat refine ⟨⟨by omega, hib, k2⟩, k1, ?_⟩
          refine ⟨⟨.inr trivial, .inr ((ext_live _ _).live _ g4), ⟨.inr (live_last _ _), .inl trivial⟩, by first | omega | (simp only [List.length_append, List.length_cons, List.length_nil]; omega)⟩, ?_⟩
          refine next _ _ _ _ _ hp (.inr ?_) (ext_kill (ext_push g2) g5) g3 (live_last' _ _ _) (by have := g2.llen; simp only [List.length_append, List.length_cons, List.length_nil]; omega)
          simp -implicitDefEqProofs only [go_sem, Nat.reduceBEq, Nat.reduceAdd, eq_self, true_and, and_true, and_self, List.getElem?_cons_zero, List.getElem?_cons_succ, Nat.reduceLeDiff, Nat.zero_add, Nat.reduceSub, Nat.le_refl, hw64, regC, regsV, List.map_append, List.map_cons, List.map_nil, List.append_assoc, List.cons_append, List.nil_append]
        case false =>
          simp -implicitDefEqProofs only [go_sem, Nat.reduceBEq, Nat.reduceAdd, eq_self, true_and, and_true, and_self, List.getElem?_cons_zero, List.getElem?_cons_succ, Nat.reduceLeDiff, Nat.zero_add, Nat.reduceSub, Nat.le_refl, hget, regC]
          repeat refine ⟨⟨by omega, hib, k2⟩, k1, ?_⟩
          refine call_at (ahead_ok (a := r) (b := x)) ?_
          rintro v τ1 ⟨rfl, rfl⟩
          refine ⟨(Ext.refl _).kept, ?_⟩
          cases hh : ahead r x
          case false =>
            have hp : passR r (l.take (i + 1)) false = (out ++ [x], false) := by
              rw [hstep]; simp only [passR, hsame, hh, Bool.and_false, Bool.false_and, cond_false, Bool.or_false, Bool.or_self, Bool.not_false, Bool.and_self, Bool.true_and]
            simp -implicitDefEqProofs only [go_sem, Nat.reduceBEq, Nat.reduceAdd, eq_self, true_and, and_true, and_self, List.getElem?_cons_zero, List.getElem?_cons_succ, Nat.reduceLeDiff, Nat.zero_add, Nat.reduceSub, Nat.le_refl, hh, hget, regC]
            repeat refine ⟨⟨by omega, hib, k2⟩, k1, ?_⟩
            refine ⟨⟨.inr trivial, .inr ((ext_live _ _).live _ g4), ⟨.inr (live_last _ _), .inl trivial⟩, by first | omega | (simp only [List.length_append, List.length_cons, List.length_nil]; omega)⟩, ?_⟩
            refine next _ _ _ _ _ hp (.inr ?_) (ext_kill (ext_push g2) g5) g3 (live_last' _ _ _) (by have := g2.llen; simp only [List.length_append, List.length_cons, List.length_nil]; omega)
            simp -implicitDefEqProofs only [go_sem, Nat.reduceBEq, Nat.reduceAdd, eq_self, true_and, and_true, and_self, List.getElem?_cons_zero, List.getElem?_cons_succ, Nat.reduceLeDiff, Nat.zero_add, Nat.reduceSub, Nat.le_refl, hw64, regC, regsV, List.map_append, List.map_cons, List.map_nil, List.append_assoc, List.cons_append, List.nil_append]
          case true =>
            have hp : passR r (l.take (i + 1)) false = (out ++ [r, x], true) := by
              rw [hstep]; simp only [passR, hsame, hh, Bool.and_false, Bool.false_and, cond_false, cond_true, Bool.or_false, Bool.or_self, Bool.not_false, Bool.and_self, Bool.true_and]
            simp -implicitDefEqProofs only [go_sem, Nat.reduceBEq, Nat.reduceAdd, eq_self, true_and, and_true, and_self, List.getElem?_cons_zero, List.getElem?_cons_succ, Nat.reduceLeDiff, Nat.zero_add, Nat.reduceSub, Nat.le_refl, hh, hget, regC]
            refine ⟨⟨.inr trivial, .inr ((ext_live _ _).live _ g4), ⟨.inr (live_last _ _), .inl trivial⟩, by omega⟩, ?_⟩
            have e3 : Ext τ ⟨τ1.objs, kill (τ1.live ++ [true]) (.own q) ++ [true]⟩ := ext_kill (ext_push g2) g5
            have hl3 : (St.mk τ1.objs (kill (τ1.live ++ [true]) (.own q) ++ [true])).live[(τ1.live ++ [true]).length]? = some true := live_last' _ _ _
            have hn3 : τ.live.length ≤ (τ1.live ++ [true]).length := by have := g2.llen; simp only [List.length_append, List.length_cons, List.length_nil]; omega
            have k3 := rdl (hv.ext e3) (by cases l <;> simp [regsV] at hi ⊢)
            refine ⟨⟨by omega, hib, k2⟩, k3.1, ?_⟩
            refine ⟨⟨.inr trivial, .inr ((ext_live _ _).live _ hl3), ⟨.inr (live_last _ _), .inl trivial⟩, by first | omega | (simp only [List.length_append, List.length_cons, List.length_nil]; omega)⟩, ?_⟩
            refine next _ _ _ _ _ hp (.inr ?_) (ext_kill (ext_push e3) hn3) g3 (live_last' _ _ _) (by have := e3.llen; simp only [List.length_append, List.length_cons, List.length_nil] at this ⊢; omega)
            simp -implicitDefEqProofs only [go_sem, Nat.reduceBEq, Nat.reduceAdd, eq_self, true_and, and_true, and_self, List.getElem?_cons_zero, List.getElem?_cons_succ, Nat.reduceLeDiff, Nat.zero_add, Nat.reduceSub, Nat.le_refl, hw64, regC, regsV, List.map_append, List.map_cons, List.map_nil, List.append_assoc, List.cons_append, List.nil_append]
    case false =>
      simp -implicitDefEqProofs only [go_sem, Nat.reduceBEq, Nat.reduceAdd, eq_self, true_and, and_true, and_self, List.getElem?_cons_zero, List.getElem?_cons_succ, Nat.reduceLeDiff, Nat.zero_add, Nat.reduceSub, Nat.le_refl, hget, regC, V.eqs, V.eq, h1]
      repeat refine ⟨⟨by omega, hib, k2⟩, k1, ?_⟩
      rw [Bool.false_and] at hsame
      refine cut_dup ?_
      cases d
      case true =>
        have hp : passR r (l.take (i + 1)) false = (out ++ [x], true) := by
          rw [hstep]; simp only [passR, hsame, Bool.false_and, cond_false, Bool.true_or, Bool.not_true]
        simp -implicitDefEqProofs only [go_sem, Nat.reduceBEq, Nat.reduceAdd, eq_self, true_and, and_true, and_self, List.getElem?_cons_zero, List.getElem?_cons_succ, Nat.reduceLeDiff, Nat.zero_add, Nat.reduceSub, Nat.le_refl, hget, regC]
        repeat refine ⟨⟨by omega, hib, k2⟩, k1, ?_⟩
        refine ⟨⟨.inr trivial, .inr ((ext_live _ _).live _ g4), ⟨.inr (live_last _ _), .inl trivial⟩, by first | omega | (simp only [List.length_append, List.length_cons, List.length_nil]; omega)⟩, ?_⟩
        refine next _ _ _ _ _ hp (.inr ?_) (ext_kill (ext_push g2) g5) g3 (live_last' _ _ _) (by have := g2.llen; simp only [List.length_append, List.length_cons, List.length_nil]; omega)
        simp -implicitDefEqProofs only [go_sem, Nat.reduceBEq, Nat.reduceAdd, eq_self, true_and, and_true, and_self, List.getElem?_cons_zero, List.getElem?_cons_succ, Nat.reduceLeDiff, Nat.zero_add, Nat.reduceSub, Nat.le_refl, hw64, regC, regsV, List.map_append, List.map_cons, List.map_nil, List.append_assoc, List.cons_append, List.nil_append]
      case false =>
        simp -implicitDefEqProofs only [go_sem, Nat.reduceBEq, Nat.reduceAdd, eq_self, true_and, and_true, and_self, List.getElem?_cons_zero, List.getElem?_cons_succ, Nat.reduceLeDiff, Nat.zero_add, Nat.reduceSub, Nat.le_refl, hget, regC]
        repeat refine ⟨⟨by omega, hib, k2⟩, k1, ?_⟩
        refine call_at (ahead_ok (a := r) (b := x)) ?_
        rintro v τ1 ⟨rfl, rfl⟩
        refine ⟨(Ext.refl _).kept, ?_⟩
        cases hh : ahead r x
        case false =>
          have hp : passR r (l.take (i + 1)) false = (out ++ [x], false) := by
            rw [hstep]; simp only [passR, hsame, hh, Bool.and_false, Bool.false_and, cond_false, Bool.or_false, Bool.or_self, Bool.not_false, Bool.and_self, Bool.true_and]
          simp -implicitDefEqProofs only [go_sem, Nat.reduceBEq, Nat.reduceAdd, eq_self, true_and, and_true, and_self, List.getElem?_cons_zero, List.getElem?_cons_succ, Nat.reduceLeDiff, Nat.zero_add, Nat.reduceSub, Nat.le_refl, hh, hget, regC]
          repeat refine ⟨⟨by omega, hib, k2⟩, k1, ?_⟩
          refine ⟨⟨.inr trivial, .inr ((ext_live _ _).live _ g4), ⟨.inr (live_last _ _), .inl trivial⟩, by first | omega | (simp only [List.length_append, List.length_cons, List.length_nil]; omega)⟩, ?_⟩
          refine next _ _ _ _ _ hp (.inr ?_) (ext_kill (ext_push g2) g5) g3 (live_last' _ _ _) (by have := g2.llen; simp only [List.length_append, List.length_cons, List.length_nil]; omega)
          simp -implicitDefEqProofs only [go_sem, Nat.reduceBEq, Nat.reduceAdd, eq_self, true_and, and_true, and_self, List.getElem?_cons_zero, List.getElem?_cons_succ, Nat.reduceLeDiff, Nat.zero_add, Nat.reduceSub, Nat.le_refl, hw64, regC, regsV, List.map_append, List.map_cons, List.map_nil, List.append_assoc, List.cons_append, List.nil_append]
        case true =>
          have hp : passR r (l.take (i + 1)) false = (out ++ [r, x], true) := by
            rw [hstep]; simp only [passR, hsame, hh, Bool.and_false, Bool.false_and, cond_false, cond_true, Bool.or_false, Bool.or_self, Bool.not_false, Bool.and_self, Bool.true_and]
          simp -implicitDefEqProofs only [go_sem, Nat.reduceBEq, Nat.reduceAdd, eq_self, true_and, and_true, and_self, List.getElem?_cons_zero, List.getElem?_cons_succ, Nat.reduceLeDiff, Nat.zero_add, Nat.reduceSub, Nat.le_refl, hh, hget, regC]
          refine ⟨⟨.inr trivial, .inr ((ext_live _ _).live _ g4), ⟨.inr (live_last _ _), .inl trivial⟩, by omega⟩, ?_⟩
          have e3 : Ext τ ⟨τ1.objs, kill (τ1.live ++ [true]) (.own q) ++ [true]⟩ := ext_kill (ext_push g2) g5
          have hl3 : (St.mk τ1.objs (kill (τ1.live ++ [true]) (.own q) ++ [true])).live[(τ1.live ++ [true]).length]? = some true := live_last' _ _ _
          have hn3 : τ.live.length ≤ (τ1.live ++ [true]).length := by have := g2.llen; simp only [List.length_append, List.length_cons, List.length_nil]; omega
          have k3 := rdl (hv.ext e3) (by cases l <;> simp [regsV] at hi ⊢)
          refine ⟨⟨by omega, hib, k2⟩, k3.1, ?_⟩
          refine ⟨⟨.inr trivial, .inr ((ext_live _ _).live _ hl3), ⟨.inr (live_last _ _), .inl trivial⟩, by first | omega | (simp only [List.length_append, List.length_cons, List.length_nil]; omega)⟩, ?_⟩
          refine next _ _ _ _ _ hp (.inr ?_) (ext_kill (ext_push e3) hn3) g3 (live_last' _ _ _) (by have := e3.llen; simp only [List.length_append, List.length_cons, List.length_nil] at this ⊢; omega)
          simp -implicitDefEqProofs only [go_sem, Nat.reduceBEq, Nat.reduceAdd, eq_self, true_and, and_true, and_self, List.getElem?_cons_zero, List.getElem?_cons_succ, Nat.reduceLeDiff, Nat.zero_add, Nat.reduceSub, Nat.le_refl, hw64, regC, regsV, List.map_append, List.map_cons, List.map_nil, List.append_assoc, List.cons_append, List.nil_append]
  · have hi : ¬ (i < l.length) := by simpa [regsV_length] using hcc
    have hfull : l.take i = l := List.take_of_length_le (by omega)
    have hpl := passR_length r l false
    simp -implicitDefEqProofs only [go_sem, Nat.reduceBEq, Nat.reduceAdd]
    refine z2 _ _ _ ?_
    rw [hfull]
    have hput : rputR l r = bif (passR r l false).2 then (passR r l false).1 else (passR r l false).1 ++ [r] := by unfold rputR; rw [hc]; rfl
    simp -implicitDefEqProofs only [go_sem, Nat.reduceBEq, Nat.reduceAdd]
    refine cut_dup ?_
    cases hd : (passR r l false).2 <;> rw [hd] at hput
    · simp -implicitDefEqProofs only [go_sem, Nat.reduceBEq, Nat.reduceAdd, eq_self, true_and, and_true, and_self, List.getElem?_cons_zero, List.getElem?_cons_succ, Nat.reduceLeDiff, Nat.zero_add, Nat.reduceSub, Nat.le_refl, hd, regC]
      refine ⟨⟨.inr trivial, .inr ((ext_live _ _).live _ g4), ⟨.inr (live_last _ _), .inl trivial⟩, by rw [regsV_length]; omega⟩, ?_⟩
      refine q2 _ _ ?_
      simp -implicitDefEqProofs only [go_sem, Nat.reduceBEq, Nat.reduceAdd, eq_self, true_and, and_true, and_self, List.getElem?_cons_zero, List.getElem?_cons_succ, Nat.reduceLeDiff, Nat.zero_add, Nat.reduceSub, Nat.le_refl, hc]
      refine ⟨⟨_, rfl, ?_, fun h => absurd (of_decide_eq_true hc) h⟩, ext_kill (ext_push g2) g5, g3⟩
      rw [hput]
      exact ⟨false, .own (τ'.live ++ [true]).length, 7, by simp [regsV, regC], by simp, .inr ⟨live_last' _ _ _, rfl⟩⟩
    · simp -implicitDefEqProofs only [go_sem, Nat.reduceBEq, Nat.reduceAdd, eq_self, true_and, and_true, and_self, List.getElem?_cons_zero, List.getElem?_cons_succ, Nat.reduceLeDiff, Nat.zero_add, Nat.reduceSub, Nat.le_refl, hd]
      refine q2 _ _ ?_
      simp -implicitDefEqProofs only [go_sem, Nat.reduceBEq, Nat.reduceAdd, eq_self, true_and, and_true, and_self, List.getElem?_cons_zero, List.getElem?_cons_succ, Nat.reduceLeDiff, Nat.zero_add, Nat.reduceSub, Nat.le_refl, hc]
      refine ⟨⟨_, rfl, ?_, fun h => absurd (of_decide_eq_true hc) h⟩, g2, g3⟩
      rw [hput]
      exact ⟨_, _, _, rfl, by simp, .inr ⟨g4, rfl⟩⟩

def puts (l : List Rg) : List Rg := l.foldl putR []
def rputs (l : List Rg) : List Rg := l.foldl rputR []
theorem puts_snoc (l : List Rg) (r : Rg) : puts (l ++ [r]) = putR (puts l) r := by simp [puts]
theorem rputs_snoc (l : List Rg) (r : Rg) : rputs (l ++ [r]) = rputR (rputs l) r := by simp [rputs]
theorem rputs_length (l : List Rg) : (rputs l).length ≤ 2 * l.length := by
  suffices h : ∀ (n : Nat) (l : List Rg), l.length = n → (rputs l).length ≤ 2 * n by exact h _ l rfl
  intro n
  induction n with
  | zero => intro l h; rw [List.length_eq_zero_iff.1 h]; simp [rputs]
  | succ n ih =>
    intro l h
    obtain ⟨a, b, rfl⟩ : ∃ a b, l = a ++ [b] := ⟨l.dropLast, l.getLast (by intro e; rw [e] at h; simp at h), (List.dropLast_concat_getLast _).symm⟩
    have := ih a (by simpa using h)
    have h2 := rputR_length b (rputs a)
    rw [rputs_snoc]; omega

set_option maxRecDepth 100000 in
set_option maxHeartbeats 3200000 in
theorem laid_ok (hv : RdS σ v 7 (regsV l)) (hlen : ∀ r ∈ l, r.name.length < 4611686018427387904) (hl : l.length ≤ 268435456) :
    CallA Try.prog 16 [v] σ fun w σ' => ∃ i m x, w = .tup [.ptr (some (i, 0)), x] ∧ IsRegs σ' i m (puts (l.take 200)) ∧ RdS σ' x 7 (regsV (rputs (l.take 200))) ∧ Ext σ σ' ∧ σ.objs.length ≤ m := by
  obtain ⟨b, R, z, rfl, -, -⟩ := id hv
  refine fn_at Try.func16 (by decide) comp16 rfl fun Q q1 q2 => ?_
  simp -implicitDefEqProofs only [go_sem, Nat.reduceBEq, Nat.reduceAdd, eq_self, true_and, and_true, and_self, List.getElem?_cons_zero, List.getElem?_cons_succ, Nat.reduceLeDiff, Nat.zero_add, Nat.reduceSub, Nat.le_refl, c16]
  refine call_at new_ok ?_
  rintro v τ ⟨rfl, hr, he, hlv⟩
  refine ⟨kept_none, ?_⟩
  simp -implicitDefEqProofs only [go_sem, Nat.reduceBEq, Nat.reduceAdd, eq_self, true_and, and_true, and_self, List.getElem?_cons_zero, List.getElem?_cons_succ, Nat.reduceLeDiff, Nat.zero_add, Nat.reduceSub, Nat.le_refl, Nat.lt_irrefl]
  refine loop_at (fun (x : Nat × V) => ⟨[(0, .v (.sl b R z (regsV l))), (4, .v (.ptr (some (σ.objs.length + 1, 0)))), (5, .v x.2), (6, .v (.int .i64 x.1))], []⟩)
    (fun x τ' => x.1 ≤ l.length ∧ x.1 ≤ 200 ∧ Ext σ τ' ∧ IsRegs τ' (σ.objs.length + 1) σ.objs.length (puts (l.take x.1)) ∧ RdS τ' x.2 7 (regsV (rputs (l.take x.1)))) (fun x => l.length - x.1) (0, .sl false (.own τ.live.length) 7 []) ?_ ?_ ?_
  · exact .inr (by simp [go_sem])
  · exact ⟨Nat.zero_le _, Nat.zero_le _, he.trans (ext_live _ _), hr.ext (ext_live _ _), ⟨false, .own τ.live.length, 7, by simp [rputs, regsV], by simp [rputs, regsV], .inr ⟨live_last _ _, rfl⟩⟩⟩
  clear hr he hlv
  rintro ⟨i, w⟩ τ' ⟨g1, g2, g3, g4, g5⟩ Z z1 z2 z3
  simp only at g1 g2 g4 g5
  have fin : (l.take i = l.take 200) → Z (.exit 0) ⟨[(0, .v (.sl b R z (regsV l))), (4, .v (.ptr (some (σ.objs.length + 1, 0)))), (5, .v w), (6, .v (.int .i64 i))], []⟩ τ' → True := fun _ _ => trivial
  have hll : ((regsV l).length : Int) = l.length := by rw [regsV_length]
  by_cases hi : i < l.length
  · have d1 : decide ((i : Int) < (l.length : Int)) = true := by simp; omega
    by_cases h2 : i < 200
    · have d2 : decide ((i : Int) < 200) = true := by simp; omega
      obtain ⟨k1, k2⟩ := rdl (hv.ext g3) (by cases l <;> simp [regsV] at hi ⊢)
      have hget := regsV_get hi
      have hib : (i : Int) < (l.length : Int) := by omega
      have htk : l.take (i + 1) = l.take i ++ [l[i]] := List.take_succ_eq_append_getElem hi
      have hnm := hlen _ (List.getElem_mem hi)
      generalize l[i] = x at hget htk hnm
      simp -implicitDefEqProofs only [go_sem, Nat.reduceBEq, Nat.reduceAdd, eq_self, true_and, and_true, and_self, List.getElem?_cons_zero, List.getElem?_cons_succ, Nat.reduceLeDiff, Nat.zero_add, Nat.reduceSub, Nat.le_refl, hll, d1, d2, hget, regC]
      refine ⟨⟨by omega, hib, k2⟩, k1, call_at (put_ok (r := x) g4 hnm) ?_⟩
      rintro v τ1 ⟨rfl, p1, p2, p3⟩
      refine ⟨kept_none, ?_⟩
      have e1 := p3 σ g3 (Nat.le_refl _)
      have e2 := p3 τ' (Ext.refl _)
      have k3 := rdl (hv.ext e1) (by cases l <;> simp [regsV] at hi ⊢)
      simp -implicitDefEqProofs only [go_sem, Nat.reduceBEq, Nat.reduceAdd, eq_self, true_and, and_true, and_self, List.getElem?_cons_zero, List.getElem?_cons_succ, Nat.reduceLeDiff, Nat.zero_add, Nat.reduceSub, Nat.le_refl, hget, regC]
      refine ⟨⟨by omega, by rw [regsV_length]; exact hib, k2⟩, k3.1, call_at (rput_ok (r := x) (l := rputs (l.take i)) ?_ hnm ?_) ?_⟩
      · obtain ⟨b', r', s', e, q1', q2'⟩ := g5
        exact ⟨b', r', s', e, q1', q2'.imp_right fun y => ⟨by rw [p2]; exact y.1, y.2⟩⟩
      · have := rputs_length (l.take i)
        rw [List.length_take] at this; omega
      rintro v τ2 ⟨⟨y, rfl, y1, y2⟩, he2, ho2⟩
      refine ⟨kept_none, ?_⟩
      simp -implicitDefEqProofs only [go_sem, Nat.reduceBEq, Nat.reduceAdd, eq_self, true_and, and_true, and_self, List.getElem?_cons_zero, List.getElem?_cons_succ, Nat.reduceLeDiff, Nat.zero_add, Nat.reduceSub, Nat.le_refl, Nat.lt_irrefl]
      refine z1 (i + 1, y) _ _ (.inr ?_) (by simp only; omega) ⟨by simp only; omega, by simp only; omega, e1.trans he2, ?_, ?_⟩
      · simp -implicitDefEqProofs only [go_sem, Nat.reduceBEq, Nat.reduceAdd, eq_self, true_and, and_true, and_self, List.getElem?_cons_zero, List.getElem?_cons_succ, Nat.reduceLeDiff, Nat.zero_add, Nat.reduceSub, Nat.le_refl, Nat.lt_irrefl]
        rw [i64_in _ (by omega)]; simp
      · simp only [htk, puts_snoc]
        exact p1.ext he2
      · simp only [htk, rputs_snoc]
        exact y1
    · have d2 : decide ((i : Int) < 200) = false := by simp; omega
      have h200 : i = 200 := by omega
      simp -implicitDefEqProofs only [go_sem, Nat.reduceBEq, Nat.reduceAdd, eq_self, true_and, and_true, and_self, List.getElem?_cons_zero, List.getElem?_cons_succ, Nat.reduceLeDiff, Nat.zero_add, Nat.reduceSub, Nat.le_refl, hll, d1, d2]
      refine z2 _ _ _ ?_
      simp -implicitDefEqProofs only [go_sem, Nat.reduceBEq, Nat.reduceAdd]
      refine q2 _ _ ?_
      simp -implicitDefEqProofs only [go_sem, Nat.reduceBEq, Nat.reduceAdd, eq_self, true_and, and_true, and_self, List.getElem?_cons_zero, List.getElem?_cons_succ, Nat.reduceLeDiff, Nat.zero_add, Nat.reduceSub, Nat.le_refl, Nat.lt_irrefl]
      subst h200
      exact ⟨_, _, _, rfl, g4, g5, g3, Nat.le_refl _⟩
  · have d1 : decide ((i : Int) < (l.length : Int)) = false := by simp; omega
    simp -implicitDefEqProofs only [go_sem, Nat.reduceBEq, Nat.reduceAdd, eq_self, true_and, and_true, and_self, List.getElem?_cons_zero, List.getElem?_cons_succ, Nat.reduceLeDiff, Nat.zero_add, Nat.reduceSub, Nat.le_refl, hll, d1]
    refine z2 _ _ _ ?_
    simp -implicitDefEqProofs only [go_sem, Nat.reduceBEq, Nat.reduceAdd]
    refine q2 _ _ ?_
    simp -implicitDefEqProofs only [go_sem, Nat.reduceBEq, Nat.reduceAdd, eq_self, true_and, and_true, and_self, List.getElem?_cons_zero, List.getElem?_cons_succ, Nat.reduceLeDiff, Nat.zero_add, Nat.reduceSub, Nat.le_refl, Nat.lt_irrefl]
    have hfull : l.take i = l.take 200 := by rw [List.take_of_length_le (by omega), List.take_of_length_le (by omega)]
    rw [hfull] at g4 g5
    exact ⟨_, _, _, rfl, g4, g5, g3, Nat.le_refl _⟩
end
end Go.VL.lww

namespace Go.VL.lww
open Go Go.VL Go.Proofs Go.IntWalk

theorem strLess_trans : ∀ {a b c : List UInt8}, strLess a b = true → strLess b c = true → strLess a c = true
  | _, [], _, h, _ => by simp [strLess] at h
  | _, _ :: _, [], _, h => by simp [strLess] at h
  | [], _ :: _, _ :: _, _, _ => by simp [strLess]
  | x :: a, y :: b, z :: c, h1, h2 => by
    simp only [strLess, Bool.or_eq_true, Bool.and_eq_true, decide_eq_true_eq, beq_iff_eq] at *
    rcases h1 with h1 | ⟨rfl, h1⟩
    · rcases h2 with h2 | ⟨rfl, h2⟩
      · left; rw [UInt8.lt_iff_toNat_lt] at *; omega
      · exact .inl h1
    · rcases h2 with h2 | ⟨rfl, h2⟩
      · exact .inl h2
      · exact .inr ⟨rfl, strLess_trans h1 h2⟩
theorem less_trans {a1 a2 b1 b2 c1 c2 : Int} (h : less a1 a2 b1 b2 = true) (k : less b1 b2 c1 c2 = true) : less a1 a2 c1 c2 = true := by
  unfold less at *
  simp only [Bool.or_eq_true, Bool.and_eq_true, decide_eq_true_eq] at *
  omega
theorem wins_trans {a b c : Rg} (h : wins a b = true) (k : wins b c = true) : wins a c = true := by
  unfold wins at *
  cases h1 : (decide (a.ac = b.ac) && decide (a.ar = b.ar)) <;> cases h2 : (decide (b.ac = c.ac) && decide (b.ar = c.ar)) <;> rw [h1] at h <;> rw [h2] at k <;> simp only [cond_true, cond_false] at h k
  · cases h3 : (decide (a.ac = c.ac) && decide (a.ar = c.ar))
    · exact less_trans k h
    · exfalso
      simp only [Bool.and_eq_true, decide_eq_true_eq] at h3
      unfold less at h k
      simp only [Bool.or_eq_true, Bool.and_eq_true, decide_eq_true_eq] at h k
      omega
  · simp only [Bool.and_eq_true, decide_eq_true_eq] at h2
    rw [← h2.1, ← h2.2, h1]
    exact h
  · simp only [Bool.and_eq_true, decide_eq_true_eq] at h1
    rw [h1.1, h1.2, h2]
    exact k
  · simp only [Bool.and_eq_true, decide_eq_true_eq] at h1 h2
    have h3 : (decide (a.ac = c.ac) && decide (a.ar = c.ar)) = true := by simp; omega
    rw [h3]
    simp only [cond_true]
    cases ha : a.gone <;> cases hb : b.gone <;> cases hc : c.gone <;> rw [ha, hb] at h <;> rw [hb, hc] at k <;> simp at h k ⊢
    exact strLess_trans k h

theorem sameK_iff {a b : Rg} : sameK a b = true ↔ a.nc = b.nc ∧ a.nr = b.nr ∧ a.name = b.name := by
  simp only [sameK, Bool.and_eq_true, decide_eq_true_eq]
theorem sameK_self (a : Rg) : sameK a a = true := sameK_iff.2 ⟨rfl, rfl, rfl⟩
theorem sameK_congr {a b : Rg} (h : sameK a b = true) : sameK a = sameK b := by
  obtain ⟨h1, h2, h3⟩ := sameK_iff.1 h
  funext x
  simp only [sameK, h1, h2, h3]
theorem find_updR_same {r : Rg} : ∀ (S : List Rg) {w : Rg}, S.find? (sameK r) = some w → (updR r S).find? (sameK r) = some r
  | [], _, h => by simp at h
  | x :: S, w, h => by
    simp only [updR]
    cases hs : sameK r x with
    | true => simp [sameK_self]
    | false =>
      simp only [List.find?_cons, hs] at h
      simp only [cond_false, List.find?_cons, hs]
      exact find_updR_same S h
theorem find_updR_other {r q : Rg} (hq : sameK q r = false) : ∀ (S : List Rg) {w : Rg}, S.find? (sameK r) = some w → (updR r S).find? (sameK q) = S.find? (sameK q)
  | [], _, h => by simp at h
  | x :: S, w, h => by
    simp only [updR]
    cases hs : sameK r x with
    | true =>
      have hx : sameK q x = false := by
        cases hx : sameK q x with
        | false => rfl
        | true =>
          have h1 := sameK_iff.1 hx
          have h2 := sameK_iff.1 hs
          rw [sameK_iff.2 ⟨h1.1.trans h2.1.symm, h1.2.1.trans h2.2.1.symm, h1.2.2.trans h2.2.2.symm⟩] at hq
          cases hq
      simp [hq, hx]
    | false =>
      simp only [List.find?_cons, hs] at h
      simp only [cond_false, List.find?_cons]
      rw [find_updR_other hq S h]
theorem mem_updR {r x : Rg} : ∀ {S : List Rg}, x ∈ updR r S → x = r ∨ x ∈ S
  | [], h => by simpa [updR] using h
  | y :: S, h => by
    simp only [updR] at h
    cases hs : sameK r y <;> rw [hs] at h <;> simp only [cond_true, cond_false, List.mem_cons] at h ⊢
    · rcases h with h | h
      · exact .inr (.inl h)
      · rcases mem_updR h with h | h
        · exact .inl h
        · exact .inr (.inr h)
    · rcases h with h | h
      · exact .inl h
      · exact .inr (.inr h)

/-- What registers have is the latest. -/
def Latest (L S : List Rg) : Prop := (∀ w ∈ S, w ∈ L) ∧ ∀ r ∈ L, chk r = 0 → ∃ w, S.find? (sameK r) = some w ∧ wins r w = false
theorem latest_step {L S : List Rg} (h : Latest L S) (r0 : Rg) : Latest (L ++ [r0]) (putR S r0) := by
  obtain ⟨h1, h2⟩ := h
  have up : ∀ {w}, w ∈ L → w ∈ L ++ [r0] := fun h => by simp [h]
  unfold putR
  cases hc : decide (chk r0 = 0) with
  | false =>
    refine ⟨fun w hw => up (h1 w hw), fun r hr hk => ?_⟩
    rcases List.mem_append.1 hr with hr | hr
    · exact h2 r hr hk
    · simp only [List.mem_singleton] at hr
      subst hr
      simp [hk] at hc
  | true =>
    simp only [cond_true]
    cases hf : S.find? (sameK r0) with
    | none =>
      refine ⟨fun w hw => ?_, fun r hr hk => ?_⟩
      · rcases List.mem_append.1 hw with hw | hw
        · exact up (h1 w hw)
        · simp only [List.mem_singleton] at hw; simp [hw]
      · rw [List.find?_append]
        rcases List.mem_append.1 hr with hr | hr
        · obtain ⟨w, q1, q2⟩ := h2 r hr hk
          exact ⟨w, by rw [q1]; rfl, q2⟩
        · simp only [List.mem_singleton] at hr
          subst hr
          exact ⟨r, by rw [hf]; simp [sameK_self], wins_self r⟩
    | some w0 =>
      simp only
      cases hw : wins r0 w0 with
      | false =>
        refine ⟨fun w hw => up (h1 w hw), fun r hr hk => ?_⟩
        rcases List.mem_append.1 hr with hr | hr
        · exact h2 r hr hk
        · simp only [List.mem_singleton] at hr
          subst hr
          exact ⟨w0, hf, hw⟩
      | true =>
        refine ⟨fun w hm => ?_, fun r hr hk => ?_⟩
        · rcases mem_updR hm with e | hm
          · simp [e]
          · exact up (h1 w hm)
        · cases hs : sameK r r0 with
          | true =>
            refine ⟨r0, by rw [sameK_congr hs, cond_true]; exact find_updR_same S hf, ?_⟩
            rcases List.mem_append.1 hr with hr | hr
            · obtain ⟨w, q1, q2⟩ := h2 r hr hk
              rw [sameK_congr hs, hf] at q1
              cases q1
              cases hx : wins r r0 with
              | false => rfl
              | true => rw [wins_trans hx hw] at q2; cases q2
            · simp only [List.mem_singleton] at hr
              subst hr
              exact wins_self r
          | false =>
            rcases List.mem_append.1 hr with hr | hr
            · obtain ⟨w, q1, q2⟩ := h2 r hr hk
              exact ⟨w, by rw [cond_true, find_updR_other hs S hf]; exact q1, q2⟩
            · simp only [List.mem_singleton] at hr
              subst hr
              rw [sameK_self] at hs
              cases hs
theorem latest_puts (l : List Rg) : Latest l (puts l) := by
  suffices h : ∀ (n : Nat) (l : List Rg), l.length = n → Latest l (puts l) from h _ l rfl
  intro n
  induction n with
  | zero => intro l h; rw [List.length_eq_zero_iff.1 h]; exact ⟨by simp [puts], by simp⟩
  | succ n ih =>
    intro l h
    obtain ⟨a, b, rfl⟩ : ∃ a b, l = a ++ [b] := ⟨l.dropLast, l.getLast (by intro e; rw [e] at h; simp at h), (List.dropLast_concat_getLast _).symm⟩
    rw [puts_snoc]
    exact latest_step (ih a (by simpa using h)) b
end Go.VL.lww

namespace Go.VL.lww
open Go Go.VL

theorem strLess_total : ∀ {a b : List UInt8}, strLess a b = false → strLess b a = false → a = b
  | [], [], _, _ => rfl
  | [], _ :: _, h, _ => by simp [strLess] at h
  | _ :: _, [], _, h => by simp [strLess] at h
  | x :: a, y :: b, h1, h2 => by
    simp only [strLess, Bool.or_eq_false_iff, Bool.and_eq_false_iff, decide_eq_false_iff_not, beq_eq_false_iff_ne, ne_eq] at h1 h2
    have e : x = y := by
      have h3 := h1.1; have h4 := h2.1
      rw [UInt8.lt_iff_toNat_lt] at h3 h4
      exact UInt8.toNat_inj.1 (by omega)
    subst e
    rw [strLess_total (h1.2.resolve_left fun h => h rfl) (h2.2.resolve_left fun h => h rfl)]
theorem sameK_comm (a b : Rg) : sameK a b = sameK b a := by
  rw [Bool.eq_iff_iff, sameK_iff, sameK_iff]
  constructor <;> rintro ⟨h1, h2, h3⟩ <;> exact ⟨h1.symm, h2.symm, h3.symm⟩
theorem sameK_trans {a b c : Rg} (h : sameK a b = true) (k : sameK b c = true) : sameK a c = true := by rw [sameK_congr h]; exact k
theorem ahead_congr {a a' b : Rg} (h : sameK a a' = true) : ahead a b = ahead a' b := by
  obtain ⟨h1, h2, h3⟩ := sameK_iff.1 h
  simp only [ahead, h1, h2, h3]
theorem ahead_congr' {a b b' : Rg} (h : sameK b b' = true) : ahead a b = ahead a b' := by
  obtain ⟨h1, h2, h3⟩ := sameK_iff.1 h
  simp only [ahead, h1, h2, h3]
theorem ahead_self (a : Rg) : ahead a a = false := by simp [ahead, less, strLess_self]
theorem ahead_trans {a b c : Rg} (h : ahead a b = true) (k : ahead b c = true) : ahead a c = true := by
  simp only [ahead, less, Bool.or_eq_true, Bool.and_eq_true, decide_eq_true_eq] at *
  rcases h with h | ⟨⟨h1, h2⟩, h3⟩
  · rcases k with k | ⟨⟨k1, k2⟩, k3⟩ <;> left <;> omega
  · rcases k with k | ⟨⟨k1, k2⟩, k3⟩
    · left; omega
    · exact .inr ⟨⟨by omega, by omega⟩, strLess_trans h3 k3⟩
theorem ahead_ne {a b : Rg} (h : ahead a b = true) : sameK a b = false := by
  cases hs : sameK a b with
  | false => rfl
  | true => rw [ahead_congr hs, ahead_self] at h; cases h
theorem ahead_total {a b : Rg} (h : sameK a b = false) (k : ahead a b = false) : ahead b a = true := by
  cases hb : ahead b a with
  | true => rfl
  | false =>
    rw [← Bool.not_eq_true, sameK_iff] at h
    simp only [ahead, less, Bool.or_eq_false_iff, Bool.and_eq_false_iff, decide_eq_false_iff_not] at k hb
    exfalso
    have e1 : a.nc = b.nc := by omega
    have e2 : a.nr = b.nr := by omega
    refine h ⟨e1, e2, strLess_total ?_ ?_⟩
    · rcases k.2 with (k | k) | k
      · exact absurd e1 k
      · exact absurd e2 k
      · exact k
    · rcases hb.2 with (k | k) | k
      · exact absurd e1.symm k
      · exact absurd e2.symm k
      · exact k
theorem chk_gone {a : Rg} (h : chk a = 0) (g : a.gone = true) : a.val = [] := by
  unfold chk at h
  generalize (!root a && !right a.nc a.nr) = x1 at h
  generalize (!right a.ac a.ar) = x2 at h
  generalize (!decide (a.name = []) && !nameB a.name) = x3 at h
  generalize decide ((256 : Int) < a.val.length) = x4 at h
  rw [g] at h
  cases hv : decide (a.val = []) with
  | true => exact of_decide_eq_true hv
  | false => rw [hv] at h; cases x1 <;> cases x2 <;> cases x3 <;> cases x4 <;> simp at h
theorem wins_total {a b : Rg} (hs : sameK a b = true) (ha : chk a = 0) (hb : chk b = 0) (h : wins a b = false) (k : wins b a = false) : a = b := by
  obtain ⟨h1, h2, h3⟩ := sameK_iff.1 hs
  have he : (decide (b.ac = a.ac) && decide (b.ar = a.ar)) = (decide (a.ac = b.ac) && decide (a.ar = b.ar)) := by
    rw [Bool.eq_iff_iff]; simp only [Bool.and_eq_true, decide_eq_true_eq]; omega
  unfold wins at h k
  rw [he] at k
  cases hx : (decide (a.ac = b.ac) && decide (a.ar = b.ar)) <;> rw [hx] at h k <;> simp only [cond_true, cond_false] at h k
  · unfold less at h k
    simp only [Bool.or_eq_false_iff, Bool.and_eq_false_iff, decide_eq_false_iff_not] at h k hx
    exfalso
    rcases hx with hx | hx <;> omega
  · simp only [Bool.and_eq_true, decide_eq_true_eq] at hx
    have hga := chk_gone ha
    have hgb := chk_gone hb
    obtain ⟨nc, nr, nm, ac, ar, v, g⟩ := a
    obtain ⟨nc', nr', nm', ac', ar', v', g'⟩ := b
    simp only at *
    obtain ⟨rfl, rfl⟩ := hx
    subst h1 h2 h3
    cases g <;> cases g' <;> simp at h k hga hgb
    · rw [strLess_total h k]
    · rw [hga, hgb]
theorem wins_ge {a b c : Rg} (hs : sameK b c = true) (hb : chk b = 0) (hc : chk c = 0) (h : wins a b = false) (k : wins b c = false) : wins a c = false := by
  cases hx : wins a c with
  | false => rfl
  | true =>
    cases hy : wins c b with
    | true => rw [wins_trans hx hy] at h; cases h
    | false => rw [wins_total hs hb hc k hy, hx] at h; cases h

/-- In order. -/
def Sorted (S : List Rg) : Prop := S.Pairwise fun a b => ahead a b = true
/-- Each key once. -/
def KD (T : List Rg) : Prop := T.Pairwise fun a b => sameK a b = false
/-- What those that were put have come to. -/
def Lst (L T : List Rg) : Prop := (∀ w ∈ T, w ∈ L ∧ chk w = 0) ∧ ∀ r ∈ L, chk r = 0 → ∃ w ∈ T, sameK r w = true ∧ wins r w = false
theorem Lst.congr {L L' T : List Rg} (h : Lst L T) (he : ∀ r, r ∈ L ↔ r ∈ L') : Lst L' T := ⟨fun w hw => ⟨(he w).1 (h.1 w hw).1, (h.1 w hw).2⟩, fun r hr => h.2 r ((he r).2 hr)⟩
theorem Lst.perm {L T T' : List Rg} (h : Lst L T) (he : ∀ r, r ∈ T ↔ r ∈ T') : Lst L T' :=
  ⟨fun w hw => h.1 w ((he w).2 hw), fun r hr hc => let ⟨w, hw, x⟩ := h.2 r hr hc; ⟨w, (he w).1 hw, x⟩⟩
theorem Lst.bad {L T : List Rg} {r : Rg} (h : Lst L T) (hc : chk r ≠ 0) : Lst (L ++ [r]) T :=
  ⟨fun w hw => ⟨List.mem_append_left _ (h.1 w hw).1, (h.1 w hw).2⟩, fun x hx hx0 => h.2 x ((List.mem_append.1 hx).resolve_right fun h => hc (by rw [← List.mem_singleton.1 h]; exact hx0)) hx0⟩
theorem Lst.nil : Lst [] [] := ⟨by simp, by simp⟩

def ins (r : Rg) : List Rg → List Rg
  | [] => [r]
  | x :: S => bif sameK x r then (bif wins r x then r :: S else x :: S) else bif ahead r x then r :: x :: S else x :: ins r S
theorem passR_true {r : Rg} : ∀ {S : List Rg}, (∀ x ∈ S, sameK x r = false) → passR r S true = (S, true)
  | [], _ => rfl
  | x :: S, h => by
    have ih := passR_true (r := r) (S := S) fun y hy => h y (List.mem_cons_of_mem _ hy)
    simp only [passR, h x (by simp), Bool.false_and, cond_false, Bool.true_or, Bool.not_true, ih]
theorem passR_ins {r : Rg} : ∀ {S : List Rg}, Sorted S → (bif (passR r S false).2 then (passR r S false).1 else (passR r S false).1 ++ [r]) = ins r S
  | [], _ => rfl
  | x :: S, h => by
    obtain ⟨h1, h2⟩ := List.pairwise_cons.1 h
    have ih := passR_ins (r := r) h2
    simp only [passR, ins]
    cases hs : sameK x r
    · simp only [Bool.false_and, cond_false, Bool.or_self, Bool.not_false, Bool.true_and]
      cases ha : ahead r x
      · simp only [cond_false]
        rw [← ih]
        cases (passR r S false).2 <;> simp
      · have hn : ∀ y ∈ S, sameK y r = false := fun y hy => by rw [sameK_comm]; exact ahead_ne (ahead_trans ha (h1 y hy))
        simp only [cond_true, passR_true hn]
    · have hn : ∀ y ∈ S, sameK y r = false := fun y hy => by
        have := ahead_ne (h1 y hy)
        rw [sameK_congr hs] at this
        rw [sameK_comm]; exact this
      cases hw : wins r x <;> simp only [Bool.true_and, cond_true, cond_false, Bool.false_or, Bool.not_true, Bool.false_and, passR_true hn]
theorem rputR_ins {r : Rg} {S : List Rg} (h : Sorted S) : rputR S r = bif decide (chk r = 0) then ins r S else S := by
  unfold rputR
  rw [passR_ins h]
theorem mem_ins {r y : Rg} : ∀ {S : List Rg}, y ∈ ins r S → y = r ∨ y ∈ S
  | [], h => by simp [ins] at h; exact .inl h
  | x :: S, h => by
    unfold ins at h
    cases hs : sameK x r <;> rw [hs] at h <;> simp only [cond_true, cond_false] at h
    · cases ha : ahead r x <;> rw [ha] at h <;> simp only [cond_true, cond_false, List.mem_cons] at h
      · rcases h with h | h
        · exact .inr (by simp [h])
        · exact (mem_ins h).imp_right fun h => by simp [h]
      · rcases h with h | h | h
        · exact .inl h
        · exact .inr (by simp [h])
        · exact .inr (by simp [h])
    · cases ha : wins r x <;> rw [ha] at h <;> simp only [cond_true, cond_false, List.mem_cons] at h
      · exact .inr (List.mem_cons.2 h)
      · exact h.imp_right fun h => by simp [h]
theorem ins_sorted {r : Rg} : ∀ {S : List Rg}, Sorted S → Sorted (ins r S)
  | [], _ => by simp [ins, Sorted]
  | x :: S, h => by
    obtain ⟨h1, h2⟩ := List.pairwise_cons.1 h
    have ih := ins_sorted (r := r) h2
    unfold ins
    cases hs : sameK x r <;> simp only [cond_true, cond_false]
    · cases ha : ahead r x <;> simp only [cond_true, cond_false]
      · refine List.pairwise_cons.2 ⟨fun y hy => ?_, ih⟩
        rcases mem_ins hy with rfl | hy
        · exact ahead_total (by rw [sameK_comm]; exact hs) ha
        · exact h1 y hy
      · refine List.pairwise_cons.2 ⟨fun y hy => ?_, h⟩
        rcases List.mem_cons.1 hy with rfl | hy
        · exact ha
        · exact ahead_trans ha (h1 y hy)
    · cases ha : wins r x <;> simp only [cond_true, cond_false]
      · exact h
      · exact List.pairwise_cons.2 ⟨fun y hy => by rw [← ahead_congr hs]; exact h1 y hy, h2⟩
theorem ins_has {r w : Rg} : ∀ {S : List Rg}, w ∈ S → ∃ u ∈ ins r S, u = w ∨ u = r ∧ sameK w r = true ∧ wins r w = true
  | x :: S, h => by
    unfold ins
    cases hs : sameK x r <;> simp only [cond_true, cond_false]
    · cases ha : ahead r x <;> simp only [cond_true, cond_false]
      · rcases List.mem_cons.1 h with rfl | h
        · exact ⟨w, by simp, .inl rfl⟩
        · obtain ⟨u, hu, h⟩ := ins_has (r := r) h
          exact ⟨u, by simp [hu], h⟩
      · exact ⟨w, by simp only [List.mem_cons] at h ⊢; exact .inr h, .inl rfl⟩
    · cases ha : wins r x <;> simp only [cond_true, cond_false]
      · exact ⟨w, h, .inl rfl⟩
      · rcases List.mem_cons.1 h with rfl | h
        · exact ⟨r, by simp, .inr ⟨rfl, hs, ha⟩⟩
        · exact ⟨w, by simp [h], .inl rfl⟩
theorem ins_new {r : Rg} : ∀ (S : List Rg), ∃ w ∈ ins r S, sameK r w = true ∧ wins r w = false
  | [] => ⟨r, by simp [ins], sameK_self r, wins_self r⟩
  | x :: S => by
    unfold ins
    cases hs : sameK x r <;> simp only [cond_true, cond_false]
    · cases ha : ahead r x <;> simp only [cond_true, cond_false]
      · obtain ⟨w, hw, h⟩ := ins_new (r := r) S
        exact ⟨w, by simp [hw], h⟩
      · exact ⟨r, by simp, sameK_self r, wins_self r⟩
    · cases ha : wins r x <;> simp only [cond_true, cond_false]
      · exact ⟨x, by simp, by rw [sameK_comm]; exact hs, ha⟩
      · exact ⟨r, by simp, sameK_self r, wins_self r⟩

/-- The document's registers. -/
structure Canon (L S : List Rg) : Prop where
  lst : Lst L S
  srt : Sorted S
theorem Canon.nil : Canon [] [] := ⟨.nil, .nil⟩
theorem Canon.put {L S : List Rg} (h : Canon L S) (r : Rg) : Canon (L ++ [r]) (rputR S r) := by
  rw [rputR_ins h.srt]
  by_cases hc : chk r = 0
  · simp only [hc, decide_true, cond_true]
    refine ⟨⟨fun w hw => ?_, fun x hx hx0 => ?_⟩, ins_sorted h.srt⟩
    · rcases mem_ins hw with rfl | hw
      · exact ⟨by simp, hc⟩
      · exact ⟨List.mem_append_left _ (h.lst.1 w hw).1, (h.lst.1 w hw).2⟩
    · rcases List.mem_append.1 hx with hx | hx
      · obtain ⟨w, hw, h1, h2⟩ := h.lst.2 x hx hx0
        obtain ⟨u, hu, rfl | ⟨rfl, h3, h4⟩⟩ := ins_has (r := r) hw
        · exact ⟨u, hu, h1, h2⟩
        · refine ⟨u, hu, sameK_trans h1 h3, ?_⟩
          cases hy : wins x u with
          | false => rfl
          | true => rw [wins_trans hy h4] at h2; cases h2
      · rw [List.mem_singleton.1 hx]; exact ins_new S
  · simp only [hc, decide_false, cond_false]
    exact ⟨h.lst.bad hc, h.srt⟩
theorem Canon.congr {L L' S : List Rg} (h : Canon L S) (he : ∀ r, r ∈ L ↔ r ∈ L') : Canon L' S := ⟨h.lst.congr he, h.srt⟩
theorem Sorted.one {S : List Rg} (h : Sorted S) {a b : Rg} (ha : a ∈ S) (hb : b ∈ S) (hs : sameK a b = true) : a = b := by
  induction S with
  | nil => simp at ha
  | cons x S ih =>
    obtain ⟨h1, h2⟩ := List.pairwise_cons.1 h
    rcases List.mem_cons.1 ha with e | ha' <;> rcases List.mem_cons.1 hb with e' | hb'
    · rw [e, e']
    · rw [e, ahead_ne (h1 b hb')] at hs; cases hs
    · rw [e', sameK_comm, ahead_ne (h1 a ha')] at hs; cases hs
    · exact ih h2 ha' hb'
theorem Canon.sub {L S S' : List Rg} (h : Canon L S) (h' : Canon L S') {w : Rg} (hw : w ∈ S) : w ∈ S' := by
  obtain ⟨a1, a2⟩ := h.lst.1 w hw
  obtain ⟨u, b1, b2, b3⟩ := h'.lst.2 w a1 a2
  obtain ⟨c1, c2⟩ := h'.lst.1 u b1
  obtain ⟨v, d1, d2, d3⟩ := h.lst.2 u c1 c2
  have e := h.srt.one hw d1 (sameK_trans b2 d2)
  subst e
  rw [wins_total b2 a2 c2 b3 d3]; exact b1
theorem Canon.uniq {L S S' : List Rg} (h : Canon L S) (h' : Canon L S') : S = S' := by
  have nd : ∀ {S : List Rg}, Sorted S → S.Nodup := fun h => h.imp fun {a b} hab e => by rw [e, ahead_self] at hab; cases hab
  refine List.Perm.eq_of_pairwise (le := fun a b => ahead a b = true) (fun a b _ _ h1 h2 => ?_) h.srt h'.srt ((List.perm_ext_iff_of_nodup (nd h.srt) (nd h'.srt)).2 fun w => ⟨h.sub h', h'.sub h⟩)
  have := ahead_trans h1 h2
  rw [ahead_self] at this; cases this

/-- The program's registers. -/
structure Has (L T : List Rg) : Prop where
  lst : Lst L T
  kd : KD T
theorem Has.nil : Has [] [] := ⟨.nil, .nil⟩
theorem updR_has {r w : Rg} : ∀ {S : List Rg}, w ∈ S → w ∈ updR r S ∨ sameK r w = true
  | x :: S, h => by
    unfold updR
    cases hs : sameK r x <;> simp only [cond_true, cond_false]
    · rcases List.mem_cons.1 h with rfl | h
      · exact .inl (by simp)
      · exact (updR_has h).imp_left fun h => by simp [h]
    · rcases List.mem_cons.1 h with rfl | h
      · exact .inr hs
      · exact .inl (by simp [h])
theorem updR_new (r : Rg) : ∀ (S : List Rg), r ∈ updR r S
  | [] => by simp [updR]
  | x :: S => by
    unfold updR
    cases hs : sameK r x <;> simp [updR_new r S]
theorem updR_kd {r : Rg} : ∀ {S : List Rg}, KD S → KD (updR r S)
  | [], _ => by simp [updR, KD]
  | x :: S, h => by
    obtain ⟨h1, h2⟩ := List.pairwise_cons.1 h
    unfold updR
    cases hs : sameK r x <;> simp only [cond_true, cond_false]
    · refine List.pairwise_cons.2 ⟨fun y hy => ?_, updR_kd h2⟩
      rcases mem_updR hy with rfl | hy
      · rw [sameK_comm]; exact hs
      · exact h1 y hy
    · exact List.pairwise_cons.2 ⟨fun y hy => by rw [sameK_congr hs]; exact h1 y hy, h2⟩
theorem KD.one {S : List Rg} (h : KD S) {a b : Rg} (ha : a ∈ S) (hb : b ∈ S) (hs : sameK a b = true) : a = b := by
  induction S with
  | nil => simp at ha
  | cons x S ih =>
    obtain ⟨h1, h2⟩ := List.pairwise_cons.1 h
    rcases List.mem_cons.1 ha with e | ha' <;> rcases List.mem_cons.1 hb with e' | hb'
    · rw [e, e']
    · rw [e, h1 b hb'] at hs; cases hs
    · rw [e', sameK_comm, h1 a ha'] at hs; cases hs
    · exact ih h2 ha' hb'
theorem Has.put {L T : List Rg} (h : Has L T) (r : Rg) : Has (L ++ [r]) (putR T r) := by
  unfold putR
  by_cases hc : chk r = 0
  · simp only [hc, decide_true, cond_true]
    cases hf : T.find? (sameK r) with
    | none =>
      have hn : ∀ x ∈ T, sameK r x = false := fun x hx => by simpa using List.find?_eq_none.1 hf x hx
      refine ⟨⟨fun w hw => ?_, fun x hx hx0 => ?_⟩, ?_⟩
      · rcases List.mem_append.1 hw with hw | hw
        · exact ⟨List.mem_append_left _ (h.lst.1 w hw).1, (h.lst.1 w hw).2⟩
        · rw [List.mem_singleton.1 hw]; exact ⟨by simp, hc⟩
      · rcases List.mem_append.1 hx with hx | hx
        · obtain ⟨w, hw, h1⟩ := h.lst.2 x hx hx0
          exact ⟨w, List.mem_append_left _ hw, h1⟩
        · rw [List.mem_singleton.1 hx]; exact ⟨r, by simp, sameK_self r, wins_self r⟩
      · refine List.pairwise_append.2 ⟨h.kd, by simp, fun a ha b hb => ?_⟩
        rw [List.mem_singleton.1 hb, sameK_comm]; exact hn a ha
    | some w =>
      have hw := List.mem_of_find?_eq_some hf
      have hs : sameK r w = true := by simpa using List.find?_some hf
      cases hv : wins r w <;> simp only [hv, cond_true, cond_false]
      · refine ⟨⟨fun w hw => ⟨List.mem_append_left _ (h.lst.1 w hw).1, (h.lst.1 w hw).2⟩, fun x hx hx0 => ?_⟩, h.kd⟩
        rcases List.mem_append.1 hx with hx | hx
        · exact h.lst.2 x hx hx0
        · rw [List.mem_singleton.1 hx]; exact ⟨w, hw, hs, hv⟩
      · refine ⟨⟨fun x hx => ?_, fun x hx hx0 => ?_⟩, updR_kd h.kd⟩
        · rcases mem_updR hx with rfl | hx
          · exact ⟨by simp, hc⟩
          · exact ⟨List.mem_append_left _ (h.lst.1 x hx).1, (h.lst.1 x hx).2⟩
        · rcases List.mem_append.1 hx with hx | hx
          · obtain ⟨u, hu, h1, h2⟩ := h.lst.2 x hx hx0
            rcases updR_has (r := r) hu with hu' | hs'
            · exact ⟨u, hu', h1, h2⟩
            · have e := h.kd.one hu hw (sameK_trans (by rw [sameK_comm]; exact hs') hs)
              subst e
              refine ⟨r, updR_new r T, sameK_trans h1 (by rw [sameK_comm]; exact hs), ?_⟩
              cases hy : wins x r with
              | false => rfl
              | true => rw [wins_trans hy hv] at h2; cases h2
          · rw [List.mem_singleton.1 hx]; exact ⟨r, updR_new r T, sameK_self r, wins_self r⟩
  · simp only [hc, decide_false, cond_false]
    exact ⟨h.lst.bad hc, h.kd⟩
theorem Has.sorted {L T S : List Rg} (h : Has L T) (hp : S.Perm T) (hs : S.Pairwise fun a b => ahead b a = false) : Canon L S := by
  refine ⟨h.lst.perm fun r => (hp.mem_iff).symm, ?_⟩
  have hk : KD S := (hp.pairwise_iff (fun {x y} h => by rw [sameK_comm]; exact h)).2 h.kd
  refine (hs.and hk).imp fun {a b} hab => ahead_total (by rw [sameK_comm]; exact hab.2) hab.1
theorem Lst.merge {L M S T : List Rg} (h : Lst (L ++ S) T) (hS : Lst M S) : Lst (L ++ M) T := by
  refine ⟨fun w hw => ?_, fun r hr hr0 => ?_⟩
  · obtain ⟨h1, h2⟩ := h.1 w hw
    rcases List.mem_append.1 h1 with h1 | h1
    · exact ⟨List.mem_append_left _ h1, h2⟩
    · exact ⟨List.mem_append_right _ (hS.1 w h1).1, h2⟩
  · rcases List.mem_append.1 hr with hr | hr
    · exact h.2 r (List.mem_append_left _ hr) hr0
    · obtain ⟨u, hu, h1, h2⟩ := hS.2 r hr hr0
      have hu0 := (hS.1 u hu).2
      obtain ⟨w, hw, h3, h4⟩ := h.2 u (List.mem_append_right _ hu) hu0
      exact ⟨w, hw, sameK_trans h1 h3, wins_ge h3 hu0 (h.1 w hw).2 h2 h4⟩
theorem has_puts : ∀ (n : Nat) (l : List Rg), l.length = n → Has l (puts l) ∧ Canon l (rputs l) ∧ (puts l).length ≤ n
  | 0, l, h => by rw [List.length_eq_zero_iff.1 h]; exact ⟨.nil, .nil, by simp [puts]⟩
  | n + 1, l, h => by
    obtain ⟨a, b, rfl⟩ : ∃ a b, l = a ++ [b] := ⟨l.dropLast, l.getLast (by intro e; rw [e] at h; simp at h), (List.dropLast_concat_getLast _).symm⟩
    obtain ⟨h1, h2, h3⟩ := has_puts n a (by simpa using h)
    rw [puts_snoc, rputs_snoc]
    refine ⟨h1.put b, h2.put b, ?_⟩
    unfold putR
    cases decide (chk b = 0) <;> simp only [cond_true, cond_false]
    · omega
    · have hu : ∀ (r : Rg) (S : List Rg), (updR r S).length ≤ S.length + 1 := by
        intro r S
        induction S with
        | nil => simp [updR]
        | cons x S ih =>
          unfold updR
          cases sameK r x <;> simp only [cond_true, cond_false, List.length_cons] <;> omega
      cases (puts a).find? (sameK b) with
      | none => simp only [List.length_append, List.length_singleton]; omega
      | some w =>
        have := hu b (puts a)
        cases hv : wins b w <;> simp only [hv, cond_true, cond_false] <;> omega
end Go.VL.lww

namespace Go.VL
open Go Go.Proofs Go.Shelf Go.RowKit Go.Lib Go.Sort

section
variable {P : Program} {γ : G} {σ : St} {w : World}

theorem flat_get {X : Type} [Inhabited X] {enc : X → List Value} {k : Nat} (hk : ∀ x, (enc x).length = k) : ∀ (l : List X) (j : Nat), j < l.length * k → (l.flatMap enc)[j]? = some (enc l.toArray[j / k]!)[j % k]!
  | [], j, h => by simp at h
  | x :: l, j, h => by
    have hk0 : 0 < k := by
      rcases Nat.eq_zero_or_pos k with h0 | h0
      · subst h0; simp at h
      · exact h0
    simp only [List.flatMap_cons]
    by_cases hj : j < k
    · rw [List.getElem?_append_left (by rw [hk]; exact hj), Nat.div_eq_of_lt hj, Nat.mod_eq_of_lt hj]
      have hx : j < (enc x).length := by rw [hk]; exact hj
      simp [List.getElem?_eq_getElem hx, hx]
    · rw [List.getElem?_append_right (by rw [hk]; omega), hk]
      have h2 : j - k < l.length * k := by
        simp only [List.length_cons, Nat.succ_mul] at h; omega
      rw [flat_get hk l (j - k) h2]
      have e1 : j / k = (j - k) / k + 1 := by
        have : j = (j - k) + k := by omega
        conv => lhs; rw [this]
        rw [Nat.add_div_right _ hk0]
      have e2 : j % k = (j - k) % k := by
        have : j = (j - k) + k := by omega
        conv => lhs; rw [this]
        rw [Nat.add_mod_right]
      rw [e1, e2]
      have hlt : (j - k) / k < l.length := Nat.div_lt_of_lt_mul (by rw [Nat.mul_comm]; exact h2)
      simp [hlt]
theorem flat_len {X : Type} {enc : X → List Value} {k : Nat} (hk : ∀ x, (enc x).length = k) (l : List X) : (l.flatMap enc).length = l.length * k := by
  induction l with
  | nil => simp
  | cons x l ih => simp [hk, ih, Nat.succ_mul, Nat.add_comm]
theorem repE_map {X : Type} {encV : X → List V} {enc : X → List Value} {k : Nat} (hrep : ∀ x, RepL γ (encV x) (enc x)) (hk : ∀ x, (enc x).length = k) (h1 : ∀ x, ∀ v ∈ enc x, v.oneCell' = true) : ∀ l : List X, RepE γ k (l.map encV) (l.flatMap enc)
  | [] => by simp [RepE]
  | x :: l => by
    simp only [List.map_cons, List.flatMap_cons, RepE]
    exact ⟨enc x, l.flatMap enc, rfl, by rw [(hrep x).length, hk], hrep x, repE_map hrep hk h1 l, h1 x⟩
theorem repE_det {X : Type} {encV : X → List V} {enc : X → List Value} {k : Nat} (hdet : ∀ x ws, RepL γ (encV x) ws → ws = enc x) : ∀ (l : List X) (vs : List Value), RepE γ k (l.map encV) vs → vs = l.flatMap enc
  | [], vs, h => by simpa [RepE] using h
  | x :: l, vs, h => by
    simp only [List.map_cons, RepE] at h
    obtain ⟨ws, us, rfl, -, h2, h3, -⟩ := h
    rw [hdet x ws h2, repE_det hdet l us h3]; rfl

/-- A comparison's calls, in whatever world: they lay blocks and draw, no more. -/
theorem cmp_lays {X : Type} {encV : X → List V} {enc : X → List Value} {cf : X → X → Int} {g : FuncId} (hrep : ∀ γ x, RepL γ (encV x) (enc x))
    (hg : ∀ x y, CallA P g [.agg (encV x), .agg (encV y)] ⟨[], []⟩ fun v _ => v = .int .i64 (cf x y)) (x y : X) (W : World) :
    Calls P g #[.agg (enc x).toArray, .agg (enc y).toArray] W fun e w' => e = .returned (.int .i64 (cf x y)) ∧ ∃ q os', w' = grow (W.drewN q) os' := by
  refine ((hg x y).2 (g0 W) W [.agg (enc x).toArray, .agg (enc y).toArray] (inv0 W) ?_).mono ?_
  · simp only [RepL, Rep]
    exact ⟨_, _, rfl, ⟨_, rfl, hrep _ x⟩, _, _, rfl, ⟨_, rfl, hrep _ y⟩, rfl⟩
  rintro e w' ⟨v, z, σ', γ', rfl, hle, hi, hz, rfl⟩
  simp only [Rep] at hz
  subst hz
  refine ⟨rfl, w'.drawn - W.drawn, w'.heap.extract W.heap.size w'.heap.size, ?_⟩
  have hd : W.drawn ≤ w'.drawn := by
    have := hi.drn
    rw [hle.drn] at this
    exact this
  have hh : ∀ (b : Nat) (o : Obj), W.heap[b]? = some o → w'.heap[b]? = some o := fun b o hb => hi.phi b o (by rw [hle.phi]; exact hb)
  have hsz : W.heap.size ≤ w'.heap.size := by
    rcases Nat.lt_or_ge w'.heap.size W.heap.size with hlt | hge
    · have := hh w'.heap.size W.heap[w'.heap.size] (Array.getElem?_eq_getElem hlt)
      simp at this
    · exact hge
  have hheap : w'.heap = W.heap ++ w'.heap.extract W.heap.size w'.heap.size := by
    apply Array.ext_getElem?
    intro i
    rw [Array.getElem?_append]
    split
    · rename_i hlt
      rw [Array.getElem?_eq_getElem hlt]
      exact hh i _ (Array.getElem?_eq_getElem hlt)
    · rename_i hge
      rw [Array.getElem?_extract]
      simp only [Nat.min_self]
      split
      · rename_i h2
        congr 1; omega
      · rename_i h2
        rw [Array.getElem?_eq_none (by omega)]
  have e1 : w'.os = W.os := hi.os.trans hle.os
  have e2 : w'.tape = W.tape := hi.tape.trans hle.tape
  have e3 : w'.output = W.output := hi.out.trans hle.out
  obtain ⟨h', t', d', o', u'⟩ := w'
  simp only at e1 e2 e3 hheap hd
  subst e1 e2 e3
  show _ = grow (World.drewN W (d' - W.drawn)) _
  simp only [World.drewN, grow]
  rw [← hheap]
  congr 1
  omega

set_option maxHeartbeats 1000000 in
/-- slices.SortFunc of an owned slice of structs. -/
theorem sort_cm {ρ : Ren} {X : Type} [Inhabited X] (L : SlLaysF0.n6 P ρ) (k : Nat) (aE : ∀ w, (isAgg (ρ.t 24)).run P w = .ok true w) (zE : ∀ w, (Go.sizeOf (ρ.t 24)).run P w = .ok k w)
    (encV : X → List V) (enc : X → List Value) (hrep : ∀ γ x, RepL γ (encV x) (enc x)) (hk : ∀ x, (enc x).length = k) (h1 : ∀ x, ∀ v ∈ enc x, v.oneCell' = true) (hdet : ∀ γ x ws, RepL γ (encV x) ws → ws = enc x)
    (cf : X → X → Int) (hO : SWO (ltOf cf)) (g : FuncId) (hg : ∀ x y, CallA P g [.agg (encV x), .agg (encV y)] ⟨[], []⟩ fun v _ => v = .int .i64 (cf x y))
    (hfn : ∃ fn, P.funcs[ρ.f 6]? = some fn ∧ fn.body.isSome = true ∧ (fn.name == "runtime.NumGoroutine") = false) {r : Nat} {l : List X} (hlive : σ.live[r]? = some true) (hsz : l.length < 4611686018427387904) :
    CallM P (ρ.f 6) [.sl false (.own r) k (l.map encV), .fn g []] r k (l.map encV) σ fun v r' es' σ' => ∃ l' : List X, l'.Perm l ∧ l'.Pairwise (fun a b => ltOf cf b a = false) ∧ es' = l'.map encV ∧ v = .tup [] ∧
      r' = σ.live.length ∧ σ' = ⟨σ.objs, σ.live.set r false ++ [true]⟩ := by
  refine ⟨hfn, fun γ w vs hi hr => ?_⟩
  simp only [RepL, Rep] at hr
  obtain ⟨v1, _, rfl, ⟨a, cap, rfl, hsp, hcap, hrho⟩, v2, _, rfl, ⟨_, rfl, rfl⟩, rfl⟩ := hr
  obtain ⟨blk, off, sp⟩ := a
  simp only at hsp
  subst hsp
  obtain ⟨a', cap', e0, -, h3, h4, h5, h6, c, e, z, vs0, h7, h8, h9, h10, h11⟩ := hi.own _ _ _ _ hlive hrho
  cases e0
  simp only at h4 h5 h6 h7 h8 h10 h11
  have hv0 := repE_det (hdet γ) l vs0 h9
  subst hv0
  have hlen : (l.map encV).length = l.length := by simp
  have hfl := flat_len hk l
  have hblk : blk < w.heap.size := lt_of_heap h7
  have hkb : l.length * k ≤ cap * k := Nat.mul_le_mul_right k (by rw [hlen] at h3; exact h3)
  have hcell : ∀ j, j < l.length * k → c[off + j]? = some ((flatK enc k l.toArray)[j]!) := by
    intro j hj
    rw [get_flatK enc k l.toArray j (by simpa using hj)]
    exact h8 j _ (flat_get hk l j hj)
  have hH : HoldsK enc k w blk off l.toArray := by
    intro j hj
    rw [size_flatK] at hj
    simp only [List.size_toArray] at hj
    refine ⟨?_, ?_⟩
    · simp only [World.cell?, h7]
      exact hcell j hj
    · have := h11 (off + j) (by omega) (by omega)
      simp only [World.frozen?, h7, Bool.and_eq_false_iff, decide_eq_false_iff_not]
      omega
  have eg : ∀ args w, (callFunc g args).run P w = .ok (.enter g args) w := fun args w => enter_ok (hg default default).1
  have hcmp : CmpLays P g #[] enc k cf blk off l.toArray.size w := fun m os dk _ x y => by
    simpa using cmp_lays hrep hg x y (sortWorldK enc k w blk off m dk os)
  have hcon := AnyQ.slices_SortFunc L k aE zE enc hk h1 cf hO g #[] blk off cap l.toArray w eg hcmp hH hblk (by simpa using hsz)
  rw [hlen]
  simp only [List.size_toArray] at hcon
  refine hcon.mono ?_
  rintro e' w' ⟨rfl, d', n, os, hp, hs, rfl⟩
  have hds : d'.size = l.length := by simpa using hp.1
  have hperm : d'.toList.Perm l := by
    have := hp.2.2
    rw [Array.extract_eq_self_of_le (by simp [hds]), Array.extract_eq_self_of_le (by simp)] at this
    simpa using this
  have hpair : d'.toList.Pairwise (fun a b => ltOf cf b a = false) := by
    rw [List.pairwise_iff_getElem]
    intro i j hi' hj' hij
    have hi2 : i < d'.size := by simpa using hi'
    have hj2 : j < d'.size := by simpa using hj'
    have := hs i j (Nat.zero_le _) hij (by rw [hds] at hj2; exact hj2)
    rw [getElem!_pos d' j hj2, getElem!_pos d' i hi2] at this
    simpa using this
  have hheap : ∀ b, (sortWorldK enc k w blk off n d' os).heap[b]? = if b < w.heap.size then (w.heap.modify blk (onCells (putCells id off (flatK enc k d'))))[b]? else os[b - w.heap.size]? := by
    intro b
    show ((w.heap.modify blk (onCells (putCells id off (flatK enc k d')))) ++ os)[b]? = _
    rw [Array.getElem?_append]
    simp only [Array.size_modify]
  have hbut : But (some blk) w (sortWorldK enc k w blk off n d' os) := by
    refine ⟨rfl, rfl, rfl, ?_, fun b o hb ho => ?_, ?_⟩
    · show w.heap.size ≤ ((w.heap.modify blk (onCells (putCells id off (flatK enc k d')))) ++ os).size
      simp
    · have hlt := lt_of_heap ho
      rw [hheap, if_pos hlt, Array.getElem?_modify, if_neg (fun e => hb (by rw [e]))]
      exact ho
    · show w.drawn ≤ w.drawn + n
      omega
  have hnew : (sortWorldK enc k w blk off n d' os).heap[blk]? = some (.cells (putCells id off (flatK enc k d') c) e z) := by
    rw [hheap, if_pos hblk, Array.getElem?_modify, if_pos rfl, h7]
    rfl
  have hll : (σ.live.set r false).length = σ.live.length := by simp
  obtain ⟨q1, q2⟩ := hi.right hbut (live := σ.live.set r false) hll (fun j hj => by
      by_cases e : r = j
      · subst e
        rw [List.getElem?_set_self (List.getElem?_eq_some_iff.1 hlive).1] at hj
        cases hj
      · rwa [List.getElem?_set_ne e] at hj)
    (k := blk) ⟨h4, h5, h6, fun j v s es hj hrj hb => by
      by_cases e : r = j
      · subst e
        rw [List.getElem?_set_self (List.getElem?_eq_some_iff.1 hlive).1] at hj
        cases hj
      · rw [List.getElem?_set_ne e] at hj
        exact e (hi.apart r j _ _ _ _ _ _ blk hlive hj hrho hrj rfl hb)⟩
    (v := .slice (some ⟨blk, off, none⟩) (l.map encV).length cap) (s := k) (es := d'.toList.map encV) (f := true) (fun _ => ⟨rfl, by
      refine ⟨⟨blk, off, none⟩, cap, by simp [hds], rfl, by simp only [List.length_map, Array.length_toList, hds]; rw [hlen] at h3; exact h3, h4, h5, h6, _, e, z, d'.toList.flatMap enc, hnew, fun i x hx => ?_, repE_map (fun x => hrep _ x) hk h1 _, ?_, h11⟩
      · have hfl2 := flat_len hk d'.toList
        have hi2 : i < d'.toList.length * k := by rw [← hfl2]; exact (List.getElem?_eq_some_iff.1 hx).1
        rw [flat_get hk _ _ hi2] at hx
        have hi3 : i < l.length * k := by simpa [hds] using hi2
        have hlt : off + i < c.size := by
          have := hcell i hi3
          exact (Array.getElem?_eq_some_iff.1 this).1
        simp only [putCells]
        rw [Array.getElem?_mapIdx, Array.getElem?_eq_getElem hlt]
        simp only [Option.map_some]
        have hi4 : i < d'.size * k := by simpa using hi2
        rw [if_pos ⟨by omega, by rw [size_flatK]; omega⟩, Nat.add_sub_cancel_left, get_flatK enc k d' i hi4]
        simpa using hx
      · simp only [putCells, Array.size_mapIdx]; exact h10⟩)
  refine ⟨.tuple #[], .tup [], _, _, σ.live.length, d'.toList.map encV, rfl, q2, q1, ?_, ⟨.slice (some ⟨blk, off, none⟩) (l.map encV).length cap, hrho, ?_⟩, by simp [hds], d'.toList, hperm, hpair, rfl, rfl, rfl, rfl⟩
  · simp only [Rep]
    exact ⟨[], rfl, rfl⟩
  · show (γ.rho ++ [_])[σ.live.length]? = _
    rw [← hi.rholen]; simp
/-- slices.SortFunc of no elements. -/
theorem sort_nil {ρ : Ren} (L : SlLaysF0.n6 P ρ) (hfn : ∃ fn, P.funcs[ρ.f 6]? = some fn ∧ fn.body.isSome = true ∧ (fn.name == "runtime.NumGoroutine") = false) {R : R} {s : Nat} {f : V} :
    CallA P (ρ.f 6) [.sl true R s [], f] σ fun v σ' => σ' = σ ∧ v = .tup [] := by
  refine ⟨hfn, fun γ w vs hi hr => ?_⟩
  simp only [RepL, Rep] at hr
  obtain ⟨v1, _, rfl, ⟨-, rfl⟩, v2, _, rfl, -, rfl⟩ := hr
  refine (AnyF.slices_SortFunc_none L none 0 v2 w).mono ?_
  rintro e w' ⟨rfl, rfl⟩
  refine ⟨.tuple #[], .tup [], σ, γ, rfl, Le.refl γ, hi, ?_, rfl, rfl⟩
  simp only [Rep]
  exact ⟨[], rfl, rfl⟩
end
end Go.VL

namespace Go.Proofs
open Go.Shelf Go.RowKit Go.Lib Go.Sort
set_option maxHeartbeats 1000000 in
set_option maxRecDepth 100000 in
theorem lwwCompareString (a b : ByteArray) (w : World) :
    Calls Try.prog 45 #[.string a, .string b] w fun e w' => e = .returned (.int .i64 (Lib.compareBytes a.data.toList b.data.toList)) ∧ w' = w := by
  go_enter Try.func45, Try.ntmps45
  go_wp2
  rw [run_callFunc_extern Try.func57 (by kernel_rfl) (by kernel_rfl) (by kernel_rfl) (e := Extern.BytealgCompare.compare) (by kernel_rfl), Lib.run_compareString]
  simp only [Result.andThen]
  rw [Oper.upon_value]
  go_wp2
  go_ret
  exact ⟨rfl, rfl⟩
set_option maxHeartbeats 1000000 in
theorem lwwCompare (a b : ByteArray) (w : World) :
    Calls Try.prog 39 #[.string a, .string b] w fun e w' => e = .returned (.int .i64 (Lib.compareBytes a.data.toList b.data.toList)) ∧ w' = w := by
  go_enter Try.func39, Try.ntmps39
  go_wp2_with (go_at_call 45; refine (lwwCompareString _ _ _).mono ?_; rintro e w' ⟨rfl, rfl⟩)
  go_ret
  exact ⟨rfl, rfl⟩
shelf_lay_g SlLaysF0.n6 Slsf 6 at Try 37 as lwwSort
end Go.Proofs
namespace Go.VL.lww
open Go Go.VL Go.Proofs Go.IntWalk Go.Shelf Go.Sort
section
variable {σ : St} {a b : List UInt8}
theorem scmp_ok : CallA Try.prog 39 [.str a, .str b] σ fun v σ' => σ' = σ ∧ v = .int .i64 (Lib.compareBytes a b) := by
  refine ⟨⟨Try.f39, Try.func39, rfl, by kernel_rfl⟩, fun γ w vs hi hr => ?_⟩
  simp only [RepL, Rep] at hr
  obtain ⟨v1, _, rfl, rfl, v2, _, rfl, rfl, rfl⟩ := hr
  refine (lwwCompare _ _ w).mono ?_
  rintro e w' ⟨rfl, rfl⟩
  exact ⟨_, .int .i64 (Lib.compareBytes a b), σ, γ, rfl, Le.refl γ, hi, by simp only [Rep], rfl, rfl⟩
theorem cmpB_lt : ∀ (a b : List UInt8), decide (Lib.compareBytes a b < 0) = strLess a b
  | [], [] => rfl
  | [], _ :: _ => rfl
  | _ :: _, [] => rfl
  | x :: a, y :: b => by
    have ih := cmpB_lt a b
    simp only [Lib.compareBytes, strLess]
    by_cases h1 : x < y
    · simp [h1]
    · by_cases h2 : y < x
      · have : x ≠ y := fun e => by subst e; exact h1 h2
        simp [h1, h2, this]
      · have : x = y := UInt8.toNat_inj.1 (by rw [UInt8.lt_iff_toNat_lt] at h1 h2; omega)
        subst this
        simp [h1, ih]
def cfR (a b : Rg) : Int := bif decide (cmp a.nc a.nr b.nc b.nr = 0) then Lib.compareBytes a.name b.name else cmp a.nc a.nr b.nc b.nr
theorem cfR_lt (a b : Rg) : ltOf cfR a b = ahead a b := by
  unfold ltOf cfR ahead
  rw [cmp_zero]
  cases h : (decide (a.nc = b.nc) && decide (a.nr = b.nr))
  · simp only [cond_false, Bool.false_and, Bool.or_false]
    unfold cmp
    rw [h]
    cases less a.nc a.nr b.nc b.nr <;> rfl
  · simp only [cond_true, Bool.true_and, cmpB_lt]
    have : less a.nc a.nr b.nc b.nr = false := by
      simp only [Bool.and_eq_true, decide_eq_true_eq] at h
      simp only [less, Bool.or_eq_false_iff, Bool.and_eq_false_iff, decide_eq_false_iff_not]
      omega
    rw [this, Bool.false_or]
theorem cfR_swo : SWO (ltOf cfR) := by
  have e : ltOf cfR = ahead := by funext a b; exact cfR_lt a b
  rw [e]
  refine ⟨ahead_self, fun _ _ _ => ahead_trans, fun x y z h1 h2 => ?_⟩
  cases h : ahead x z with
  | false => rfl
  | true =>
    cases hs : sameK x y with
    | true => rw [ahead_congr hs, h2] at h; cases h
    | false => rw [ahead_trans (ahead_total hs h1) h] at h2; cases h2
end
section
variable {σ : St} {a b : Rg}
set_option maxRecDepth 100000 in
set_option maxHeartbeats 1600000 in
theorem cfR_ok : CallA Try.prog 38 [regV a, regV b] σ fun v σ' => σ' = σ ∧ v = .int .i64 (cfR a b) := by
  refine fn_at Try.func38 (by decide) comp38 rfl fun Q q1 q2 => ?_
  unfold cfR at q1 q2
  simp -implicitDefEqProofs only [go_sem, Nat.reduceBEq, Nat.reduceAdd, eq_self, true_and, and_true, and_self, List.getElem?_cons_zero, List.getElem?_cons_succ, Nat.reduceLeDiff, Nat.zero_add, Nat.reduceSub, Nat.le_refl, c38, regV, regC]
  refine call_at compare_ok ?_
  rintro v τ ⟨rfl, rfl⟩
  refine ⟨kept_none, ?_⟩
  cases h : decide (cmp a.nc a.nr b.nc b.nr = 0) <;> rw [h] at q1 q2
  · simp -implicitDefEqProofs only [go_sem, Nat.reduceBEq, Nat.reduceAdd, eq_self, true_and, and_true, and_self, List.getElem?_cons_zero, List.getElem?_cons_succ, Nat.reduceLeDiff, Nat.zero_add, Nat.reduceSub, Nat.le_refl, h]
    refine q2 _ _ ?_
    simp -implicitDefEqProofs only [go_sem, Nat.reduceBEq, Nat.reduceAdd, eq_self, true_and, and_true, and_self, List.getElem?_cons_zero, List.getElem?_cons_succ, Nat.reduceLeDiff, Nat.zero_add, Nat.reduceSub, Nat.le_refl, Nat.lt_irrefl]
  · simp -implicitDefEqProofs only [go_sem, Nat.reduceBEq, Nat.reduceAdd, eq_self, true_and, and_true, and_self, List.getElem?_cons_zero, List.getElem?_cons_succ, Nat.reduceLeDiff, Nat.zero_add, Nat.reduceSub, Nat.le_refl, h]
    refine call_at scmp_ok ?_
    rintro v τ ⟨rfl, rfl⟩
    refine ⟨kept_none, ?_⟩
    simp -implicitDefEqProofs only [go_sem, Nat.reduceBEq, Nat.reduceAdd, eq_self, true_and, and_true, and_self, List.getElem?_cons_zero, List.getElem?_cons_succ, Nat.reduceLeDiff, Nat.zero_add, Nat.reduceSub, Nat.le_refl, Nat.lt_irrefl]
    refine q2 _ _ ?_
    simp -implicitDefEqProofs only [go_sem, Nat.reduceBEq, Nat.reduceAdd, eq_self, true_and, and_true, and_self, List.getElem?_cons_zero, List.getElem?_cons_succ, Nat.reduceLeDiff, Nat.zero_add, Nat.reduceSub, Nat.le_refl, Nat.lt_irrefl]
def regE (r : Rg) : List Value := [.int .i64 r.nc, .int .i64 r.nr, .string ⟨r.name.toArray⟩, .int .i64 r.ac, .int .i64 r.ar, .string ⟨r.val.toArray⟩, .bool r.gone]
theorem regE_rep (γ : G) (r : Rg) : RepL γ (regC r) (regE r) := by
  simp only [regC, regE, RepL, Rep]
  exact ⟨_, _, rfl, rfl, _, _, rfl, rfl, _, _, rfl, rfl, _, _, rfl, rfl, _, _, rfl, rfl, _, _, rfl, rfl, _, _, rfl, rfl, rfl⟩
theorem regE_det (γ : G) (r : Rg) (ws : List Value) (h : RepL γ (regC r) ws) : ws = regE r := by
  simp only [regC, RepL, Rep] at h
  obtain ⟨_, _, rfl, rfl, _, _, rfl, rfl, _, _, rfl, rfl, _, _, rfl, rfl, _, _, rfl, rfl, _, _, rfl, rfl, _, _, rfl, rfl, rfl⟩ := h
  rfl
theorem regE_one (r : Rg) : ∀ v ∈ regE r, v.oneCell' = true := by
  intro v hv
  simp only [regE, List.mem_cons, List.not_mem_nil, or_false] at hv
  rcases hv with rfl | rfl | rfl | rfl | rfl | rfl | rfl <;> rfl
end
end Go.VL.lww

namespace Go.VL.lww
open Go Go.VL Go.Proofs Go.IntWalk Go.Shelf Go.Sort

/-- A slice that was begun as nil. -/
def Acc (n : Nat) (τ : St) (w : V) (l : List Rg) : Prop := (l = [] ∧ w = .sl true .pub 7 []) ∨ ∃ q, w = .sl false (.own q) 7 (regsV l) ∧ τ.live[q]? = some true ∧ n ≤ q
theorem Acc.rd {n : Nat} {τ : St} {w : V} {l : List Rg} (h : Acc n τ w l) : RdS τ w 7 (regsV l) := by
  rcases h with ⟨rfl, rfl⟩ | ⟨q, rfl, h1, h2⟩
  · exact ⟨true, .pub, 7, rfl, by simp [regsV], .inl rfl⟩
  · exact ⟨false, .own q, 7, rfl, by simp, .inr ⟨h1, rfl⟩⟩
theorem ents_split {T : List Rg} {a b : List (V × V)} {x : V × V} (h : ents T = a ++ x :: b) : ∃ u r v, T = u ++ r :: v ∧ a = ents u ∧ b = ents v ∧ x = (.agg (keyC r), regV r) := by
  unfold ents at h
  obtain ⟨u, v, e1, e2, e3⟩ := List.map_eq_append_iff.1 h
  obtain ⟨r, v', e4, e5, e6⟩ := List.map_eq_cons_iff.1 e3
  subst e4
  exact ⟨u, r, v', e1, e2.symm, e6.symm, e5.symm⟩
theorem ents_nil {T : List Rg} (h : ents T = []) : T = [] := by cases T <;> simp [ents] at h ⊢
theorem setA_ne {τ : St} {i j : Nat} {o : AObj} (h : j ≠ i) : (τ.setA i o).objs[j]? = τ.objs[j]? := by
  show (τ.objs.set i o)[j]? = _
  rw [List.getElem?_set_ne (Ne.symm h)]
theorem setA_at {τ : St} {i : Nat} {o o' : AObj} (h : τ.objs[i]? = some o') : (τ.setA i o).objs[i]? = some o := by
  show (τ.objs.set i o)[i]? = _
  rw [List.getElem?_set_self (List.getElem?_eq_some_iff.1 h).1]
theorem ext_setA {σ τ : St} (h : Ext σ τ) {i : Nat} (hi : σ.objs.length ≤ i) {o : AObj} : Ext σ (τ.setA i o) :=
  ⟨fun j x hj => by
    have h1 := (List.getElem?_eq_some_iff.1 hj).1
    rw [setA_ne (by omega)]
    exact h.objs _ _ hj, h.live, by
    show σ.objs.length ≤ (τ.objs.set i _).length
    rw [List.length_set]; exact h.olen, h.llen⟩

section
variable {σ : St} {i m : Nat} {L T : List Rg}
theorem all_nil : CallA Try.prog 22 [.ptr none] σ fun v σ' => σ' = σ ∧ v = .sl true .pub 7 [] := by
  refine fn_at Try.func22 (by decide) comp22 rfl fun Q q1 q2 => ?_
  simp -implicitDefEqProofs only [go_sem, Nat.reduceBEq, Nat.reduceAdd, eq_self, true_and, and_true, and_self, List.getElem?_cons_zero, List.getElem?_cons_succ, Nat.reduceLeDiff, Nat.zero_add, Nat.reduceSub, Nat.le_refl, c22]
  refine q2 _ _ ?_
  simp -implicitDefEqProofs only [go_sem, Nat.reduceBEq, Nat.reduceAdd, eq_self, true_and, and_true, and_self, List.getElem?_cons_zero, List.getElem?_cons_succ, Nat.reduceLeDiff, Nat.zero_add, Nat.reduceSub, Nat.le_refl, Nat.lt_irrefl]
  try exact ⟨rfl, rfl⟩

theorem sort_fn : ∃ fn, Try.prog.funcs[lwwSort_ren.f 6]? = some fn ∧ fn.body.isSome = true ∧ (fn.name == "runtime.NumGoroutine") = false := ⟨Try.f37, Try.func37, rfl, by decide⟩
instance : Inhabited Rg := ⟨zeroR⟩
theorem sort_regs {q : Nat} {l : List Rg} (hq : σ.live[q]? = some true) (hl : l.length < 4611686018427387904) :
    CallM Try.prog 37 [.sl false (.own q) 7 (regsV l), .fn 38 []] q 7 (regsV l) σ fun v r' es' σ' => ∃ l' : List Rg, l'.Perm l ∧ l'.Pairwise (fun a b => ahead b a = false) ∧ es' = regsV l' ∧ v = .tup [] ∧
      r' = σ.live.length ∧ σ' = ⟨σ.objs, σ.live.set q false ++ [true]⟩ := by
  have h := sort_cm (P := Try.prog) (ρ := lwwSort_ren) (σ := σ) lwwSort 7 Try.isAgg25 Try.sizeOf25 regC regE regE_rep (fun _ => rfl) regE_one regE_det cfR cfR_swo 38
    (fun x y => (cfR_ok (a := x) (b := y)).mono fun _ _ h => h.2) sort_fn (r := q) (l := l) hq hl
  simp only [cfR_lt] at h
  exact h
theorem sort_none : CallA Try.prog 37 [.sl true .pub 7 [], .fn 38 []] σ fun v σ' => σ' = σ ∧ v = .tup [] := sort_nil (ρ := lwwSort_ren) lwwSort sort_fn

set_option maxRecDepth 100000 in
set_option maxHeartbeats 3200000 in
theorem all_ok (h : IsRegs σ i m T) (hH : Has L T) (hlen : T.length ≤ 268435456) :
    CallA Try.prog 22 [.ptr (some (i, 0))] σ fun v σ' => ∃ S, Canon L S ∧ S.length = T.length ∧ RdS σ' v 7 (regsV S) ∧ Ext σ σ' := by
  obtain ⟨ver, h1, h2⟩ := h
  refine fn_at Try.func22 (by decide) comp22 rfl fun Q q1 q2 => ?_
  simp -implicitDefEqProofs only [go_sem, Nat.reduceBEq, Nat.reduceAdd, eq_self, true_and, and_true, and_self, List.getElem?_cons_zero, List.getElem?_cons_succ, Nat.reduceLeDiff, Nat.zero_add, Nat.reduceSub, Nat.le_refl, c22, h1, h2]
  refine loop_at (fun (x : List Rg × List Rg × V) => ⟨[(0, .v (.ptr (some (i, 0)))), (3, .v x.2.2), (12, .v (.ptr (some (σ.objs.length, 0))))], []⟩)
    (fun x τ => (x.2.1 ++ x.1).Perm T ∧ Ext σ τ ∧ τ.objs[m]? = some (.mp KL (ents T) ver) ∧ (∃ cur, τ.objs[σ.objs.length]? = some (.it (some (m, ver)) (ents x.1) cur)) ∧ Acc σ.live.length τ x.2.2 x.2.1) (fun x => x.1.length) (T, [], .sl true .pub 7 []) ?_ ?_ ?_
  · refine .inr ?_
    simp -implicitDefEqProofs only [go_sem, Nat.reduceBEq, Nat.reduceAdd, eq_self, true_and, and_true, and_self, List.getElem?_cons_zero, List.getElem?_cons_succ, Nat.reduceLeDiff, Nat.zero_add, Nat.reduceSub, Nat.le_refl, Nat.lt_irrefl]
    try trivial
  · exact ⟨by simp, ext_obj _ _, (ext_obj σ _).objs _ _ h2, ⟨none, by simp⟩, .inl ⟨rfl, rfl⟩⟩
  rintro ⟨lf, dn, w⟩ τ ⟨g1, g2, g3, ⟨cur, g4⟩, g5⟩ Z z1 z2 z3
  simp only at g1 g4 g5
  have hm : m ≠ σ.objs.length := by have := (List.getElem?_eq_some_iff.1 h2).1; omega
  have hwS : IsSl w := g5.rd.isSl
  obtain ⟨wb, wR, wz, wes, hw⟩ := hwS
  subst hw
  simp -implicitDefEqProofs only [go_sem, Nat.reduceBEq, Nat.reduceAdd, eq_self, true_and, and_true, and_self, List.getElem?_cons_zero, List.getElem?_cons_succ, Nat.reduceLeDiff, Nat.zero_add, Nat.reduceSub, Nat.le_refl, Nat.lt_irrefl]
  refine nx_at g4 (by rw [g3]; exact rfl) (fun hn => ?_) (fun a x b hx => ?_)
  · simp -implicitDefEqProofs only [go_sem, Nat.reduceBEq, Nat.reduceAdd, eq_self, true_and, and_true, and_self, List.getElem?_cons_zero, List.getElem?_cons_succ, Nat.reduceLeDiff, Nat.zero_add, Nat.reduceSub, Nat.le_refl, Nat.lt_irrefl]
    refine z2 _ _ _ ?_
    simp -implicitDefEqProofs only [go_sem, Nat.reduceBEq, Nat.reduceAdd, eq_self, true_and, and_true, and_self, List.getElem?_cons_zero, List.getElem?_cons_succ, Nat.reduceLeDiff, Nat.zero_add, Nat.reduceSub, Nat.le_refl, Nat.lt_irrefl]
    have hlf := ents_nil hn
    subst hlf
    rw [List.append_nil] at g1
    rcases g5 with ⟨hd, e⟩ | ⟨q, e, hq, hn⟩
    · cases e
      refine cm_nil sort_none ?_
      rintro v σ' ⟨rfl, rfl⟩
      refine ⟨kept_none, ?_⟩
      simp -implicitDefEqProofs only [go_sem, Nat.reduceBEq, Nat.reduceAdd, eq_self, true_and, and_true, and_self, List.getElem?_cons_zero, List.getElem?_cons_succ, Nat.reduceLeDiff, Nat.zero_add, Nat.reduceSub, Nat.le_refl, Nat.lt_irrefl]
      refine q2 _ _ ?_
      simp -implicitDefEqProofs only [go_sem, Nat.reduceBEq, Nat.reduceAdd, eq_self, true_and, and_true, and_self, List.getElem?_cons_zero, List.getElem?_cons_succ, Nat.reduceLeDiff, Nat.zero_add, Nat.reduceSub, Nat.le_refl, Nat.lt_irrefl]
      subst hd
      exact ⟨[], hH.sorted g1 .nil, by rw [← g1.length_eq], ⟨true, .pub, 7, rfl, by simp [regsV], .inl rfl⟩, g2⟩
    · cases e
      refine cm_at (sort_regs hq (by rw [g1.length_eq]; omega)) ?_
      rintro v r' es' σ' ⟨S, p1, p2, rfl, rfl, rfl, rfl⟩
      refine ⟨kept_none, ?_⟩
      simp -implicitDefEqProofs only [go_sem, Nat.reduceBEq, Nat.reduceAdd, eq_self, true_and, and_true, and_self, List.getElem?_cons_zero, List.getElem?_cons_succ, Nat.reduceLeDiff, Nat.zero_add, Nat.reduceSub, Nat.le_refl, renL, beq_self_eq_true, cond_true]
      refine q2 _ _ ?_
      simp -implicitDefEqProofs only [go_sem, Nat.reduceBEq, Nat.reduceAdd, eq_self, true_and, and_true, and_self, List.getElem?_cons_zero, List.getElem?_cons_succ, Nat.reduceLeDiff, Nat.zero_add, Nat.reduceSub, Nat.le_refl, Nat.lt_irrefl]
      refine ⟨S, hH.sorted (p1.trans g1) p2, (p1.trans g1).length_eq, ⟨false, .own τ.live.length, 7, rfl, by simp, .inr ⟨?_, rfl⟩⟩, ?_⟩
      · show (τ.live.set q false ++ [true])[τ.live.length]? = some true
        simp
      · exact ext_kill g2 hn
  · obtain ⟨u, r, v, rfl, rfl, rfl, rfl⟩ := ents_split hx
    have k4 := setA_at (o := .it (some (m, ver)) (ents u ++ ents v) (some (.agg (keyC r), regV r))) g4
    have k3 : (τ.setA σ.objs.length (.it (some (m, ver)) (ents u ++ ents v) (some (.agg (keyC r), regV r)))).objs[m]? = _ := (setA_ne hm).trans g3
    have e3 := ext_setA g2 (Nat.le_refl _) (o := .it (some (m, ver)) (ents u ++ ents v) (some (.agg (keyC r), regV r)))
    have hlv : (τ.setA σ.objs.length (.it (some (m, ver)) (ents u ++ ents v) (some (.agg (keyC r), regV r)))).live = τ.live := rfl
    generalize (τ.setA σ.objs.length (.it (some (m, ver)) (ents u ++ ents v) (some (.agg (keyC r), regV r)))) = τ1 at k4 k3 e3 hlv ⊢
    have hv1 : isV (some (AObj.mp KL (ents (u ++ r :: v)) ver)) ver := rfl
    have hperm : ((dn ++ [r]) ++ (u ++ v)).Perm T := by
      refine List.Perm.trans ?_ g1
      simp only [List.append_assoc, List.singleton_append]
      exact List.Perm.append_left _ (List.perm_middle.symm)
    have hdl : dn.length ≤ 268435456 := by
      have := g1.length_eq
      simp only [List.length_append, List.length_cons] at this; omega
    have fin : ∀ (F : Fr) (τ2 : St) (q : Nat), FrLe ⟨[(0, .v (.ptr (some (i, 0)))), (3, .v (.sl false (.own q) 7 (regsV (dn ++ [r])))), (12, .v (.ptr (some (σ.objs.length, 0))))], []⟩ F → Ext σ τ2 → τ2.objs = τ1.objs → τ2.live[q]? = some true → σ.live.length ≤ q → Z .normal F τ2 := by
      intro F τ2 q hF f1 f2 f3 f4
      refine z1 (u ++ v, dn ++ [r], _) F τ2 hF ?_ ⟨hperm, f1, by rw [f2]; exact k3, ⟨_, by rw [f2]; simp only [ents, List.map_append] at k4 ⊢; exact k4⟩, .inr ⟨q, rfl, f3, f4⟩⟩
      simp only [List.length_append, List.length_cons]; omega
    rcases g5 with ⟨hd, e⟩ | ⟨q, e, hq, hn⟩
    · cases e
      subst hd
      simp -implicitDefEqProofs only [go_sem, Nat.reduceBEq, Nat.reduceAdd, eq_self, true_and, and_true, and_self, List.getElem?_cons_zero, List.getElem?_cons_succ, Nat.reduceLeDiff, Nat.zero_add, Nat.reduceSub, Nat.le_refl, k4, k3, hv1, regV, regC]
      refine ⟨hv1, ⟨.inl trivial, rfl, .inr (live_last _ _), .inl trivial⟩, fin _ _ τ1.live.length.succ (.inr ?_) ?_ rfl ?_ ?_⟩
      · simp -implicitDefEqProofs only [go_sem, Nat.reduceBEq, Nat.reduceAdd, eq_self, true_and, and_true, and_self, List.getElem?_cons_zero, List.getElem?_cons_succ, Nat.reduceLeDiff, Nat.zero_add, Nat.reduceSub, Nat.le_refl, regsV, regC, List.length_append, List.length_singleton, List.nil_append, List.map_cons, List.map_nil, List.isEmpty_cons]
        try trivial
      · exact ext_push (ext_push e3)
      · show ((τ1.live ++ [true]) ++ [true])[τ1.live.length + 1]? = some true
        simp
      · rw [hlv]; have := g2.llen; omega
    · cases e
      simp -implicitDefEqProofs only [go_sem, Nat.reduceBEq, Nat.reduceAdd, eq_self, true_and, and_true, and_self, List.getElem?_cons_zero, List.getElem?_cons_succ, Nat.reduceLeDiff, Nat.zero_add, Nat.reduceSub, Nat.le_refl, k4, k3, hv1, regV, regC]
      rw [← hlv] at hq
      refine ⟨hv1, ⟨.inr trivial, .inr ((ext_live _ _).live _ hq), ⟨.inr (live_last _ _), .inl trivial⟩, by rw [regsV_length]; omega⟩, fin _ _ _ (.inr ?_) (ext_kill (ext_push e3) hn) rfl (live_last' _ _ _) ?_⟩
      · simp -implicitDefEqProofs only [go_sem, Nat.reduceBEq, Nat.reduceAdd, eq_self, true_and, and_true, and_self, List.getElem?_cons_zero, List.getElem?_cons_succ, Nat.reduceLeDiff, Nat.zero_add, Nat.reduceSub, Nat.le_refl, regsV, regC, List.map_append, List.map_cons, List.map_nil]
        try trivial
      · simp only [List.length_append, List.length_singleton]; rw [hlv]; have := g2.llen; omega
end
end Go.VL.lww

namespace Go.VL.lww
open Go Go.VL Go.Proofs Go.IntWalk

theorem get_some {S : List Rg} {r w : Rg} (h : S.find? (sameK r) = some w) : getR S r = w := by unfold getR; rw [h]; rfl

def same7 (u w : Rg) : Bool := V.eqs (regC u) (regC w)
theorem same7_self (w : Rg) : same7 w w = true := by
  obtain ⟨b1, b2, b3, b4, b5, b6, b7⟩ := w
  simp [same7, regC, V.eqs, V.eq]
def was (w : Rg) (l : List Rg) : Bool := l.any fun u => same7 u w
theorem was_mem {w : Rg} {l : List Rg} (h : w ∈ l) : was w l = true := List.any_eq_true.2 ⟨w, h, same7_self w⟩

section
variable {σ : St} {r : Rg} {l : List Rg} {v : V}
set_option maxRecDepth 100000 in
set_option maxHeartbeats 3200000 in
theorem latest_ok (hv : RdS σ v 7 (regsV l)) (hlen : ∀ r ∈ l, r.name.length < 4611686018427387904) (hl : l.length ≤ 268435456) :
    CallA Try.prog 4 [v] σ fun w _ => w = .bool true := by
  obtain ⟨b, R, z, rfl, -, -⟩ := id hv
  refine fn_at Try.func4 (by decide) comp4 rfl fun Q q1 q2 => ?_
  simp -implicitDefEqProofs only [go_sem, Nat.reduceBEq, Nat.reduceAdd, eq_self, true_and, and_true, and_self, List.getElem?_cons_zero, List.getElem?_cons_succ, Nat.reduceLeDiff, Nat.zero_add, Nat.reduceSub, Nat.le_refl, c4]
  refine call_at (laid_ok hv hlen hl) ?_
  rintro v τ ⟨i0, m, x, rfl, hr, -, he, -⟩
  refine ⟨kept_none, ?_⟩
  have hL := latest_puts (l.take 200)
  generalize puts (l.take 200) = S at hr hL
  have hlenL : (l.take 200).length ≤ 200 := by rw [List.length_take]; omega
  have hlen2 : ∀ r ∈ l.take 200, r.name.length < 4611686018427387904 := fun r hr => hlen r (List.mem_of_mem_take hr)
  have hz := rd_z hv
  have hl4 := regsV_length l
  simp -implicitDefEqProofs only [go_sem, Nat.reduceBEq, Nat.reduceAdd, eq_self, true_and, and_true, and_self, List.getElem?_cons_zero, List.getElem?_cons_succ, Nat.reduceLeDiff, Nat.zero_add, Nat.reduceSub, Nat.le_refl, Nat.lt_irrefl]
  refine cut_at (fun G τ' => τ' = τ ∧ ∃ b' R' z', G = ⟨[(0, .v (.sl b' R' z' (regsV (l.take 200)))), (3, .v (.ptr (some (i0, 0))))], []⟩ ∧ RdS τ (.sl b' R' z' (regsV (l.take 200))) 7 (regsV (l.take 200))) ?_ ?_
  · intro Z z1 z2 z3
    simp -implicitDefEqProofs only [go_sem, Nat.reduceBEq, Nat.reduceAdd, eq_self, true_and, and_true, and_self, List.getElem?_cons_zero, List.getElem?_cons_succ, Nat.reduceLeDiff, Nat.zero_add, Nat.reduceSub, Nat.le_refl, Nat.lt_irrefl]
    refine CondW_b (fun hc => ?_) (fun hc => ?_)
    · have hc := of_decide_eq_true hc
      simp -implicitDefEqProofs only [go_sem, Nat.reduceBEq, Nat.reduceAdd, eq_self, true_and, and_true, and_self, List.getElem?_cons_zero, List.getElem?_cons_succ, Nat.reduceLeDiff, Nat.zero_add, Nat.reduceSub, Nat.le_refl, Nat.lt_irrefl]
      have ht : List.take (Int.toNat 200) (regsV l) = regsV (l.take 200) := by simp [regsV, List.map_take]
      refine ⟨⟨hz, by decide, by decide, by show 200 ≤ _; omega⟩, ?_⟩
      rw [ht]
      refine z1 _ _ _ (.inr ?_) ⟨rfl, b, R.toView, z, rfl, ?_⟩
      · simp -implicitDefEqProofs only [go_sem, Nat.reduceBEq, Nat.reduceAdd, eq_self, true_and, and_true, and_self, List.getElem?_cons_zero, List.getElem?_cons_succ, Nat.reduceLeDiff, Nat.zero_add, Nat.reduceSub, Nat.le_refl, Nat.lt_irrefl]
      · have h2 := hv.ext he
        obtain ⟨_, _, _, e, h3, h4⟩ := h2
        cases e
        refine ⟨_, _, _, rfl, fun hb => ?_, h4.imp_right fun x => ⟨rd_toView x.1, x.2⟩⟩
        have := h3 hb
        rw [this] at hc
        simp at hc
    · have hc := of_decide_eq_false hc
      simp -implicitDefEqProofs only [go_sem, Nat.reduceBEq, Nat.reduceAdd, eq_self, true_and, and_true, and_self, List.getElem?_cons_zero, List.getElem?_cons_succ, Nat.reduceLeDiff, Nat.zero_add, Nat.reduceSub, Nat.le_refl, Nat.lt_irrefl]
      have ht : l.take 200 = l := List.take_of_length_le (by omega)
      refine z1 _ _ _ (.inr ?_) ⟨rfl, b, R, z, rfl, ?_⟩
      · rw [ht]; simp -implicitDefEqProofs only [go_sem, Nat.reduceBEq, Nat.reduceAdd, eq_self, true_and, and_true, and_self, List.getElem?_cons_zero, List.getElem?_cons_succ, Nat.reduceLeDiff, Nat.zero_add, Nat.reduceSub, Nat.le_refl, Nat.lt_irrefl]
      · rw [ht]; exact hv.ext he
  generalize l.take 200 = L at hL hlenL hlen2
  rintro G τ' ⟨rfl, b', R', z', rfl, hs⟩
  simp -implicitDefEqProofs only [go_sem, Nat.reduceBEq, Nat.reduceAdd, eq_self, true_and, and_true, and_self, List.getElem?_cons_zero, List.getElem?_cons_succ, Nat.reduceLeDiff, Nat.zero_add, Nat.reduceSub, Nat.le_refl, Nat.lt_irrefl]
  refine loop_at (fun (i : Nat) => ⟨[(0, .v (.sl b' R' z' (regsV L))), (3, .v (.ptr (some (i0, 0)))), (5, .v (.int .i64 i))], []⟩)
    (fun i τ1 => i ≤ L.length ∧ Ext τ' τ1) (fun i => L.length - i) 0 ?_ ?_ ?_
  · exact .inr (by simp -implicitDefEqProofs only [go_sem, Nat.reduceBEq, Nat.reduceAdd, eq_self, true_and, and_true, and_self, List.getElem?_cons_zero, List.getElem?_cons_succ, Nat.reduceLeDiff, Nat.zero_add, Nat.reduceSub, Nat.le_refl, Nat.lt_irrefl]; trivial)
  · exact ⟨Nat.zero_le _, Ext.refl _⟩
  rintro i τ1 ⟨g1, g2⟩ Z z1 z2 z3
  simp -implicitDefEqProofs only [go_sem, Nat.reduceBEq, Nat.reduceAdd, eq_self, true_and, and_true, and_self, List.getElem?_cons_zero, List.getElem?_cons_succ, Nat.reduceLeDiff, Nat.zero_add, Nat.reduceSub, Nat.le_refl, Nat.lt_irrefl]
  refine CondW_b (fun hcc => ?_) (fun hcc => ?_)
  case refine_2 =>
    simp -implicitDefEqProofs only [go_sem, Nat.reduceBEq, Nat.reduceAdd, eq_self, true_and, and_true, and_self, List.getElem?_cons_zero, List.getElem?_cons_succ, Nat.reduceLeDiff, Nat.zero_add, Nat.reduceSub, Nat.le_refl, Nat.lt_irrefl]
    refine z2 _ _ _ ?_
    simp -implicitDefEqProofs only [go_sem, Nat.reduceBEq, Nat.reduceAdd, eq_self, true_and, and_true, and_self, List.getElem?_cons_zero, List.getElem?_cons_succ, Nat.reduceLeDiff, Nat.zero_add, Nat.reduceSub, Nat.le_refl, Nat.lt_irrefl]
    refine call_at awake_ok ?_
    rintro v τ2 ⟨rfl, he2⟩
    refine ⟨kept_none, ?_⟩
    simp -implicitDefEqProofs only [go_sem, Nat.reduceBEq, Nat.reduceAdd, eq_self, true_and, and_true, and_self, List.getElem?_cons_zero, List.getElem?_cons_succ, Nat.reduceLeDiff, Nat.zero_add, Nat.reduceSub, Nat.le_refl, Nat.lt_irrefl]
    refine q2 _ _ ?_
    simp -implicitDefEqProofs only [go_sem, Nat.reduceBEq, Nat.reduceAdd, eq_self, true_and, and_true, and_self, List.getElem?_cons_zero, List.getElem?_cons_succ, Nat.reduceLeDiff, Nat.zero_add, Nat.reduceSub, Nat.le_refl, Nat.lt_irrefl]
  have hi : i < L.length := by simpa [regsV_length] using hcc
  obtain ⟨k1, k2⟩ := rdl (hs.ext g2) (by cases L <;> simp [regsV] at hi ⊢)
  have hget := regsV_get hi
  have hib : (i : Int) < (regsV L).length := by rw [regsV_length]; omega
  have hmem := List.getElem_mem hi
  generalize L[i] = y at hget hmem
  have hyl := hlen2 y hmem
  simp -implicitDefEqProofs only [go_sem, Nat.reduceBEq, Nat.reduceAdd, eq_self, true_and, and_true, and_self, List.getElem?_cons_zero, List.getElem?_cons_succ, Nat.reduceLeDiff, Nat.zero_add, Nat.reduceSub, Nat.le_refl, hget, regC]
  refine cut_at (fun G τ2 => G = ⟨[(0, .v (.sl b' R' z' (regsV L))), (3, .v (.ptr (some (i0, 0)))), (5, .v (.int .i64 i))], []⟩ ∧ Ext τ1 τ2) ?_ ?_
  case refine_2 =>
    rintro G τ2 ⟨rfl, he2⟩
    simp -implicitDefEqProofs only [go_sem, Nat.reduceBEq, Nat.reduceAdd, eq_self, true_and, and_true, and_self, List.getElem?_cons_zero, List.getElem?_cons_succ, Nat.reduceLeDiff, Nat.zero_add, Nat.reduceSub, Nat.le_refl, Nat.lt_irrefl]
    refine z1 (i + 1) _ _ (.inr ?_) (by omega) ⟨by omega, g2.trans he2⟩
    simp -implicitDefEqProofs only [go_sem, Nat.reduceBEq, Nat.reduceAdd, eq_self, true_and, and_true, and_self, List.getElem?_cons_zero, List.getElem?_cons_succ, Nat.reduceLeDiff, Nat.zero_add, Nat.reduceSub, Nat.le_refl, Nat.lt_irrefl]
    rw [i64_in _ (by omega)]; simp
  intro Y y1 y2 y3
  simp -implicitDefEqProofs only [go_sem, Nat.reduceBEq, Nat.reduceAdd, eq_self, true_and, and_true, and_self, List.getElem?_cons_zero, List.getElem?_cons_succ, Nat.reduceLeDiff, Nat.zero_add, Nat.reduceSub, Nat.le_refl, hget, regC]
  refine ⟨⟨by omega, hib, k2⟩, k1, call_at (rcheck_ok (r := y) hyl) ?_⟩
  rintro v τ2 ⟨rfl, rfl⟩
  refine ⟨kept_none, ?_⟩
  simp -implicitDefEqProofs only [go_sem, Nat.reduceBEq, Nat.reduceAdd, eq_self, true_and, and_true, and_self, List.getElem?_cons_zero, List.getElem?_cons_succ, Nat.reduceLeDiff, Nat.zero_add, Nat.reduceSub, Nat.le_refl, Nat.lt_irrefl]
  refine CondW_b (fun hk => ?_) (fun hk => ?_)
  · simp -implicitDefEqProofs only [go_sem, Nat.reduceBEq, Nat.reduceAdd, eq_self, true_and, and_true, and_self, List.getElem?_cons_zero, List.getElem?_cons_succ, Nat.reduceLeDiff, Nat.zero_add, Nat.reduceSub, Nat.le_refl, Nat.lt_irrefl]
    refine y1 _ _ _ (.inr ?_) ⟨rfl, Ext.refl _⟩
    simp -implicitDefEqProofs only [go_sem, Nat.reduceBEq, Nat.reduceAdd, eq_self, true_and, and_true, and_self, List.getElem?_cons_zero, List.getElem?_cons_succ, Nat.reduceLeDiff, Nat.zero_add, Nat.reduceSub, Nat.le_refl, Nat.lt_irrefl]
  have hk : chk y = 0 := by simpa using hk
  obtain ⟨w, hw1, hw2⟩ := hL.2 y hmem hk
  have hgw := get_some hw1
  have hwm := hL.1 w (List.mem_of_find?_eq_some hw1)
  simp -implicitDefEqProofs only [go_sem, Nat.reduceBEq, Nat.reduceAdd, eq_self, true_and, and_true, and_self, List.getElem?_cons_zero, List.getElem?_cons_succ, Nat.reduceLeDiff, Nat.zero_add, Nat.reduceSub, Nat.le_refl, hget, regC]
  have hgt := fun (τx : St) (he : Ext τ2 τx) => get_ok (r := y) (hr.ext (g2.trans he))
  rw [hgw, hw1] at hgt
  simp only [stV, Option.isSome_some] at hgt
  have hlast : ∀ (a : List AObj) x, (a ++ [x])[a.length]? = some x := fun a x => by simp
  refine ⟨⟨⟨by omega, hib, k2⟩, k1, ⟨by omega, hib, k2⟩, k1, call_at (hgt τ2 (Ext.refl _)) ?_⟩, ⟨by omega, hib, k2⟩, k1, ⟨by omega, hib, k2⟩, k1, call_at (hgt _ (ext_obj τ2 _)) ?_⟩
  case' refine_1 =>
    rintro v τ3 ⟨rfl, he3, -⟩
    refine ⟨he3.kept, ?_⟩
    simp -implicitDefEqProofs only [go_sem, Nat.reduceBEq, Nat.reduceAdd, eq_self, true_and, and_true, and_self, List.getElem?_cons_zero, List.getElem?_cons_succ, Nat.reduceLeDiff, Nat.zero_add, Nat.reduceSub, Nat.le_refl, hlast, regV, regC]
    have hp : (({ objs := τ3.objs ++ [.cells [.int .i64 0, .int .i64 0, .str [], .int .i64 0, .int .i64 0, .str [], .bool false]], live := τ3.live } : St).setC τ3.objs.length (regC w)).objs[τ3.objs.length]? = some (.cells (regC w)) := by
      show ((τ3.objs ++ [_]).set _ _)[_]? = _
      simp
    have he4 := he3.trans (ext_cell (σ := τ3) (.cells [.int .i64 0, .int .i64 0, .str [], .int .i64 0, .int .i64 0, .str [], .bool false]) (regC w))
    generalize τ3.objs.length = p at hp he4
  case' refine_2 =>
    rintro v τ3 ⟨rfl, he3, -⟩
    refine ⟨he3.kept, ?_⟩
    have ho := he3.objs _ _ (hlast _ _)
    simp -implicitDefEqProofs only [go_sem, Nat.reduceBEq, Nat.reduceAdd, eq_self, true_and, and_true, and_self, List.getElem?_cons_zero, List.getElem?_cons_succ, Nat.reduceLeDiff, Nat.zero_add, Nat.reduceSub, Nat.le_refl, ho, regV, regC]
    have hp : (τ3.setC τ2.objs.length (regC w)).objs[τ2.objs.length]? = some (.cells (regC w)) := by
      show (τ3.objs.set _ _)[_]? = _
      have := (List.getElem?_eq_some_iff.1 ho).1
      simp [this]
    have he4 := ext_set ((ext_obj τ2 _).trans he3) (Nat.le_refl _) (cs := regC w)
    generalize τ2.objs.length = p at hp he4
  all_goals
    simp only [regC] at hp he4
    revert hp he4
    generalize St.setC _ _ _ = τ4
    intro hp he4
    have k4 := rdl (hs.ext (g2.trans he4)) (by cases L <;> simp [regsV] at hi ⊢)
    simp -implicitDefEqProofs only [go_sem, Nat.reduceBEq, Nat.reduceAdd, eq_self, true_and, and_true, and_self, List.getElem?_cons_zero, List.getElem?_cons_succ, Nat.reduceLeDiff, Nat.zero_add, Nat.reduceSub, Nat.le_refl, hget, regC, hp, regV]
    refine ⟨⟨by omega, hib, k2⟩, k4.1, call_at (wins_ok (a := y) (b := w)) ?_⟩
    rintro v τ5 ⟨rfl, rfl⟩
    refine ⟨(Ext.refl _).kept, ?_⟩
    simp -implicitDefEqProofs only [go_sem, Nat.reduceBEq, Nat.reduceAdd, eq_self, true_and, and_true, and_self, List.getElem?_cons_zero, List.getElem?_cons_succ, Nat.reduceLeDiff, Nat.zero_add, Nat.reduceSub, Nat.le_refl, hw2]
    refine loop_at (fun (k : Nat) => ⟨[(0, .v (.sl b' R' z' (regsV L))), (3, .v (.ptr (some (i0, 0)))), (5, .v (.int .i64 i)), (6, .v (.ptr (some (p, 0)))), (8, .v (.bool (was w (L.take k)))), (9, .v (.int .i64 k))], []⟩)
      (fun k τ6 => k ≤ L.length ∧ τ6 = τ5) (fun k => L.length - k) 0 ?_ ?_ ?_
    · exact .inr (by simp -implicitDefEqProofs only [go_sem, Nat.reduceBEq, Nat.reduceAdd, eq_self, true_and, and_true, and_self, List.getElem?_cons_zero, List.getElem?_cons_succ, Nat.reduceLeDiff, Nat.zero_add, Nat.reduceSub, Nat.le_refl, List.take_zero, was, List.any_nil]; trivial)
    · exact ⟨Nat.zero_le _, rfl⟩
    rintro k τ6 ⟨g3, rfl⟩ X x1 x2 x3
    simp -implicitDefEqProofs only [go_sem, Nat.reduceBEq, Nat.reduceAdd, eq_self, true_and, and_true, and_self, List.getElem?_cons_zero, List.getElem?_cons_succ, Nat.reduceLeDiff, Nat.zero_add, Nat.reduceSub, Nat.le_refl, Nat.lt_irrefl]
    refine CondW_b (fun hkk => ?_) (fun hkk => ?_)
    · have hki : k < L.length := by simpa [regsV_length] using hkk
      have hgetk := regsV_get hki
      have htkk : L.take (k + 1) = L.take k ++ [L[k]] := List.take_succ_eq_append_getElem hki
      generalize L[k] = u at hgetk htkk
      have hib2 : (k : Int) < (regsV L).length := by rw [regsV_length]; omega
      have hcmp : was w (L.take (k + 1)) = (was w (L.take k) || same7 u w) := by
        rw [htkk]; simp [was]
      simp only [same7, regC] at hcmp
      have hw64 : IntKind.i64.wrap ((k : Int) + 1) = ((k + 1 : Nat) : Int) := by rw [i64_in _ (by omega)]; omega
      cases hin : was w (L.take k) <;> rw [hin] at hcmp
      · simp -implicitDefEqProofs only [go_sem, Nat.reduceBEq, Nat.reduceAdd, eq_self, true_and, and_true, and_self, List.getElem?_cons_zero, List.getElem?_cons_succ, Nat.reduceLeDiff, Nat.zero_add, Nat.reduceSub, Nat.le_refl, hgetk, regC, hp]
        refine ⟨⟨by omega, hib2, k2⟩, k4.1, ?_⟩
        refine x1 (k + 1) _ _ (.inr ?_) (by omega) ⟨by omega, rfl⟩
        rw [Bool.false_or] at hcmp
        simp -implicitDefEqProofs only [go_sem, Nat.reduceBEq, Nat.reduceAdd, eq_self, true_and, and_true, and_self, List.getElem?_cons_zero, List.getElem?_cons_succ, Nat.reduceLeDiff, Nat.zero_add, Nat.reduceSub, Nat.le_refl, hw64, hcmp]
      · simp -implicitDefEqProofs only [go_sem, Nat.reduceBEq, Nat.reduceAdd, eq_self, true_and, and_true, and_self, List.getElem?_cons_zero, List.getElem?_cons_succ, Nat.reduceLeDiff, Nat.zero_add, Nat.reduceSub, Nat.le_refl, hgetk, regC, hp]
        refine x1 (k + 1) _ _ (.inr ?_) (by omega) ⟨by omega, rfl⟩
        rw [Bool.true_or] at hcmp
        simp -implicitDefEqProofs only [go_sem, Nat.reduceBEq, Nat.reduceAdd, eq_self, true_and, and_true, and_self, List.getElem?_cons_zero, List.getElem?_cons_succ, Nat.reduceLeDiff, Nat.zero_add, Nat.reduceSub, Nat.le_refl, hw64, hcmp]
    · have hki : ¬ k < L.length := by simpa [regsV_length] using hkk
      have hfull : was w (L.take k) = true := by rw [List.take_of_length_le (by omega)]; exact was_mem hwm
      simp -implicitDefEqProofs only [go_sem, Nat.reduceBEq, Nat.reduceAdd, eq_self, true_and, and_true, and_self, List.getElem?_cons_zero, List.getElem?_cons_succ, Nat.reduceLeDiff, Nat.zero_add, Nat.reduceSub, Nat.le_refl, Nat.lt_irrefl]
      refine x2 _ _ _ ?_
      simp -implicitDefEqProofs only [go_sem, Nat.reduceBEq, Nat.reduceAdd, eq_self, true_and, and_true, and_self, List.getElem?_cons_zero, List.getElem?_cons_succ, Nat.reduceLeDiff, Nat.zero_add, Nat.reduceSub, Nat.le_refl, hfull]
      refine y1 _ _ _ (.inr ?_) ⟨rfl, he4⟩
      simp -implicitDefEqProofs only [go_sem, Nat.reduceBEq, Nat.reduceAdd, eq_self, true_and, and_true, and_self, List.getElem?_cons_zero, List.getElem?_cons_succ, Nat.reduceLeDiff, Nat.zero_add, Nat.reduceSub, Nat.le_refl, Nat.lt_irrefl]
end
end Go.VL.lww

namespace Go.VL.lww
open Go Go.VL Go.Proofs Go.IntWalk

section
variable {σ : St} {l : List Rg} {v w : V}
set_option maxRecDepth 100000 in
set_option maxHeartbeats 1600000 in
theorem same_ok (hv : RdS σ v 7 (regsV l)) (hw : RdS σ w 7 (regsV l)) (hl : l.length ≤ 268435456) : CallA Try.prog 21 [v, w] σ fun x σ' => σ' = σ ∧ x = .bool true := by
  obtain ⟨b, R, z, rfl, -, -⟩ := id hv
  obtain ⟨b', R', z', rfl, -, -⟩ := id hw
  refine fn_at Try.func21 (by decide) comp21 rfl fun Q q1 q2 => ?_
  have hd : decide (((regsV l).length : Int) = (regsV l).length) = true := by simp
  simp -implicitDefEqProofs only [go_sem, Nat.reduceBEq, Nat.reduceAdd, eq_self, true_and, and_true, and_self, List.getElem?_cons_zero, List.getElem?_cons_succ, Nat.reduceLeDiff, Nat.zero_add, Nat.reduceSub, Nat.le_refl, c21, hd, Bool.not_true]
  refine loop_at (fun (i : Nat) => ⟨[(0, .v (.sl b R z (regsV l))), (1, .v (.sl b' R' z' (regsV l))), (5, .v (.int .i64 i))], []⟩) (fun i τ => i ≤ l.length ∧ τ = σ) (fun i => l.length - i) 0 ?_ ?_ ?_
  · refine .inr ?_
    simp -implicitDefEqProofs only [go_sem, Nat.reduceBEq, Nat.reduceAdd, eq_self, true_and, and_true, and_self, List.getElem?_cons_zero, List.getElem?_cons_succ, Nat.reduceLeDiff, Nat.zero_add, Nat.reduceSub, Nat.le_refl, Nat.lt_irrefl]
    try trivial
  · exact ⟨Nat.zero_le _, rfl⟩
  rintro i τ ⟨g1, rfl⟩ Z z1 z2 z3
  simp -implicitDefEqProofs only [go_sem, Nat.reduceBEq, Nat.reduceAdd, eq_self, true_and, and_true, and_self, List.getElem?_cons_zero, List.getElem?_cons_succ, Nat.reduceLeDiff, Nat.zero_add, Nat.reduceSub, Nat.le_refl, Nat.lt_irrefl]
  refine CondW_b (fun hc => ?_) (fun hc => ?_)
  · have hi : i < l.length := by simpa [regsV_length] using hc
    obtain ⟨k1, k2⟩ := rdl hv (by cases l <;> simp [regsV] at hi ⊢)
    obtain ⟨k3, k4⟩ := rdl hw (by cases l <;> simp [regsV] at hi ⊢)
    have hget := regsV_get hi
    have hib : (i : Int) < (regsV l).length := by rw [regsV_length]; omega
    generalize l[i] = x at hget
    have hs := same7_self x
    simp only [same7, regC] at hs
    simp -implicitDefEqProofs only [go_sem, Nat.reduceBEq, Nat.reduceAdd, eq_self, true_and, and_true, and_self, List.getElem?_cons_zero, List.getElem?_cons_succ, Nat.reduceLeDiff, Nat.zero_add, Nat.reduceSub, Nat.le_refl, hget, regC, hs, Bool.not_true]
    refine ⟨⟨by omega, hib, k2⟩, k1, ⟨by omega, hib, k4⟩, k3, z1 (i + 1) _ _ (.inr ?_) (by omega) ⟨by omega, rfl⟩⟩
    simp -implicitDefEqProofs only [go_sem, Nat.reduceBEq, Nat.reduceAdd, eq_self, true_and, and_true, and_self, List.getElem?_cons_zero, List.getElem?_cons_succ, Nat.reduceLeDiff, Nat.zero_add, Nat.reduceSub, Nat.le_refl, Nat.lt_irrefl]
    rw [i64_in _ (by omega)]; simp
  · simp -implicitDefEqProofs only [go_sem, Nat.reduceBEq, Nat.reduceAdd, eq_self, true_and, and_true, and_self, List.getElem?_cons_zero, List.getElem?_cons_succ, Nat.reduceLeDiff, Nat.zero_add, Nat.reduceSub, Nat.le_refl, Nat.lt_irrefl]
    refine z2 _ _ _ ?_
    simp -implicitDefEqProofs only [go_sem, Nat.reduceBEq, Nat.reduceAdd, eq_self, true_and, and_true, and_self, List.getElem?_cons_zero, List.getElem?_cons_succ, Nat.reduceLeDiff, Nat.zero_add, Nat.reduceSub, Nat.le_refl, Nat.lt_irrefl]
    refine q2 _ _ ?_
    simp -implicitDefEqProofs only [go_sem, Nat.reduceBEq, Nat.reduceAdd, eq_self, true_and, and_true, and_self, List.getElem?_cons_zero, List.getElem?_cons_succ, Nat.reduceLeDiff, Nat.zero_add, Nat.reduceSub, Nat.le_refl, Nat.lt_irrefl]
    try exact ⟨rfl, rfl⟩

theorem rdS_live {τ τ' : St} {v : V} {s : Nat} {es : List (List V)} (h : RdS τ v s es) (e : τ'.live = τ.live) : RdS τ' v s es := by
  obtain ⟨b', r', s', h1, h2, h3⟩ := h
  exact ⟨b', r', s', h1, h2, h3.imp_right fun y => ⟨by rw [e]; exact y.1, y.2⟩⟩
theorem chk_bif (r : Rg) : (bif decide (chk r = 0) then 0 else chk r) = chk r := by
  by_cases h : chk r = 0 <;> simp [h]

set_option maxRecDepth 100000 in
set_option maxHeartbeats 3200000 in
theorem puts_ok (hv : RdS σ v 7 (regsV l)) (hlen : ∀ r ∈ l, r.name.length < 4611686018427387904) (hl : l.length ≤ 268435456) :
    CallA Try.prog 5 [v] σ fun w _ => w = .bool true := by
  obtain ⟨b, R, z, rfl, -, -⟩ := id hv
  refine fn_at Try.func5 (by decide) comp5 rfl fun Q q1 q2 => ?_
  simp -implicitDefEqProofs only [go_sem, Nat.reduceBEq, Nat.reduceAdd, eq_self, true_and, and_true, and_self, List.getElem?_cons_zero, List.getElem?_cons_succ, Nat.reduceLeDiff, Nat.zero_add, Nat.reduceSub, Nat.le_refl, c5]
  refine call_at new_ok ?_
  rintro v τ ⟨rfl, hr, he, hlv⟩
  refine ⟨kept_none, ?_⟩
  simp -implicitDefEqProofs only [go_sem, Nat.reduceBEq, Nat.reduceAdd, eq_self, true_and, and_true, and_self, List.getElem?_cons_zero, List.getElem?_cons_succ, Nat.reduceLeDiff, Nat.zero_add, Nat.reduceSub, Nat.le_refl, Nat.lt_irrefl]
  refine loop_at (fun (x : Nat × V) => ⟨[(0, .v (.sl b R z (regsV l))), (3, .v (.ptr (some (σ.objs.length + 1, 0)))), (4, .v x.2), (5, .v (.int .i64 x.1))], []⟩)
    (fun x τ' => x.1 ≤ l.length ∧ x.1 ≤ 200 ∧ Ext σ τ' ∧ IsRegs τ' (σ.objs.length + 1) σ.objs.length (puts (l.take x.1)) ∧ RdS τ' x.2 7 (regsV (rputs (l.take x.1)))) (fun x => l.length - x.1) (0, .sl false (.own τ.live.length) 7 []) ?_ ?_ ?_
  · refine .inr ?_
    simp -implicitDefEqProofs only [go_sem, Nat.reduceBEq, Nat.reduceAdd, eq_self, true_and, and_true, and_self, List.getElem?_cons_zero, List.getElem?_cons_succ, Nat.reduceLeDiff, Nat.zero_add, Nat.reduceSub, Nat.le_refl, Nat.lt_irrefl]
    try trivial
  · exact ⟨Nat.zero_le _, Nat.zero_le _, he.trans (ext_live _ _), hr.ext (ext_live _ _), ⟨false, .own τ.live.length, 7, by simp [rputs, regsV], by simp [rputs, regsV], .inr ⟨live_last _ _, rfl⟩⟩⟩
  clear hr he hlv
  rintro ⟨i, w⟩ τ' ⟨g1, g2, g3, g4, g5⟩ Z z1 z2 z3
  simp only at g1 g2 g4 g5
  have hll : ((regsV l).length : Int) = l.length := by rw [regsV_length]
  have fin : ∀ F, Z (.exit 0) F τ' := by
    intro F
    refine z2 _ _ _ ?_
    simp -implicitDefEqProofs only [go_sem, Nat.reduceBEq, Nat.reduceAdd, eq_self, true_and, and_true, and_self, List.getElem?_cons_zero, List.getElem?_cons_succ, Nat.reduceLeDiff, Nat.zero_add, Nat.reduceSub, Nat.le_refl, Nat.lt_irrefl]
    refine call_at awake_ok ?_
    rintro v τ2 ⟨rfl, he2⟩
    refine ⟨kept_none, ?_⟩
    simp -implicitDefEqProofs only [go_sem, Nat.reduceBEq, Nat.reduceAdd, eq_self, true_and, and_true, and_self, List.getElem?_cons_zero, List.getElem?_cons_succ, Nat.reduceLeDiff, Nat.zero_add, Nat.reduceSub, Nat.le_refl, Nat.lt_irrefl]
    refine q2 _ _ ?_
    simp -implicitDefEqProofs only [go_sem, Nat.reduceBEq, Nat.reduceAdd, eq_self, true_and, and_true, and_self, List.getElem?_cons_zero, List.getElem?_cons_succ, Nat.reduceLeDiff, Nat.zero_add, Nat.reduceSub, Nat.le_refl, Nat.lt_irrefl]
    simp [sget_sset]
  by_cases hi : i < l.length
  · have d1 : decide ((i : Int) < (l.length : Int)) = true := by simp; omega
    by_cases h2 : i < 200
    · have d2 : decide ((i : Int) < 200) = true := by simp; omega
      obtain ⟨k1, k2⟩ := rdl (hv.ext g3) (by cases l <;> simp [regsV] at hi ⊢)
      have hget := regsV_get hi
      have hib : (i : Int) < (regsV l).length := by rw [regsV_length]; omega
      have htk : l.take (i + 1) = l.take i ++ [l[i]] := List.take_succ_eq_append_getElem hi
      have hnm := hlen _ (List.getElem_mem hi)
      generalize l[i] = x at hget htk hnm
      simp -implicitDefEqProofs only [go_sem, Nat.reduceBEq, Nat.reduceAdd, eq_self, true_and, and_true, and_self, List.getElem?_cons_zero, List.getElem?_cons_succ, Nat.reduceLeDiff, Nat.zero_add, Nat.reduceSub, Nat.le_refl, hll, d1, d2, hget, regC]
      refine ⟨⟨by omega, by rw [← hll]; exact hib, k2⟩, k1, call_at (rput_ok (r := x) (l := rputs (l.take i)) g5 hnm ?_) ?_⟩
      · have := rputs_length (l.take i)
        rw [List.length_take] at this; omega
      rintro v τ2 ⟨⟨y, rfl, y1, y2⟩, he2, ho2⟩
      refine ⟨kept_none, ?_⟩
      have e2 := g3.trans he2
      have k3 := rdl (hv.ext e2) (by cases l <;> simp [regsV] at hi ⊢)
      rw [chk_bif]
      simp -implicitDefEqProofs only [go_sem, Nat.reduceBEq, Nat.reduceAdd, eq_self, true_and, and_true, and_self, List.getElem?_cons_zero, List.getElem?_cons_succ, Nat.reduceLeDiff, Nat.zero_add, Nat.reduceSub, Nat.le_refl, hget, regC]
      refine ⟨⟨by omega, hib, k2⟩, k3.1, call_at (put_ok (r := x) (g4.ext he2) hnm) ?_⟩
      rintro v τ3 ⟨rfl, p1, p2, p3⟩
      refine ⟨kept_none, ?_⟩
      have e3 := p3 σ e2 (Nat.le_refl _)
      have hd : decide (chk x = chk x) = true := by simp
      rw [← puts_snoc, ← htk] at p1
      rw [← rputs_snoc, ← htk] at y1
      have y3 := rdS_live y1 p2
      obtain ⟨hh, hcn, hle⟩ := has_puts _ (l.take (i + 1)) rfl
      rw [List.length_take] at hle
      simp -implicitDefEqProofs only [go_sem, Nat.reduceBEq, Nat.reduceAdd, eq_self, true_and, and_true, and_self, List.getElem?_cons_zero, List.getElem?_cons_succ, Nat.reduceLeDiff, Nat.zero_add, Nat.reduceSub, Nat.le_refl, hd, Bool.not_true]
      refine call_at (all_ok p1 hh (by omega)) ?_
      rintro v τ4 ⟨S, s1, s2, s3, s4⟩
      refine ⟨kept_none, ?_⟩
      rw [s1.uniq hcn] at s3 s2
      simp -implicitDefEqProofs only [go_sem, Nat.reduceBEq, Nat.reduceAdd, eq_self, true_and, and_true, and_self, List.getElem?_cons_zero, List.getElem?_cons_succ, Nat.reduceLeDiff, Nat.zero_add, Nat.reduceSub, Nat.le_refl, Nat.lt_irrefl]
      refine call_at (same_ok s3 (y3.ext s4) (by omega)) ?_
      rintro v τ5 ⟨rfl, rfl⟩
      refine ⟨kept_none, ?_⟩
      simp -implicitDefEqProofs only [go_sem, Nat.reduceBEq, Nat.reduceAdd, eq_self, true_and, and_true, and_self, List.getElem?_cons_zero, List.getElem?_cons_succ, Nat.reduceLeDiff, Nat.zero_add, Nat.reduceSub, Nat.le_refl, Bool.not_true]
      refine z1 (i + 1, y) _ _ (.inr ?_) (by simp only; omega) ⟨by simp only; omega, by simp only; omega, e3.trans s4, p1.ext s4, y3.ext s4⟩
      simp -implicitDefEqProofs only [go_sem, Nat.reduceBEq, Nat.reduceAdd, eq_self, true_and, and_true, and_self, List.getElem?_cons_zero, List.getElem?_cons_succ, Nat.reduceLeDiff, Nat.zero_add, Nat.reduceSub, Nat.le_refl, Nat.lt_irrefl]
      rw [i64_in _ (by omega)]; simp
    · have d2 : decide ((i : Int) < 200) = false := by simp; omega
      simp -implicitDefEqProofs only [go_sem, Nat.reduceBEq, Nat.reduceAdd, eq_self, true_and, and_true, and_self, List.getElem?_cons_zero, List.getElem?_cons_succ, Nat.reduceLeDiff, Nat.zero_add, Nat.reduceSub, Nat.le_refl, hll, d1, d2]
      exact fin _
  · have d1 : decide ((i : Int) < (l.length : Int)) = false := by simp; omega
    simp -implicitDefEqProofs only [go_sem, Nat.reduceBEq, Nat.reduceAdd, eq_self, true_and, and_true, and_self, List.getElem?_cons_zero, List.getElem?_cons_succ, Nat.reduceLeDiff, Nat.zero_add, Nat.reduceSub, Nat.le_refl, hll, d1]
    exact fin _
end
end Go.VL.lww

namespace Go.VL.lww
open Go Go.VL
theorem regs_of : ∀ {es : List (List V)}, (∀ y ∈ es, (T.agg RgT).has y) → ∃ l, es = regsV l ∧ l.length ≤ vbe es ∧ ∀ r ∈ l, r.name.length + r.val.length < vbe es
  | [], _ => ⟨[], rfl, by simp, by simp⟩
  | y :: es, h => by
    obtain ⟨l, rfl, h2, h3⟩ := regs_of (es := es) fun y hy => h y (by simp [hy])
    obtain ⟨r, rfl, hr⟩ := has_reg (h y (by simp))
    refine ⟨r :: l, rfl, by simp only [List.length_cons, vbe]; omega, fun q hq => ?_⟩
    simp only [vbe]
    rcases List.mem_cons.1 hq with rfl | hq
    · omega
    · have := h3 q hq; omega
theorem arg_regs {x : V} (h : (T.sl 7 (.agg RgT)).arg x) : ∃ l, RdS ⟨[], []⟩ x 7 (regsV l) ∧ l.length < vba x ∧ ∀ r ∈ l, r.name.length + r.val.length < vba x := by
  obtain ⟨es, h1, h2, h3⟩ := arg_rd h
  obtain ⟨l, rfl, h4, h5⟩ := regs_of h2
  exact ⟨l, h1, by omega, fun r hr => by have := h5 r hr; omega⟩
end Go.VL.lww

namespace Go.VL.lww
open Go Go.VL Go.Proofs Go.IntWalk

def oth (r x : Rg) : Bool := !sameK x r
theorem ins_oth (r : Rg) : ∀ S : List Rg, (ins r S).filter (oth r) = S.filter (oth r)
  | [] => by simp [ins, oth, sameK_self]
  | x :: S => by
    unfold ins
    cases hs : sameK x r <;> simp only [cond_true, cond_false]
    · cases ha : ahead r x <;> simp only [cond_true, cond_false]
      · simp [oth, hs]; exact ins_oth r S
      · simp [oth, hs, sameK_self]
    · cases ha : wins r x <;> simp only [cond_true, cond_false]
      simp [oth, hs, sameK_self]
theorem rputR_oth {r : Rg} {S : List Rg} (h : Sorted S) : (rputR S r).filter (oth r) = S.filter (oth r) := by
  rw [rputR_ins h]
  cases decide (chk r = 0)
  · rfl
  · exact ins_oth r S
theorem drop_get {S : List Rg} {k : Nat} (h : k < S.length) : S.drop k = S[k] :: S.drop (k + 1) := (List.drop_eq_getElem_cons h)

section
variable {σ : St} {l : List Rg} {r : Rg} {v : V}
set_option maxRecDepth 100000 in
set_option maxHeartbeats 6400000 in
theorem apart_ok (hv : RdS σ v 7 (regsV l)) (hlen : ∀ r ∈ l, r.name.length < 4611686018427387904) (hl : l.length ≤ 268435456) (hr : r.name.length < 4611686018427387904) :
    CallA Try.prog 7 [v, regV r] σ fun w _ => w = .bool true := by
  refine fn_at Try.func7 (by decide) comp7 rfl fun Q q1 q2 => ?_
  simp -implicitDefEqProofs only [go_sem, Nat.reduceBEq, Nat.reduceAdd, eq_self, true_and, and_true, and_self, List.getElem?_cons_zero, List.getElem?_cons_succ, Nat.reduceLeDiff, Nat.zero_add, Nat.reduceSub, Nat.le_refl, c7, regV, regC]
  refine call_at (laid_ok hv hlen hl) ?_
  rintro v τ ⟨i0, m, x, rfl, hx, hw, he, -⟩
  refine ⟨kept_none, ?_⟩
  obtain ⟨hH, hC, hle⟩ := has_puts _ (l.take 200) rfl
  have hlenL : (l.take 200).length ≤ 200 := by rw [List.length_take]; omega
  have hcl := rputs_length (l.take 200)
  generalize puts (l.take 200) = T at hx hH hle
  generalize rputs (l.take 200) = S at hw hC hcl
  generalize l.take 200 = L at hH hC hle hlenL hcl
  simp -implicitDefEqProofs only [go_sem, Nat.reduceBEq, Nat.reduceAdd, eq_self, true_and, and_true, and_self, List.getElem?_cons_zero, List.getElem?_cons_succ, Nat.reduceLeDiff, Nat.zero_add, Nat.reduceSub, Nat.le_refl, Nat.lt_irrefl]
  refine call_at (put_ok (r := r) hx hr) ?_
  rintro v τ1 ⟨rfl, p1, p2, -⟩
  refine ⟨kept_none, ?_⟩
  have hw := rdS_live hw p2
  simp -implicitDefEqProofs only [go_sem, Nat.reduceBEq, Nat.reduceAdd, eq_self, true_and, and_true, and_self, List.getElem?_cons_zero, List.getElem?_cons_succ, Nat.reduceLeDiff, Nat.zero_add, Nat.reduceSub, Nat.le_refl, Nat.lt_irrefl]
  have hH2 := hH.put r
  have hT : (putR T r).length ≤ 268435456 := by
    have hu : ∀ (r : Rg) (S : List Rg), (updR r S).length ≤ S.length + 1 := by
      intro r S
      induction S with
      | nil => simp [updR]
      | cons x S ih =>
        unfold updR
        cases sameK r x <;> simp only [cond_true, cond_false, List.length_cons] <;> omega
    have := hu r T
    unfold putR
    cases decide (chk r = 0) <;> simp only [cond_true, cond_false]
    · omega
    · cases T.find? (sameK r) with
      | none => simp only [List.length_append, List.length_singleton]; omega
      | some w => cases hv : wins r w <;> simp only [hv, cond_true, cond_false] <;> omega
  refine call_at (all_ok p1 hH2 hT) ?_
  rintro va τ2 ⟨A, a1, a2, a3, a4⟩
  refine ⟨kept_none, ?_⟩
  have hw := hw.ext a4
  have eA := a1.uniq (hC.put r)
  have hf : A.filter (oth r) = S.filter (oth r) := by rw [eA]; exact rputR_oth hC.srt
  have hA : A.length ≤ 268435456 := by omega
  clear eA a1 a2 a4 p1 p2 hx he hH2 hT hH hC hle hv hlen hl
  obtain ⟨ab, aR, az, rfl, -, -⟩ := id a3
  obtain ⟨wb, wR, wz, rfl, -, -⟩ := id hw
  have hSl : (regsV S).length = S.length := regsV_length S
  have hAl : (regsV A).length = A.length := regsV_length A
  simp -implicitDefEqProofs only [go_sem, Nat.reduceBEq, Nat.reduceAdd, eq_self, true_and, and_true, and_self, List.getElem?_cons_zero, List.getElem?_cons_succ, Nat.reduceLeDiff, Nat.zero_add, Nat.reduceSub, Nat.le_refl, Nat.lt_irrefl]
  refine loop_at (fun (x : Nat × Nat) => ⟨[(3, .loc 3 0), (6, .v (.sl wb wR wz (regsV S))), (7, .v (.sl ab aR az (regsV A))), (8, .v (.int .i64 x.2)), (9, .v (.int .i64 x.1))], [(3, regC r)]⟩)
    (fun x τ => x.1 ≤ A.length ∧ x.2 ≤ S.length ∧ τ = τ2 ∧ (A.drop x.1).filter (oth r) = (S.drop x.2).filter (oth r)) (fun x => A.length - x.1) (0, 0) ?_ ?_ ?_
  · refine .inr ?_
    simp -implicitDefEqProofs only [go_sem, Nat.reduceBEq, Nat.reduceAdd, eq_self, true_and, and_true, and_self, List.getElem?_cons_zero, List.getElem?_cons_succ, Nat.reduceLeDiff, Nat.zero_add, Nat.reduceSub, Nat.le_refl, regC]
    try trivial
  · exact ⟨Nat.zero_le _, Nat.zero_le _, rfl, by simpa using hf⟩
  rintro ⟨i, k⟩ τ ⟨g1, g2, hτ, g3⟩ Z z1 z2 z3
  have hτ := hτ.symm
  subst hτ
  simp only at g1 g2 g3
  simp -implicitDefEqProofs only [go_sem, Nat.reduceBEq, Nat.reduceAdd, eq_self, true_and, and_true, and_self, List.getElem?_cons_zero, List.getElem?_cons_succ, Nat.reduceLeDiff, Nat.zero_add, Nat.reduceSub, Nat.le_refl, regC]
  refine CondW_b (fun hc => ?_) (fun hc => ?_)
  case refine_2 =>
    have hi : ¬ i < A.length := by simpa [regsV_length] using hc
    rw [List.drop_of_length_le (by omega), List.filter_nil] at g3
    simp -implicitDefEqProofs only [go_sem, Nat.reduceBEq, Nat.reduceAdd, eq_self, true_and, and_true, and_self, List.getElem?_cons_zero, List.getElem?_cons_succ, Nat.reduceLeDiff, Nat.zero_add, Nat.reduceSub, Nat.le_refl, Nat.lt_irrefl]
    refine z2 _ _ _ ?_
    simp -implicitDefEqProofs only [go_sem, Nat.reduceBEq, Nat.reduceAdd, eq_self, true_and, and_true, and_self, List.getElem?_cons_zero, List.getElem?_cons_succ, Nat.reduceLeDiff, Nat.zero_add, Nat.reduceSub, Nat.le_refl, Nat.lt_irrefl]
    refine loop_at (fun (k : Nat) => ⟨[(3, .loc 3 0), (6, .v (.sl wb wR wz (regsV S))), (8, .v (.int .i64 k))], [(3, regC r)]⟩)
      (fun k τ => k ≤ S.length ∧ τ = τ2 ∧ (S.drop k).filter (oth r) = []) (fun k => S.length - k) k ?_ ?_ ?_
    · refine .inr ?_
      simp -implicitDefEqProofs only [go_sem, Nat.reduceBEq, Nat.reduceAdd, eq_self, true_and, and_true, and_self, List.getElem?_cons_zero, List.getElem?_cons_succ, Nat.reduceLeDiff, Nat.zero_add, Nat.reduceSub, Nat.le_refl, regC]
      try trivial
    · exact ⟨g2, rfl, g3.symm⟩
    rintro k τ ⟨f1, rfl, f3⟩ Y y1 y2 y3
    by_cases hk : k < S.length
    · have hd : decide ((k : Int) < (regsV S).length) = true := by simp [hSl]; omega
      obtain ⟨k1, k2⟩ := rdl hw (by cases S <;> simp [regsV] at hk ⊢)
      have hget := regsV_get hk
      have hib : (k : Int) < (regsV S).length := by rw [hSl]; omega
      rw [drop_get hk] at f3
      generalize S[k] = y at hget f3
      have ho : oth r y = false := by
        cases ho : oth r y with
        | false => rfl
        | true => rw [List.filter_cons_of_pos ho] at f3; cases f3
      have hs : sameK y r = true := by unfold oth at ho; simpa using ho
      have hsame : sameK y r = ((decide (y.nc = r.nc) && decide (y.nr = r.nr)) && decide (y.name = r.name)) := by simp [sameK, Bool.and_assoc]
      rw [hs] at hsame
      obtain ⟨h1, h2⟩ := Bool.and_eq_true_iff.1 hsame.symm
      rw [List.filter_cons_of_neg (by rw [ho]; simp)] at f3
      simp -implicitDefEqProofs only [go_sem, Nat.reduceBEq, Nat.reduceAdd, eq_self, true_and, and_true, and_self, List.getElem?_cons_zero, List.getElem?_cons_succ, Nat.reduceLeDiff, Nat.zero_add, Nat.reduceSub, Nat.le_refl, hd, hget, regC, V.eqs, V.eq, Bool.and_true, h1, h2]
      repeat refine ⟨⟨by omega, hib, k2⟩, k1, ?_⟩
      refine y1 (k + 1) _ _ (.inr ?_) (by omega) ⟨by omega, rfl, f3⟩
      simp -implicitDefEqProofs only [go_sem, Nat.reduceBEq, Nat.reduceAdd, eq_self, true_and, and_true, and_self, List.getElem?_cons_zero, List.getElem?_cons_succ, Nat.reduceLeDiff, Nat.zero_add, Nat.reduceSub, Nat.le_refl, regC]
      rw [i64_in _ (by omega)]; simp
    · have hd : decide ((k : Int) < (regsV S).length) = false := by simp [hSl]; omega
      have he : decide ((k : Int) = (regsV S).length) = true := by simp [hSl]; omega
      simp -implicitDefEqProofs only [go_sem, Nat.reduceBEq, Nat.reduceAdd, eq_self, true_and, and_true, and_self, List.getElem?_cons_zero, List.getElem?_cons_succ, Nat.reduceLeDiff, Nat.zero_add, Nat.reduceSub, Nat.le_refl, hd, regC]
      refine y2 _ _ _ ?_
      simp -implicitDefEqProofs only [go_sem, Nat.reduceBEq, Nat.reduceAdd, eq_self, true_and, and_true, and_self, List.getElem?_cons_zero, List.getElem?_cons_succ, Nat.reduceLeDiff, Nat.zero_add, Nat.reduceSub, Nat.le_refl, he]
      refine call_at awake_ok ?_
      rintro v τ3 ⟨rfl, he3⟩
      refine ⟨he3.kept, ?_⟩
      simp -implicitDefEqProofs only [go_sem, Nat.reduceBEq, Nat.reduceAdd, eq_self, true_and, and_true, and_self, List.getElem?_cons_zero, List.getElem?_cons_succ, Nat.reduceLeDiff, Nat.zero_add, Nat.reduceSub, Nat.le_refl, Nat.lt_irrefl]
      refine q2 _ _ ?_
      simp -implicitDefEqProofs only [go_sem, Nat.reduceBEq, Nat.reduceAdd, eq_self, true_and, and_true, and_self, List.getElem?_cons_zero, List.getElem?_cons_succ, Nat.reduceLeDiff, Nat.zero_add, Nat.reduceSub, Nat.le_refl, Nat.lt_irrefl]
  have hi : i < A.length := by simpa [regsV_length] using hc
  obtain ⟨k1, k2⟩ := rdl a3 (by cases A <;> simp [regsV] at hi ⊢)
  have hget := regsV_get hi
  have hib : (i : Int) < (regsV A).length := by rw [hAl]; omega
  have hwi : IntKind.i64.wrap ((i : Int) + 1) = ((i + 1 : Nat) : Int) := by rw [i64_in _ (by omega)]; omega
  rw [drop_get hi] at g3
  generalize A[i] = y at hget g3
  have hsame : sameK y r = ((decide (y.nc = r.nc) && decide (y.nr = r.nr)) && decide (y.name = r.name)) := by simp [sameK, Bool.and_assoc]
  simp -implicitDefEqProofs only [go_sem, Nat.reduceBEq, Nat.reduceAdd, eq_self, true_and, and_true, and_self, List.getElem?_cons_zero, List.getElem?_cons_succ, Nat.reduceLeDiff, Nat.zero_add, Nat.reduceSub, Nat.le_refl, Nat.lt_irrefl]
  refine cut_at (fun G τ => τ = τ2 ∧ ∃ k2 : Nat, k2 ≤ S.length ∧ (A.drop (i + 1)).filter (oth r) = (S.drop k2).filter (oth r) ∧ G = ⟨[(3, .loc 3 0), (6, .v (.sl wb wR wz (regsV S))), (7, .v (.sl ab aR az (regsV A))), (8, .v (.int .i64 k2)), (9, .v (.int .i64 i))], [(3, regC r)]⟩) ?_ ?_
  case refine_2 =>
    rintro G τ ⟨rfl, k2, f1, f2, rfl⟩
    simp -implicitDefEqProofs only [go_sem, Nat.reduceBEq, Nat.reduceAdd, eq_self, true_and, and_true, and_self, List.getElem?_cons_zero, List.getElem?_cons_succ, Nat.reduceLeDiff, Nat.zero_add, Nat.reduceSub, Nat.le_refl, hwi]
    refine z1 (i + 1, k2) _ _ (.inr ?_) (by simp only; omega) ⟨by simp only; omega, f1, rfl, f2⟩
    simp -implicitDefEqProofs only [go_sem, Nat.reduceBEq, Nat.reduceAdd, eq_self, true_and, and_true, and_self, List.getElem?_cons_zero, List.getElem?_cons_succ, Nat.reduceLeDiff, Nat.zero_add, Nat.reduceSub, Nat.le_refl, Nat.lt_irrefl]
    try trivial
  intro Y y1 y2 y3
  cases h1 : (decide (y.nc = r.nc) && decide (y.nr = r.nr)) <;> rw [h1] at hsame
  case' true => cases h2 : decide (y.name = r.name) <;> rw [h2] at hsame
  case true.true =>
    have ho : oth r y = false := by unfold oth; rw [hsame]; rfl
    rw [List.filter_cons_of_neg (by rw [ho]; simp)] at g3
    simp -implicitDefEqProofs only [go_sem, Nat.reduceBEq, Nat.reduceAdd, eq_self, true_and, and_true, and_self, List.getElem?_cons_zero, List.getElem?_cons_succ, Nat.reduceLeDiff, Nat.zero_add, Nat.reduceSub, Nat.le_refl, hget, regC, V.eqs, V.eq, Bool.and_true, h1, h2]
    repeat refine ⟨⟨by omega, hib, k2⟩, k1, ?_⟩
    refine y1 _ _ _ (.inr ?_) ⟨rfl, k, g2, g3, rfl⟩
    simp -implicitDefEqProofs only [go_sem, Nat.reduceBEq, Nat.reduceAdd, eq_self, true_and, and_true, and_self, List.getElem?_cons_zero, List.getElem?_cons_succ, Nat.reduceLeDiff, Nat.zero_add, Nat.reduceSub, Nat.le_refl, regC]
    try trivial
  all_goals
    have ho : oth r y = true := by unfold oth; rw [hsame]; rfl
    rw [List.filter_cons_of_pos ho] at g3
    first
      | simp -implicitDefEqProofs only [go_sem, Nat.reduceBEq, Nat.reduceAdd, eq_self, true_and, and_true, and_self, List.getElem?_cons_zero, List.getElem?_cons_succ, Nat.reduceLeDiff, Nat.zero_add, Nat.reduceSub, Nat.le_refl, hget, regC, V.eqs, V.eq, Bool.and_true, h1, h2]
      | simp -implicitDefEqProofs only [go_sem, Nat.reduceBEq, Nat.reduceAdd, eq_self, true_and, and_true, and_self, List.getElem?_cons_zero, List.getElem?_cons_succ, Nat.reduceLeDiff, Nat.zero_add, Nat.reduceSub, Nat.le_refl, hget, regC, V.eqs, V.eq, Bool.and_true, h1]
    repeat refine ⟨⟨by omega, hib, k2⟩, k1, ?_⟩
    refine loop_at (fun (k : Nat) => ⟨[(3, .loc 3 0), (6, .v (.sl wb wR wz (regsV S))), (7, .v (.sl ab aR az (regsV A))), (8, .v (.int .i64 k)), (9, .v (.int .i64 i))], [(3, regC r)]⟩)
      (fun k τ => k ≤ S.length ∧ τ = τ2 ∧ y :: (A.drop (i + 1)).filter (oth r) = (S.drop k).filter (oth r)) (fun k => S.length - k) k ?_ ?_ ?_
    · refine .inr ?_
      simp -implicitDefEqProofs only [go_sem, Nat.reduceBEq, Nat.reduceAdd, eq_self, true_and, and_true, and_self, List.getElem?_cons_zero, List.getElem?_cons_succ, Nat.reduceLeDiff, Nat.zero_add, Nat.reduceSub, Nat.le_refl, regC]
      try trivial
    · exact ⟨g2, rfl, g3⟩
    clear g3 g2 h1
    rintro k τ ⟨f1, rfl, f3⟩ U u1 u2 u3
    have hk : k < S.length := by
      rcases Nat.lt_or_ge k S.length with h | h
      · exact h
      · rw [List.drop_of_length_le h] at f3; cases f3
    have hd : decide ((k : Int) < (regsV S).length) = true := by simp [hSl]; omega
    have hge : decide (((regsV S).length : Int) ≤ k) = false := by simp [hSl]; omega
    have hge2 : decide ((k : Int) ≥ (regsV S).length) = false := by simp [hSl]; omega
    obtain ⟨k3, k4⟩ := rdl hw (by cases S <;> simp [regsV] at hk ⊢)
    have hgetk := regsV_get hk
    have hibk : (k : Int) < (regsV S).length := by rw [hSl]; omega
    have hwk : IntKind.i64.wrap ((k : Int) + 1) = ((k + 1 : Nat) : Int) := by rw [i64_in _ (by omega)]; omega
    rw [drop_get hk] at f3
    generalize S[k] = x at hgetk f3
    have hsx : sameK x r = ((decide (x.nc = r.nc) && decide (x.nr = r.nr)) && decide (x.name = r.name)) := by simp [sameK, Bool.and_assoc]
    cases j1 : (decide (x.nc = r.nc) && decide (x.nr = r.nr)) <;> rw [j1] at hsx
    case' true => cases j2 : decide (x.name = r.name) <;> rw [j2] at hsx
    case true.true =>
      have hox : oth r x = false := by unfold oth; rw [hsx]; rfl
      rw [List.filter_cons_of_neg (by rw [hox]; simp)] at f3
      simp -implicitDefEqProofs only [go_sem, Nat.reduceBEq, Nat.reduceAdd, eq_self, true_and, and_true, and_self, List.getElem?_cons_zero, List.getElem?_cons_succ, Nat.reduceLeDiff, Nat.zero_add, Nat.reduceSub, Nat.le_refl, hd, hgetk, regC, V.eqs, V.eq, Bool.and_true, j1, j2]
      repeat refine ⟨⟨by omega, hibk, k4⟩, k3, ?_⟩
      refine u1 (k + 1) _ _ (.inr ?_) (by omega) ⟨by omega, rfl, f3⟩
      simp -implicitDefEqProofs only [go_sem, Nat.reduceBEq, Nat.reduceAdd, eq_self, true_and, and_true, and_self, List.getElem?_cons_zero, List.getElem?_cons_succ, Nat.reduceLeDiff, Nat.zero_add, Nat.reduceSub, Nat.le_refl, regC, hwk]
      try trivial
    all_goals
      have hox : oth r x = true := by unfold oth; rw [hsx]; rfl
      rw [List.filter_cons_of_pos hox] at f3
      have f4 := (List.cons.inj f3).2
      have ee := (List.cons.inj f3).1
      subst ee
      have h7 := same7_self y
      simp only [same7, regC] at h7
      first
        | simp -implicitDefEqProofs only [go_sem, Nat.reduceBEq, Nat.reduceAdd, eq_self, true_and, and_true, and_self, List.getElem?_cons_zero, List.getElem?_cons_succ, Nat.reduceLeDiff, Nat.zero_add, Nat.reduceSub, Nat.le_refl, hd, hgetk, regC, V.eqs, V.eq, Bool.and_true, j1, j2]
        | simp -implicitDefEqProofs only [go_sem, Nat.reduceBEq, Nat.reduceAdd, eq_self, true_and, and_true, and_self, List.getElem?_cons_zero, List.getElem?_cons_succ, Nat.reduceLeDiff, Nat.zero_add, Nat.reduceSub, Nat.le_refl, hd, hgetk, regC, V.eqs, V.eq, Bool.and_true, j1]
      repeat refine ⟨⟨by omega, hibk, k4⟩, k3, ?_⟩
      refine u2 _ _ _ ?_
      simp -implicitDefEqProofs only [go_sem, Nat.reduceBEq, Nat.reduceAdd, eq_self, true_and, and_true, and_self, List.getElem?_cons_zero, List.getElem?_cons_succ, Nat.reduceLeDiff, Nat.zero_add, Nat.reduceSub, Nat.le_refl, hge, hge2, hget, hgetk, regC, h7, Bool.not_true]
      refine ⟨⟨by omega, hib, k2⟩, k1, ⟨by omega, hibk, k4⟩, k3, ?_⟩
      refine y1 _ _ _ (.inr ?_) ⟨rfl, k + 1, by omega, f4, rfl⟩
      simp -implicitDefEqProofs only [go_sem, Nat.reduceBEq, Nat.reduceAdd, eq_self, true_and, and_true, and_self, List.getElem?_cons_zero, List.getElem?_cons_succ, Nat.reduceLeDiff, Nat.zero_add, Nat.reduceSub, Nat.le_refl, regC, hwk]
      try trivial
end
end Go.VL.lww
