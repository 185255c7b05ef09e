import Derived.Test.YtemofmopncjipaaB1
import Derived.Test.YtemofmopncjipaaProg
import Derived.IntWalk
import Derived.WalkKit
import Derived.ProofKit
import Derived.OpenShut
import Derived.JoinedCond
import Derived.Shelf.Spec.SlicesInsertGrow
import Derived.ReadAgain
set_option linter.unusedVariables false
set_option linter.unusedSimpArgs false
namespace Go.VL.mov
open Go Go.VL Go.Proofs
/-- topiary/moves.New: 0 parameters, 4 slots. -/
def c15 : C :=
  .seq (.ops [⟨none, .mv 0 (.c (.ptr none))⟩])
  (.seq (.ops [⟨none, .mm 1 [.agg, .int .i64, .int .i64]⟩,
    ⟨none, .bld 2 [.sl true .pub 0 [], .map none] [(1, 1, (.t 1))]⟩,
    ⟨none, .bxH 3 (.t 2)⟩,
    ⟨none, .mv 0 (.t 3)⟩])
  (.ret))
theorem comp15 : compFn Try.prog [] Try.f15 = some ([.t 0], c15) := by kernel_rfl
/-- (*topiary/moves.Tree).Counts: 2 parameters, 24 slots. -/
def c12 : C :=
  .seq (.ops [⟨none, .bxL 3 (.t 1)⟩,
    ⟨none, .mv 4 (.c (.bool false))⟩])
  (.seq (.ops [⟨none, .mv 8 (.t 0)⟩,
    ⟨none, .ld 9 (.t 3) 2 true⟩,
    ⟨none, .ca (some 10) 33 [(.t 8), (.t 9)]⟩,
    ⟨none, .mv 7 (.t 10)⟩,
    ⟨none, .ex 11 (.t 7) 0⟩,
    ⟨none, .ex 12 (.t 7) 1⟩,
    ⟨none, .mv 5 (.t 11)⟩,
    ⟨none, .mv 6 (.t 12)⟩])
  (.seq (.ops [⟨none, .mv 13 (.t 6)⟩,
    ⟨none, .mv 14 (.t 13)⟩,
    ⟨some (14, true), .mv 15 (.t 0)⟩,
    ⟨some (14, true), .nc 16 (.t 15)⟩,
    ⟨some (14, true), .fa 17 (.t 16) 0⟩,
    ⟨some (14, true), .ld 18 (.t 17) 1 false⟩,
    ⟨some (14, true), .mv 19 (.t 5)⟩,
    ⟨some (14, true), .ia 20 (.t 18) (.t 19) 14⟩,
    ⟨some (14, true), .fa 21 (.t 20) 6⟩,
    ⟨some (14, true), .ld 22 (.t 21) 1 false⟩,
    ⟨none, .pk 23 (.t 14) (.t 22) (.c (.bool false))⟩,
    ⟨none, .mv 4 (.t 23)⟩])
  (.ret)))
theorem comp12 : compFn Try.prog [3] Try.f12 = some ([.t 4], c12) := by kernel_rfl
/-- (*topiary/moves.Tree).Where: 2 parameters, 22 slots. -/
def c13 : C :=
  .seq (.ops [⟨none, .bxL 3 (.t 1)⟩,
    ⟨none, .alL 4 [.int .i64 0, .int .i64 0, .int .i64 0, .int .i64 0, .int .i64 0, .int .i64 0]⟩,
    ⟨none, .mv 5 (.c (.bool false))⟩])
  (.seq (.seq (.ops [⟨none, .mv 8 (.t 0)⟩,
    ⟨none, .bq 9 false .ptr (.t 8) (.c (.ptr none))⟩])
  (.cond (.t 9) (.seq (.ops [⟨none, .bld 10 [.int .i64 0, .int .i64 0, .int .i64 0, .int .i64 0, .int .i64 0, .int .i64 0] []⟩,
      ⟨none, .st (.t 4) (.t 10) 6⟩,
      ⟨none, .mv 5 (.c (.bool false))⟩])
    (.ret))
    (.skip)))
  (.seq (.opsD [⟨none, .mv 12 (.t 0)⟩,
    ⟨none, .nc 13 (.t 12)⟩,
    ⟨none, .fa 14 (.t 13) 1⟩,
    ⟨none, .ld 15 (.t 14) 1 false⟩,
    ⟨none, .ld 16 (.t 3) 2 true⟩,
    ⟨none, .lk 17 [.agg, .int .i64, .int .i64] (.t 15) (.t 16) true (.agg [.int .i64 0, .int .i64 0, .int .i64 0, .int .i64 0, .int .i64 0, .int .i64 0])⟩,
    ⟨none, .mv 11 (.t 17)⟩,
    ⟨none, .ex 18 (.t 11) 0⟩,
    ⟨none, .ex 19 (.t 11) 1⟩,
    ⟨none, .alH 6 [.int .i64 0, .int .i64 0, .int .i64 0, .int .i64 0, .int .i64 0, .int .i64 0]⟩,
    ⟨none, .st (.t 6) (.t 18) 6⟩,
    ⟨none, .mv 7 (.t 19)⟩])
  (.seq (.ops [⟨none, .ld 20 (.t 6) 6 true⟩,
    ⟨none, .mv 21 (.t 7)⟩,
    ⟨none, .st (.t 4) (.t 20) 6⟩,
    ⟨none, .mv 5 (.t 21)⟩])
  (.ret))))
theorem comp13 : compFn Try.prog [3, 4] Try.f13 = some ([.c 4 6 true, .t 5], c13) := by kernel_rfl
/-- topiary/topiarylaw11.awake: 0 parameters, 44 slots. -/
def c14 : C :=
  .seq (.ops [⟨none, .mv 0 (.c (.bool false))⟩])
  (.seq (.ops [⟨none, .ca (some 5) 15 []⟩,
    ⟨none, .mv 1 (.t 5)⟩])
  (.seq (.ops [⟨none, .bld 6 [.int .i64 0, .int .i64 0] [(0, 1, (.c (.int .i64 1)))]⟩,
    ⟨none, .alL 2 [.int .i64 0, .int .i64 0]⟩,
    ⟨none, .st (.t 2) (.t 6) 2⟩])
  (.seq (.seq (.ops [⟨none, .mv 7 (.t 1)⟩,
    ⟨none, .bq 8 false .ptr (.t 7) (.c (.ptr none))⟩,
    ⟨none, .mv 9 (.t 8)⟩,
    ⟨some (9, false), .mv 10 (.t 1)⟩,
    ⟨some (9, false), .bld 11 [.int .i64 0, .int .i64 0] [(0, 1, (.c (.int .i64 3)))]⟩,
    ⟨some (9, false), .ld 12 (.t 2) 2 true⟩,
    ⟨some (9, false), .bld 13 [.int .i64 0, .int .i64 0] []⟩,
    ⟨some (9, false), .ca (some 14) 16 [(.t 10), (.t 11), (.t 12), (.t 13)]⟩,
    ⟨some (9, false), .bi 15 .neq (.t 14) (.c (.int .i64 0))⟩,
    ⟨none, .pk 16 (.t 9) (.c (.bool true)) (.t 15)⟩,
    ⟨none, .mv 17 (.t 16)⟩,
    ⟨some (17, false), .mv 18 (.t 1)⟩,
    ⟨some (17, false), .bld 19 [.int .i64 0, .int .i64 0] [(0, 1, (.c (.int .i64 3)))]⟩,
    ⟨some (17, false), .ld 20 (.t 2) 2 true⟩,
    ⟨some (17, false), .bld 21 [.int .i64 0, .int .i64 0] []⟩,
    ⟨some (17, false), .ca (some 22) 16 [(.t 18), (.t 19), (.t 20), (.t 21)]⟩,
    ⟨some (17, false), .bi 23 .neq (.t 22) (.c (.int .i64 5))⟩,
    ⟨none, .pk 24 (.t 17) (.c (.bool true)) (.t 23)⟩])
  (.cond (.t 24) (.seq (.ops [⟨none, .mv 0 (.c (.bool false))⟩])
    (.ret))
    (.skip)))
  (.seq (.ops [⟨none, .mv 26 (.t 1)⟩,
    ⟨none, .ld 27 (.t 2) 2 true⟩,
    ⟨none, .ca (some 28) 13 [(.t 26), (.t 27)]⟩,
    ⟨none, .mv 25 (.t 28)⟩,
    ⟨none, .ex 29 (.t 25) 0⟩,
    ⟨none, .ex 30 (.t 25) 1⟩,
    ⟨none, .alL 3 [.int .i64 0, .int .i64 0, .int .i64 0, .int .i64 0, .int .i64 0, .int .i64 0]⟩,
    ⟨none, .st (.t 3) (.t 29) 6⟩,
    ⟨none, .mv 4 (.t 30)⟩])
  (.seq (.ops [⟨none, .mv 31 (.t 4)⟩,
    ⟨none, .mv 32 (.t 31)⟩,
    ⟨some (32, true), .ld 33 (.t 3) 6 true⟩,
    ⟨some (32, true), .ld 34 (.t 2) 2 true⟩,
    ⟨some (32, true), .bld 35 [.int .i64 0, .int .i64 0] [(0, 1, (.c (.int .i64 3)))]⟩,
    ⟨some (32, true), .bld 36 [.int .i64 0, .int .i64 0, .int .i64 0, .int .i64 0, .int .i64 0, .int .i64 0] [(0, 2, (.t 34)), (4, 2, (.t 35))]⟩,
    ⟨some (32, true), .be 37 false [.int .i64, .int .i64, .int .i64, .int .i64, .int .i64, .int .i64] (.t 33) (.t 36)⟩,
    ⟨none, .pk 38 (.t 32) (.t 37) (.c (.bool false))⟩,
    ⟨none, .mv 39 (.t 38)⟩,
    ⟨some (39, true), .mv 40 (.t 1)⟩,
    ⟨some (39, true), .ca (some 41) 29 [(.t 40)]⟩,
    ⟨some (39, true), .bi 42 .eql (.t 41) (.c (.int .i64 1))⟩,
    ⟨none, .pk 43 (.t 39) (.t 42) (.c (.bool false))⟩,
    ⟨none, .mv 0 (.t 43)⟩])
  (.ret))))))
theorem comp14 : compFn Try.prog [2, 3] Try.f14 = some ([.t 0], c14) := by kernel_rfl
/-- topiary/topiarylaw11.made: 1 parameters, 64 slots. -/
def c11 : C :=
  .seq (.ops [⟨none, .mv 2 (.c (.ptr none))⟩,
    ⟨none, .mv 3 (.c (.sl true .pub 7 []))⟩])
  (.seq (.ops [⟨none, .ca (some 7) 15 []⟩,
    ⟨none, .mv 4 (.t 7)⟩])
  (.seq (.ops [⟨none, .lit 8 7 []⟩,
    ⟨none, .mv 5 (.t 8)⟩])
  (.seq (.seq (.ops [⟨none, .mv 6 (.c (.int .i64 0))⟩])
  (.block 0 (.loop (.seq (.seq (.ops [⟨none, .mv 9 (.t 6)⟩,
    ⟨none, .mv 10 (.t 0)⟩,
    ⟨none, .ln 11 .sl (.t 10)⟩,
    ⟨none, .bi 12 .lss (.t 9) (.t 11)⟩,
    ⟨none, .mv 13 (.t 12)⟩,
    ⟨some (13, true), .mv 14 (.t 6)⟩,
    ⟨some (13, true), .bi 15 .lss (.t 14) (.c (.int .i64 200))⟩,
    ⟨none, .pk 16 (.t 13) (.t 15) (.c (.bool false))⟩])
  (.cond (.t 16) (.skip)
    (.exit 0)))
  (.cut (.block 1 (.seq (.ops [⟨none, .mv 19 (.t 0)⟩,
    ⟨none, .mv 20 (.t 6)⟩,
    ⟨none, .ia 21 (.t 19) (.t 20) 7⟩,
    ⟨none, .fa 22 (.t 21) 0⟩,
    ⟨none, .ld 23 (.t 22) 1 false⟩,
    ⟨none, .bi 24 .eql (.t 23) (.c (.int .i64 0))⟩])
  (.cond (.t 24) (.seq (.opsD [⟨none, .mv 25 (.t 4)⟩,
      ⟨none, .mv 26 (.t 0)⟩,
      ⟨none, .mv 27 (.t 6)⟩,
      ⟨none, .ia 28 (.t 26) (.t 27) 7⟩,
      ⟨none, .fa 29 (.t 28) 1⟩,
      ⟨none, .ld 30 (.t 29) 2 true⟩,
      ⟨none, .mv 31 (.t 0)⟩,
      ⟨none, .mv 32 (.t 6)⟩,
      ⟨none, .ia 33 (.t 31) (.t 32) 7⟩,
      ⟨none, .fa 34 (.t 33) 3⟩,
      ⟨none, .ld 35 (.t 34) 2 true⟩,
      ⟨none, .mv 36 (.t 0)⟩,
      ⟨none, .mv 37 (.t 6)⟩,
      ⟨none, .ia 38 (.t 36) (.t 37) 7⟩,
      ⟨none, .fa 39 (.t 38) 5⟩,
      ⟨none, .ld 40 (.t 39) 2 true⟩,
      ⟨none, .ca (some 41) 16 [(.t 25), (.t 30), (.t 35), (.t 40)]⟩])
    (.opsD [⟨none, .mv 43 (.t 5)⟩,
      ⟨none, .mv 44 (.t 0)⟩,
      ⟨none, .mv 45 (.t 6)⟩,
      ⟨none, .ia 46 (.t 44) (.t 45) 7⟩,
      ⟨none, .fa 47 (.t 46) 1⟩,
      ⟨none, .ld 48 (.t 47) 2 true⟩,
      ⟨none, .mv 49 (.t 0)⟩,
      ⟨none, .mv 50 (.t 6)⟩,
      ⟨none, .ia 51 (.t 49) (.t 50) 7⟩,
      ⟨none, .fa 52 (.t 51) 3⟩,
      ⟨none, .ld 53 (.t 52) 2 true⟩,
      ⟨none, .mv 54 (.t 0)⟩,
      ⟨none, .mv 55 (.t 6)⟩,
      ⟨none, .ia 56 (.t 54) (.t 55) 7⟩,
      ⟨none, .fa 57 (.t 56) 5⟩,
      ⟨none, .ld 58 (.t 57) 2 true⟩,
      ⟨none, .ca (some 59) 32 [(.t 43), (.t 48), (.t 53), (.t 58)]⟩,
      ⟨none, .mv 42 (.t 59)⟩,
      ⟨none, .ex 60 (.t 42) 0⟩,
      ⟨none, .ex 61 (.t 42) 1⟩,
      ⟨none, .mv 5 (.t 60)⟩]))
    (.skip))))
  (.ops [⟨none, .mv 17 (.t 6)⟩,
    ⟨none, .bi 18 .add (.t 17) (.c (.int .i64 1))⟩,
    ⟨none, .mv 6 (.t 18)⟩]))))))
  (.seq (.ops [⟨none, .mv 62 (.t 4)⟩,
    ⟨none, .mv 63 (.t 5)⟩,
    ⟨none, .mv 2 (.t 62)⟩,
    ⟨none, .mv 3 (.t 63)⟩])
  (.ret)))))
theorem comp11 : compFn Try.prog [] Try.f11 = some ([.t 2, .t 3], c11) := by kernel_rfl
/-- (*topiary/moves.Tree).Do: 4 parameters, 62 slots. -/
def c16 : C :=
  .seq (.ops [⟨none, .bxL 5 (.t 1)⟩,
    ⟨none, .bxL 6 (.t 2)⟩,
    ⟨none, .bxL 7 (.t 3)⟩,
    ⟨none, .mv 8 (.c (.int .i64 0))⟩])
  (.seq (.seq (.ops [⟨none, .mv 11 (.t 0)⟩,
    ⟨none, .bq 12 false .ptr (.t 11) (.c (.ptr none))⟩])
  (.cond (.t 12) (.seq (.ops [⟨none, .mv 8 (.c (.int .i64 7))⟩])
    (.ret))
    (.skip)))
  (.seq (.seq (.ops [⟨none, .ld 13 (.t 5) 2 true⟩,
    ⟨none, .ca (some 14) 34 [(.t 13)]⟩,
    ⟨none, .un 15 .not (.t 14)⟩,
    ⟨none, .mv 16 (.t 15)⟩,
    ⟨some (16, false), .ld 17 (.t 6) 2 true⟩,
    ⟨some (16, false), .ca (some 18) 34 [(.t 17)]⟩,
    ⟨some (16, false), .un 19 .not (.t 18)⟩,
    ⟨none, .pk 20 (.t 16) (.c (.bool true)) (.t 19)⟩,
    ⟨none, .mv 21 (.t 20)⟩,
    ⟨some (21, false), .ld 22 (.t 7) 2 true⟩,
    ⟨some (21, false), .ca (some 23) 35 [(.t 22)]⟩,
    ⟨some (21, false), .un 24 .not (.t 23)⟩,
    ⟨none, .pk 25 (.t 21) (.c (.bool true)) (.t 24)⟩])
  (.cond (.t 25) (.seq (.ops [⟨none, .mv 8 (.c (.int .i64 2))⟩])
    (.ret))
    (.skip)))
  (.seq (.ops [⟨none, .mv 27 (.t 0)⟩,
    ⟨none, .ld 28 (.t 5) 2 true⟩,
    ⟨none, .ca (some 29) 33 [(.t 27), (.t 28)]⟩,
    ⟨none, .mv 26 (.t 29)⟩,
    ⟨none, .ex 30 (.t 26) 0⟩,
    ⟨none, .ex 31 (.t 26) 1⟩,
    ⟨none, .mv 9 (.t 30)⟩,
    ⟨none, .mv 10 (.t 31)⟩])
  (.seq (.seq (.ops [⟨none, .mv 32 (.t 10)⟩])
  (.cond (.t 32) (.seq (.ops [⟨none, .mv 8 (.c (.int .i64 5))⟩])
    (.ret))
    (.skip)))
  (.seq (.ops [⟨none, .mv 33 (.t 0)⟩,
    ⟨none, .mv 34 (.t 9)⟩,
    ⟨none, .ca (some 35) 36 [(.t 33), (.t 34)]⟩])
  (.seq (.opsD [⟨none, .mv 36 (.t 0)⟩,
    ⟨none, .mv 37 (.t 0)⟩,
    ⟨none, .nc 38 (.t 37)⟩,
    ⟨none, .fa 39 (.t 38) 0⟩,
    ⟨none, .ld 40 (.t 39) 1 false⟩,
    ⟨none, .mv 41 (.t 9)⟩,
    ⟨none, .ld 42 (.t 5) 2 true⟩,
    ⟨none, .ld 43 (.t 6) 2 true⟩,
    ⟨none, .ld 44 (.t 7) 2 true⟩,
    ⟨none, .bld 45 [.int .i64 0, .int .i64 0, .int .i64 0, .int .i64 0, .int .i64 0, .int .i64 0, .bool false, .int .i64 0, .int .i64 0, .int .i64 0, .int .i64 0, .int .i64 0, .int .i64 0, .bool false] [(0, 2, (.t 42)), (2, 2, (.t 43)), (4, 2, (.t 44))]⟩,
    ⟨none, .lit 46 14 [(.t 45)]⟩,
    ⟨none, .ca (some 47) 37 [(.t 40), (.t 41), (.t 46)]⟩,
    ⟨none, .nc 48 (.t 36)⟩,
    ⟨none, .fa 49 (.t 48) 0⟩,
    ⟨none, .st (.t 49) (.t 47) 1⟩])
  (.seq (.block 0 (.loop (.seq (.seq (.ops [⟨none, .mv 50 (.t 9)⟩,
    ⟨none, .mv 51 (.t 0)⟩,
    ⟨none, .nc 52 (.t 51)⟩,
    ⟨none, .fa 53 (.t 52) 0⟩,
    ⟨none, .ld 54 (.t 53) 1 false⟩,
    ⟨none, .ln 55 .sl (.t 54)⟩,
    ⟨none, .bi 56 .lss (.t 50) (.t 55)⟩])
  (.cond (.t 56) (.skip)
    (.exit 0)))
  (.seq (.block 1 (.ops [⟨none, .mv 59 (.t 0)⟩,
    ⟨none, .mv 60 (.t 9)⟩,
    ⟨none, .ca (some 61) 38 [(.t 59), (.t 60)]⟩]))
  (.ops [⟨none, .mv 57 (.t 9)⟩,
    ⟨none, .bi 58 .add (.t 57) (.c (.int .i64 1))⟩,
    ⟨none, .mv 9 (.t 58)⟩])))))
  (.seq (.ops [⟨none, .mv 8 (.c (.int .i64 0))⟩])
  (.ret)))))))))
theorem comp16 : compFn Try.prog [5, 6, 7] Try.f16 = some ([.t 8], c16) := by kernel_rfl
/-- (*topiary/moves.Tree).All: 1 parameters, 24 slots. -/
def c18 : C :=
  .seq (.ops [⟨none, .mv 2 (.c (.sl true .pub 6 []))⟩])
  (.seq (.seq (.ops [⟨none, .mv 6 (.t 0)⟩,
    ⟨none, .bq 7 false .ptr (.t 6) (.c (.ptr none))⟩])
  (.cond (.t 7) (.seq (.ops [⟨none, .mv 2 (.c (.sl true .pub 6 []))⟩])
    (.ret))
    (.skip)))
  (.seq (.ops [⟨none, .mv 3 (.c (.sl true .pub 6 []))⟩])
  (.seq (.seq (.ops [⟨none, .mv 8 (.t 0)⟩,
    ⟨none, .nc 9 (.t 8)⟩,
    ⟨none, .fa 10 (.t 9) 1⟩,
    ⟨none, .ld 11 (.t 10) 1 false⟩,
    ⟨none, .rg 12 (.t 11)⟩])
  (.block 0 (.loop (.seq (.ops [⟨none, .nx 13 (.t 12)⟩,
    ⟨none, .ex 14 (.t 13) 0⟩])
  (.seq (.cond (.t 14) (.skip)
    (.exit 0))
  (.block 1 (.seq (.ops [⟨none, .en 15 (.t 12)⟩,
    ⟨none, .ex 16 (.t 15) 1⟩,
    ⟨none, .alL 5 [.int .i64 0, .int .i64 0, .int .i64 0, .int .i64 0, .int .i64 0, .int .i64 0]⟩,
    ⟨none, .st (.t 5) (.t 16) 6⟩])
  (.ops [⟨none, .mv 17 (.t 3)⟩,
    ⟨none, .ld 18 (.t 5) 6 true⟩,
    ⟨none, .lit 19 6 [(.t 18)]⟩,
    ⟨none, .ap 20 6 (.t 17) (.t 19)⟩,
    ⟨none, .mv 3 (.t 20)⟩]))))))))
  (.seq (.ops [⟨none, .mv 21 (.t 3)⟩,
    ⟨none, .cm (some 22) 39 [(.t 21), (.c (.fn 40 []))]⟩])
  (.seq (.ops [⟨none, .mv 23 (.t 3)⟩,
    ⟨none, .mv 2 (.t 23)⟩])
  (.ret))))))
theorem comp18 : compFn Try.prog [5, 3000039] Try.f18 = some ([.t 2], c18) := by kernel_rfl
/-- (*topiary/moves.Tree).Above: 2 parameters, 29 slots. -/
def c20 : C :=
  .seq (.ops [⟨none, .bxL 3 (.t 1)⟩,
    ⟨none, .mv 4 (.c (.sl true .pub 2 []))⟩])
  (.seq (.ops [⟨none, .mv 5 (.c (.sl true .pub 2 []))⟩])
  (.seq (.seq (.ops [⟨none, .mv 9 (.t 0)⟩,
    ⟨none, .ld 10 (.t 3) 2 true⟩,
    ⟨none, .ca (some 11) 13 [(.t 9), (.t 10)]⟩,
    ⟨none, .mv 8 (.t 11)⟩,
    ⟨none, .ex 12 (.t 8) 0⟩,
    ⟨none, .ex 13 (.t 8) 1⟩,
    ⟨none, .alL 6 [.int .i64 0, .int .i64 0, .int .i64 0, .int .i64 0, .int .i64 0, .int .i64 0]⟩,
    ⟨none, .st (.t 6) (.t 12) 6⟩,
    ⟨none, .mv 7 (.t 13)⟩])
  (.block 0 (.loop (.seq (.seq (.ops [⟨none, .mv 14 (.t 7)⟩])
  (.cond (.t 14) (.skip)
    (.exit 0)))
  (.seq (.block 1 (.ops [⟨none, .mv 22 (.t 5)⟩,
    ⟨none, .fa 23 (.t 6) 2⟩,
    ⟨none, .ld 24 (.t 23) 2 true⟩,
    ⟨none, .lit 25 2 [(.t 24)]⟩,
    ⟨none, .ap 26 2 (.t 22) (.t 25)⟩,
    ⟨none, .mv 5 (.t 26)⟩]))
  (.seq (.seq (.ops [⟨none, .ld 27 (.t 6) 6 true⟩])
  (.ops [⟨none, .alL 6 [.int .i64 0, .int .i64 0, .int .i64 0, .int .i64 0, .int .i64 0, .int .i64 0]⟩,
    ⟨none, .st (.t 6) (.t 27) 6⟩]))
  (.ops [⟨none, .mv 16 (.t 0)⟩,
    ⟨none, .fa 17 (.t 6) 2⟩,
    ⟨none, .ld 18 (.t 17) 2 true⟩,
    ⟨none, .ca (some 19) 13 [(.t 16), (.t 18)]⟩,
    ⟨none, .mv 15 (.t 19)⟩,
    ⟨none, .ex 20 (.t 15) 0⟩,
    ⟨none, .ex 21 (.t 15) 1⟩,
    ⟨none, .st (.t 6) (.t 20) 6⟩,
    ⟨none, .mv 7 (.t 21)⟩])))))))
  (.seq (.ops [⟨none, .mv 28 (.t 5)⟩,
    ⟨none, .mv 4 (.t 28)⟩])
  (.ret))))
theorem comp20 : compFn Try.prog [3, 6, 6] Try.f20 = some ([.t 4], c20) := by kernel_rfl
/-- topiary/topiaryref01.Has: 2 parameters, 18 slots. -/
def c21 : C :=
  .seq (.ops [⟨none, .bxL 3 (.t 1)⟩,
    ⟨none, .mv 4 (.c (.bool false))⟩])
  (.seq (.seq (.ops [⟨none, .mv 5 (.c (.int .i64 0))⟩])
  (.block 0 (.loop (.seq (.seq (.ops [⟨none, .mv 6 (.t 5)⟩,
    ⟨none, .mv 7 (.t 0)⟩,
    ⟨none, .ln 8 .sl (.t 7)⟩,
    ⟨none, .bi 9 .lss (.t 6) (.t 8)⟩])
  (.cond (.t 9) (.skip)
    (.exit 0)))
  (.seq (.block 1 (.seq (.opsD [⟨none, .mv 12 (.t 0)⟩,
    ⟨none, .mv 13 (.t 5)⟩,
    ⟨none, .ia 14 (.t 12) (.t 13) 2⟩,
    ⟨none, .ld 15 (.t 14) 2 true⟩,
    ⟨none, .ld 16 (.t 3) 2 true⟩,
    ⟨none, .be 17 false [.int .i64, .int .i64] (.t 15) (.t 16)⟩])
  (.cond (.t 17) (.seq (.ops [⟨none, .mv 4 (.c (.bool true))⟩])
    (.ret))
    (.skip))))
  (.ops [⟨none, .mv 10 (.t 5)⟩,
    ⟨none, .bi 11 .add (.t 10) (.c (.int .i64 1))⟩,
    ⟨none, .mv 5 (.t 11)⟩]))))))
  (.seq (.ops [⟨none, .mv 4 (.c (.bool false))⟩])
  (.ret)))
theorem comp21 : compFn Try.prog [3] Try.f21 = some ([.t 4], c21) := by kernel_rfl
/-- topiary/topiaryref11.Done: 1 parameters, 53 slots. -/
def c22 : C :=
  .seq (.ops [⟨none, .mv 2 (.c (.sl true .pub 6 []))⟩,
    ⟨none, .mv 3 (.c (.sl true .pub 7 []))⟩])
  (.seq (.ops [⟨none, .lit 8 6 []⟩,
    ⟨none, .mv 4 (.t 8)⟩])
  (.seq (.ops [⟨none, .lit 9 7 []⟩,
    ⟨none, .mv 5 (.t 9)⟩])
  (.seq (.seq (.ops [⟨none, .mv 6 (.c (.int .i64 0))⟩])
  (.block 0 (.loop (.seq (.seq (.ops [⟨none, .mv 10 (.t 6)⟩,
    ⟨none, .mv 11 (.t 0)⟩,
    ⟨none, .ln 12 .sl (.t 11)⟩,
    ⟨none, .bi 13 .lss (.t 10) (.t 12)⟩])
  (.cond (.t 13) (.skip)
    (.exit 0)))
  (.seq (.block 1 (.seq (.ops [⟨none, .mv 16 (.t 0)⟩,
    ⟨none, .mv 17 (.t 6)⟩,
    ⟨none, .ia 18 (.t 16) (.t 17) 7⟩,
    ⟨none, .ld 19 (.t 18) 7 true⟩,
    ⟨none, .alL 7 [.int .i64 0, .int .i64 0, .int .i64 0, .int .i64 0, .int .i64 0, .int .i64 0, .bool false]⟩,
    ⟨none, .st (.t 7) (.t 19) 7⟩])
  (.seq (.opsD [⟨none, .fa 20 (.t 7) 2⟩,
    ⟨none, .ld 21 (.t 20) 2 true⟩,
    ⟨none, .fa 22 (.t 7) 4⟩,
    ⟨none, .ld 23 (.t 22) 2 true⟩,
    ⟨none, .be 24 true [.int .i64, .int .i64] (.t 21) (.t 23)⟩,
    ⟨none, .mv 25 (.t 24)⟩,
    ⟨some (25, true), .mv 26 (.t 4)⟩,
    ⟨some (25, true), .fa 27 (.t 7) 4⟩,
    ⟨some (25, true), .ld 28 (.t 27) 2 true⟩,
    ⟨some (25, true), .fa 30 (.t 7) 2⟩,
    ⟨some (25, true), .ld 31 (.t 30) 2 true⟩,
    ⟨some (25, true), .ca (some 29) 25 [(.t 26), (.t 28)]⟩,
    ⟨some (25, true), .ca (some 32) 21 [(.t 29), (.t 31)]⟩,
    ⟨some (25, true), .un 33 .not (.t 32)⟩,
    ⟨none, .pk 34 (.t 25) (.t 33) (.c (.bool false))⟩,
    ⟨none, .fa 35 (.t 7) 6⟩,
    ⟨none, .st (.t 35) (.t 34) 1⟩])
  (.cut (.seq (.ops [⟨none, .fa 36 (.t 7) 6⟩,
    ⟨none, .ld 37 (.t 36) 1 false⟩])
  (.cond (.t 37) (.ops [⟨none, .mv 38 (.t 4)⟩,
      ⟨none, .fa 39 (.t 7) 2⟩,
      ⟨none, .ld 40 (.t 39) 2 true⟩,
      ⟨none, .fa 41 (.t 7) 4⟩,
      ⟨none, .ld 42 (.t 41) 2 true⟩,
      ⟨none, .fa 43 (.t 7) 0⟩,
      ⟨none, .ld 44 (.t 43) 2 true⟩,
      ⟨none, .bld 45 [.int .i64 0, .int .i64 0, .int .i64 0, .int .i64 0, .int .i64 0, .int .i64 0] [(0, 2, (.t 40)), (2, 2, (.t 42)), (4, 2, (.t 44))]⟩,
      ⟨none, .ca (some 46) 42 [(.t 38), (.t 45)]⟩,
      ⟨none, .mv 4 (.t 46)⟩])
    (.skip)))
  (.ops [⟨none, .mv 47 (.t 5)⟩,
    ⟨none, .ld 48 (.t 7) 7 true⟩,
    ⟨none, .lit 49 7 [(.t 48)]⟩,
    ⟨none, .ap 50 7 (.t 47) (.t 49)⟩,
    ⟨none, .mv 5 (.t 50)⟩])))))
  (.ops [⟨none, .mv 14 (.t 6)⟩,
    ⟨none, .bi 15 .add (.t 14) (.c (.int .i64 1))⟩,
    ⟨none, .mv 6 (.t 15)⟩]))))))
  (.seq (.ops [⟨none, .mv 51 (.t 4)⟩,
    ⟨none, .mv 52 (.t 5)⟩,
    ⟨none, .mv 2 (.t 51)⟩,
    ⟨none, .mv 3 (.t 52)⟩])
  (.ret)))))
theorem comp22 : compFn Try.prog [7] Try.f22 = some ([.t 2, .t 3], c22) := by kernel_rfl
/-- topiary/topiaryref11.Where: 2 parameters, 20 slots. -/
def c23 : C :=
  .seq (.ops [⟨none, .bxL 3 (.t 1)⟩,
    ⟨none, .mv 4 (.c (.int .i64 0))⟩])
  (.seq (.seq (.ops [⟨none, .mv 5 (.c (.int .i64 0))⟩])
  (.block 0 (.loop (.seq (.seq (.ops [⟨none, .mv 6 (.t 5)⟩,
    ⟨none, .mv 7 (.t 0)⟩,
    ⟨none, .ln 8 .sl (.t 7)⟩,
    ⟨none, .bi 9 .lss (.t 6) (.t 8)⟩])
  (.cond (.t 9) (.skip)
    (.exit 0)))
  (.seq (.block 1 (.seq (.opsD [⟨none, .mv 12 (.t 0)⟩,
    ⟨none, .mv 13 (.t 5)⟩,
    ⟨none, .ia 14 (.t 12) (.t 13) 6⟩,
    ⟨none, .fa 15 (.t 14) 0⟩,
    ⟨none, .ld 16 (.t 15) 2 true⟩,
    ⟨none, .ld 17 (.t 3) 2 true⟩,
    ⟨none, .be 18 false [.int .i64, .int .i64] (.t 16) (.t 17)⟩])
  (.cond (.t 18) (.seq (.ops [⟨none, .mv 19 (.t 5)⟩,
      ⟨none, .mv 4 (.t 19)⟩])
    (.ret))
    (.skip))))
  (.ops [⟨none, .mv 10 (.t 5)⟩,
    ⟨none, .bi 11 .add (.t 10) (.c (.int .i64 1))⟩,
    ⟨none, .mv 5 (.t 11)⟩]))))))
  (.seq (.ops [⟨none, .mv 4 (.c (.int .i64 (-1)))⟩])
  (.ret)))
theorem comp23 : compFn Try.prog [3] Try.f23 = some ([.t 4], c23) := by kernel_rfl
/-- topiary/topiaryref01.Same: 2 parameters, 26 slots. -/
def c24 : C :=
  .seq (.ops [⟨none, .mv 4 (.c (.bool false))⟩])
  (.seq (.seq (.ops [⟨none, .mv 6 (.t 0)⟩,
    ⟨none, .ln 7 .sl (.t 6)⟩,
    ⟨none, .mv 8 (.t 1)⟩,
    ⟨none, .ln 9 .sl (.t 8)⟩,
    ⟨none, .bi 10 .neq (.t 7) (.t 9)⟩])
  (.cond (.t 10) (.seq (.ops [⟨none, .mv 4 (.c (.bool false))⟩])
    (.ret))
    (.skip)))
  (.seq (.seq (.ops [⟨none, .mv 5 (.c (.int .i64 0))⟩])
  (.block 0 (.loop (.seq (.seq (.ops [⟨none, .mv 11 (.t 5)⟩,
    ⟨none, .mv 12 (.t 0)⟩,
    ⟨none, .ln 13 .sl (.t 12)⟩,
    ⟨none, .bi 14 .lss (.t 11) (.t 13)⟩])
  (.cond (.t 14) (.skip)
    (.exit 0)))
  (.seq (.block 1 (.seq (.opsD [⟨none, .mv 17 (.t 0)⟩,
    ⟨none, .mv 18 (.t 5)⟩,
    ⟨none, .ia 19 (.t 17) (.t 18) 2⟩,
    ⟨none, .ld 20 (.t 19) 2 true⟩,
    ⟨none, .mv 21 (.t 1)⟩,
    ⟨none, .mv 22 (.t 5)⟩,
    ⟨none, .ia 23 (.t 21) (.t 22) 2⟩,
    ⟨none, .ld 24 (.t 23) 2 true⟩,
    ⟨none, .be 25 true [.int .i64, .int .i64] (.t 20) (.t 24)⟩])
  (.cond (.t 25) (.seq (.ops [⟨none, .mv 4 (.c (.bool false))⟩])
    (.ret))
    (.skip))))
  (.ops [⟨none, .mv 15 (.t 5)⟩,
    ⟨none, .bi 16 .add (.t 15) (.c (.int .i64 1))⟩,
    ⟨none, .mv 5 (.t 16)⟩]))))))
  (.seq (.ops [⟨none, .mv 4 (.c (.bool true))⟩])
  (.ret))))
theorem comp24 : compFn Try.prog [] Try.f24 = some ([.t 4], c24) := by kernel_rfl
/-- topiary/topiaryref11.Above: 2 parameters, 31 slots. -/
def c25 : C :=
  .seq (.ops [⟨none, .bxL 3 (.t 1)⟩,
    ⟨none, .mv 4 (.c (.sl true .pub 2 []))⟩])
  (.seq (.ops [⟨none, .lit 8 2 []⟩,
    ⟨none, .mv 5 (.t 8)⟩])
  (.seq (.seq (.ops [⟨none, .mv 6 (.c (.int .i64 0))⟩])
  (.block 0 (.loop (.seq (.seq (.ops [⟨none, .mv 9 (.t 6)⟩,
    ⟨none, .mv 10 (.t 0)⟩,
    ⟨none, .ln 11 .sl (.t 10)⟩,
    ⟨none, .bi 12 .leq (.t 9) (.t 11)⟩])
  (.cond (.t 12) (.skip)
    (.exit 0)))
  (.seq (.block 1 (.seq (.ops [⟨none, .mv 15 (.t 0)⟩,
    ⟨none, .ld 16 (.t 3) 2 true⟩,
    ⟨none, .ca (some 17) 23 [(.t 15), (.t 16)]⟩,
    ⟨none, .mv 7 (.t 17)⟩])
  (.seq (.seq (.ops [⟨none, .mv 18 (.t 7)⟩,
    ⟨none, .bi 19 .lss (.t 18) (.c (.int .i64 0))⟩])
  (.cond (.t 19) (.seq (.ops [⟨none, .mv 20 (.t 5)⟩,
      ⟨none, .mv 4 (.t 20)⟩])
    (.ret))
    (.skip)))
  (.seq (.ops [⟨none, .mv 21 (.t 0)⟩,
    ⟨none, .mv 22 (.t 7)⟩,
    ⟨none, .ia 23 (.t 21) (.t 22) 6⟩,
    ⟨none, .fa 24 (.t 23) 2⟩,
    ⟨none, .ld 25 (.t 24) 2 true⟩,
    ⟨none, .st (.t 3) (.t 25) 2⟩])
  (.ops [⟨none, .mv 26 (.t 5)⟩,
    ⟨none, .ld 27 (.t 3) 2 true⟩,
    ⟨none, .lit 28 2 [(.t 27)]⟩,
    ⟨none, .ap 29 2 (.t 26) (.t 28)⟩,
    ⟨none, .mv 5 (.t 29)⟩])))))
  (.ops [⟨none, .mv 13 (.t 6)⟩,
    ⟨none, .bi 14 .add (.t 13) (.c (.int .i64 1))⟩,
    ⟨none, .mv 6 (.t 14)⟩]))))))
  (.seq (.ops [⟨none, .mv 30 (.t 5)⟩,
    ⟨none, .mv 4 (.t 30)⟩])
  (.ret))))
theorem comp25 : compFn Try.prog [3] Try.f25 = some ([.t 4], c25) := by kernel_rfl
/-- (*topiary/moves.Tree).Kids: 2 parameters, 26 slots. -/
def c26 : C :=
  .seq (.ops [⟨none, .bxL 3 (.t 1)⟩,
    ⟨none, .mv 4 (.c (.sl true .pub 2 []))⟩])
  (.seq (.ops [⟨none, .mv 5 (.c (.sl true .pub 2 []))⟩])
  (.seq (.seq (.ops [⟨none, .mv 8 (.t 0)⟩,
    ⟨none, .ca (some 9) 18 [(.t 8)]⟩,
    ⟨none, .ln 10 .sl (.t 9)⟩,
    ⟨none, .mv 11 (.c (.int .i64 0))⟩])
  (.block 0 (.loop (.seq (.ops [⟨none, .bi 12 .lss (.t 11) (.t 10)⟩])
  (.seq (.cond (.t 12) (.skip)
    (.exit 0))
  (.cut (.block 1 (.seq (.ops [⟨none, .ia 13 (.t 9) (.t 11) 6⟩,
    ⟨none, .ld 14 (.t 13) 6 true⟩,
    ⟨none, .alL 7 [.int .i64 0, .int .i64 0, .int .i64 0, .int .i64 0, .int .i64 0, .int .i64 0]⟩,
    ⟨none, .st (.t 7) (.t 14) 6⟩])
  (.seq (.ops [⟨none, .fa 15 (.t 7) 2⟩,
    ⟨none, .ld 16 (.t 15) 2 true⟩,
    ⟨none, .ld 17 (.t 3) 2 true⟩,
    ⟨none, .be 18 false [.int .i64, .int .i64] (.t 16) (.t 17)⟩])
  (.cond (.t 18) (.ops [⟨none, .mv 19 (.t 5)⟩,
      ⟨none, .fa 20 (.t 7) 0⟩,
      ⟨none, .ld 21 (.t 20) 2 true⟩,
      ⟨none, .lit 22 2 [(.t 21)]⟩,
      ⟨none, .ap 23 2 (.t 19) (.t 22)⟩,
      ⟨none, .mv 5 (.t 23)⟩])
    (.skip)))))
  (.ops [⟨none, .bi 24 .add (.t 11) (.c (.int .i64 1))⟩,
    ⟨none, .mv 11 (.t 24)⟩])))))))
  (.seq (.ops [⟨none, .mv 25 (.t 5)⟩,
    ⟨none, .mv 4 (.t 25)⟩])
  (.ret))))
theorem comp26 : compFn Try.prog [3, 7] Try.f26 = some ([.t 4], c26) := by kernel_rfl
/-- topiary/topiaryref11.Kids: 2 parameters, 30 slots. -/
def c27 : C :=
  .seq (.ops [⟨none, .bxL 3 (.t 1)⟩,
    ⟨none, .mv 4 (.c (.sl true .pub 2 []))⟩])
  (.seq (.ops [⟨none, .lit 7 2 []⟩,
    ⟨none, .mv 5 (.t 7)⟩])
  (.seq (.seq (.ops [⟨none, .mv 6 (.c (.int .i64 0))⟩])
  (.block 0 (.loop (.seq (.seq (.ops [⟨none, .mv 8 (.t 6)⟩,
    ⟨none, .mv 9 (.t 0)⟩,
    ⟨none, .ln 10 .sl (.t 9)⟩,
    ⟨none, .bi 11 .lss (.t 8) (.t 10)⟩])
  (.cond (.t 11) (.skip)
    (.exit 0)))
  (.cut (.block 1 (.seq (.opsD [⟨none, .mv 14 (.t 0)⟩,
    ⟨none, .mv 15 (.t 6)⟩,
    ⟨none, .ia 16 (.t 14) (.t 15) 6⟩,
    ⟨none, .fa 17 (.t 16) 2⟩,
    ⟨none, .ld 18 (.t 17) 2 true⟩,
    ⟨none, .ld 19 (.t 3) 2 true⟩,
    ⟨none, .be 20 false [.int .i64, .int .i64] (.t 18) (.t 19)⟩])
  (.cond (.t 20) (.ops [⟨none, .mv 21 (.t 5)⟩,
      ⟨none, .mv 22 (.t 0)⟩,
      ⟨none, .mv 23 (.t 6)⟩,
      ⟨none, .ia 24 (.t 22) (.t 23) 6⟩,
      ⟨none, .fa 25 (.t 24) 0⟩,
      ⟨none, .ld 26 (.t 25) 2 true⟩,
      ⟨none, .lit 27 2 [(.t 26)]⟩,
      ⟨none, .ap 28 2 (.t 21) (.t 27)⟩,
      ⟨none, .mv 5 (.t 28)⟩])
    (.skip))))
  (.ops [⟨none, .mv 12 (.t 6)⟩,
    ⟨none, .bi 13 .add (.t 12) (.c (.int .i64 1))⟩,
    ⟨none, .mv 6 (.t 13)⟩]))))))
  (.seq (.ops [⟨none, .mv 29 (.t 5)⟩,
    ⟨none, .mv 4 (.t 29)⟩])
  (.ret))))
theorem comp27 : compFn Try.prog [3] Try.f27 = some ([.t 4], c27) := by kernel_rfl
/-- (*topiary/moves.Tree).Undo: 2 parameters, 43 slots. -/
def c28 : C :=
  .seq (.ops [⟨none, .bxL 3 (.t 1)⟩,
    ⟨none, .mv 4 (.c (.int .i64 0))⟩])
  (.seq (.seq (.ops [⟨none, .mv 7 (.t 0)⟩,
    ⟨none, .bq 8 false .ptr (.t 7) (.c (.ptr none))⟩])
  (.cond (.t 8) (.seq (.ops [⟨none, .mv 4 (.c (.int .i64 7))⟩])
    (.ret))
    (.skip)))
  (.seq (.ops [⟨none, .mv 10 (.t 0)⟩,
    ⟨none, .ld 11 (.t 3) 2 true⟩,
    ⟨none, .ca (some 12) 33 [(.t 10), (.t 11)]⟩,
    ⟨none, .mv 9 (.t 12)⟩,
    ⟨none, .ex 13 (.t 9) 0⟩,
    ⟨none, .ex 14 (.t 9) 1⟩,
    ⟨none, .mv 5 (.t 13)⟩,
    ⟨none, .mv 6 (.t 14)⟩])
  (.seq (.seq (.ops [⟨none, .mv 15 (.t 6)⟩,
    ⟨none, .un 16 .not (.t 15)⟩])
  (.cond (.t 16) (.seq (.ops [⟨none, .mv 4 (.c (.int .i64 4))⟩])
    (.ret))
    (.skip)))
  (.seq (.ops [⟨none, .mv 17 (.t 0)⟩,
    ⟨none, .mv 18 (.t 5)⟩,
    ⟨none, .ca (some 19) 36 [(.t 17), (.t 18)]⟩])
  (.seq (.ops [⟨none, .mv 20 (.t 0)⟩,
    ⟨none, .mv 21 (.t 0)⟩,
    ⟨none, .nc 22 (.t 21)⟩,
    ⟨none, .fa 23 (.t 22) 0⟩,
    ⟨none, .ld 24 (.t 23) 1 false⟩,
    ⟨none, .mv 25 (.t 5)⟩,
    ⟨none, .mv 26 (.t 5)⟩,
    ⟨none, .bi 27 .add (.t 26) (.c (.int .i64 1))⟩,
    ⟨none, .ca (some 28) 43 [(.t 24), (.t 25), (.t 27)]⟩,
    ⟨none, .nc 29 (.t 20)⟩,
    ⟨none, .fa 30 (.t 29) 0⟩,
    ⟨none, .st (.t 30) (.t 28) 1⟩])
  (.seq (.block 0 (.loop (.seq (.seq (.ops [⟨none, .mv 31 (.t 5)⟩,
    ⟨none, .mv 32 (.t 0)⟩,
    ⟨none, .nc 33 (.t 32)⟩,
    ⟨none, .fa 34 (.t 33) 0⟩,
    ⟨none, .ld 35 (.t 34) 1 false⟩,
    ⟨none, .ln 36 .sl (.t 35)⟩,
    ⟨none, .bi 37 .lss (.t 31) (.t 36)⟩])
  (.cond (.t 37) (.skip)
    (.exit 0)))
  (.seq (.block 1 (.ops [⟨none, .mv 40 (.t 0)⟩,
    ⟨none, .mv 41 (.t 5)⟩,
    ⟨none, .ca (some 42) 38 [(.t 40), (.t 41)]⟩]))
  (.ops [⟨none, .mv 38 (.t 5)⟩,
    ⟨none, .bi 39 .add (.t 38) (.c (.int .i64 1))⟩,
    ⟨none, .mv 5 (.t 39)⟩])))))
  (.seq (.ops [⟨none, .mv 4 (.c (.int .i64 0))⟩])
  (.ret))))))))
theorem comp28 : compFn Try.prog [3] Try.f28 = some ([.t 4], c28) := by kernel_rfl
/-- (*topiary/moves.Tree).Len: 1 parameters, 10 slots. -/
def c29 : C :=
  .seq (.ops [⟨none, .mv 2 (.c (.int .i64 0))⟩])
  (.seq (.seq (.ops [⟨none, .mv 3 (.t 0)⟩,
    ⟨none, .bq 4 false .ptr (.t 3) (.c (.ptr none))⟩])
  (.cond (.t 4) (.seq (.ops [⟨none, .mv 2 (.c (.int .i64 0))⟩])
    (.ret))
    (.skip)))
  (.seq (.ops [⟨none, .mv 5 (.t 0)⟩,
    ⟨none, .nc 6 (.t 5)⟩,
    ⟨none, .fa 7 (.t 6) 0⟩,
    ⟨none, .ld 8 (.t 7) 1 false⟩,
    ⟨none, .ln 9 .sl (.t 8)⟩,
    ⟨none, .mv 2 (.t 9)⟩])
  (.ret)))
theorem comp29 : compFn Try.prog [] Try.f29 = some ([.t 2], c29) := by kernel_rfl
/-- (*topiary/moves.Tree).Clone: 1 parameters, 38 slots. -/
def c30 : C :=
  .seq (.ops [⟨none, .mv 2 (.c (.ptr none))⟩])
  (.seq (.seq (.ops [⟨none, .mv 6 (.t 0)⟩,
    ⟨none, .bq 7 false .ptr (.t 6) (.c (.ptr none))⟩])
  (.cond (.t 7) (.seq (.ops [⟨none, .mv 2 (.c (.ptr none))⟩])
    (.ret))
    (.skip)))
  (.seq (.ops [⟨none, .ca (some 8) 15 []⟩,
    ⟨none, .mv 3 (.t 8)⟩])
  (.seq (.opsD [⟨none, .mv 9 (.t 3)⟩,
    ⟨none, .mv 10 (.t 3)⟩,
    ⟨none, .nc 11 (.t 10)⟩,
    ⟨none, .fa 12 (.t 11) 0⟩,
    ⟨none, .ld 13 (.t 12) 1 false⟩,
    ⟨none, .mv 14 (.t 0)⟩,
    ⟨none, .nc 15 (.t 14)⟩,
    ⟨none, .fa 16 (.t 15) 0⟩,
    ⟨none, .ld 17 (.t 16) 1 false⟩,
    ⟨none, .ap 18 14 (.t 13) (.t 17)⟩,
    ⟨none, .nc 19 (.t 9)⟩,
    ⟨none, .fa 20 (.t 19) 0⟩,
    ⟨none, .st (.t 20) (.t 18) 1⟩])
  (.seq (.seq (.ops [⟨none, .mv 21 (.t 0)⟩,
    ⟨none, .nc 22 (.t 21)⟩,
    ⟨none, .fa 23 (.t 22) 1⟩,
    ⟨none, .ld 24 (.t 23) 1 false⟩,
    ⟨none, .rg 25 (.t 24)⟩])
  (.block 0 (.loop (.seq (.ops [⟨none, .nx 26 (.t 25)⟩,
    ⟨none, .ex 27 (.t 26) 0⟩])
  (.seq (.cond (.t 27) (.skip)
    (.exit 0))
  (.block 1 (.seq (.ops [⟨none, .en 28 (.t 25)⟩,
    ⟨none, .ex 29 (.t 28) 0⟩,
    ⟨none, .ex 30 (.t 28) 1⟩,
    ⟨none, .alL 4 [.int .i64 0, .int .i64 0]⟩,
    ⟨none, .alL 5 [.int .i64 0, .int .i64 0, .int .i64 0, .int .i64 0, .int .i64 0, .int .i64 0]⟩,
    ⟨none, .st (.t 4) (.t 29) 2⟩,
    ⟨none, .st (.t 5) (.t 30) 6⟩])
  (.opsD [⟨none, .mv 31 (.t 3)⟩,
    ⟨none, .nc 32 (.t 31)⟩,
    ⟨none, .fa 33 (.t 32) 1⟩,
    ⟨none, .ld 34 (.t 33) 1 false⟩,
    ⟨none, .ld 35 (.t 4) 2 true⟩,
    ⟨none, .ld 36 (.t 5) 6 true⟩,
    ⟨none, .mu [.agg, .int .i64, .int .i64] (.t 34) (.t 35) (.t 36)⟩]))))))))
  (.seq (.ops [⟨none, .mv 37 (.t 3)⟩,
    ⟨none, .mv 2 (.t 37)⟩])
  (.ret))))))
theorem comp30 : compFn Try.prog [4, 5] Try.f30 = some ([.t 2], c30) := by kernel_rfl
/-- topiary/topiarylaw11.play: 3 parameters, 55 slots. -/
def c31 : C :=
  .seq (.ops [⟨none, .bxL 5 (.t 2)⟩,
    ⟨none, .mv 6 (.c (.sl true .pub 7 []))⟩,
    ⟨none, .mv 7 (.c (.bool false))⟩])
  (.seq (.seq (.ops [⟨none, .fa 12 (.t 5) 0⟩,
    ⟨none, .ld 13 (.t 12) 1 false⟩,
    ⟨none, .bi 14 .eql (.t 13) (.c (.int .i64 0))⟩])
  (.cond (.t 14) (.seq (.ops [⟨none, .mv 16 (.t 1)⟩,
      ⟨none, .fa 17 (.t 5) 1⟩,
      ⟨none, .ld 18 (.t 17) 2 true⟩,
      ⟨none, .fa 19 (.t 5) 3⟩,
      ⟨none, .ld 20 (.t 19) 2 true⟩,
      ⟨none, .fa 21 (.t 5) 5⟩,
      ⟨none, .ld 22 (.t 21) 2 true⟩,
      ⟨none, .ca (some 23) 32 [(.t 16), (.t 18), (.t 20), (.t 22)]⟩,
      ⟨none, .mv 15 (.t 23)⟩,
      ⟨none, .ex 24 (.t 15) 0⟩,
      ⟨none, .ex 25 (.t 15) 1⟩,
      ⟨none, .mv 8 (.t 24)⟩,
      ⟨none, .mv 9 (.t 25)⟩])
    (.seq (.ops [⟨none, .mv 26 (.t 8)⟩,
      ⟨none, .mv 27 (.t 0)⟩,
      ⟨none, .fa 28 (.t 5) 1⟩,
      ⟨none, .ld 29 (.t 28) 2 true⟩,
      ⟨none, .fa 30 (.t 5) 3⟩,
      ⟨none, .ld 31 (.t 30) 2 true⟩,
      ⟨none, .fa 32 (.t 5) 5⟩,
      ⟨none, .ld 33 (.t 32) 2 true⟩,
      ⟨none, .ca (some 34) 16 [(.t 27), (.t 29), (.t 31), (.t 33)]⟩,
      ⟨none, .mv 35 (.t 9)⟩,
      ⟨none, .bi 36 .eql (.t 34) (.t 35)⟩,
      ⟨none, .mv 6 (.t 26)⟩,
      ⟨none, .mv 7 (.t 36)⟩])
    (.ret)))
    (.skip)))
  (.seq (.seq (.ops [⟨none, .fa 37 (.t 5) 0⟩,
    ⟨none, .ld 38 (.t 37) 1 false⟩,
    ⟨none, .bi 39 .eql (.t 38) (.c (.int .i64 1))⟩])
  (.cond (.t 39) (.seq (.ops [⟨none, .mv 41 (.t 1)⟩,
      ⟨none, .fa 42 (.t 5) 1⟩,
      ⟨none, .ld 43 (.t 42) 2 true⟩,
      ⟨none, .ca (some 44) 44 [(.t 41), (.t 43)]⟩,
      ⟨none, .mv 40 (.t 44)⟩,
      ⟨none, .ex 45 (.t 40) 0⟩,
      ⟨none, .ex 46 (.t 40) 1⟩,
      ⟨none, .mv 10 (.t 45)⟩,
      ⟨none, .mv 11 (.t 46)⟩])
    (.seq (.ops [⟨none, .mv 47 (.t 10)⟩,
      ⟨none, .mv 48 (.t 0)⟩,
      ⟨none, .fa 49 (.t 5) 1⟩,
      ⟨none, .ld 50 (.t 49) 2 true⟩,
      ⟨none, .ca (some 51) 28 [(.t 48), (.t 50)]⟩,
      ⟨none, .mv 52 (.t 11)⟩,
      ⟨none, .bi 53 .eql (.t 51) (.t 52)⟩,
      ⟨none, .mv 6 (.t 47)⟩,
      ⟨none, .mv 7 (.t 53)⟩])
    (.ret)))
    (.skip)))
  (.seq (.ops [⟨none, .mv 54 (.t 1)⟩,
    ⟨none, .mv 6 (.t 54)⟩,
    ⟨none, .mv 7 (.c (.bool true))⟩])
  (.ret))))
theorem comp31 : compFn Try.prog [5] Try.f31 = some ([.t 6, .t 7], c31) := by kernel_rfl
/-- topiary/topiaryref11.Do: 4 parameters, 39 slots. -/
def c32 : C :=
  .seq (.ops [⟨none, .bxL 5 (.t 1)⟩,
    ⟨none, .bxL 6 (.t 2)⟩,
    ⟨none, .bxL 7 (.t 3)⟩,
    ⟨none, .mv 8 (.c (.sl true .pub 7 []))⟩,
    ⟨none, .mv 9 (.c (.int .i64 0))⟩])
  (.seq (.seq (.ops [⟨none, .ld 12 (.t 5) 2 true⟩,
    ⟨none, .ca (some 13) 45 [(.t 12)]⟩,
    ⟨none, .un 14 .not (.t 13)⟩,
    ⟨none, .mv 15 (.t 14)⟩,
    ⟨some (15, false), .ld 16 (.t 6) 2 true⟩,
    ⟨some (15, false), .ca (some 17) 45 [(.t 16)]⟩,
    ⟨some (15, false), .un 18 .not (.t 17)⟩,
    ⟨none, .pk 19 (.t 15) (.c (.bool true)) (.t 18)⟩,
    ⟨none, .mv 20 (.t 19)⟩,
    ⟨some (20, false), .ld 21 (.t 7) 2 true⟩,
    ⟨some (20, false), .ca (some 22) 46 [(.t 21)]⟩,
    ⟨some (20, false), .un 23 .not (.t 22)⟩,
    ⟨none, .pk 24 (.t 20) (.c (.bool true)) (.t 23)⟩])
  (.cond (.t 24) (.seq (.ops [⟨none, .mv 25 (.t 0)⟩,
      ⟨none, .mv 8 (.t 25)⟩,
      ⟨none, .mv 9 (.c (.int .i64 2))⟩])
    (.ret))
    (.skip)))
  (.seq (.ops [⟨none, .mv 27 (.t 0)⟩,
    ⟨none, .ld 28 (.t 5) 2 true⟩,
    ⟨none, .ld 29 (.t 6) 2 true⟩,
    ⟨none, .ld 30 (.t 7) 2 true⟩,
    ⟨none, .bld 31 [.int .i64 0, .int .i64 0, .int .i64 0, .int .i64 0, .int .i64 0, .int .i64 0, .bool false] [(0, 2, (.t 28)), (2, 2, (.t 29)), (4, 2, (.t 30))]⟩,
    ⟨none, .ca (some 32) 47 [(.t 27), (.t 31)]⟩,
    ⟨none, .mv 26 (.t 32)⟩,
    ⟨none, .ex 33 (.t 26) 0⟩,
    ⟨none, .ex 34 (.t 26) 1⟩,
    ⟨none, .mv 10 (.t 33)⟩,
    ⟨none, .mv 11 (.t 34)⟩])
  (.seq (.seq (.ops [⟨none, .mv 35 (.t 11)⟩,
    ⟨none, .un 36 .not (.t 35)⟩])
  (.cond (.t 36) (.seq (.ops [⟨none, .mv 37 (.t 0)⟩,
      ⟨none, .mv 8 (.t 37)⟩,
      ⟨none, .mv 9 (.c (.int .i64 5))⟩])
    (.ret))
    (.skip)))
  (.seq (.ops [⟨none, .mv 38 (.t 10)⟩,
    ⟨none, .mv 8 (.t 38)⟩,
    ⟨none, .mv 9 (.c (.int .i64 0))⟩])
  (.ret)))))
theorem comp32 : compFn Try.prog [5, 6, 7] Try.f32 = some ([.t 8, .t 9], c32) := by kernel_rfl
/-- (*topiary/moves.Tree).place: 2 parameters, 16 slots. -/
def c33 : C :=
  .seq (.ops [⟨none, .bxL 3 (.t 1)⟩,
    ⟨none, .mv 4 (.c (.int .i64 0))⟩,
    ⟨none, .mv 5 (.c (.bool false))⟩])
  (.seq (.seq (.ops [⟨none, .mv 6 (.t 0)⟩,
    ⟨none, .bq 7 false .ptr (.t 6) (.c (.ptr none))⟩])
  (.cond (.t 7) (.seq (.ops [⟨none, .mv 4 (.c (.int .i64 0))⟩,
      ⟨none, .mv 5 (.c (.bool false))⟩])
    (.ret))
    (.skip)))
  (.seq (.opsD [⟨none, .mv 8 (.t 0)⟩,
    ⟨none, .nc 9 (.t 8)⟩,
    ⟨none, .fa 10 (.t 9) 0⟩,
    ⟨none, .ld 11 (.t 10) 1 false⟩,
    ⟨none, .ld 12 (.t 3) 2 true⟩,
    ⟨none, .ca (some 13) 48 [(.t 11), (.t 12), (.c (.fn 49 []))]⟩,
    ⟨none, .ex 14 (.t 13) 0⟩,
    ⟨none, .ex 15 (.t 13) 1⟩,
    ⟨none, .mv 4 (.t 14)⟩,
    ⟨none, .mv 5 (.t 15)⟩])
  (.ret)))
theorem comp33 : compFn Try.prog [3] Try.f33 = some ([.t 4, .t 5], c33) := by kernel_rfl
/-- topiary/ident.Right: 1 parameters, 16 slots. -/
def c34 : C :=
  .seq (.ops [⟨none, .bxL 1 (.t 0)⟩,
    ⟨none, .mv 2 (.c (.bool false))⟩])
  (.seq (.ops [⟨none, .fa 3 (.t 1) 0⟩,
    ⟨none, .ld 4 (.t 3) 1 false⟩,
    ⟨none, .bi 5 .geq (.t 4) (.c (.int .i64 1))⟩,
    ⟨none, .mv 6 (.t 5)⟩,
    ⟨some (6, true), .fa 7 (.t 1) 0⟩,
    ⟨some (6, true), .ld 8 (.t 7) 1 false⟩,
    ⟨some (6, true), .bi 9 .leq (.t 8) (.c (.int .i64 1099511627776))⟩,
    ⟨none, .pk 10 (.t 6) (.t 9) (.c (.bool false))⟩,
    ⟨none, .mv 11 (.t 10)⟩,
    ⟨some (11, true), .fa 12 (.t 1) 1⟩,
    ⟨some (11, true), .ld 13 (.t 12) 1 false⟩,
    ⟨some (11, true), .ca (some 14) 50 [(.t 13)]⟩,
    ⟨none, .pk 15 (.t 11) (.t 14) (.c (.bool false))⟩,
    ⟨none, .mv 2 (.t 15)⟩])
  (.ret))
theorem comp34 : compFn Try.prog [1] Try.f34 = some ([.t 2], c34) := by kernel_rfl
/-- topiary/ident.Node: 1 parameters, 15 slots. -/
def c35 : C :=
  .seq (.ops [⟨none, .bxL 1 (.t 0)⟩,
    ⟨none, .mv 2 (.c (.bool false))⟩])
  (.seq (.ops [⟨none, .ld 3 (.t 1) 2 true⟩,
    ⟨none, .ca (some 4) 34 [(.t 3)]⟩,
    ⟨none, .mv 5 (.t 4)⟩,
    ⟨some (5, false), .ld 6 (.t 1) 2 true⟩,
    ⟨some (5, false), .bld 7 [.int .i64 0, .int .i64 0] []⟩,
    ⟨some (5, false), .be 8 false [.int .i64, .int .i64] (.t 6) (.t 7)⟩,
    ⟨none, .pk 9 (.t 5) (.c (.bool true)) (.t 8)⟩,
    ⟨none, .mv 10 (.t 9)⟩,
    ⟨some (10, false), .ld 11 (.t 1) 2 true⟩,
    ⟨some (10, false), .bld 12 [.int .i64 0, .int .i64 0] [(1, 1, (.c (.int .i64 1)))]⟩,
    ⟨some (10, false), .be 13 false [.int .i64, .int .i64] (.t 11) (.t 12)⟩,
    ⟨none, .pk 14 (.t 10) (.c (.bool true)) (.t 13)⟩,
    ⟨none, .mv 2 (.t 14)⟩])
  (.ret))
theorem comp35 : compFn Try.prog [1] Try.f35 = some ([.t 2], c35) := by kernel_rfl
/-- (*topiary/moves.Tree).back: 2 parameters, 45 slots. -/
def c36 : C :=
  .seq (.skip)
  (.seq (.ops [⟨none, .mv 6 (.t 0)⟩,
    ⟨none, .nc 7 (.t 6)⟩,
    ⟨none, .fa 8 (.t 7) 0⟩,
    ⟨none, .ld 9 (.t 8) 1 false⟩,
    ⟨none, .ln 10 .sl (.t 9)⟩,
    ⟨none, .bi 11 .sub (.t 10) (.c (.int .i64 1))⟩,
    ⟨none, .mv 4 (.t 11)⟩])
  (.block 0 (.loop (.seq (.seq (.ops [⟨none, .mv 12 (.t 4)⟩,
    ⟨none, .mv 13 (.t 1)⟩,
    ⟨none, .bi 14 .geq (.t 12) (.t 13)⟩])
  (.cond (.t 14) (.skip)
    (.exit 0)))
  (.cut (.block 1 (.seq (.ops [⟨none, .mv 17 (.t 0)⟩,
    ⟨none, .nc 18 (.t 17)⟩,
    ⟨none, .fa 19 (.t 18) 0⟩,
    ⟨none, .ld 20 (.t 19) 1 false⟩,
    ⟨none, .mv 21 (.t 4)⟩,
    ⟨none, .ia 22 (.t 20) (.t 21) 14⟩,
    ⟨none, .ld 23 (.t 22) 14 true⟩,
    ⟨none, .alL 5 [.int .i64 0, .int .i64 0, .int .i64 0, .int .i64 0, .int .i64 0, .int .i64 0, .bool false, .int .i64 0, .int .i64 0, .int .i64 0, .int .i64 0, .int .i64 0, .int .i64 0, .bool false]⟩,
    ⟨none, .st (.t 5) (.t 23) 14⟩])
  (.block 2 (.seq (.ops [⟨none, .fa 31 (.t 5) 6⟩,
    ⟨none, .ld 32 (.t 31) 1 false⟩,
    ⟨none, .un 33 .not (.t 32)⟩,
    ⟨none, .mv 30 (.t 33)⟩])
  (.cond (.t 30) (.exit 1)
    (.seq (.ops [⟨none, .fa 35 (.t 5) 13⟩,
      ⟨none, .ld 36 (.t 35) 1 false⟩,
      ⟨none, .mv 34 (.t 36)⟩])
    (.cond (.t 34) (.opsD [⟨none, .mv 37 (.t 0)⟩,
        ⟨none, .nc 38 (.t 37)⟩,
        ⟨none, .fa 39 (.t 38) 1⟩,
        ⟨none, .ld 40 (.t 39) 1 false⟩,
        ⟨none, .fa 41 (.t 5) 2⟩,
        ⟨none, .ld 42 (.t 41) 2 true⟩,
        ⟨none, .fa 43 (.t 5) 7⟩,
        ⟨none, .ld 44 (.t 43) 6 true⟩,
        ⟨none, .mu [.agg, .int .i64, .int .i64] (.t 40) (.t 42) (.t 44)⟩])
      (.opsD [⟨none, .mv 24 (.t 0)⟩,
        ⟨none, .nc 25 (.t 24)⟩,
        ⟨none, .fa 26 (.t 25) 1⟩,
        ⟨none, .ld 27 (.t 26) 1 false⟩,
        ⟨none, .fa 28 (.t 5) 2⟩,
        ⟨none, .ld 29 (.t 28) 2 true⟩,
        ⟨none, .de [.agg, .int .i64, .int .i64] (.t 27) (.t 29)⟩]))))))))
  (.ops [⟨none, .mv 15 (.t 4)⟩,
    ⟨none, .bi 16 .sub (.t 15) (.c (.int .i64 1))⟩,
    ⟨none, .mv 4 (.t 16)⟩]))))))
theorem comp36 : compFn Try.prog [5] Try.f36 = some ([], c36) := by kernel_rfl
/-- (*topiary/moves.Tree).redo: 2 parameters, 68 slots. -/
def c38 : C :=
  .seq (.ops [⟨none, .mv 5 (.t 0)⟩,
    ⟨none, .nc 6 (.t 5)⟩,
    ⟨none, .fa 7 (.t 6) 0⟩,
    ⟨none, .ld 8 (.t 7) 1 false⟩,
    ⟨none, .mv 9 (.t 1)⟩,
    ⟨none, .ia 10 (.t 8) (.t 9) 14⟩,
    ⟨none, .mv 4 (.t 10)⟩])
  (.seq (.opsD [⟨none, .mv 12 (.t 4)⟩,
    ⟨none, .mv 13 (.t 4)⟩,
    ⟨none, .mv 14 (.t 0)⟩,
    ⟨none, .nc 15 (.t 14)⟩,
    ⟨none, .fa 16 (.t 15) 1⟩,
    ⟨none, .ld 17 (.t 16) 1 false⟩,
    ⟨none, .mv 18 (.t 4)⟩,
    ⟨none, .nc 19 (.t 18)⟩,
    ⟨none, .fa 20 (.t 19) 2⟩,
    ⟨none, .ld 21 (.t 20) 2 true⟩,
    ⟨none, .lk 22 [.agg, .int .i64, .int .i64] (.t 17) (.t 21) true (.agg [.int .i64 0, .int .i64 0, .int .i64 0, .int .i64 0, .int .i64 0, .int .i64 0])⟩,
    ⟨none, .mv 11 (.t 22)⟩,
    ⟨none, .ex 23 (.t 11) 0⟩,
    ⟨none, .ex 24 (.t 11) 1⟩,
    ⟨none, .nc 25 (.t 12)⟩,
    ⟨none, .fa 26 (.t 25) 7⟩,
    ⟨none, .st (.t 26) (.t 23) 6⟩,
    ⟨none, .nc 27 (.t 13)⟩,
    ⟨none, .fa 28 (.t 27) 13⟩,
    ⟨none, .st (.t 28) (.t 24) 1⟩])
  (.seq (.opsD [⟨none, .mv 29 (.t 4)⟩,
    ⟨none, .mv 30 (.t 0)⟩,
    ⟨none, .mv 31 (.t 4)⟩,
    ⟨none, .nc 32 (.t 31)⟩,
    ⟨none, .fa 33 (.t 32) 4⟩,
    ⟨none, .ld 34 (.t 33) 2 true⟩,
    ⟨none, .mv 35 (.t 4)⟩,
    ⟨none, .nc 36 (.t 35)⟩,
    ⟨none, .fa 37 (.t 36) 2⟩,
    ⟨none, .ld 38 (.t 37) 2 true⟩,
    ⟨none, .ca (some 39) 53 [(.t 30), (.t 34), (.t 38)]⟩,
    ⟨none, .un 40 .not (.t 39)⟩,
    ⟨none, .nc 41 (.t 29)⟩,
    ⟨none, .fa 42 (.t 41) 6⟩,
    ⟨none, .st (.t 42) (.t 40) 1⟩])
  (.seq (.ops [⟨none, .mv 43 (.t 4)⟩,
    ⟨none, .nc 44 (.t 43)⟩,
    ⟨none, .fa 45 (.t 44) 6⟩,
    ⟨none, .ld 46 (.t 45) 1 false⟩])
  (.cond (.t 46) (.opsD [⟨none, .mv 47 (.t 0)⟩,
      ⟨none, .nc 48 (.t 47)⟩,
      ⟨none, .fa 49 (.t 48) 1⟩,
      ⟨none, .ld 50 (.t 49) 1 false⟩,
      ⟨none, .mv 51 (.t 4)⟩,
      ⟨none, .nc 52 (.t 51)⟩,
      ⟨none, .fa 53 (.t 52) 2⟩,
      ⟨none, .ld 54 (.t 53) 2 true⟩,
      ⟨none, .mv 55 (.t 4)⟩,
      ⟨none, .nc 56 (.t 55)⟩,
      ⟨none, .fa 57 (.t 56) 2⟩,
      ⟨none, .ld 58 (.t 57) 2 true⟩,
      ⟨none, .mv 59 (.t 4)⟩,
      ⟨none, .nc 60 (.t 59)⟩,
      ⟨none, .fa 61 (.t 60) 4⟩,
      ⟨none, .ld 62 (.t 61) 2 true⟩,
      ⟨none, .mv 63 (.t 4)⟩,
      ⟨none, .nc 64 (.t 63)⟩,
      ⟨none, .fa 65 (.t 64) 0⟩,
      ⟨none, .ld 66 (.t 65) 2 true⟩,
      ⟨none, .bld 67 [.int .i64 0, .int .i64 0, .int .i64 0, .int .i64 0, .int .i64 0, .int .i64 0] [(0, 2, (.t 58)), (2, 2, (.t 62)), (4, 2, (.t 66))]⟩,
      ⟨none, .mu [.agg, .int .i64, .int .i64] (.t 50) (.t 54) (.t 67)⟩])
    (.skip)))))
theorem comp38 : compFn Try.prog [] Try.f38 = some ([], c38) := by kernel_rfl
/-- (*topiary/moves.Tree).All$1: 2 parameters, 10 slots. -/
def c40 : C :=
  .seq (.ops [⟨none, .bxL 2 (.t 0)⟩,
    ⟨none, .bxL 3 (.t 1)⟩,
    ⟨none, .mv 4 (.c (.int .i64 0))⟩])
  (.seq (.ops [⟨none, .fa 5 (.t 2) 0⟩,
    ⟨none, .ld 6 (.t 5) 2 true⟩,
    ⟨none, .fa 7 (.t 3) 0⟩,
    ⟨none, .ld 8 (.t 7) 2 true⟩,
    ⟨none, .ca (some 9) 41 [(.t 6), (.t 8)]⟩,
    ⟨none, .mv 4 (.t 9)⟩])
  (.ret))
theorem comp40 : compFn Try.prog [2, 3] Try.f40 = some ([.t 4], c40) := by kernel_rfl
/-- topiary/ident.Compare: 2 parameters, 29 slots. -/
def c41 : C :=
  .seq (.ops [⟨none, .bxL 2 (.t 0)⟩,
    ⟨none, .bxL 3 (.t 1)⟩,
    ⟨none, .mv 4 (.c (.int .i64 0))⟩])
  (.seq (.block 0 (.seq (.ops [⟨none, .ld 6 (.t 2) 2 true⟩,
    ⟨none, .ld 7 (.t 3) 2 true⟩,
    ⟨none, .be 8 false [.int .i64, .int .i64] (.t 6) (.t 7)⟩,
    ⟨none, .mv 5 (.t 8)⟩])
  (.cond (.t 5) (.seq (.ops [⟨none, .mv 4 (.c (.int .i64 0))⟩])
    (.ret))
    (.seq (.ops [⟨none, .fa 10 (.t 2) 0⟩,
      ⟨none, .ld 11 (.t 10) 1 false⟩,
      ⟨none, .fa 12 (.t 3) 0⟩,
      ⟨none, .ld 13 (.t 12) 1 false⟩,
      ⟨none, .bi 14 .lss (.t 11) (.t 13)⟩,
      ⟨none, .mv 15 (.t 14)⟩,
      ⟨some (15, false), .fa 16 (.t 2) 0⟩,
      ⟨some (15, false), .ld 17 (.t 16) 1 false⟩,
      ⟨some (15, false), .fa 18 (.t 3) 0⟩,
      ⟨some (15, false), .ld 19 (.t 18) 1 false⟩,
      ⟨some (15, false), .bi 20 .eql (.t 17) (.t 19)⟩,
      ⟨some (15, false), .mv 21 (.t 20)⟩,
      ⟨some (21, true), .fa 22 (.t 2) 1⟩,
      ⟨some (21, true), .ld 23 (.t 22) 1 false⟩,
      ⟨some (21, true), .fa 24 (.t 3) 1⟩,
      ⟨some (21, true), .ld 25 (.t 24) 1 false⟩,
      ⟨some (21, true), .bi 26 .lss (.t 23) (.t 25)⟩,
      ⟨some (15, false), .pk 27 (.t 21) (.t 26) (.c (.bool false))⟩,
      ⟨none, .pk 28 (.t 15) (.c (.bool true)) (.t 27)⟩,
      ⟨none, .mv 9 (.t 28)⟩])
    (.cond (.t 9) (.seq (.ops [⟨none, .mv 4 (.c (.int .i64 (-1)))⟩])
      (.ret))
      (.skip))))))
  (.seq (.ops [⟨none, .mv 4 (.c (.int .i64 1))⟩])
  (.ret)))
theorem comp41 : compFn Try.prog [2, 3] Try.f41 = some ([.t 4], c41) := by kernel_rfl
/-- topiary/topiaryref11.set: 2 parameters, 53 slots. -/
def c42 : C :=
  .seq (.ops [⟨none, .bxL 3 (.t 1)⟩,
    ⟨none, .mv 4 (.c (.sl true .pub 6 []))⟩])
  (.seq (.ops [⟨none, .lit 8 6 []⟩,
    ⟨none, .mv 5 (.t 8)⟩])
  (.seq (.ops [⟨none, .mv 6 (.c (.bool false))⟩])
  (.seq (.seq (.ops [⟨none, .mv 7 (.c (.int .i64 0))⟩])
  (.block 0 (.loop (.seq (.seq (.ops [⟨none, .mv 9 (.t 7)⟩,
    ⟨none, .mv 10 (.t 0)⟩,
    ⟨none, .ln 11 .sl (.t 10)⟩,
    ⟨none, .bi 12 .lss (.t 9) (.t 11)⟩])
  (.cond (.t 12) (.skip)
    (.exit 0)))
  (.cut (.block 1 (.seq (.seq (.opsD [⟨none, .mv 15 (.t 0)⟩,
    ⟨none, .mv 16 (.t 7)⟩,
    ⟨none, .ia 17 (.t 15) (.t 16) 6⟩,
    ⟨none, .fa 18 (.t 17) 0⟩,
    ⟨none, .ld 19 (.t 18) 2 true⟩,
    ⟨none, .fa 20 (.t 3) 0⟩,
    ⟨none, .ld 21 (.t 20) 2 true⟩,
    ⟨none, .be 22 false [.int .i64, .int .i64] (.t 19) (.t 21)⟩])
  (.cond (.t 22) (.exit 1)
    (.skip)))
  (.cut (.seq (.opsD [⟨none, .mv 23 (.t 6)⟩,
    ⟨none, .un 24 .not (.t 23)⟩,
    ⟨none, .mv 25 (.t 24)⟩,
    ⟨some (25, true), .fa 26 (.t 3) 0⟩,
    ⟨some (25, true), .ld 27 (.t 26) 2 true⟩,
    ⟨some (25, true), .mv 28 (.t 0)⟩,
    ⟨some (25, true), .mv 29 (.t 7)⟩,
    ⟨some (25, true), .ia 30 (.t 28) (.t 29) 6⟩,
    ⟨some (25, true), .fa 31 (.t 30) 0⟩,
    ⟨some (25, true), .ld 32 (.t 31) 2 true⟩,
    ⟨some (25, true), .ca (some 33) 56 [(.t 27), (.t 32)]⟩,
    ⟨none, .pk 34 (.t 25) (.t 33) (.c (.bool false))⟩])
  (.cond (.t 34) (.seq (.ops [⟨none, .mv 35 (.t 5)⟩,
      ⟨none, .ld 36 (.t 3) 6 true⟩,
      ⟨none, .lit 37 6 [(.t 36)]⟩,
      ⟨none, .ap 38 6 (.t 35) (.t 37)⟩,
      ⟨none, .mv 5 (.t 38)⟩])
    (.ops [⟨none, .mv 6 (.c (.bool true))⟩]))
    (.skip)))
  (.ops [⟨none, .mv 39 (.t 5)⟩,
    ⟨none, .mv 40 (.t 0)⟩,
    ⟨none, .mv 41 (.t 7)⟩,
    ⟨none, .ia 42 (.t 40) (.t 41) 6⟩,
    ⟨none, .ld 43 (.t 42) 6 true⟩,
    ⟨none, .lit 44 6 [(.t 43)]⟩,
    ⟨none, .ap 45 6 (.t 39) (.t 44)⟩,
    ⟨none, .mv 5 (.t 45)⟩]))))
  (.ops [⟨none, .mv 13 (.t 7)⟩,
    ⟨none, .bi 14 .add (.t 13) (.c (.int .i64 1))⟩,
    ⟨none, .mv 7 (.t 14)⟩]))))))
  (.cut (.seq (.ops [⟨none, .mv 46 (.t 6)⟩,
    ⟨none, .un 47 .not (.t 46)⟩])
  (.cond (.t 47) (.ops [⟨none, .mv 48 (.t 5)⟩,
      ⟨none, .ld 49 (.t 3) 6 true⟩,
      ⟨none, .lit 50 6 [(.t 49)]⟩,
      ⟨none, .ap 51 6 (.t 48) (.t 50)⟩,
      ⟨none, .mv 5 (.t 51)⟩])
    (.skip)))
  (.seq (.ops [⟨none, .mv 52 (.t 5)⟩,
    ⟨none, .mv 4 (.t 52)⟩])
  (.ret))))))
theorem comp42 : compFn Try.prog [3] Try.f42 = some ([.t 4], c42) := by kernel_rfl
/-- topiary/topiaryref11.Undo: 2 parameters, 33 slots. -/
def c44 : C :=
  .seq (.ops [⟨none, .bxL 3 (.t 1)⟩,
    ⟨none, .mv 4 (.c (.sl true .pub 7 []))⟩,
    ⟨none, .mv 5 (.c (.int .i64 0))⟩])
  (.seq (.seq (.ops [⟨none, .mv 6 (.c (.int .i64 0))⟩])
  (.block 0 (.loop (.seq (.seq (.ops [⟨none, .mv 8 (.t 6)⟩,
    ⟨none, .mv 9 (.t 0)⟩,
    ⟨none, .ln 10 .sl (.t 9)⟩,
    ⟨none, .bi 11 .lss (.t 8) (.t 10)⟩])
  (.cond (.t 11) (.skip)
    (.exit 0)))
  (.seq (.block 1 (.seq (.opsD [⟨none, .mv 14 (.t 0)⟩,
    ⟨none, .mv 15 (.t 6)⟩,
    ⟨none, .ia 16 (.t 14) (.t 15) 7⟩,
    ⟨none, .fa 17 (.t 16) 0⟩,
    ⟨none, .ld 18 (.t 17) 2 true⟩,
    ⟨none, .ld 19 (.t 3) 2 true⟩,
    ⟨none, .be 20 false [.int .i64, .int .i64] (.t 18) (.t 19)⟩])
  (.cond (.t 20) (.seq (.ops [⟨none, .lit 21 7 []⟩,
      ⟨none, .mv 22 (.t 0)⟩,
      ⟨none, .mv 23 (.t 6)⟩,
      ⟨none, .sl 24 7 (.t 22) none (some (.t 23))⟩,
      ⟨none, .ap 25 7 (.t 21) (.t 24)⟩,
      ⟨none, .mv 7 (.t 25)⟩])
    (.seq (.ops [⟨none, .mv 26 (.t 7)⟩,
      ⟨none, .mv 27 (.t 0)⟩,
      ⟨none, .mv 28 (.t 6)⟩,
      ⟨none, .bi 29 .add (.t 28) (.c (.int .i64 1))⟩,
      ⟨none, .sl 30 7 (.t 27) (some (.t 29)) none⟩,
      ⟨none, .ap 31 7 (.t 26) (.t 30)⟩,
      ⟨none, .mv 4 (.t 31)⟩,
      ⟨none, .mv 5 (.c (.int .i64 0))⟩])
    (.ret)))
    (.skip))))
  (.ops [⟨none, .mv 12 (.t 6)⟩,
    ⟨none, .bi 13 .add (.t 12) (.c (.int .i64 1))⟩,
    ⟨none, .mv 6 (.t 13)⟩]))))))
  (.seq (.ops [⟨none, .mv 32 (.t 0)⟩,
    ⟨none, .mv 4 (.t 32)⟩,
    ⟨none, .mv 5 (.c (.int .i64 4))⟩])
  (.ret)))
theorem comp44 : compFn Try.prog [3] Try.f44 = some ([.t 4, .t 5], c44) := by kernel_rfl
/-- topiary/topiaryref01.Right: 1 parameters, 21 slots. -/
def c45 : C :=
  .seq (.ops [⟨none, .bxL 1 (.t 0)⟩,
    ⟨none, .mv 2 (.c (.bool false))⟩])
  (.seq (.ops [⟨none, .fa 3 (.t 1) 0⟩,
    ⟨none, .ld 4 (.t 3) 1 false⟩,
    ⟨none, .bi 5 .geq (.t 4) (.c (.int .i64 1))⟩,
    ⟨none, .mv 6 (.t 5)⟩,
    ⟨some (6, true), .fa 7 (.t 1) 0⟩,
    ⟨some (6, true), .ld 8 (.t 7) 1 false⟩,
    ⟨some (6, true), .bi 9 .leq (.t 8) (.c (.int .i64 1099511627776))⟩,
    ⟨none, .pk 10 (.t 6) (.t 9) (.c (.bool false))⟩,
    ⟨none, .mv 11 (.t 10)⟩,
    ⟨some (11, true), .fa 12 (.t 1) 1⟩,
    ⟨some (11, true), .ld 13 (.t 12) 1 false⟩,
    ⟨some (11, true), .bi 14 .geq (.t 13) (.c (.int .i64 0))⟩,
    ⟨none, .pk 15 (.t 11) (.t 14) (.c (.bool false))⟩,
    ⟨none, .mv 16 (.t 15)⟩,
    ⟨some (16, true), .fa 17 (.t 1) 1⟩,
    ⟨some (16, true), .ld 18 (.t 17) 1 false⟩,
    ⟨some (16, true), .bi 19 .lss (.t 18) (.c (.int .i64 64))⟩,
    ⟨none, .pk 20 (.t 16) (.t 19) (.c (.bool false))⟩,
    ⟨none, .mv 2 (.t 20)⟩])
  (.ret))
theorem comp45 : compFn Try.prog [1] Try.f45 = some ([.t 2], c45) := by kernel_rfl
/-- topiary/topiaryref01.Node: 1 parameters, 20 slots. -/
def c46 : C :=
  .seq (.ops [⟨none, .bxL 1 (.t 0)⟩,
    ⟨none, .mv 2 (.c (.bool false))⟩])
  (.seq (.ops [⟨none, .ld 3 (.t 1) 2 true⟩,
    ⟨none, .ca (some 4) 45 [(.t 3)]⟩,
    ⟨none, .mv 5 (.t 4)⟩,
    ⟨some (5, false), .fa 6 (.t 1) 0⟩,
    ⟨some (5, false), .ld 7 (.t 6) 1 false⟩,
    ⟨some (5, false), .bi 8 .eql (.t 7) (.c (.int .i64 0))⟩,
    ⟨some (5, false), .mv 9 (.t 8)⟩,
    ⟨some (9, true), .fa 10 (.t 1) 1⟩,
    ⟨some (9, true), .ld 11 (.t 10) 1 false⟩,
    ⟨some (9, true), .bi 12 .eql (.t 11) (.c (.int .i64 0))⟩,
    ⟨some (9, true), .mv 13 (.t 12)⟩,
    ⟨some (13, false), .fa 14 (.t 1) 1⟩,
    ⟨some (13, false), .ld 15 (.t 14) 1 false⟩,
    ⟨some (13, false), .bi 16 .eql (.t 15) (.c (.int .i64 1))⟩,
    ⟨some (9, true), .pk 17 (.t 13) (.c (.bool true)) (.t 16)⟩,
    ⟨some (5, false), .pk 18 (.t 9) (.t 17) (.c (.bool false))⟩,
    ⟨none, .pk 19 (.t 5) (.c (.bool true)) (.t 18)⟩,
    ⟨none, .mv 2 (.t 19)⟩])
  (.ret))
theorem comp46 : compFn Try.prog [1] Try.f46 = some ([.t 2], c46) := by kernel_rfl
/-- topiary/topiaryref11.Put: 2 parameters, 55 slots. -/
def c47 : C :=
  .seq (.ops [⟨none, .bxL 3 (.t 1)⟩,
    ⟨none, .mv 4 (.c (.sl true .pub 7 []))⟩,
    ⟨none, .mv 5 (.c (.bool false))⟩])
  (.seq (.ops [⟨none, .lit 9 7 []⟩,
    ⟨none, .mv 6 (.t 9)⟩])
  (.seq (.ops [⟨none, .mv 7 (.c (.bool false))⟩])
  (.seq (.seq (.ops [⟨none, .mv 8 (.c (.int .i64 0))⟩])
  (.block 0 (.loop (.seq (.seq (.ops [⟨none, .mv 10 (.t 8)⟩,
    ⟨none, .mv 11 (.t 0)⟩,
    ⟨none, .ln 12 .sl (.t 11)⟩,
    ⟨none, .bi 13 .lss (.t 10) (.t 12)⟩])
  (.cond (.t 13) (.skip)
    (.exit 0)))
  (.seq (.block 1 (.seq (.seq (.opsD [⟨none, .mv 16 (.t 0)⟩,
    ⟨none, .mv 17 (.t 8)⟩,
    ⟨none, .ia 18 (.t 16) (.t 17) 7⟩,
    ⟨none, .fa 19 (.t 18) 0⟩,
    ⟨none, .ld 20 (.t 19) 2 true⟩,
    ⟨none, .fa 21 (.t 3) 0⟩,
    ⟨none, .ld 22 (.t 21) 2 true⟩,
    ⟨none, .be 23 false [.int .i64, .int .i64] (.t 20) (.t 22)⟩])
  (.cond (.t 23) (.seq (.ops [⟨none, .mv 24 (.t 0)⟩,
      ⟨none, .mv 4 (.t 24)⟩,
      ⟨none, .mv 5 (.c (.bool false))⟩])
    (.ret))
    (.skip)))
  (.cut (.seq (.opsD [⟨none, .mv 25 (.t 7)⟩,
    ⟨none, .un 26 .not (.t 25)⟩,
    ⟨none, .mv 27 (.t 26)⟩,
    ⟨some (27, true), .fa 28 (.t 3) 0⟩,
    ⟨some (27, true), .ld 29 (.t 28) 2 true⟩,
    ⟨some (27, true), .mv 30 (.t 0)⟩,
    ⟨some (27, true), .mv 31 (.t 8)⟩,
    ⟨some (27, true), .ia 32 (.t 30) (.t 31) 7⟩,
    ⟨some (27, true), .fa 33 (.t 32) 0⟩,
    ⟨some (27, true), .ld 34 (.t 33) 2 true⟩,
    ⟨some (27, true), .ca (some 35) 56 [(.t 29), (.t 34)]⟩,
    ⟨none, .pk 36 (.t 27) (.t 35) (.c (.bool false))⟩])
  (.cond (.t 36) (.seq (.ops [⟨none, .mv 37 (.t 6)⟩,
      ⟨none, .ld 38 (.t 3) 7 true⟩,
      ⟨none, .lit 39 7 [(.t 38)]⟩,
      ⟨none, .ap 40 7 (.t 37) (.t 39)⟩,
      ⟨none, .mv 6 (.t 40)⟩])
    (.ops [⟨none, .mv 7 (.c (.bool true))⟩]))
    (.skip)))
  (.ops [⟨none, .mv 41 (.t 6)⟩,
    ⟨none, .mv 42 (.t 0)⟩,
    ⟨none, .mv 43 (.t 8)⟩,
    ⟨none, .ia 44 (.t 42) (.t 43) 7⟩,
    ⟨none, .ld 45 (.t 44) 7 true⟩,
    ⟨none, .lit 46 7 [(.t 45)]⟩,
    ⟨none, .ap 47 7 (.t 41) (.t 46)⟩,
    ⟨none, .mv 6 (.t 47)⟩]))))
  (.ops [⟨none, .mv 14 (.t 8)⟩,
    ⟨none, .bi 15 .add (.t 14) (.c (.int .i64 1))⟩,
    ⟨none, .mv 8 (.t 15)⟩]))))))
  (.cut (.seq (.ops [⟨none, .mv 48 (.t 7)⟩,
    ⟨none, .un 49 .not (.t 48)⟩])
  (.cond (.t 49) (.ops [⟨none, .mv 50 (.t 6)⟩,
      ⟨none, .ld 51 (.t 3) 7 true⟩,
      ⟨none, .lit 52 7 [(.t 51)]⟩,
      ⟨none, .ap 53 7 (.t 50) (.t 52)⟩,
      ⟨none, .mv 6 (.t 53)⟩])
    (.skip)))
  (.seq (.ops [⟨none, .mv 54 (.t 6)⟩,
    ⟨none, .mv 4 (.t 54)⟩,
    ⟨none, .mv 5 (.c (.bool true))⟩])
  (.ret))))))
theorem comp47 : compFn Try.prog [3] Try.f47 = some ([.t 4, .t 5], c47) := by kernel_rfl
/-- slices.BinarySearchFunc[[]topiary/moves.move,topiary/moves.move,topiary/api.Stamp]: 3 parameters, 49 slots. -/
def c48 : C :=
  .seq (.ops [⟨none, .bxL 4 (.t 1)⟩,
    ⟨none, .mv 6 (.c (.int .i64 0))⟩,
    ⟨none, .mv 7 (.c (.bool false))⟩])
  (.seq (.ops [⟨none, .mv 12 (.t 0)⟩,
    ⟨none, .ln 13 .sl (.t 12)⟩,
    ⟨none, .mv 8 (.t 13)⟩])
  (.seq (.ops [⟨none, .mv 14 (.t 8)⟩,
    ⟨none, .mv 9 (.c (.int .i64 0))⟩,
    ⟨none, .mv 10 (.t 14)⟩])
  (.seq (.block 0 (.loop (.seq (.seq (.ops [⟨none, .mv 15 (.t 9)⟩,
    ⟨none, .mv 16 (.t 10)⟩,
    ⟨none, .bi 17 .lss (.t 15) (.t 16)⟩])
  (.cond (.t 17) (.skip)
    (.exit 0)))
  (.block 1 (.seq (.ops [⟨none, .mv 18 (.t 9)⟩,
    ⟨none, .mv 19 (.t 10)⟩,
    ⟨none, .bi 20 .add (.t 18) (.t 19)⟩,
    ⟨none, .cI 21 .u64 (.t 20)⟩,
    ⟨none, .bi 22 .shr (.t 21) (.c (.int .u64 1))⟩,
    ⟨none, .cI 23 .i64 (.t 22)⟩,
    ⟨none, .mv 11 (.t 23)⟩])
  (.seq (.opsD [⟨none, .mv 24 (.t 2)⟩,
    ⟨none, .mv 25 (.t 0)⟩,
    ⟨none, .mv 26 (.t 11)⟩,
    ⟨none, .ia 27 (.t 25) (.t 26) 14⟩,
    ⟨none, .ld 28 (.t 27) 14 true⟩,
    ⟨none, .ld 29 (.t 4) 2 true⟩,
    ⟨none, .cv (some 30) (.t 24) [(.t 28), (.t 29)]⟩,
    ⟨none, .bi 31 .lss (.t 30) (.c (.int .i64 0))⟩])
  (.cond (.t 31) (.ops [⟨none, .mv 32 (.t 11)⟩,
      ⟨none, .bi 33 .add (.t 32) (.c (.int .i64 1))⟩,
      ⟨none, .mv 9 (.t 33)⟩])
    (.ops [⟨none, .mv 34 (.t 11)⟩,
      ⟨none, .mv 10 (.t 34)⟩]))))))))
  (.seq (.opsD [⟨none, .mv 35 (.t 9)⟩,
    ⟨none, .mv 36 (.t 9)⟩,
    ⟨none, .mv 37 (.t 8)⟩,
    ⟨none, .bi 38 .lss (.t 36) (.t 37)⟩,
    ⟨none, .mv 39 (.t 38)⟩,
    ⟨some (39, true), .mv 40 (.t 2)⟩,
    ⟨some (39, true), .mv 41 (.t 0)⟩,
    ⟨some (39, true), .mv 42 (.t 9)⟩,
    ⟨some (39, true), .ia 43 (.t 41) (.t 42) 14⟩,
    ⟨some (39, true), .ld 44 (.t 43) 14 true⟩,
    ⟨some (39, true), .ld 45 (.t 4) 2 true⟩,
    ⟨some (39, true), .cv (some 46) (.t 40) [(.t 44), (.t 45)]⟩,
    ⟨some (39, true), .bi 47 .eql (.t 46) (.c (.int .i64 0))⟩,
    ⟨none, .pk 48 (.t 39) (.t 47) (.c (.bool false))⟩,
    ⟨none, .mv 6 (.t 35)⟩,
    ⟨none, .mv 7 (.t 48)⟩])
  (.ret)))))
theorem comp48 : compFn Try.prog [4] Try.f48 = some ([.t 6, .t 7], c48) := by kernel_rfl
/-- (*topiary/moves.Tree).place$1: 2 parameters, 9 slots. -/
def c49 : C :=
  .seq (.ops [⟨none, .bxL 2 (.t 0)⟩,
    ⟨none, .bxL 3 (.t 1)⟩,
    ⟨none, .mv 4 (.c (.int .i64 0))⟩])
  (.seq (.ops [⟨none, .fa 5 (.t 2) 0⟩,
    ⟨none, .ld 6 (.t 5) 2 true⟩,
    ⟨none, .ld 7 (.t 3) 2 true⟩,
    ⟨none, .ca (some 8) 41 [(.t 6), (.t 7)]⟩,
    ⟨none, .mv 4 (.t 8)⟩])
  (.ret))
theorem comp49 : compFn Try.prog [2, 3] Try.f49 = some ([.t 4], c49) := by kernel_rfl
/-- topiary/ident.replica: 1 parameters, 9 slots. -/
def c50 : C :=
  .seq (.ops [⟨none, .mv 2 (.c (.bool false))⟩])
  (.seq (.ops [⟨none, .mv 3 (.t 0)⟩,
    ⟨none, .bi 4 .geq (.t 3) (.c (.int .i64 0))⟩,
    ⟨none, .mv 5 (.t 4)⟩,
    ⟨some (5, true), .mv 6 (.t 0)⟩,
    ⟨some (5, true), .bi 7 .lss (.t 6) (.c (.int .i64 64))⟩,
    ⟨none, .pk 8 (.t 5) (.t 7) (.c (.bool false))⟩,
    ⟨none, .mv 2 (.t 8)⟩])
  (.ret))
theorem comp50 : compFn Try.prog [] Try.f50 = some ([.t 2], c50) := by kernel_rfl
/-- (*topiary/moves.Tree).beneath: 3 parameters, 25 slots. -/
def c53 : C :=
  .seq (.ops [⟨none, .bxL 4 (.t 1)⟩,
    ⟨none, .bxL 5 (.t 2)⟩,
    ⟨none, .mv 6 (.c (.bool false))⟩])
  (.block 0 (.loop (.block 1 (.seq (.seq (.ops [⟨none, .ld 9 (.t 4) 2 true⟩,
    ⟨none, .ld 10 (.t 5) 2 true⟩,
    ⟨none, .be 11 false [.int .i64, .int .i64] (.t 9) (.t 10)⟩])
  (.cond (.t 11) (.seq (.ops [⟨none, .mv 6 (.c (.bool true))⟩])
    (.ret))
    (.skip)))
  (.seq (.opsD [⟨none, .mv 13 (.t 0)⟩,
    ⟨none, .nc 14 (.t 13)⟩,
    ⟨none, .fa 15 (.t 14) 1⟩,
    ⟨none, .ld 16 (.t 15) 1 false⟩,
    ⟨none, .ld 17 (.t 4) 2 true⟩,
    ⟨none, .lk 18 [.agg, .int .i64, .int .i64] (.t 16) (.t 17) true (.agg [.int .i64 0, .int .i64 0, .int .i64 0, .int .i64 0, .int .i64 0, .int .i64 0])⟩,
    ⟨none, .mv 12 (.t 18)⟩,
    ⟨none, .ex 19 (.t 12) 0⟩,
    ⟨none, .ex 20 (.t 12) 1⟩,
    ⟨none, .alH 7 [.int .i64 0, .int .i64 0, .int .i64 0, .int .i64 0, .int .i64 0, .int .i64 0]⟩,
    ⟨none, .st (.t 7) (.t 19) 6⟩,
    ⟨none, .mv 8 (.t 20)⟩])
  (.seq (.seq (.ops [⟨none, .mv 21 (.t 8)⟩,
    ⟨none, .un 22 .not (.t 21)⟩])
  (.cond (.t 22) (.seq (.ops [⟨none, .mv 6 (.c (.bool false))⟩])
    (.ret))
    (.skip)))
  (.ops [⟨none, .fa 23 (.t 7) 2⟩,
    ⟨none, .ld 24 (.t 23) 2 true⟩,
    ⟨none, .st (.t 4) (.t 24) 2⟩])))))))
theorem comp53 : compFn Try.prog [4, 5] Try.f53 = some ([.t 6], c53) := by kernel_rfl
/-- topiary/topiaryref01.Less: 2 parameters, 24 slots. -/
def c56 : C :=
  .seq (.ops [⟨none, .bxL 2 (.t 0)⟩,
    ⟨none, .bxL 3 (.t 1)⟩,
    ⟨none, .mv 4 (.c (.bool false))⟩])
  (.seq (.ops [⟨none, .fa 5 (.t 2) 0⟩,
    ⟨none, .ld 6 (.t 5) 1 false⟩,
    ⟨none, .fa 7 (.t 3) 0⟩,
    ⟨none, .ld 8 (.t 7) 1 false⟩,
    ⟨none, .bi 9 .lss (.t 6) (.t 8)⟩,
    ⟨none, .mv 10 (.t 9)⟩,
    ⟨some (10, false), .fa 11 (.t 2) 0⟩,
    ⟨some (10, false), .ld 12 (.t 11) 1 false⟩,
    ⟨some (10, false), .fa 13 (.t 3) 0⟩,
    ⟨some (10, false), .ld 14 (.t 13) 1 false⟩,
    ⟨some (10, false), .bi 15 .eql (.t 12) (.t 14)⟩,
    ⟨some (10, false), .mv 16 (.t 15)⟩,
    ⟨some (16, true), .fa 17 (.t 2) 1⟩,
    ⟨some (16, true), .ld 18 (.t 17) 1 false⟩,
    ⟨some (16, true), .fa 19 (.t 3) 1⟩,
    ⟨some (16, true), .ld 20 (.t 19) 1 false⟩,
    ⟨some (16, true), .bi 21 .lss (.t 18) (.t 20)⟩,
    ⟨some (10, false), .pk 22 (.t 16) (.t 21) (.c (.bool false))⟩,
    ⟨none, .pk 23 (.t 10) (.c (.bool true)) (.t 22)⟩,
    ⟨none, .mv 4 (.t 23)⟩])
  (.ret))
theorem comp56 : compFn Try.prog [2, 3] Try.f56 = some ([.t 4], c56) := by kernel_rfl
/-- topiary/topiaryref11.Same: 2 parameters, 26 slots. -/
def c17 : C :=
  .seq (.ops [⟨none, .mv 4 (.c (.bool false))⟩])
  (.seq (.seq (.ops [⟨none, .mv 6 (.t 0)⟩,
    ⟨none, .ln 7 .sl (.t 6)⟩,
    ⟨none, .mv 8 (.t 1)⟩,
    ⟨none, .ln 9 .sl (.t 8)⟩,
    ⟨none, .bi 10 .neq (.t 7) (.t 9)⟩])
  (.cond (.t 10) (.seq (.ops [⟨none, .mv 4 (.c (.bool false))⟩])
    (.ret))
    (.skip)))
  (.seq (.seq (.ops [⟨none, .mv 5 (.c (.int .i64 0))⟩])
  (.block 0 (.loop (.seq (.seq (.ops [⟨none, .mv 11 (.t 5)⟩,
    ⟨none, .mv 12 (.t 0)⟩,
    ⟨none, .ln 13 .sl (.t 12)⟩,
    ⟨none, .bi 14 .lss (.t 11) (.t 13)⟩])
  (.cond (.t 14) (.skip)
    (.exit 0)))
  (.seq (.block 1 (.seq (.opsD [⟨none, .mv 17 (.t 0)⟩,
    ⟨none, .mv 18 (.t 5)⟩,
    ⟨none, .ia 19 (.t 17) (.t 18) 6⟩,
    ⟨none, .ld 20 (.t 19) 6 true⟩,
    ⟨none, .mv 21 (.t 1)⟩,
    ⟨none, .mv 22 (.t 5)⟩,
    ⟨none, .ia 23 (.t 21) (.t 22) 6⟩,
    ⟨none, .ld 24 (.t 23) 6 true⟩,
    ⟨none, .be 25 true [.int .i64, .int .i64, .int .i64, .int .i64, .int .i64, .int .i64] (.t 20) (.t 24)⟩])
  (.cond (.t 25) (.seq (.ops [⟨none, .mv 4 (.c (.bool false))⟩])
    (.ret))
    (.skip))))
  (.ops [⟨none, .mv 15 (.t 5)⟩,
    ⟨none, .bi 16 .add (.t 15) (.c (.int .i64 1))⟩,
    ⟨none, .mv 5 (.t 16)⟩]))))))
  (.seq (.ops [⟨none, .mv 4 (.c (.bool true))⟩])
  (.ret))))
theorem comp17 : compFn Try.prog [] Try.f17 = some ([.t 4], c17) := by kernel_rfl
/-- topiary/topiarylaw11.told: 2 parameters, 44 slots. -/
def c19 : C :=
  .seq (.ops [⟨none, .mv 4 (.c (.bool false))⟩])
  (.seq (.ops [⟨none, .mv 9 (.t 1)⟩,
    ⟨none, .ca (some 10) 22 [(.t 9)]⟩,
    ⟨none, .mv 8 (.t 10)⟩,
    ⟨none, .ex 11 (.t 8) 0⟩,
    ⟨none, .ex 12 (.t 8) 1⟩,
    ⟨none, .mv 5 (.t 11)⟩,
    ⟨none, .mv 6 (.t 12)⟩])
  (.seq (.seq (.ops [⟨none, .mv 13 (.t 0)⟩,
    ⟨none, .ca (some 14) 29 [(.t 13)]⟩,
    ⟨none, .mv 15 (.t 1)⟩,
    ⟨none, .ln 16 .sl (.t 15)⟩,
    ⟨none, .bi 17 .neq (.t 14) (.t 16)⟩,
    ⟨none, .mv 18 (.t 17)⟩,
    ⟨some (18, false), .mv 19 (.t 0)⟩,
    ⟨some (18, false), .ca (some 20) 18 [(.t 19)]⟩,
    ⟨some (18, false), .mv 21 (.t 5)⟩,
    ⟨some (18, false), .ca (some 22) 17 [(.t 20), (.t 21)]⟩,
    ⟨some (18, false), .un 23 .not (.t 22)⟩,
    ⟨none, .pk 24 (.t 18) (.c (.bool true)) (.t 23)⟩])
  (.cond (.t 24) (.seq (.ops [⟨none, .mv 4 (.c (.bool false))⟩])
    (.ret))
    (.skip)))
  (.seq (.seq (.ops [⟨none, .mv 7 (.c (.int .i64 0))⟩])
  (.block 0 (.loop (.seq (.seq (.ops [⟨none, .mv 25 (.t 7)⟩,
    ⟨none, .mv 26 (.t 6)⟩,
    ⟨none, .ln 27 .sl (.t 26)⟩,
    ⟨none, .bi 28 .lss (.t 25) (.t 27)⟩])
  (.cond (.t 28) (.skip)
    (.exit 0)))
  (.seq (.block 1 (.seq (.opsD [⟨none, .mv 31 (.t 0)⟩,
    ⟨none, .mv 32 (.t 6)⟩,
    ⟨none, .mv 33 (.t 7)⟩,
    ⟨none, .ia 34 (.t 32) (.t 33) 7⟩,
    ⟨none, .fa 35 (.t 34) 0⟩,
    ⟨none, .ld 36 (.t 35) 2 true⟩,
    ⟨none, .mv 38 (.t 6)⟩,
    ⟨none, .mv 39 (.t 7)⟩,
    ⟨none, .ia 40 (.t 38) (.t 39) 7⟩,
    ⟨none, .fa 41 (.t 40) 6⟩,
    ⟨none, .ld 42 (.t 41) 1 false⟩,
    ⟨none, .ca (some 37) 12 [(.t 31), (.t 36)]⟩,
    ⟨none, .bq 43 true .bool (.t 37) (.t 42)⟩])
  (.cond (.t 43) (.seq (.ops [⟨none, .mv 4 (.c (.bool false))⟩])
    (.ret))
    (.skip))))
  (.ops [⟨none, .mv 29 (.t 7)⟩,
    ⟨none, .bi 30 .add (.t 29) (.c (.int .i64 1))⟩,
    ⟨none, .mv 7 (.t 30)⟩]))))))
  (.seq (.ops [⟨none, .mv 4 (.c (.bool true))⟩])
  (.ret)))))
theorem comp19 : compFn Try.prog [] Try.f19 = some ([.t 4], c19) := by kernel_rfl
end Go.VL.mov

namespace Go.VL.mov

structure Sp where
  c : Int
  r : Int
  deriving DecidableEq
structure Pl where
  n : Sp
  p : Sp
  s : Sp
  deriving DecidableEq
/-- A move: its stamp, its node, the parent; does it count; what was there. -/
structure Mv where
  a : Sp
  n : Sp
  p : Sp
  k : Bool
  w : Pl
  t : Bool
def zs : Sp := ⟨0, 0⟩
def zp : Pl := ⟨zs, zs, zs⟩
abbrev Tr := Sp → Option Pl
/-- It stands beneath it, or is it. -/
inductive Ben (W : Tr) (top : Sp) : Sp → Prop
  | here : Ben W top top
  | up {x : Sp} {p : Pl} : W x = some p → Ben W top p.p → Ben W top x
/-- No ring: there is a rank. -/
def Rank (W : Tr) (f : Sp → Nat) : Prop := ∀ x p, W x = some p → f p.p < f x
def Acy (W : Tr) : Prop := ∃ f, Rank W f
open Classical in
noncomputable def ben (W : Tr) (x top : Sp) : Bool := decide (Ben W top x)
theorem ben_iff {W : Tr} {x top : Sp} : ben W x top = true ↔ Ben W top x := by simp [ben]
theorem ben_self (W : Tr) (x : Sp) : ben W x x = true := ben_iff.2 .here
theorem ben_up {W : Tr} {x top : Sp} {p : Pl} (h : W x = some p) (hx : x ≠ top) : ben W x top = ben W p.p top := by
  rw [Bool.eq_iff_iff, ben_iff, ben_iff]
  constructor
  · intro hb
    cases hb with
    | here => exact absurd rfl hx
    | up h1 h2 => rw [h] at h1; cases h1; exact h2
  · exact fun hb => .up h hb
theorem ben_none {W : Tr} {x top : Sp} (h : W x = none) (hx : x ≠ top) : ben W x top = false := by
  rw [← Bool.not_eq_true, ben_iff]
  intro hb
  cases hb with
  | here => exact hx rfl
  | up h1 h2 => rw [h] at h1; cases h1
def put (W : Tr) (x : Sp) (p : Option Pl) : Tr := fun y => if y = x then p else W y
def pl (m : Mv) : Pl := ⟨m.n, m.p, m.a⟩
noncomputable def stepW (W : Tr) (m : Mv) : Tr := bif ben W m.p m.n then W else put W m.n (some (pl m))
noncomputable def mark (W : Tr) (m : Mv) : Mv := ⟨m.a, m.n, m.p, !ben W m.p m.n, (W m.n).getD zp, (W m.n).isSome⟩
def backW (W : Tr) (m : Mv) : Tr := bif m.k then (bif m.t then put W m.n (some m.w) else put W m.n none) else W
theorem back_step (W : Tr) (m : Mv) : backW (stepW W m) (mark W m) = W := by
  funext y
  simp only [backW, stepW, mark]
  cases ben W m.p m.n <;> simp only [Bool.not_true, Bool.not_false, cond_true, cond_false]
  cases hw : W m.n <;> simp only [Option.isSome_none, Option.isSome_some, cond_true, cond_false, put, Option.getD_some]
  · split
    · rename_i h; rw [h, hw]
    · rfl
  · split
    · rename_i h; rw [h, hw]
    · rfl
def core (m : Mv) : Mv := ⟨m.a, m.n, m.p, false, zp, false⟩
theorem step_core (W : Tr) (m : Mv) : stepW W (core m) = stepW W m := rfl
theorem mark_core (W : Tr) (m : Mv) : mark W (core m) = mark W m := rfl
theorem core_core (m : Mv) : core (core m) = core m := rfl
theorem core_mark (W : Tr) (m : Mv) : core (mark W m) = core m := rfl
theorem step_mark (W : Tr) (m : Mv) : stepW W (mark W m) = stepW W m := rfl
theorem mark_mark (W : Tr) (m : Mv) : mark W (mark W m) = mark W m := rfl

/-- Moves done one behind the other. -/
noncomputable def runT (W : Tr) : List Mv → Tr
  | [] => W
  | m :: D => runT (stepW W m) D
noncomputable def runD (W : Tr) : List Mv → List Mv
  | [] => []
  | m :: D => mark W m :: runD (stepW W m) D
def undo (W : Tr) : List Mv → Tr
  | [] => W
  | m :: D => backW (undo W D) m
theorem runT_append (W : Tr) : ∀ A B : List Mv, runT W (A ++ B) = runT (runT W A) B
  | [], _ => rfl
  | m :: A, B => runT_append (stepW W m) A B
theorem runD_append (W : Tr) : ∀ A B : List Mv, runD W (A ++ B) = runD W A ++ runD (runT W A) B
  | [], _ => rfl
  | m :: A, B => by simp only [List.cons_append, runD, runT, runD_append (stepW W m) A B]
theorem runD_length (W : Tr) : ∀ D : List Mv, (runD W D).length = D.length
  | [] => rfl
  | m :: D => by simp only [runD, List.length_cons, runD_length (stepW W m) D]
theorem runT_core (W : Tr) : ∀ D : List Mv, runT W (D.map core) = runT W D
  | [] => rfl
  | m :: D => by simp only [List.map_cons, runT, step_core, runT_core (stepW W m) D]
theorem runD_core (W : Tr) : ∀ D : List Mv, runD W (D.map core) = runD W D
  | [] => rfl
  | m :: D => by simp only [List.map_cons, runD, step_core, mark_core, runD_core (stepW W m) D]
theorem core_runD (W : Tr) : ∀ D : List Mv, (runD W D).map core = D.map core
  | [] => rfl
  | m :: D => by simp only [List.map_cons, runD, core_mark, core_runD (stepW W m) D]
theorem runD_runD (W : Tr) (D : List Mv) : runD W (runD W D) = runD W D := by
  rw [← runD_core, core_runD, runD_core]
theorem runT_runD (W : Tr) (D : List Mv) : runT W (runD W D) = runT W D := by
  rw [← runT_core, core_runD, runT_core]
/-- What was done says what was there. -/
def Runs (W : Tr) (D : List Mv) : Prop := runD W D = D
theorem undo_run (W : Tr) : ∀ D : List Mv, Runs W D → undo (runT W D) D = W
  | [], _ => rfl
  | m :: D, h => by
    simp only [Runs, runD, List.cons.injEq] at h
    simp only [runT, undo]
    rw [undo_run (stepW W m) D h.2]
    conv => lhs; rw [← h.1]
    rw [step_mark, back_step]
theorem runs_append {W : Tr} {A B : List Mv} : Runs W (A ++ B) ↔ Runs W A ∧ Runs (runT W A) B := by
  unfold Runs
  rw [runD_append]
  constructor
  · intro h
    exact List.append_inj h (runD_length W A)
  · rintro ⟨h1, h2⟩
    rw [h1, h2]

theorem Acy.step {W : Tr} (h : Acy W) (m : Mv) : Acy (stepW W m) := by
  classical
  unfold stepW
  cases hb : ben W m.p m.n with
  | true => exact h
  | false =>
    have hn : ¬ Ben W m.n m.p := by rw [← ben_iff, hb]; simp
    obtain ⟨f, hf⟩ := h
    refine ⟨fun x => f x + (if Ben W m.n x then f m.p + 1 else 0), fun x p hx => ?_⟩
    show f p.p + (if Ben W m.n p.p then f m.p + 1 else 0) < f x + (if Ben W m.n x then f m.p + 1 else 0)
    simp only [cond_false, put] at hx
    split at hx
    · rename_i e
      cases hx
      have e1 : (if Ben W m.n x then f m.p + 1 else 0) = f m.p + 1 := by rw [e, if_pos Ben.here]
      have e2 : (if Ben W m.n (pl m).p then f m.p + 1 else 0) = 0 := if_neg hn
      rw [e1, e2]
      show f m.p + 0 < _
      omega
    · have h1 := hf x p hx
      by_cases hB : Ben W m.n p.p
      · rw [if_pos hB, if_pos (Ben.up hx hB)]; omega
      · rw [if_neg hB]; omega
theorem Acy.run {W : Tr} (h : Acy W) : ∀ D : List Mv, Acy (runT W D) := by
  intro D
  induction D generalizing W with
  | nil => exact h
  | cons m D ih => exact ih (h.step m)
def W0 : Tr := fun _ => none
theorem acy0 : Acy W0 := ⟨fun _ => 0, fun _ _ h => by cases h⟩

/-- Each node is under its name. -/
def Keyed (W : Tr) : Prop := ∀ x p, W x = some p → p.n = x
theorem Keyed.step {W : Tr} (h : Keyed W) (m : Mv) : Keyed (stepW W m) := by
  unfold stepW
  cases ben W m.p m.n with
  | true => exact h
  | false =>
    intro x p hx
    simp only [cond_false, put] at hx
    split at hx
    · rename_i e; cases hx; exact e.symm
    · exact h x p hx
theorem Keyed.run {W : Tr} (h : Keyed W) : ∀ D : List Mv, Keyed (runT W D) := by
  intro D
  induction D generalizing W with
  | nil => exact h
  | cons m D ih => exact ih (h.step m)
theorem keyed0 : Keyed W0 := fun _ _ h => by cases h
/-- Who stands somewhere was moved. -/
theorem run_nodes : ∀ (D : List Mv) {W : Tr} {K : List Sp}, (∀ x p, W x = some p → x ∈ K) → ∀ x p, runT W D x = some p → x ∈ K ++ D.map (·.n)
  | [], W, K, h, x, p, hx => by simpa using h x p hx
  | m :: D, W, K, h, x, p, hx => by
    have := run_nodes D (K := K ++ [m.n]) (W := stepW W m) (fun y q hy => by
      unfold stepW at hy
      cases hb : ben W m.p m.n <;> rw [hb] at hy
      · simp only [cond_false, put] at hy
        split at hy
        · rename_i e; simp [e]
        · simp [h y q hy]
      · simp [h y q hy]) x p hx
    simpa using this

/-- Who is above a node. -/
inductive Chain (W : Tr) : Sp → List Sp → Prop
  | nil {x : Sp} : W x = none → Chain W x []
  | cons {x : Sp} {p : Pl} {l : List Sp} : W x = some p → Chain W p.p l → Chain W x (p.p :: l)
theorem Acy.chain {W : Tr} (h : Acy W) (x : Sp) : ∃ l, Chain W x l := by
  obtain ⟨f, hf⟩ := h
  have : ∀ n x, f x < n → ∃ l, Chain W x l := by
    intro n
    induction n with
    | zero => intro x h; omega
    | succ n ih =>
      intro x hx
      cases hw : W x with
      | none => exact ⟨[], .nil hw⟩
      | some p =>
        obtain ⟨l, hl⟩ := ih p.p (by have := hf x p hw; omega)
        exact ⟨_, .cons hw hl⟩
  exact this _ x (Nat.lt_succ_self _)
theorem Chain.uniq {W : Tr} {x : Sp} {l l' : List Sp} (h : Chain W x l) (k : Chain W x l') : l = l' := by
  induction h generalizing l' with
  | nil h => cases k with
    | nil => rfl
    | cons h' _ => rw [h] at h'; cases h'
  | cons h _ ih => cases k with
    | nil h' => rw [h] at h'; cases h'
    | cons h' k => rw [h] at h'; cases h'; rw [ih k]
theorem Chain.ben {W : Tr} {x top : Sp} {l : List Sp} (h : Chain W x l) : Ben W top x ↔ x = top ∨ top ∈ l := by
  induction h with
  | nil h =>
    constructor
    · intro b
      cases b with
      | here => exact .inl rfl
      | up h1 _ => rw [h] at h1; cases h1
    · rintro (rfl | h)
      · exact .here
      · cases h
  | @cons x p l h _ ih =>
    constructor
    · intro b
      cases b with
      | here => exact .inl rfl
      | up h1 b =>
        rw [h] at h1; cases h1
        rcases ih.1 b with e | e
        · exact .inr (by simp [e])
        · exact .inr (by simp [e])
    · rintro (rfl | h')
      · exact .here
      · refine .up h (ih.2 ?_)
        rcases List.mem_cons.1 h' with e | e
        · exact .inl e.symm
        · exact .inr e
theorem Chain.rank {W : Tr} {f : Sp → Nat} (hf : Rank W f) {x : Sp} {l : List Sp} (h : Chain W x l) : ∀ y ∈ l, f y < f x := by
  induction h with
  | nil => intro y hy; cases hy
  | @cons x p l h _ ih =>
    intro y hy
    have h1 := hf x p h
    rcases List.mem_cons.1 hy with e | e
    · rw [e]; exact h1
    · have := ih y e; omega
theorem Chain.len {W : Tr} {f : Sp → Nat} (hf : Rank W f) {x : Sp} {l : List Sp} (h : Chain W x l) : ∀ {K : List Sp}, (∀ y p, W y = some p → f y ≤ f x → y ∈ K) → l.length ≤ K.length := by
  induction h with
  | nil => intro K _; exact Nat.zero_le _
  | @cons x p l h _ ih =>
    intro K hK
    have h1 := hf x p h
    have hx : x ∈ K := hK x p h (Nat.le_refl _)
    have := ih (K := K.erase x) (fun y q hy hle => (List.mem_erase_of_ne (by rintro rfl; omega)).2 (hK y q hy (by omega)))
    rw [List.length_erase_of_mem hx] at this
    have := List.length_pos_of_mem hx
    simp only [List.length_cons]
    omega
end Go.VL.mov

namespace Go.VL
open Go

/-- A slice that may be read. -/
def RdS (σ : St) (v : V) (s : Nat) (es : List (List V)) : Prop := ∃ b r s', v = .sl b r s' es ∧ (b = true → es = []) ∧ (b = true ∨ rd σ.live r ∧ s' = s)
def intsV (k : IntKind) (l : List Int) : List (List V) := l.map fun n => [V.int k n]

theorem RdS.ext {σ τ : St} {v : V} {s : Nat} {es : List (List V)} (h : RdS σ v s es) (he : Ext σ τ) : RdS τ v s es := by
  obtain ⟨b, r, s', h1, h2, h3⟩ := h
  exact ⟨b, r, s', h1, h2, h3.imp_right fun x => ⟨rd_ext he x.1, x.2⟩⟩

theorem intsV_get {k : IntKind} {l : List Int} {i : Nat} (h : i < l.length) : (intsV k l)[((i : Nat) : Int).toNat]?.getD [] = [V.int k l[i]] := by
  simp [intsV, h]
theorem bytesV_get {l : List UInt8} {i : Nat} (h : i < l.length) : (bytesV l)[((i : Nat) : Int).toNat]?.getD [] = [V.int .u8 l[i].toNat] := by
  simp [bytesV, h]
theorem intsV_length (k : IntKind) (l : List Int) : (intsV k l).length = l.length := by simp [intsV]

/-- A slice that is owned, and new since a state. -/
def NewS (σ σ' : St) (v : V) (s : Nat) (es : List (List V)) : Prop := ∃ r, v = .sl false (.own r) s es ∧ σ'.live[r]? = some true ∧ σ.live.length ≤ r

theorem NewS.rd {σ σ' : St} {v : V} {s : Nat} {es : List (List V)} (h : NewS σ σ' v s es) : RdS σ' v s es := by
  obtain ⟨r, rfl, h1, _⟩ := h
  exact ⟨false, .own r, s, rfl, by simp, .inr ⟨h1, rfl⟩⟩
theorem NewS.ext {σ σ' τ : St} {v : V} {s : Nat} {es : List (List V)} (h : NewS σ σ' v s es) (he : Ext σ' τ) : NewS σ τ v s es := by
  obtain ⟨r, h0, h1, h2⟩ := h
  exact ⟨r, h0, he.live _ h1, h2⟩

/-- A right that is new has gone, another one has come. -/
theorem ext_kill {σ σ' : St} (h : Ext σ σ') {r : Nat} (hr : σ.live.length ≤ r) {b : Bool} : Ext σ ⟨σ'.objs, σ'.live.set r false ++ [b]⟩ :=
  ⟨h.objs, fun i hi => by
    have h1 := (List.getElem?_eq_some_iff.1 hi).1
    have h2 := h.live i hi
    have h3 := (List.getElem?_eq_some_iff.1 h2).1
    rw [List.getElem?_append_left (by simpa using h3), List.getElem?_set_ne (by omega)]
    exact h2, h.olen, by simp; have := h.llen; omega⟩
theorem ext_push {σ σ' : St} (h : Ext σ σ') {b : Bool} : Ext σ ⟨σ'.objs, σ'.live ++ [b]⟩ := h.trans (ext_live _ _)
/-- What is older than a right is not renamed with it. -/
theorem renS_old {σ : St} {b : Bool} {R : R} {z n r r' s : Nat} {es l : List (List V)} (h : RdS σ (.sl b R z l) n l) (hr : σ.live.length ≤ r) : renS r r' s es (.v (.sl b R z l)) = .v (.sl b R z l) := by
  obtain ⟨_, _, _, e, _, h2⟩ := h
  cases e
  rcases h2 with rfl | h2
  · exact renS_nil _ _ _
  · cases R with
    | pub => exact renS_pub _ _ _
    | view q => exact renS_view _ _ _ _
    | own q =>
      cases b with
      | true => exact renS_nil _ _ _
      | false =>
        have h3 : σ.live[q]? = some true := h2.1
        have := (List.getElem?_eq_some_iff.1 h3).1
        have h4 : Nat.beq q r = false := by
          rw [beq_nat]
          simp
          omega
        simp [renS_own, h4]
theorem live_last (l : List Bool) (b : Bool) : (l ++ [b])[l.length]? = some b := by simp
theorem live_last' (l : List Bool) (r : Nat) (b : Bool) : (l.set r false ++ [b])[l.length]? = some b := by
  rw [List.getElem?_append_right (by simp)]; simp

theorem bytesV_append (a b : List UInt8) : bytesV a ++ bytesV b = bytesV (a ++ b) := by simp [bytesV]
theorem bytesV_length (a : List UInt8) : (bytesV a).length = a.length := by simp [bytesV]
theorem bytes_back (s : List UInt8) : (bytesV s).map byteOfC = s := by
  induction s with
  | nil => rfl
  | cons c r ih => simp only [bytesV, List.map_cons, byteOfC] at ih ⊢; rw [ih]; simp
theorem byte1 (n : Int) (h : 0 ≤ n ∧ n ≤ 255) : [[V.int .u8 n]] = bytesV [UInt8.ofNat n.toNat] := by
  have : ((UInt8.ofNat n.toNat).toNat : Int) = n := by
    rw [UInt8.toNat_ofNat']; omega
  simp only [bytesV, List.map_cons, List.map_nil, this]

theorem and_127 (n : Nat) (h : n < 9223372036854775808) : ibits .and .i64 n 127 = (n % 128 : Nat) := by
  have h1 : (BitVec.ofInt IntKind.i64.bits (n : Int)).toNat = n := by
    rw [BitVec.ofInt_natCast, BitVec.toNat_ofNat, show IntKind.i64.bits = 64 from rfl]; omega
  have h2 : (BitVec.ofInt IntKind.i64.bits 127).toNat = 127 := rfl
  simp only [ibits, BitVec.toNat_and, h1, h2]
  rw [show n &&& 127 = n % 128 from Nat.and_two_pow_sub_one_eq_mod n 7, IntWalk.i64_in _ (by omega)]
theorem or_128 (n : Nat) (h : n < 128) : ibits .or .i64 n 128 = (n + 128 : Nat) := by
  have h1 : (BitVec.ofInt IntKind.i64.bits (n : Int)).toNat = n := by
    rw [BitVec.ofInt_natCast, BitVec.toNat_ofNat, show IntKind.i64.bits = 64 from rfl]; omega
  have h2 : (BitVec.ofInt IntKind.i64.bits 128).toNat = 128 := rfl
  simp only [ibits, BitVec.toNat_or, h1, h2]
  have : n ||| 128 = n + 128 := by
    have := Nat.two_pow_add_eq_or_of_lt (i := 7) (b := n) (by omega) 1
    rw [Nat.or_comm]; simp only [Nat.reducePow, Nat.mul_one] at this; omega
  rw [this, IntWalk.i64_in _ (by omega)]
theorem shr_7 (n : Nat) : (n : Int).fdiv (2 ^ min (Int.toNat 7) 64) = (n / 128 : Nat) := by
  show (n : Int).fdiv (2 ^ 7) = _
  rw [Int.fdiv_eq_ediv_of_nonneg _ (by decide)]; rfl
end Go.VL

namespace Go.VL
open Go

theorem setC_self {σ : St} {i : Nat} {cs : List V} (h : σ.objs[i]? = some (.cells cs)) : σ.setC i cs = σ := by
  obtain ⟨h1, h2⟩ := List.getElem?_eq_some_iff.1 h
  simp only [St.setC]
  rw [← h2, List.set_getElem_self]
theorem RdS.setC {σ : St} {v : V} {s i : Nat} {es : List (List V)} {cs : List V} (h : RdS σ v s es) : RdS (σ.setC i cs) v s es := by
  obtain ⟨b, r, s', h1, h2, h3⟩ := h
  refine ⟨b, r, s', h1, h2, h3.imp_right fun x => ⟨?_, x.2⟩⟩
  have := x.1
  cases r <;> exact this
theorem lit_rd {σ : St} {l : List Bool} {es : List (List V)} {n : Nat} : RdS ⟨σ.objs, σ.live ++ [true]⟩ (.sl false (.own σ.live.length) n es) n es :=
  ⟨false, _, n, rfl, by simp, .inr ⟨live_last _ _, rfl⟩⟩
theorem ext_set {σ σ' : St} (h : Ext σ σ') {i : Nat} (hi : σ.objs.length ≤ i) {cs : List V} : Ext σ (σ'.setC i cs) :=
  ⟨fun j o hj => by
    have h1 := (List.getElem?_eq_some_iff.1 hj).1
    show (σ'.objs.set i _)[j]? = some o
    rw [List.getElem?_set_ne (by omega)]
    exact h.objs _ _ hj, h.live, by
    show σ.objs.length ≤ (σ'.objs.set i _).length
    rw [List.length_set]; exact h.olen, h.llen⟩
theorem tmod_nat (a b : Nat) : ((a : Int).tmod (b : Int)) = ((a % b : Nat) : Int) := by rw [Int.ofNat_tmod]
theorem tdiv_nat (a b : Nat) : ((a : Int).tdiv (b : Int)) = ((a / b : Nat) : Int) := by rw [Int.ofNat_tdiv]
theorem kept_setC {L : List Nat} {σ : St} {i : Nat} {cs : List V} (h : i ∉ L) : Kept (some L) σ (σ.setC i cs) := by
  intro L' hL
  cases hL
  refine ⟨fun j hj o ho => ?_, fun r hr => hr⟩
  show (σ.objs.set i _)[j]? = some o
  rw [List.getElem?_set_ne (fun e => h (by rw [e]; exact hj))]
  exact ho
theorem bytesV_set {g : List UInt8} {i : Nat} {x : Int} (h : 0 ≤ x ∧ x ≤ 255) : (bytesV g).set i [V.int .u8 x] = bytesV (g.set i (UInt8.ofNat x.toNat)) := by
  have : ((UInt8.ofNat x.toNat).toNat : Int) = x := by rw [UInt8.toNat_ofNat']; omega
  simp only [bytesV, List.map_set, this]
theorem rdl {τ : St} {b : Bool} {r : R} {s n : Nat} {es : List (List V)} (h : RdS τ (.sl b r s es) n es) (hne : es ≠ []) : rd τ.live r ∧ s = n := by
  obtain ⟨b', r', s', e, h1, h2⟩ := h
  cases e
  exact h2.resolve_left fun hb => hne (h1 hb)
theorem rd_src {τ : St} {b : Bool} {r : R} {s n : Nat} {es : List (List V)} (h : RdS τ (.sl b r s es) n es) : (b = true ∨ rd τ.live r) ∧ (s = n ∨ es = []) := by
  obtain ⟨b', r', s', e, h1, h2⟩ := h
  cases e
  rcases h2 with h2 | h2
  · exact ⟨.inl h2, .inr (h1 h2)⟩
  · exact ⟨.inr h2.1, .inl h2.2⟩
/-- A value that is a slice. -/
def IsSl (s : V) : Prop := ∃ b r z es, s = .sl b r z es
theorem RdS.isSl {σ : St} {s : V} {n : Nat} {es : List (List V)} (h : RdS σ s n es) : IsSl s := by
  obtain ⟨b, r, z, h, _⟩ := h
  exact ⟨b, r, z, es, h⟩
theorem rd_z {σ : St} {b : Bool} {r : R} {z n : Nat} {es : List (List V)} (h : RdS σ (.sl b r z es) n es) : b = true ∨ z = n := by
  obtain ⟨_, _, _, e, _, h2⟩ := h
  cases e
  exact h2.imp_right (·.2)
theorem rd_toView {l : List Bool} {r : R} (h : rd l r) : rd l r.toView := by cases r <;> exact h
theorem rdS_drop {σ : St} {b : Bool} {r : R} {z : Nat} {p : List UInt8} (h : RdS σ (.sl b r z (bytesV p)) 1 (bytesV p)) (k : Nat) : RdS σ (.sl b r.toView z (bytesV (p.drop k))) 1 (bytesV (p.drop k)) := by
  obtain ⟨_, _, _, e, h1, h2⟩ := h
  cases e
  refine ⟨_, _, _, rfl, fun hb => ?_, h2.imp_right fun x => ⟨rd_toView x.1, x.2⟩⟩
  have := h1 hb
  simp only [bytesV, List.map_eq_nil_iff] at this
  subst this
  simp [bytesV]
end Go.VL

namespace Go.VL.mov
open Go Go.VL Go.Proofs Go.IntWalk

def right (s : Sp) : Bool := decide (1 ≤ s.c) && (decide (s.c ≤ 1099511627776) && (decide (0 ≤ s.r) && decide (s.r < 64)))
def nodeB (s : Sp) : Bool := right s || (decide (s.c = 0) && (decide (s.r = 0) || decide (s.r = 1)))
def spC (s : Sp) : List V := [.int .i64 s.c, .int .i64 s.r]
def spV (s : Sp) : V := .agg (spC s)
theorem sp_iff {a b : Sp} : a = b ↔ a.c = b.c ∧ a.r = b.r := by
  cases a; cases b; simp
theorem sp_dec (a b : Sp) : decide (a = b) = (decide (a.c = b.c) && decide (a.r = b.r)) := by
  rw [Bool.eq_iff_iff]; simp [sp_iff]
theorem sp_eqs (a b : Sp) : V.eqs [.int .i64 a.c, .int .i64 a.r] [.int .i64 b.c, .int .i64 b.r] = decide (a = b) := by
  simp [V.eqs, V.eq, sp_dec]
def less (a b : Sp) : Bool := decide (a.c < b.c) || (decide (a.c = b.c) && decide (a.r < b.r))
def cmp (a b : Sp) : Int := bif decide (a = b) then 0 else bif less a b then -1 else 1

section
variable {σ : St} {s a b : Sp} {r : Int}
set_option maxRecDepth 100000 in
theorem replica_ok : CallA Try.prog 50 [.int .i64 r] σ fun v σ' => σ' = σ ∧ v = .bool (decide (0 ≤ r) && decide (r < 64)) := by
  refine fn_at Try.func50 (by decide) comp50 rfl fun Q q1 q2 => ?_
  cases h1 : decide (0 ≤ r) <;> cases h2 : decide (r < 64)
  all_goals
    rw [h1, h2] at q2
    simp -implicitDefEqProofs only [go_sem, Nat.reduceBEq, Nat.reduceAdd, eq_self, true_and, and_self, c50, h1, h2]
    refine q2 _ _ ?_
    simp -implicitDefEqProofs only [go_sem, Nat.reduceBEq, Nat.reduceAdd]
    first | exact ⟨trivial, trivial⟩ | exact ⟨trivial, rfl⟩ | exact ⟨rfl, rfl⟩ | exact ⟨rfl, trivial⟩ | trivial
set_option maxRecDepth 100000 in
theorem right_ok : CallA Try.prog 34 [spV s] σ fun v σ' => σ' = σ ∧ v = .bool (right s) := by
  refine fn_at Try.func34 (by decide) comp34 rfl fun Q q1 q2 => ?_
  simp only [right] at q2
  cases h1 : decide (1 ≤ s.c) <;> cases h2 : decide (s.c ≤ 1099511627776)
  case true.true =>
    rw [h1, h2] at q2
    simp -implicitDefEqProofs only [go_sem, Nat.reduceBEq, Nat.reduceAdd, eq_self, true_and, and_self, c34, spV, spC, h1, h2]
    refine call_at replica_ok ?_
    rintro v σ' ⟨rfl, rfl⟩
    refine ⟨kept_none, ?_⟩
    simp -implicitDefEqProofs only [go_sem, Nat.reduceBEq, Nat.reduceAdd]
    refine q2 _ _ ?_
    simp -implicitDefEqProofs only [go_sem, Nat.reduceBEq, Nat.reduceAdd]
    first | exact ⟨trivial, trivial⟩ | exact ⟨trivial, rfl⟩ | exact ⟨rfl, rfl⟩ | exact ⟨rfl, trivial⟩ | trivial
  all_goals
    rw [h1, h2] at q2
    simp -implicitDefEqProofs only [go_sem, Nat.reduceBEq, Nat.reduceAdd, eq_self, true_and, and_self, c34, spV, spC, h1, h2]
    refine q2 _ _ ?_
    simp -implicitDefEqProofs only [go_sem, Nat.reduceBEq, Nat.reduceAdd]
    first | exact ⟨trivial, trivial⟩ | exact ⟨trivial, rfl⟩ | exact ⟨rfl, rfl⟩ | exact ⟨rfl, trivial⟩ | trivial
set_option maxRecDepth 100000 in
theorem rright_ok : CallA Try.prog 45 [spV s] σ fun v σ' => σ' = σ ∧ v = .bool (right s) := by
  refine fn_at Try.func45 (by decide) comp45 rfl fun Q q1 q2 => ?_
  simp only [right] at q2
  cases h1 : decide (1 ≤ s.c) <;> cases h2 : decide (s.c ≤ 1099511627776) <;> cases h3 : decide (0 ≤ s.r) <;> cases h4 : decide (s.r < 64)
  all_goals
    rw [h1, h2, h3, h4] at q2
    simp -implicitDefEqProofs only [go_sem, Nat.reduceBEq, Nat.reduceAdd, eq_self, true_and, and_self, c45, spV, spC, h1, h2, h3, h4]
    refine q2 _ _ ?_
    simp -implicitDefEqProofs only [go_sem, Nat.reduceBEq, Nat.reduceAdd]
    first | exact ⟨trivial, trivial⟩ | exact ⟨trivial, rfl⟩ | exact ⟨rfl, rfl⟩ | exact ⟨rfl, trivial⟩ | trivial
set_option maxRecDepth 100000 in
theorem rnode_ok : CallA Try.prog 46 [spV s] σ fun v σ' => σ' = σ ∧ v = .bool (nodeB s) := by
  refine fn_at Try.func46 (by decide) comp46 rfl fun Q q1 q2 => ?_
  simp only [nodeB] at q2
  simp -implicitDefEqProofs only [go_sem, Nat.reduceBEq, Nat.reduceAdd, eq_self, true_and, and_self, c46, spV, spC]
  refine call_at rright_ok ?_
  rintro v σ' ⟨rfl, rfl⟩
  refine ⟨kept_none, ?_⟩
  cases h0 : right s <;> cases h1 : decide (s.c = 0) <;> cases h2 : decide (s.r = 0) <;> cases h3 : decide (s.r = 1)
  all_goals
    rw [h0, h1, h2, h3] at q2
    simp -implicitDefEqProofs only [go_sem, Nat.reduceBEq, Nat.reduceAdd, eq_self, true_and, and_self, h0, h1, h2, h3]
    refine q2 _ _ ?_
    simp -implicitDefEqProofs only [go_sem, Nat.reduceBEq, Nat.reduceAdd]
    first | exact ⟨trivial, trivial⟩ | exact ⟨trivial, rfl⟩ | exact ⟨rfl, rfl⟩ | exact ⟨rfl, trivial⟩ | trivial
set_option maxRecDepth 100000 in
theorem compare_ok : CallA Try.prog 41 [spV a, spV b] σ fun v σ' => σ' = σ ∧ v = .int .i64 (cmp a b) := by
  refine fn_at Try.func41 (by decide) comp41 rfl fun Q q1 q2 => ?_
  simp only [cmp, less, sp_dec] at q2
  cases h1 : decide (a.c = b.c) <;> cases h2 : decide (a.r = b.r) <;> cases h3 : decide (a.c < b.c) <;> cases h4 : decide (a.r < b.r)
  all_goals
    rw [h1, h2, h3, h4] at q2
    simp -implicitDefEqProofs only [go_sem, Nat.reduceBEq, Nat.reduceAdd, eq_self, true_and, and_self, c41, spV, spC, h1, h2, h3, h4, V.eqs, V.eq]
    refine q2 _ _ ?_
    simp -implicitDefEqProofs only [go_sem, Nat.reduceBEq, Nat.reduceAdd]
    first | exact ⟨trivial, trivial⟩ | exact ⟨trivial, rfl⟩ | exact ⟨rfl, rfl⟩ | exact ⟨rfl, trivial⟩ | trivial
set_option maxRecDepth 100000 in
theorem less_ok : CallA Try.prog 56 [spV a, spV b] σ fun v σ' => σ' = σ ∧ v = .bool (less a b) := by
  refine fn_at Try.func56 (by decide) comp56 rfl fun Q q1 q2 => ?_
  simp only [less] at q2
  cases h1 : decide (a.c = b.c) <;> cases h3 : decide (a.c < b.c) <;> cases h4 : decide (a.r < b.r)
  all_goals
    rw [h1, h3, h4] at q2
    simp -implicitDefEqProofs only [go_sem, Nat.reduceBEq, Nat.reduceAdd, eq_self, true_and, and_self, c56, spV, spC, h1, h3, h4]
    refine q2 _ _ ?_
    simp -implicitDefEqProofs only [go_sem, Nat.reduceBEq, Nat.reduceAdd]
    first | exact ⟨trivial, trivial⟩ | exact ⟨trivial, rfl⟩ | exact ⟨rfl, rfl⟩ | exact ⟨rfl, trivial⟩ | trivial
end
end Go.VL.mov

namespace Go.VL
open Go Go.ChangeShapes Go.WideShapes Go.ChangeAt Go.RowKit

/-- What was there is as it was. -/
structure OldKept (W w' : World) : Prop where
  os : w'.os = W.os
  out : w'.output = W.output
  heap : ∀ (b : Nat) (o : Obj), W.heap[b]? = some o → w'.heap[b]? = some o

def pubOf (W : World) (b : Nat) : List Value := match W.heap[b]? with
  | some (.cells c _ _) => c.toList
  | _ => []
/-- The ghost at a claim's start: all that is there is laid aside, and may be read. -/
def g0 (W : World) : G := { mu := [], rho := [], pub := pubOf W, phi := fun b => W.heap[b]?, snap := fun _ _ => none, os := W.os, tape := W.tape, out := W.output, drn := W.drawn }

theorem inv0 (W : World) : INV (g0 W) ⟨[], []⟩ W where
  os := rfl
  tape := rfl
  out := rfl
  phi := fun _ _ h => h
  pub := fun b i v h => by
    simp only [g0, pubOf] at h
    split at h
    · rename_i c e z hx
      exact ⟨c, e, z, hx, by simpa using h⟩
    · simp at h
  mulen := rfl
  objs := fun i b o h => by simp [g0] at h
  inj := fun i j b h => by simp [g0] at h
  rholen := rfl
  own := fun r v s es h => by simp at h
  snapb := fun b n x h => by simp [g0] at h
  apart := fun r r' v s es v' s' es' b h => by simp at h
  drn := Nat.le_refl _

theorem entry {P : Program} {f : FuncId} {xs : List V} {W : World} {vs : List Value} {K : V → St → Prop} (h : CallA P f xs ⟨[], []⟩ K) (hr : RepL (g0 W) xs vs) :
    Calls P f vs.toArray W fun e w' => ∃ v x σ γ, e = .returned v ∧ OldKept W w' ∧ INV γ σ w' ∧ Rep γ x v ∧ K x σ := by
  refine (h.2 (g0 W) W vs (inv0 W) hr).mono ?_
  rintro e w' ⟨v, x, σ, γ, rfl, hle, hi, hx, hk⟩
  refine ⟨v, x, σ, γ, rfl, ⟨hi.os.trans hle.os, hi.out.trans hle.out, fun b o hb => hi.phi b o ?_⟩, hi, hx, hk⟩
  rw [hle.phi]; exact hb

theorem OldKept.frame {W w' : World} (h : OldKept W w') (may : MemPlace → Prop) : W.keptBut w' may := by
  refine ⟨h.os, h.out, fun i hi => ?_⟩
  have h1 : W.heap[i]? = some W.heap[i] := Array.getElem?_eq_getElem hi
  rw [h1, h.heap _ _ h1]
  cases W.heap[i] <;> simp

theorem OldKept.frozen {W w' : World} (h : OldKept W w') {a : Addr} (ha : a.block < W.heap.size) : w'.frozen? a = W.frozen? a := by
  have h1 : W.heap[a.block]? = some W.heap[a.block] := Array.getElem?_eq_getElem ha
  simp only [World.frozen?, h1, h.heap _ _ h1]

/-- A claim's postcondition where nothing that was there has changed. -/
theorem post_of_old {H : Type} {enc : TypeId × Value → H} {P : Program} {f : Func} {s : ChangeSpec} {apart fresh handsOn again : Bool} {W W' : World} {args : Array Value} {v : Value} {ds gs : List (DataW H)} {before pa pv : List MemPlace}
    (hW : DataW.Whole enc P f.params.toList s.vars apart W args.toList ds gs before)
    (hres : ∀ (b : Nat) (sp : Nat → Bool) (hd : Bool), DataW.TrodAll enc P W' b sp hd f.resultTypes.toList (v.resultList f.resultTypes.size) (s.fn H (ds ++ gs)).results [])
    (hargs : ∀ sp : Nat → Bool, (∀ p ∈ before, sp p.block = true) → DataW.TrodAll enc P W' 0 sp true f.params.toList args.toList (s.fn H (ds ++ gs)).args pa)
    (hvars : ∀ sp : Nat → Bool, (∀ p ∈ before, sp p.block = true) → DataW.TrodVars enc P W' sp s.vars (s.fn H (ds ++ gs)).vars pv)
    (hps : before = pa ++ pv) (hk : OldKept W W')
    (hok : ∀ (j : Nat) (t : TypeId) (r : Value), f.resultTypes[j]? = some t → (v.resultList f.resultTypes.size)[j]? = some r → Value.okWide P W' .any 0 t r) :
    s.post enc P f apart fresh handsOn again W args v W' := by
  have hold : ∀ p ∈ before, (fun b => decide (b < W.heap.size)) p.block = true := fun p hp => by simpa using hW.lt p hp
  have hlt := hW.lt
  refine ⟨ds, gs, before, [], pa, pv, hW, hres _ _ _, hargs _ hold, hvars _ hold, World.keptBut_mono (fun p hp => ⟨hp, ?_⟩) (hk.frame (· ∈ before)), fun _ => ?_⟩
  · rw [hps, List.mem_append] at hp
    exact Or.inr hp
  · obtain ⟨_, _, _, _, _, hz, hn⟩ := hW
    refine ⟨hok, _, _, ([] ++ pa) ++ pv, ⟨[] ++ pa, pv, trodAll_append (hargs _ (fun _ _ => rfl)) (hres _ _ _), hvars _ (fun _ _ => rfl), rfl, ?_, ?_⟩, ?_⟩
    · intro b off hp
      have hp' : MemPlace.cell b off ∈ before := by rw [hps]; simpa using hp
      rw [hk.frozen (by have := hlt _ hp'; exact this)]
      exact hz b off hp'
    · intro ha
      have := hn ha
      rw [hps] at this
      simpa using this
    · intro p hp _
      rw [hps]
      simpa using hp
end Go.VL

namespace Go.Proofs
open Go.Shelf Go.RowKit Go.Lib

/-- ALL IS READ BEFORE ANYTHING IS WRITTEN; elements of k cells. -/
theorem run_copyK {P : Program} (w : World) (dT sT ty elem : TypeId) (b o dLen dCap : Nat) (a : Addr) (sLen sCap k : Nat) (cs : List Value)
    (hu : P.underlying dT = some (.slice elem)) (hs : ∀ w, (Go.sizeOf elem).run P w = .ok k w) (hn : cs.length = Nat.min sLen dLen * k)
    (hsrc : ∀ j v, cs[j]? = some v → w.cell? (a.add j) = some v) (hc : ∀ j, j < cs.length → (w.cell? ⟨b, o + j, none⟩).isSome = true) (hf : ∀ j, j < cs.length → w.frozen? ⟨b, o + j, none⟩ = false) (h1 : ∀ v ∈ cs, v.oneCell' = true) :
    (Builtin.copy_ #[dT, sT] ty #[.slice (some ⟨b, o, none⟩) dLen dCap, .slice (some a) sLen sCap]).run P w = .ok (goInt (Nat.min sLen dLen)) (w.setCells b o cs) := by
  have hl := run_loadCells_list (P := P) w a cs hsrc
  have hst := run_storeCells_cells (P := P) b o cs 0 w (by simpa using hc) (by simpa using hf) h1
  simp [Builtin.copy_, run_underlying hu, Builtin.lenOf, Builtin.firstCells, hs, ← hn, hl, hst]

set_option maxHeartbeats 4000000 in
set_option maxRecDepth 100000 in
theorem insShift (b off n c i vb voff m vc : Nat) (cs vs : List Value) (w : World) (hi : i < n) (hm : 0 < m) (hroom : n + m ≤ c) (hc63 : c ≤ 9223372036854775807) (hvb : vb ≠ b)
    (hcl : cs.length = n * 14) (hvl : vs.length = m * 14)
    (hcs : ∀ j v, cs[j]? = some v → w.cell? ⟨b, off + j, none⟩ = some v) (hsp : ∀ j, j < (n + m) * 14 → (w.cell? ⟨b, off + j, none⟩).isSome = true) (hfz : ∀ j, j < (n + m) * 14 → w.frozen? ⟨b, off + j, none⟩ = false)
    (hvs : ∀ j v, vs[j]? = some v → w.cell? ⟨vb, voff + j, none⟩ = some v) (h1c : ∀ v ∈ cs, v.oneCell' = true) (h1v : ∀ v ∈ vs, v.oneCell' = true)
    (tA tB : TypeId) (kA kB : Nat) (hsa : w.shape? vb = some (tA, kA)) (hsb : w.shape? b = some (tB, kB)) (hkB : kB ≠ 0) (hfa : w.frozen? ⟨vb, voff, none⟩ = false) (hfe : w.frozen? ⟨vb, kA, none⟩ = false) :
    Calls Try.prog 37 #[.slice (some ⟨b, off, none⟩) n c, .int .i64 i, .slice (some ⟨vb, voff, none⟩) m vc] w fun e w' =>
      e = .returned (.slice (some ⟨b, off, none⟩) (n + m) c) ∧ w' = (w.drew.setCells b (off + (i + m) * 14) (cs.drop (i * 14))).setCells b (off + i * 14) vs := by
  have hz1 : ¬ ((m : Int) = 0) := by omega
  have hz2 : ¬ ((i : Int) = (n : Int)) := by omega
  have hov : ∀ lb cb, (callFunc 51 #[.slice (some ⟨vb, voff, none⟩) m vc, .slice (some ⟨b, off + (i + m) * 14, none⟩) lb cb]).run Try.prog w = .ok (.value (.bool false)) w := fun lb cb => by
    rw [run_callFunc_extern Try.func51 (by kernel_rfl) (by kernel_rfl) (by kernel_rfl) (e := Extern.SlicesOverlaps.overlaps #[72, 72] #[4]) (by kernel_rfl),
      Lib.run_overlaps_apart w 72 4 71 Try.underlying72 14 Try.sizeOf71 ⟨vb, voff, none⟩ ⟨b, off + (i + m) * 14, none⟩ m vc lb cb hvb tA tB kA kB hsa hsb hkB hfa hfe]
    rfl
  have hdl : (cs.drop (i * 14)).length = (n - i) * 14 := by rw [List.length_drop, hcl]; omega
  have mixed : Try.prog.follows .mixedOrders = true := by kernel_rfl
  have hw1 : IntKind.i64.wrap ((i : Int) + (m : Int)) = (i : Int) + (m : Int) := by rw [IntKind.wrap_i64]; omega
  have hb1 : (0 : Int) ≤ (i : Int) + (m : Int) := by omega
  have hin : i ≤ n := by omega
  have htn : ((i : Int) + (m : Int)).toNat = i + m := by omega
  have hb2 : ¬ (c = i + m) := by omega
  have hb3 : (i : Int) ≤ (n : Int) + (m : Int) := by omega
  have hb4 : ¬ (c = i) := by omega
  have hcp1 : ∀ ty dc sc, (Builtin.copy_ #[72, 72] ty #[.slice (some ⟨b, off + (i + m) * 14, none⟩) (n + m - (i + m)) dc, .slice (some ⟨b, off + i * 14, none⟩) (n + m - i) sc]).run Try.prog w.drew = .ok (goInt (n - i : Nat)) (w.drew.setCells b (off + (i + m) * 14) (cs.drop (i * 14))) := fun ty dc sc => by
    have := run_copyK (P := Try.prog) w.drew 72 72 ty 71 b (off + (i + m) * 14) (n + m - (i + m)) dc ⟨b, off + i * 14, none⟩ (n + m - i) sc 14 (cs.drop (i * 14)) Try.underlying72 Try.sizeOf71 (by rw [hdl]; simp only [Nat.min_def]; split <;> omega)
      (fun j v hj => by rw [Addr.add_lit, Nat.add_assoc]; exact hcs (i * 14 + j) v (by rwa [List.getElem?_drop] at hj))
      (fun j hj => by rw [Nat.add_assoc]; exact hsp _ (by omega)) (fun j hj => by rw [Nat.add_assoc]; exact hfz _ (by omega)) (fun v hv => h1c v (List.mem_of_mem_drop hv))
    rw [this]
    congr 2
    simp only [Nat.min_def]; split <;> omega
  obtain ⟨W1, hW1⟩ : ∃ W1, W1 = w.drew.setCells b (off + (i + m) * 14) (cs.drop (i * 14)) := ⟨_, rfl⟩
  have hsp1 : ∀ k, k < (n + m) * 14 → (W1.cell? ⟨b, off + k, none⟩).isSome = true := fun k hk => by
    rw [hW1]
    exact isSome_setCells b _ _ _ (fun j hj => by rw [Nat.add_assoc]; exact hsp _ (by omega)) _ (hsp k hk)
  have hcp2 : ∀ (W : World), (∀ x, W.cell? x = W1.cell? x) → (∀ x, W.frozen? x = W1.frozen? x) → ∀ ty dc, (Builtin.copy_ #[72, 72] ty #[.slice (some ⟨b, off + i * 14, none⟩) (n + m - i) dc, .slice (some ⟨vb, voff, none⟩) m vc]).run Try.prog W = .ok (goInt (m : Nat)) (W.setCells b (off + i * 14) vs) := fun W hWc hWf ty dc => by
    have := run_copyK (P := Try.prog) W 72 72 ty 71 b (off + i * 14) (n + m - i) dc ⟨vb, voff, none⟩ m vc 14 vs Try.underlying72 Try.sizeOf71 (by rw [hvl]; simp only [Nat.min_def]; split <;> omega)
      (fun j v hj => by
        rw [Addr.add_lit, hWc, hW1, World.cell?_setCells_out b _ _ _ _ (fun h _ => absurd h hvb)]
        exact hvs j v hj)
      (fun j hj => by rw [hWc, Nat.add_assoc]; exact hsp1 _ (by omega)) (fun j hj => by rw [hWf, hW1, World.frozen?_setCells, Nat.add_assoc]; exact hfz _ (by omega)) h1v
    rw [this]
    congr 2
    simp only [Nat.min_def]; split <;> omega
  rw [← hW1] at hcp1
  go_enter Try.func37, Try.ntmps37
  go_wp2_with (simp only [hov])
  go_region_law_o (refine step_copy_runI rfl _ _ 72 72 rfl _ _ (by simp [Act.eval, Act.put]) (by simp [Act.eval, Act.put]) (hcp1 _ _ _) ?_)
  go_wp2_with (at_builtin; refine wpList_copy_runI _ rfl _ _ 72 72 rfl _ _ rfl rfl (hcp2 _ (fun _ => rfl) (fun _ => rfl) _ _) ?_)
  go_ret
  first | exact ⟨rfl, rfl⟩ | exact ⟨rfl, by rw [hW1]⟩

set_option maxHeartbeats 4000000 in
set_option maxRecDepth 100000 in
theorem insGrow (b off n c i vb voff m vc : Nat) (cs vs : List Value) (w : World) (hi : i < n) (hm : 0 < m) (hnc : n ≤ c) (hroom : c < n + m) (hbig : n + m ≤ 1000000000)
    (hcl : cs.length = n * 14) (hvl : vs.length = m * 14)
    (hcs : ∀ j v, cs[j]? = some v → w.cell? ⟨b, off + j, none⟩ = some v)
    (hvs : ∀ j v, vs[j]? = some v → w.cell? ⟨vb, voff + j, none⟩ = some v) (h1c : ∀ v ∈ cs, v.oneCell' = true) (h1v : ∀ v ∈ vs, v.oneCell' = true) (zv : Value) (hzv : Try.t71.zero = some zv) :
    Calls Try.prog 37 #[.slice (some ⟨b, off, none⟩) n c, .int .i64 i, .slice (some ⟨vb, voff, none⟩) m vc] w fun e w' =>
      e = .returned (.slice (some ⟨w.heap.size, 0, none⟩) (n + m) (grownCap w (n + m) c 71)) ∧
      w' = (((w.alloc (.cells ((cs.take (i * 14)).toArray ++ Builtin.zeroCells zv.cells (n + m - i) ++ Builtin.zeroCells zv.cells (grownCap w (n + m) c 71 - (n + m))) 71)).drew.setCells w.heap.size (i * 14) vs).drew).setCells w.heap.size ((i + m) * 14) (cs.drop (i * 14)) := by
  have mixed : Try.prog.follows .mixedOrders = true := by kernel_rfl
  obtain ⟨i0, hi0, hz0, hzs, hzb⟩ : ∃ i0, Try.prog.info? 71 = some i0 ∧ i0.zero = some zv ∧ i0.size = 14 ∧ i0.bytes = 112 := ⟨Try.t71, by kernel_rfl, hzv, by kernel_rfl, by kernel_rfl⟩
  have hz1 : ¬ ((m : Int) = 0) := by omega
  have hz2 : ¬ ((i : Int) = (n : Int)) := by omega
  have hz3 : (c : Int) < (n : Int) + (m : Int) := by omega
  have hbw : b < w.heap.size := block_lt_of_cell (hcs 0 _ (List.getElem?_eq_getElem (by omega)))
  have hvw : vb < w.heap.size := block_lt_of_cell (hvs 0 _ (List.getElem?_eq_getElem (by omega)))
  have hkk : (n : Int) + (m : Int) - (i : Int) = ((n + m - i : Nat) : Int) := by omega
  have hik : i + (n + m - i) = n + m := by omega
  have hold : (Builtin.firstCells i0.size i (.slice (some ⟨b, off, none⟩) i c)).run Try.prog w.drew = .ok (cs.take (i * 14)).toArray w.drew := by
    rw [hzs]
    exact run_firstCells_some w.drew 14 i ⟨b, off, none⟩ i c (cs.take (i * 14)) (by rw [List.length_take]; omega) (fun j v hj => by
      rw [Addr.add_lit]
      rw [List.getElem?_take] at hj
      split at hj
      · exact hcs j v hj
      · cases hj)
  have hrz : ∀ ty, (Builtin.append_ #[72, 3] ty #[.slice (some ⟨b, off, none⟩) i c, .int .i64 ((n : Int) + (m : Int) - (i : Int))]).run Try.prog w =
      .ok (.slice (some ⟨w.heap.size, 0, none⟩) (n + m) (grownCap w (n + m) c 71)) (w.drew.alloc (.cells ((cs.take (i * 14)).toArray ++ Builtin.zeroCells zv.cells (n + m - i) ++ Builtin.zeroCells zv.cells (grownCap w (n + m) c 71 - (n + m))) 71)) := fun ty => by
    have h := Lib.run_append_grow_zeros w 72 3 ty 71 i0 _ .i64 .i64 Try.underlying72 Try.underlying3 hi0 hz0 (some ⟨b, off, none⟩) i c (cs.take (i * 14)) hold (n + m - i) (by omega) (by omega) (by omega) (by omega) (by rw [hzb]; omega) (by
      rw [hzb, hik]
      have := Go.VL.nextcap_le (n + m) c hroom
      omega)
    rw [hik] at h
    rw [hkk]
    exact h
  obtain ⟨G, hG⟩ : ∃ G, G = grownCap w (n + m) c 71 := ⟨_, rfl⟩
  obtain ⟨ROW, hROW⟩ : ∃ ROW : Array Value, ROW = (cs.take (i * 14)).toArray ++ Builtin.zeroCells zv.cells (n + m - i) ++ Builtin.zeroCells zv.cells (G - (n + m)) := ⟨_, rfl⟩
  rw [← hG] at hrz ⊢
  rw [← hROW] at hrz ⊢
  have hzc : zv.cells.size = 14 := by
    have : Try.t71.zero = some zv → zv.cells.size = 14 := by
      intro h
      have h2 : (Try.t71.zero.map fun z => z.cells.size) = some 14 := by kernel_rfl
      rw [h] at h2
      simpa using h2
    exact this hzv
  have hRl : (n + m) * 14 ≤ ROW.size := by
    rw [hROW]
    simp only [Array.size_append, List.size_toArray, List.length_take, Go.VL.zeroCells_size, hzc]
    omega
  obtain ⟨W1, hW1⟩ : ∃ W1, W1 = w.drew.alloc (.cells ROW 71) := ⟨_, rfl⟩
  rw [← hW1] at hrz
  have hN : ∀ j, j < (n + m) * 14 → (W1.cell? ⟨w.heap.size, j, none⟩).isSome = true := fun j hj => by
    rw [hW1, World.cell?_alloc_at (w := w.drew) ROW _ w.heap.size j rfl, Array.getElem?_eq_getElem (by omega)]; rfl
  have hNf : ∀ j, W1.frozen? ⟨w.heap.size, j, none⟩ = false := fun j => by rw [hW1]; exact World.frozen?_alloc_at (w := w.drew) ROW _ w.heap.size j rfl
  have hOb : ∀ j v, w.cell? ⟨b, j, none⟩ = some v → W1.cell? ⟨b, j, none⟩ = some v := fun j v h => by rw [hW1, World.cell?_alloc_past (w := w.drew) _ b j hbw]; exact h
  have hOv : ∀ j v, w.cell? ⟨vb, j, none⟩ = some v → W1.cell? ⟨vb, j, none⟩ = some v := fun j v h => by rw [hW1, World.cell?_alloc_past (w := w.drew) _ vb j hvw]; exact h
  have hcpA : ∀ (W : World), (∀ x, W.cell? x = W1.cell? x) → (∀ x, W.frozen? x = W1.frozen? x) → ∀ ty dc, (Builtin.copy_ #[72, 72] ty #[.slice (some ⟨w.heap.size, i * 14, none⟩) (n + m - i) dc, .slice (some ⟨vb, voff, none⟩) m vc]).run Try.prog W = .ok (goInt (m : Nat)) (W.setCells w.heap.size (i * 14) vs) := fun W hWc hWf ty dc => by
    have := run_copyK (P := Try.prog) W 72 72 ty 71 w.heap.size (i * 14) (n + m - i) dc ⟨vb, voff, none⟩ m vc 14 vs Try.underlying72 Try.sizeOf71 (by rw [hvl]; simp only [Nat.min_def]; split <;> omega)
      (fun j v hj => by rw [Addr.add_lit, hWc]; exact hOv _ v (hvs j v hj))
      (fun j hj => by rw [hWc]; exact hN _ (by omega)) (fun j hj => by rw [hWf]; exact hNf _) h1v
    rw [this]
    congr 2
    simp only [Nat.min_def]; split <;> omega
  have hGn : n + m ≤ G := by rw [hG]; exact grownCap_ge w _ _ _
  have hG63 : G ≤ 9223372036854775807 := by
    have := grownCap_le_maxLen w (n + m) c 71 (by unfold maxLen; omega)
    rw [← hG] at this
    unfold maxLen at this
    omega
  have hGi : ¬ (G = i) := by omega
  have hGim : ¬ (G = i + m) := by omega
  have hci : ¬ (c = i) := by omega
  have hbN : b ≠ w.heap.size := by omega
  have hdl : (cs.drop (i * 14)).length = (n - i) * 14 := by rw [List.length_drop, hcl]; omega
  have hcpB : ∀ (W : World), (∀ x, W.cell? x = (W1.setCells w.heap.size (i * 14) vs).cell? x) → (∀ x, W.frozen? x = (W1.setCells w.heap.size (i * 14) vs).frozen? x) → ∀ ty dc sc, (Builtin.copy_ #[72, 72] ty #[.slice (some ⟨w.heap.size, (i + m) * 14, none⟩) (n + m - (i + m)) dc, .slice (some ⟨b, off + i * 14, none⟩) (n - i) sc]).run Try.prog W = .ok (goInt (n - i : Nat)) (W.setCells w.heap.size ((i + m) * 14) (cs.drop (i * 14))) := fun W hWc hWf ty dc sc => by
    have := run_copyK (P := Try.prog) W 72 72 ty 71 w.heap.size ((i + m) * 14) (n + m - (i + m)) dc ⟨b, off + i * 14, none⟩ (n - i) sc 14 (cs.drop (i * 14)) Try.underlying72 Try.sizeOf71 (by rw [hdl]; simp only [Nat.min_def]; split <;> omega)
      (fun j v hj => by
        rw [Addr.add_lit, hWc, World.cell?_setCells_out _ _ _ _ _ (fun h _ => absurd h hbN), Nat.add_assoc]
        exact hOb _ v (hcs (i * 14 + j) v (by rwa [List.getElem?_drop] at hj)))
      (fun j hj => by rw [hWc]; exact isSome_setCells _ _ _ _ (fun t ht => hN _ (by omega)) _ (hN _ (by omega)))
      (fun j hj => by rw [hWf, World.frozen?_setCells]; exact hNf _) (fun v hv => h1c v (List.mem_of_mem_drop hv))
    rw [this]
    congr 2
    simp only [Nat.min_def]; split <;> omega
  subst hW1
  have hE1 : ∀ x, ((w.alloc (.cells ROW 71)).drew).cell? x = (w.drew.alloc (.cells ROW 71)).cell? x := fun x => rfl
  have hE2 : ∀ x, ((w.alloc (.cells ROW 71)).drew).frozen? x = (w.drew.alloc (.cells ROW 71)).frozen? x := fun x => rfl
  have hF1 : ∀ x, (((w.alloc (.cells ROW 71)).drew.setCells w.heap.size (i * 14) vs).drew).cell? x = ((w.drew.alloc (.cells ROW 71)).setCells w.heap.size (i * 14) vs).cell? x := fun x => rfl
  have hF2 : ∀ x, (((w.alloc (.cells ROW 71)).drew.setCells w.heap.size (i * 14) vs).drew).frozen? x = ((w.drew.alloc (.cells ROW 71)).setCells w.heap.size (i * 14) vs).frozen? x := fun x => rfl
  have hw1 : IntKind.i64.wrap ((i : Int) + (m : Int)) = (i : Int) + (m : Int) := by rw [IntKind.wrap_i64]; omega
  have hb1 : (0 : Int) ≤ (i : Int) + (m : Int) := by omega
  have hin : i ≤ n := by omega
  have htn : ((i : Int) + (m : Int)).toNat = i + m := by omega
  have hb3 : (i : Int) ≤ (n : Int) := by omega
  clear hkk hik hold hROW hG hRl
  go_enter Try.func37, Try.ntmps37
  go_wp2_with (first
    | (at_builtin; refine Lib.wpList_append_run _ rfl _ _ _ _ rfl _ _ rfl rfl _ _ (hrz _) ?_)
    | (at_builtin; refine wpList_copy_runI _ rfl _ _ 72 72 rfl _ _ rfl rfl (hcpA _ hE1 hE2 _ _) ?_)
    | (at_builtin; refine wpList_copy_runI _ rfl _ _ 72 72 rfl _ _ rfl rfl (hcpB _ (fun _ => rfl) (fun _ => rfl) _ _ _) ?_))
  go_region_law_o (refine step_copy_runI rfl _ _ 72 72 rfl (.slice (some ⟨w.heap.size, (i + m) * 14, none⟩) (n + m - (i + m)) (G - (i + m))) (.slice (some ⟨b, off + i * 14, none⟩) (n - i) (c - i)) (by simp [Act.eval, Act.put]) (by simp [Act.eval, Act.put]) (hcpB _ hF1 hF2 3 (G - (i + m)) (c - i)) ?_)
  go_wp2
  go_ret
  exact ⟨rfl, rfl⟩
end Go.Proofs

namespace Go.Proofs
open Go.Shelf Go.RowKit Go.Lib Go.VL

section
variable {P : Program} {w : World}
theorem run_appK_room {t ty e : TypeId} {i : TypeInfo} (ht : P.underlying t = some (.slice e)) (hi : P.info? e = some i) {b off n c m : Nat} {y : Value} (hl : (Builtin.lenOf y).run P w = .ok m w)
    {xs : List Value} (hxs : (Builtin.firstCells i.size m y).run P w = .ok xs.toArray w) (hroom : n + m ≤ c) {w' : World} (hst : (storeCells ⟨b, off + n * i.size, none⟩ xs).run P w = .ok () w') :
    (Builtin.append_ #[t, t] ty #[.slice (some ⟨b, off, none⟩) n c, y]).run P w = .ok (.slice (some ⟨b, off, none⟩) (n + m) c) w' := by
  have hsz : szOf P e = some i.size := by simp [szOf, hi]
  simp [Builtin.append_, run_underlying ht, Go.VL.run_sizeOf hsz, hl, hxs, hroom, add_none, hst]
theorem run_appK_grow {t ty e : TypeId} {i : TypeInfo} {zv : Value} (ht : P.underlying t = some (.slice e)) (hi : P.info? e = some i) (hzv : i.zero = some zv) (hbytes : i.bytes ≤ 65536) {base : Option Addr} {n c m : Nat} {y : Value}
    (hl : (Builtin.lenOf y).run P w = .ok m w) {xs os : List Value} (hxs : (Builtin.firstCells i.size m y).run P w.drew = .ok xs.toArray w.drew) (hos : (Builtin.firstCells i.size n (.slice base n c)).run P w.drew = .ok os.toArray w.drew)
    (hroom : ¬ n + m ≤ c) (hbig : n + m ≤ 1073741824) :
    ∃ nc, n + m ≤ nc ∧ nc ≤ 9223372036854775807 ∧ ∀ ty, (Builtin.append_ #[t, t] ty #[.slice base n c, y]).run P w = .ok (.slice (some ⟨w.heap.size, 0, none⟩) (n + m) nc) (pushed w.drew (.cells (os.toArray ++ (xs.toArray ++ Builtin.zeroCells zv.cells (nc - (n + m)))) e)) := by
  have hsz : szOf P e = some i.size := by simp [szOf, hi]
  refine ⟨(Question.appendCap (n + m) c e).cut (w.tape w.drawn (.appendCap (n + m) c e)), by simp only [Question.cut]; omega, ?_, fun ty => ?_⟩
  · have := grownCap_le_maxLen w (n + m) c e (by unfold maxLen; omega)
    unfold grownCap maxLen at this
    exact this
  have hn := nextcap_le (n + m) c (by omega)
  have hb : ¬ (Builtin.nextslicecap (n + m) c * i.bytes > 2 ^ 48) := by
    have : Builtin.nextslicecap (n + m) c * i.bytes ≤ 4294967296 * 65536 := Nat.mul_le_mul (by omega) hbytes
    omega
  have hq : (Question.appendCap (n + m) c e).forced = false := rfl
  simp [Builtin.append_, run_underlying ht, Go.VL.run_sizeOf hsz, hl, hroom, Go.VL.run_typeInfo hi]
  have hm : ¬ (9223372036854775807 < (n : Int) + (m : Int) ∧ i.bytes = 0) := by omega
  have hb' : ¬ (281474976710656 < Builtin.nextslicecap (n + m) c * i.bytes) := by omega
  rw [if_neg hm, if_neg hb', hq]
  simp [hos, hxs, run_zeroValue hi hzv, newRow]
  rfl
end

set_option maxHeartbeats 4000000 in
set_option maxRecDepth 100000 in
theorem insEnd (base : Option Addr) (n c vb voff m vc : Nat) (w w' : World) (v' : Value) (hm : 0 < m) (hrun : ∀ ty, (Builtin.append_ #[72, 72] ty #[.slice base n c, .slice (some ⟨vb, voff, none⟩) m vc]).run Try.prog w = .ok v' w') :
    Calls Try.prog 37 #[.slice base n c, .int .i64 n, .slice (some ⟨vb, voff, none⟩) m vc] w fun e W => e = .returned v' ∧ W = w' := by
  have mixed : Try.prog.follows .mixedOrders = true := by kernel_rfl
  have hz1 : ¬ ((m : Int) = 0) := by omega
  go_enter Try.func37, Try.ntmps37
  cases base with
  | none =>
    go_wp2_with (at_builtin; refine Lib.wpList_append_run _ rfl _ _ _ _ rfl _ _ rfl rfl _ _ (hrun _) ?_)
    go_ret
    exact ⟨rfl, rfl⟩
  | some a =>
    obtain ⟨ab, ao, asp⟩ := a
    go_wp2_with (at_builtin; refine Lib.wpList_append_run _ rfl _ _ _ _ rfl _ _ rfl rfl _ _ (hrun _) ?_)
    all_goals (go_ret; exact ⟨rfl, rfl⟩)
end Go.Proofs

namespace Go.VL
open Go Go.Proofs

theorem setCells_ok : ∀ (vs : List Value) (w : World) (b o : Nat) (c : Array Value) (e : TypeId) (z : Nat × Nat), w.heap[b]? = some (.cells c e z) → o + vs.length ≤ c.size →
    But (some b) w (w.setCells b o vs) ∧ ∃ c' : Array Value, (w.setCells b o vs).heap[b]? = some (.cells c' e z) ∧ c'.toList = c.toList.take o ++ vs ++ c.toList.drop (o + vs.length)
  | [], w, b, o, c, e, z, h, _ => ⟨.refl _ _, c, h, by simp⟩
  | v :: vs, w, b, o, c, e, z, h, hs => by
    simp only [List.length_cons] at hs
    have hlt : o < c.size := by omega
    obtain ⟨h1, c', h2, h3⟩ := setCells_ok vs (w.setCell ⟨b, o, none⟩ v) b (o + 1) _ e z (setCell_heap h v) (by simp; omega)
    refine ⟨(setCell_but w b o v).trans h1, c', h2, ?_⟩
    rw [h3, Array.toList_setIfInBounds, List.take_succ_eq_append_getElem (by simpa using hlt), List.take_set_of_le (Nat.le_refl _), List.drop_set_of_lt (by omega)]
    simp only [List.getElem_set_self, List.append_assoc, List.cons_append, List.nil_append, List.length_cons]
    rw [show o + 1 + vs.length = o + (vs.length + 1) from by omega]

theorem frep_nil {γ : G} {σ : St} {w : World} : FRep γ σ ⟨[], []⟩ ⟨#[], []⟩ w (fun _ => 0) := by
  refine ⟨fun t => ?_, fun k cs hk => ?_, fun a b c d h => ?_⟩
  · simp [sget, SRep, Rep]
  · simp [lget] at hk
  · simp [lget] at h

/-- A slice whose block is an object, or a nil one. -/
def RowOf (σ : St) (s : V) (z : Nat) (es : List (List V)) : Prop :=
  (∃ R q, s = .sl true R q [] ∧ es = []) ∨ ∃ j cap, s = .osl j es.length cap z ∧ σ.objs[j]? = some (.row cap z es.flatten) ∧ (∀ x ∈ es, x.length = z) ∧ es.length ≤ cap
/-- What is done to the objects. -/
def RowTo (σ : St) (s : V) (σ' : St) : Prop :=
  σ'.live = σ.live ∧ σ.objs.length ≤ σ'.objs.length ∧ ∀ (k : Nat) (o : AObj), (∀ n cap z, s ≠ .osl k n cap z) → σ.objs[k]? = some o → σ'.objs[k]? = some o

section
variable {γ : G} {σ : St} {w w' : World}
/-- A new row. -/
theorem row_new (hi : INV γ σ w) (hb : But none w w') {c : Array Value} {e : TypeId} {s : V} {z n cap : Nat} {es : List (List V)} {vs : List Value} (hw : w'.heap[w.heap.size]? = some (.cells c e (0, 0)))
    (hvs : ∀ (j : Nat) (v : Value), vs[j]? = some v → c[j]? = some v) (hr : RepL γ es.flatten vs) (h1 : ∀ v ∈ vs, v.oneCell' = true) (hc : cap * z ≤ c.size ∧ cap ≤ 9223372036854775807) (hz : ∀ x ∈ es, x.length = z) (hn : es.length = n) (hcap : n ≤ cap) (hfl : es.flatten.length ≤ cap * z) :
    ∃ v x σ' γ', Ending.returned (.slice (some ⟨w.heap.size, 0, none⟩) n cap) = .returned v ∧ Le γ γ' ∧ INV γ' σ' w' ∧ Rep γ' x v ∧ (RowOf σ' x z es ∧ RowTo σ s σ' ∧ ∃ j cap, x = .osl j n cap z ∧ ((∃ n' cap', s = .osl j n' cap' z) ∨ σ.objs.length ≤ j)) := by
  subst hn
  have hle : LeR γ { γ with mu := γ.mu ++ [w.heap.size] } := ⟨fun i c hi => by
    show (γ.mu ++ [_])[i]? = some c
    rw [List.getElem?_append_left (List.getElem?_eq_some_iff.1 hi).1]; exact hi, fun _ _ x => x, fun _ _ _ x => x⟩
  obtain ⟨h2, h3⟩ := hi.newObj hb (Nat.le_refl _) (sn := γ.snap) (fun _ _ _ x => x) (fun _ _ _ => rfl) (ob := .row cap z es.flatten)
    ⟨vs, c, e, (0, 0), hw, hvs, RepL.mono hle _ _ hr, hc, hfl, fun j _ => by omega, h1⟩
  refine ⟨_, .osl σ.objs.length es.length cap z, _, _, rfl, h3, h2, ?_, .inr ⟨_, cap, rfl, by simp, hz, hcap⟩, ⟨rfl, by simp, fun k o _ hk => ?_⟩, _, _, rfl, .inr (Nat.le_refl _)⟩
  · simp only [Rep]
    exact ⟨w.heap.size, by rw [← hi.mulen]; simp, rfl⟩
  · show (σ.objs ++ [_])[k]? = some o
    rw [List.getElem?_append_left (List.getElem?_eq_some_iff.1 hk).1]; exact hk
/-- A row in its place. -/
theorem row_set (hi : INV γ σ w) {j b : Nat} (hmu : γ.mu[j]? = some b) (hj : j < σ.objs.length) (hb : But (some b) w w') {c : Array Value} {e : TypeId} {q : Nat × Nat} {z n n0 cap : Nat} {es : List (List V)} {vs : List Value} (hw : w'.heap[b]? = some (.cells c e q))
    (hvs : ∀ (j : Nat) (v : Value), vs[j]? = some v → c[j]? = some v) (hr : RepL γ es.flatten vs) (h1 : ∀ v ∈ vs, v.oneCell' = true) (hc : cap * z ≤ c.size ∧ cap ≤ 9223372036854775807) (hq : ∀ j, j < cap * z → ¬ (q.1 ≤ j ∧ j < q.2)) (hz : ∀ x ∈ es, x.length = z) (hn : es.length = n) (hcap : n ≤ cap) (hfl : es.flatten.length ≤ cap * z) :
    ∃ v x σ' γ', Ending.returned (.slice (some ⟨b, 0, none⟩) n cap) = .returned v ∧ Le γ γ' ∧ INV γ' σ' w' ∧ Rep γ' x v ∧ (RowOf σ' x z es ∧ RowTo σ (.osl j n0 cap z) σ' ∧ ∃ j' cap', x = .osl j' n cap' z ∧ ((∃ n' cap'', V.osl j n0 cap z = .osl j' n' cap'' z) ∨ σ.objs.length ≤ j')) := by
  subst hn
  obtain ⟨h2, -⟩ := setObj_ok hi (frep_nil) hmu hb (ob := .row cap z es.flatten) (sn := γ.snap) (fun _ _ _ x => x) (fun _ _ _ => rfl) (fun c n x hx => Nat.lt_of_lt_of_le (hi.snapb c n x hx) hb.size) ⟨vs, c, e, q, hw, hvs, hr, hc, hfl, hq, h1⟩
  refine ⟨_, .osl j es.length cap z, _, γ, rfl, .refl γ, h2, ?_, .inr ⟨j, cap, rfl, by simp [hj], hz, hcap⟩, ⟨rfl, by simp, fun k o hk ho => ?_⟩, _, _, rfl, .inl ⟨_, _, rfl⟩⟩
  · simp only [Rep]
    exact ⟨b, hmu, rfl⟩
  · show (σ.objs.set j _)[k]? = some o
    rw [List.getElem?_set_ne (fun e => hk n0 cap z (by rw [e]))]; exact ho
end
end Go.VL

namespace Go.VL
open Go Go.Proofs

theorem flat_take {z : Nat} : ∀ {es : List (List V)} (i : Nat), (∀ x ∈ es, x.length = z) → (es.take i).flatten = es.flatten.take (i * z)
  | [], i, _ => by simp
  | x :: es, 0, _ => by simp
  | x :: es, i + 1, h => by
    have hx := h x (by simp)
    have e : (i + 1) * z = z + i * z := by rw [Nat.succ_mul, Nat.add_comm]
    rw [List.take_succ_cons, List.flatten_cons, List.flatten_cons, flat_take i fun y hy => h y (by simp [hy]), e, List.take_append, hx, List.take_of_length_le (l := x) (by omega), show z + i * z - z = i * z by omega]
theorem flat_drop {z : Nat} : ∀ {es : List (List V)} (i : Nat), (∀ x ∈ es, x.length = z) → (es.drop i).flatten = es.flatten.drop (i * z)
  | [], i, _ => by simp
  | x :: es, 0, _ => by simp
  | x :: es, i + 1, h => by
    have hx := h x (by simp)
    have e : (i + 1) * z = z + i * z := by rw [Nat.succ_mul, Nat.add_comm]
    rw [List.drop_succ_cons, List.flatten_cons, flat_drop i fun y hy => h y (by simp [hy]), e, List.drop_append, hx, List.drop_of_length_le (l := x) (by omega), List.nil_append, show z + i * z - z = i * z by omega]
theorem flat_len' {z : Nat} : ∀ {es : List (List V)}, (∀ x ∈ es, x.length = z) → es.flatten.length = es.length * z
  | [], _ => by simp
  | x :: es, h => by
    rw [List.flatten_cons, List.length_append, h x (by simp), flat_len' fun y hy => h y (by simp [hy]), List.length_cons, Nat.succ_mul, Nat.add_comm]
theorem prefix_eq {c : Array Value} {vs : List Value} (h : ∀ (j : Nat) (v : Value), vs[j]? = some v → c[j]? = some v) : c.toList = vs ++ c.toList.drop vs.length := by
  have : c.toList.take vs.length = vs := by
    apply List.ext_getElem?
    intro j
    rw [List.getElem?_take]
    split
    · rename_i hj
      rw [List.getElem?_eq_getElem hj]
      simpa using h j _ (List.getElem?_eq_getElem hj)
    · rename_i hj
      rw [List.getElem?_eq_none (by omega)]
  conv => lhs; rw [← List.take_append_drop vs.length c.toList, this]
theorem eq_prefix {c : Array Value} {vs r : List Value} (h : c.toList = vs ++ r) (j : Nat) (v : Value) (hj : vs[j]? = some v) : c[j]? = some v := by
  have h1 := (List.getElem?_eq_some_iff.1 hj).1
  have : c.toList[j]? = some v := by rw [h, List.getElem?_append_left h1]; exact hj
  simpa using this
theorem but_new {w w' : World} (h : But (some w.heap.size) w w') : But none w w' :=
  ⟨h.os, h.tape, h.out, h.size, fun k o _ hk => h.heap k o (fun e => by cases e; exact absurd (Array.getElem?_eq_some_iff.1 hk).1 (Nat.lt_irrefl _)) hk, h.drn⟩
theorem mid_eq {l vs x : List Value} (h : l = vs ++ l.drop vs.length) (a b : Nat) (hab : b = a + 14) (ha : a ≤ vs.length) (hl : vs.length + 14 ≤ l.length) :
    List.take a (l.take b ++ vs.drop a ++ l.drop (b + (vs.drop a).length)) ++ x ++ List.drop b (l.take b ++ vs.drop a ++ l.drop (b + (vs.drop a).length)) = vs.take a ++ x ++ vs.drop a ++ l.drop (b + (vs.drop a).length) := by
  have hb : b ≤ l.length := by omega
  have e1 : List.take a (l.take b ++ vs.drop a ++ l.drop (b + (vs.drop a).length)) = vs.take a := by
    rw [List.append_assoc, List.take_append_of_le_length (by simp; omega), List.take_take, Nat.min_eq_left (by omega)]
    conv => lhs; rw [h]
    rw [List.take_append_of_le_length ha]
  have e2 : List.drop b (l.take b ++ vs.drop a ++ l.drop (b + (vs.drop a).length)) = vs.drop a ++ l.drop (b + (vs.drop a).length) := by
    rw [List.append_assoc, List.drop_append_of_le_length (by simp; omega), List.drop_of_length_le (by rw [List.length_take]; omega), List.nil_append]
  rw [e1, e2]
  simp [List.append_assoc]

section
variable {σ : St} {s : V} {es : List (List V)} {i r : Nat} {x : List V}
set_option maxHeartbeats 1000000 in
theorem ins_ok (hs : RowOf σ s 14 es) (hin : i ≤ es.length) (hlen : es.length ≤ 100000000) (hlive : σ.live[r]? = some true) (hx : x.length = 14) :
    CallA Try.prog 37 [s, .int .i64 i, .sl false (.own r) 14 [x]] σ fun v σ' => RowOf σ' v 14 (es.take i ++ x :: es.drop i) ∧ RowTo σ s σ' ∧ ∃ j cap, v = .osl j (es.length + 1) cap 14 ∧ ((∃ n' cap', s = .osl j n' cap' 14) ∨ σ.objs.length ≤ j) := by
  refine ⟨⟨Try.f37, Try.func37, rfl, by kernel_rfl⟩, fun γ w vs hi hr => ?_⟩
  simp only [RepL] at hr
  obtain ⟨v1, _, rfl, hv1, v2, _, rfl, hv2, v3, _, rfl, hv3, rfl⟩ := hr
  simp only [Rep] at hv2 hv3
  subst hv2
  obtain ⟨a, cap3, rfl, hsp, hcap3, hrho⟩ := hv3
  obtain ⟨vb, voff, sp⟩ := a
  simp only at hsp
  subst hsp
  obtain ⟨a', cap', e0, -, h3, h4, h5, h6, c3, e3, z3, vs3, h7, h8, h9, ⟨h10, h12⟩, h11⟩ := hi.own _ _ _ _ hlive hrho
  cases e0
  simp only [List.length_cons, List.length_nil, Nat.zero_add] at h3 h4 h5 h6 h7 h8 h10 h11 hcap3
  have hvl : vs3.length = 14 := by have := h9.length; simpa using this
  have hx3 : RepL γ x vs3 := by have := h9.flat.1; simpa using this
  have h1v := h9.one
  have hvs : ∀ (j : Nat) (v : Value), vs3[j]? = some v → w.cell? ⟨vb, voff + j, none⟩ = some v := fun j v hj => by rw [cell_of_heap h7]; exact h8 j v hj
  have hfr : ∀ (w' : World), w'.heap = w.heap → (Builtin.firstCells 14 1 (.slice (some ⟨vb, voff, none⟩) 1 cap3)).run Try.prog w' = .ok vs3.toArray w' := fun w' hw' => by
    have hc7 : w'.heap[vb]? = some (.cells c3 e3 z3) := by rw [hw']; exact h7
    simp only [Builtin.firstCells]
    rw [run_loadCells (P := Try.prog) (w := w') (vs := vs3) (fun j v hj => by rw [cell_of_heap hc7]; exact h8 j v hj) (by omega), List.take_of_length_le (by omega)]
  obtain ⟨zv, hzv⟩ : ∃ zv, Try.t71.zero = some zv := Option.isSome_iff_exists.1 (by kernel_rfl)
  have hi71 : Try.prog.info? 71 = some Try.t71 := by kernel_rfl
  have hsz71 : Try.t71.size = 14 := by kernel_rfl
  have hby71 : Try.t71.bytes ≤ 65536 := by decide +kernel
  have hl3 : (Builtin.lenOf (.slice (some ⟨vb, voff, none⟩) 1 cap3)).run Try.prog w = .ok 1 w := by simp [Builtin.lenOf]
  have hzc : zv.cells.size = 14 := by
    have h2 : (Try.t71.zero.map fun z => z.cells.size) = some 14 := by kernel_rfl
    rw [hzv] at h2
    simpa using h2
  -- a new block behind append
  have grow : ∀ (base : Option Addr) (cp : Nat) (os : List Value), i = es.length → (Builtin.firstCells 14 es.length (.slice base es.length cp)).run Try.prog w.drew = .ok os.toArray w.drew → RepL γ es.flatten os → (∀ v ∈ os, v.oneCell' = true) → (∀ y ∈ es, y.length = 14) → ¬ es.length + 1 ≤ cp →
      Calls Try.prog 37 #[.slice base es.length cp, .int .i64 i, .slice (some ⟨vb, voff, none⟩) 1 cap3] w fun e w' => ∃ v x' σ' γ', e = .returned v ∧ Le γ γ' ∧ INV γ' σ' w' ∧ Rep γ' x' v ∧ (RowOf σ' x' 14 (es.take i ++ x :: es.drop i) ∧ RowTo σ s σ' ∧ ∃ j cap, x' = .osl j (es.length + 1) cap 14 ∧ ((∃ n' cap', s = .osl j n' cap' 14) ∨ σ.objs.length ≤ j)) := by
    intro base cp os hie hos hros hone hz hroom
    subst hie
    obtain ⟨nc, hnc, hnc2, hrun⟩ := run_appK_grow (P := Try.prog) (w := w) (t := 72) (ty := 72) Try.underlying72 hi71 hzv hby71 hl3 (by rw [hsz71]; exact hfr _ rfl) (by rw [hsz71]; exact hos) hroom (by omega)
    refine (insEnd base es.length cp vb voff 1 cap3 w _ _ (by omega) hrun).mono ?_
    rintro e w' ⟨rfl, rfl⟩
    have hol := hros.length
    have hfl := flat_len' hz
    have hes : (es.take es.length ++ x :: es.drop es.length).flatten = es.flatten ++ x := by simp
    refine row_new (s := s) hi ((But.drew w).trans (.push w.drew _)) (heap_push w.drew _) (vs := os ++ vs3) (fun j v hj => ?_) (by rw [hes]; exact hros.append hx3) (fun v hv => ?_) ?_ (fun y hy => ?_) (by simp) hnc ?_
    · exact eq_prefix (r := (Builtin.zeroCells zv.cells (nc - (es.length + 1))).toList) (by simp) j v hj
    · rcases List.mem_append.1 hv with hv | hv
      · exact hone v hv
      · exact h1v v hv
    · refine ⟨?_, hnc2⟩
      simp only [Array.size_append, List.size_toArray, zeroCells_size, hzc]
      omega
    · simp only [List.take_length, List.drop_length, List.mem_append, List.mem_singleton] at hy
      rcases hy with hy | hy
      · exact hz y hy
      · rw [hy]; exact hx
    · rw [hes, List.length_append, hfl, hx]; omega
  rcases hs with ⟨R, q, rfl, rfl⟩ | ⟨j, cap, rfl, ho, hz, hcap⟩
  · simp only [Rep] at hv1
    obtain ⟨-, rfl⟩ := hv1
    have hi0 : i = 0 := by simpa using hin
    subst hi0
    exact grow none 0 [] rfl (by simp [Builtin.firstCells]) (by simp [RepL]) (by simp) (by simp) (by simp)
  simp only [Rep] at hv1
  obtain ⟨b, hb, rfl⟩ := hv1
  obtain ⟨p1, p2, vs, c, e, z, k1, k2, k3, k4, k5, k6, k7⟩ := hi.objs _ _ _ hb ho
  have hfl := flat_len' hz
  have hvsl : vs.length = es.length * 14 := by rw [← k3.length, hfl]
  have hold : (Builtin.firstCells 14 es.length (.slice (some ⟨b, 0, none⟩) es.length cap)).run Try.prog w.drew = .ok vs.toArray w.drew := by
    have hc7 : w.drew.heap[b]? = some (.cells c e z) := k1
    simp only [Builtin.firstCells]
    rw [run_loadCells (P := Try.prog) (w := w.drew) (vs := vs) (fun j v hj => by rw [cell_of_heap hc7, Nat.zero_add]; exact k2 j v hj) (by omega), List.take_of_length_le (by omega)]
  by_cases hie : i = es.length
  · by_cases hroom : es.length + 1 ≤ cap
    · subst hie
      obtain ⟨w', r1, r2, c', r3, r4⟩ := run_storeCells (P := Try.prog) vs3 w b (0 + es.length * Try.t71.size) 0 c e z k1 (by rw [hsz71]; omega) (fun q h1 h2 => k6 q (by rw [hsz71] at h2; omega)) h1v
      refine (insEnd (some ⟨b, 0, none⟩) es.length cap vb voff 1 cap3 w _ _ (by omega) fun ty => run_appK_room (P := Try.prog) (ty := ty) Try.underlying72 hi71 hl3 (by rw [hsz71]; exact hfr w rfl) hroom r1).mono ?_
      rintro e' W ⟨rfl, rfl⟩
      have hes : (es.take es.length ++ x :: es.drop es.length).flatten = es.flatten ++ x := by simp
      have hcv := prefix_eq k2
      rw [hsz71, Nat.zero_add, Nat.add_zero, ← hvsl] at r4
      have hpre : c'.toList = (vs ++ vs3) ++ c.toList.drop (vs.length + vs3.length) := by
        rw [r4]
        conv => lhs; rw [hcv]
        simp
        try rw [← hcv]
      have hsize : c'.size = c.size := by
        have := congrArg List.length r4
        simp only [Array.length_toList, List.length_append, List.length_take, List.length_drop] at this
        omega
      have hjl : j < σ.objs.length := (List.getElem?_eq_some_iff.1 ho).1
      refine row_set (n0 := es.length) hi hb hjl r2 r3 (vs := vs ++ vs3) (fun q v hq => eq_prefix hpre q v hq) (by rw [hes]; exact k3.append hx3) (fun v hv => ?_) ⟨by rw [hsize]; exact k4.1, k4.2⟩ k6 (fun y hy => ?_) (by simp) hroom ?_
      · rcases List.mem_append.1 hv with hv | hv
        · exact k7 v hv
        · exact h1v v hv
      · simp only [List.take_length, List.drop_length, List.mem_append, List.mem_singleton] at hy
        rcases hy with hy | hy
        · exact hz y hy
        · rw [hy]; exact hx
      · rw [hes, List.length_append, hfl, hx]; omega
    · exact grow (some ⟨b, 0, none⟩) cap vs hie hold k3 k7 hz hroom
  · have hlt : i < es.length := by omega
    have hbv : vb ≠ b := fun h => h6 (h ▸ mem_of_get hb)
    have hl13 : vs3.length = 1 * 14 := by omega
    have hfes : (es.take i ++ x :: es.drop i).flatten = es.flatten.take (i * 14) ++ x ++ es.flatten.drop (i * 14) := by
      rw [List.flatten_append, List.flatten_cons, flat_take i hz, flat_drop i hz, List.append_assoc]
    have hnes : (es.take i ++ x :: es.drop i).length = es.length + 1 := by simp; omega
    have hzes : ∀ y ∈ es.take i ++ x :: es.drop i, y.length = 14 := fun y hy => by
      rcases List.mem_append.1 hy with hy | hy
      · exact hz y (List.mem_of_mem_take hy)
      · rcases List.mem_cons.1 hy with hy | hy
        · rw [hy]; exact hx
        · exact hz y (List.mem_of_mem_drop hy)
    have hc0 : ∀ (q : Nat) (v : Value), vs[q]? = some v → w.cell? ⟨b, 0 + q, none⟩ = some v := fun q v hq => by rw [cell_of_heap k1, Nat.zero_add]; exact k2 q v hq
    by_cases hroom : es.length + 1 ≤ cap
    · have hcs : (es.length + 1) * 14 ≤ c.size := by have := k4.1; omega
      have hsh := insShift b 0 es.length cap i vb voff 1 cap3 vs vs3 w hlt (by omega) hroom k4.2 hbv hvsl hl13 hc0
        (fun q hq => by rw [cell_of_heap k1, Nat.zero_add, Array.getElem?_eq_getElem (by omega)]; rfl)
        (fun q hq => by have := k6 q (by omega); simp only [World.frozen?, k1, Nat.zero_add, Bool.and_eq_false_iff, decide_eq_false_iff_not]; omega)
        hvs k7 h1v e3 e c3.size c.size (by simp [World.shape?, h7]) (by simp [World.shape?, k1]) (by omega)
        (by have := h11 voff (by omega) (by omega); simp only [World.frozen?, h7, Bool.and_eq_false_iff, decide_eq_false_iff_not]; omega)
        (by have := h12.resolve_right (by decide); simp only [World.frozen?, h7, Bool.and_eq_false_iff, decide_eq_false_iff_not]; omega)
      refine hsh.mono ?_
      rintro e' W ⟨rfl, rfl⟩
      have hvd : (vs.drop (i * 14)).length = vs.length - i * 14 := List.length_drop
      obtain ⟨b1, c1, r1, r2⟩ := setCells_ok (vs.drop (i * 14)) w.drew b (0 + (i + 1) * 14) c e z k1 (by rw [hvd]; omega)
      have hs1 : c1.size = c.size := by
        have := congrArg List.length r2
        simp only [Array.length_toList, List.length_append, List.length_take, List.length_drop] at this
        omega
      obtain ⟨b2, c2, r3, r4⟩ := setCells_ok vs3 _ b (0 + i * 14) c1 e z r1 (by rw [hvl, hs1]; omega)
      have hs2 : c2.size = c.size := by
        have := congrArg List.length r4
        simp only [Array.length_toList, List.length_append, List.length_take, List.length_drop] at this
        omega
      have hcv := prefix_eq k2
      have hE := mid_eq (l := c.toList) (vs := vs) (x := vs3) hcv (i * 14) ((i + 1) * 14) (by omega) (by omega) (by simp only [Array.length_toList]; omega)
      rw [Nat.zero_add] at r2 r4
      rw [r2, show i * 14 + vs3.length = (i + 1) * 14 from by omega, hE] at r4
      have hjl : j < σ.objs.length := (List.getElem?_eq_some_iff.1 ho).1
      refine row_set (n0 := es.length) hi hb hjl (((But.drew w).some _).trans (b1.trans b2)) r3 (vs := vs.take (i * 14) ++ vs3 ++ vs.drop (i * 14)) (fun q v hq => eq_prefix r4 q v hq) (by rw [hfes]; exact (k3.take.append hx3).append k3.drop) (fun v hv => ?_) ⟨by rw [hs2]; exact k4.1, k4.2⟩ k6 hzes hnes hroom ?_
      · rcases List.mem_append.1 hv with hv | hv
        · rcases List.mem_append.1 hv with hv | hv
          · exact k7 v (List.mem_of_mem_take hv)
          · exact h1v v hv
        · exact k7 v (List.mem_of_mem_drop hv)
      · rw [hfes]; simp only [List.length_append, List.length_take, List.length_drop, hfl, hx]; omega
    · have hgr := insGrow b 0 es.length cap i vb voff 1 cap3 vs vs3 w hlt (by omega) hcap (by omega) (by omega) hvsl hl13 hc0 hvs k7 h1v zv hzv
      refine hgr.mono ?_
      rintro e' W ⟨rfl, rfl⟩
      have hG := grownCap_ge w (es.length + 1) cap 71
      have hG63 := grownCap_le_maxLen w (es.length + 1) cap 71 (by unfold maxLen; omega)
      unfold maxLen at hG63
      generalize grownCap w (es.length + 1) cap 71 = G at hG hG63
      obtain ⟨ROW, hROW⟩ : ∃ ROW : Array Value, ROW = (vs.take (i * 14)).toArray ++ Builtin.zeroCells zv.cells (es.length + 1 - i) ++ Builtin.zeroCells zv.cells (G - (es.length + 1)) := ⟨_, rfl⟩
      rw [← hROW]
      have hRs : ROW.size = G * 14 := by
        rw [hROW]
        simp only [Array.size_append, List.size_toArray, List.length_take, zeroCells_size, hzc]
        omega
      have hRt : ROW.toList.take (i * 14) = vs.take (i * 14) := by
        rw [hROW, Array.toList_append, Array.toList_append, List.append_assoc, List.take_append_of_le_length (by simp only [List.length_take]; omega), List.take_of_length_le (by simp only [List.length_take]; omega)]
      obtain ⟨b1, c1, r1, r2⟩ := setCells_ok vs3 (w.alloc (.cells ROW 71)).drew w.heap.size (i * 14) ROW 71 (0, 0) (heap_push w _) (by rw [hvl, hRs]; omega)
      have hs1 : c1.size = ROW.size := by
        have := congrArg List.length r2
        simp only [Array.length_toList, List.length_append, List.length_take, List.length_drop] at this
        omega
      have hvd : (vs.drop (i * 14)).length = vs.length - i * 14 := List.length_drop
      obtain ⟨b2, c2, r3, r4⟩ := setCells_ok (vs.drop (i * 14)) (((w.alloc (.cells ROW 71)).drew.setCells w.heap.size (i * 14) vs3).drew) w.heap.size ((i + 1) * 14) c1 71 (0, 0) r1 (by rw [hvd, hs1, hRs]; omega)
      have hs2 : c2.size = ROW.size := by
        have := congrArg List.length r4
        simp only [Array.length_toList, List.length_append, List.length_take, List.length_drop] at this
        omega
      rw [hRt] at r2
      have hT : c1.toList.take ((i + 1) * 14) = vs.take (i * 14) ++ vs3 := by
        rw [r2, List.take_append_of_le_length (by simp only [List.length_append, List.length_take]; omega), List.take_of_length_le (by simp only [List.length_append, List.length_take]; omega)]
      rw [hT] at r4
      have hbut : But none w ((((w.alloc (.cells ROW 71)).drew.setCells w.heap.size (i * 14) vs3).drew).setCells w.heap.size ((i + 1) * 14) (vs.drop (i * 14))) := by
        have h1 : But (some w.heap.size) w ((((w.alloc (.cells ROW 71)).drew.setCells w.heap.size (i * 14) vs3).drew).setCells w.heap.size ((i + 1) * 14) (vs.drop (i * 14))) :=
          (((But.push w _).trans (But.drew _)).some _).trans (b1.trans (((But.drew _).some _).trans b2))
        exact but_new h1
      refine row_new (s := .osl j es.length cap 14) hi hbut r3 (vs := vs.take (i * 14) ++ vs3 ++ vs.drop (i * 14)) (fun q v hq => eq_prefix r4 q v hq) (by rw [hfes]; exact (k3.take.append hx3).append k3.drop) (fun v hv => ?_) ⟨by rw [hs2, hRs]; exact Nat.le_refl _, hG63⟩ hzes hnes (by omega) ?_
      · rcases List.mem_append.1 hv with hv | hv
        · rcases List.mem_append.1 hv with hv | hv
          · exact k7 v (List.mem_of_mem_take hv)
          · exact h1v v hv
        · exact k7 v (List.mem_of_mem_drop hv)
      · rw [hfes]; simp only [List.length_append, List.length_take, List.length_drop, hfl, hx]; omega
end
end Go.VL

namespace Go.VL.mov
open Go Go.VL Go.Proofs Go.IntWalk

def plC (p : Pl) : List V := [.int .i64 p.n.c, .int .i64 p.n.r, .int .i64 p.p.c, .int .i64 p.p.r, .int .i64 p.s.c, .int .i64 p.s.r]
def plV (p : Pl) : V := .agg (plC p)
def mvC (m : Mv) : List V := [.int .i64 m.a.c, .int .i64 m.a.r, .int .i64 m.n.c, .int .i64 m.n.r, .int .i64 m.p.c, .int .i64 m.p.r, .bool m.k, .int .i64 m.w.n.c, .int .i64 m.w.n.r, .int .i64 m.w.p.c, .int .i64 m.w.p.r, .int .i64 m.w.s.c, .int .i64 m.w.s.r, .bool m.t]
theorem pl_iff {a b : Pl} : a = b ↔ a.n = b.n ∧ a.p = b.p ∧ a.s = b.s := by
  cases a; cases b; simp
theorem pl_eqs (a b : Pl) : V.eqs [.int .i64 a.n.c, .int .i64 a.n.r, .int .i64 a.p.c, .int .i64 a.p.r, .int .i64 a.s.c, .int .i64 a.s.r] [.int .i64 b.n.c, .int .i64 b.n.r, .int .i64 b.p.c, .int .i64 b.p.r, .int .i64 b.s.c, .int .i64 b.s.r] = decide (a = b) := by
  rw [Bool.eq_iff_iff]
  simp [V.eqs, V.eq, pl_iff, sp_iff, and_assoc]

/-- A map's entries. -/
abbrev Tl := List (Sp × Pl)
def entsT (T : Tl) : List (V × V) := T.map fun x => (spV x.1, plV x.2)
def lookT (x : Sp) : Tl → Option Pl
  | [] => none
  | y :: T => bif decide (x = y.1) then some y.2 else lookT x T
def updT (x : Sp) (p : Pl) : Tl → Tl
  | [] => [(x, p)]
  | y :: T => bif decide (x = y.1) then (x, p) :: T else y :: updT x p T
def delT (x : Sp) : Tl → Tl
  | [] => []
  | y :: T => bif decide (x = y.1) then T else y :: delT x T
theorem key_eq (a b : Sp) : V.eq (.agg [.int .i64 a.c, .int .i64 a.r]) (spV b) = decide (a = b) := by
  simp only [spV, spC, V.eq, sp_eqs]
theorem find_T (x : Sp) : ∀ T : Tl, find (.agg [.int .i64 x.c, .int .i64 x.r]) (entsT T) = (lookT x T).map plV
  | [] => rfl
  | y :: T => by
    have ih := find_T x T
    simp only [entsT] at ih
    simp only [entsT, List.map_cons, find, key_eq, lookT, ih]
    cases decide (x = y.1) <;> rfl
theorem upd_T (x : Sp) (p : Pl) : ∀ T : Tl, upd (.agg [.int .i64 x.c, .int .i64 x.r]) (plV p) (entsT T) = entsT (updT x p T)
  | [] => rfl
  | y :: T => by
    have ih := upd_T x p T
    simp only [entsT] at ih
    simp only [entsT, List.map_cons, upd, key_eq, updT, ih]
    cases decide (x = y.1) <;> rfl
theorem del_T (x : Sp) : ∀ T : Tl, del (.agg [.int .i64 x.c, .int .i64 x.r]) (entsT T) = entsT (delT x T)
  | [] => rfl
  | y :: T => by
    have ih := del_T x T
    simp only [entsT] at ih
    simp only [entsT, List.map_cons, del, key_eq, delT, ih]
    cases decide (x = y.1) <;> rfl
/-- A list says what a tree says. -/
structure RepT (T : Tl) (W : Tr) : Prop where
  nd : (T.map (·.1)).Nodup
  look : ∀ x, lookT x T = W x
theorem lookT_mem {x : Sp} : ∀ {T : Tl}, lookT x T = none ↔ x ∉ T.map (·.1)
  | [] => by simp [lookT]
  | y :: T => by
    simp only [lookT, List.map_cons, List.mem_cons, not_or]
    by_cases h : x = y.1
    · simp [h]
    · simp only [h, decide_false, cond_false, lookT_mem (T := T), not_false_eq_true, true_and]
theorem updT_keys (x : Sp) (p : Pl) : ∀ T : Tl, (updT x p T).map (·.1) = if x ∈ T.map (·.1) then T.map (·.1) else T.map (·.1) ++ [x]
  | [] => by simp [updT]
  | y :: T => by
    simp only [updT]
    by_cases h : x = y.1
    · simp [h]
    · simp only [h, decide_false, cond_false, List.map_cons, updT_keys x p T, List.mem_cons, false_or]
      split <;> simp
theorem updT_look (x : Sp) (p : Pl) (z : Sp) : ∀ T : Tl, lookT z (updT x p T) = if z = x then some p else lookT z T
  | [] => by
    simp only [updT, lookT]
    by_cases h : z = x <;> simp [h]
  | y :: T => by
    simp only [updT]
    by_cases h : x = y.1
    · simp only [h, decide_true, cond_true, lookT]
      by_cases hz : z = y.1 <;> simp [hz]
    · simp only [h, decide_false, cond_false, lookT, updT_look x p z T]
      by_cases hz : z = y.1
      · have : z ≠ x := fun e => h (e ▸ hz)
        simp [hz, Ne.symm h]
      · simp [hz]
theorem delT_keys (x : Sp) : ∀ T : Tl, ((delT x T).map (·.1)).Sublist (T.map (·.1))
  | [] => .slnil
  | y :: T => by
    simp only [delT]
    by_cases h : x = y.1
    · simp only [h, decide_true, cond_true, List.map_cons]; exact List.sublist_cons_self _ _
    · simp only [h, decide_false, cond_false, List.map_cons]; exact (delT_keys x T).cons_cons _
theorem delT_look (x : Sp) (z : Sp) : ∀ T : Tl, (T.map (·.1)).Nodup → lookT z (delT x T) = if z = x then none else lookT z T
  | [], _ => by simp [delT, lookT]
  | y :: T, hn => by
    rw [List.map_cons, List.nodup_cons] at hn
    simp only [delT]
    by_cases h : x = y.1
    · simp only [h, decide_true, cond_true, lookT]
      by_cases hz : z = y.1
      · rw [if_pos hz, hz]; exact lookT_mem.2 hn.1
      · simp [hz]
    · simp only [h, decide_false, cond_false, lookT, delT_look x z T hn.2]
      by_cases hz : z = y.1
      · simp [hz, Ne.symm h]
      · simp [hz]
theorem RepT.upd {T : Tl} {W : Tr} (h : RepT T W) (x : Sp) (p : Pl) : RepT (updT x p T) (put W x (some p)) := by
  refine ⟨?_, fun z => ?_⟩
  · rw [updT_keys]
    split
    · exact h.nd
    · rename_i hx
      rw [List.nodup_append]
      refine ⟨h.nd, by simp, fun a ha b hb e => hx ?_⟩
      rw [List.mem_singleton] at hb
      rw [← hb, ← e]; exact ha
  · rw [updT_look, h.look]; rfl
theorem RepT.del {T : Tl} {W : Tr} (h : RepT T W) (x : Sp) : RepT (delT x T) (put W x none) := by
  refine ⟨h.nd.sublist (delT_keys x T), fun z => ?_⟩
  rw [delT_look x z T h.nd, h.look]; rfl

abbrev KL : List LK := [.agg, .int .i64, .int .i64]
/-- A tree in memory. -/
structure IsTree (σ : St) (i m : Nat) (s : V) (D : List Mv) (W : Tr) : Prop where
  cells : σ.objs[i]? = some (.cells [s, .map (some m)])
  row : RowOf σ s 14 (D.map mvC)
  map : ∃ T ver, σ.objs[m]? = some (.mp KL (entsT T) ver) ∧ RepT T W
/-- The objects that are a tree's own. -/
def Own (i m : Nat) (s : V) (k : Nat) : Prop := k = i ∨ k = m ∨ ∃ n cap z, s = .osl k n cap z
/-- What is not of some objects stays. -/
structure UpdS (S : Nat → Prop) (σ τ : St) : Prop where
  objs : ∀ (j : Nat) (o : AObj), ¬ S j → σ.objs[j]? = some o → τ.objs[j]? = some o
  live : ∀ r : Nat, σ.live[r]? = some true → τ.live[r]? = some true
  olen : σ.objs.length ≤ τ.objs.length
  llen : σ.live.length ≤ τ.live.length
theorem UpdS.refl (S : Nat → Prop) (σ : St) : UpdS S σ σ := ⟨fun _ _ _ h => h, fun _ h => h, Nat.le_refl _, Nat.le_refl _⟩
theorem UpdS.trans {S S' : Nat → Prop} {a b c : St} (h : UpdS S a b) (k : UpdS S' b c) (hs : ∀ j, S' j → S j ∨ a.objs.length ≤ j) : UpdS S a c :=
  ⟨fun j o hj x => k.objs j o (fun h' => (hs j h').elim hj fun hl => by have := (List.getElem?_eq_some_iff.1 x).1; omega) (h.objs j o hj x), fun r x => k.live r (h.live r x), Nat.le_trans h.olen k.olen, Nat.le_trans h.llen k.llen⟩
theorem UpdS.of {S : Nat → Prop} {a b : St} (h : Ext a b) : UpdS S a b := ⟨fun j o _ x => h.objs j o x, h.live, h.olen, h.llen⟩
theorem UpdS.ext {a b : St} (h : UpdS (fun _ => False) a b) : Ext a b := ⟨fun j o x => h.objs j o (fun h => h) x, h.live, h.olen, h.llen⟩
theorem rowOf_up {S : Nat → Prop} {σ τ : St} {s : V} {z : Nat} {es : List (List V)} (h : RowOf σ s z es) (hu : UpdS S σ τ) (hs : ∀ k n cap z, s = .osl k n cap z → ¬ S k) : RowOf τ s z es := by
  rcases h with h | ⟨j, cap, rfl, h1, h2, h3⟩
  · exact .inl h
  · exact .inr ⟨j, cap, rfl, hu.objs _ _ (hs j _ _ _ rfl) h1, h2, h3⟩
theorem IsTree.up {S : Nat → Prop} {σ τ : St} {i m : Nat} {s : V} {D : List Mv} {W : Tr} (h : IsTree σ i m s D W) (hu : UpdS S σ τ) (hS : ∀ k, Own i m s k → ¬ S k) : IsTree τ i m s D W := by
  obtain ⟨T, ver, h1, h2⟩ := h.map
  exact ⟨hu.objs _ _ (hS i (.inl rfl)) h.cells, rowOf_up h.row hu fun k n cap z e => hS k (.inr (.inr ⟨n, cap, z, e⟩)), T, ver, hu.objs _ _ (hS m (.inr (.inl rfl))) h1, h2⟩
theorem IsTree.ext {σ τ : St} {i m : Nat} {s : V} {D : List Mv} {W : Tr} (h : IsTree σ i m s D W) (hu : Ext σ τ) : IsTree τ i m s D W :=
  h.up (S := fun _ => False) (.of hu) fun _ _ h => h

theorem flat_split {z : Nat} {D : List (List V)} (hz : ∀ x ∈ D, x.length = z) {i : Nat} (hi : i < D.length) :
    D.flatten = (D.take i).flatten ++ (D[i] ++ (D.drop (i + 1)).flatten) ∧ (D.take i).flatten.length = i * z := by
  constructor
  · rw [← List.flatten_cons, ← List.flatten_append, ← List.drop_eq_getElem_cons hi, List.take_append_drop]
  · rw [flat_len' fun x hx => hz x (List.mem_of_mem_take hx), List.length_take, Nat.min_eq_left (by omega)]
theorem mv_len (D : List Mv) : ∀ x ∈ D.map mvC, x.length = 14 := by
  intro x hx
  obtain ⟨m, -, rfl⟩ := List.mem_map.1 hx
  rfl
/-- An element's cells in a row. -/
theorem row_drop {D : List Mv} {i : Nat} (hi : i < D.length) (o : Nat) (ho : o ≤ 14) : (D.map mvC).flatten.drop (i * 14 + o) = (mvC D[i]).drop o ++ ((D.map mvC).drop (i + 1)).flatten := by
  have hl : i < (D.map mvC).length := by simpa using hi
  obtain ⟨h1, h2⟩ := flat_split (mv_len D) hl
  rw [h1, ← h2, List.drop_append, List.drop_of_length_le (by omega), Nat.add_sub_cancel_left, List.nil_append, List.getElem_map, List.drop_append_of_le_length (by simpa [mvC] using ho)]
theorem row_drop0 {D : List Mv} {i : Nat} (hi : i < D.length) : (D.map mvC).flatten.drop (i * 14) = mvC D[i] ++ ((D.map mvC).drop (i + 1)).flatten := row_drop hi 0 (by omega)
end Go.VL.mov

namespace Go.VL.mov
open Go Go.VL Go.Proofs Go.IntWalk

section
variable {σ : St} {i m : Nat} {s : V} {D : List Mv} {W : Tr} {x a b : Sp}
set_option maxRecDepth 100000 in
theorem node_ok : CallA Try.prog 35 [spV x] σ fun v σ' => σ' = σ ∧ v = .bool (nodeB x) := by
  refine fn_at Try.func35 (by decide) comp35 rfl fun Q q1 q2 => ?_
  have e1 := sp_eqs x ⟨0, 0⟩
  have e2 := sp_eqs x ⟨0, 1⟩
  simp only [sp_dec] at e1 e2
  simp only [nodeB] at q2
  simp -implicitDefEqProofs only [go_sem, Nat.reduceBEq, Nat.reduceAdd, eq_self, true_and, and_self, c35, spV, spC]
  refine call_at right_ok ?_
  rintro v σ' ⟨rfl, rfl⟩
  refine ⟨kept_none, ?_⟩
  cases h0 : right x <;> cases h1 : decide (x.c = 0) <;> cases h2 : decide (x.r = 0) <;> cases h3 : decide (x.r = 1)
  all_goals
    rw [h1, h2] at e1
    rw [h1, h3] at e2
    rw [h0, h1, h2, h3] at q2
    simp -implicitDefEqProofs only [go_sem, Nat.reduceBEq, Nat.reduceAdd, eq_self, true_and, and_true, and_self, List.getElem?_cons_zero, List.getElem?_cons_succ, Nat.reduceLeDiff, Nat.zero_add, Nat.reduceSub, Nat.le_refl, h0, e1, e2]
    refine q2 _ _ ?_
    simp -implicitDefEqProofs only [go_sem, Nat.reduceBEq, Nat.reduceAdd]
    first | exact ⟨trivial, trivial⟩ | exact ⟨trivial, rfl⟩ | exact ⟨rfl, rfl⟩ | exact ⟨rfl, trivial⟩ | trivial
set_option maxRecDepth 100000 in
theorem new_ok : CallA Try.prog 15 [] σ fun v σ' => v = .ptr (some (σ.objs.length + 1, 0)) ∧ IsTree σ' (σ.objs.length + 1) σ.objs.length (.sl true .pub 0 []) [] W0 ∧ Ext σ σ' ∧ σ'.live = σ.live := by
  refine fn_at Try.func15 (by decide) comp15 rfl fun Q q1 q2 => ?_
  simp -implicitDefEqProofs only [go_sem, Nat.reduceBEq, Nat.reduceAdd, c15, Nat.reduceLeDiff, Nat.zero_add]
  refine q2 _ _ ?_
  simp -implicitDefEqProofs only [go_sem, Nat.reduceBEq, Nat.reduceAdd]
  refine ⟨by simp, ⟨by simp, .inl ⟨_, _, rfl, rfl⟩, [], 0, by simp [entsT], by simp, fun _ => rfl⟩, (ext_obj σ _).trans (ext_obj _ _), trivial⟩
set_option maxRecDepth 100000 in
theorem len_ok (h : IsTree σ i m s D W) : CallA Try.prog 29 [.ptr (some (i, 0))] σ fun v σ' => σ' = σ ∧ v = .int .i64 D.length := by
  have h1 := h.cells
  refine fn_at Try.func29 (by decide) comp29 rfl fun Q q1 q2 => ?_
  rcases h.row with ⟨R, q, rfl, he⟩ | ⟨j, cap, rfl, hr, -, hc⟩
  · have hD : D = [] := by simpa using he
    subst hD
    simp -implicitDefEqProofs only [go_sem, Nat.reduceBEq, Nat.reduceAdd, eq_self, true_and, and_true, and_self, List.getElem?_cons_zero, List.getElem?_cons_succ, Nat.reduceLeDiff, Nat.zero_add, Nat.reduceSub, Nat.le_refl, c29, h1]
    refine q2 _ _ ?_
    simp -implicitDefEqProofs only [go_sem, Nat.reduceBEq, Nat.reduceAdd, eq_self, true_and, and_true, and_self, List.getElem?_cons_zero, List.getElem?_cons_succ, Nat.reduceLeDiff, Nat.zero_add, Nat.reduceSub, Nat.le_refl, Nat.lt_irrefl]
    try simp
  · simp -implicitDefEqProofs only [go_sem, Nat.reduceBEq, Nat.reduceAdd, eq_self, true_and, and_true, and_self, List.getElem?_cons_zero, List.getElem?_cons_succ, Nat.reduceLeDiff, Nat.zero_add, Nat.reduceSub, Nat.le_refl, c29, h1]
    refine q2 _ _ ?_
    simp -implicitDefEqProofs only [go_sem, Nat.reduceBEq, Nat.reduceAdd, eq_self, true_and, and_true, and_self, List.getElem?_cons_zero, List.getElem?_cons_succ, Nat.reduceLeDiff, Nat.zero_add, Nat.reduceSub, Nat.le_refl, Nat.lt_irrefl]
    try simp
set_option maxRecDepth 100000 in
theorem where_ok (h : IsTree σ i m s D W) : CallA Try.prog 13 [.ptr (some (i, 0)), spV x] σ fun v σ' => v = .tup [plV ((W x).getD zp), .bool (W x).isSome] ∧ Ext σ σ' ∧ σ'.live = σ.live := by
  have h1 := h.cells
  obtain ⟨T, ver, h2, hT⟩ := h.map
  refine fn_at Try.func13 (by decide) comp13 rfl fun Q q1 q2 => ?_
  have hk : keyFits [.agg, .int .i64, .int .i64] (.agg [.int .i64 x.c, .int .i64 x.r]) = true := rfl
  have hf := find_T x T
  rw [hT.look] at hf
  have hl : ∀ (y : AObj), (σ.objs ++ [y])[σ.objs.length]? = some y := by simp
  have hs : ∀ (y : AObj) cs, ((St.mk (σ.objs ++ [y]) σ.live).setC σ.objs.length cs).objs[σ.objs.length]? = some (.cells cs) := by
    intro y cs
    show ((σ.objs ++ [y]).set _ _)[_]? = _
    simp
  have h2a : ∀ (y : AObj), (σ.objs ++ [y])[m]? = some (.mp KL (entsT T) ver) := fun y => by
    rw [List.getElem?_append_left (List.getElem?_eq_some_iff.1 h2).1]; exact h2
  have h1a : ∀ (y : AObj), (σ.objs ++ [y])[i]? = some (.cells [s, .map (some m)]) := fun y => by
    rw [List.getElem?_append_left (List.getElem?_eq_some_iff.1 h1).1]; exact h1
  have hext : ∀ (y : AObj) cs, Ext σ ((St.mk (σ.objs ++ [y]) σ.live).setC σ.objs.length cs) := fun y cs => ext_set (ext_obj σ y) (Nat.le_refl _)
  cases hw : W x with
  | none =>
    rw [hw] at hf q2
    simp -implicitDefEqProofs only [go_sem, Nat.reduceBEq, Nat.reduceAdd, eq_self, true_and, and_true, and_self, List.getElem?_cons_zero, List.getElem?_cons_succ, Nat.reduceLeDiff, Nat.zero_add, Nat.reduceSub, Nat.le_refl, c13, spV, spC, h1, h2, hk, hf, Option.map_none, hl, hs]
    refine q2 _ _ ?_
    simp -implicitDefEqProofs only [go_sem, Nat.reduceBEq, Nat.reduceAdd, eq_self, true_and, and_true, and_self, List.getElem?_cons_zero, List.getElem?_cons_succ, Nat.reduceLeDiff, Nat.zero_add, Nat.reduceSub, Nat.le_refl, Nat.lt_irrefl]
    exact ⟨rfl, hext _ _, rfl⟩
  | some p =>
    rw [hw] at hf q2
    simp -implicitDefEqProofs only [go_sem, Nat.reduceBEq, Nat.reduceAdd, eq_self, true_and, and_true, and_self, List.getElem?_cons_zero, List.getElem?_cons_succ, Nat.reduceLeDiff, Nat.zero_add, Nat.reduceSub, Nat.le_refl, c13, spV, spC, h1, h2, hk, hf, Option.map_some, plV, plC, hl, hs]
    refine q2 _ _ ?_
    simp -implicitDefEqProofs only [go_sem, Nat.reduceBEq, Nat.reduceAdd, eq_self, true_and, and_true, and_self, List.getElem?_cons_zero, List.getElem?_cons_succ, Nat.reduceLeDiff, Nat.zero_add, Nat.reduceSub, Nat.le_refl, Nat.lt_irrefl]
    exact ⟨rfl, hext _ _, rfl⟩
end
end Go.VL.mov

namespace Go.VL.mov
open Go Go.VL Go.Proofs Go.IntWalk

section
variable {σ : St} {i m : Nat} {s : V} {D : List Mv} {W : Tr} {x top a b : Sp}
set_option maxRecDepth 100000 in
set_option maxHeartbeats 1600000 in
theorem beneath_ok (h : IsTree σ i m s D W) {f : Sp → Nat} (hf : Rank W f) : CallA Try.prog 53 [.ptr (some (i, 0)), spV x, spV top] σ fun v σ' => v = .bool (ben W x top) ∧ Ext σ σ' ∧ σ'.live = σ.live := by
  refine fn_at Try.func53 (by decide) comp53 rfl fun Q q1 q2 => ?_
  simp -implicitDefEqProofs only [go_sem, Nat.reduceBEq, Nat.reduceAdd, eq_self, true_and, and_true, and_self, List.getElem?_cons_zero, List.getElem?_cons_succ, Nat.reduceLeDiff, Nat.zero_add, Nat.reduceSub, Nat.le_refl, c53, spV, spC]
  refine loop_at (fun (y : Sp) => ⟨[(0, .v (.ptr (some (i, 0)))), (4, .loc 4 0), (5, .loc 5 0), (6, .v (.bool false))], [(4, spC y), (5, spC top)]⟩)
    (fun y τ => Ext σ τ ∧ τ.live = σ.live ∧ ben W y top = ben W x top) f x ?_ ?_ ?_
  · refine .inr ?_
    simp -implicitDefEqProofs only [go_sem, Nat.reduceBEq, Nat.reduceAdd, eq_self, true_and, and_true, and_self, List.getElem?_cons_zero, List.getElem?_cons_succ, Nat.reduceLeDiff, Nat.zero_add, Nat.reduceSub, Nat.le_refl, spC]
    try trivial
  · exact ⟨Ext.refl _, rfl, rfl⟩
  rintro y τ ⟨g1, g2, g3⟩ Z z1 z2 z3
  have h := h.ext g1
  have h1 := h.cells
  obtain ⟨T, ver, h2, hT⟩ := h.map
  have hk : keyFits [.agg, .int .i64, .int .i64] (.agg [.int .i64 y.c, .int .i64 y.r]) = true := rfl
  have hfi := find_T y T
  rw [hT.look] at hfi
  have hl : ∀ (z : AObj), (τ.objs ++ [z])[τ.objs.length]? = some z := by simp
  have hs : ∀ (z : AObj) cs, ((St.mk (τ.objs ++ [z]) τ.live).setC τ.objs.length cs).objs[τ.objs.length]? = some (.cells cs) := by
    intro z cs
    show ((τ.objs ++ [z]).set _ _)[_]? = _
    simp
  have hext : ∀ (z : AObj) cs, Ext σ ((St.mk (τ.objs ++ [z]) τ.live).setC τ.objs.length cs) := fun z cs => g1.trans (ext_set (ext_obj τ z) (Nat.le_refl _))
  by_cases he : y = top
  · subst he
    rw [ben_self] at g3
    rw [← g3] at q2
    have hd : decide (y = y) = true := by simp
    simp -implicitDefEqProofs only [go_sem, Nat.reduceBEq, Nat.reduceAdd, eq_self, true_and, and_true, and_self, List.getElem?_cons_zero, List.getElem?_cons_succ, Nat.reduceLeDiff, Nat.zero_add, Nat.reduceSub, Nat.le_refl, spC, sp_eqs, hd]
    refine z3 _ _ ?_
    simp -implicitDefEqProofs only [go_sem, Nat.reduceBEq, Nat.reduceAdd, eq_self, true_and, and_true, and_self, List.getElem?_cons_zero, List.getElem?_cons_succ, Nat.reduceLeDiff, Nat.zero_add, Nat.reduceSub, Nat.le_refl, Nat.lt_irrefl]
    refine q2 _ _ ?_
    simp -implicitDefEqProofs only [go_sem, Nat.reduceBEq, Nat.reduceAdd, eq_self, true_and, and_true, and_self, List.getElem?_cons_zero, List.getElem?_cons_succ, Nat.reduceLeDiff, Nat.zero_add, Nat.reduceSub, Nat.le_refl, Nat.lt_irrefl]
    exact ⟨g1, g2⟩
  have hd : decide (y = top) = false := by simp [he]
  cases hw : W y with
  | none =>
    rw [ben_none hw he] at g3
    rw [← g3] at q2
    rw [hw] at hfi
    simp -implicitDefEqProofs only [go_sem, Nat.reduceBEq, Nat.reduceAdd, eq_self, true_and, and_true, and_self, List.getElem?_cons_zero, List.getElem?_cons_succ, Nat.reduceLeDiff, Nat.zero_add, Nat.reduceSub, Nat.le_refl, spC, sp_eqs, hd, h1, h2, hk, hfi, Option.map_none, hl, hs]
    refine z3 _ _ ?_
    simp -implicitDefEqProofs only [go_sem, Nat.reduceBEq, Nat.reduceAdd, eq_self, true_and, and_true, and_self, List.getElem?_cons_zero, List.getElem?_cons_succ, Nat.reduceLeDiff, Nat.zero_add, Nat.reduceSub, Nat.le_refl, Nat.lt_irrefl]
    refine q2 _ _ ?_
    simp -implicitDefEqProofs only [go_sem, Nat.reduceBEq, Nat.reduceAdd, eq_self, true_and, and_true, and_self, List.getElem?_cons_zero, List.getElem?_cons_succ, Nat.reduceLeDiff, Nat.zero_add, Nat.reduceSub, Nat.le_refl, Nat.lt_irrefl]
    exact ⟨hext _ _, g2⟩
  | some p =>
    rw [ben_up hw he] at g3
    rw [hw] at hfi
    simp -implicitDefEqProofs only [go_sem, Nat.reduceBEq, Nat.reduceAdd, eq_self, true_and, and_true, and_self, List.getElem?_cons_zero, List.getElem?_cons_succ, Nat.reduceLeDiff, Nat.zero_add, Nat.reduceSub, Nat.le_refl, spC, sp_eqs, hd, h1, h2, hk, hfi, Option.map_some, plV, plC, hl, hs]
    refine z1 p.p _ _ (.inr ?_) (hf y p hw) ⟨hext _ _, g2, g3⟩
    simp -implicitDefEqProofs only [go_sem, Nat.reduceBEq, Nat.reduceAdd, eq_self, true_and, and_true, and_self, List.getElem?_cons_zero, List.getElem?_cons_succ, Nat.reduceLeDiff, Nat.zero_add, Nat.reduceSub, Nat.le_refl, spC]
    try trivial

theorem less_irr (a : Sp) : less a a = false := by simp [less]
theorem less_trans {a b c : Sp} (h : less a b = true) (k : less b c = true) : less a c = true := by
  simp only [less, Bool.or_eq_true, Bool.and_eq_true, decide_eq_true_eq] at *
  omega
theorem less_asymm {a b : Sp} (h : less a b = true) : less b a = false := by
  cases k : less b a with
  | false => rfl
  | true => have := less_trans h k; rw [less_irr] at this; cases this
theorem less_total {a b : Sp} (h : less a b = false) (k : less b a = false) : a = b := by
  simp only [less, Bool.or_eq_false_iff, Bool.and_eq_false_iff, decide_eq_false_iff_not] at h k
  exact sp_iff.2 (by omega)
theorem cmp_neg (a b : Sp) : decide (cmp a b < 0) = less a b := by
  unfold cmp
  by_cases h : a = b
  · subst h; simp [less_irr]
  · simp only [h, decide_false, cond_false]
    cases less a b <;> simp
theorem cmp_zero (a b : Sp) : decide (cmp a b = 0) = decide (a = b) := by
  unfold cmp
  by_cases h : a = b
  · subst h; simp
  · simp only [h, decide_false, cond_false]
    cases less a b <;> simp
/-- In the order of their stamps. -/
def Srt (D : List Mv) : Prop := D.Pairwise fun x y => less x.a y.a = true
/-- How many stand ahead of a stamp. -/
def ix (a : Sp) : List Mv → Nat
  | [] => 0
  | x :: D => bif less x.a a then ix a D + 1 else 0
theorem ix_le (a : Sp) : ∀ D : List Mv, ix a D ≤ D.length
  | [] => Nat.le_refl _
  | x :: D => by
    have := ix_le a D
    simp only [ix]
    cases less x.a a <;> simp only [cond_true, cond_false, List.length_cons] <;> omega
theorem ix_iff {a : Sp} : ∀ {D : List Mv}, Srt D → ∀ (i : Nat) (h : i < D.length), less D[i].a a = true ↔ i < ix a D
  | [], _, i, h => by simp at h
  | x :: D, hs, i, h => by
    obtain ⟨h1, h2⟩ := List.pairwise_cons.1 hs
    simp only [ix]
    cases i with
    | zero =>
      show less x.a a = true ↔ _
      rcases Bool.eq_false_or_eq_true (less x.a a) with hx | hx <;> simp [hx]
    | succ i =>
      have hi : i < D.length := by simpa using h
      simp only [List.getElem_cons_succ]
      rcases Bool.eq_false_or_eq_true (less x.a a) with hx | hx
      · rw [hx, cond_true, ix_iff h2 i hi]; omega
      · rw [hx]
        simp only [cond_false, Nat.not_lt_zero, iff_false]
        intro hd
        rw [less_trans (h1 _ (List.getElem_mem hi)) hd] at hx; cases hx
theorem ix_lt {a : Sp} {D : List Mv} (hs : Srt D) (i : Nat) (h : i < D.length) : less D[i].a a = decide (i < ix a D) := by
  rw [Bool.eq_iff_iff, ix_iff hs i h]; simp
/-- Is it there? -/
def at? (a : Sp) (D : List Mv) : Bool := match D[ix a D]? with
  | some x => decide (x.a = a)
  | none => false
theorem mid_n {i j : Nat} (h : i + j ≤ 1000000000) : IntKind.i64.wrap ((IntKind.u64.wrap (IntKind.i64.wrap ((i : Int) + (j : Int)))).fdiv (2 ^ min (Int.toNat 1) 64)) = (((i + j) / 2 : Nat) : Int) := by
  rw [i64_in ((i : Int) + (j : Int)) (by omega)]
  have h2 : IntKind.u64.wrap ((i : Int) + (j : Int)) = ((i + j : Nat) : Int) := by
    rw [show IntKind.u64.wrap ((i : Int) + (j : Int)) = ((i : Int) + (j : Int)) % 18446744073709551616 from by simp [IntKind.wrap, IntKind.bits, IntKind.signed]]
    omega
  rw [h2]
  have h3 : ((i + j : Nat) : Int).fdiv (2 ^ min (Int.toNat 1) 64) = (((i + j) / 2 : Nat) : Int) := by
    have : min (Int.toNat 1) 64 = 1 := by decide
    rw [this, show ((2 : Int) ^ 1) = ((2 : Nat) : Int) from rfl, Int.fdiv_eq_ediv_of_nonneg _ (by omega)]
    omega
  rw [h3, i64_in _ (by omega)]
set_option maxRecDepth 100000 in
theorem cmpf_ok {mm : Mv} : CallA Try.prog 49 [.agg (mvC mm), spV a] σ fun v σ' => σ' = σ ∧ v = .int .i64 (cmp mm.a a) := by
  refine fn_at Try.func49 (by decide) comp49 rfl fun Q q1 q2 => ?_
  simp -implicitDefEqProofs only [go_sem, Nat.reduceBEq, Nat.reduceAdd, eq_self, true_and, and_true, and_self, List.getElem?_cons_zero, List.getElem?_cons_succ, Nat.reduceLeDiff, Nat.zero_add, Nat.reduceSub, Nat.le_refl, c49, mvC, spV, spC]
  refine call_at compare_ok ?_
  rintro v σ' ⟨rfl, rfl⟩
  refine ⟨kept_none, ?_⟩
  simp -implicitDefEqProofs only [go_sem, Nat.reduceBEq, Nat.reduceAdd, eq_self, true_and, and_true, and_self, List.getElem?_cons_zero, List.getElem?_cons_succ, Nat.reduceLeDiff, Nat.zero_add, Nat.reduceSub, Nat.le_refl, Nat.lt_irrefl]
  refine q2 _ _ ?_
  simp -implicitDefEqProofs only [go_sem, Nat.reduceBEq, Nat.reduceAdd, eq_self, true_and, and_true, and_self, List.getElem?_cons_zero, List.getElem?_cons_succ, Nat.reduceLeDiff, Nat.zero_add, Nat.reduceSub, Nat.le_refl, Nat.lt_irrefl]
  try first | exact ⟨trivial, trivial⟩ | exact ⟨trivial, rfl⟩ | exact ⟨rfl, rfl⟩ | exact ⟨rfl, trivial⟩ | trivial
set_option maxHeartbeats 1600000 in
set_option maxRecDepth 100000 in
theorem search_ok (hr : RowOf σ s 14 (D.map mvC)) (hs : Srt D) (hn : D.length ≤ 100000000) :
    CallA Try.prog 48 [s, spV a, .fn 49 []] σ fun v σ' => σ' = σ ∧ v = .tup [.int .i64 (ix a D), .bool (at? a D)] := by
  refine fn_at Try.func48 (by decide) comp48 rfl fun Q q1 q2 => ?_
  rcases hr with ⟨R, q, rfl, he⟩ | ⟨j, cap, rfl, ho, -, hc⟩
  · have hD : D = [] := by simpa using he
    subst hD
    simp -implicitDefEqProofs only [go_sem, Nat.reduceBEq, Nat.reduceAdd, eq_self, true_and, and_true, and_self, List.getElem?_cons_zero, List.getElem?_cons_succ, Nat.reduceLeDiff, Nat.zero_add, Nat.reduceSub, Nat.le_refl, c48, spV, spC]
    refine loop_at (fun (_ : Unit) => ⟨[(8, .v (.int .i64 0)), (9, .v (.int .i64 0)), (10, .v (.int .i64 0))], []⟩) (fun _ τ => τ = σ) (fun _ => 0) () ?_ ?_ ?_
    · refine .inr ?_
      simp -implicitDefEqProofs only [go_sem, Nat.reduceBEq, Nat.reduceAdd, eq_self, true_and, and_true, and_self, List.getElem?_cons_zero, List.getElem?_cons_succ, Nat.reduceLeDiff, Nat.zero_add, Nat.reduceSub, Nat.le_refl, Nat.lt_irrefl]
      try trivial
    · rfl
    rintro u τ rfl Z z1 z2 z3
    have h0 : decide ((0 : Int) < 0) = false := by decide
    simp -implicitDefEqProofs only [go_sem, Nat.reduceBEq, Nat.reduceAdd, eq_self, true_and, and_true, and_self, List.getElem?_cons_zero, List.getElem?_cons_succ, Nat.reduceLeDiff, Nat.zero_add, Nat.reduceSub, Nat.le_refl, h0]
    refine z2 _ _ _ ?_
    simp -implicitDefEqProofs only [go_sem, Nat.reduceBEq, Nat.reduceAdd, eq_self, true_and, and_true, and_self, List.getElem?_cons_zero, List.getElem?_cons_succ, Nat.reduceLeDiff, Nat.zero_add, Nat.reduceSub, Nat.le_refl, h0]
    refine q2 _ _ ?_
    simp -implicitDefEqProofs only [go_sem, Nat.reduceBEq, Nat.reduceAdd, eq_self, true_and, and_true, and_self, List.getElem?_cons_zero, List.getElem?_cons_succ, Nat.reduceLeDiff, Nat.zero_add, Nat.reduceSub, Nat.le_refl, ix, at?]
    try trivial
  have hle := ix_le a D
  have hlm : (D.map mvC).length = D.length := by simp
  simp -implicitDefEqProofs only [go_sem, Nat.reduceBEq, Nat.reduceAdd, eq_self, true_and, and_true, and_self, List.getElem?_cons_zero, List.getElem?_cons_succ, Nat.reduceLeDiff, Nat.zero_add, Nat.reduceSub, Nat.le_refl, c48, spV, spC]
  refine loop_at (fun (x : Nat × Nat) => ⟨[(0, .v (.osl j (D.map mvC).length cap 14)), (2, .v (.fn 49 [])), (4, .loc 4 0), (8, .v (.int .i64 D.length)), (9, .v (.int .i64 x.1)), (10, .v (.int .i64 x.2))], [(4, spC a)]⟩)
    (fun x τ => τ = σ ∧ x.1 ≤ ix a D ∧ ix a D ≤ x.2 ∧ x.2 ≤ D.length) (fun x => x.2 - x.1) (0, D.length) ?_ ?_ ?_
  · refine .inr ?_
    simp -implicitDefEqProofs only [go_sem, Nat.reduceBEq, Nat.reduceAdd, eq_self, true_and, and_true, and_self, List.getElem?_cons_zero, List.getElem?_cons_succ, Nat.reduceLeDiff, Nat.zero_add, Nat.reduceSub, Nat.le_refl, spC, hlm]
    try trivial
  · exact ⟨rfl, Nat.zero_le _, hle, Nat.le_refl _⟩
  rintro ⟨l, u⟩ τ ⟨hτ, g1, g2, g3⟩ Z z1 z2 z3
  have hτ := hτ.symm
  subst hτ
  simp only at g1 g2 g3
  simp -implicitDefEqProofs only [go_sem, Nat.reduceBEq, Nat.reduceAdd, eq_self, true_and, and_true, and_self, List.getElem?_cons_zero, List.getElem?_cons_succ, Nat.reduceLeDiff, Nat.zero_add, Nat.reduceSub, Nat.le_refl, spC]
  refine CondW_b (fun hcc => ?_) (fun hcc => ?_)
  · have hlu : l < u := by simpa using hcc
    have hmid := mid_n (i := l) (j := u) (by omega)
    generalize hh : (l + u) / 2 = h at hmid
    have hlt : h < D.length := by omega
    have hget := row_drop0 hlt
    have hix := ix_lt (a := a) hs h hlt
    have hb : (h : Int) < (D.map mvC).length := by rw [hlm]; omega
    have hw : IntKind.i64.wrap ((h : Int) + 1) = ((h + 1 : Nat) : Int) := by rw [i64_in _ (by omega)]; omega
    generalize D[h] = d at hget hix
    simp -implicitDefEqProofs only [go_sem, Nat.reduceBEq, Nat.reduceAdd, eq_self, true_and, and_true, and_self, List.getElem?_cons_zero, List.getElem?_cons_succ, Nat.reduceLeDiff, Nat.zero_add, Nat.reduceSub, Nat.le_refl, hmid, ho, hget, Int.toNat_natCast, Nat.add_zero, mvC]
    refine ⟨by omega, ⟨by omega, hb⟩, ?_⟩
    refine call_at (cmpf_ok (mm := d)) ?_
    rintro v τ' ⟨rfl, rfl⟩
    refine ⟨(Ext.refl _).kept, ?_⟩
    simp -implicitDefEqProofs only [go_sem, Nat.reduceBEq, Nat.reduceAdd, eq_self, true_and, and_true, and_self, List.getElem?_cons_zero, List.getElem?_cons_succ, Nat.reduceLeDiff, Nat.zero_add, Nat.reduceSub, Nat.le_refl, cmp_neg]
    rcases Bool.eq_false_or_eq_true (less d.a a) with hx | hx
    · rw [hx] at hix
      have hhi : h < ix a D := of_decide_eq_true hix.symm
      simp -implicitDefEqProofs only [go_sem, Nat.reduceBEq, Nat.reduceAdd, eq_self, true_and, and_true, and_self, List.getElem?_cons_zero, List.getElem?_cons_succ, Nat.reduceLeDiff, Nat.zero_add, Nat.reduceSub, Nat.le_refl, hx, hw]
      refine z1 (h + 1, u) _ _ (.inr ?_) (by simp only; omega) ⟨rfl, by simp only; omega, g2, g3⟩
      simp -implicitDefEqProofs only [go_sem, Nat.reduceBEq, Nat.reduceAdd, eq_self, true_and, and_true, and_self, List.getElem?_cons_zero, List.getElem?_cons_succ, Nat.reduceLeDiff, Nat.zero_add, Nat.reduceSub, Nat.le_refl, spC]
      try trivial
    · rw [hx] at hix
      have hhi : ¬ h < ix a D := of_decide_eq_false hix.symm
      simp -implicitDefEqProofs only [go_sem, Nat.reduceBEq, Nat.reduceAdd, eq_self, true_and, and_true, and_self, List.getElem?_cons_zero, List.getElem?_cons_succ, Nat.reduceLeDiff, Nat.zero_add, Nat.reduceSub, Nat.le_refl, hx]
      refine z1 (l, h) _ _ (.inr ?_) (by simp only; omega) ⟨rfl, g1, by simp only; omega, by simp only; omega⟩
      simp -implicitDefEqProofs only [go_sem, Nat.reduceBEq, Nat.reduceAdd, eq_self, true_and, and_true, and_self, List.getElem?_cons_zero, List.getElem?_cons_succ, Nat.reduceLeDiff, Nat.zero_add, Nat.reduceSub, Nat.le_refl, spC]
      try trivial
  · have hlu : ¬ l < u := by simpa using hcc
    have hl : l = ix a D := by omega
    subst hl
    simp -implicitDefEqProofs only [go_sem, Nat.reduceBEq, Nat.reduceAdd, eq_self, true_and, and_true, and_self, List.getElem?_cons_zero, List.getElem?_cons_succ, Nat.reduceLeDiff, Nat.zero_add, Nat.reduceSub, Nat.le_refl, Nat.lt_irrefl]
    refine z2 _ _ _ ?_
    by_cases hlt : ix a D < D.length
    · have hd : decide ((ix a D : Int) < D.length) = true := by simp; omega
      have hget := row_drop0 hlt
      have hb : ((ix a D : Nat) : Int) < (D.map mvC).length := by rw [hlm]; omega
      have hat : at? a D = decide (D[ix a D].a = a) := by simp [at?, hlt]
      generalize D[ix a D] = d at hget hat
      simp -implicitDefEqProofs only [go_sem, Nat.reduceBEq, Nat.reduceAdd, eq_self, true_and, and_true, and_self, List.getElem?_cons_zero, List.getElem?_cons_succ, Nat.reduceLeDiff, Nat.zero_add, Nat.reduceSub, Nat.le_refl, hd, ho, hget, Int.toNat_natCast, Nat.add_zero, mvC]
      refine ⟨⟨by omega, hb⟩, ?_⟩
      refine call_at (cmpf_ok (mm := d)) ?_
      rintro v τ' ⟨rfl, rfl⟩
      refine ⟨(Ext.refl _).kept, ?_⟩
      simp -implicitDefEqProofs only [go_sem, Nat.reduceBEq, Nat.reduceAdd, eq_self, true_and, and_true, and_self, List.getElem?_cons_zero, List.getElem?_cons_succ, Nat.reduceLeDiff, Nat.zero_add, Nat.reduceSub, Nat.le_refl, cmp_zero]
      refine q2 _ _ ?_
      simp -implicitDefEqProofs only [go_sem, Nat.reduceBEq, Nat.reduceAdd, eq_self, true_and, and_true, and_self, List.getElem?_cons_zero, List.getElem?_cons_succ, Nat.reduceLeDiff, Nat.zero_add, Nat.reduceSub, Nat.le_refl, hat]
      try trivial
    · have hd : decide ((ix a D : Int) < D.length) = false := by simp; omega
      have hat : at? a D = false := by simp [at?, hlt]
      simp -implicitDefEqProofs only [go_sem, Nat.reduceBEq, Nat.reduceAdd, eq_self, true_and, and_true, and_self, List.getElem?_cons_zero, List.getElem?_cons_succ, Nat.reduceLeDiff, Nat.zero_add, Nat.reduceSub, Nat.le_refl, hd]
      refine q2 _ _ ?_
      simp -implicitDefEqProofs only [go_sem, Nat.reduceBEq, Nat.reduceAdd, eq_self, true_and, and_true, and_self, List.getElem?_cons_zero, List.getElem?_cons_succ, Nat.reduceLeDiff, Nat.zero_add, Nat.reduceSub, Nat.le_refl, hat]
      try trivial
end
end Go.VL.mov

namespace Go.VL.mov
open Go Go.VL Go.Proofs Go.IntWalk

/-- Does a stamp's move count? -/
def cnt (a : Sp) (D : List Mv) : Bool := match D[ix a D]? with
  | some x => decide (x.a = a) && x.k
  | none => false

section
variable {σ : St} {i m : Nat} {s : V} {D : List Mv} {W W' : Tr} {x top a b : Sp}
theorem IsTree.im (h : IsTree σ i m s D W) : i ≠ m := by
  intro e
  obtain ⟨T, ver, h1, -⟩ := h.map
  have := h.cells
  rw [e, h1] at this
  cases this
theorem IsTree.jm (h : IsTree σ i m s D W) {j n cap z : Nat} (hs : s = .osl j n cap z) : j ≠ m ∧ j ≠ i := by
  rcases h.row with ⟨R, q, rfl, -⟩ | ⟨j', cap', rfl, h1, -⟩
  · cases hs
  cases hs
  refine ⟨fun e => ?_, fun e => ?_⟩
  · obtain ⟨T, ver, h2, -⟩ := h.map
    rw [e, h2] at h1; cases h1
  · rw [e, h.cells] at h1; cases h1
theorem updS_setM {m : Nat} {lv : List LK} {es : List (V × V)} {v : Nat} : UpdS (fun k => k = m) σ (σ.setM m lv es v) := by
  refine ⟨fun j o hj hx => ?_, fun _ h => h, ?_, Nat.le_refl _⟩
  · show (σ.objs.set m _)[j]? = some o
    rw [List.getElem?_set_ne (fun e => hj e.symm)]; exact hx
  · show _ ≤ (σ.objs.set m _).length
    rw [List.length_set]; exact Nat.le_refl _
theorem updS_setR {j cap z : Nat} {cs : List V} : UpdS (fun k => k = j) σ (σ.setR j cap z cs) := by
  refine ⟨fun j o hj hx => ?_, fun _ h => h, ?_, Nat.le_refl _⟩
  · show (σ.objs.set _ _)[j]? = some o
    rw [List.getElem?_set_ne (fun e => hj e.symm)]; exact hx
  · show _ ≤ (σ.objs.set _ _).length
    rw [List.length_set]; exact Nat.le_refl _
theorem updS_setC {j : Nat} {cs : List V} : UpdS (fun k => k = j) σ (σ.setC j cs) := by
  refine ⟨fun j o hj hx => ?_, fun _ h => h, ?_, Nat.le_refl _⟩
  · show (σ.objs.set _ _)[j]? = some o
    rw [List.getElem?_set_ne (fun e => hj e.symm)]; exact hx
  · show _ ≤ (σ.objs.set _ _).length
    rw [List.length_set]; exact Nat.le_refl _
theorem IsTree.setM (h : IsTree σ i m s D W) {T' : Tl} (hT : RepT T' W') {ents : List (V × V)} (e : ents = entsT T') (v : Nat) : IsTree (σ.setM m KL ents v) i m s D W' := by
  subst e
  obtain ⟨T, ver, h1, -⟩ := h.map
  have hu : UpdS (fun k => k = m) σ (σ.setM m KL (entsT T') v) := updS_setM
  refine ⟨hu.objs _ _ h.im h.cells, rowOf_up h.row hu fun k n cap z e => (h.jm e).1, T', v, ?_, hT⟩
  show (σ.objs.set m _)[m]? = _
  rw [List.getElem?_set_self (List.getElem?_eq_some_iff.1 h1).1]
theorem over_mid (A e B xs : List V) (o : Nat) (h : o + xs.length ≤ e.length) : over (A ++ (e ++ B)) (A.length + o) xs = A ++ (over e o xs ++ B) := by
  simp only [over]
  rw [List.take_length_add_append, Nat.add_assoc, List.drop_length_add_append, List.take_append_of_le_length (by omega), List.drop_append_of_le_length h]
  simp only [List.append_assoc]
theorem row_over {D : List Mv} {k : Nat} (hk : k < D.length) (o : Nat) (xs : List V) (ho : o + xs.length ≤ 14) {d' : Mv} (hd : over (mvC D[k]) o xs = mvC d') :
    over (D.map mvC).flatten (k * 14 + o) xs = ((D.set k d').map mvC).flatten := by
  have hl : k < (D.map mvC).length := by simpa using hk
  obtain ⟨h1, h2⟩ := flat_split (mv_len D) hl
  have hl' : k < ((D.set k d').map mvC).length := by simpa using hk
  obtain ⟨h3, h4⟩ := flat_split (mv_len (D.set k d')) hl'
  have e1 : ((D.set k d').map mvC).take k = (D.map mvC).take k := by rw [← List.map_take, ← List.map_take, List.take_set_of_le (Nat.le_refl _)]
  have e2 : ((D.set k d').map mvC).drop (k + 1) = (D.map mvC).drop (k + 1) := by rw [← List.map_drop, ← List.map_drop, List.drop_set_of_lt (by omega)]
  have e3 : ((D.set k d').map mvC)[k] = mvC d' := by simp
  have e4 : (D.map mvC)[k] = mvC D[k] := by simp
  have hm : (mvC D[k]).length = 14 := rfl
  rw [h3, e1, e2, e3, ← hd, h1, e4, ← h2]
  exact over_mid _ _ _ _ _ (by rw [hm]; omega)
set_option maxRecDepth 100000 in
theorem place_ok (h : IsTree σ i m s D W) (hs : Srt D) (hn : D.length ≤ 100000000) :
    CallA Try.prog 33 [.ptr (some (i, 0)), spV a] σ fun v σ' => σ' = σ ∧ v = .tup [.int .i64 (ix a D), .bool (at? a D)] := by
  have h1 := h.cells
  refine fn_at Try.func33 (by decide) comp33 rfl fun Q q1 q2 => ?_
  simp -implicitDefEqProofs only [go_sem, Nat.reduceBEq, Nat.reduceAdd, eq_self, true_and, and_true, and_self, List.getElem?_cons_zero, List.getElem?_cons_succ, Nat.reduceLeDiff, Nat.zero_add, Nat.reduceSub, Nat.le_refl, c33, spV, spC, h1]
  refine call_at (search_ok (a := a) h.row hs hn) ?_
  rintro v τ ⟨rfl, rfl⟩
  refine ⟨(Ext.refl _).kept, ?_⟩
  simp -implicitDefEqProofs only [go_sem, Nat.reduceBEq, Nat.reduceAdd, eq_self, true_and, and_true, and_self, List.getElem?_cons_zero, List.getElem?_cons_succ, Nat.reduceLeDiff, Nat.zero_add, Nat.reduceSub, Nat.le_refl, Nat.lt_irrefl]
  refine q2 _ _ ?_
  simp -implicitDefEqProofs only [go_sem, Nat.reduceBEq, Nat.reduceAdd, eq_self, true_and, and_true, and_self, List.getElem?_cons_zero, List.getElem?_cons_succ, Nat.reduceLeDiff, Nat.zero_add, Nat.reduceSub, Nat.le_refl, Nat.lt_irrefl]
  try trivial
set_option maxRecDepth 100000 in
theorem place_nil : CallA Try.prog 33 [.ptr none, spV a] σ fun v σ' => σ' = σ ∧ v = .tup [.int .i64 0, .bool false] := by
  refine fn_at Try.func33 (by decide) comp33 rfl fun Q q1 q2 => ?_
  simp -implicitDefEqProofs only [go_sem, Nat.reduceBEq, Nat.reduceAdd, eq_self, true_and, and_true, and_self, List.getElem?_cons_zero, List.getElem?_cons_succ, Nat.reduceLeDiff, Nat.zero_add, Nat.reduceSub, Nat.le_refl, c33, spV, spC]
  refine q2 _ _ ?_
  simp -implicitDefEqProofs only [go_sem, Nat.reduceBEq, Nat.reduceAdd, eq_self, true_and, and_true, and_self, List.getElem?_cons_zero, List.getElem?_cons_succ, Nat.reduceLeDiff, Nat.zero_add, Nat.reduceSub, Nat.le_refl, Nat.lt_irrefl]
  try trivial
set_option maxRecDepth 100000 in
theorem counts_ok (h : IsTree σ i m s D W) (hs : Srt D) (hn : D.length ≤ 100000000) :
    CallA Try.prog 12 [.ptr (some (i, 0)), spV a] σ fun v σ' => σ' = σ ∧ v = .bool (cnt a D) := by
  have h1 := h.cells
  refine fn_at Try.func12 (by decide) comp12 rfl fun Q q1 q2 => ?_
  simp -implicitDefEqProofs only [go_sem, Nat.reduceBEq, Nat.reduceAdd, eq_self, true_and, and_true, and_self, List.getElem?_cons_zero, List.getElem?_cons_succ, Nat.reduceLeDiff, Nat.zero_add, Nat.reduceSub, Nat.le_refl, c12, spV, spC]
  refine call_at (place_ok (a := a) h hs hn) ?_
  rintro v τ ⟨rfl, rfl⟩
  refine ⟨kept_none, ?_⟩
  by_cases hlt : ix a D < D.length
  · have hat : at? a D = decide (D[ix a D].a = a) := by simp [at?, hlt]
    have hcn : cnt a D = (decide (D[ix a D].a = a) && D[ix a D].k) := by simp [cnt, hlt]
    have hget := row_drop hlt 6 (by omega)
    rcases h.row with ⟨R, q, rfl, he⟩ | ⟨j, cap, rfl, ho, -, hc⟩
    · have hD : D = [] := by simpa using he
      subst hD
      simp at hlt
    have hb : ((ix a D : Nat) : Int) < (D.map mvC).length := by rw [List.length_map]; omega
    generalize D[ix a D] = d at hget hat hcn
    rw [hcn] at q2
    cases hda : decide (d.a = a)
    · rw [hda] at q2
      simp -implicitDefEqProofs only [go_sem, Nat.reduceBEq, Nat.reduceAdd, eq_self, true_and, and_true, and_self, List.getElem?_cons_zero, List.getElem?_cons_succ, Nat.reduceLeDiff, Nat.zero_add, Nat.reduceSub, Nat.le_refl, hat, hda]
      refine q2 _ _ ?_
      simp -implicitDefEqProofs only [go_sem, Nat.reduceBEq, Nat.reduceAdd, eq_self, true_and, and_true, and_self, List.getElem?_cons_zero, List.getElem?_cons_succ, Nat.reduceLeDiff, Nat.zero_add, Nat.reduceSub, Nat.le_refl, Nat.lt_irrefl]
      try trivial
    · rw [hda] at q2
      simp -implicitDefEqProofs only [go_sem, Nat.reduceBEq, Nat.reduceAdd, eq_self, true_and, and_true, and_self, List.getElem?_cons_zero, List.getElem?_cons_succ, Nat.reduceLeDiff, Nat.zero_add, Nat.reduceSub, Nat.le_refl, hat, hda, h1, ho, hget, Int.toNat_natCast, mvC, List.drop_succ_cons, List.drop_zero]
      refine ⟨⟨by omega, hb⟩, ?_⟩
      refine q2 _ _ ?_
      simp -implicitDefEqProofs only [go_sem, Nat.reduceBEq, Nat.reduceAdd, eq_self, true_and, and_true, and_self, List.getElem?_cons_zero, List.getElem?_cons_succ, Nat.reduceLeDiff, Nat.zero_add, Nat.reduceSub, Nat.le_refl, Nat.lt_irrefl]
      try trivial
  · have hat : at? a D = false := by simp [at?, hlt]
    have hcn : cnt a D = false := by simp [cnt, hlt]
    rw [hcn] at q2
    simp -implicitDefEqProofs only [go_sem, Nat.reduceBEq, Nat.reduceAdd, eq_self, true_and, and_true, and_self, List.getElem?_cons_zero, List.getElem?_cons_succ, Nat.reduceLeDiff, Nat.zero_add, Nat.reduceSub, Nat.le_refl, hat]
    refine q2 _ _ ?_
    simp -implicitDefEqProofs only [go_sem, Nat.reduceBEq, Nat.reduceAdd, eq_self, true_and, and_true, and_self, List.getElem?_cons_zero, List.getElem?_cons_succ, Nat.reduceLeDiff, Nat.zero_add, Nat.reduceSub, Nat.le_refl, Nat.lt_irrefl]
    try trivial
end
end Go.VL.mov

namespace Go.VL.mov
open Go Go.VL Go.Proofs Go.IntWalk

section
variable {σ : St} {i m : Nat} {s : V} {D : List Mv} {W W' : Tr} {x top a b : Sp}
set_option maxHeartbeats 1600000 in
set_option maxRecDepth 100000 in
theorem back_ok (h : IsTree σ i m s D W) {n : Nat} (hn : n ≤ D.length) (hl : D.length ≤ 100000000) :
    CallA Try.prog 36 [.ptr (some (i, 0)), .int .i64 n] σ fun _ σ' => IsTree σ' i m s D (undo W (D.drop n)) ∧ UpdS (fun k => k = m) σ σ' ∧ σ'.live = σ.live := by
  refine fn_at Try.func36 (by decide) comp36 rfl fun Q q1 q2 => ?_
  rcases h.row with ⟨R, q, hs, he⟩ | ⟨j, cap, hs, -, -, hc⟩
  · have hD : D = [] := by simpa using he
    subst hD
    subst hs
    have hn0 : n = 0 := by simpa using hn
    subst hn0
    have h1 := h.cells
    have hw0 : IntKind.i64.wrap (((0 : Nat) : Int) - 1) = -1 := by decide
    simp -implicitDefEqProofs only [go_sem, Nat.reduceBEq, Nat.reduceAdd, eq_self, true_and, and_true, and_self, List.getElem?_cons_zero, List.getElem?_cons_succ, Nat.reduceLeDiff, Nat.zero_add, Nat.reduceSub, Nat.le_refl, c36, h1, hw0, List.length_nil]
    refine loop_at (fun (_ : Unit) => ⟨[(1, .v (.int .i64 0)), (4, .v (.int .i64 (-1)))], []⟩) (fun _ τ => τ = σ) (fun _ => 0) () ?_ ?_ ?_
    · refine .inr ?_
      simp -implicitDefEqProofs only [go_sem, Nat.reduceBEq, Nat.reduceAdd, eq_self, true_and, and_true, and_self, List.getElem?_cons_zero, List.getElem?_cons_succ, Nat.reduceLeDiff, Nat.zero_add, Nat.reduceSub, Nat.le_refl, Nat.lt_irrefl]
      try trivial
    · rfl
    rintro u τ rfl Z z1 z2 z3
    have h0 : decide ((0 : Int) ≤ -1) = false := by decide
    simp -implicitDefEqProofs only [go_sem, Nat.reduceBEq, Nat.reduceAdd, eq_self, true_and, and_true, and_self, List.getElem?_cons_zero, List.getElem?_cons_succ, Nat.reduceLeDiff, Nat.zero_add, Nat.reduceSub, Nat.le_refl, h0]
    refine z2 _ _ _ ?_
    simp -implicitDefEqProofs only [go_sem, Nat.reduceBEq, Nat.reduceAdd, eq_self, true_and, and_true, and_self, List.getElem?_cons_zero, List.getElem?_cons_succ, Nat.reduceLeDiff, Nat.zero_add, Nat.reduceSub, Nat.le_refl, Nat.lt_irrefl]
    refine q1 _ _ ?_
    simp -implicitDefEqProofs only [go_sem, Nat.reduceBEq, Nat.reduceAdd, eq_self, true_and, and_true, and_self, List.getElem?_cons_zero, List.getElem?_cons_succ, Nat.reduceLeDiff, Nat.zero_add, Nat.reduceSub, Nat.le_refl, Nat.lt_irrefl]
    exact ⟨h, .refl _ _⟩
  have hlm : (D.map mvC).length = D.length := by simp
  subst hs
  have h1 := h.cells
  have hw0 : IntKind.i64.wrap ((D.length : Int) - 1) = (D.length : Int) - 1 := i64_in _ (by omega)
  simp -implicitDefEqProofs only [go_sem, Nat.reduceBEq, Nat.reduceAdd, eq_self, true_and, and_true, and_self, List.getElem?_cons_zero, List.getElem?_cons_succ, Nat.reduceLeDiff, Nat.zero_add, Nat.reduceSub, Nat.le_refl, c36, h1, hlm, hw0]
  refine loop_at (fun (k : Nat) => ⟨[(0, .v (.ptr (some (i, 0)))), (1, .v (.int .i64 n)), (4, .v (.int .i64 ((k : Int) - 1)))], []⟩)
    (fun k τ => n ≤ k ∧ k ≤ D.length ∧ IsTree τ i m (.osl j (D.map mvC).length cap 14) D (undo W (D.drop k)) ∧ UpdS (fun k => k = m) σ τ ∧ τ.live = σ.live) (fun k => k) D.length ?_ ?_ ?_
  · refine .inr ?_
    simp -implicitDefEqProofs only [go_sem, Nat.reduceBEq, Nat.reduceAdd, eq_self, true_and, and_true, and_self, List.getElem?_cons_zero, List.getElem?_cons_succ, Nat.reduceLeDiff, Nat.zero_add, Nat.reduceSub, Nat.le_refl, Nat.lt_irrefl]
    try trivial
  · exact ⟨hn, Nat.le_refl _, by rw [List.drop_length]; exact h, .refl _ _, rfl⟩
  rintro k τ ⟨g1, g2, g3, g4, g5⟩ Z z1 z2 z3
  by_cases hk : n < k
  · have hd : decide ((n : Int) ≤ (k : Int) - 1) = true := by simp; omega
    obtain ⟨h', rfl⟩ : ∃ h', k = h' + 1 := ⟨k - 1, by omega⟩
    have hlt : h' < D.length := by omega
    have hget := row_drop0 hlt
    have e1 : (((h' + 1 : Nat) : Int) - 1) = (h' : Int) := by omega
    have hb : (h' : Int) < (D.map mvC).length := by rw [hlm]; omega
    have hw : IntKind.i64.wrap ((h' : Int) - 1) = (h' : Int) - 1 := i64_in _ (by omega)
    have hund : undo W (D.drop h') = backW (undo W (D.drop (h' + 1))) D[h'] := by rw [List.drop_eq_getElem_cons hlt]; rfl
    have h1 := g3.cells
    obtain ⟨T, ver, h2, hT⟩ := g3.map
    have ho : τ.objs[j]? = some (.row cap 14 (D.map mvC).flatten) := by
      rcases g3.row with ⟨R, q, hs, -⟩ | ⟨j', cap', hs, h4, -⟩
      · cases hs
      · cases hs; exact h4
    generalize D[h'] = d at hget hund
    have hk1 : keyFits [.agg, .int .i64, .int .i64] (.agg [.int .i64 d.n.c, .int .i64 d.n.r]) = true := rfl
    have fin : ∀ (F : Fr) τ', FrLe ⟨[(0, .v (.ptr (some (i, 0)))), (1, .v (.int .i64 n)), (4, .v (.int .i64 ((h' : Int) - 1)))], []⟩ F →
        IsTree τ' i m (.osl j (D.map mvC).length cap 14) D (undo W (D.drop h')) → UpdS (fun k => k = m) τ τ' → τ'.live = τ.live → Z .normal F τ' := fun F τ' f1 f2 f3 f4 =>
      z1 h' F τ' f1 (by omega) ⟨by omega, by omega, f2, g4.trans f3 (fun _ h => .inl h), f4.trans g5⟩
    rw [e1] at hd
    simp -implicitDefEqProofs only [go_sem, Nat.reduceBEq, Nat.reduceAdd, eq_self, true_and, and_true, and_self, List.getElem?_cons_zero, List.getElem?_cons_succ, Nat.reduceLeDiff, Nat.zero_add, Nat.reduceSub, Nat.le_refl, e1, hd, h1]
    refine cut_dup ?_
    simp -implicitDefEqProofs only [go_sem, Nat.reduceBEq, Nat.reduceAdd, eq_self, true_and, and_true, and_self, List.getElem?_cons_zero, List.getElem?_cons_succ, Nat.reduceLeDiff, Nat.zero_add, Nat.reduceSub, Nat.le_refl, h1, ho, hget, Int.toNat_natCast, Nat.add_zero, mvC]
    refine ⟨⟨by omega, hb⟩, ?_⟩
    cases hkk : d.k
    · have hb0 : backW (undo W (D.drop (h' + 1))) d = undo W (D.drop (h' + 1)) := by simp [backW, hkk]
      simp -implicitDefEqProofs only [go_sem, Nat.reduceBEq, Nat.reduceAdd, eq_self, true_and, and_true, and_self, List.getElem?_cons_zero, List.getElem?_cons_succ, Nat.reduceLeDiff, Nat.zero_add, Nat.reduceSub, Nat.le_refl, hkk, hw]
      refine fin _ _ (.inr ?_) (by rw [hund, hb0]; exact g3) (.refl _ _) rfl
      simp -implicitDefEqProofs only [go_sem, Nat.reduceBEq, Nat.reduceAdd, eq_self, true_and, and_true, and_self, List.getElem?_cons_zero, List.getElem?_cons_succ, Nat.reduceLeDiff, Nat.zero_add, Nat.reduceSub, Nat.le_refl, Nat.lt_irrefl]
      try trivial
    cases htt : d.t
    · have hb0 : backW (undo W (D.drop (h' + 1))) d = put (undo W (D.drop (h' + 1))) d.n none := by simp [backW, hkk, htt]
      simp -implicitDefEqProofs only [go_sem, Nat.reduceBEq, Nat.reduceAdd, eq_self, true_and, and_true, and_self, List.getElem?_cons_zero, List.getElem?_cons_succ, Nat.reduceLeDiff, Nat.zero_add, Nat.reduceSub, Nat.le_refl, hkk, htt, h1, h2, hk1, hw]
      refine fin _ _ (.inr ?_) (by rw [hund, hb0]; exact g3.setM (hT.del d.n) (del_T d.n T) _) updS_setM rfl
      simp -implicitDefEqProofs only [go_sem, Nat.reduceBEq, Nat.reduceAdd, eq_self, true_and, and_true, and_self, List.getElem?_cons_zero, List.getElem?_cons_succ, Nat.reduceLeDiff, Nat.zero_add, Nat.reduceSub, Nat.le_refl, Nat.lt_irrefl]
      try trivial
    · have hb0 : backW (undo W (D.drop (h' + 1))) d = put (undo W (D.drop (h' + 1))) d.n (some d.w) := by simp [backW, hkk, htt]
      simp -implicitDefEqProofs only [go_sem, Nat.reduceBEq, Nat.reduceAdd, eq_self, true_and, and_true, and_self, List.getElem?_cons_zero, List.getElem?_cons_succ, Nat.reduceLeDiff, Nat.zero_add, Nat.reduceSub, Nat.le_refl, hkk, htt, h1, h2, hk1, hw]
      refine fin _ _ (.inr ?_) (by rw [hund, hb0]; exact g3.setM (hT.upd d.n d.w) (upd_T d.n d.w T) _) updS_setM rfl
      simp -implicitDefEqProofs only [go_sem, Nat.reduceBEq, Nat.reduceAdd, eq_self, true_and, and_true, and_self, List.getElem?_cons_zero, List.getElem?_cons_succ, Nat.reduceLeDiff, Nat.zero_add, Nat.reduceSub, Nat.le_refl, Nat.lt_irrefl]
      try trivial
  · have hk : k = n := by omega
    subst hk
    have hd : decide ((k : Int) ≤ (k : Int) - 1) = false := by simp; omega
    simp -implicitDefEqProofs only [go_sem, Nat.reduceBEq, Nat.reduceAdd, eq_self, true_and, and_true, and_self, List.getElem?_cons_zero, List.getElem?_cons_succ, Nat.reduceLeDiff, Nat.zero_add, Nat.reduceSub, Nat.le_refl, hd]
    refine z2 _ _ _ ?_
    simp -implicitDefEqProofs only [go_sem, Nat.reduceBEq, Nat.reduceAdd, eq_self, true_and, and_true, and_self, List.getElem?_cons_zero, List.getElem?_cons_succ, Nat.reduceLeDiff, Nat.zero_add, Nat.reduceSub, Nat.le_refl, Nat.lt_irrefl]
    refine q1 _ _ ?_
    simp -implicitDefEqProofs only [go_sem, Nat.reduceBEq, Nat.reduceAdd, eq_self, true_and, and_true, and_self, List.getElem?_cons_zero, List.getElem?_cons_succ, Nat.reduceLeDiff, Nat.zero_add, Nat.reduceSub, Nat.le_refl, Nat.lt_irrefl]
    exact ⟨g3, g4, g5⟩
theorem IsTree.setR {j n cap : Nat} (h : IsTree σ i m (.osl j n cap 14) D W) {cs : List V} {D' : List Mv} (e : cs = (D'.map mvC).flatten) (hl : D'.length = D.length) : IsTree (σ.setR j cap 14 cs) i m (.osl j n cap 14) D' W := by
  subst e
  obtain ⟨T, ver, h1, hT⟩ := h.map
  obtain ⟨hjm, hji⟩ := h.jm rfl
  have hu : UpdS (fun k => k = j) σ (σ.setR j cap 14 (D'.map mvC).flatten) := updS_setR
  refine ⟨hu.objs _ _ hji.symm h.cells, ?_, T, ver, hu.objs _ _ hjm.symm h1, hT⟩
  rcases h.row with ⟨R, q, hs, -⟩ | ⟨j', cap', hs, h4, h5, h6⟩
  · cases hs
  cases hs
  have e1 : (D.map mvC).length = (D'.map mvC).length := by simp [hl]
  rw [e1]
  refine .inr ⟨j, cap, rfl, ?_, mv_len D', by rw [← e1]; exact h6⟩
  show (σ.objs.set j _)[j]? = _
  rw [List.getElem?_set_self (List.getElem?_eq_some_iff.1 h4).1]
theorem rowIs {τ : St} {j n cap : Nat} {es : List (List V)} (h : RowOf τ (.osl j n cap 14) 14 es) : τ.objs[j]? = some (.row cap 14 es.flatten) := by
  rcases h with ⟨R, q, hs, -⟩ | ⟨j', cap', hs, h4, -⟩
  · cases hs
  · cases hs; exact h4
set_option maxHeartbeats 3200000 in
set_option maxRecDepth 100000 in
theorem redo_ok (h : IsTree σ i m s D W) {k : Nat} (hk : k < D.length) (hA : Acy W) (hl : D.length ≤ 100000000) :
    CallA Try.prog 38 [.ptr (some (i, 0)), .int .i64 k] σ fun _ σ' => IsTree σ' i m s (D.set k (mark W D[k])) (stepW W D[k]) ∧ UpdS (Own i m s) σ σ' ∧ σ'.live = σ.live := by
  obtain ⟨f, hf⟩ := hA
  refine fn_at Try.func38 (by decide) comp38 rfl fun Q q1 q2 => ?_
  rcases h.row with ⟨R, q, rfl, he⟩ | ⟨j, cap, hs, ho, -, hc⟩
  · have hD : D = [] := by simpa using he
    subst hD
    simp at hk
  have hlm : (D.map mvC).length = D.length := by simp
  subst hs
  have h1 := h.cells
  obtain ⟨T, ver, h2, hT⟩ := h.map
  obtain ⟨hjm, hji⟩ := h.jm rfl
  have hget := fun o ho => row_drop hk o ho
  have hn := hget 2 (by omega)
  have hp := hget 4 (by omega)
  generalize hd : D[k] = d at hn hp q1 q2
  have ownj : ∀ x, x = j → Own i m (.osl j (D.map mvC).length cap 14) x := by
    rintro x rfl
    exact .inr (.inr ⟨_, _, _, rfl⟩)
  have hk1 : keyFits [.agg, .int .i64, .int .i64] (.agg [.int .i64 d.n.c, .int .i64 d.n.r]) = true := rfl
  have hfi := find_T d.n T
  rw [hT.look] at hfi
  have hb : (k : Int) < (D.map mvC).length := by rw [hlm]; omega
  simp -implicitDefEqProofs only [go_sem, Nat.reduceBEq, Nat.reduceAdd, eq_self, true_and, and_true, and_self, List.getElem?_cons_zero, List.getElem?_cons_succ, Nat.reduceLeDiff, Nat.zero_add, Nat.reduceSub, Nat.le_refl, c38, h1]
  refine ⟨⟨by omega, hb⟩, ?_⟩
  have hlen : ∀ D' : List Mv, k < D'.length → ∀ {q r : Nat}, q + r ≤ 14 → k * 14 + q + r ≤ (D'.map mvC).flatten.length := fun D' h q r hq => by
    rw [flat_len' (mv_len D'), List.length_map]; omega
  have hset : ∀ cs, (σ.setR j cap 14 cs).objs[j]? = some (.row cap 14 cs) := fun cs => by
    show (σ.objs.set j _)[j]? = _
    rw [List.getElem?_set_self (List.getElem?_eq_some_iff.1 ho).1]
  cases hw : W d.n with
  | none =>
    rw [hw] at hfi
    simp -implicitDefEqProofs only [go_sem, Nat.reduceBEq, Nat.reduceAdd, eq_self, true_and, and_true, and_self, List.getElem?_cons_zero, List.getElem?_cons_succ, Nat.reduceLeDiff, Nat.zero_add, Nat.reduceSub, Nat.le_refl, h1, ho, Int.toNat_natCast, Nat.add_zero, hn, mvC, h2, hk1, hfi, Option.map_none, Option.map_some, List.drop_succ_cons, List.drop_zero, plV, plC]
    have hmk : mark W d = ⟨d.a, d.n, d.p, !ben W d.p d.n, zp, false⟩ := by simp only [mark, hw]; rfl
    obtain ⟨d1, hd1⟩ : ∃ d1 : Mv, d1 = ⟨d.a, d.n, d.p, d.k, zp, d.t⟩ := ⟨_, rfl⟩
    obtain ⟨d2, hd2⟩ : ∃ d2 : Mv, d2 = ⟨d.a, d.n, d.p, d.k, zp, false⟩ := ⟨_, rfl⟩
    have e1 := row_over hk 7 (plC zp) (by simp [plC]) (d' := d1) (by rw [hd, hd1]; rfl)
    have hk' : k < (D.set k d1).length := by simpa using hk
    have e2 := row_over hk' 13 [.bool false] (by simp) (d' := d2) (by rw [List.getElem_set_self, hd1, hd2]; rfl)
    rw [List.set_set] at e2
    simp only [over, plC, zp, zs, List.length_cons, List.length_nil, Nat.zero_add, Nat.reduceAdd] at e1 e2
    refine ⟨hlen D hk (by omega), ?_⟩
    rw [e1]
    simp -implicitDefEqProofs only [go_sem, Nat.reduceBEq, Nat.reduceAdd, eq_self, true_and, and_true, and_self, List.getElem?_cons_zero, List.getElem?_cons_succ, Nat.reduceLeDiff, Nat.zero_add, Nat.reduceSub, Nat.le_refl, hset]
    refine ⟨hlen _ hk' (by omega), ?_⟩
    rw [e2]
    have ht1 := h.setR (cs := ((D.set k d1).map mvC).flatten) rfl (by simp)
    have ht2 := ht1.setR (cs := ((D.set k d2).map mvC).flatten) rfl (by simp)
    have hu2 : UpdS (Own i m (.osl j (D.map mvC).length cap 14)) σ ((σ.setR j cap 14 ((D.set k d1).map mvC).flatten).setR j cap 14 ((D.set k d2).map mvC).flatten) :=
      (((UpdS.refl _ σ).trans updS_setR fun x hx => .inl (ownj x hx)).trans updS_setR fun x hx => .inl (ownj x hx))
    have hlv : ((σ.setR j cap 14 ((D.set k d1).map mvC).flatten).setR j cap 14 ((D.set k d2).map mvC).flatten).live = σ.live := rfl
    obtain ⟨τ, hτ⟩ : ∃ τ, τ = (σ.setR j cap 14 ((D.set k d1).map mvC).flatten).setR j cap 14 ((D.set k d2).map mvC).flatten := ⟨_, rfl⟩
    rw [← hτ] at ht2 hu2 hlv ⊢
    have hk2 : k < (D.set k d2).length := by simpa using hk
    have hg2 := fun o ho => row_drop hk2 o ho
    rw [List.getElem_set_self] at hg2
    have hn2 := hg2 2 (by omega)
    have hp2 := hg2 4 (by omega)
    have h1 := ht2.cells
    have ho := rowIs ht2.row
    simp -implicitDefEqProofs only [go_sem, Nat.reduceBEq, Nat.reduceAdd, eq_self, true_and, and_true, and_self, List.getElem?_cons_zero, List.getElem?_cons_succ, Nat.reduceLeDiff, Nat.zero_add, Nat.reduceSub, Nat.le_refl, h1, ho, Nat.add_zero, hn2, hp2, mvC, List.drop_succ_cons, List.drop_zero]
    refine call_at (beneath_ok (x := d2.p) (top := d2.n) ht2 hf) ?_
    rintro v τ3 ⟨rfl, he3, hl3⟩
    refine ⟨he3.kept, ?_⟩
    have ht3 := ht2.ext he3
    have ho3 := rowIs ht3.row
    have hc3 := ht3.cells
    obtain ⟨T3, ver3, hm3, hT3⟩ := ht3.map
    have e3 := row_over hk2 6 [.bool (!ben W d2.p d2.n)] (by simp) (d' := mark W d) (by rw [List.getElem_set_self, hmk, hd2]; rfl)
    rw [List.set_set] at e3
    simp only [over, List.length_cons, List.length_nil, Nat.zero_add, Nat.reduceAdd] at e3
    have hset3 : ∀ cs, (τ3.setR j cap 14 cs).objs[j]? = some (.row cap 14 cs) := fun cs => by
      show (τ3.objs.set j _)[j]? = _
      rw [List.getElem?_set_self (List.getElem?_eq_some_iff.1 ho3).1]
    simp -implicitDefEqProofs only [go_sem, Nat.reduceBEq, Nat.reduceAdd, eq_self, true_and, and_true, and_self, List.getElem?_cons_zero, List.getElem?_cons_succ, Nat.reduceLeDiff, Nat.zero_add, Nat.reduceSub, Nat.le_refl, ho3]
    refine ⟨hlen _ hk2 (by omega), ?_⟩
    rw [e3]
    have ht4 := ht3.setR (cs := ((D.set k (mark W d)).map mvC).flatten) rfl (by simp)
    have hu4 : UpdS (Own i m (.osl j (D.map mvC).length cap 14)) σ (τ3.setR j cap 14 ((D.set k (mark W d)).map mvC).flatten) :=
      (hu2.trans (.of (S := fun _ => False) he3) fun _ h => h.elim).trans updS_setR fun x hx => .inl (ownj x hx)
    obtain ⟨τ4, hτ4⟩ : ∃ τ4, τ4 = τ3.setR j cap 14 ((D.set k (mark W d)).map mvC).flatten := ⟨_, rfl⟩
    have hl4 : τ4.live = σ.live := by rw [hτ4]; exact hl3.trans hlv
    rw [← hτ4] at ht4 hu4 ⊢
    have h1 := ht4.cells
    have ho := rowIs ht4.row
    obtain ⟨T, ver, h2, hT⟩ := ht4.map
    have hk4 : k < (D.set k (mark W d)).length := by simpa using hk
    have hg4 := fun o ho => row_drop hk4 o ho
    rw [List.getElem_set_self] at hg4
    have ha4 := hg4 0 (by omega)
    have hn4 := hg4 2 (by omega)
    have hp4 := hg4 4 (by omega)
    have hk6 := hg4 6 (by omega)
    have hmn : (mark W d).n = d.n := rfl
    have hmp : (mark W d).p = d.p := rfl
    have hma : (mark W d).a = d.a := rfl
    have hmkk : (mark W d).k = !ben W d.p d.n := rfl
    simp only [mvC, List.drop_succ_cons, List.drop_zero, hmn, hmp, hma, hmkk, Nat.add_zero] at ha4 hn4 hp4 hk6
    have hstep : stepW W d = bif ben W d.p d.n then W else put W d.n (some (pl d)) := rfl
    cases hbb : ben W d.p d.n
    · rw [hbb] at hstep hk6
      have hup := upd_T d.n (pl d) T
      simp only [plV, plC, pl] at hup
      simp -implicitDefEqProofs only [go_sem, Nat.reduceBEq, Nat.reduceAdd, eq_self, true_and, and_true, and_self, List.getElem?_cons_zero, List.getElem?_cons_succ, Nat.reduceLeDiff, Nat.zero_add, Nat.reduceSub, Nat.le_refl, h1, ho, Nat.add_zero, hk6, hn4, hp4, ha4, h2, hk1]
      refine q1 _ _ ?_
      simp -implicitDefEqProofs only [go_sem, Nat.reduceBEq, Nat.reduceAdd, eq_self, true_and, and_true, and_self, List.getElem?_cons_zero, List.getElem?_cons_succ, Nat.reduceLeDiff, Nat.zero_add, Nat.reduceSub, Nat.le_refl, Nat.lt_irrefl]
      refine ⟨?_, ?_, hl4⟩
      · rw [hstep]
        exact ht4.setM (hT.upd d.n (pl d)) hup _
      · exact hu4.trans updS_setM fun x hx => .inl (.inr (.inl hx))
    · rw [hbb] at hstep hk6
      simp -implicitDefEqProofs only [go_sem, Nat.reduceBEq, Nat.reduceAdd, eq_self, true_and, and_true, and_self, List.getElem?_cons_zero, List.getElem?_cons_succ, Nat.reduceLeDiff, Nat.zero_add, Nat.reduceSub, Nat.le_refl, h1, ho, hk6]
      refine q1 _ _ ?_
      simp -implicitDefEqProofs only [go_sem, Nat.reduceBEq, Nat.reduceAdd, eq_self, true_and, and_true, and_self, List.getElem?_cons_zero, List.getElem?_cons_succ, Nat.reduceLeDiff, Nat.zero_add, Nat.reduceSub, Nat.le_refl, Nat.lt_irrefl]
      exact ⟨by rw [hstep]; exact ht4, hu4, hl4⟩
  | some p =>
    rw [hw] at hfi
    simp -implicitDefEqProofs only [go_sem, Nat.reduceBEq, Nat.reduceAdd, eq_self, true_and, and_true, and_self, List.getElem?_cons_zero, List.getElem?_cons_succ, Nat.reduceLeDiff, Nat.zero_add, Nat.reduceSub, Nat.le_refl, h1, ho, Int.toNat_natCast, Nat.add_zero, hn, mvC, h2, hk1, hfi, Option.map_none, Option.map_some, List.drop_succ_cons, List.drop_zero, plV, plC]
    have hmk : mark W d = ⟨d.a, d.n, d.p, !ben W d.p d.n, p, true⟩ := by simp only [mark, hw]; rfl
    obtain ⟨d1, hd1⟩ : ∃ d1 : Mv, d1 = ⟨d.a, d.n, d.p, d.k, p, d.t⟩ := ⟨_, rfl⟩
    obtain ⟨d2, hd2⟩ : ∃ d2 : Mv, d2 = ⟨d.a, d.n, d.p, d.k, p, true⟩ := ⟨_, rfl⟩
    have e1 := row_over hk 7 (plC p) (by simp [plC]) (d' := d1) (by rw [hd, hd1]; rfl)
    have hk' : k < (D.set k d1).length := by simpa using hk
    have e2 := row_over hk' 13 [.bool true] (by simp) (d' := d2) (by rw [List.getElem_set_self, hd1, hd2]; rfl)
    rw [List.set_set] at e2
    simp only [over, plC, zp, zs, List.length_cons, List.length_nil, Nat.zero_add, Nat.reduceAdd] at e1 e2
    refine ⟨hlen D hk (by omega), ?_⟩
    rw [e1]
    simp -implicitDefEqProofs only [go_sem, Nat.reduceBEq, Nat.reduceAdd, eq_self, true_and, and_true, and_self, List.getElem?_cons_zero, List.getElem?_cons_succ, Nat.reduceLeDiff, Nat.zero_add, Nat.reduceSub, Nat.le_refl, hset]
    refine ⟨hlen _ hk' (by omega), ?_⟩
    rw [e2]
    have ht1 := h.setR (cs := ((D.set k d1).map mvC).flatten) rfl (by simp)
    have ht2 := ht1.setR (cs := ((D.set k d2).map mvC).flatten) rfl (by simp)
    have hu2 : UpdS (Own i m (.osl j (D.map mvC).length cap 14)) σ ((σ.setR j cap 14 ((D.set k d1).map mvC).flatten).setR j cap 14 ((D.set k d2).map mvC).flatten) :=
      (((UpdS.refl _ σ).trans updS_setR fun x hx => .inl (ownj x hx)).trans updS_setR fun x hx => .inl (ownj x hx))
    have hlv : ((σ.setR j cap 14 ((D.set k d1).map mvC).flatten).setR j cap 14 ((D.set k d2).map mvC).flatten).live = σ.live := rfl
    obtain ⟨τ, hτ⟩ : ∃ τ, τ = (σ.setR j cap 14 ((D.set k d1).map mvC).flatten).setR j cap 14 ((D.set k d2).map mvC).flatten := ⟨_, rfl⟩
    rw [← hτ] at ht2 hu2 hlv ⊢
    have hk2 : k < (D.set k d2).length := by simpa using hk
    have hg2 := fun o ho => row_drop hk2 o ho
    rw [List.getElem_set_self] at hg2
    have hn2 := hg2 2 (by omega)
    have hp2 := hg2 4 (by omega)
    have h1 := ht2.cells
    have ho := rowIs ht2.row
    simp -implicitDefEqProofs only [go_sem, Nat.reduceBEq, Nat.reduceAdd, eq_self, true_and, and_true, and_self, List.getElem?_cons_zero, List.getElem?_cons_succ, Nat.reduceLeDiff, Nat.zero_add, Nat.reduceSub, Nat.le_refl, h1, ho, Nat.add_zero, hn2, hp2, mvC, List.drop_succ_cons, List.drop_zero]
    refine call_at (beneath_ok (x := d2.p) (top := d2.n) ht2 hf) ?_
    rintro v τ3 ⟨rfl, he3, hl3⟩
    refine ⟨he3.kept, ?_⟩
    have ht3 := ht2.ext he3
    have ho3 := rowIs ht3.row
    have hc3 := ht3.cells
    obtain ⟨T3, ver3, hm3, hT3⟩ := ht3.map
    have e3 := row_over hk2 6 [.bool (!ben W d2.p d2.n)] (by simp) (d' := mark W d) (by rw [List.getElem_set_self, hmk, hd2]; rfl)
    rw [List.set_set] at e3
    simp only [over, List.length_cons, List.length_nil, Nat.zero_add, Nat.reduceAdd] at e3
    have hset3 : ∀ cs, (τ3.setR j cap 14 cs).objs[j]? = some (.row cap 14 cs) := fun cs => by
      show (τ3.objs.set j _)[j]? = _
      rw [List.getElem?_set_self (List.getElem?_eq_some_iff.1 ho3).1]
    simp -implicitDefEqProofs only [go_sem, Nat.reduceBEq, Nat.reduceAdd, eq_self, true_and, and_true, and_self, List.getElem?_cons_zero, List.getElem?_cons_succ, Nat.reduceLeDiff, Nat.zero_add, Nat.reduceSub, Nat.le_refl, ho3]
    refine ⟨hlen _ hk2 (by omega), ?_⟩
    rw [e3]
    have ht4 := ht3.setR (cs := ((D.set k (mark W d)).map mvC).flatten) rfl (by simp)
    have hu4 : UpdS (Own i m (.osl j (D.map mvC).length cap 14)) σ (τ3.setR j cap 14 ((D.set k (mark W d)).map mvC).flatten) :=
      (hu2.trans (.of (S := fun _ => False) he3) fun _ h => h.elim).trans updS_setR fun x hx => .inl (ownj x hx)
    obtain ⟨τ4, hτ4⟩ : ∃ τ4, τ4 = τ3.setR j cap 14 ((D.set k (mark W d)).map mvC).flatten := ⟨_, rfl⟩
    have hl4 : τ4.live = σ.live := by rw [hτ4]; exact hl3.trans hlv
    rw [← hτ4] at ht4 hu4 ⊢
    have h1 := ht4.cells
    have ho := rowIs ht4.row
    obtain ⟨T, ver, h2, hT⟩ := ht4.map
    have hk4 : k < (D.set k (mark W d)).length := by simpa using hk
    have hg4 := fun o ho => row_drop hk4 o ho
    rw [List.getElem_set_self] at hg4
    have ha4 := hg4 0 (by omega)
    have hn4 := hg4 2 (by omega)
    have hp4 := hg4 4 (by omega)
    have hk6 := hg4 6 (by omega)
    have hmn : (mark W d).n = d.n := rfl
    have hmp : (mark W d).p = d.p := rfl
    have hma : (mark W d).a = d.a := rfl
    have hmkk : (mark W d).k = !ben W d.p d.n := rfl
    simp only [mvC, List.drop_succ_cons, List.drop_zero, hmn, hmp, hma, hmkk, Nat.add_zero] at ha4 hn4 hp4 hk6
    have hstep : stepW W d = bif ben W d.p d.n then W else put W d.n (some (pl d)) := rfl
    cases hbb : ben W d.p d.n
    · rw [hbb] at hstep hk6
      have hup := upd_T d.n (pl d) T
      simp only [plV, plC, pl] at hup
      simp -implicitDefEqProofs only [go_sem, Nat.reduceBEq, Nat.reduceAdd, eq_self, true_and, and_true, and_self, List.getElem?_cons_zero, List.getElem?_cons_succ, Nat.reduceLeDiff, Nat.zero_add, Nat.reduceSub, Nat.le_refl, h1, ho, Nat.add_zero, hk6, hn4, hp4, ha4, h2, hk1]
      refine q1 _ _ ?_
      simp -implicitDefEqProofs only [go_sem, Nat.reduceBEq, Nat.reduceAdd, eq_self, true_and, and_true, and_self, List.getElem?_cons_zero, List.getElem?_cons_succ, Nat.reduceLeDiff, Nat.zero_add, Nat.reduceSub, Nat.le_refl, Nat.lt_irrefl]
      refine ⟨?_, ?_, hl4⟩
      · rw [hstep]
        exact ht4.setM (hT.upd d.n (pl d)) hup _
      · exact hu4.trans updS_setM fun x hx => .inl (.inr (.inl hx))
    · rw [hbb] at hstep hk6
      simp -implicitDefEqProofs only [go_sem, Nat.reduceBEq, Nat.reduceAdd, eq_self, true_and, and_true, and_self, List.getElem?_cons_zero, List.getElem?_cons_succ, Nat.reduceLeDiff, Nat.zero_add, Nat.reduceSub, Nat.le_refl, h1, ho, hk6]
      refine q1 _ _ ?_
      simp -implicitDefEqProofs only [go_sem, Nat.reduceBEq, Nat.reduceAdd, eq_self, true_and, and_true, and_self, List.getElem?_cons_zero, List.getElem?_cons_succ, Nat.reduceLeDiff, Nat.zero_add, Nat.reduceSub, Nat.le_refl, Nat.lt_irrefl]
      exact ⟨by rw [hstep]; exact ht4, hu4, hl4⟩
end
end Go.VL.mov

namespace Go.VL.mov
open Go Go.VL Go.Proofs Go.IntWalk

theorem srt_core {D D' : List Mv} (h : D.map core = D'.map core) (hs : Srt D) : Srt D' := by
  have e : ∀ D : List Mv, Srt D ↔ (D.map core).Pairwise fun x y => less x.a y.a = true := fun D => by
    rw [List.pairwise_map]; exact Iff.rfl
  rw [e] at hs ⊢
  rw [← h]; exact hs
theorem srt_ins {x : Mv} : ∀ {D : List Mv}, Srt D → at? x.a D = false → Srt (D.take (ix x.a D) ++ x :: D.drop (ix x.a D))
  | [], _, _ => by simp [Srt, ix]
  | y :: D, hs, ha => by
    obtain ⟨h1, h2⟩ := List.pairwise_cons.1 hs
    have hsD : Srt D := h2
    simp only [ix, at?] at ha ⊢
    rcases Bool.eq_false_or_eq_true (less y.a x.a) with hx | hx
    · rw [hx] at ha ⊢
      simp only [cond_true, List.getElem?_cons_succ, List.take_succ_cons, List.drop_succ_cons, List.cons_append] at ha ⊢
      refine List.pairwise_cons.2 ⟨fun z hz => ?_, srt_ins h2 ha⟩
      rcases List.mem_append.1 hz with hz | hz
      · exact h1 z (List.mem_of_mem_take hz)
      · rcases List.mem_cons.1 hz with hz | hz
        · rw [hz]; exact hx
        · exact h1 z (List.mem_of_mem_drop hz)
    · rw [hx] at ha ⊢
      simp only [cond_false, List.getElem?_cons_zero, List.take_zero, List.drop_zero, List.nil_append, decide_eq_false_iff_not] at ha ⊢
      have hxy : less x.a y.a = true := by
        cases hh : less x.a y.a with
        | true => rfl
        | false => exact absurd (less_total hx hh) ha
      refine List.pairwise_cons.2 ⟨fun z hz => ?_, hs⟩
      rcases List.mem_cons.1 hz with hz | hz
      · rw [hz]; exact hxy
      · exact less_trans hxy (h1 z hz)
/-- The first so many are done. -/
noncomputable def mix (D : List Mv) (k : Nat) : List Mv := runD W0 (D.take k) ++ D.drop k
theorem mix_len (D : List Mv) (k : Nat) : (mix D k).length = D.length := by
  simp only [mix, List.length_append, runD_length, List.length_take, List.length_drop]; omega
theorem mix_get {D : List Mv} {k : Nat} (h : k < D.length) (h' : k < (mix D k).length) : (mix D k)[k] = D[k] := by
  have hl : (runD W0 (D.take k)).length = k := by rw [runD_length, List.length_take]; omega
  simp only [mix]
  rw [List.getElem_append_right (by omega)]
  simp [hl]
theorem run_take {D : List Mv} {k : Nat} (h : k < D.length) : runT W0 (D.take (k + 1)) = stepW (runT W0 (D.take k)) D[k] ∧ runD W0 (D.take (k + 1)) = runD W0 (D.take k) ++ [mark (runT W0 (D.take k)) D[k]] := by
  rw [List.take_succ_eq_append_getElem h, runT_append, runD_append]
  exact ⟨rfl, rfl⟩
theorem mix_set {D : List Mv} {k : Nat} (h : k < D.length) : (mix D k).set k (mark (runT W0 (D.take k)) D[k]) = mix D (k + 1) := by
  have hl : (runD W0 (D.take k)).length = k := by rw [runD_length, List.length_take]; omega
  simp only [mix]
  rw [(run_take h).2, List.set_append_right _ _ (by omega), hl, Nat.sub_self, List.drop_eq_getElem_cons h, List.set_cons_zero, List.append_assoc]
  rfl
theorem mix_end (D : List Mv) : mix D D.length = runD W0 D := by simp [mix]
theorem acyT (D : List Mv) : Acy (runT W0 D) := acy0.run D

/-- A tree of moves done in order. -/
structure TreeIs (σ : St) (i m : Nat) (s : V) (D : List Mv) : Prop where
  tree : IsTree σ i m s D (runT W0 D)
  runs : Runs W0 D
  srt : Srt D
/-- What there is of a tree behind a call. -/
structure TreeTo (σ σ' : St) (i m : Nat) (s s' : V) : Prop where
  upd : UpdS (Own i m s) σ σ'
  own : ∀ k, Own i m s' k → Own i m s k ∨ σ.objs.length ≤ k
theorem TreeTo.refl (σ : St) (i m : Nat) (s : V) : TreeTo σ σ i m s s := ⟨.refl _ _, fun _ h => .inl h⟩
theorem TreeTo.trans {a b c : St} {i m : Nat} {s s' s'' : V} (h : TreeTo a b i m s s') (k : TreeTo b c i m s' s'') : TreeTo a c i m s s'' :=
  ⟨h.upd.trans k.upd h.own, fun j hj => (k.own j hj).elim (h.own j) fun hl => .inr (Nat.le_trans h.upd.olen hl)⟩

def newM (a n p : Sp) : Mv := ⟨a, n, p, false, zp, false⟩
def okF (a n p : Sp) : Bool := right a && (right n && nodeB p)
def doE (D : List Mv) (a n p : Sp) : Int := bif okF a n p then (bif at? a D then 5 else 0) else 2
/-- With one more. -/
def insD (D : List Mv) (x : Mv) : List Mv := D.take (ix x.a D) ++ x :: D.drop (ix x.a D)
noncomputable def doD (D : List Mv) (a n p : Sp) : List Mv := bif okF a n p && !at? a D then runD W0 (insD D (newM a n p)) else D
theorem insD_length (D : List Mv) (x : Mv) : (insD D x).length = D.length + 1 := by
  have := ix_le x.a D
  simp only [insD, List.length_append, List.length_take, List.length_cons, List.length_drop]; omega
theorem doD_le (D : List Mv) (a n p : Sp) : (doD D a n p).length ≤ D.length + 1 := by
  unfold doD
  cases okF a n p && !at? a D
  · exact Nat.le_succ _
  · simp only [cond_true, runD_length, insD_length, Nat.le_refl]

section
variable {σ : St} {i m : Nat} {s : V} {D : List Mv} {a n p : Sp}
set_option maxRecDepth 100000 in
theorem do_nil : CallA Try.prog 16 [.ptr none, spV a, spV n, spV p] σ fun v σ' => v = .int .i64 7 ∧ σ' = σ := by
  refine fn_at Try.func16 (by decide) comp16 rfl fun Q q1 q2 => ?_
  simp -implicitDefEqProofs only [go_sem, Nat.reduceBEq, Nat.reduceAdd, eq_self, true_and, and_true, and_self, List.getElem?_cons_zero, List.getElem?_cons_succ, Nat.reduceLeDiff, Nat.zero_add, Nat.reduceSub, Nat.le_refl, c16, spV, spC]
  refine q2 _ _ ?_
  simp -implicitDefEqProofs only [go_sem, Nat.reduceBEq, Nat.reduceAdd, eq_self, true_and, and_true, and_self, List.getElem?_cons_zero, List.getElem?_cons_succ, Nat.reduceLeDiff, Nat.zero_add, Nat.reduceSub, Nat.le_refl, Nat.lt_irrefl]
  try first | exact ⟨trivial, trivial⟩ | exact ⟨trivial, rfl⟩ | exact ⟨rfl, rfl⟩ | exact ⟨rfl, trivial⟩ | trivial
set_option maxHeartbeats 3200000 in
set_option maxRecDepth 100000 in
theorem do_ok (h : TreeIs σ i m s D) (hl : D.length ≤ 1000000) :
    CallA Try.prog 16 [.ptr (some (i, 0)), spV a, spV n, spV p] σ fun v σ' => v = .int .i64 (doE D a n p) ∧ ∃ s', TreeIs σ' i m s' (doD D a n p) ∧ TreeTo σ σ' i m s s' := by
  refine fn_at Try.func16 (by decide) comp16 rfl fun Q q1 q2 => ?_
  have bad : okF a n p = false → doE D a n p = 2 ∧ doD D a n p = D := fun e => by simp [doE, doD, e]
  simp -implicitDefEqProofs only [go_sem, Nat.reduceBEq, Nat.reduceAdd, eq_self, true_and, and_true, and_self, List.getElem?_cons_zero, List.getElem?_cons_succ, Nat.reduceLeDiff, Nat.zero_add, Nat.reduceSub, Nat.le_refl, c16, spV, spC]
  refine call_at (right_ok (s := a)) ?_
  rintro v τ ⟨rfl, rfl⟩
  refine ⟨kept_none, ?_⟩
  cases ha : right a
  · obtain ⟨b1, b2⟩ := bad (by simp [okF, ha])
    rw [b1, b2] at q2
    simp -implicitDefEqProofs only [go_sem, Nat.reduceBEq, Nat.reduceAdd, eq_self, true_and, and_true, and_self, List.getElem?_cons_zero, List.getElem?_cons_succ, Nat.reduceLeDiff, Nat.zero_add, Nat.reduceSub, Nat.le_refl, ha]
    refine q2 _ _ ?_
    simp -implicitDefEqProofs only [go_sem, Nat.reduceBEq, Nat.reduceAdd, eq_self, true_and, and_true, and_self, List.getElem?_cons_zero, List.getElem?_cons_succ, Nat.reduceLeDiff, Nat.zero_add, Nat.reduceSub, Nat.le_refl, Nat.lt_irrefl]
    exact ⟨s, h, .refl _ _ _ _⟩
  simp -implicitDefEqProofs only [go_sem, Nat.reduceBEq, Nat.reduceAdd, eq_self, true_and, and_true, and_self, List.getElem?_cons_zero, List.getElem?_cons_succ, Nat.reduceLeDiff, Nat.zero_add, Nat.reduceSub, Nat.le_refl, ha]
  refine call_at (right_ok (s := n)) ?_
  rintro v τ ⟨rfl, rfl⟩
  refine ⟨kept_none, ?_⟩
  cases hn : right n
  · obtain ⟨b1, b2⟩ := bad (by simp [okF, hn])
    rw [b1, b2] at q2
    simp -implicitDefEqProofs only [go_sem, Nat.reduceBEq, Nat.reduceAdd, eq_self, true_and, and_true, and_self, List.getElem?_cons_zero, List.getElem?_cons_succ, Nat.reduceLeDiff, Nat.zero_add, Nat.reduceSub, Nat.le_refl, hn]
    refine q2 _ _ ?_
    simp -implicitDefEqProofs only [go_sem, Nat.reduceBEq, Nat.reduceAdd, eq_self, true_and, and_true, and_self, List.getElem?_cons_zero, List.getElem?_cons_succ, Nat.reduceLeDiff, Nat.zero_add, Nat.reduceSub, Nat.le_refl, Nat.lt_irrefl]
    exact ⟨s, h, .refl _ _ _ _⟩
  simp -implicitDefEqProofs only [go_sem, Nat.reduceBEq, Nat.reduceAdd, eq_self, true_and, and_true, and_self, List.getElem?_cons_zero, List.getElem?_cons_succ, Nat.reduceLeDiff, Nat.zero_add, Nat.reduceSub, Nat.le_refl, hn]
  refine call_at (node_ok (x := p)) ?_
  rintro v τ ⟨rfl, rfl⟩
  refine ⟨kept_none, ?_⟩
  cases hp : nodeB p
  · obtain ⟨b1, b2⟩ := bad (by simp [okF, hp])
    rw [b1, b2] at q2
    simp -implicitDefEqProofs only [go_sem, Nat.reduceBEq, Nat.reduceAdd, eq_self, true_and, and_true, and_self, List.getElem?_cons_zero, List.getElem?_cons_succ, Nat.reduceLeDiff, Nat.zero_add, Nat.reduceSub, Nat.le_refl, hp]
    refine q2 _ _ ?_
    simp -implicitDefEqProofs only [go_sem, Nat.reduceBEq, Nat.reduceAdd, eq_self, true_and, and_true, and_self, List.getElem?_cons_zero, List.getElem?_cons_succ, Nat.reduceLeDiff, Nat.zero_add, Nat.reduceSub, Nat.le_refl, Nat.lt_irrefl]
    exact ⟨s, h, .refl _ _ _ _⟩
  have hok : okF a n p = true := by simp [okF, ha, hn, hp]
  simp -implicitDefEqProofs only [go_sem, Nat.reduceBEq, Nat.reduceAdd, eq_self, true_and, and_true, and_self, List.getElem?_cons_zero, List.getElem?_cons_succ, Nat.reduceLeDiff, Nat.zero_add, Nat.reduceSub, Nat.le_refl, hp]
  refine call_at (place_ok (a := a) h.tree h.srt (by omega)) ?_
  rintro v τ ⟨rfl, rfl⟩
  refine ⟨kept_none, ?_⟩
  cases hat : at? a D
  case true =>
    have b1 : doE D a n p = 5 ∧ doD D a n p = D := by simp [doE, doD, hok, hat]
    rw [b1.1, b1.2] at q2
    simp -implicitDefEqProofs only [go_sem, Nat.reduceBEq, Nat.reduceAdd, eq_self, true_and, and_true, and_self, List.getElem?_cons_zero, List.getElem?_cons_succ, Nat.reduceLeDiff, Nat.zero_add, Nat.reduceSub, Nat.le_refl, hat]
    refine q2 _ _ ?_
    simp -implicitDefEqProofs only [go_sem, Nat.reduceBEq, Nat.reduceAdd, eq_self, true_and, and_true, and_self, List.getElem?_cons_zero, List.getElem?_cons_succ, Nat.reduceLeDiff, Nat.zero_add, Nat.reduceSub, Nat.le_refl, Nat.lt_irrefl]
    exact ⟨s, h, .refl _ _ _ _⟩
  have b1 : doE D a n p = 0 ∧ doD D a n p = runD W0 (insD D (newM a n p)) := by simp [doE, doD, hok, hat]
  rw [b1.1, b1.2] at q2
  have hle := ix_le a D
  simp -implicitDefEqProofs only [go_sem, Nat.reduceBEq, Nat.reduceAdd, eq_self, true_and, and_true, and_self, List.getElem?_cons_zero, List.getElem?_cons_succ, Nat.reduceLeDiff, Nat.zero_add, Nat.reduceSub, Nat.le_refl, hat]
  refine call_at (back_ok h.tree (n := ix a D) hle (by omega)) ?_
  rintro v τ1 ⟨ht1, hu1, hl1⟩
  refine ⟨kept_none, ?_⟩
  have hrr := (runs_append (W := W0) (A := D.take (ix a D)) (B := D.drop (ix a D))).1 (by rw [List.take_append_drop]; exact h.runs)
  have hund : undo (runT W0 D) (D.drop (ix a D)) = runT W0 (D.take (ix a D)) := by
    have := undo_run _ _ hrr.2
    rw [← runT_append, List.take_append_drop] at this
    exact this
  rw [hund] at ht1
  have h1 := ht1.cells
  simp -implicitDefEqProofs only [go_sem, Nat.reduceBEq, Nat.reduceAdd, eq_self, true_and, and_true, and_self, List.getElem?_cons_zero, List.getElem?_cons_succ, Nat.reduceLeDiff, Nat.zero_add, Nat.reduceSub, Nat.le_refl, h1, flats, V.flat]
  have hlit : (⟨τ1.objs, τ1.live ++ [true]⟩ : St).live[τ1.live.length]? = some true := by simp
  have hrow : RowOf ⟨τ1.objs, τ1.live ++ [true]⟩ s 14 (D.map mvC) := ht1.row
  have hins := ins_ok (x := mvC (newM a n p)) hrow (i := ix a D) (by simpa using hle) (by rw [List.length_map]; omega) hlit rfl
  refine call_at hins ?_
  rintro v τ2 ⟨hr2, hto2, j, cap, rfl, hj⟩
  have hDm : D.take (ix a D) ++ newM a n p :: D.drop (ix a D) = insD D (newM a n p) := rfl
  rw [← List.map_take, ← List.map_drop, ← List.map_cons, ← List.map_append, hDm] at hr2
  have hDl := insD_length D (newM a n p)
  have hDt : (insD D (newM a n p)).take (ix a D) = D.take (ix a D) := by
    show (D.take (ix a D) ++ newM a n p :: D.drop (ix a D)).take _ = _
    rw [List.take_append_of_le_length (by rw [List.length_take]; omega), List.take_take, Nat.min_self]
  have hsrt : Srt (insD D (newM a n p)) := srt_ins h.srt hat
  generalize hs1 : V.osl j ((D.map mvC).length + 1) cap 14 = s1 at hr2
  have hui : UpdS (Own i m s) (⟨τ1.objs, τ1.live ++ [true]⟩ : St) τ2 :=
    ⟨fun k o hk ho => hto2.2.2 k o (fun n cap z e => hk (.inr (.inr ⟨n, cap, z, e⟩))) ho, fun r hr => by rw [hto2.1]; exact hr, hto2.2.1, by rw [hto2.1]; exact Nat.le_refl _⟩
  have hci : τ2.objs[i]? = some (.cells [s, .map (some m)]) := hto2.2.2 i _ (fun n cap z e => (ht1.jm e).2 rfl) h1
  have hmi : ∀ o, τ1.objs[m]? = some o → τ2.objs[m]? = some o := fun o => hto2.2.2 m _ (fun n cap z e => (ht1.jm e).1 rfl)
  have hil := (List.getElem?_eq_some_iff.1 hci).1
  have ht3 : IsTree (τ2.setC i [s1, .map (some m)]) i m s1 (insD D (newM a n p)) (runT W0 (D.take (ix a D))) := by
    obtain ⟨T, ver, k1, k2⟩ := ht1.map
    have hu : UpdS (fun k => k = i) τ2 (τ2.setC i [s1, .map (some m)]) := updS_setC
    refine ⟨setC_get hil, rowOf_up hr2 hu fun k n' cap' z e => ?_, T, ver, hu.objs _ _ ht1.im.symm (hmi _ k1), k2⟩
    rcases hr2 with ⟨R, q, hs, -⟩ | ⟨j', cap', hs, h4, -⟩
    · rw [e] at hs; cases hs
    · rw [e] at hs
      cases hs
      intro e2
      rw [e2, hci] at h4; cases h4
  have hu3 : UpdS (Own i m s) τ (τ2.setC i [s1, .map (some m)]) :=
    ((((UpdS.refl _ τ).trans hu1 fun k hk => .inl (.inr (.inl hk))).trans (UpdS.of (S := fun _ => False) (ext_live τ1 true)) fun _ h => h.elim).trans hui fun _ h => .inl h).trans updS_setC fun k hk => .inl (.inl hk)
  have hown : ∀ k, Own i m s1 k → Own i m s k ∨ τ.objs.length ≤ k := by
    rintro k (hk | hk | ⟨n', cap', z, hk⟩)
    · exact .inl (.inl hk)
    · exact .inl (.inr (.inl hk))
    · rw [← hs1] at hk
      cases hk
      rcases hj with ⟨n2, cap2, hj⟩ | hj
      · exact .inl (.inr (.inr ⟨_, _, _, hj⟩))
      · exact .inr (Nat.le_trans hu1.olen hj)
  have hmix : mix (insD D (newM a n p)) (ix a D) = insD D (newM a n p) := by
    have := hrr.1
    simp only [mix, hDt]
    rw [this]
    conv => rhs; rw [← List.take_append_drop (ix a D) (insD D (newM a n p)), hDt]
  refine ⟨fun L hL => by cases hL; exact ⟨fun k hk o ho => by rw [List.mem_singleton] at hk; subst hk; exact hto2.2.2 k o (fun n cap z e => (ht1.jm e).2 rfl) ho, fun r hr => by rw [hto2.1]; exact hr⟩, ?_⟩
  have hlm : ((D.map mvC).length + 1 : Nat) = (insD D (newM a n p)).length := by rw [hDl, List.length_map]
  subst hs1
  rw [hlm] at *
  simp -implicitDefEqProofs only [go_sem, Nat.reduceBEq, Nat.reduceAdd, eq_self, true_and, and_true, and_self, List.getElem?_cons_zero, List.getElem?_cons_succ, Nat.reduceLeDiff, Nat.zero_add, Nat.reduceSub, Nat.le_refl, hci, flats, V.flat]
  generalize insD D (newM a n p) = D1 at *
  generalize hs1 : V.osl j D1.length cap 14 = s1 at *
  generalize τ2.setC i [s1, .map (some m)] = τ3 at *
  refine loop_at (fun (k : Nat) => ⟨[(0, .v (.ptr (some (i, 0)))), (8, .v (.int .i64 0)), (9, .v (.int .i64 k))], []⟩)
    (fun k τ' => k ≤ D1.length ∧ IsTree τ' i m s1 (mix D1 k) (runT W0 (D1.take k)) ∧ UpdS (Own i m s1) τ3 τ') (fun k => D1.length - k) (ix a D) ?_ ?_ ?_
  · refine .inr ?_
    simp -implicitDefEqProofs only [go_sem, Nat.reduceBEq, Nat.reduceAdd, eq_self, true_and, and_true, and_self, List.getElem?_cons_zero, List.getElem?_cons_succ, Nat.reduceLeDiff, Nat.zero_add, Nat.reduceSub, Nat.le_refl, Nat.lt_irrefl]
    try trivial
  · exact ⟨by omega, by rw [hmix, hDt]; exact ht3, .refl _ _⟩
  rintro k τ' ⟨g1, g2, g3⟩ Z z1 z2 z3
  have h1 := g2.cells
  subst hs1
  simp -implicitDefEqProofs only [go_sem, Nat.reduceBEq, Nat.reduceAdd, eq_self, true_and, and_true, and_self, List.getElem?_cons_zero, List.getElem?_cons_succ, Nat.reduceLeDiff, Nat.zero_add, Nat.reduceSub, Nat.le_refl, h1]
  by_cases hk : k < D1.length
  · have hd : decide ((k : Int) < D1.length) = true := by simp; omega
    have hw : IntKind.i64.wrap ((k : Int) + 1) = ((k + 1 : Nat) : Int) := by rw [i64_in _ (by omega)]; omega
    have hkm : k < (mix D1 k).length := by rw [mix_len]; exact hk
    simp -implicitDefEqProofs only [go_sem, Nat.reduceBEq, Nat.reduceAdd, eq_self, true_and, and_true, and_self, List.getElem?_cons_zero, List.getElem?_cons_succ, Nat.reduceLeDiff, Nat.zero_add, Nat.reduceSub, Nat.le_refl, hd]
    refine call_at (redo_ok g2 hkm (acyT _) (by rw [mix_len]; omega)) ?_
    rintro v τ4 ⟨ht4, hu4, -⟩
    refine ⟨kept_none, ?_⟩
    rw [mix_get hk hkm, mix_set hk, ← (run_take hk).1] at ht4
    simp -implicitDefEqProofs only [go_sem, Nat.reduceBEq, Nat.reduceAdd, eq_self, true_and, and_true, and_self, List.getElem?_cons_zero, List.getElem?_cons_succ, Nat.reduceLeDiff, Nat.zero_add, Nat.reduceSub, Nat.le_refl, hw]
    refine z1 (k + 1) _ _ (.inr ?_) (by omega) ⟨by omega, ht4, g3.trans hu4 fun _ h => .inl h⟩
    simp -implicitDefEqProofs only [go_sem, Nat.reduceBEq, Nat.reduceAdd, eq_self, true_and, and_true, and_self, List.getElem?_cons_zero, List.getElem?_cons_succ, Nat.reduceLeDiff, Nat.zero_add, Nat.reduceSub, Nat.le_refl, Nat.lt_irrefl]
    try trivial
  · have hd : decide ((k : Int) < D1.length) = false := by simp; omega
    have hk' : k = D1.length := by omega
    subst hk'
    rw [mix_end, List.take_length] at g2
    simp -implicitDefEqProofs only [go_sem, Nat.reduceBEq, Nat.reduceAdd, eq_self, true_and, and_true, and_self, List.getElem?_cons_zero, List.getElem?_cons_succ, Nat.reduceLeDiff, Nat.zero_add, Nat.reduceSub, Nat.le_refl, hd]
    refine z2 _ _ _ ?_
    simp -implicitDefEqProofs only [go_sem, Nat.reduceBEq, Nat.reduceAdd, eq_self, true_and, and_true, and_self, List.getElem?_cons_zero, List.getElem?_cons_succ, Nat.reduceLeDiff, Nat.zero_add, Nat.reduceSub, Nat.le_refl, Nat.lt_irrefl]
    refine q2 _ _ ?_
    simp -implicitDefEqProofs only [go_sem, Nat.reduceBEq, Nat.reduceAdd, eq_self, true_and, and_true, and_self, List.getElem?_cons_zero, List.getElem?_cons_succ, Nat.reduceLeDiff, Nat.zero_add, Nat.reduceSub, Nat.le_refl, Nat.lt_irrefl]
    refine ⟨_, ⟨?_, runD_runD _ _, srt_core (core_runD _ _).symm hsrt⟩, hu3.trans g3 hown, hown⟩
    rw [runT_runD]; exact g2
end
end Go.VL.mov

namespace Go.VL.mov
open Go Go.VL Go.Proofs
/-- topiary/topiarylaw11.MovesLast: 1 parameters, 92 slots. -/
def c3 : C :=
  .seq (.ops [⟨none, .mv 2 (.c (.bool false))⟩])
  (.seq (.ops [⟨none, .mv 11 (.t 0)⟩,
    ⟨none, .ca (some 12) 11 [(.t 11)]⟩,
    ⟨none, .mv 10 (.t 12)⟩,
    ⟨none, .ex 13 (.t 10) 0⟩,
    ⟨none, .ex 14 (.t 10) 1⟩,
    ⟨none, .mv 3 (.t 13)⟩,
    ⟨none, .mv 4 (.t 14)⟩])
  (.seq (.seq (.ops [⟨none, .mv 5 (.c (.int .i64 0))⟩])
  (.block 0 (.loop (.seq (.seq (.ops [⟨none, .mv 15 (.t 5)⟩,
    ⟨none, .mv 16 (.t 4)⟩,
    ⟨none, .ln 17 .sl (.t 16)⟩,
    ⟨none, .bi 18 .lss (.t 15) (.t 17)⟩])
  (.cond (.t 18) (.skip)
    (.exit 0)))
  (.seq (.block 1 (.seq (.ops [⟨none, .mv 6 (.c (.int .i64 (-1)))⟩])
  (.seq (.seq (.ops [⟨none, .mv 7 (.c (.int .i64 0))⟩])
  (.block 2 (.loop (.seq (.seq (.ops [⟨none, .mv 21 (.t 7)⟩,
    ⟨none, .mv 22 (.t 4)⟩,
    ⟨none, .ln 23 .sl (.t 22)⟩,
    ⟨none, .bi 24 .lss (.t 21) (.t 23)⟩])
  (.cond (.t 24) (.skip)
    (.exit 2)))
  (.cut (.block 3 (.seq (.opsD [⟨none, .mv 27 (.t 4)⟩,
    ⟨none, .mv 28 (.t 7)⟩,
    ⟨none, .ia 29 (.t 27) (.t 28) 7⟩,
    ⟨none, .fa 30 (.t 29) 2⟩,
    ⟨none, .ld 31 (.t 30) 2 true⟩,
    ⟨none, .mv 32 (.t 4)⟩,
    ⟨none, .mv 33 (.t 5)⟩,
    ⟨none, .ia 34 (.t 32) (.t 33) 7⟩,
    ⟨none, .fa 35 (.t 34) 2⟩,
    ⟨none, .ld 36 (.t 35) 2 true⟩,
    ⟨none, .be 37 false [.int .i64, .int .i64] (.t 31) (.t 36)⟩,
    ⟨none, .mv 38 (.t 37)⟩,
    ⟨some (38, true), .mv 39 (.t 3)⟩,
    ⟨some (38, true), .mv 40 (.t 4)⟩,
    ⟨some (38, true), .mv 41 (.t 7)⟩,
    ⟨some (38, true), .ia 42 (.t 40) (.t 41) 7⟩,
    ⟨some (38, true), .fa 43 (.t 42) 0⟩,
    ⟨some (38, true), .ld 44 (.t 43) 2 true⟩,
    ⟨some (38, true), .ca (some 45) 12 [(.t 39), (.t 44)]⟩,
    ⟨none, .pk 46 (.t 38) (.t 45) (.c (.bool false))⟩])
  (.cond (.t 46) (.ops [⟨none, .mv 47 (.t 7)⟩,
      ⟨none, .mv 6 (.t 47)⟩])
    (.skip))))
  (.ops [⟨none, .mv 25 (.t 7)⟩,
    ⟨none, .bi 26 .add (.t 25) (.c (.int .i64 1))⟩,
    ⟨none, .mv 7 (.t 26)⟩]))))))
  (.seq (.ops [⟨none, .mv 49 (.t 3)⟩,
    ⟨none, .mv 50 (.t 4)⟩,
    ⟨none, .mv 51 (.t 5)⟩,
    ⟨none, .ia 52 (.t 50) (.t 51) 7⟩,
    ⟨none, .fa 53 (.t 52) 2⟩,
    ⟨none, .ld 54 (.t 53) 2 true⟩,
    ⟨none, .ca (some 55) 13 [(.t 49), (.t 54)]⟩,
    ⟨none, .mv 48 (.t 55)⟩,
    ⟨none, .ex 56 (.t 48) 0⟩,
    ⟨none, .ex 57 (.t 48) 1⟩,
    ⟨none, .alL 8 [.int .i64 0, .int .i64 0, .int .i64 0, .int .i64 0, .int .i64 0, .int .i64 0]⟩,
    ⟨none, .st (.t 8) (.t 56) 6⟩,
    ⟨none, .mv 9 (.t 57)⟩])
  (.seq (.opsD [⟨none, .mv 58 (.t 6)⟩,
    ⟨none, .bi 59 .lss (.t 58) (.c (.int .i64 0))⟩,
    ⟨none, .mv 60 (.t 59)⟩,
    ⟨some (60, true), .mv 61 (.t 9)⟩,
    ⟨none, .pk 62 (.t 60) (.t 61) (.c (.bool false))⟩,
    ⟨none, .mv 63 (.t 62)⟩,
    ⟨some (63, false), .mv 64 (.t 6)⟩,
    ⟨some (63, false), .bi 65 .geq (.t 64) (.c (.int .i64 0))⟩,
    ⟨some (63, false), .mv 66 (.t 65)⟩,
    ⟨some (66, true), .mv 67 (.t 9)⟩,
    ⟨some (66, true), .un 68 .not (.t 67)⟩,
    ⟨some (66, true), .mv 69 (.t 68)⟩,
    ⟨some (69, false), .ld 70 (.t 8) 6 true⟩,
    ⟨some (69, false), .mv 71 (.t 4)⟩,
    ⟨some (69, false), .mv 72 (.t 5)⟩,
    ⟨some (69, false), .ia 73 (.t 71) (.t 72) 7⟩,
    ⟨some (69, false), .fa 74 (.t 73) 2⟩,
    ⟨some (69, false), .ld 75 (.t 74) 2 true⟩,
    ⟨some (69, false), .mv 76 (.t 4)⟩,
    ⟨some (69, false), .mv 77 (.t 6)⟩,
    ⟨some (69, false), .ia 78 (.t 76) (.t 77) 7⟩,
    ⟨some (69, false), .fa 79 (.t 78) 4⟩,
    ⟨some (69, false), .ld 80 (.t 79) 2 true⟩,
    ⟨some (69, false), .mv 81 (.t 4)⟩,
    ⟨some (69, false), .mv 82 (.t 6)⟩,
    ⟨some (69, false), .ia 83 (.t 81) (.t 82) 7⟩,
    ⟨some (69, false), .fa 84 (.t 83) 0⟩,
    ⟨some (69, false), .ld 85 (.t 84) 2 true⟩,
    ⟨some (69, false), .bld 86 [.int .i64 0, .int .i64 0, .int .i64 0, .int .i64 0, .int .i64 0, .int .i64 0] [(0, 2, (.t 75)), (2, 2, (.t 80)), (4, 2, (.t 85))]⟩,
    ⟨some (69, false), .be 87 true [.int .i64, .int .i64, .int .i64, .int .i64, .int .i64, .int .i64] (.t 70) (.t 86)⟩,
    ⟨some (66, true), .pk 88 (.t 69) (.c (.bool true)) (.t 87)⟩,
    ⟨some (63, false), .pk 89 (.t 66) (.t 88) (.c (.bool false))⟩,
    ⟨none, .pk 90 (.t 63) (.c (.bool true)) (.t 89)⟩])
  (.cond (.t 90) (.seq (.ops [⟨none, .mv 2 (.c (.bool false))⟩])
    (.ret))
    (.skip)))))))
  (.ops [⟨none, .mv 19 (.t 5)⟩,
    ⟨none, .bi 20 .add (.t 19) (.c (.int .i64 1))⟩,
    ⟨none, .mv 5 (.t 20)⟩]))))))
  (.seq (.ops [⟨none, .ca (some 91) 14 []⟩,
    ⟨none, .mv 2 (.t 91)⟩])
  (.ret))))
theorem comp3 : compFn Try.prog [8] Try.f3 = some ([.t 2], c3) := by kernel_rfl
/-- topiary/topiarylaw11.MovesAny: 2 parameters, 84 slots. -/
def c4 : C :=
  .seq (.ops [⟨none, .mv 4 (.c (.bool false))⟩])
  (.seq (.ops [⟨none, .mv 13 (.t 0)⟩,
    ⟨none, .ca (some 14) 11 [(.t 13)]⟩,
    ⟨none, .mv 12 (.t 14)⟩,
    ⟨none, .ex 15 (.t 12) 0⟩,
    ⟨none, .ex 16 (.t 12) 1⟩,
    ⟨none, .mv 5 (.t 15)⟩,
    ⟨none, .mv 6 (.t 16)⟩])
  (.seq (.ops [⟨none, .ca (some 17) 15 []⟩,
    ⟨none, .mv 7 (.t 17)⟩])
  (.seq (.seq (.ops [⟨none, .mv 18 (.t 7)⟩,
    ⟨none, .bq 19 false .ptr (.t 18) (.c (.ptr none))⟩])
  (.cond (.t 19) (.seq (.ops [⟨none, .mv 4 (.c (.bool false))⟩])
    (.ret))
    (.skip)))
  (.seq (.ops [⟨none, .lit 20 7 []⟩,
    ⟨none, .mv 21 (.t 6)⟩,
    ⟨none, .ap 22 7 (.t 20) (.t 21)⟩,
    ⟨none, .mv 8 (.t 22)⟩])
  (.seq (.seq (.ops [⟨none, .mv 9 (.c (.int .i64 0))⟩])
  (.block 0 (.loop (.seq (.seq (.ops [⟨none, .mv 23 (.t 8)⟩,
    ⟨none, .ln 24 .sl (.t 23)⟩,
    ⟨none, .bi 25 .gtr (.t 24) (.c (.int .i64 0))⟩])
  (.cond (.t 25) (.skip)
    (.exit 0)))
  (.seq (.block 1 (.seq (.ops [⟨none, .mv 10 (.c (.int .i64 0))⟩])
  (.cut (.seq (.ops [⟨none, .mv 28 (.t 9)⟩,
    ⟨none, .mv 29 (.t 1)⟩,
    ⟨none, .ln 30 .sl (.t 29)⟩,
    ⟨none, .bi 31 .lss (.t 28) (.t 30)⟩])
  (.cond (.t 31) (.ops [⟨none, .mv 32 (.t 1)⟩,
      ⟨none, .mv 33 (.t 9)⟩,
      ⟨none, .ia 34 (.t 32) (.t 33) 1⟩,
      ⟨none, .ld 35 (.t 34) 1 false⟩,
      ⟨none, .cI 36 .u64 (.t 35)⟩,
      ⟨none, .mv 37 (.t 8)⟩,
      ⟨none, .ln 38 .sl (.t 37)⟩,
      ⟨none, .cI 39 .u64 (.t 38)⟩,
      ⟨none, .bi 40 .rem (.t 36) (.t 39)⟩,
      ⟨none, .cI 41 .i64 (.t 40)⟩,
      ⟨none, .mv 10 (.t 41)⟩])
    (.skip)))
  (.seq (.seq (.opsD [⟨none, .mv 42 (.t 7)⟩,
    ⟨none, .mv 43 (.t 8)⟩,
    ⟨none, .mv 44 (.t 10)⟩,
    ⟨none, .ia 45 (.t 43) (.t 44) 7⟩,
    ⟨none, .fa 46 (.t 45) 0⟩,
    ⟨none, .ld 47 (.t 46) 2 true⟩,
    ⟨none, .mv 48 (.t 8)⟩,
    ⟨none, .mv 49 (.t 10)⟩,
    ⟨none, .ia 50 (.t 48) (.t 49) 7⟩,
    ⟨none, .fa 51 (.t 50) 2⟩,
    ⟨none, .ld 52 (.t 51) 2 true⟩,
    ⟨none, .mv 53 (.t 8)⟩,
    ⟨none, .mv 54 (.t 10)⟩,
    ⟨none, .ia 55 (.t 53) (.t 54) 7⟩,
    ⟨none, .fa 56 (.t 55) 4⟩,
    ⟨none, .ld 57 (.t 56) 2 true⟩,
    ⟨none, .ca (some 58) 16 [(.t 42), (.t 47), (.t 52), (.t 57)]⟩,
    ⟨none, .bi 59 .neq (.t 58) (.c (.int .i64 0))⟩])
  (.cond (.t 59) (.seq (.ops [⟨none, .mv 4 (.c (.bool false))⟩])
    (.ret))
    (.skip)))
  (.seq (.ops [⟨none, .lit 60 7 []⟩,
    ⟨none, .mv 61 (.t 8)⟩,
    ⟨none, .mv 62 (.t 10)⟩,
    ⟨none, .sl 63 7 (.t 61) none (some (.t 62))⟩,
    ⟨none, .ap 64 7 (.t 60) (.t 63)⟩,
    ⟨none, .mv 11 (.t 64)⟩])
  (.ops [⟨none, .mv 65 (.t 11)⟩,
    ⟨none, .mv 66 (.t 8)⟩,
    ⟨none, .mv 67 (.t 10)⟩,
    ⟨none, .bi 68 .add (.t 67) (.c (.int .i64 1))⟩,
    ⟨none, .sl 69 7 (.t 66) (some (.t 68)) none⟩,
    ⟨none, .ap 70 7 (.t 65) (.t 69)⟩,
    ⟨none, .mv 8 (.t 70)⟩]))))))
  (.ops [⟨none, .mv 26 (.t 9)⟩,
    ⟨none, .bi 27 .add (.t 26) (.c (.int .i64 1))⟩,
    ⟨none, .mv 9 (.t 27)⟩]))))))
  (.seq (.ops [⟨none, .mv 71 (.t 7)⟩,
    ⟨none, .ca (some 72) 18 [(.t 71)]⟩,
    ⟨none, .mv 73 (.t 5)⟩,
    ⟨none, .ca (some 74) 18 [(.t 73)]⟩,
    ⟨none, .ca (some 75) 17 [(.t 72), (.t 74)]⟩,
    ⟨none, .mv 76 (.t 75)⟩,
    ⟨some (76, true), .mv 77 (.t 7)⟩,
    ⟨some (76, true), .mv 78 (.t 6)⟩,
    ⟨some (76, true), .ca (some 79) 19 [(.t 77), (.t 78)]⟩,
    ⟨none, .pk 80 (.t 76) (.t 79) (.c (.bool false))⟩,
    ⟨none, .mv 81 (.t 80)⟩,
    ⟨some (81, true), .ca (some 82) 14 []⟩,
    ⟨none, .pk 83 (.t 81) (.t 82) (.c (.bool false))⟩,
    ⟨none, .mv 4 (.t 83)⟩])
  (.ret)))))))
theorem comp4 : compFn Try.prog [] Try.f4 = some ([.t 4], c4) := by kernel_rfl
/-- topiary/topiarylaw11.MovesNoRing: 1 parameters, 103 slots. -/
def c5 : C :=
  .seq (.ops [⟨none, .mv 2 (.c (.bool false))⟩])
  (.seq (.ops [⟨none, .mv 14 (.t 0)⟩,
    ⟨none, .ca (some 15) 11 [(.t 14)]⟩,
    ⟨none, .mv 13 (.t 15)⟩,
    ⟨none, .ex 16 (.t 13) 0⟩,
    ⟨none, .ex 17 (.t 13) 1⟩,
    ⟨none, .mv 3 (.t 16)⟩,
    ⟨none, .mv 4 (.t 17)⟩])
  (.seq (.ops [⟨none, .mv 18 (.t 3)⟩,
    ⟨none, .ca (some 19) 18 [(.t 18)]⟩,
    ⟨none, .mv 5 (.t 19)⟩])
  (.seq (.seq (.ops [⟨none, .mv 6 (.c (.int .i64 0))⟩])
  (.block 0 (.loop (.seq (.seq (.ops [⟨none, .mv 20 (.t 6)⟩,
    ⟨none, .mv 21 (.t 5)⟩,
    ⟨none, .ln 22 .sl (.t 21)⟩,
    ⟨none, .bi 23 .lss (.t 20) (.t 22)⟩])
  (.cond (.t 23) (.skip)
    (.exit 0)))
  (.seq (.block 1 (.seq (.ops [⟨none, .mv 26 (.t 3)⟩,
    ⟨none, .mv 27 (.t 5)⟩,
    ⟨none, .mv 28 (.t 6)⟩,
    ⟨none, .ia 29 (.t 27) (.t 28) 6⟩,
    ⟨none, .fa 30 (.t 29) 0⟩,
    ⟨none, .ld 31 (.t 30) 2 true⟩,
    ⟨none, .ca (some 32) 20 [(.t 26), (.t 31)]⟩,
    ⟨none, .mv 7 (.t 32)⟩])
  (.seq (.seq (.opsD [⟨none, .mv 33 (.t 7)⟩,
    ⟨none, .ln 34 .sl (.t 33)⟩,
    ⟨none, .bi 35 .eql (.t 34) (.c (.int .i64 0))⟩,
    ⟨none, .mv 36 (.t 35)⟩,
    ⟨some (36, false), .mv 37 (.t 7)⟩,
    ⟨some (36, false), .ln 38 .sl (.t 37)⟩,
    ⟨some (36, false), .mv 39 (.t 4)⟩,
    ⟨some (36, false), .ln 40 .sl (.t 39)⟩,
    ⟨some (36, false), .bi 41 .gtr (.t 38) (.t 40)⟩,
    ⟨none, .pk 42 (.t 36) (.c (.bool true)) (.t 41)⟩,
    ⟨none, .mv 43 (.t 42)⟩,
    ⟨some (43, false), .mv 44 (.t 7)⟩,
    ⟨some (43, false), .ia 45 (.t 44) (.c (.int .i64 0)) 2⟩,
    ⟨some (43, false), .ld 46 (.t 45) 2 true⟩,
    ⟨some (43, false), .mv 47 (.t 5)⟩,
    ⟨some (43, false), .mv 48 (.t 6)⟩,
    ⟨some (43, false), .ia 49 (.t 47) (.t 48) 6⟩,
    ⟨some (43, false), .fa 50 (.t 49) 2⟩,
    ⟨some (43, false), .ld 51 (.t 50) 2 true⟩,
    ⟨some (43, false), .be 52 true [.int .i64, .int .i64] (.t 46) (.t 51)⟩,
    ⟨none, .pk 53 (.t 43) (.c (.bool true)) (.t 52)⟩,
    ⟨none, .mv 54 (.t 53)⟩,
    ⟨some (54, false), .mv 55 (.t 7)⟩,
    ⟨some (54, false), .mv 56 (.t 5)⟩,
    ⟨some (54, false), .mv 57 (.t 6)⟩,
    ⟨some (54, false), .ia 58 (.t 56) (.t 57) 6⟩,
    ⟨some (54, false), .fa 59 (.t 58) 0⟩,
    ⟨some (54, false), .ld 60 (.t 59) 2 true⟩,
    ⟨some (54, false), .ca (some 61) 21 [(.t 55), (.t 60)]⟩,
    ⟨none, .pk 62 (.t 54) (.c (.bool true)) (.t 61)⟩])
  (.cond (.t 62) (.seq (.ops [⟨none, .mv 2 (.c (.bool false))⟩])
    (.ret))
    (.skip)))
  (.seq (.seq (.ops [⟨none, .mv 8 (.c (.int .i64 1))⟩])
  (.block 2 (.loop (.seq (.seq (.ops [⟨none, .mv 63 (.t 8)⟩,
    ⟨none, .mv 64 (.t 7)⟩,
    ⟨none, .ln 65 .sl (.t 64)⟩,
    ⟨none, .bi 66 .lss (.t 63) (.t 65)⟩])
  (.cond (.t 66) (.skip)
    (.exit 2)))
  (.seq (.block 3 (.seq (.ops [⟨none, .mv 70 (.t 3)⟩,
    ⟨none, .mv 71 (.t 7)⟩,
    ⟨none, .mv 72 (.t 8)⟩,
    ⟨none, .bi 73 .sub (.t 72) (.c (.int .i64 1))⟩,
    ⟨none, .ia 74 (.t 71) (.t 73) 2⟩,
    ⟨none, .ld 75 (.t 74) 2 true⟩,
    ⟨none, .ca (some 76) 13 [(.t 70), (.t 75)]⟩,
    ⟨none, .mv 69 (.t 76)⟩,
    ⟨none, .ex 77 (.t 69) 0⟩,
    ⟨none, .ex 78 (.t 69) 1⟩,
    ⟨none, .alL 9 [.int .i64 0, .int .i64 0, .int .i64 0, .int .i64 0, .int .i64 0, .int .i64 0]⟩,
    ⟨none, .st (.t 9) (.t 77) 6⟩,
    ⟨none, .mv 10 (.t 78)⟩])
  (.seq (.opsD [⟨none, .mv 79 (.t 10)⟩,
    ⟨none, .un 80 .not (.t 79)⟩,
    ⟨none, .mv 81 (.t 80)⟩,
    ⟨some (81, false), .fa 82 (.t 9) 2⟩,
    ⟨some (81, false), .ld 83 (.t 82) 2 true⟩,
    ⟨some (81, false), .mv 84 (.t 7)⟩,
    ⟨some (81, false), .mv 85 (.t 8)⟩,
    ⟨some (81, false), .ia 86 (.t 84) (.t 85) 2⟩,
    ⟨some (81, false), .ld 87 (.t 86) 2 true⟩,
    ⟨some (81, false), .be 88 true [.int .i64, .int .i64] (.t 83) (.t 87)⟩,
    ⟨none, .pk 89 (.t 81) (.c (.bool true)) (.t 88)⟩])
  (.cond (.t 89) (.seq (.ops [⟨none, .mv 2 (.c (.bool false))⟩])
    (.ret))
    (.skip)))))
  (.ops [⟨none, .mv 67 (.t 8)⟩,
    ⟨none, .bi 68 .add (.t 67) (.c (.int .i64 1))⟩,
    ⟨none, .mv 8 (.t 68)⟩]))))))
  (.seq (.ops [⟨none, .mv 91 (.t 3)⟩,
    ⟨none, .mv 92 (.t 7)⟩,
    ⟨none, .mv 93 (.t 7)⟩,
    ⟨none, .ln 94 .sl (.t 93)⟩,
    ⟨none, .bi 95 .sub (.t 94) (.c (.int .i64 1))⟩,
    ⟨none, .ia 96 (.t 92) (.t 95) 2⟩,
    ⟨none, .ld 97 (.t 96) 2 true⟩,
    ⟨none, .ca (some 98) 13 [(.t 91), (.t 97)]⟩,
    ⟨none, .mv 90 (.t 98)⟩,
    ⟨none, .ex 99 (.t 90) 0⟩,
    ⟨none, .ex 100 (.t 90) 1⟩,
    ⟨none, .alL 11 [.int .i64 0, .int .i64 0, .int .i64 0, .int .i64 0, .int .i64 0, .int .i64 0]⟩,
    ⟨none, .st (.t 11) (.t 99) 6⟩,
    ⟨none, .mv 12 (.t 100)⟩])
  (.seq (.ops [⟨none, .mv 101 (.t 12)⟩])
  (.cond (.t 101) (.seq (.ops [⟨none, .mv 2 (.c (.bool false))⟩])
    (.ret))
    (.skip))))))))
  (.ops [⟨none, .mv 24 (.t 6)⟩,
    ⟨none, .bi 25 .add (.t 24) (.c (.int .i64 1))⟩,
    ⟨none, .mv 6 (.t 25)⟩]))))))
  (.seq (.ops [⟨none, .ca (some 102) 14 []⟩,
    ⟨none, .mv 2 (.t 102)⟩])
  (.ret)))))
theorem comp5 : compFn Try.prog [9, 11] Try.f5 = some ([.t 2], c5) := by kernel_rfl
/-- topiary/topiarylaw11.MovesNewest: 3 parameters, 86 slots. -/
def c6 : C :=
  .seq (.ops [⟨none, .bxL 4 (.t 1)⟩,
    ⟨none, .bxL 5 (.t 2)⟩,
    ⟨none, .mv 6 (.c (.bool false))⟩])
  (.seq (.ops [⟨none, .mv 16 (.t 0)⟩,
    ⟨none, .ca (some 17) 11 [(.t 16)]⟩,
    ⟨none, .mv 15 (.t 17)⟩,
    ⟨none, .ex 18 (.t 15) 0⟩,
    ⟨none, .ex 19 (.t 15) 1⟩,
    ⟨none, .mv 7 (.t 18)⟩,
    ⟨none, .mv 8 (.t 19)⟩])
  (.seq (.ops [⟨none, .bld 20 [.int .i64 0, .int .i64 0] [(0, 1, (.c (.int .i64 1099511627776))), (1, 1, (.c (.int .i64 63)))]⟩,
    ⟨none, .alL 9 [.int .i64 0, .int .i64 0]⟩,
    ⟨none, .st (.t 9) (.t 20) 2⟩])
  (.seq (.ops [⟨none, .mv 21 (.t 7)⟩,
    ⟨none, .ca (some 22) 18 [(.t 21)]⟩,
    ⟨none, .mv 10 (.t 22)⟩])
  (.seq (.opsD [⟨none, .ld 23 (.t 4) 2 true⟩,
    ⟨none, .ld 24 (.t 5) 2 true⟩,
    ⟨none, .be 25 false [.int .i64, .int .i64] (.t 23) (.t 24)⟩,
    ⟨none, .mv 26 (.t 25)⟩,
    ⟨some (26, false), .mv 27 (.t 7)⟩,
    ⟨some (26, false), .ld 28 (.t 5) 2 true⟩,
    ⟨some (26, false), .ld 30 (.t 4) 2 true⟩,
    ⟨some (26, false), .ca (some 29) 20 [(.t 27), (.t 28)]⟩,
    ⟨some (26, false), .ca (some 31) 21 [(.t 29), (.t 30)]⟩,
    ⟨none, .pk 32 (.t 26) (.c (.bool true)) (.t 31)⟩,
    ⟨none, .mv 11 (.t 32)⟩])
  (.seq (.ops [⟨none, .mv 33 (.t 7)⟩,
    ⟨none, .ld 34 (.t 9) 2 true⟩,
    ⟨none, .ld 35 (.t 4) 2 true⟩,
    ⟨none, .ld 36 (.t 5) 2 true⟩,
    ⟨none, .ca (some 37) 16 [(.t 33), (.t 34), (.t 35), (.t 36)]⟩,
    ⟨none, .mv 12 (.t 37)⟩])
  (.seq (.seq (.ops [⟨none, .mv 38 (.t 12)⟩,
    ⟨none, .bi 39 .neq (.t 38) (.c (.int .i64 0))⟩])
  (.cond (.t 39) (.seq (.ops [⟨none, .mv 40 (.t 12)⟩,
      ⟨none, .bi 41 .eql (.t 40) (.c (.int .i64 2))⟩,
      ⟨none, .mv 42 (.t 41)⟩,
      ⟨some (42, false), .mv 43 (.t 12)⟩,
      ⟨some (42, false), .bi 44 .eql (.t 43) (.c (.int .i64 5))⟩,
      ⟨none, .pk 45 (.t 42) (.c (.bool true)) (.t 44)⟩,
      ⟨none, .mv 46 (.t 45)⟩,
      ⟨some (46, true), .mv 47 (.t 7)⟩,
      ⟨some (46, true), .ca (some 48) 18 [(.t 47)]⟩,
      ⟨some (46, true), .mv 49 (.t 10)⟩,
      ⟨some (46, true), .ca (some 50) 17 [(.t 48), (.t 49)]⟩,
      ⟨none, .pk 51 (.t 46) (.t 50) (.c (.bool false))⟩,
      ⟨none, .mv 52 (.t 51)⟩,
      ⟨some (52, true), .ca (some 53) 14 []⟩,
      ⟨none, .pk 54 (.t 52) (.t 53) (.c (.bool false))⟩,
      ⟨none, .mv 6 (.t 54)⟩])
    (.ret))
    (.skip)))
  (.seq (.seq (.ops [⟨none, .mv 55 (.t 7)⟩,
    ⟨none, .ld 56 (.t 9) 2 true⟩,
    ⟨none, .ca (some 57) 12 [(.t 55), (.t 56)]⟩,
    ⟨none, .mv 58 (.t 11)⟩,
    ⟨none, .bq 59 false .bool (.t 57) (.t 58)⟩])
  (.cond (.t 59) (.seq (.ops [⟨none, .mv 6 (.c (.bool false))⟩])
    (.ret))
    (.skip)))
  (.seq (.seq (.ops [⟨none, .mv 60 (.t 11)⟩])
  (.cond (.t 60) (.seq (.ops [⟨none, .mv 61 (.t 7)⟩,
      ⟨none, .ca (some 62) 18 [(.t 61)]⟩,
      ⟨none, .mv 63 (.t 10)⟩,
      ⟨none, .ca (some 64) 17 [(.t 62), (.t 63)]⟩,
      ⟨none, .mv 65 (.t 64)⟩,
      ⟨some (65, true), .ca (some 66) 14 []⟩,
      ⟨none, .pk 67 (.t 65) (.t 66) (.c (.bool false))⟩,
      ⟨none, .mv 6 (.t 67)⟩])
    (.ret))
    (.skip)))
  (.seq (.ops [⟨none, .mv 69 (.t 7)⟩,
    ⟨none, .ld 70 (.t 4) 2 true⟩,
    ⟨none, .ca (some 71) 13 [(.t 69), (.t 70)]⟩,
    ⟨none, .mv 68 (.t 71)⟩,
    ⟨none, .ex 72 (.t 68) 0⟩,
    ⟨none, .ex 73 (.t 68) 1⟩,
    ⟨none, .alL 13 [.int .i64 0, .int .i64 0, .int .i64 0, .int .i64 0, .int .i64 0, .int .i64 0]⟩,
    ⟨none, .st (.t 13) (.t 72) 6⟩,
    ⟨none, .mv 14 (.t 73)⟩])
  (.seq (.ops [⟨none, .mv 74 (.t 14)⟩,
    ⟨none, .mv 75 (.t 74)⟩,
    ⟨some (75, true), .ld 76 (.t 13) 6 true⟩,
    ⟨some (75, true), .ld 77 (.t 4) 2 true⟩,
    ⟨some (75, true), .ld 78 (.t 5) 2 true⟩,
    ⟨some (75, true), .ld 79 (.t 9) 2 true⟩,
    ⟨some (75, true), .bld 80 [.int .i64 0, .int .i64 0, .int .i64 0, .int .i64 0, .int .i64 0, .int .i64 0] [(0, 2, (.t 77)), (2, 2, (.t 78)), (4, 2, (.t 79))]⟩,
    ⟨some (75, true), .be 81 false [.int .i64, .int .i64, .int .i64, .int .i64, .int .i64, .int .i64] (.t 76) (.t 80)⟩,
    ⟨none, .pk 82 (.t 75) (.t 81) (.c (.bool false))⟩,
    ⟨none, .mv 83 (.t 82)⟩,
    ⟨some (83, true), .ca (some 84) 14 []⟩,
    ⟨none, .pk 85 (.t 83) (.t 84) (.c (.bool false))⟩,
    ⟨none, .mv 6 (.t 85)⟩])
  (.ret)))))))))))
theorem comp6 : compFn Try.prog [4, 5, 9, 13] Try.f6 = some ([.t 6], c6) := by kernel_rfl
/-- topiary/topiarylaw11.MovesAsks: 2 parameters, 74 slots. -/
def c7 : C :=
  .seq (.ops [⟨none, .bxL 3 (.t 1)⟩,
    ⟨none, .mv 4 (.c (.bool false))⟩])
  (.seq (.ops [⟨none, .mv 13 (.t 0)⟩,
    ⟨none, .ca (some 14) 11 [(.t 13)]⟩,
    ⟨none, .mv 12 (.t 14)⟩,
    ⟨none, .ex 15 (.t 12) 0⟩,
    ⟨none, .ex 16 (.t 12) 1⟩,
    ⟨none, .mv 5 (.t 15)⟩,
    ⟨none, .mv 6 (.t 16)⟩])
  (.seq (.ops [⟨none, .mv 18 (.t 6)⟩,
    ⟨none, .ca (some 19) 22 [(.t 18)]⟩,
    ⟨none, .mv 17 (.t 19)⟩,
    ⟨none, .ex 20 (.t 17) 0⟩,
    ⟨none, .ex 21 (.t 17) 1⟩,
    ⟨none, .mv 7 (.t 20)⟩,
    ⟨none, .mv 8 (.t 21)⟩])
  (.seq (.ops [⟨none, .mv 23 (.t 5)⟩,
    ⟨none, .ld 24 (.t 3) 2 true⟩,
    ⟨none, .ca (some 25) 13 [(.t 23), (.t 24)]⟩,
    ⟨none, .mv 22 (.t 25)⟩,
    ⟨none, .ex 26 (.t 22) 0⟩,
    ⟨none, .ex 27 (.t 22) 1⟩,
    ⟨none, .alL 9 [.int .i64 0, .int .i64 0, .int .i64 0, .int .i64 0, .int .i64 0, .int .i64 0]⟩,
    ⟨none, .st (.t 9) (.t 26) 6⟩,
    ⟨none, .mv 10 (.t 27)⟩])
  (.seq (.ops [⟨none, .mv 28 (.t 7)⟩,
    ⟨none, .ld 29 (.t 3) 2 true⟩,
    ⟨none, .ca (some 30) 23 [(.t 28), (.t 29)]⟩,
    ⟨none, .mv 11 (.t 30)⟩])
  (.seq (.seq (.opsD [⟨none, .mv 31 (.t 10)⟩,
    ⟨none, .mv 32 (.t 11)⟩,
    ⟨none, .bi 33 .geq (.t 32) (.c (.int .i64 0))⟩,
    ⟨none, .bq 34 true .bool (.t 31) (.t 33)⟩,
    ⟨none, .mv 35 (.t 34)⟩,
    ⟨some (35, false), .mv 36 (.t 10)⟩,
    ⟨some (35, false), .mv 37 (.t 36)⟩,
    ⟨some (37, true), .ld 38 (.t 9) 6 true⟩,
    ⟨some (37, true), .mv 39 (.t 7)⟩,
    ⟨some (37, true), .mv 40 (.t 11)⟩,
    ⟨some (37, true), .ia 41 (.t 39) (.t 40) 6⟩,
    ⟨some (37, true), .ld 42 (.t 41) 6 true⟩,
    ⟨some (37, true), .be 43 true [.int .i64, .int .i64, .int .i64, .int .i64, .int .i64, .int .i64] (.t 38) (.t 42)⟩,
    ⟨some (35, false), .pk 44 (.t 37) (.t 43) (.c (.bool false))⟩,
    ⟨none, .pk 45 (.t 35) (.c (.bool true)) (.t 44)⟩,
    ⟨none, .mv 46 (.t 45)⟩,
    ⟨some (46, false), .mv 47 (.t 10)⟩,
    ⟨some (46, false), .un 48 .not (.t 47)⟩,
    ⟨some (46, false), .mv 49 (.t 48)⟩,
    ⟨some (49, true), .ld 50 (.t 9) 6 true⟩,
    ⟨some (49, true), .bld 51 [.int .i64 0, .int .i64 0, .int .i64 0, .int .i64 0, .int .i64 0, .int .i64 0] []⟩,
    ⟨some (49, true), .be 52 true [.int .i64, .int .i64, .int .i64, .int .i64, .int .i64, .int .i64] (.t 50) (.t 51)⟩,
    ⟨some (46, false), .pk 53 (.t 49) (.t 52) (.c (.bool false))⟩,
    ⟨none, .pk 54 (.t 46) (.c (.bool true)) (.t 53)⟩])
  (.cond (.t 54) (.seq (.ops [⟨none, .mv 4 (.c (.bool false))⟩])
    (.ret))
    (.skip)))
  (.seq (.opsD [⟨none, .mv 55 (.t 5)⟩,
    ⟨none, .ld 56 (.t 3) 2 true⟩,
    ⟨none, .mv 58 (.t 7)⟩,
    ⟨none, .ld 59 (.t 3) 2 true⟩,
    ⟨none, .ca (some 57) 20 [(.t 55), (.t 56)]⟩,
    ⟨none, .ca (some 60) 25 [(.t 58), (.t 59)]⟩,
    ⟨none, .ca (some 61) 24 [(.t 57), (.t 60)]⟩,
    ⟨none, .mv 62 (.t 61)⟩,
    ⟨some (62, true), .mv 63 (.t 5)⟩,
    ⟨some (62, true), .ld 64 (.t 3) 2 true⟩,
    ⟨some (62, true), .mv 66 (.t 7)⟩,
    ⟨some (62, true), .ld 67 (.t 3) 2 true⟩,
    ⟨some (62, true), .ca (some 65) 26 [(.t 63), (.t 64)]⟩,
    ⟨some (62, true), .ca (some 68) 27 [(.t 66), (.t 67)]⟩,
    ⟨some (62, true), .ca (some 69) 24 [(.t 65), (.t 68)]⟩,
    ⟨none, .pk 70 (.t 62) (.t 69) (.c (.bool false))⟩,
    ⟨none, .mv 71 (.t 70)⟩,
    ⟨some (71, true), .ca (some 72) 14 []⟩,
    ⟨none, .pk 73 (.t 71) (.t 72) (.c (.bool false))⟩,
    ⟨none, .mv 4 (.t 73)⟩])
  (.ret)))))))
theorem comp7 : compFn Try.prog [3, 9] Try.f7 = some ([.t 4], c7) := by kernel_rfl
/-- topiary/topiarylaw11.MovesBack: 2 parameters, 90 slots. -/
def c8 : C :=
  .seq (.ops [⟨none, .bxL 3 (.t 1)⟩,
    ⟨none, .mv 4 (.c (.bool false))⟩])
  (.seq (.ops [⟨none, .mv 11 (.t 0)⟩,
    ⟨none, .ca (some 12) 11 [(.t 11)]⟩,
    ⟨none, .mv 10 (.t 12)⟩,
    ⟨none, .ex 13 (.t 10) 0⟩,
    ⟨none, .ex 14 (.t 10) 1⟩,
    ⟨none, .mv 5 (.t 13)⟩,
    ⟨none, .mv 6 (.t 14)⟩])
  (.seq (.ops [⟨none, .mv 15 (.t 5)⟩,
    ⟨none, .ca (some 16) 18 [(.t 15)]⟩,
    ⟨none, .mv 7 (.t 16)⟩])
  (.cut (.seq (.ops [⟨none, .mv 17 (.t 5)⟩,
    ⟨none, .fa 18 (.t 3) 1⟩,
    ⟨none, .ld 19 (.t 18) 2 true⟩,
    ⟨none, .fa 20 (.t 3) 3⟩,
    ⟨none, .ld 21 (.t 20) 2 true⟩,
    ⟨none, .fa 22 (.t 3) 5⟩,
    ⟨none, .ld 23 (.t 22) 2 true⟩,
    ⟨none, .ca (some 24) 16 [(.t 17), (.t 19), (.t 21), (.t 23)]⟩,
    ⟨none, .bi 25 .eql (.t 24) (.c (.int .i64 0))⟩])
  (.cond (.t 25) (.seq (.ops [⟨none, .mv 26 (.t 5)⟩,
      ⟨none, .fa 27 (.t 3) 1⟩,
      ⟨none, .ld 28 (.t 27) 2 true⟩,
      ⟨none, .ca (some 29) 28 [(.t 26), (.t 28)]⟩,
      ⟨none, .bi 30 .neq (.t 29) (.c (.int .i64 0))⟩,
      ⟨none, .mv 31 (.t 30)⟩,
      ⟨some (31, false), .mv 32 (.t 5)⟩,
      ⟨some (31, false), .ca (some 33) 18 [(.t 32)]⟩,
      ⟨some (31, false), .mv 34 (.t 7)⟩,
      ⟨some (31, false), .ca (some 35) 17 [(.t 33), (.t 34)]⟩,
      ⟨some (31, false), .un 36 .not (.t 35)⟩,
      ⟨none, .pk 37 (.t 31) (.c (.bool true)) (.t 36)⟩,
      ⟨none, .mv 38 (.t 37)⟩,
      ⟨some (38, false), .mv 39 (.t 5)⟩,
      ⟨some (38, false), .ca (some 40) 29 [(.t 39)]⟩,
      ⟨some (38, false), .mv 41 (.t 6)⟩,
      ⟨some (38, false), .ln 42 .sl (.t 41)⟩,
      ⟨some (38, false), .bi 43 .neq (.t 40) (.t 42)⟩,
      ⟨none, .pk 44 (.t 38) (.c (.bool true)) (.t 43)⟩])
    (.cond (.t 44) (.seq (.ops [⟨none, .mv 4 (.c (.bool false))⟩])
      (.ret))
      (.skip)))
    (.skip)))
  (.seq (.seq (.ops [⟨none, .mv 8 (.c (.int .i64 0))⟩])
  (.block 0 (.loop (.seq (.seq (.ops [⟨none, .mv 45 (.t 8)⟩,
    ⟨none, .mv 46 (.t 6)⟩,
    ⟨none, .ln 47 .sl (.t 46)⟩,
    ⟨none, .bi 48 .lss (.t 45) (.t 47)⟩,
    ⟨none, .mv 49 (.t 48)⟩,
    ⟨some (49, true), .mv 50 (.t 8)⟩,
    ⟨some (49, true), .bi 51 .lss (.t 50) (.c (.int .i64 20))⟩,
    ⟨none, .pk 52 (.t 49) (.t 51) (.c (.bool false))⟩])
  (.cond (.t 52) (.skip)
    (.exit 0)))
  (.seq (.block 1 (.seq (.ops [⟨none, .mv 55 (.t 6)⟩,
    ⟨none, .mv 56 (.t 8)⟩,
    ⟨none, .ia 57 (.t 55) (.t 56) 7⟩,
    ⟨none, .ld 58 (.t 57) 7 true⟩,
    ⟨none, .alL 9 [.int .i64 0, .int .i64 0, .int .i64 0, .int .i64 0, .int .i64 0, .int .i64 0, .bool false]⟩,
    ⟨none, .st (.t 9) (.t 58) 7⟩])
  (.seq (.ops [⟨none, .mv 59 (.t 5)⟩,
    ⟨none, .fa 60 (.t 9) 0⟩,
    ⟨none, .ld 61 (.t 60) 2 true⟩,
    ⟨none, .ca (some 62) 28 [(.t 59), (.t 61)]⟩,
    ⟨none, .bi 63 .neq (.t 62) (.c (.int .i64 0))⟩,
    ⟨none, .mv 64 (.t 63)⟩,
    ⟨some (64, false), .mv 65 (.t 5)⟩,
    ⟨some (64, false), .fa 66 (.t 9) 0⟩,
    ⟨some (64, false), .ld 67 (.t 66) 2 true⟩,
    ⟨some (64, false), .ca (some 68) 28 [(.t 65), (.t 67)]⟩,
    ⟨some (64, false), .bi 69 .neq (.t 68) (.c (.int .i64 4))⟩,
    ⟨none, .pk 70 (.t 64) (.c (.bool true)) (.t 69)⟩,
    ⟨none, .mv 71 (.t 70)⟩,
    ⟨some (71, false), .mv 72 (.t 5)⟩,
    ⟨some (71, false), .fa 73 (.t 9) 0⟩,
    ⟨some (71, false), .ld 74 (.t 73) 2 true⟩,
    ⟨some (71, false), .fa 75 (.t 9) 2⟩,
    ⟨some (71, false), .ld 76 (.t 75) 2 true⟩,
    ⟨some (71, false), .fa 77 (.t 9) 4⟩,
    ⟨some (71, false), .ld 78 (.t 77) 2 true⟩,
    ⟨some (71, false), .ca (some 79) 16 [(.t 72), (.t 74), (.t 76), (.t 78)]⟩,
    ⟨some (71, false), .bi 80 .neq (.t 79) (.c (.int .i64 0))⟩,
    ⟨none, .pk 81 (.t 71) (.c (.bool true)) (.t 80)⟩,
    ⟨none, .mv 82 (.t 81)⟩,
    ⟨some (82, false), .mv 83 (.t 5)⟩,
    ⟨some (82, false), .ca (some 84) 18 [(.t 83)]⟩,
    ⟨some (82, false), .mv 85 (.t 7)⟩,
    ⟨some (82, false), .ca (some 86) 17 [(.t 84), (.t 85)]⟩,
    ⟨some (82, false), .un 87 .not (.t 86)⟩,
    ⟨none, .pk 88 (.t 82) (.c (.bool true)) (.t 87)⟩])
  (.cond (.t 88) (.seq (.ops [⟨none, .mv 4 (.c (.bool false))⟩])
    (.ret))
    (.skip)))))
  (.ops [⟨none, .mv 53 (.t 8)⟩,
    ⟨none, .bi 54 .add (.t 53) (.c (.int .i64 1))⟩,
    ⟨none, .mv 8 (.t 54)⟩]))))))
  (.seq (.ops [⟨none, .ca (some 89) 14 []⟩,
    ⟨none, .mv 4 (.t 89)⟩])
  (.ret))))))
theorem comp8 : compFn Try.prog [3, 9] Try.f8 = some ([.t 4], c8) := by kernel_rfl
/-- topiary/topiarylaw11.MovesPlays: 1 parameters, 68 slots. -/
def c9 : C :=
  .seq (.ops [⟨none, .mv 2 (.c (.bool false))⟩])
  (.seq (.ops [⟨none, .ca (some 9) 15 []⟩,
    ⟨none, .mv 3 (.t 9)⟩])
  (.seq (.seq (.ops [⟨none, .mv 10 (.t 3)⟩,
    ⟨none, .bq 11 false .ptr (.t 10) (.c (.ptr none))⟩])
  (.cond (.t 11) (.seq (.ops [⟨none, .mv 2 (.c (.bool false))⟩])
    (.ret))
    (.skip)))
  (.cut (.seq (.ops [⟨none, .mv 12 (.t 0)⟩,
    ⟨none, .ln 13 .sl (.t 12)⟩,
    ⟨none, .bi 14 .gtr (.t 13) (.c (.int .i64 200))⟩])
  (.cond (.t 14) (.ops [⟨none, .mv 15 (.t 0)⟩,
      ⟨none, .sl 16 7 (.t 15) none (some (.c (.int .i64 200)))⟩,
      ⟨none, .mv 0 (.t 16)⟩])
    (.skip)))
  (.seq (.ops [⟨none, .lit 17 7 []⟩,
    ⟨none, .mv 4 (.t 17)⟩])
  (.seq (.seq (.ops [⟨none, .mv 5 (.c (.int .i64 0))⟩])
  (.block 0 (.loop (.seq (.seq (.ops [⟨none, .mv 18 (.t 5)⟩,
    ⟨none, .mv 19 (.t 0)⟩,
    ⟨none, .ln 20 .sl (.t 19)⟩,
    ⟨none, .bi 21 .lss (.t 18) (.t 20)⟩])
  (.cond (.t 21) (.skip)
    (.exit 0)))
  (.seq (.block 1 (.cut (.seq (.ops [⟨none, .mv 24 (.t 0)⟩,
    ⟨none, .mv 25 (.t 5)⟩,
    ⟨none, .ia 26 (.t 24) (.t 25) 7⟩,
    ⟨none, .fa 27 (.t 26) 0⟩,
    ⟨none, .ld 28 (.t 27) 1 false⟩,
    ⟨none, .bi 29 .lss (.t 28) (.c (.int .i64 0))⟩,
    ⟨none, .mv 30 (.t 29)⟩,
    ⟨some (30, false), .mv 31 (.t 0)⟩,
    ⟨some (30, false), .mv 32 (.t 5)⟩,
    ⟨some (30, false), .ia 33 (.t 31) (.t 32) 7⟩,
    ⟨some (30, false), .fa 34 (.t 33) 0⟩,
    ⟨some (30, false), .ld 35 (.t 34) 1 false⟩,
    ⟨some (30, false), .bi 36 .gtr (.t 35) (.c (.int .i64 1))⟩,
    ⟨none, .pk 37 (.t 30) (.c (.bool true)) (.t 36)⟩])
  (.cond (.t 37) (.seq (.ops [⟨none, .mv 38 (.t 3)⟩,
      ⟨none, .ca (some 39) 30 [(.t 38)]⟩,
      ⟨none, .mv 6 (.t 39)⟩])
    (.seq (.seq (.ops [⟨none, .mv 40 (.t 6)⟩,
      ⟨none, .bq 41 false .ptr (.t 40) (.c (.ptr none))⟩])
    (.cond (.t 41) (.seq (.ops [⟨none, .mv 2 (.c (.bool false))⟩])
      (.ret))
      (.skip)))
    (.seq (.ops [⟨none, .mv 42 (.t 3)⟩,
      ⟨none, .bld 43 [.int .i64 0, .int .i64 0] [(0, 1, (.c (.int .i64 77))), (1, 1, (.c (.int .i64 9)))]⟩,
      ⟨none, .bld 44 [.int .i64 0, .int .i64 0] [(0, 1, (.c (.int .i64 1)))]⟩,
      ⟨none, .bld 45 [.int .i64 0, .int .i64 0] []⟩,
      ⟨none, .ca (some 46) 16 [(.t 42), (.t 43), (.t 44), (.t 45)]⟩])
    (.ops [⟨none, .mv 47 (.t 6)⟩,
      ⟨none, .mv 3 (.t 47)⟩]))))
    (.skip)))
  (.seq (.ops [⟨none, .mv 49 (.t 3)⟩,
    ⟨none, .mv 50 (.t 4)⟩,
    ⟨none, .mv 51 (.t 0)⟩,
    ⟨none, .mv 52 (.t 5)⟩,
    ⟨none, .ia 53 (.t 51) (.t 52) 7⟩,
    ⟨none, .ld 54 (.t 53) 7 true⟩,
    ⟨none, .ca (some 55) 31 [(.t 49), (.t 50), (.t 54)]⟩,
    ⟨none, .mv 48 (.t 55)⟩,
    ⟨none, .ex 56 (.t 48) 0⟩,
    ⟨none, .ex 57 (.t 48) 1⟩,
    ⟨none, .mv 7 (.t 56)⟩,
    ⟨none, .mv 8 (.t 57)⟩])
  (.seq (.ops [⟨none, .mv 58 (.t 7)⟩,
    ⟨none, .mv 4 (.t 58)⟩])
  (.seq (.ops [⟨none, .mv 59 (.t 8)⟩,
    ⟨none, .un 60 .not (.t 59)⟩,
    ⟨none, .mv 61 (.t 60)⟩,
    ⟨some (61, false), .mv 62 (.t 3)⟩,
    ⟨some (61, false), .mv 63 (.t 4)⟩,
    ⟨some (61, false), .ca (some 64) 19 [(.t 62), (.t 63)]⟩,
    ⟨some (61, false), .un 65 .not (.t 64)⟩,
    ⟨none, .pk 66 (.t 61) (.c (.bool true)) (.t 65)⟩])
  (.cond (.t 66) (.seq (.ops [⟨none, .mv 2 (.c (.bool false))⟩])
    (.ret))
    (.skip)))))))
  (.ops [⟨none, .mv 22 (.t 5)⟩,
    ⟨none, .bi 23 .add (.t 22) (.c (.int .i64 1))⟩,
    ⟨none, .mv 5 (.t 23)⟩]))))))
  (.seq (.ops [⟨none, .ca (some 67) 14 []⟩,
    ⟨none, .mv 2 (.t 67)⟩])
  (.ret)))))))
theorem comp9 : compFn Try.prog [] Try.f9 = some ([.t 2], c9) := by kernel_rfl
/-- topiary/topiarylaw11.MovesNil: 1 parameters, 80 slots. -/
def c10 : C :=
  .seq (.ops [⟨none, .bxL 1 (.t 0)⟩,
    ⟨none, .mv 2 (.c (.bool false))⟩])
  (.seq (.ops [⟨none, .mv 3 (.c (.ptr none))⟩])
  (.seq (.ops [⟨none, .mv 7 (.t 3)⟩,
    ⟨none, .fa 8 (.t 1) 3⟩,
    ⟨none, .ld 9 (.t 8) 2 true⟩,
    ⟨none, .ca (some 10) 13 [(.t 7), (.t 9)]⟩,
    ⟨none, .mv 6 (.t 10)⟩,
    ⟨none, .ex 11 (.t 6) 0⟩,
    ⟨none, .ex 12 (.t 6) 1⟩,
    ⟨none, .alL 4 [.int .i64 0, .int .i64 0, .int .i64 0, .int .i64 0, .int .i64 0, .int .i64 0]⟩,
    ⟨none, .st (.t 4) (.t 11) 6⟩,
    ⟨none, .mv 5 (.t 12)⟩])
  (.seq (.ops [⟨none, .mv 13 (.t 3)⟩,
    ⟨none, .fa 14 (.t 1) 1⟩,
    ⟨none, .ld 15 (.t 14) 2 true⟩,
    ⟨none, .fa 16 (.t 1) 3⟩,
    ⟨none, .ld 17 (.t 16) 2 true⟩,
    ⟨none, .fa 18 (.t 1) 5⟩,
    ⟨none, .ld 19 (.t 18) 2 true⟩,
    ⟨none, .ca (some 20) 16 [(.t 13), (.t 15), (.t 17), (.t 19)]⟩,
    ⟨none, .bi 21 .eql (.t 20) (.c (.int .i64 7))⟩,
    ⟨none, .mv 22 (.t 21)⟩,
    ⟨some (22, true), .mv 23 (.t 3)⟩,
    ⟨some (22, true), .fa 24 (.t 1) 1⟩,
    ⟨some (22, true), .ld 25 (.t 24) 2 true⟩,
    ⟨some (22, true), .ca (some 26) 28 [(.t 23), (.t 25)]⟩,
    ⟨some (22, true), .bi 27 .eql (.t 26) (.c (.int .i64 7))⟩,
    ⟨none, .pk 28 (.t 22) (.t 27) (.c (.bool false))⟩,
    ⟨none, .mv 29 (.t 28)⟩,
    ⟨some (29, true), .mv 30 (.t 3)⟩,
    ⟨some (29, true), .ca (some 31) 29 [(.t 30)]⟩,
    ⟨some (29, true), .bi 32 .eql (.t 31) (.c (.int .i64 0))⟩,
    ⟨none, .pk 33 (.t 29) (.t 32) (.c (.bool false))⟩,
    ⟨none, .mv 34 (.t 33)⟩,
    ⟨some (34, true), .mv 35 (.t 3)⟩,
    ⟨some (34, true), .fa 36 (.t 1) 1⟩,
    ⟨some (34, true), .ld 37 (.t 36) 2 true⟩,
    ⟨some (34, true), .ca (some 38) 12 [(.t 35), (.t 37)]⟩,
    ⟨some (34, true), .un 39 .not (.t 38)⟩,
    ⟨none, .pk 40 (.t 34) (.t 39) (.c (.bool false))⟩,
    ⟨none, .mv 41 (.t 40)⟩,
    ⟨some (41, true), .ld 42 (.t 4) 6 true⟩,
    ⟨some (41, true), .bld 43 [.int .i64 0, .int .i64 0, .int .i64 0, .int .i64 0, .int .i64 0, .int .i64 0] []⟩,
    ⟨some (41, true), .be 44 false [.int .i64, .int .i64, .int .i64, .int .i64, .int .i64, .int .i64] (.t 42) (.t 43)⟩,
    ⟨none, .pk 45 (.t 41) (.t 44) (.c (.bool false))⟩,
    ⟨none, .mv 46 (.t 45)⟩,
    ⟨some (46, true), .mv 47 (.t 5)⟩,
    ⟨some (46, true), .un 48 .not (.t 47)⟩,
    ⟨none, .pk 49 (.t 46) (.t 48) (.c (.bool false))⟩,
    ⟨none, .mv 50 (.t 49)⟩,
    ⟨some (50, true), .mv 51 (.t 3)⟩,
    ⟨some (50, true), .fa 52 (.t 1) 3⟩,
    ⟨some (50, true), .ld 53 (.t 52) 2 true⟩,
    ⟨some (50, true), .ca (some 54) 20 [(.t 51), (.t 53)]⟩,
    ⟨some (50, true), .ln 55 .sl (.t 54)⟩,
    ⟨some (50, true), .bi 56 .eql (.t 55) (.c (.int .i64 0))⟩,
    ⟨none, .pk 57 (.t 50) (.t 56) (.c (.bool false))⟩,
    ⟨none, .mv 58 (.t 57)⟩,
    ⟨some (58, true), .mv 59 (.t 3)⟩,
    ⟨some (58, true), .fa 60 (.t 1) 5⟩,
    ⟨some (58, true), .ld 61 (.t 60) 2 true⟩,
    ⟨some (58, true), .ca (some 62) 26 [(.t 59), (.t 61)]⟩,
    ⟨some (58, true), .ln 63 .sl (.t 62)⟩,
    ⟨some (58, true), .bi 64 .eql (.t 63) (.c (.int .i64 0))⟩,
    ⟨none, .pk 65 (.t 58) (.t 64) (.c (.bool false))⟩,
    ⟨none, .mv 66 (.t 65)⟩,
    ⟨some (66, true), .mv 67 (.t 3)⟩,
    ⟨some (66, true), .ca (some 68) 18 [(.t 67)]⟩,
    ⟨some (66, true), .ln 69 .sl (.t 68)⟩,
    ⟨some (66, true), .bi 70 .eql (.t 69) (.c (.int .i64 0))⟩,
    ⟨none, .pk 71 (.t 66) (.t 70) (.c (.bool false))⟩,
    ⟨none, .mv 72 (.t 71)⟩,
    ⟨some (72, true), .mv 73 (.t 3)⟩,
    ⟨some (72, true), .ca (some 74) 30 [(.t 73)]⟩,
    ⟨some (72, true), .bq 75 false .ptr (.t 74) (.c (.ptr none))⟩,
    ⟨none, .pk 76 (.t 72) (.t 75) (.c (.bool false))⟩,
    ⟨none, .mv 77 (.t 76)⟩,
    ⟨some (77, true), .ca (some 78) 14 []⟩,
    ⟨none, .pk 79 (.t 77) (.t 78) (.c (.bool false))⟩,
    ⟨none, .mv 2 (.t 79)⟩])
  (.ret))))
theorem comp10 : compFn Try.prog [1, 4] Try.f10 = some ([.t 2], c10) := by kernel_rfl
end Go.VL.mov

namespace Go.VL.mov
open Go Go.VL Go.Proofs Go.IntWalk

/-- A call: its kind, its stamps. -/
structure Ac where
  kind : Int
  a : Sp
  n : Sp
  p : Sp
def acC (x : Ac) : List V := [.int .i64 x.kind, .int .i64 x.a.c, .int .i64 x.a.r, .int .i64 x.n.c, .int .i64 x.n.r, .int .i64 x.p.c, .int .i64 x.p.r]
def acV (x : Ac) : V := .agg (acC x)

theorem tree_new {σ : St} {i m : Nat} {s : V} (h : IsTree σ i m s [] W0) : TreeIs σ i m s [] := ⟨h, rfl, .nil⟩
theorem ben0 {x y : Sp} (h : x ≠ y) : ben W0 x y = false := ben_none rfl h
section
variable {σ : St} {x : Ac} {a : Sp}
theorem spV_mk (c r : Int) : V.agg [.int .i64 c, .int .i64 r] = spV ⟨c, r⟩ := rfl
set_option maxHeartbeats 1600000 in
set_option maxRecDepth 100000 in
theorem awake_ok : CallA Try.prog 14 [] σ fun v _ => v = .bool true := by
  refine fn_at Try.func14 (by decide) comp14 rfl fun Q q1 q2 => ?_
  simp -implicitDefEqProofs only [go_sem, Nat.reduceBEq, Nat.reduceAdd, eq_self, true_and, and_true, and_self, List.getElem?_cons_zero, List.getElem?_cons_succ, Nat.reduceLeDiff, Nat.zero_add, Nat.reduceSub, Nat.le_refl, c14]
  refine call_at new_ok ?_
  rintro v τ ⟨rfl, h0, he0, hl0⟩
  refine ⟨kept_none, ?_⟩
  generalize σ.objs.length + 1 = i at *
  generalize σ.objs.length = m at *
  simp -implicitDefEqProofs only [go_sem, Nat.reduceBEq, Nat.reduceAdd, eq_self, true_and, and_true, and_self, List.getElem?_cons_zero, List.getElem?_cons_succ, Nat.reduceLeDiff, Nat.zero_add, Nat.reduceSub, Nat.le_refl, Nat.lt_irrefl]
  refine call_at (do_ok (a := ⟨3, 0⟩) (n := ⟨1, 0⟩) (p := ⟨0, 0⟩) (tree_new h0) (by simp)) ?_
  rintro v τ1 ⟨rfl, s1, h1, ht1⟩
  refine ⟨kept_none, ?_⟩
  have e1 : doE [] ⟨3, 0⟩ ⟨1, 0⟩ ⟨0, 0⟩ = 0 := by decide
  have e2 : doD [] ⟨3, 0⟩ ⟨1, 0⟩ ⟨0, 0⟩ = [mark W0 (newM ⟨3, 0⟩ ⟨1, 0⟩ ⟨0, 0⟩)] := by
    have : (okF ⟨3, 0⟩ ⟨1, 0⟩ ⟨0, 0⟩ && !at? ⟨3, 0⟩ []) = true := by decide
    rw [doD, this]; rfl
  rw [e2] at h1
  have hb : ben W0 ⟨0, 0⟩ ⟨1, 0⟩ = false := ben0 (by decide)
  have e3 : doE [mark W0 (newM ⟨3, 0⟩ ⟨1, 0⟩ ⟨0, 0⟩)] ⟨3, 0⟩ ⟨1, 0⟩ ⟨0, 0⟩ = 5 := by
    have h1 : okF ⟨3, 0⟩ ⟨1, 0⟩ ⟨0, 0⟩ = true := by decide
    have h2 : at? ⟨3, 0⟩ [mark W0 (newM ⟨3, 0⟩ ⟨1, 0⟩ ⟨0, 0⟩)] = true := by
      simp [at?, ix, mark, newM, less]
    rw [doE, h1, h2]; rfl
  have e4 : doD [mark W0 (newM ⟨3, 0⟩ ⟨1, 0⟩ ⟨0, 0⟩)] ⟨3, 0⟩ ⟨1, 0⟩ ⟨0, 0⟩ = [mark W0 (newM ⟨3, 0⟩ ⟨1, 0⟩ ⟨0, 0⟩)] := by
    have h2 : at? ⟨3, 0⟩ [mark W0 (newM ⟨3, 0⟩ ⟨1, 0⟩ ⟨0, 0⟩)] = true := by
      simp [at?, ix, mark, newM, less]
    rw [doD, h2]; simp
  have h00 : decide ((0 : Int) = 0) = true := by decide
  simp -implicitDefEqProofs only [go_sem, Nat.reduceBEq, Nat.reduceAdd, eq_self, true_and, and_true, and_self, List.getElem?_cons_zero, List.getElem?_cons_succ, Nat.reduceLeDiff, Nat.zero_add, Nat.reduceSub, Nat.le_refl, e1, h00]
  refine call_at (do_ok (a := ⟨3, 0⟩) (n := ⟨1, 0⟩) (p := ⟨0, 0⟩) h1 (by simp)) ?_
  rintro v τ2 ⟨rfl, s2, h2, ht2⟩
  refine ⟨kept_none, ?_⟩
  rw [e4] at h2
  have h55 : decide ((5 : Int) = 5) = true := by decide
  simp -implicitDefEqProofs only [go_sem, Nat.reduceBEq, Nat.reduceAdd, eq_self, true_and, and_true, and_self, List.getElem?_cons_zero, List.getElem?_cons_succ, Nat.reduceLeDiff, Nat.zero_add, Nat.reduceSub, Nat.le_refl, e3, h55]
  refine call_at (where_ok (x := ⟨1, 0⟩) h2.tree) ?_
  rintro v τ3 ⟨rfl, he3, hl3⟩
  refine ⟨kept_none, ?_⟩
  have hW : runT W0 [mark W0 (newM ⟨3, 0⟩ ⟨1, 0⟩ ⟨0, 0⟩)] ⟨1, 0⟩ = some ⟨⟨1, 0⟩, ⟨0, 0⟩, ⟨3, 0⟩⟩ := by
    simp only [runT, step_mark]
    show stepW W0 ⟨⟨3, 0⟩, ⟨1, 0⟩, ⟨0, 0⟩, false, zp, false⟩ ⟨1, 0⟩ = _
    simp [stepW, hb, put, pl]
  rw [hW]
  have h3 := h2.tree.ext he3
  have hdd : V.eqs [.int .i64 1, .int .i64 0, .int .i64 0, .int .i64 0, .int .i64 3, .int .i64 0] [.int .i64 1, .int .i64 0, .int .i64 0, .int .i64 0, .int .i64 3, .int .i64 0] = true := by decide
  simp -implicitDefEqProofs only [go_sem, Nat.reduceBEq, Nat.reduceAdd, eq_self, true_and, and_true, and_self, List.getElem?_cons_zero, List.getElem?_cons_succ, Nat.reduceLeDiff, Nat.zero_add, Nat.reduceSub, Nat.le_refl, Option.getD_some, Option.isSome_some, plV, plC, hdd]
  refine call_at (len_ok h3) ?_
  rintro v τ4 ⟨rfl, rfl⟩
  refine ⟨kept_none, ?_⟩
  have h11 : decide (((1 : Nat) : Int) = 1) = true := by decide
  simp -implicitDefEqProofs only [go_sem, Nat.reduceBEq, Nat.reduceAdd, eq_self, true_and, and_true, and_self, List.getElem?_cons_zero, List.getElem?_cons_succ, Nat.reduceLeDiff, Nat.zero_add, Nat.reduceSub, Nat.le_refl, List.length_cons, List.length_nil, h11]
  refine q2 _ _ ?_
  simp -implicitDefEqProofs only [go_sem, Nat.reduceBEq, Nat.reduceAdd, eq_self, true_and, and_true, and_self, List.getElem?_cons_zero, List.getElem?_cons_succ, Nat.reduceLeDiff, Nat.zero_add, Nat.reduceSub, Nat.le_refl, Nat.lt_irrefl]
set_option maxRecDepth 100000 in
theorem where_nil : CallA Try.prog 13 [.ptr none, spV a] σ fun v σ' => v = .tup [plV zp, .bool false] ∧ σ' = σ := by
  refine fn_at Try.func13 (by decide) comp13 rfl fun Q q1 q2 => ?_
  simp -implicitDefEqProofs only [go_sem, Nat.reduceBEq, Nat.reduceAdd, eq_self, true_and, and_true, and_self, List.getElem?_cons_zero, List.getElem?_cons_succ, Nat.reduceLeDiff, Nat.zero_add, Nat.reduceSub, Nat.le_refl, c13, spV, spC]
  refine q2 _ _ ?_
  simp -implicitDefEqProofs only [go_sem, Nat.reduceBEq, Nat.reduceAdd, eq_self, true_and, and_true, and_self, List.getElem?_cons_zero, List.getElem?_cons_succ, Nat.reduceLeDiff, Nat.zero_add, Nat.reduceSub, Nat.le_refl, Nat.lt_irrefl]
  try first | exact ⟨trivial, trivial⟩ | exact ⟨trivial, rfl⟩ | exact ⟨rfl, rfl⟩ | exact ⟨rfl, trivial⟩ | trivial
set_option maxRecDepth 100000 in
theorem undo_nil : CallA Try.prog 28 [.ptr none, spV a] σ fun v σ' => v = .int .i64 7 ∧ σ' = σ := by
  refine fn_at Try.func28 (by decide) comp28 rfl fun Q q1 q2 => ?_
  simp -implicitDefEqProofs only [go_sem, Nat.reduceBEq, Nat.reduceAdd, eq_self, true_and, and_true, and_self, List.getElem?_cons_zero, List.getElem?_cons_succ, Nat.reduceLeDiff, Nat.zero_add, Nat.reduceSub, Nat.le_refl, c28, spV, spC]
  refine q2 _ _ ?_
  simp -implicitDefEqProofs only [go_sem, Nat.reduceBEq, Nat.reduceAdd, eq_self, true_and, and_true, and_self, List.getElem?_cons_zero, List.getElem?_cons_succ, Nat.reduceLeDiff, Nat.zero_add, Nat.reduceSub, Nat.le_refl, Nat.lt_irrefl]
  try first | exact ⟨trivial, trivial⟩ | exact ⟨trivial, rfl⟩ | exact ⟨rfl, rfl⟩ | exact ⟨rfl, trivial⟩ | trivial
set_option maxRecDepth 100000 in
theorem len_nil : CallA Try.prog 29 [.ptr none] σ fun v σ' => v = .int .i64 0 ∧ σ' = σ := by
  refine fn_at Try.func29 (by decide) comp29 rfl fun Q q1 q2 => ?_
  simp -implicitDefEqProofs only [go_sem, Nat.reduceBEq, Nat.reduceAdd, eq_self, true_and, and_true, and_self, List.getElem?_cons_zero, List.getElem?_cons_succ, Nat.reduceLeDiff, Nat.zero_add, Nat.reduceSub, Nat.le_refl, c29]
  refine q2 _ _ ?_
  simp -implicitDefEqProofs only [go_sem, Nat.reduceBEq, Nat.reduceAdd, eq_self, true_and, and_true, and_self, List.getElem?_cons_zero, List.getElem?_cons_succ, Nat.reduceLeDiff, Nat.zero_add, Nat.reduceSub, Nat.le_refl, Nat.lt_irrefl]
  try first | exact ⟨trivial, trivial⟩ | exact ⟨trivial, rfl⟩ | exact ⟨rfl, rfl⟩ | exact ⟨rfl, trivial⟩ | trivial
set_option maxRecDepth 100000 in
theorem counts_nil : CallA Try.prog 12 [.ptr none, spV a] σ fun v σ' => v = .bool false ∧ σ' = σ := by
  refine fn_at Try.func12 (by decide) comp12 rfl fun Q q1 q2 => ?_
  simp -implicitDefEqProofs only [go_sem, Nat.reduceBEq, Nat.reduceAdd, eq_self, true_and, and_true, and_self, List.getElem?_cons_zero, List.getElem?_cons_succ, Nat.reduceLeDiff, Nat.zero_add, Nat.reduceSub, Nat.le_refl, c12, spV, spC]
  refine call_at (place_nil (a := a)) ?_
  rintro v τ ⟨rfl, rfl⟩
  refine ⟨kept_none, ?_⟩
  simp -implicitDefEqProofs only [go_sem, Nat.reduceBEq, Nat.reduceAdd, eq_self, true_and, and_true, and_self, List.getElem?_cons_zero, List.getElem?_cons_succ, Nat.reduceLeDiff, Nat.zero_add, Nat.reduceSub, Nat.le_refl, Nat.lt_irrefl]
  refine q2 _ _ ?_
  simp -implicitDefEqProofs only [go_sem, Nat.reduceBEq, Nat.reduceAdd, eq_self, true_and, and_true, and_self, List.getElem?_cons_zero, List.getElem?_cons_succ, Nat.reduceLeDiff, Nat.zero_add, Nat.reduceSub, Nat.le_refl, Nat.lt_irrefl]
  try first | exact ⟨trivial, trivial⟩ | exact ⟨trivial, rfl⟩ | exact ⟨rfl, rfl⟩ | exact ⟨rfl, trivial⟩ | trivial
set_option maxRecDepth 100000 in
theorem all_nil : CallA Try.prog 18 [.ptr none] σ fun v σ' => v = .sl true .pub 6 [] ∧ σ' = σ := by
  refine fn_at Try.func18 (by decide) comp18 rfl fun Q q1 q2 => ?_
  simp -implicitDefEqProofs only [go_sem, Nat.reduceBEq, Nat.reduceAdd, eq_self, true_and, and_true, and_self, List.getElem?_cons_zero, List.getElem?_cons_succ, Nat.reduceLeDiff, Nat.zero_add, Nat.reduceSub, Nat.le_refl, c18]
  refine q2 _ _ ?_
  simp -implicitDefEqProofs only [go_sem, Nat.reduceBEq, Nat.reduceAdd, eq_self, true_and, and_true, and_self, List.getElem?_cons_zero, List.getElem?_cons_succ, Nat.reduceLeDiff, Nat.zero_add, Nat.reduceSub, Nat.le_refl, Nat.lt_irrefl]
  try first | exact ⟨trivial, trivial⟩ | exact ⟨trivial, rfl⟩ | exact ⟨rfl, rfl⟩ | exact ⟨rfl, trivial⟩ | trivial
set_option maxRecDepth 100000 in
theorem clone_nil : CallA Try.prog 30 [.ptr none] σ fun v σ' => v = .ptr none ∧ σ' = σ := by
  refine fn_at Try.func30 (by decide) comp30 rfl fun Q q1 q2 => ?_
  simp -implicitDefEqProofs only [go_sem, Nat.reduceBEq, Nat.reduceAdd, eq_self, true_and, and_true, and_self, List.getElem?_cons_zero, List.getElem?_cons_succ, Nat.reduceLeDiff, Nat.zero_add, Nat.reduceSub, Nat.le_refl, c30]
  refine q2 _ _ ?_
  simp -implicitDefEqProofs only [go_sem, Nat.reduceBEq, Nat.reduceAdd, eq_self, true_and, and_true, and_self, List.getElem?_cons_zero, List.getElem?_cons_succ, Nat.reduceLeDiff, Nat.zero_add, Nat.reduceSub, Nat.le_refl, Nat.lt_irrefl]
  try first | exact ⟨trivial, trivial⟩ | exact ⟨trivial, rfl⟩ | exact ⟨rfl, rfl⟩ | exact ⟨rfl, trivial⟩ | trivial
set_option maxRecDepth 100000 in
theorem above_nil : CallA Try.prog 20 [.ptr none, spV a] σ fun v σ' => v = .sl true .pub 2 [] ∧ σ' = σ := by
  refine fn_at Try.func20 (by decide) comp20 rfl fun Q q1 q2 => ?_
  simp -implicitDefEqProofs only [go_sem, Nat.reduceBEq, Nat.reduceAdd, eq_self, true_and, and_true, and_self, List.getElem?_cons_zero, List.getElem?_cons_succ, Nat.reduceLeDiff, Nat.zero_add, Nat.reduceSub, Nat.le_refl, c20, spV, spC]
  refine call_at (where_nil (a := a)) ?_
  rintro v τ ⟨rfl, rfl⟩
  refine ⟨kept_none, ?_⟩
  simp -implicitDefEqProofs only [go_sem, Nat.reduceBEq, Nat.reduceAdd, eq_self, true_and, and_true, and_self, List.getElem?_cons_zero, List.getElem?_cons_succ, Nat.reduceLeDiff, Nat.zero_add, Nat.reduceSub, Nat.le_refl, plV, plC]
  refine loop_at (fun (_ : Unit) => ⟨[(5, .v (.sl true .pub 2 [])), (7, .v (.bool false))], []⟩) (fun _ τ' => τ' = τ) (fun _ => 0) () ?_ ?_ ?_
  · refine .inr ?_
    simp -implicitDefEqProofs only [go_sem, Nat.reduceBEq, Nat.reduceAdd, eq_self, true_and, and_true, and_self, List.getElem?_cons_zero, List.getElem?_cons_succ, Nat.reduceLeDiff, Nat.zero_add, Nat.reduceSub, Nat.le_refl, Nat.lt_irrefl]
    try trivial
  · rfl
  rintro u τ' rfl Z z1 z2 z3
  simp -implicitDefEqProofs only [go_sem, Nat.reduceBEq, Nat.reduceAdd, eq_self, true_and, and_true, and_self, List.getElem?_cons_zero, List.getElem?_cons_succ, Nat.reduceLeDiff, Nat.zero_add, Nat.reduceSub, Nat.le_refl, Nat.lt_irrefl]
  refine z2 _ _ _ ?_
  simp -implicitDefEqProofs only [go_sem, Nat.reduceBEq, Nat.reduceAdd, eq_self, true_and, and_true, and_self, List.getElem?_cons_zero, List.getElem?_cons_succ, Nat.reduceLeDiff, Nat.zero_add, Nat.reduceSub, Nat.le_refl, Nat.lt_irrefl]
  refine q2 _ _ ?_
  simp -implicitDefEqProofs only [go_sem, Nat.reduceBEq, Nat.reduceAdd, eq_self, true_and, and_true, and_self, List.getElem?_cons_zero, List.getElem?_cons_succ, Nat.reduceLeDiff, Nat.zero_add, Nat.reduceSub, Nat.le_refl, Nat.lt_irrefl]
  try first | exact ⟨trivial, trivial⟩ | exact ⟨trivial, rfl⟩ | exact ⟨rfl, rfl⟩ | exact ⟨rfl, trivial⟩ | trivial
set_option maxRecDepth 100000 in
theorem kids_nil : CallA Try.prog 26 [.ptr none, spV a] σ fun v σ' => v = .sl true .pub 2 [] ∧ σ' = σ := by
  refine fn_at Try.func26 (by decide) comp26 rfl fun Q q1 q2 => ?_
  simp -implicitDefEqProofs only [go_sem, Nat.reduceBEq, Nat.reduceAdd, eq_self, true_and, and_true, and_self, List.getElem?_cons_zero, List.getElem?_cons_succ, Nat.reduceLeDiff, Nat.zero_add, Nat.reduceSub, Nat.le_refl, c26, spV, spC]
  refine call_at all_nil ?_
  rintro v τ ⟨rfl, rfl⟩
  refine ⟨kept_none, ?_⟩
  simp -implicitDefEqProofs only [go_sem, Nat.reduceBEq, Nat.reduceAdd, eq_self, true_and, and_true, and_self, List.getElem?_cons_zero, List.getElem?_cons_succ, Nat.reduceLeDiff, Nat.zero_add, Nat.reduceSub, Nat.le_refl, Nat.lt_irrefl]
  refine loop_at (fun (_ : Unit) => ⟨[(5, .v (.sl true .pub 2 [])), (10, .v (.int .i64 ((([] : List (List V)).length : Nat) : Int))), (11, .v (.int .i64 0))], []⟩) (fun _ τ' => τ' = τ) (fun _ => 0) () ?_ ?_ ?_
  · refine .inr ?_
    simp -implicitDefEqProofs only [go_sem, Nat.reduceBEq, Nat.reduceAdd, eq_self, true_and, and_true, and_self, List.getElem?_cons_zero, List.getElem?_cons_succ, Nat.reduceLeDiff, Nat.zero_add, Nat.reduceSub, Nat.le_refl, Nat.lt_irrefl]
    try trivial
  · rfl
  rintro u τ' rfl Z z1 z2 z3
  have h0 : decide ((0 : Int) < ((0 : Nat) : Int)) = false := by decide
  simp -implicitDefEqProofs only [go_sem, Nat.reduceBEq, Nat.reduceAdd, eq_self, true_and, and_true, and_self, List.getElem?_cons_zero, List.getElem?_cons_succ, Nat.reduceLeDiff, Nat.zero_add, Nat.reduceSub, Nat.le_refl, h0]
  refine z2 _ _ _ ?_
  simp -implicitDefEqProofs only [go_sem, Nat.reduceBEq, Nat.reduceAdd, eq_self, true_and, and_true, and_self, List.getElem?_cons_zero, List.getElem?_cons_succ, Nat.reduceLeDiff, Nat.zero_add, Nat.reduceSub, Nat.le_refl, Nat.lt_irrefl]
  refine q2 _ _ ?_
  simp -implicitDefEqProofs only [go_sem, Nat.reduceBEq, Nat.reduceAdd, eq_self, true_and, and_true, and_self, List.getElem?_cons_zero, List.getElem?_cons_succ, Nat.reduceLeDiff, Nat.zero_add, Nat.reduceSub, Nat.le_refl, Nat.lt_irrefl]
  try first | exact ⟨trivial, trivial⟩ | exact ⟨trivial, rfl⟩ | exact ⟨rfl, rfl⟩ | exact ⟨rfl, trivial⟩ | trivial
set_option maxHeartbeats 1600000 in
set_option maxRecDepth 100000 in
theorem nil_ok : CallA Try.prog 10 [acV x] σ fun v _ => v = .bool true := by
  refine fn_at Try.func10 (by decide) comp10 rfl fun Q q1 q2 => ?_
  have h77 : decide ((7 : Int) = 7) = true := by decide
  have h00 : decide ((0 : Int) = 0) = true := by decide
  have hn0 : decide (((0 : Nat) : Int) = 0) = true := by decide
  have hdd : V.eqs [.int .i64 zs.c, .int .i64 zs.r, .int .i64 zs.c, .int .i64 zs.r, .int .i64 zs.c, .int .i64 zs.r] [.int .i64 0, .int .i64 0, .int .i64 0, .int .i64 0, .int .i64 0, .int .i64 0] = true := by decide
  simp -implicitDefEqProofs only [go_sem, Nat.reduceBEq, Nat.reduceAdd, eq_self, true_and, and_true, and_self, List.getElem?_cons_zero, List.getElem?_cons_succ, Nat.reduceLeDiff, Nat.zero_add, Nat.reduceSub, Nat.le_refl, c10, acV, acC]
  refine call_at (where_nil (a := x.n)) ?_
  rintro v τ ⟨rfl, rfl⟩
  refine ⟨kept_none, ?_⟩
  simp -implicitDefEqProofs only [go_sem, Nat.reduceBEq, Nat.reduceAdd, eq_self, true_and, and_true, and_self, List.getElem?_cons_zero, List.getElem?_cons_succ, Nat.reduceLeDiff, Nat.zero_add, Nat.reduceSub, Nat.le_refl, plV, plC, zp]
  refine call_at (do_nil (a := x.a) (n := x.n) (p := x.p)) ?_
  rintro v τ ⟨rfl, rfl⟩
  refine ⟨kept_none, ?_⟩
  simp -implicitDefEqProofs only [go_sem, Nat.reduceBEq, Nat.reduceAdd, eq_self, true_and, and_true, and_self, List.getElem?_cons_zero, List.getElem?_cons_succ, Nat.reduceLeDiff, Nat.zero_add, Nat.reduceSub, Nat.le_refl, h77]
  refine call_at (undo_nil (a := x.a)) ?_
  rintro v τ ⟨rfl, rfl⟩
  refine ⟨kept_none, ?_⟩
  simp -implicitDefEqProofs only [go_sem, Nat.reduceBEq, Nat.reduceAdd, eq_self, true_and, and_true, and_self, List.getElem?_cons_zero, List.getElem?_cons_succ, Nat.reduceLeDiff, Nat.zero_add, Nat.reduceSub, Nat.le_refl, h77]
  refine call_at len_nil ?_
  rintro v τ ⟨rfl, rfl⟩
  refine ⟨kept_none, ?_⟩
  simp -implicitDefEqProofs only [go_sem, Nat.reduceBEq, Nat.reduceAdd, eq_self, true_and, and_true, and_self, List.getElem?_cons_zero, List.getElem?_cons_succ, Nat.reduceLeDiff, Nat.zero_add, Nat.reduceSub, Nat.le_refl, h00]
  refine call_at (counts_nil (a := x.a)) ?_
  rintro v τ ⟨rfl, rfl⟩
  refine ⟨kept_none, ?_⟩
  simp -implicitDefEqProofs only [go_sem, Nat.reduceBEq, Nat.reduceAdd, eq_self, true_and, and_true, and_self, List.getElem?_cons_zero, List.getElem?_cons_succ, Nat.reduceLeDiff, Nat.zero_add, Nat.reduceSub, Nat.le_refl, hdd]
  refine call_at (above_nil (a := x.n)) ?_
  rintro v τ ⟨rfl, rfl⟩
  refine ⟨kept_none, ?_⟩
  simp -implicitDefEqProofs only [go_sem, Nat.reduceBEq, Nat.reduceAdd, eq_self, true_and, and_true, and_self, List.getElem?_cons_zero, List.getElem?_cons_succ, Nat.reduceLeDiff, Nat.zero_add, Nat.reduceSub, Nat.le_refl, hn0]
  refine call_at (kids_nil (a := x.p)) ?_
  rintro v τ ⟨rfl, rfl⟩
  refine ⟨kept_none, ?_⟩
  simp -implicitDefEqProofs only [go_sem, Nat.reduceBEq, Nat.reduceAdd, eq_self, true_and, and_true, and_self, List.getElem?_cons_zero, List.getElem?_cons_succ, Nat.reduceLeDiff, Nat.zero_add, Nat.reduceSub, Nat.le_refl, hn0]
  refine call_at all_nil ?_
  rintro v τ ⟨rfl, rfl⟩
  refine ⟨kept_none, ?_⟩
  simp -implicitDefEqProofs only [go_sem, Nat.reduceBEq, Nat.reduceAdd, eq_self, true_and, and_true, and_self, List.getElem?_cons_zero, List.getElem?_cons_succ, Nat.reduceLeDiff, Nat.zero_add, Nat.reduceSub, Nat.le_refl, hn0]
  refine call_at clone_nil ?_
  rintro v τ ⟨rfl, rfl⟩
  refine ⟨kept_none, ?_⟩
  simp -implicitDefEqProofs only [go_sem, Nat.reduceBEq, Nat.reduceAdd, eq_self, true_and, and_true, and_self, List.getElem?_cons_zero, List.getElem?_cons_succ, Nat.reduceLeDiff, Nat.zero_add, Nat.reduceSub, Nat.le_refl, Nat.lt_irrefl]
  refine call_at awake_ok ?_
  rintro v τ1 rfl
  refine ⟨kept_none, ?_⟩
  simp -implicitDefEqProofs only [go_sem, Nat.reduceBEq, Nat.reduceAdd, eq_self, true_and, and_true, and_self, List.getElem?_cons_zero, List.getElem?_cons_succ, Nat.reduceLeDiff, Nat.zero_add, Nat.reduceSub, Nat.le_refl, Nat.lt_irrefl]
  refine q2 _ _ ?_
  simp -implicitDefEqProofs only [go_sem, Nat.reduceBEq, Nat.reduceAdd, eq_self, true_and, and_true, and_self, List.getElem?_cons_zero, List.getElem?_cons_succ, Nat.reduceLeDiff, Nat.zero_add, Nat.reduceSub, Nat.le_refl, Nat.lt_irrefl]
end
end Go.VL.mov

namespace Go.VL
open Go

section
variable {H : Type} {enc : TypeId × Value → H} {P : Program} {w w' : World} {base : Nat} {sp : Nat → Bool} {held : Bool}

theorem OldKept.same {W W' : World} (h : OldKept W W') {p : MemPlace} (hp : p.block < W.heap.size) : W.sameAt W' p := by
  have h1 : W.heap[p.block]? = some W.heap[p.block] := Array.getElem?_eq_getElem hp
  have h2 := h.heap _ _ h1
  cases p with
  | cell b off =>
    simp only [MemPlace.block] at h1 h2
    simp only [World.sameAt, World.cell?, h1, h2]
  | map b =>
    simp only [MemPlace.block] at h1 h2
    simp only [World.sameAt, h1, h2]

theorem trodAll_old : ∀ {ts : List TypeId} {vs : List Value} {ds : List (DataW H)} {ps : List MemPlace}, DataW.TrodAll enc P w base sp held ts vs ds ps → (∀ p ∈ ps, w.sameAt w' p) → DataW.TrodAll enc P w' base sp held ts vs ds ps
  | [], [], [], _, h, _ => h
  | _ :: _, _ :: _, _ :: _, _, ⟨p, q, ⟨n, h1⟩, h2, e⟩, hs =>
    ⟨p, q, ⟨n, DataW.trod_carry n _ _ _ h1 (fun x hx => hs x (by rw [e]; exact List.mem_append_left _ hx))⟩, trodAll_old h2 (fun x hx => hs x (by rw [e]; exact List.mem_append_right _ hx)), e⟩
end
end Go.VL

namespace Go.VL
open Go

/-- Cells that were there from the start. -/
theorem pub_cells {W : World} {a : Addr} {vs : List Value} (h : ∀ (i : Nat) v, vs[i]? = some v → W.cell? ⟨a.block, a.off + i, none⟩ = some v) : pubAt (g0 W) a.block a.off vs := by
  intro i v hv
  have hc := h i v hv
  simp only [g0, pubOf]
  unfold World.cell? at hc
  cases hb : W.heap[a.block]? with
  | none => rw [hb] at hc; cases hc
  | some o =>
    rw [hb] at hc
    cases o with
    | cells c e z => simpa using hc
    | _ => cases hc

theorem repE_ints {γ : G} (k : IntKind) : ∀ (zs : List Int), RepE γ 1 (intsV k zs) (zs.map fun n => Value.int k n)
  | [] => by simp [intsV, RepE]
  | z :: r => by
    simp only [intsV, List.map_cons, RepE]
    exact ⟨[.int k z], r.map fun n => Value.int k n, rfl, rfl, by simp only [RepL]; exact ⟨_, _, rfl, by simp only [Rep], rfl⟩, repE_ints k r, by simp [Value.oneCell']⟩

/-- A slice of numbers that was there. -/
theorem arg_ints {W : World} {k : IntKind} {a : Addr} {len cap : Nat} {zs : List Int} (hsp : a.spot = none) (hl : zs.length = len) (hc : len ≤ cap) (h : ∀ i, i < zs.length → W.cell? (a.add i) = some (.int k (zs.getD i 0))) :
    Rep (g0 W) (.sl false .pub 1 (intsV k zs)) (.slice (some a) len cap) := by
  simp only [Rep, intsV_length]
  refine ⟨a, cap, zs.map fun n => Value.int k n, by rw [hl], .inr hsp, by omega, pub_cells fun i v hv => ?_, repE_ints k zs⟩
  rw [List.getElem?_map] at hv
  cases hz : zs[i]? with
  | none => rw [hz] at hv; cases hv
  | some z =>
    rw [hz] at hv
    have hi := (List.getElem?_eq_some_iff.1 hz).1
    have := h i hi
    obtain ⟨b, o, s⟩ := a
    simp only at hsp
    subst hsp
    simp only [Option.map_some, Option.some.injEq] at hv
    subst hv
    have hd : zs.getD i 0 = z := by simp [List.getD, hz]
    rw [hd] at this
    rwa [add_spot rfl] at this

theorem repE_strs {γ : G} : ∀ (ss : List ByteArray), RepE γ 1 (ss.map fun s => [V.str s.data.toList]) (ss.map Value.string)
  | [] => by simp [RepE]
  | s :: r => by
    simp only [List.map_cons, RepE]
    exact ⟨[.string s], r.map Value.string, rfl, rfl, by simp only [RepL]; exact ⟨_, _, rfl, by simp only [Rep], rfl⟩, repE_strs r, by simp [Value.oneCell']⟩

/-- A slice of texts that was there. -/
theorem arg_strs {W : World} {a : Addr} {len cap : Nat} {ss : List ByteArray} (hsp : a.spot = none) (hl : ss.length = len) (hc : len ≤ cap) (h : ∀ i, i < ss.length → W.cell? (a.add i) = some (.string (ss.getD i ByteArray.empty))) :
    Rep (g0 W) (.sl false .pub 1 (ss.map fun s => [V.str s.data.toList])) (.slice (some a) len cap) := by
  simp only [Rep, List.length_map]
  refine ⟨a, cap, ss.map Value.string, by rw [hl], .inr hsp, by omega, pub_cells fun i v hv => ?_, repE_strs ss⟩
  rw [List.getElem?_map] at hv
  cases hz : ss[i]? with
  | none => rw [hz] at hv; cases hv
  | some z =>
    rw [hz] at hv
    have hi := (List.getElem?_eq_some_iff.1 hz).1
    have := h i hi
    obtain ⟨b, o, s⟩ := a
    simp only at hsp
    subst hsp
    simp only [Option.map_some, Option.some.injEq] at hv
    subst hv
    have hd : ss.getD i ByteArray.empty = z := by simp [List.getD, hz]
    rw [hd] at this
    rwa [add_spot rfl] at this
end Go.VL
