import Derived.Test.YtkahnkemijlgkaaB1
import Derived.Test.YtkahnkemijlgkaaProg
import Derived.IntWalk
import Derived.WalkKit
import Derived.ProofKit
import Derived.OpenShut
import Derived.JoinedCond
import Derived.Shelf.Spec.SlicesInsertGrow
import Derived.Shelf.SlSortCmp.NoneTotal
import Derived.Shelf.Lay
import Derived.Ground.SlsfProg
set_option linter.unusedVariables false
set_option linter.unusedSimpArgs false
namespace Go.VL.rga
open Go Go.VL Go.Proofs
/-- (*topiary/rga.Row).Order: 1 parameters, 14 slots. -/
def c13 : C :=
  .seq (.ops [⟨none, .mv 2 (.c (.sl true .pub 2 []))⟩])
  (.seq (.ops [⟨none, .alH 3 [.sl true .pub 0 []]⟩])
  (.seq (.seq (.ops [⟨none, .mv 5 (.t 0)⟩,
    ⟨none, .ca (some 6) 30 [(.t 5)]⟩])
  (.block 0 (.range (.t 6) [7] (.ops [⟨none, .alL 4 [.int .i64 0, .int .i64 0, .int .i64 0, .int .i64 0]⟩,
    ⟨none, .st (.t 4) (.t 7) 4⟩])
  (.block 1 (.ops [⟨none, .ld 8 (.t 3) 1 false⟩,
    ⟨none, .fa 9 (.t 4) 0⟩,
    ⟨none, .ld 10 (.t 9) 2 true⟩,
    ⟨none, .lit 11 2 [(.t 10)]⟩,
    ⟨none, .ap 12 2 (.t 8) (.t 11)⟩,
    ⟨none, .st (.t 3) (.t 12) 1⟩])))))
  (.seq (.ops [⟨none, .ld 13 (.t 3) 1 false⟩,
    ⟨none, .mv 2 (.t 13)⟩])
  (.ret))))
theorem comp13 : compFn Try.prog [4] Try.f13 = some ([.t 2], c13) := by kernel_rfl
/-- topiary/topiarylaw12.awake: 0 parameters, 38 slots. -/
def c14 : C :=
  .seq (.ops [⟨none, .mv 0 (.c (.bool false))⟩])
  (.seq (.ops [⟨none, .ca (some 4) 22 []⟩,
    ⟨none, .mv 1 (.t 4)⟩])
  (.seq (.ops [⟨none, .bld 5 [.int .i64 0, .int .i64 0] [(0, 1, (.c (.int .i64 1)))]⟩,
    ⟨none, .alL 2 [.int .i64 0, .int .i64 0]⟩,
    ⟨none, .st (.t 2) (.t 5) 2⟩])
  (.seq (.ops [⟨none, .bld 6 [.int .i64 0, .int .i64 0] [(0, 1, (.c (.int .i64 2)))]⟩,
    ⟨none, .alL 3 [.int .i64 0, .int .i64 0]⟩,
    ⟨none, .st (.t 3) (.t 6) 2⟩])
  (.seq (.opsD [⟨none, .mv 7 (.t 1)⟩,
    ⟨none, .bq 8 true .ptr (.t 7) (.c (.ptr none))⟩,
    ⟨none, .mv 9 (.t 8)⟩,
    ⟨some (9, true), .mv 10 (.t 1)⟩,
    ⟨some (9, true), .ld 11 (.t 2) 2 true⟩,
    ⟨some (9, true), .bld 12 [.int .i64 0, .int .i64 0] []⟩,
    ⟨some (9, true), .ca (some 13) 16 [(.t 10), (.t 11), (.t 12)]⟩,
    ⟨some (9, true), .bi 14 .eql (.t 13) (.c (.int .i64 0))⟩,
    ⟨none, .pk 15 (.t 9) (.t 14) (.c (.bool false))⟩,
    ⟨none, .mv 16 (.t 15)⟩,
    ⟨some (16, true), .mv 17 (.t 1)⟩,
    ⟨some (16, true), .ld 18 (.t 3) 2 true⟩,
    ⟨some (16, true), .ld 19 (.t 2) 2 true⟩,
    ⟨some (16, true), .ca (some 20) 16 [(.t 17), (.t 18), (.t 19)]⟩,
    ⟨some (16, true), .bi 21 .eql (.t 20) (.c (.int .i64 0))⟩,
    ⟨none, .pk 22 (.t 16) (.t 21) (.c (.bool false))⟩,
    ⟨none, .mv 23 (.t 22)⟩,
    ⟨some (23, true), .mv 24 (.t 1)⟩,
    ⟨some (23, true), .ld 25 (.t 3) 2 true⟩,
    ⟨some (23, true), .ld 26 (.t 2) 2 true⟩,
    ⟨some (23, true), .ca (some 27) 16 [(.t 24), (.t 25), (.t 26)]⟩,
    ⟨some (23, true), .bi 28 .eql (.t 27) (.c (.int .i64 5))⟩,
    ⟨none, .pk 29 (.t 23) (.t 28) (.c (.bool false))⟩,
    ⟨none, .mv 30 (.t 29)⟩,
    ⟨some (30, true), .mv 31 (.t 1)⟩,
    ⟨some (30, true), .ld 33 (.t 2) 2 true⟩,
    ⟨some (30, true), .ld 34 (.t 3) 2 true⟩,
    ⟨some (30, true), .lip 35 2 [(.t 33), (.t 34)]⟩,
    ⟨some (30, true), .ca (some 32) 13 [(.t 31)]⟩,
    ⟨some (30, true), .ca (some 36) 17 [(.t 32), (.t 35)]⟩,
    ⟨none, .pk 37 (.t 30) (.t 36) (.c (.bool false))⟩,
    ⟨none, .mv 0 (.t 37)⟩])
  (.ret)))))
theorem comp14 : compFn Try.prog [2, 3, 7000035] Try.f14 = some ([.t 0], c14) := by kernel_rfl
/-- (*topiary/rga.Row).Has: 2 parameters, 16 slots. -/
def c15 : C :=
  .seq (.ops [⟨none, .bxL 3 (.t 1)⟩,
    ⟨none, .mv 4 (.c (.bool false))⟩])
  (.seq (.opsD [⟨none, .mv 5 (.t 0)⟩,
    ⟨none, .bq 6 true .ptr (.t 5) (.c (.ptr none))⟩,
    ⟨none, .mv 7 (.t 6)⟩,
    ⟨some (7, true), .mv 8 (.t 0)⟩,
    ⟨some (7, true), .nc 9 (.t 8)⟩,
    ⟨some (7, true), .fa 10 (.t 9) 2⟩,
    ⟨some (7, true), .ld 11 (.t 10) 1 false⟩,
    ⟨some (7, true), .ld 12 (.t 3) 2 true⟩,
    ⟨some (7, true), .lk 13 [.agg, .int .i64, .int .i64] (.t 11) (.t 12) false (.int .i64 0)⟩,
    ⟨some (7, true), .bi 14 .gtr (.t 13) (.c (.int .i64 0))⟩,
    ⟨none, .pk 15 (.t 7) (.t 14) (.c (.bool false))⟩,
    ⟨none, .mv 4 (.t 15)⟩])
  (.ret))
theorem comp15 : compFn Try.prog [3] Try.f15 = some ([.t 4], c15) := by kernel_rfl
/-- (*topiary/rga.Row).Add: 3 parameters, 94 slots. -/
def c16 : C :=
  .seq (.ops [⟨none, .bxL 4 (.t 1)⟩,
    ⟨none, .bxL 5 (.t 2)⟩,
    ⟨none, .mv 6 (.c (.int .i64 0))⟩])
  (.seq (.seq (.ops [⟨none, .mv 10 (.t 0)⟩,
    ⟨none, .bq 11 false .ptr (.t 10) (.c (.ptr none))⟩])
  (.cond (.t 11) (.seq (.ops [⟨none, .mv 6 (.c (.int .i64 7))⟩])
    (.ret))
    (.skip)))
  (.seq (.ops [⟨none, .ld 12 (.t 4) 2 true⟩,
    ⟨none, .ld 13 (.t 5) 2 true⟩,
    ⟨none, .bld 14 [.int .i64 0, .int .i64 0, .int .i64 0, .int .i64 0] [(0, 2, (.t 12)), (2, 2, (.t 13))]⟩,
    ⟨none, .alL 7 [.int .i64 0, .int .i64 0, .int .i64 0, .int .i64 0]⟩,
    ⟨none, .st (.t 7) (.t 14) 4⟩])
  (.seq (.seq (.ops [⟨none, .ld 15 (.t 7) 4 true⟩,
    ⟨none, .ca (some 16) 32 [(.t 15)]⟩,
    ⟨none, .un 17 .not (.t 16)⟩])
  (.cond (.t 17) (.seq (.ops [⟨none, .mv 6 (.c (.int .i64 2))⟩])
    (.ret))
    (.skip)))
  (.seq (.seq (.ops [⟨none, .mv 18 (.t 0)⟩,
    ⟨none, .ld 19 (.t 4) 2 true⟩,
    ⟨none, .ca (some 20) 15 [(.t 18), (.t 19)]⟩])
  (.cond (.t 20) (.seq (.ops [⟨none, .mv 6 (.c (.int .i64 5))⟩])
    (.ret))
    (.skip)))
  (.seq (.opsD [⟨none, .mv 21 (.t 0)⟩,
    ⟨none, .nc 22 (.t 21)⟩,
    ⟨none, .fa 23 (.t 22) 1⟩,
    ⟨none, .ld 24 (.t 23) 1 false⟩,
    ⟨none, .ld 25 (.t 4) 2 true⟩,
    ⟨none, .lk 26 [.agg, .int .i64, .int .i64] (.t 24) (.t 25) false (.int .i64 0)⟩,
    ⟨none, .bi 27 .gtr (.t 26) (.c (.int .i64 0))⟩,
    ⟨none, .mv 8 (.t 27)⟩])
  (.seq (.ops [⟨none, .mv 9 (.c (.int .i64 0))⟩])
  (.cut (.seq (.ops [⟨none, .mv 28 (.t 0)⟩,
    ⟨none, .ld 29 (.t 5) 2 true⟩,
    ⟨none, .ca (some 30) 15 [(.t 28), (.t 29)]⟩])
  (.cond (.t 30) (.ops [⟨none, .mv 31 (.t 0)⟩,
      ⟨none, .ld 32 (.t 5) 2 true⟩,
      ⟨none, .ca (some 33) 33 [(.t 31), (.t 32)]⟩,
      ⟨none, .bi 34 .add (.t 33) (.c (.int .i64 1))⟩,
      ⟨none, .mv 9 (.t 34)⟩])
    (.skip)))
  (.seq (.block 0 (.loop (.seq (.seq (.opsD [⟨none, .mv 35 (.t 9)⟩,
    ⟨none, .mv 36 (.t 0)⟩,
    ⟨none, .nc 37 (.t 36)⟩,
    ⟨none, .fa 38 (.t 37) 0⟩,
    ⟨none, .ld 39 (.t 38) 1 false⟩,
    ⟨none, .ln 40 .sl (.t 39)⟩,
    ⟨none, .bi 41 .lss (.t 35) (.t 40)⟩,
    ⟨none, .mv 42 (.t 41)⟩,
    ⟨some (42, true), .ld 43 (.t 4) 2 true⟩,
    ⟨some (42, true), .mv 44 (.t 0)⟩,
    ⟨some (42, true), .nc 45 (.t 44)⟩,
    ⟨some (42, true), .fa 46 (.t 45) 0⟩,
    ⟨some (42, true), .ld 47 (.t 46) 1 false⟩,
    ⟨some (42, true), .mv 48 (.t 9)⟩,
    ⟨some (42, true), .ia 49 (.t 47) (.t 48) 4⟩,
    ⟨some (42, true), .fa 50 (.t 49) 0⟩,
    ⟨some (42, true), .ld 51 (.t 50) 2 true⟩,
    ⟨some (42, true), .ca (some 52) 34 [(.t 43), (.t 51)]⟩,
    ⟨none, .pk 53 (.t 42) (.t 52) (.c (.bool false))⟩])
  (.cond (.t 53) (.skip)
    (.exit 0)))
  (.block 1 (.ops [⟨none, .mv 54 (.t 9)⟩,
    ⟨none, .bi 55 .add (.t 54) (.c (.int .i64 1))⟩,
    ⟨none, .mv 9 (.t 55)⟩])))))
  (.seq (.opsD [⟨none, .mv 56 (.t 0)⟩,
    ⟨none, .mv 57 (.t 0)⟩,
    ⟨none, .nc 58 (.t 57)⟩,
    ⟨none, .fa 59 (.t 58) 0⟩,
    ⟨none, .ld 60 (.t 59) 1 false⟩,
    ⟨none, .mv 61 (.t 9)⟩,
    ⟨none, .ld 62 (.t 7) 4 true⟩,
    ⟨none, .lit 63 4 [(.t 62)]⟩,
    ⟨none, .ca (some 64) 35 [(.t 60), (.t 61), (.t 63)]⟩,
    ⟨none, .nc 65 (.t 56)⟩,
    ⟨none, .fa 66 (.t 65) 0⟩,
    ⟨none, .st (.t 66) (.t 64) 1⟩])
  (.cut (.opsE [⟨none, .mv 67 (.t 0)⟩,
    ⟨none, .nc 68 (.t 67)⟩,
    ⟨none, .fa 69 (.t 68) 2⟩,
    ⟨none, .ld 70 (.t 69) 1 false⟩,
    ⟨none, .ld 71 (.t 4) 2 true⟩,
    ⟨none, .lk 72 [.agg, .int .i64, .int .i64] (.t 70) (.t 71) false (.int .i64 0)⟩,
    ⟨none, .bi 73 .add (.t 72) (.c (.int .i64 1))⟩,
    ⟨none, .me 74 [.agg, .int .i64, .int .i64] (.t 70) (.t 71) (.int .i64 0)⟩,
    ⟨none, .ex 75 (.t 74) 1⟩,
    ⟨none, .es [.agg, .int .i64, .int .i64] (.t 70) (.t 75) (.t 73)⟩]
  [⟨none, .mv 67 (.t 0)⟩,
    ⟨none, .nc 68 (.t 67)⟩,
    ⟨none, .fa 69 (.t 68) 2⟩,
    ⟨none, .ld 70 (.t 69) 1 false⟩,
    ⟨none, .ld 71 (.t 4) 2 true⟩,
    ⟨none, .me 74 [.agg, .int .i64, .int .i64] (.t 70) (.t 71) (.int .i64 0)⟩,
    ⟨none, .lk 72 [.agg, .int .i64, .int .i64] (.t 70) (.t 71) false (.int .i64 0)⟩,
    ⟨none, .bi 73 .add (.t 72) (.c (.int .i64 1))⟩,
    ⟨none, .ex 75 (.t 74) 1⟩,
    ⟨none, .es [.agg, .int .i64, .int .i64] (.t 70) (.t 75) (.t 73)⟩])
  (.cut (.opsE [⟨none, .mv 76 (.t 0)⟩,
    ⟨none, .nc 77 (.t 76)⟩,
    ⟨none, .fa 78 (.t 77) 1⟩,
    ⟨none, .ld 79 (.t 78) 1 false⟩,
    ⟨none, .ld 80 (.t 5) 2 true⟩,
    ⟨none, .lk 81 [.agg, .int .i64, .int .i64] (.t 79) (.t 80) false (.int .i64 0)⟩,
    ⟨none, .bi 82 .add (.t 81) (.c (.int .i64 1))⟩,
    ⟨none, .me 83 [.agg, .int .i64, .int .i64] (.t 79) (.t 80) (.int .i64 0)⟩,
    ⟨none, .ex 84 (.t 83) 1⟩,
    ⟨none, .es [.agg, .int .i64, .int .i64] (.t 79) (.t 84) (.t 82)⟩]
  [⟨none, .mv 76 (.t 0)⟩,
    ⟨none, .nc 77 (.t 76)⟩,
    ⟨none, .fa 78 (.t 77) 1⟩,
    ⟨none, .ld 79 (.t 78) 1 false⟩,
    ⟨none, .ld 80 (.t 5) 2 true⟩,
    ⟨none, .me 83 [.agg, .int .i64, .int .i64] (.t 79) (.t 80) (.int .i64 0)⟩,
    ⟨none, .lk 81 [.agg, .int .i64, .int .i64] (.t 79) (.t 80) false (.int .i64 0)⟩,
    ⟨none, .bi 82 .add (.t 81) (.c (.int .i64 1))⟩,
    ⟨none, .ex 84 (.t 83) 1⟩,
    ⟨none, .es [.agg, .int .i64, .int .i64] (.t 79) (.t 84) (.t 82)⟩])
  (.cut (.seq (.ops [⟨none, .mv 85 (.t 8)⟩])
  (.cond (.t 85) (.ops [⟨none, .mv 86 (.t 0)⟩,
      ⟨none, .mv 87 (.t 0)⟩,
      ⟨none, .nc 88 (.t 87)⟩,
      ⟨none, .fa 89 (.t 88) 0⟩,
      ⟨none, .ld 90 (.t 89) 1 false⟩,
      ⟨none, .ca (some 91) 36 [(.t 90)]⟩,
      ⟨none, .nc 92 (.t 86)⟩,
      ⟨none, .fa 93 (.t 92) 0⟩,
      ⟨none, .st (.t 93) (.t 91) 1⟩])
    (.skip)))
  (.seq (.ops [⟨none, .mv 6 (.c (.int .i64 0))⟩])
  (.ret))))))))))))))
theorem comp16 : compFn Try.prog [4, 5, 7] Try.f16 = some ([.t 6], c16) := by kernel_rfl
/-- topiary/topiaryref01.Same: 2 parameters, 26 slots. -/
def c17 : C :=
  .seq (.ops [⟨none, .mv 4 (.c (.bool false))⟩])
  (.seq (.seq (.ops [⟨none, .mv 6 (.t 0)⟩,
    ⟨none, .ln 7 .sl (.t 6)⟩,
    ⟨none, .mv 8 (.t 1)⟩,
    ⟨none, .ln 9 .sl (.t 8)⟩,
    ⟨none, .bi 10 .neq (.t 7) (.t 9)⟩])
  (.cond (.t 10) (.seq (.ops [⟨none, .mv 4 (.c (.bool false))⟩])
    (.ret))
    (.skip)))
  (.seq (.seq (.ops [⟨none, .mv 5 (.c (.int .i64 0))⟩])
  (.block 0 (.loop (.seq (.seq (.ops [⟨none, .mv 11 (.t 5)⟩,
    ⟨none, .mv 12 (.t 0)⟩,
    ⟨none, .ln 13 .sl (.t 12)⟩,
    ⟨none, .bi 14 .lss (.t 11) (.t 13)⟩])
  (.cond (.t 14) (.skip)
    (.exit 0)))
  (.seq (.block 1 (.seq (.opsD [⟨none, .mv 17 (.t 0)⟩,
    ⟨none, .mv 18 (.t 5)⟩,
    ⟨none, .ia 19 (.t 17) (.t 18) 2⟩,
    ⟨none, .ld 20 (.t 19) 2 true⟩,
    ⟨none, .mv 21 (.t 1)⟩,
    ⟨none, .mv 22 (.t 5)⟩,
    ⟨none, .ia 23 (.t 21) (.t 22) 2⟩,
    ⟨none, .ld 24 (.t 23) 2 true⟩,
    ⟨none, .be 25 true [.int .i64, .int .i64] (.t 20) (.t 24)⟩])
  (.cond (.t 25) (.seq (.ops [⟨none, .mv 4 (.c (.bool false))⟩])
    (.ret))
    (.skip))))
  (.ops [⟨none, .mv 15 (.t 5)⟩,
    ⟨none, .bi 16 .add (.t 15) (.c (.int .i64 1))⟩,
    ⟨none, .mv 5 (.t 16)⟩]))))))
  (.seq (.ops [⟨none, .mv 4 (.c (.bool true))⟩])
  (.ret))))
theorem comp17 : compFn Try.prog [] Try.f17 = some ([.t 4], c17) := by kernel_rfl
/-- topiary/topiaryref12.Place: 2 parameters, 19 slots. -/
def c18 : C :=
  .seq (.ops [⟨none, .bxL 3 (.t 1)⟩,
    ⟨none, .mv 4 (.c (.int .i64 0))⟩])
  (.seq (.seq (.ops [⟨none, .mv 5 (.c (.int .i64 0))⟩])
  (.block 0 (.loop (.seq (.seq (.ops [⟨none, .mv 6 (.t 5)⟩,
    ⟨none, .mv 7 (.t 0)⟩,
    ⟨none, .ln 8 .sl (.t 7)⟩,
    ⟨none, .bi 9 .lss (.t 6) (.t 8)⟩])
  (.cond (.t 9) (.skip)
    (.exit 0)))
  (.seq (.block 1 (.seq (.opsD [⟨none, .mv 12 (.t 0)⟩,
    ⟨none, .mv 13 (.t 5)⟩,
    ⟨none, .ia 14 (.t 12) (.t 13) 2⟩,
    ⟨none, .ld 15 (.t 14) 2 true⟩,
    ⟨none, .ld 16 (.t 3) 2 true⟩,
    ⟨none, .be 17 false [.int .i64, .int .i64] (.t 15) (.t 16)⟩])
  (.cond (.t 17) (.seq (.ops [⟨none, .mv 18 (.t 5)⟩,
      ⟨none, .mv 4 (.t 18)⟩])
    (.ret))
    (.skip))))
  (.ops [⟨none, .mv 10 (.t 5)⟩,
    ⟨none, .bi 11 .add (.t 10) (.c (.int .i64 1))⟩,
    ⟨none, .mv 5 (.t 11)⟩]))))))
  (.seq (.ops [⟨none, .mv 4 (.c (.int .i64 (-1)))⟩])
  (.ret)))
theorem comp18 : compFn Try.prog [3] Try.f18 = some ([.t 4], c18) := by kernel_rfl
/-- topiary/topiaryref12.Has: 2 parameters, 19 slots. -/
def c19 : C :=
  .seq (.ops [⟨none, .bxL 3 (.t 1)⟩,
    ⟨none, .mv 4 (.c (.bool false))⟩])
  (.seq (.seq (.ops [⟨none, .mv 5 (.c (.int .i64 0))⟩])
  (.block 0 (.loop (.seq (.seq (.ops [⟨none, .mv 6 (.t 5)⟩,
    ⟨none, .mv 7 (.t 0)⟩,
    ⟨none, .ln 8 .sl (.t 7)⟩,
    ⟨none, .bi 9 .lss (.t 6) (.t 8)⟩])
  (.cond (.t 9) (.skip)
    (.exit 0)))
  (.seq (.block 1 (.seq (.opsD [⟨none, .mv 12 (.t 0)⟩,
    ⟨none, .mv 13 (.t 5)⟩,
    ⟨none, .ia 14 (.t 12) (.t 13) 4⟩,
    ⟨none, .fa 15 (.t 14) 0⟩,
    ⟨none, .ld 16 (.t 15) 2 true⟩,
    ⟨none, .ld 17 (.t 3) 2 true⟩,
    ⟨none, .be 18 false [.int .i64, .int .i64] (.t 16) (.t 17)⟩])
  (.cond (.t 18) (.seq (.ops [⟨none, .mv 4 (.c (.bool true))⟩])
    (.ret))
    (.skip))))
  (.ops [⟨none, .mv 10 (.t 5)⟩,
    ⟨none, .bi 11 .add (.t 10) (.c (.int .i64 1))⟩,
    ⟨none, .mv 5 (.t 11)⟩]))))))
  (.seq (.ops [⟨none, .mv 4 (.c (.bool false))⟩])
  (.ret)))
theorem comp19 : compFn Try.prog [3] Try.f19 = some ([.t 4], c19) := by kernel_rfl
/-- topiary/topiaryref01.Less: 2 parameters, 24 slots. -/
def c20 : C :=
  .seq (.ops [⟨none, .bxL 2 (.t 0)⟩,
    ⟨none, .bxL 3 (.t 1)⟩,
    ⟨none, .mv 4 (.c (.bool false))⟩])
  (.seq (.ops [⟨none, .fa 5 (.t 2) 0⟩,
    ⟨none, .ld 6 (.t 5) 1 false⟩,
    ⟨none, .fa 7 (.t 3) 0⟩,
    ⟨none, .ld 8 (.t 7) 1 false⟩,
    ⟨none, .bi 9 .lss (.t 6) (.t 8)⟩,
    ⟨none, .mv 10 (.t 9)⟩,
    ⟨some (10, false), .fa 11 (.t 2) 0⟩,
    ⟨some (10, false), .ld 12 (.t 11) 1 false⟩,
    ⟨some (10, false), .fa 13 (.t 3) 0⟩,
    ⟨some (10, false), .ld 14 (.t 13) 1 false⟩,
    ⟨some (10, false), .bi 15 .eql (.t 12) (.t 14)⟩,
    ⟨some (10, false), .mv 16 (.t 15)⟩,
    ⟨some (16, true), .fa 17 (.t 2) 1⟩,
    ⟨some (16, true), .ld 18 (.t 17) 1 false⟩,
    ⟨some (16, true), .fa 19 (.t 3) 1⟩,
    ⟨some (16, true), .ld 20 (.t 19) 1 false⟩,
    ⟨some (16, true), .bi 21 .lss (.t 18) (.t 20)⟩,
    ⟨some (10, false), .pk 22 (.t 16) (.t 21) (.c (.bool false))⟩,
    ⟨none, .pk 23 (.t 10) (.c (.bool true)) (.t 22)⟩,
    ⟨none, .mv 4 (.t 23)⟩])
  (.ret))
theorem comp20 : compFn Try.prog [2, 3] Try.f20 = some ([.t 4], c20) := by kernel_rfl
/-- topiary/topiarylaw12.row: 3 parameters, 58 slots. -/
def c21 : C :=
  .seq (.ops [⟨none, .mv 6 (.c (.bool false))⟩])
  (.seq (.ops [⟨none, .mv 7 (.c (.int .i64 0))⟩])
  (.seq (.seq (.ops [⟨none, .mv 8 (.c (.int .i64 0))⟩])
  (.block 0 (.loop (.seq (.seq (.ops [⟨none, .mv 9 (.t 8)⟩,
    ⟨none, .mv 10 (.t 0)⟩,
    ⟨none, .ln 11 .sl (.t 10)⟩,
    ⟨none, .bi 12 .lss (.t 9) (.t 11)⟩])
  (.cond (.t 12) (.skip)
    (.exit 0)))
  (.cut (.block 1 (.seq (.seq (.ops [⟨none, .mv 15 (.t 0)⟩,
    ⟨none, .mv 16 (.t 8)⟩,
    ⟨none, .ia 17 (.t 15) (.t 16) 2⟩,
    ⟨none, .fa 18 (.t 17) 1⟩,
    ⟨none, .ld 19 (.t 18) 1 false⟩,
    ⟨none, .mv 20 (.t 1)⟩,
    ⟨none, .bi 21 .neq (.t 19) (.t 20)⟩])
  (.cond (.t 21) (.exit 1)
    (.skip)))
  (.seq (.seq (.opsD [⟨none, .mv 22 (.t 7)⟩,
    ⟨none, .bi 23 .gtr (.t 22) (.c (.int .i64 0))⟩,
    ⟨none, .mv 24 (.t 23)⟩,
    ⟨some (24, true), .mv 25 (.t 8)⟩,
    ⟨some (24, true), .bi 26 .eql (.t 25) (.c (.int .i64 0))⟩,
    ⟨some (24, true), .mv 27 (.t 26)⟩,
    ⟨some (27, false), .mv 28 (.t 0)⟩,
    ⟨some (27, false), .mv 29 (.t 8)⟩,
    ⟨some (27, false), .bi 30 .sub (.t 29) (.c (.int .i64 1))⟩,
    ⟨some (27, false), .ia 31 (.t 28) (.t 30) 2⟩,
    ⟨some (27, false), .fa 32 (.t 31) 1⟩,
    ⟨some (27, false), .ld 33 (.t 32) 1 false⟩,
    ⟨some (27, false), .mv 34 (.t 1)⟩,
    ⟨some (27, false), .bi 35 .neq (.t 33) (.t 34)⟩,
    ⟨some (24, true), .pk 36 (.t 27) (.c (.bool true)) (.t 35)⟩,
    ⟨some (24, true), .mv 37 (.t 36)⟩,
    ⟨some (37, false), .mv 38 (.t 0)⟩,
    ⟨some (37, false), .mv 39 (.t 8)⟩,
    ⟨some (37, false), .bi 40 .sub (.t 39) (.c (.int .i64 1))⟩,
    ⟨some (37, false), .ia 41 (.t 38) (.t 40) 2⟩,
    ⟨some (37, false), .fa 42 (.t 41) 0⟩,
    ⟨some (37, false), .ld 43 (.t 42) 1 false⟩,
    ⟨some (37, false), .bi 44 .add (.t 43) (.c (.int .i64 1))⟩,
    ⟨some (37, false), .mv 45 (.t 0)⟩,
    ⟨some (37, false), .mv 46 (.t 8)⟩,
    ⟨some (37, false), .ia 47 (.t 45) (.t 46) 2⟩,
    ⟨some (37, false), .fa 48 (.t 47) 0⟩,
    ⟨some (37, false), .ld 49 (.t 48) 1 false⟩,
    ⟨some (37, false), .bi 50 .neq (.t 44) (.t 49)⟩,
    ⟨some (24, true), .pk 51 (.t 37) (.c (.bool true)) (.t 50)⟩,
    ⟨none, .pk 52 (.t 24) (.t 51) (.c (.bool false))⟩])
  (.cond (.t 52) (.seq (.ops [⟨none, .mv 6 (.c (.bool false))⟩])
    (.ret))
    (.skip)))
  (.ops [⟨none, .mv 53 (.t 7)⟩,
    ⟨none, .bi 54 .add (.t 53) (.c (.int .i64 1))⟩,
    ⟨none, .mv 7 (.t 54)⟩]))))
  (.ops [⟨none, .mv 13 (.t 8)⟩,
    ⟨none, .bi 14 .add (.t 13) (.c (.int .i64 1))⟩,
    ⟨none, .mv 8 (.t 14)⟩]))))))
  (.seq (.ops [⟨none, .mv 55 (.t 7)⟩,
    ⟨none, .mv 56 (.t 2)⟩,
    ⟨none, .bi 57 .eql (.t 55) (.t 56)⟩,
    ⟨none, .mv 6 (.t 57)⟩])
  (.ret))))
theorem comp21 : compFn Try.prog [] Try.f21 = some ([.t 6], c21) := by kernel_rfl
/-- topiary/rga.New: 0 parameters, 5 slots. -/
def c22 : C :=
  .seq (.ops [⟨none, .mv 0 (.c (.ptr none))⟩])
  (.seq (.ops [⟨none, .mm 1 [.agg, .int .i64, .int .i64]⟩,
    ⟨none, .mm 2 [.agg, .int .i64, .int .i64]⟩,
    ⟨none, .bld 3 [.sl true .pub 0 [], .map none, .map none] [(1, 1, (.t 1)), (2, 1, (.t 2))]⟩,
    ⟨none, .bxH 4 (.t 3)⟩,
    ⟨none, .mv 0 (.t 4)⟩])
  (.ret))
theorem comp22 : compFn Try.prog [] Try.f22 = some ([.t 0], c22) := by kernel_rfl
/-- topiary/topiarylaw12.cut: 1 parameters, 9 slots. -/
def c23 : C :=
  .seq (.ops [⟨none, .mv 2 (.c (.sl true .pub 4 []))⟩])
  (.seq (.seq (.ops [⟨none, .mv 3 (.t 0)⟩,
    ⟨none, .ln 4 .sl (.t 3)⟩,
    ⟨none, .bi 5 .gtr (.t 4) (.c (.int .i64 120))⟩])
  (.cond (.t 5) (.seq (.ops [⟨none, .mv 6 (.t 0)⟩,
      ⟨none, .sl 7 4 (.t 6) none (some (.c (.int .i64 120)))⟩,
      ⟨none, .mv 2 (.t 7)⟩])
    (.ret))
    (.skip)))
  (.seq (.ops [⟨none, .mv 8 (.t 0)⟩,
    ⟨none, .mv 2 (.t 8)⟩])
  (.ret)))
theorem comp23 : compFn Try.prog [] Try.f23 = some ([.t 2], c23) := by kernel_rfl
/-- topiary/topiaryref12.Add: 2 parameters, 23 slots. -/
def c24 : C :=
  .seq (.ops [⟨none, .bxL 3 (.t 1)⟩,
    ⟨none, .mv 4 (.c (.sl true .pub 4 []))⟩,
    ⟨none, .mv 5 (.c (.int .i64 0))⟩])
  (.seq (.seq (.ops [⟨none, .ld 7 (.t 3) 4 true⟩,
    ⟨none, .ca (some 8) 29 [(.t 7)]⟩,
    ⟨none, .un 9 .not (.t 8)⟩])
  (.cond (.t 9) (.seq (.ops [⟨none, .mv 10 (.t 0)⟩,
      ⟨none, .mv 4 (.t 10)⟩,
      ⟨none, .mv 5 (.c (.int .i64 2))⟩])
    (.ret))
    (.skip)))
  (.seq (.seq (.ops [⟨none, .mv 11 (.t 0)⟩,
    ⟨none, .fa 12 (.t 3) 0⟩,
    ⟨none, .ld 13 (.t 12) 2 true⟩,
    ⟨none, .ca (some 14) 19 [(.t 11), (.t 13)]⟩])
  (.cond (.t 14) (.seq (.ops [⟨none, .mv 15 (.t 0)⟩,
      ⟨none, .mv 4 (.t 15)⟩,
      ⟨none, .mv 5 (.c (.int .i64 5))⟩])
    (.ret))
    (.skip)))
  (.seq (.ops [⟨none, .lit 16 4 []⟩,
    ⟨none, .mv 17 (.t 0)⟩,
    ⟨none, .ap 18 4 (.t 16) (.t 17)⟩,
    ⟨none, .mv 6 (.t 18)⟩])
  (.seq (.ops [⟨none, .mv 19 (.t 6)⟩,
    ⟨none, .ld 20 (.t 3) 4 true⟩,
    ⟨none, .lit 21 4 [(.t 20)]⟩,
    ⟨none, .ap 22 4 (.t 19) (.t 21)⟩,
    ⟨none, .mv 4 (.t 22)⟩,
    ⟨none, .mv 5 (.c (.int .i64 0))⟩])
  (.ret)))))
theorem comp24 : compFn Try.prog [3] Try.f24 = some ([.t 4, .t 5], c24) := by kernel_rfl
/-- (*topiary/rga.Row).Len: 1 parameters, 10 slots. -/
def c25 : C :=
  .seq (.ops [⟨none, .mv 2 (.c (.int .i64 0))⟩])
  (.seq (.seq (.ops [⟨none, .mv 3 (.t 0)⟩,
    ⟨none, .bq 4 false .ptr (.t 3) (.c (.ptr none))⟩])
  (.cond (.t 4) (.seq (.ops [⟨none, .mv 2 (.c (.int .i64 0))⟩])
    (.ret))
    (.skip)))
  (.seq (.ops [⟨none, .mv 5 (.t 0)⟩,
    ⟨none, .nc 6 (.t 5)⟩,
    ⟨none, .fa 7 (.t 6) 0⟩,
    ⟨none, .ld 8 (.t 7) 1 false⟩,
    ⟨none, .ln 9 .sl (.t 8)⟩,
    ⟨none, .mv 2 (.t 9)⟩])
  (.ret)))
theorem comp25 : compFn Try.prog [] Try.f25 = some ([.t 2], c25) := by kernel_rfl
/-- topiary/topiaryref12.Stamps: 1 parameters, 21 slots. -/
def c26 : C :=
  .seq (.ops [⟨none, .mv 2 (.c (.sl true .pub 2 []))⟩])
  (.seq (.ops [⟨none, .lit 5 2 []⟩,
    ⟨none, .mv 3 (.t 5)⟩])
  (.seq (.seq (.ops [⟨none, .mv 4 (.c (.int .i64 0))⟩])
  (.block 0 (.loop (.seq (.seq (.ops [⟨none, .mv 6 (.t 4)⟩,
    ⟨none, .mv 7 (.t 0)⟩,
    ⟨none, .ln 8 .sl (.t 7)⟩,
    ⟨none, .bi 9 .lss (.t 6) (.t 8)⟩])
  (.cond (.t 9) (.skip)
    (.exit 0)))
  (.seq (.block 1 (.ops [⟨none, .mv 12 (.t 3)⟩,
    ⟨none, .mv 13 (.t 0)⟩,
    ⟨none, .mv 14 (.t 4)⟩,
    ⟨none, .ia 15 (.t 13) (.t 14) 4⟩,
    ⟨none, .fa 16 (.t 15) 0⟩,
    ⟨none, .ld 17 (.t 16) 2 true⟩,
    ⟨none, .lit 18 2 [(.t 17)]⟩,
    ⟨none, .ap 19 2 (.t 12) (.t 18)⟩,
    ⟨none, .mv 3 (.t 19)⟩]))
  (.ops [⟨none, .mv 10 (.t 4)⟩,
    ⟨none, .bi 11 .add (.t 10) (.c (.int .i64 1))⟩,
    ⟨none, .mv 4 (.t 11)⟩]))))))
  (.seq (.ops [⟨none, .mv 20 (.t 3)⟩,
    ⟨none, .mv 2 (.t 20)⟩])
  (.ret))))
theorem comp26 : compFn Try.prog [] Try.f26 = some ([.t 2], c26) := by kernel_rfl
/-- topiary/topiaryref12.Order: 1 parameters, 6 slots. -/
def c27 : C :=
  .seq (.ops [⟨none, .mv 2 (.c (.sl true .pub 4 []))⟩])
  (.seq (.ops [⟨none, .mv 3 (.t 0)⟩,
    ⟨none, .bld 4 [.int .i64 0, .int .i64 0] []⟩,
    ⟨none, .ca (some 5) 37 [(.t 3), (.t 4)]⟩,
    ⟨none, .mv 2 (.t 5)⟩])
  (.ret))
theorem comp27 : compFn Try.prog [] Try.f27 = some ([.t 2], c27) := by kernel_rfl
/-- (*topiary/rga.Row).Ahead: 2 parameters, 27 slots. -/
def c28 : C :=
  .seq (.ops [⟨none, .bxL 3 (.t 1)⟩,
    ⟨none, .alL 4 [.int .i64 0, .int .i64 0]⟩,
    ⟨none, .mv 5 (.c (.bool false))⟩])
  (.seq (.seq (.ops [⟨none, .mv 7 (.t 0)⟩,
    ⟨none, .ld 8 (.t 3) 2 true⟩,
    ⟨none, .ca (some 9) 15 [(.t 7), (.t 8)]⟩,
    ⟨none, .un 10 .not (.t 9)⟩])
  (.cond (.t 10) (.seq (.ops [⟨none, .bld 11 [.int .i64 0, .int .i64 0] []⟩,
      ⟨none, .st (.t 4) (.t 11) 2⟩,
      ⟨none, .mv 5 (.c (.bool false))⟩])
    (.ret))
    (.skip)))
  (.seq (.seq (.ops [⟨none, .mv 12 (.t 0)⟩,
    ⟨none, .ld 13 (.t 3) 2 true⟩,
    ⟨none, .ca (some 14) 33 [(.t 12), (.t 13)]⟩,
    ⟨none, .mv 6 (.t 14)⟩])
  (.seq (.ops [⟨none, .mv 15 (.t 6)⟩,
    ⟨none, .bi 16 .gtr (.t 15) (.c (.int .i64 0))⟩])
  (.cond (.t 16) (.seq (.ops [⟨none, .mv 17 (.t 0)⟩,
      ⟨none, .nc 18 (.t 17)⟩,
      ⟨none, .fa 19 (.t 18) 0⟩,
      ⟨none, .ld 20 (.t 19) 1 false⟩,
      ⟨none, .mv 21 (.t 6)⟩,
      ⟨none, .bi 22 .sub (.t 21) (.c (.int .i64 1))⟩,
      ⟨none, .ia 23 (.t 20) (.t 22) 4⟩,
      ⟨none, .fa 24 (.t 23) 0⟩,
      ⟨none, .ld 25 (.t 24) 2 true⟩,
      ⟨none, .st (.t 4) (.t 25) 2⟩,
      ⟨none, .mv 5 (.c (.bool true))⟩])
    (.ret))
    (.skip))))
  (.seq (.ops [⟨none, .bld 26 [.int .i64 0, .int .i64 0] []⟩,
    ⟨none, .st (.t 4) (.t 26) 2⟩,
    ⟨none, .mv 5 (.c (.bool true))⟩])
  (.ret))))
theorem comp28 : compFn Try.prog [3, 4] Try.f28 = some ([.c 4 2 true, .t 5], c28) := by kernel_rfl
/-- topiary/topiaryref12.Right: 1 parameters, 32 slots. -/
def c29 : C :=
  .seq (.ops [⟨none, .bxL 1 (.t 0)⟩,
    ⟨none, .mv 2 (.c (.bool false))⟩])
  (.seq (.ops [⟨none, .fa 4 (.t 1) 2⟩,
    ⟨none, .fa 5 (.t 4) 0⟩,
    ⟨none, .ld 6 (.t 5) 1 false⟩,
    ⟨none, .bi 7 .eql (.t 6) (.c (.int .i64 0))⟩,
    ⟨none, .mv 8 (.t 7)⟩,
    ⟨some (8, true), .fa 9 (.t 1) 2⟩,
    ⟨some (8, true), .fa 10 (.t 9) 1⟩,
    ⟨some (8, true), .ld 11 (.t 10) 1 false⟩,
    ⟨some (8, true), .bi 12 .eql (.t 11) (.c (.int .i64 0))⟩,
    ⟨none, .pk 13 (.t 8) (.t 12) (.c (.bool false))⟩,
    ⟨none, .mv 3 (.t 13)⟩])
  (.seq (.ops [⟨none, .fa 14 (.t 1) 0⟩,
    ⟨none, .ld 15 (.t 14) 2 true⟩,
    ⟨none, .ca (some 16) 38 [(.t 15)]⟩,
    ⟨none, .mv 17 (.t 16)⟩,
    ⟨some (17, true), .mv 18 (.t 3)⟩,
    ⟨some (17, true), .mv 19 (.t 18)⟩,
    ⟨some (19, false), .fa 20 (.t 1) 2⟩,
    ⟨some (19, false), .ld 21 (.t 20) 2 true⟩,
    ⟨some (19, false), .ca (some 22) 38 [(.t 21)]⟩,
    ⟨some (19, false), .mv 23 (.t 22)⟩,
    ⟨some (23, true), .fa 24 (.t 1) 2⟩,
    ⟨some (23, true), .ld 25 (.t 24) 2 true⟩,
    ⟨some (23, true), .fa 26 (.t 1) 0⟩,
    ⟨some (23, true), .ld 27 (.t 26) 2 true⟩,
    ⟨some (23, true), .ca (some 28) 20 [(.t 25), (.t 27)]⟩,
    ⟨some (19, false), .pk 29 (.t 23) (.t 28) (.c (.bool false))⟩,
    ⟨some (17, true), .pk 30 (.t 19) (.c (.bool true)) (.t 29)⟩,
    ⟨none, .pk 31 (.t 17) (.t 30) (.c (.bool false))⟩,
    ⟨none, .mv 2 (.t 31)⟩])
  (.ret)))
theorem comp29 : compFn Try.prog [1] Try.f29 = some ([.t 2], c29) := by kernel_rfl
/-- (*topiary/rga.Row).Each: 1 parameters, 13 slots. -/
def c30 : C :=
  .seq (.ops [⟨none, .mv 2 (.c (.nilf))⟩])
  (.seq (.ops [⟨none, .alH 3 [.sl true .pub 0 []]⟩])
  (.cut (.seq (.ops [⟨none, .mv 4 (.t 0)⟩,
    ⟨none, .bq 5 true .ptr (.t 4) (.c (.ptr none))⟩])
  (.cond (.t 5) (.opsD [⟨none, .ld 6 (.t 3) 1 false⟩,
      ⟨none, .mv 7 (.t 0)⟩,
      ⟨none, .nc 8 (.t 7)⟩,
      ⟨none, .fa 9 (.t 8) 0⟩,
      ⟨none, .ld 10 (.t 9) 1 false⟩,
      ⟨none, .ao 11 4 false (.t 6) (.t 10)⟩,
      ⟨none, .st (.t 3) (.t 11) 1⟩])
    (.skip)))
  (.seq (.ops [⟨none, .mf 12 39 [(.t 3)]⟩,
    ⟨none, .mv 2 (.t 12)⟩])
  (.ret))))
theorem comp30 : compFn Try.prog [6000011] Try.f30 = some ([.t 2], c30) := by kernel_rfl
/-- (*topiary/rga.Row).Clone: 1 parameters, 56 slots. -/
def c31 : C :=
  .seq (.ops [⟨none, .mv 2 (.c (.ptr none))⟩])
  (.seq (.seq (.ops [⟨none, .mv 8 (.t 0)⟩,
    ⟨none, .bq 9 false .ptr (.t 8) (.c (.ptr none))⟩])
  (.cond (.t 9) (.seq (.ops [⟨none, .mv 2 (.c (.ptr none))⟩])
    (.ret))
    (.skip)))
  (.seq (.ops [⟨none, .ca (some 10) 22 []⟩,
    ⟨none, .mv 3 (.t 10)⟩])
  (.seq (.opsD [⟨none, .mv 11 (.t 3)⟩,
    ⟨none, .mv 12 (.t 3)⟩,
    ⟨none, .nc 13 (.t 12)⟩,
    ⟨none, .fa 14 (.t 13) 0⟩,
    ⟨none, .ld 15 (.t 14) 1 false⟩,
    ⟨none, .mv 16 (.t 0)⟩,
    ⟨none, .nc 17 (.t 16)⟩,
    ⟨none, .fa 18 (.t 17) 0⟩,
    ⟨none, .ld 19 (.t 18) 1 false⟩,
    ⟨none, .ao 20 4 true (.t 15) (.t 19)⟩,
    ⟨none, .nc 21 (.t 11)⟩,
    ⟨none, .fa 22 (.t 21) 0⟩,
    ⟨none, .st (.t 22) (.t 20) 1⟩])
  (.seq (.seq (.ops [⟨none, .mv 23 (.t 0)⟩,
    ⟨none, .nc 24 (.t 23)⟩,
    ⟨none, .fa 25 (.t 24) 1⟩,
    ⟨none, .ld 26 (.t 25) 1 false⟩,
    ⟨none, .rg 27 (.t 26)⟩])
  (.block 0 (.loop (.seq (.ops [⟨none, .nx 28 (.t 27)⟩,
    ⟨none, .ex 29 (.t 28) 0⟩])
  (.seq (.cond (.t 29) (.skip)
    (.exit 0))
  (.block 1 (.seq (.ops [⟨none, .en 30 (.t 27)⟩,
    ⟨none, .ex 31 (.t 30) 0⟩,
    ⟨none, .ex 32 (.t 30) 1⟩,
    ⟨none, .alL 4 [.int .i64 0, .int .i64 0]⟩,
    ⟨none, .st (.t 4) (.t 31) 2⟩,
    ⟨none, .mv 5 (.t 32)⟩])
  (.opsD [⟨none, .mv 33 (.t 3)⟩,
    ⟨none, .nc 34 (.t 33)⟩,
    ⟨none, .fa 35 (.t 34) 1⟩,
    ⟨none, .ld 36 (.t 35) 1 false⟩,
    ⟨none, .ld 37 (.t 4) 2 true⟩,
    ⟨none, .mv 38 (.t 5)⟩,
    ⟨none, .mu [.agg, .int .i64, .int .i64] (.t 36) (.t 37) (.t 38)⟩]))))))))
  (.seq (.seq (.ops [⟨none, .mv 39 (.t 0)⟩,
    ⟨none, .nc 40 (.t 39)⟩,
    ⟨none, .fa 41 (.t 40) 2⟩,
    ⟨none, .ld 42 (.t 41) 1 false⟩,
    ⟨none, .rg 43 (.t 42)⟩])
  (.block 2 (.loop (.seq (.ops [⟨none, .nx 44 (.t 43)⟩,
    ⟨none, .ex 45 (.t 44) 0⟩])
  (.seq (.cond (.t 45) (.skip)
    (.exit 2))
  (.block 3 (.seq (.ops [⟨none, .en 46 (.t 43)⟩,
    ⟨none, .ex 47 (.t 46) 0⟩,
    ⟨none, .ex 48 (.t 46) 1⟩,
    ⟨none, .alL 6 [.int .i64 0, .int .i64 0]⟩,
    ⟨none, .st (.t 6) (.t 47) 2⟩,
    ⟨none, .mv 7 (.t 48)⟩])
  (.opsD [⟨none, .mv 49 (.t 3)⟩,
    ⟨none, .nc 50 (.t 49)⟩,
    ⟨none, .fa 51 (.t 50) 2⟩,
    ⟨none, .ld 52 (.t 51) 1 false⟩,
    ⟨none, .ld 53 (.t 6) 2 true⟩,
    ⟨none, .mv 54 (.t 7)⟩,
    ⟨none, .mu [.agg, .int .i64, .int .i64] (.t 52) (.t 53) (.t 54)⟩]))))))))
  (.seq (.ops [⟨none, .mv 55 (.t 3)⟩,
    ⟨none, .mv 2 (.t 55)⟩])
  (.ret)))))))
theorem comp31 : compFn Try.prog [4, 6, 5000020] Try.f31 = some ([.t 2], c31) := by kernel_rfl
/-- topiary/rga.right: 1 parameters, 24 slots. -/
def c32 : C :=
  .seq (.ops [⟨none, .bxL 1 (.t 0)⟩,
    ⟨none, .mv 2 (.c (.bool false))⟩])
  (.seq (.ops [⟨none, .fa 3 (.t 1) 0⟩,
    ⟨none, .ld 4 (.t 3) 2 true⟩,
    ⟨none, .ca (some 5) 40 [(.t 4)]⟩,
    ⟨none, .mv 6 (.t 5)⟩,
    ⟨some (6, true), .fa 7 (.t 1) 2⟩,
    ⟨some (6, true), .ld 8 (.t 7) 2 true⟩,
    ⟨some (6, true), .bld 9 [.int .i64 0, .int .i64 0] []⟩,
    ⟨some (6, true), .be 10 false [.int .i64, .int .i64] (.t 8) (.t 9)⟩,
    ⟨some (6, true), .mv 11 (.t 10)⟩,
    ⟨some (11, false), .fa 12 (.t 1) 2⟩,
    ⟨some (11, false), .ld 13 (.t 12) 2 true⟩,
    ⟨some (11, false), .ca (some 14) 40 [(.t 13)]⟩,
    ⟨some (11, false), .mv 15 (.t 14)⟩,
    ⟨some (15, true), .fa 16 (.t 1) 2⟩,
    ⟨some (15, true), .ld 17 (.t 16) 2 true⟩,
    ⟨some (15, true), .fa 18 (.t 1) 0⟩,
    ⟨some (15, true), .ld 19 (.t 18) 2 true⟩,
    ⟨some (15, true), .ca (some 20) 34 [(.t 17), (.t 19)]⟩,
    ⟨some (11, false), .pk 21 (.t 15) (.t 20) (.c (.bool false))⟩,
    ⟨some (6, true), .pk 22 (.t 11) (.c (.bool true)) (.t 21)⟩,
    ⟨none, .pk 23 (.t 6) (.t 22) (.c (.bool false))⟩,
    ⟨none, .mv 2 (.t 23)⟩])
  (.ret))
theorem comp32 : compFn Try.prog [1] Try.f32 = some ([.t 2], c32) := by kernel_rfl
/-- (*topiary/rga.Row).place: 2 parameters, 11 slots. -/
def c33 : C :=
  .seq (.ops [⟨none, .bxH 3 (.t 1)⟩,
    ⟨none, .mv 4 (.c (.int .i64 0))⟩])
  (.seq (.ops [⟨none, .mv 5 (.t 0)⟩,
    ⟨none, .nc 6 (.t 5)⟩,
    ⟨none, .fa 7 (.t 6) 0⟩,
    ⟨none, .ld 8 (.t 7) 1 false⟩,
    ⟨none, .mf 9 42 [(.t 3)]⟩,
    ⟨none, .ca (some 10) 41 [(.t 8), (.t 9)]⟩,
    ⟨none, .mv 4 (.t 10)⟩])
  (.ret))
theorem comp33 : compFn Try.prog [] Try.f33 = some ([.t 4], c33) := by kernel_rfl
/-- topiary/ident.Less: 2 parameters, 9 slots. -/
def c34 : C :=
  .seq (.ops [⟨none, .bxL 2 (.t 0)⟩,
    ⟨none, .bxL 3 (.t 1)⟩,
    ⟨none, .mv 4 (.c (.bool false))⟩])
  (.seq (.ops [⟨none, .ld 5 (.t 2) 2 true⟩,
    ⟨none, .ld 6 (.t 3) 2 true⟩,
    ⟨none, .ca (some 7) 43 [(.t 5), (.t 6)]⟩,
    ⟨none, .bi 8 .lss (.t 7) (.c (.int .i64 0))⟩,
    ⟨none, .mv 4 (.t 8)⟩])
  (.ret))
theorem comp34 : compFn Try.prog [2, 3] Try.f34 = some ([.t 4], c34) := by kernel_rfl
/-- topiary/rga.sorted: 1 parameters, 55 slots. -/
def c36 : C :=
  .seq (.ops [⟨none, .mv 2 (.c (.sl true .pub 4 []))⟩])
  (.seq (.ops [⟨none, .mm 12 [.agg, .int .i64, .int .i64]⟩,
    ⟨none, .mv 3 (.t 12)⟩])
  (.seq (.seq (.ops [⟨none, .mv 13 (.t 0)⟩,
    ⟨none, .ln 14 .sl (.t 13)⟩,
    ⟨none, .mv 15 (.c (.int .i64 0))⟩])
  (.block 0 (.loop (.seq (.ops [⟨none, .bi 16 .lss (.t 15) (.t 14)⟩])
  (.seq (.cond (.t 16) (.skip)
    (.exit 0))
  (.seq (.block 1 (.seq (.ops [⟨none, .ia 17 (.t 13) (.t 15) 4⟩,
    ⟨none, .ld 18 (.t 17) 4 true⟩,
    ⟨none, .alL 5 [.int .i64 0, .int .i64 0, .int .i64 0, .int .i64 0]⟩,
    ⟨none, .st (.t 5) (.t 18) 4⟩])
  (.opsE [⟨none, .mv 19 (.t 3)⟩,
    ⟨none, .fa 20 (.t 5) 0⟩,
    ⟨none, .ld 21 (.t 20) 2 true⟩,
    ⟨none, .lk 22 [.agg, .int .i64, .int .i64] (.t 19) (.t 21) false (.int .i64 0)⟩,
    ⟨none, .bi 23 .add (.t 22) (.c (.int .i64 1))⟩,
    ⟨none, .me 24 [.agg, .int .i64, .int .i64] (.t 19) (.t 21) (.int .i64 0)⟩,
    ⟨none, .ex 25 (.t 24) 1⟩,
    ⟨none, .es [.agg, .int .i64, .int .i64] (.t 19) (.t 25) (.t 23)⟩]
  [⟨none, .mv 19 (.t 3)⟩,
    ⟨none, .fa 20 (.t 5) 0⟩,
    ⟨none, .ld 21 (.t 20) 2 true⟩,
    ⟨none, .me 24 [.agg, .int .i64, .int .i64] (.t 19) (.t 21) (.int .i64 0)⟩,
    ⟨none, .lk 22 [.agg, .int .i64, .int .i64] (.t 19) (.t 21) false (.int .i64 0)⟩,
    ⟨none, .bi 23 .add (.t 22) (.c (.int .i64 1))⟩,
    ⟨none, .ex 25 (.t 24) 1⟩,
    ⟨none, .es [.agg, .int .i64, .int .i64] (.t 19) (.t 25) (.t 23)⟩])))
  (.ops [⟨none, .bi 26 .add (.t 15) (.c (.int .i64 1))⟩,
    ⟨none, .mv 15 (.t 26)⟩])))))))
  (.seq (.ops [⟨none, .mm 27 [.agg, .int .i64, .int .i64]⟩,
    ⟨none, .alH 6 [.map none]⟩,
    ⟨none, .st (.t 6) (.t 27) 1⟩])
  (.seq (.seq (.ops [⟨none, .mv 28 (.t 0)⟩,
    ⟨none, .ln 29 .sl (.t 28)⟩,
    ⟨none, .mv 30 (.c (.int .i64 0))⟩])
  (.block 2 (.loop (.seq (.ops [⟨none, .bi 31 .lss (.t 30) (.t 29)⟩])
  (.seq (.cond (.t 31) (.skip)
    (.exit 2))
  (.seq (.block 3 (.seq (.ops [⟨none, .ia 32 (.t 28) (.t 30) 4⟩,
    ⟨none, .ld 33 (.t 32) 4 true⟩,
    ⟨none, .alL 8 [.int .i64 0, .int .i64 0, .int .i64 0, .int .i64 0]⟩,
    ⟨none, .st (.t 8) (.t 33) 4⟩])
  (.seq (.ops [⟨none, .fa 34 (.t 8) 2⟩,
    ⟨none, .ld 35 (.t 34) 2 true⟩,
    ⟨none, .alL 9 [.int .i64 0, .int .i64 0]⟩,
    ⟨none, .st (.t 9) (.t 35) 2⟩])
  (.cut (.seq (.ops [⟨none, .mv 36 (.t 3)⟩,
    ⟨none, .ld 37 (.t 9) 2 true⟩,
    ⟨none, .lk 38 [.agg, .int .i64, .int .i64] (.t 36) (.t 37) false (.int .i64 0)⟩,
    ⟨none, .bi 39 .eql (.t 38) (.c (.int .i64 0))⟩])
  (.cond (.t 39) (.ops [⟨none, .bld 40 [.int .i64 0, .int .i64 0] []⟩,
      ⟨none, .st (.t 9) (.t 40) 2⟩])
    (.skip)))
  (.ops [⟨none, .ld 41 (.t 6) 1 false⟩,
    ⟨none, .ld 42 (.t 9) 2 true⟩,
    ⟨none, .ld 44 (.t 8) 4 true⟩,
    ⟨none, .lit 45 4 [(.t 44)]⟩,
    ⟨none, .me 46 [.agg, .int .i64, .int .i64] (.t 41) (.t 42) (.sl true .pub 0 [])⟩,
    ⟨none, .ex 43 (.t 46) 0⟩,
    ⟨none, .ap 47 4 (.t 43) (.t 45)⟩,
    ⟨none, .ex 48 (.t 46) 1⟩,
    ⟨none, .es [.agg, .int .i64, .int .i64] (.t 41) (.t 48) (.t 47)⟩])))))
  (.ops [⟨none, .bi 49 .add (.t 30) (.c (.int .i64 1))⟩,
    ⟨none, .mv 30 (.t 49)⟩])))))))
  (.seq (.ops [⟨none, .alH 10 [.sl true .pub 0 []]⟩])
  (.seq (.ops [⟨none, .alH 11 [.nilf]⟩])
  (.seq (.ops [⟨none, .mf 50 46 [(.t 6), (.t 10), (.t 11)]⟩,
    ⟨none, .st (.t 11) (.t 50) 1⟩])
  (.seq (.ops [⟨none, .ld 51 (.t 11) 1 false⟩,
    ⟨none, .bld 52 [.int .i64 0, .int .i64 0] []⟩,
    ⟨none, .cv (some 53) (.t 51) [(.t 52)]⟩])
  (.seq (.ops [⟨none, .ld 54 (.t 10) 1 false⟩,
    ⟨none, .mv 2 (.t 54)⟩])
  (.ret))))))))))
theorem comp36 : compFn Try.prog [5, 8, 9] Try.f36 = some ([.t 2], c36) := by kernel_rfl
/-- topiary/topiaryref12.below: 2 parameters, 37 slots. -/
def c37 : C :=
  .seq (.ops [⟨none, .bxL 3 (.t 1)⟩,
    ⟨none, .mv 4 (.c (.sl true .pub 4 []))⟩])
  (.seq (.ops [⟨none, .lit 9 4 []⟩,
    ⟨none, .mv 5 (.t 9)⟩])
  (.seq (.ops [⟨none, .mv 10 (.t 0)⟩,
    ⟨none, .ld 11 (.t 3) 2 true⟩,
    ⟨none, .ca (some 12) 49 [(.t 10), (.t 11)]⟩,
    ⟨none, .mv 6 (.t 12)⟩])
  (.seq (.seq (.ops [⟨none, .mv 7 (.c (.int .i64 0))⟩])
  (.block 0 (.loop (.seq (.seq (.ops [⟨none, .mv 13 (.t 7)⟩,
    ⟨none, .mv 14 (.t 6)⟩,
    ⟨none, .ln 15 .sl (.t 14)⟩,
    ⟨none, .bi 16 .lss (.t 13) (.t 15)⟩])
  (.cond (.t 16) (.skip)
    (.exit 0)))
  (.seq (.block 1 (.seq (.ops [⟨none, .mv 19 (.t 5)⟩,
    ⟨none, .mv 20 (.t 6)⟩,
    ⟨none, .mv 21 (.t 7)⟩,
    ⟨none, .ia 22 (.t 20) (.t 21) 4⟩,
    ⟨none, .ld 23 (.t 22) 4 true⟩,
    ⟨none, .lit 24 4 [(.t 23)]⟩,
    ⟨none, .ap 25 4 (.t 19) (.t 24)⟩,
    ⟨none, .mv 5 (.t 25)⟩])
  (.seq (.ops [⟨none, .mv 26 (.t 0)⟩,
    ⟨none, .mv 27 (.t 6)⟩,
    ⟨none, .mv 28 (.t 7)⟩,
    ⟨none, .ia 29 (.t 27) (.t 28) 4⟩,
    ⟨none, .fa 30 (.t 29) 0⟩,
    ⟨none, .ld 31 (.t 30) 2 true⟩,
    ⟨none, .ca (some 32) 37 [(.t 26), (.t 31)]⟩,
    ⟨none, .mv 8 (.t 32)⟩])
  (.ops [⟨none, .mv 33 (.t 5)⟩,
    ⟨none, .mv 34 (.t 8)⟩,
    ⟨none, .ap 35 4 (.t 33) (.t 34)⟩,
    ⟨none, .mv 5 (.t 35)⟩]))))
  (.ops [⟨none, .mv 17 (.t 7)⟩,
    ⟨none, .bi 18 .add (.t 17) (.c (.int .i64 1))⟩,
    ⟨none, .mv 7 (.t 18)⟩]))))))
  (.seq (.ops [⟨none, .mv 36 (.t 5)⟩,
    ⟨none, .mv 4 (.t 36)⟩])
  (.ret)))))
theorem comp37 : compFn Try.prog [3] Try.f37 = some ([.t 4], c37) := by kernel_rfl
/-- topiary/topiaryref01.Right: 1 parameters, 21 slots. -/
def c38 : C :=
  .seq (.ops [⟨none, .bxL 1 (.t 0)⟩,
    ⟨none, .mv 2 (.c (.bool false))⟩])
  (.seq (.ops [⟨none, .fa 3 (.t 1) 0⟩,
    ⟨none, .ld 4 (.t 3) 1 false⟩,
    ⟨none, .bi 5 .geq (.t 4) (.c (.int .i64 1))⟩,
    ⟨none, .mv 6 (.t 5)⟩,
    ⟨some (6, true), .fa 7 (.t 1) 0⟩,
    ⟨some (6, true), .ld 8 (.t 7) 1 false⟩,
    ⟨some (6, true), .bi 9 .leq (.t 8) (.c (.int .i64 1099511627776))⟩,
    ⟨none, .pk 10 (.t 6) (.t 9) (.c (.bool false))⟩,
    ⟨none, .mv 11 (.t 10)⟩,
    ⟨some (11, true), .fa 12 (.t 1) 1⟩,
    ⟨some (11, true), .ld 13 (.t 12) 1 false⟩,
    ⟨some (11, true), .bi 14 .geq (.t 13) (.c (.int .i64 0))⟩,
    ⟨none, .pk 15 (.t 11) (.t 14) (.c (.bool false))⟩,
    ⟨none, .mv 16 (.t 15)⟩,
    ⟨some (16, true), .fa 17 (.t 1) 1⟩,
    ⟨some (16, true), .ld 18 (.t 17) 1 false⟩,
    ⟨some (16, true), .bi 19 .lss (.t 18) (.c (.int .i64 64))⟩,
    ⟨none, .pk 20 (.t 16) (.t 19) (.c (.bool false))⟩,
    ⟨none, .mv 2 (.t 20)⟩])
  (.ret))
theorem comp38 : compFn Try.prog [1] Try.f38 = some ([.t 2], c38) := by kernel_rfl
/-- (*topiary/rga.Row).Each$1: 1 parameters, 16 slots. -/
def c39 : C :=
  .seq (.ops [⟨none, .ld 5 (.t 1) 1 false⟩,
    ⟨none, .ln 6 .sl (.t 5)⟩,
    ⟨none, .mv 7 (.c (.int .i64 0))⟩])
  (.block 0 (.loop (.seq (.ops [⟨none, .bi 8 .lss (.t 7) (.t 6)⟩])
  (.seq (.cond (.t 8) (.skip)
    (.exit 0))
  (.seq (.block 1 (.seq (.ops [⟨none, .ia 9 (.t 5) (.t 7) 4⟩,
    ⟨none, .ld 10 (.t 9) 4 true⟩,
    ⟨none, .alL 4 [.int .i64 0, .int .i64 0, .int .i64 0, .int .i64 0]⟩,
    ⟨none, .st (.t 4) (.t 10) 4⟩])
  (.seq (.ops [⟨none, .mv 11 (.t 0)⟩,
    ⟨none, .ld 12 (.t 4) 4 true⟩,
    ⟨none, .cv (some 13) (.t 11) [(.t 12)]⟩,
    ⟨none, .un 14 .not (.t 13)⟩])
  (.cond (.t 14) (.ret)
    (.skip)))))
  (.ops [⟨none, .bi 15 .add (.t 7) (.c (.int .i64 1))⟩,
    ⟨none, .mv 7 (.t 15)⟩]))))))
theorem comp39 : compFn Try.prog [4] Try.f39 = some ([], c39) := by kernel_rfl
/-- topiary/ident.Right: 1 parameters, 16 slots. -/
def c40 : C :=
  .seq (.ops [⟨none, .bxL 1 (.t 0)⟩,
    ⟨none, .mv 2 (.c (.bool false))⟩])
  (.seq (.ops [⟨none, .fa 3 (.t 1) 0⟩,
    ⟨none, .ld 4 (.t 3) 1 false⟩,
    ⟨none, .bi 5 .geq (.t 4) (.c (.int .i64 1))⟩,
    ⟨none, .mv 6 (.t 5)⟩,
    ⟨some (6, true), .fa 7 (.t 1) 0⟩,
    ⟨some (6, true), .ld 8 (.t 7) 1 false⟩,
    ⟨some (6, true), .bi 9 .leq (.t 8) (.c (.int .i64 1099511627776))⟩,
    ⟨none, .pk 10 (.t 6) (.t 9) (.c (.bool false))⟩,
    ⟨none, .mv 11 (.t 10)⟩,
    ⟨some (11, true), .fa 12 (.t 1) 1⟩,
    ⟨some (11, true), .ld 13 (.t 12) 1 false⟩,
    ⟨some (11, true), .ca (some 14) 50 [(.t 13)]⟩,
    ⟨none, .pk 15 (.t 11) (.t 14) (.c (.bool false))⟩,
    ⟨none, .mv 2 (.t 15)⟩])
  (.ret))
theorem comp40 : compFn Try.prog [1] Try.f40 = some ([.t 2], c40) := by kernel_rfl
/-- slices.IndexFunc[[]topiary/api.Slot,topiary/api.Slot]: 2 parameters, 19 slots. -/
def c41 : C :=
  .seq (.ops [⟨none, .mv 4 (.c (.int .i64 0))⟩])
  (.seq (.seq (.ops [⟨none, .mv 6 (.t 0)⟩,
    ⟨none, .ln 7 .sl (.t 6)⟩,
    ⟨none, .mv 8 (.c (.int .i64 0))⟩])
  (.block 0 (.loop (.seq (.ops [⟨none, .bi 9 .lss (.t 8) (.t 7)⟩])
  (.seq (.cond (.t 9) (.skip)
    (.exit 0))
  (.seq (.block 1 (.seq (.ops [⟨none, .mv 10 (.t 8)⟩,
    ⟨none, .mv 5 (.t 10)⟩])
  (.seq (.ops [⟨none, .mv 11 (.t 1)⟩,
    ⟨none, .mv 12 (.t 0)⟩,
    ⟨none, .mv 13 (.t 5)⟩,
    ⟨none, .ia 14 (.t 12) (.t 13) 4⟩,
    ⟨none, .ld 15 (.t 14) 4 true⟩,
    ⟨none, .cv (some 16) (.t 11) [(.t 15)]⟩])
  (.cond (.t 16) (.seq (.ops [⟨none, .mv 17 (.t 5)⟩,
      ⟨none, .mv 4 (.t 17)⟩])
    (.ret))
    (.skip)))))
  (.ops [⟨none, .bi 18 .add (.t 8) (.c (.int .i64 1))⟩,
    ⟨none, .mv 8 (.t 18)⟩])))))))
  (.seq (.ops [⟨none, .mv 4 (.c (.int .i64 (-1)))⟩])
  (.ret)))
theorem comp41 : compFn Try.prog [] Try.f41 = some ([.t 4], c41) := by kernel_rfl
/-- (*topiary/rga.Row).place$1: 1 parameters, 8 slots. -/
def c42 : C :=
  .seq (.ops [⟨none, .bxL 2 (.t 0)⟩,
    ⟨none, .mv 3 (.c (.bool false))⟩])
  (.seq (.ops [⟨none, .fa 4 (.t 2) 0⟩,
    ⟨none, .ld 5 (.t 4) 2 true⟩,
    ⟨none, .ld 6 (.t 1) 2 true⟩,
    ⟨none, .be 7 false [.int .i64, .int .i64] (.t 5) (.t 6)⟩,
    ⟨none, .mv 3 (.t 7)⟩])
  (.ret))
theorem comp42 : compFn Try.prog [2] Try.f42 = some ([.t 3], c42) := by kernel_rfl
/-- topiary/ident.Compare: 2 parameters, 29 slots. -/
def c43 : C :=
  .seq (.ops [⟨none, .bxL 2 (.t 0)⟩,
    ⟨none, .bxL 3 (.t 1)⟩,
    ⟨none, .mv 4 (.c (.int .i64 0))⟩])
  (.seq (.block 0 (.seq (.ops [⟨none, .ld 6 (.t 2) 2 true⟩,
    ⟨none, .ld 7 (.t 3) 2 true⟩,
    ⟨none, .be 8 false [.int .i64, .int .i64] (.t 6) (.t 7)⟩,
    ⟨none, .mv 5 (.t 8)⟩])
  (.cond (.t 5) (.seq (.ops [⟨none, .mv 4 (.c (.int .i64 0))⟩])
    (.ret))
    (.seq (.ops [⟨none, .fa 10 (.t 2) 0⟩,
      ⟨none, .ld 11 (.t 10) 1 false⟩,
      ⟨none, .fa 12 (.t 3) 0⟩,
      ⟨none, .ld 13 (.t 12) 1 false⟩,
      ⟨none, .bi 14 .lss (.t 11) (.t 13)⟩,
      ⟨none, .mv 15 (.t 14)⟩,
      ⟨some (15, false), .fa 16 (.t 2) 0⟩,
      ⟨some (15, false), .ld 17 (.t 16) 1 false⟩,
      ⟨some (15, false), .fa 18 (.t 3) 0⟩,
      ⟨some (15, false), .ld 19 (.t 18) 1 false⟩,
      ⟨some (15, false), .bi 20 .eql (.t 17) (.t 19)⟩,
      ⟨some (15, false), .mv 21 (.t 20)⟩,
      ⟨some (21, true), .fa 22 (.t 2) 1⟩,
      ⟨some (21, true), .ld 23 (.t 22) 1 false⟩,
      ⟨some (21, true), .fa 24 (.t 3) 1⟩,
      ⟨some (21, true), .ld 25 (.t 24) 1 false⟩,
      ⟨some (21, true), .bi 26 .lss (.t 23) (.t 25)⟩,
      ⟨some (15, false), .pk 27 (.t 21) (.t 26) (.c (.bool false))⟩,
      ⟨none, .pk 28 (.t 15) (.c (.bool true)) (.t 27)⟩,
      ⟨none, .mv 9 (.t 28)⟩])
    (.cond (.t 9) (.seq (.ops [⟨none, .mv 4 (.c (.int .i64 (-1)))⟩])
      (.ret))
      (.skip))))))
  (.seq (.ops [⟨none, .mv 4 (.c (.int .i64 1))⟩])
  (.ret)))
theorem comp43 : compFn Try.prog [2, 3] Try.f43 = some ([.t 4], c43) := by kernel_rfl
/-- topiary/rga.sorted$1: 1 parameters, 28 slots. -/
def c46 : C :=
  .seq (.ops [⟨none, .bxL 4 (.t 0)⟩])
  (.seq (.ops [⟨none, .ld 8 (.t 1) 1 false⟩,
    ⟨none, .ld 9 (.t 4) 2 true⟩,
    ⟨none, .lk 10 [.agg, .int .i64, .int .i64] (.t 8) (.t 9) false (.sl true .pub 0 [])⟩,
    ⟨none, .mv 5 (.t 10)⟩])
  (.seq (.ops [⟨none, .mv 11 (.t 5)⟩,
    ⟨none, .cm (some 12) 47 [(.t 11), (.c (.fn 48 []))]⟩])
  (.seq (.ops [⟨none, .mv 13 (.t 5)⟩,
    ⟨none, .ln 14 .sl (.t 13)⟩,
    ⟨none, .mv 15 (.c (.int .i64 0))⟩])
  (.block 0 (.loop (.seq (.ops [⟨none, .bi 16 .lss (.t 15) (.t 14)⟩])
  (.seq (.cond (.t 16) (.skip)
    (.exit 0))
  (.seq (.block 1 (.seq (.ops [⟨none, .ia 17 (.t 13) (.t 15) 4⟩,
    ⟨none, .ld 18 (.t 17) 4 true⟩,
    ⟨none, .alL 7 [.int .i64 0, .int .i64 0, .int .i64 0, .int .i64 0]⟩,
    ⟨none, .st (.t 7) (.t 18) 4⟩])
  (.seq (.ops [⟨none, .ld 19 (.t 2) 1 false⟩,
    ⟨none, .ld 20 (.t 7) 4 true⟩,
    ⟨none, .lit 21 4 [(.t 20)]⟩,
    ⟨none, .ao 22 4 true (.t 19) (.t 21)⟩,
    ⟨none, .st (.t 2) (.t 22) 1⟩])
  (.ops [⟨none, .ld 23 (.t 3) 1 false⟩,
    ⟨none, .fa 24 (.t 7) 0⟩,
    ⟨none, .ld 25 (.t 24) 2 true⟩,
    ⟨none, .cv (some 26) (.t 23) [(.t 25)]⟩]))))
  (.ops [⟨none, .bi 27 .add (.t 15) (.c (.int .i64 1))⟩,
    ⟨none, .mv 15 (.t 27)⟩])))))))))
theorem comp46 : compFn Try.prog [4, 7, 3000047, 5000022] Try.f46 = some ([], c46) := by kernel_rfl
/-- topiary/rga.sorted$1$1: 2 parameters, 10 slots. -/
def c48 : C :=
  .seq (.ops [⟨none, .bxL 2 (.t 0)⟩,
    ⟨none, .bxL 3 (.t 1)⟩,
    ⟨none, .mv 4 (.c (.int .i64 0))⟩])
  (.seq (.ops [⟨none, .fa 5 (.t 3) 0⟩,
    ⟨none, .ld 6 (.t 5) 2 true⟩,
    ⟨none, .fa 7 (.t 2) 0⟩,
    ⟨none, .ld 8 (.t 7) 2 true⟩,
    ⟨none, .ca (some 9) 43 [(.t 6), (.t 8)]⟩,
    ⟨none, .mv 4 (.t 9)⟩])
  (.ret))
theorem comp48 : compFn Try.prog [2, 3] Try.f48 = some ([.t 4], c48) := by kernel_rfl
/-- topiary/topiaryref12.under: 2 parameters, 72 slots. -/
def c49 : C :=
  .seq (.ops [⟨none, .bxL 3 (.t 1)⟩,
    ⟨none, .mv 4 (.c (.sl true .pub 4 []))⟩])
  (.seq (.ops [⟨none, .lit 10 4 []⟩,
    ⟨none, .mv 5 (.t 10)⟩])
  (.seq (.seq (.ops [⟨none, .mv 6 (.c (.int .i64 0))⟩])
  (.block 0 (.loop (.seq (.seq (.ops [⟨none, .mv 11 (.t 6)⟩,
    ⟨none, .mv 12 (.t 0)⟩,
    ⟨none, .ln 13 .sl (.t 12)⟩,
    ⟨none, .bi 14 .lss (.t 11) (.t 13)⟩])
  (.cond (.t 14) (.skip)
    (.exit 0)))
  (.cut (.block 1 (.seq (.seq (.opsD [⟨none, .mv 17 (.t 0)⟩,
    ⟨none, .mv 18 (.t 0)⟩,
    ⟨none, .mv 19 (.t 6)⟩,
    ⟨none, .ia 20 (.t 18) (.t 19) 4⟩,
    ⟨none, .ld 21 (.t 20) 4 true⟩,
    ⟨none, .ld 23 (.t 3) 2 true⟩,
    ⟨none, .ca (some 22) 54 [(.t 17), (.t 21)]⟩,
    ⟨none, .be 24 true [.int .i64, .int .i64] (.t 22) (.t 23)⟩])
  (.cond (.t 24) (.exit 1)
    (.skip)))
  (.seq (.ops [⟨none, .lit 25 4 []⟩,
    ⟨none, .mv 7 (.t 25)⟩])
  (.seq (.ops [⟨none, .mv 8 (.c (.bool false))⟩])
  (.seq (.seq (.ops [⟨none, .mv 9 (.c (.int .i64 0))⟩])
  (.block 2 (.loop (.seq (.seq (.ops [⟨none, .mv 26 (.t 9)⟩,
    ⟨none, .mv 27 (.t 5)⟩,
    ⟨none, .ln 28 .sl (.t 27)⟩,
    ⟨none, .bi 29 .lss (.t 26) (.t 28)⟩])
  (.cond (.t 29) (.skip)
    (.exit 2)))
  (.seq (.block 3 (.cut (.seq (.opsD [⟨none, .mv 32 (.t 8)⟩,
    ⟨none, .un 33 .not (.t 32)⟩,
    ⟨none, .mv 34 (.t 33)⟩,
    ⟨some (34, true), .mv 35 (.t 5)⟩,
    ⟨some (34, true), .mv 36 (.t 9)⟩,
    ⟨some (34, true), .ia 37 (.t 35) (.t 36) 4⟩,
    ⟨some (34, true), .fa 38 (.t 37) 0⟩,
    ⟨some (34, true), .ld 39 (.t 38) 2 true⟩,
    ⟨some (34, true), .mv 40 (.t 0)⟩,
    ⟨some (34, true), .mv 41 (.t 6)⟩,
    ⟨some (34, true), .ia 42 (.t 40) (.t 41) 4⟩,
    ⟨some (34, true), .fa 43 (.t 42) 0⟩,
    ⟨some (34, true), .ld 44 (.t 43) 2 true⟩,
    ⟨some (34, true), .ca (some 45) 20 [(.t 39), (.t 44)]⟩,
    ⟨none, .pk 46 (.t 34) (.t 45) (.c (.bool false))⟩])
  (.cond (.t 46) (.seq (.ops [⟨none, .mv 47 (.t 7)⟩,
      ⟨none, .mv 48 (.t 0)⟩,
      ⟨none, .mv 49 (.t 6)⟩,
      ⟨none, .ia 50 (.t 48) (.t 49) 4⟩,
      ⟨none, .ld 51 (.t 50) 4 true⟩,
      ⟨none, .lit 52 4 [(.t 51)]⟩,
      ⟨none, .ap 53 4 (.t 47) (.t 52)⟩,
      ⟨none, .mv 7 (.t 53)⟩])
    (.ops [⟨none, .mv 8 (.c (.bool true))⟩]))
    (.skip)))
  (.ops [⟨none, .mv 54 (.t 7)⟩,
    ⟨none, .mv 55 (.t 5)⟩,
    ⟨none, .mv 56 (.t 9)⟩,
    ⟨none, .ia 57 (.t 55) (.t 56) 4⟩,
    ⟨none, .ld 58 (.t 57) 4 true⟩,
    ⟨none, .lit 59 4 [(.t 58)]⟩,
    ⟨none, .ap 60 4 (.t 54) (.t 59)⟩,
    ⟨none, .mv 7 (.t 60)⟩])))
  (.ops [⟨none, .mv 30 (.t 9)⟩,
    ⟨none, .bi 31 .add (.t 30) (.c (.int .i64 1))⟩,
    ⟨none, .mv 9 (.t 31)⟩]))))))
  (.cut (.seq (.ops [⟨none, .mv 61 (.t 8)⟩,
    ⟨none, .un 62 .not (.t 61)⟩])
  (.cond (.t 62) (.ops [⟨none, .mv 63 (.t 7)⟩,
      ⟨none, .mv 64 (.t 0)⟩,
      ⟨none, .mv 65 (.t 6)⟩,
      ⟨none, .ia 66 (.t 64) (.t 65) 4⟩,
      ⟨none, .ld 67 (.t 66) 4 true⟩,
      ⟨none, .lit 68 4 [(.t 67)]⟩,
      ⟨none, .ap 69 4 (.t 63) (.t 68)⟩,
      ⟨none, .mv 7 (.t 69)⟩])
    (.skip)))
  (.ops [⟨none, .mv 70 (.t 7)⟩,
    ⟨none, .mv 5 (.t 70)⟩])))))))
  (.ops [⟨none, .mv 15 (.t 6)⟩,
    ⟨none, .bi 16 .add (.t 15) (.c (.int .i64 1))⟩,
    ⟨none, .mv 6 (.t 16)⟩]))))))
  (.seq (.ops [⟨none, .mv 71 (.t 5)⟩,
    ⟨none, .mv 4 (.t 71)⟩])
  (.ret))))
theorem comp49 : compFn Try.prog [3] Try.f49 = some ([.t 4], c49) := by kernel_rfl
/-- topiary/ident.replica: 1 parameters, 9 slots. -/
def c50 : C :=
  .seq (.ops [⟨none, .mv 2 (.c (.bool false))⟩])
  (.seq (.ops [⟨none, .mv 3 (.t 0)⟩,
    ⟨none, .bi 4 .geq (.t 3) (.c (.int .i64 0))⟩,
    ⟨none, .mv 5 (.t 4)⟩,
    ⟨some (5, true), .mv 6 (.t 0)⟩,
    ⟨some (5, true), .bi 7 .lss (.t 6) (.c (.int .i64 64))⟩,
    ⟨none, .pk 8 (.t 5) (.t 7) (.c (.bool false))⟩,
    ⟨none, .mv 2 (.t 8)⟩])
  (.ret))
theorem comp50 : compFn Try.prog [] Try.f50 = some ([.t 2], c50) := by kernel_rfl
/-- topiary/topiaryref12.up: 2 parameters, 12 slots. -/
def c54 : C :=
  .seq (.ops [⟨none, .bxL 3 (.t 1)⟩,
    ⟨none, .alL 4 [.int .i64 0, .int .i64 0]⟩])
  (.seq (.seq (.ops [⟨none, .mv 5 (.t 0)⟩,
    ⟨none, .fa 6 (.t 3) 2⟩,
    ⟨none, .ld 7 (.t 6) 2 true⟩,
    ⟨none, .ca (some 8) 19 [(.t 5), (.t 7)]⟩])
  (.cond (.t 8) (.seq (.ops [⟨none, .fa 9 (.t 3) 2⟩,
      ⟨none, .ld 10 (.t 9) 2 true⟩,
      ⟨none, .st (.t 4) (.t 10) 2⟩])
    (.ret))
    (.skip)))
  (.seq (.ops [⟨none, .bld 11 [.int .i64 0, .int .i64 0] []⟩,
    ⟨none, .st (.t 4) (.t 11) 2⟩])
  (.ret)))
theorem comp54 : compFn Try.prog [3, 4] Try.f54 = some ([.c 4 2 true], c54) := by kernel_rfl
end Go.VL.rga

namespace Go.VL
open Go

/-- A slice that may be read. -/
def RdS (σ : St) (v : V) (s : Nat) (es : List (List V)) : Prop := ∃ b r s', v = .sl b r s' es ∧ (b = true → es = []) ∧ (b = true ∨ rd σ.live r ∧ s' = s)
def intsV (k : IntKind) (l : List Int) : List (List V) := l.map fun n => [V.int k n]

theorem RdS.ext {σ τ : St} {v : V} {s : Nat} {es : List (List V)} (h : RdS σ v s es) (he : Ext σ τ) : RdS τ v s es := by
  obtain ⟨b, r, s', h1, h2, h3⟩ := h
  exact ⟨b, r, s', h1, h2, h3.imp_right fun x => ⟨rd_ext he x.1, x.2⟩⟩

theorem intsV_get {k : IntKind} {l : List Int} {i : Nat} (h : i < l.length) : (intsV k l)[((i : Nat) : Int).toNat]?.getD [] = [V.int k l[i]] := by
  simp [intsV, h]
theorem bytesV_get {l : List UInt8} {i : Nat} (h : i < l.length) : (bytesV l)[((i : Nat) : Int).toNat]?.getD [] = [V.int .u8 l[i].toNat] := by
  simp [bytesV, h]
theorem intsV_length (k : IntKind) (l : List Int) : (intsV k l).length = l.length := by simp [intsV]

/-- A slice that is owned, and new since a state. -/
def NewS (σ σ' : St) (v : V) (s : Nat) (es : List (List V)) : Prop := ∃ r, v = .sl false (.own r) s es ∧ σ'.live[r]? = some true ∧ σ.live.length ≤ r

theorem NewS.rd {σ σ' : St} {v : V} {s : Nat} {es : List (List V)} (h : NewS σ σ' v s es) : RdS σ' v s es := by
  obtain ⟨r, rfl, h1, _⟩ := h
  exact ⟨false, .own r, s, rfl, by simp, .inr ⟨h1, rfl⟩⟩
theorem NewS.ext {σ σ' τ : St} {v : V} {s : Nat} {es : List (List V)} (h : NewS σ σ' v s es) (he : Ext σ' τ) : NewS σ τ v s es := by
  obtain ⟨r, h0, h1, h2⟩ := h
  exact ⟨r, h0, he.live _ h1, h2⟩

/-- A right that is new has gone, another one has come. -/
theorem ext_kill {σ σ' : St} (h : Ext σ σ') {r : Nat} (hr : σ.live.length ≤ r) {b : Bool} : Ext σ ⟨σ'.objs, σ'.live.set r false ++ [b]⟩ :=
  ⟨h.objs, fun i hi => by
    have h1 := (List.getElem?_eq_some_iff.1 hi).1
    have h2 := h.live i hi
    have h3 := (List.getElem?_eq_some_iff.1 h2).1
    rw [List.getElem?_append_left (by simpa using h3), List.getElem?_set_ne (by omega)]
    exact h2, h.olen, by simp; have := h.llen; omega⟩
theorem ext_push {σ σ' : St} (h : Ext σ σ') {b : Bool} : Ext σ ⟨σ'.objs, σ'.live ++ [b]⟩ := h.trans (ext_live _ _)
/-- What is older than a right is not renamed with it. -/
theorem renS_old {σ : St} {b : Bool} {R : R} {z n r r' s : Nat} {es l : List (List V)} (h : RdS σ (.sl b R z l) n l) (hr : σ.live.length ≤ r) : renS r r' s es (.v (.sl b R z l)) = .v (.sl b R z l) := by
  obtain ⟨_, _, _, e, _, h2⟩ := h
  cases e
  rcases h2 with rfl | h2
  · exact renS_nil _ _ _
  · cases R with
    | pub => exact renS_pub _ _ _
    | view q => exact renS_view _ _ _ _
    | own q =>
      cases b with
      | true => exact renS_nil _ _ _
      | false =>
        have h3 : σ.live[q]? = some true := h2.1
        have := (List.getElem?_eq_some_iff.1 h3).1
        have h4 : Nat.beq q r = false := by
          rw [beq_nat]
          simp
          omega
        simp [renS_own, h4]
theorem live_last (l : List Bool) (b : Bool) : (l ++ [b])[l.length]? = some b := by simp
theorem live_last' (l : List Bool) (r : Nat) (b : Bool) : (l.set r false ++ [b])[l.length]? = some b := by
  rw [List.getElem?_append_right (by simp)]; simp

theorem bytesV_append (a b : List UInt8) : bytesV a ++ bytesV b = bytesV (a ++ b) := by simp [bytesV]
theorem bytesV_length (a : List UInt8) : (bytesV a).length = a.length := by simp [bytesV]
theorem bytes_back (s : List UInt8) : (bytesV s).map byteOfC = s := by
  induction s with
  | nil => rfl
  | cons c r ih => simp only [bytesV, List.map_cons, byteOfC] at ih ⊢; rw [ih]; simp
theorem byte1 (n : Int) (h : 0 ≤ n ∧ n ≤ 255) : [[V.int .u8 n]] = bytesV [UInt8.ofNat n.toNat] := by
  have : ((UInt8.ofNat n.toNat).toNat : Int) = n := by
    rw [UInt8.toNat_ofNat']; omega
  simp only [bytesV, List.map_cons, List.map_nil, this]

theorem and_127 (n : Nat) (h : n < 9223372036854775808) : ibits .and .i64 n 127 = (n % 128 : Nat) := by
  have h1 : (BitVec.ofInt IntKind.i64.bits (n : Int)).toNat = n := by
    rw [BitVec.ofInt_natCast, BitVec.toNat_ofNat, show IntKind.i64.bits = 64 from rfl]; omega
  have h2 : (BitVec.ofInt IntKind.i64.bits 127).toNat = 127 := rfl
  simp only [ibits, BitVec.toNat_and, h1, h2]
  rw [show n &&& 127 = n % 128 from Nat.and_two_pow_sub_one_eq_mod n 7, IntWalk.i64_in _ (by omega)]
theorem or_128 (n : Nat) (h : n < 128) : ibits .or .i64 n 128 = (n + 128 : Nat) := by
  have h1 : (BitVec.ofInt IntKind.i64.bits (n : Int)).toNat = n := by
    rw [BitVec.ofInt_natCast, BitVec.toNat_ofNat, show IntKind.i64.bits = 64 from rfl]; omega
  have h2 : (BitVec.ofInt IntKind.i64.bits 128).toNat = 128 := rfl
  simp only [ibits, BitVec.toNat_or, h1, h2]
  have : n ||| 128 = n + 128 := by
    have := Nat.two_pow_add_eq_or_of_lt (i := 7) (b := n) (by omega) 1
    rw [Nat.or_comm]; simp only [Nat.reducePow, Nat.mul_one] at this; omega
  rw [this, IntWalk.i64_in _ (by omega)]
theorem shr_7 (n : Nat) : (n : Int).fdiv (2 ^ min (Int.toNat 7) 64) = (n / 128 : Nat) := by
  show (n : Int).fdiv (2 ^ 7) = _
  rw [Int.fdiv_eq_ediv_of_nonneg _ (by decide)]; rfl
end Go.VL

namespace Go.VL
open Go

theorem setC_self {σ : St} {i : Nat} {cs : List V} (h : σ.objs[i]? = some (.cells cs)) : σ.setC i cs = σ := by
  obtain ⟨h1, h2⟩ := List.getElem?_eq_some_iff.1 h
  simp only [St.setC]
  rw [← h2, List.set_getElem_self]
theorem RdS.setC {σ : St} {v : V} {s i : Nat} {es : List (List V)} {cs : List V} (h : RdS σ v s es) : RdS (σ.setC i cs) v s es := by
  obtain ⟨b, r, s', h1, h2, h3⟩ := h
  refine ⟨b, r, s', h1, h2, h3.imp_right fun x => ⟨?_, x.2⟩⟩
  have := x.1
  cases r <;> exact this
theorem lit_rd {σ : St} {l : List Bool} {es : List (List V)} {n : Nat} : RdS ⟨σ.objs, σ.live ++ [true]⟩ (.sl false (.own σ.live.length) n es) n es :=
  ⟨false, _, n, rfl, by simp, .inr ⟨live_last _ _, rfl⟩⟩
theorem ext_set {σ σ' : St} (h : Ext σ σ') {i : Nat} (hi : σ.objs.length ≤ i) {cs : List V} : Ext σ (σ'.setC i cs) :=
  ⟨fun j o hj => by
    have h1 := (List.getElem?_eq_some_iff.1 hj).1
    show (σ'.objs.set i _)[j]? = some o
    rw [List.getElem?_set_ne (by omega)]
    exact h.objs _ _ hj, h.live, by
    show σ.objs.length ≤ (σ'.objs.set i _).length
    rw [List.length_set]; exact h.olen, h.llen⟩
theorem tmod_nat (a b : Nat) : ((a : Int).tmod (b : Int)) = ((a % b : Nat) : Int) := by rw [Int.ofNat_tmod]
theorem tdiv_nat (a b : Nat) : ((a : Int).tdiv (b : Int)) = ((a / b : Nat) : Int) := by rw [Int.ofNat_tdiv]
theorem kept_setC {L : List Nat} {σ : St} {i : Nat} {cs : List V} (h : i ∉ L) : Kept (some L) σ (σ.setC i cs) := by
  intro L' hL
  cases hL
  refine ⟨fun j hj o ho => ?_, fun r hr => hr⟩
  show (σ.objs.set i _)[j]? = some o
  rw [List.getElem?_set_ne (fun e => h (by rw [e]; exact hj))]
  exact ho
theorem bytesV_set {g : List UInt8} {i : Nat} {x : Int} (h : 0 ≤ x ∧ x ≤ 255) : (bytesV g).set i [V.int .u8 x] = bytesV (g.set i (UInt8.ofNat x.toNat)) := by
  have : ((UInt8.ofNat x.toNat).toNat : Int) = x := by rw [UInt8.toNat_ofNat']; omega
  simp only [bytesV, List.map_set, this]
theorem rdl {τ : St} {b : Bool} {r : R} {s n : Nat} {es : List (List V)} (h : RdS τ (.sl b r s es) n es) (hne : es ≠ []) : rd τ.live r ∧ s = n := by
  obtain ⟨b', r', s', e, h1, h2⟩ := h
  cases e
  exact h2.resolve_left fun hb => hne (h1 hb)
theorem rd_src {τ : St} {b : Bool} {r : R} {s n : Nat} {es : List (List V)} (h : RdS τ (.sl b r s es) n es) : (b = true ∨ rd τ.live r) ∧ (s = n ∨ es = []) := by
  obtain ⟨b', r', s', e, h1, h2⟩ := h
  cases e
  rcases h2 with h2 | h2
  · exact ⟨.inl h2, .inr (h1 h2)⟩
  · exact ⟨.inr h2.1, .inl h2.2⟩
/-- A value that is a slice. -/
def IsSl (s : V) : Prop := ∃ b r z es, s = .sl b r z es
theorem RdS.isSl {σ : St} {s : V} {n : Nat} {es : List (List V)} (h : RdS σ s n es) : IsSl s := by
  obtain ⟨b, r, z, h, _⟩ := h
  exact ⟨b, r, z, es, h⟩
theorem rd_z {σ : St} {b : Bool} {r : R} {z n : Nat} {es : List (List V)} (h : RdS σ (.sl b r z es) n es) : b = true ∨ z = n := by
  obtain ⟨_, _, _, e, _, h2⟩ := h
  cases e
  exact h2.imp_right (·.2)
theorem rd_toView {l : List Bool} {r : R} (h : rd l r) : rd l r.toView := by cases r <;> exact h
theorem rdS_drop {σ : St} {b : Bool} {r : R} {z : Nat} {p : List UInt8} (h : RdS σ (.sl b r z (bytesV p)) 1 (bytesV p)) (k : Nat) : RdS σ (.sl b r.toView z (bytesV (p.drop k))) 1 (bytesV (p.drop k)) := by
  obtain ⟨_, _, _, e, h1, h2⟩ := h
  cases e
  refine ⟨_, _, _, rfl, fun hb => ?_, h2.imp_right fun x => ⟨rd_toView x.1, x.2⟩⟩
  have := h1 hb
  simp only [bytesV, List.map_eq_nil_iff] at this
  subst this
  simp [bytesV]
end Go.VL

namespace Go.VL.st
open Go Go.VL

structure Sp where
  c : Int
  r : Int
  deriving DecidableEq
def zs : Sp := ⟨0, 0⟩
theorem sp_iff {a b : Sp} : a = b ↔ a.c = b.c ∧ a.r = b.r := by
  cases a; cases b; simp
theorem sp_dec (a b : Sp) : decide (a = b) = (decide (a.c = b.c) && decide (a.r = b.r)) := by
  rw [Bool.eq_iff_iff]; simp [sp_iff]
def spC (s : Sp) : List V := [.int .i64 s.c, .int .i64 s.r]
def spV (s : Sp) : V := .agg (spC s)
theorem sp_eqs (a b : Sp) : V.eqs [.int .i64 a.c, .int .i64 a.r] [.int .i64 b.c, .int .i64 b.r] = decide (a = b) := by
  simp [V.eqs, V.eq, sp_dec]
theorem spV_mk (c r : Int) : V.agg [.int .i64 c, .int .i64 r] = spV ⟨c, r⟩ := rfl
def right (s : Sp) : Bool := decide (1 ≤ s.c) && (decide (s.c ≤ 1099511627776) && (decide (0 ≤ s.r) && decide (s.r < 64)))
def less (a b : Sp) : Bool := decide (a.c < b.c) || (decide (a.c = b.c) && decide (a.r < b.r))
def cmp (a b : Sp) : Int := bif decide (a = b) then 0 else bif less a b then -1 else 1
theorem less_irr (a : Sp) : less a a = false := by simp [less]
theorem less_trans {a b c : Sp} (h : less a b = true) (k : less b c = true) : less a c = true := by
  simp only [less, Bool.or_eq_true, Bool.and_eq_true, decide_eq_true_eq] at *
  omega
theorem less_asymm {a b : Sp} (h : less a b = true) : less b a = false := by
  cases k : less b a with
  | false => rfl
  | true => have := less_trans h k; rw [less_irr] at this; cases this
theorem less_total {a b : Sp} (h : less a b = false) (k : less b a = false) : a = b := by
  simp only [less, Bool.or_eq_false_iff, Bool.and_eq_false_iff, decide_eq_false_iff_not] at h k
  exact sp_iff.2 (by omega)
theorem less_ne {a b : Sp} (h : less a b = true) : a ≠ b := by rintro rfl; rw [less_irr] at h; cases h
theorem less_of {a b : Sp} (h : less a b = false) (hne : a ≠ b) : less b a = true := by
  cases k : less b a with
  | true => rfl
  | false => exact absurd (less_total h k) hne
theorem cmp_neg (a b : Sp) : decide (cmp a b < 0) = less a b := by
  unfold cmp
  by_cases h : a = b
  · subst h; simp [less_irr]
  · simp only [h, decide_false, cond_false]
    cases less a b <;> simp
theorem cmp_zero (a b : Sp) : decide (cmp a b = 0) = decide (a = b) := by
  unfold cmp
  by_cases h : a = b
  · subst h; simp
  · simp only [h, decide_false, cond_false]
    cases less a b <;> simp
def spsV (l : List Sp) : List (List V) := l.map spC
theorem spsV_length (l : List Sp) : (spsV l).length = l.length := by simp [spsV]
theorem spsV_get {l : List Sp} {i : Nat} (h : i < l.length) : (spsV l)[((i : Nat) : Int).toNat]?.getD [] = spC l[i] := by simp [spsV, h]
theorem take_ext {α : Type} {A B : List α} {i : Nat} (hi : i < A.length) (hi' : i < B.length) (h : A.take i = B.take i) : A.take (i + 1) = B.take (i + 1) ↔ A[i] = B[i] := by
  rw [List.take_succ_eq_append_getElem hi, List.take_succ_eq_append_getElem hi', h]
  constructor
  · intro e
    have := List.append_cancel_left e
    simpa using this
  · intro e; rw [e]
end Go.VL.st

namespace Go.VL.rga
open Go Go.VL Go.VL.st

/-- A slot: its stamp, the one behind which it was put. -/
structure Sl where
  a : Sp
  u : Sp
  deriving DecidableEq
def Has (S : List Sl) (x : Sp) : Prop := ∃ s ∈ S, s.a = x
/-- Those above a slot, and it. -/
inductive Path (S : List Sl) : Sp → List Sp → Prop
  | root {s : Sl} : s ∈ S → ¬ Has S s.u → Path S s.a [s.a]
  | kid {s : Sl} {l : List Sp} : s ∈ S → Path S s.u l → Path S s.a (l ++ [s.a])
/-- Slots of unlike stamps, each later than what it was put behind; none has the stamp of nothing. -/
structure Fine (S : List Sl) : Prop where
  nd : (S.map (·.a)).Nodup
  up : ∀ s ∈ S, s.u ≠ zs → less s.u s.a = true
  nz : ∀ s ∈ S, s.a ≠ zs
theorem Path.has {S : List Sl} {x : Sp} {l : List Sp} (h : Path S x l) : Has S x := by
  cases h with
  | root h _ => exact ⟨_, h, rfl⟩
  | kid h _ => exact ⟨_, h, rfl⟩
theorem Fine.uniq {S : List Sl} (h : Fine S) {s t : Sl} (hs : s ∈ S) (ht : t ∈ S) (e : s.a = t.a) : s = t := by
  have hn := h.nd
  obtain ⟨i, hi, rfl⟩ := List.getElem_of_mem hs
  obtain ⟨j, hj, rfl⟩ := List.getElem_of_mem ht
  have h1 := List.pairwise_iff_getElem.1 (List.pairwise_map.1 hn)
  rcases Nat.lt_trichotomy i j with hij | hij | hij
  · exact absurd e (h1 i j hi hj hij)
  · subst hij; rfl
  · exact absurd e.symm (h1 j i hj hi hij)
theorem Fine.less_up {S : List Sl} (h : Fine S) {s : Sl} (hs : s ∈ S) (hu : Has S s.u) : less s.u s.a = true := by
  refine h.up s hs fun e => ?_
  obtain ⟨t, ht, he⟩ := hu
  exact h.nz t ht (he.trans e)
theorem Path.uniq {S : List Sl} (hS : Fine S) {x : Sp} {l l' : List Sp} (h : Path S x l) (k : Path S x l') : l = l' := by
  induction h generalizing l' with
  | @root s hs hu =>
    generalize e : s.a = y at k
    cases k with
    | @root t ht _ => rfl
    | @kid t l ht hk =>
      have := hS.uniq hs ht e
      subst this
      exact absurd hk.has hu
  | @kid s l hs hk ih =>
    generalize e : s.a = y at k
    cases k with
    | @root t ht hu =>
      have := hS.uniq hs ht e
      subst this
      exact absurd hk.has hu
    | @kid t l ht hk' =>
      have := hS.uniq hs ht e
      subst this
      rw [ih hk', e]
/-- How many are earlier. -/
def rank (S : List Sl) (x : Sp) : Nat := (S.filter fun s => less s.a x).length
theorem rank_lt {S : List Sl} {x y : Sp} (hx : Has S x) (h : less x y = true) : rank S x < rank S y := by
  obtain ⟨s, hs, rfl⟩ := hx
  have hsub : (S.filter fun t => less t.a s.a).Sublist ((S.filter fun t => less t.a y).filter fun t => less t.a s.a) := by
    rw [List.filter_filter]
    have : (S.filter fun t => less t.a s.a) = S.filter fun t => less t.a s.a && less t.a y := by
      apply List.filter_congr
      intro t _
      cases ht : less t.a s.a
      · rfl
      · simp [less_trans ht h]
    rw [this]
    exact List.Sublist.refl _
  have h1 := hsub.length_le
  have h2 : ((S.filter fun t => less t.a y).filter fun t => less t.a s.a).length < (S.filter fun t => less t.a y).length := by
    rcases Nat.lt_or_ge ((S.filter fun t => less t.a y).filter fun t => less t.a s.a).length (S.filter fun t => less t.a y).length with h3 | h3
    · exact h3
    · exfalso
      have h4 := List.length_filter_eq_length_iff.1 (Nat.le_antisymm (List.length_filter_le _ _) h3)
      have := h4 s (List.mem_filter.2 ⟨hs, h⟩)
      rw [less_irr] at this; cases this
  unfold rank
  omega
theorem Fine.path {S : List Sl} (h : Fine S) {x : Sp} (hx : Has S x) : ∃ l, Path S x l := by
  have : ∀ n x, Has S x → rank S x < n → ∃ l, Path S x l := by
    intro n
    induction n with
    | zero => intro x _ h; omega
    | succ n ih =>
      rintro x ⟨s, hs, rfl⟩ hn
      by_cases hu : Has S s.u
      · obtain ⟨l, hl⟩ := ih s.u hu (by have := rank_lt hu (h.less_up hs hu); omega)
        exact ⟨_, .kid hs hl⟩
      · exact ⟨_, .root hs hu⟩
  exact this _ x hx (Nat.lt_succ_self _)
theorem Path.last {S : List Sl} {x : Sp} {l : List Sp} (h : Path S x l) : ∃ q, l = q ++ [x] := by
  cases h with
  | root => exact ⟨[], rfl⟩
  | kid => exact ⟨_, rfl⟩
/-- Each one on a path has the path's beginning, and is not later. -/
theorem Path.part {S : List Sl} (hS : Fine S) {x : Sp} {l : List Sp} (h : Path S x l) : ∀ q b r, l = q ++ b :: r → Path S b (q ++ [b]) ∧ (b = x ∨ less b x = true) := by
  induction h with
  | @root s hs hu =>
    intro q b r e
    cases q with
    | nil =>
      simp only [List.nil_append, List.cons.injEq] at e
      obtain ⟨rfl, -⟩ := e
      exact ⟨.root hs hu, .inl rfl⟩
    | cons y q => simp at e
  | @kid s l hs hk ih =>
    intro q b r e
    rcases List.eq_nil_or_concat r with rfl | ⟨r', y, rfl⟩
    · have := List.append_inj' (s₁ := l) (s₂ := q) e rfl
      obtain ⟨rfl, e2⟩ := this
      simp only [List.cons.injEq, and_true] at e2
      subst e2
      exact ⟨.kid hs hk, .inl rfl⟩
    · have e' : l ++ [s.a] = (q ++ b :: r') ++ [y] := by simpa using e
      obtain ⟨rfl, -⟩ := List.append_inj' e' rfl
      obtain ⟨h1, h2⟩ := ih q b r' rfl
      refine ⟨h1, .inr ?_⟩
      have h3 := hS.less_up hs hk.has
      rcases h2 with rfl | h2
      · exact h3
      · exact less_trans h2 h3

/-- The order of paths: who is above comes first; of brothers, the later one. -/
def plt : List Sp → List Sp → Prop
  | [], [] => False
  | [], _ :: _ => True
  | _ :: _, [] => False
  | a :: l, b :: m => less b a = true ∨ (a = b ∧ plt l m)
theorem plt_irr : ∀ l : List Sp, ¬ plt l l
  | [] => id
  | a :: l => by
    rintro (h | ⟨-, h⟩)
    · rw [less_irr] at h; cases h
    · exact plt_irr l h
theorem plt_trans : ∀ {l m n : List Sp}, plt l m → plt m n → plt l n
  | [], [], _, h, _ => h.elim
  | [], _ :: _, [], _, k => k.elim
  | [], _ :: _, _ :: _, _, _ => trivial
  | _ :: _, [], _, h, _ => h.elim
  | _ :: _, _ :: _, [], _, k => k.elim
  | a :: l, b :: m, c :: n, h, k => by
    rcases h with h | ⟨rfl, h⟩
    · rcases k with k | ⟨rfl, k⟩
      · exact .inl (less_trans k h)
      · exact .inl h
    · rcases k with k | ⟨rfl, k⟩
      · exact .inl k
      · exact .inr ⟨rfl, plt_trans h k⟩
theorem plt_pre (l : List Sp) (a : Sp) (m : List Sp) : plt l (l ++ a :: m) := by
  induction l with
  | nil => trivial
  | cons b l ih => exact .inr ⟨rfl, ih⟩
theorem plt_app (q : List Sp) {l m : List Sp} : plt (q ++ l) (q ++ m) ↔ plt l m := by
  induction q with
  | nil => exact Iff.rfl
  | cons a q ih =>
    constructor
    · rintro (h | ⟨-, h⟩)
      · rw [less_irr] at h; cases h
      · exact ih.1 h
    · exact fun h => .inr ⟨rfl, ih.2 h⟩
theorem plt_fork (q : List Sp) {a b : Sp} (l m : List Sp) (h : less b a = true) : plt (q ++ a :: l) (q ++ b :: m) := (plt_app q).2 (.inl h)
theorem plt_tri : ∀ l m : List Sp, plt l m ∨ l = m ∨ plt m l
  | [], [] => .inr (.inl rfl)
  | [], _ :: _ => .inl trivial
  | _ :: _, [] => .inr (.inr trivial)
  | a :: l, b :: m => by
    by_cases e : a = b
    · subst e
      rcases plt_tri l m with h | rfl | h
      · exact .inl (.inr ⟨rfl, h⟩)
      · exact .inr (.inl rfl)
      · exact .inr (.inr (.inr ⟨rfl, h⟩))
    · cases h : less b a with
      | true => exact .inl (.inl h)
      | false => exact .inr (.inr (.inl (less_of h (Ne.symm e))))
/-- In which way one comes ahead of another. -/
theorem plt_cases : ∀ {l m : List Sp}, plt l m → (∃ c r, m = l ++ c :: r) ∨ ∃ q a b l' m', l = q ++ a :: l' ∧ m = q ++ b :: m' ∧ less b a = true
  | [], [], h => h.elim
  | [], c :: r, _ => .inl ⟨c, r, rfl⟩
  | _ :: _, [], h => h.elim
  | a :: l, b :: m, h => by
    rcases h with h | ⟨rfl, h⟩
    · exact .inr ⟨[], a, b, l, m, rfl, rfl, h⟩
    · rcases plt_cases h with ⟨c, r, rfl⟩ | ⟨q, a', b', l', m', rfl, rfl, h'⟩
      · exact .inl ⟨c, r, rfl⟩
      · exact .inr ⟨a :: q, a', b', l', m', rfl, rfl, h'⟩

/-- One slot comes ahead of another. -/
def Bef (S : List Sl) (x y : Sp) : Prop := ∃ l m, Path S x l ∧ Path S y m ∧ plt l m
/-- The row of slots in its order. -/
structure Ord (S O : List Sl) : Prop where
  srt : O.Pairwise fun s t => Bef S s.a t.a
  mem : ∀ s, s ∈ O ↔ s ∈ S
theorem Bef.irr {S : List Sl} (hS : Fine S) {x : Sp} (h : Bef S x x) : False := by
  obtain ⟨l, m, h1, h2, h3⟩ := h
  rw [h1.uniq hS h2] at h3
  exact plt_irr _ h3
theorem Bef.trans {S : List Sl} (hS : Fine S) {x y z : Sp} (h : Bef S x y) (k : Bef S y z) : Bef S x z := by
  obtain ⟨l, m, h1, h2, h3⟩ := h
  obtain ⟨m', n, k1, k2, k3⟩ := k
  rw [← h2.uniq hS k1] at k3
  exact ⟨l, n, h1, k2, plt_trans h3 k3⟩
theorem Ord.uniq {S : List Sl} (hS : Fine S) : ∀ {A B : List Sl}, (A.Pairwise fun s t => Bef S s.a t.a) → (B.Pairwise fun s t => Bef S s.a t.a) → (∀ s, s ∈ A ↔ s ∈ B) → A = B
  | [], [], _, _, _ => rfl
  | [], b :: B, _, _, hm => absurd ((hm b).2 (by simp)) (by simp)
  | a :: A, [], _, _, hm => absurd ((hm a).1 (by simp)) (by simp)
  | a :: A, b :: B, ha, hb, hm => by
    obtain ⟨a1, a2⟩ := List.pairwise_cons.1 ha
    obtain ⟨b1, b2⟩ := List.pairwise_cons.1 hb
    have e : a = b := by
      rcases List.mem_cons.1 ((hm a).1 (by simp)) with e | h1
      · exact e
      · rcases List.mem_cons.1 ((hm b).2 (by simp)) with e | h2
        · exact e.symm
        · exact ((a1 b h2).trans hS (b1 a h1)).irr hS |>.elim
    subst e
    rw [Ord.uniq hS a2 b2 fun p => ?_]
    constructor
    · intro hp
      rcases List.mem_cons.1 ((hm p).1 (List.mem_cons.2 (.inr hp))) with e | h
      · subst e; exact ((a1 p hp).irr hS).elim
      · exact h
    · intro hp
      rcases List.mem_cons.1 ((hm p).2 (List.mem_cons.2 (.inr hp))) with e | h
      · subst e; exact ((b1 p hp).irr hS).elim
      · exact h

/-- With one more, behind which none was put. -/
theorem Path.more {S S' : List Sl} {x : Sl} (hm : ∀ s, s ∈ S' ↔ s = x ∨ s ∈ S) (hx : ∀ s ∈ S, s.u ≠ x.a) {y : Sp} {l : List Sp} (h : Path S y l) : Path S' y l := by
  induction h with
  | @root s hs hu =>
    refine .root ((hm s).2 (.inr hs)) ?_
    rintro ⟨t, ht, e⟩
    rcases (hm t).1 ht with rfl | ht
    · exact hx s hs e.symm
    · exact hu ⟨t, ht, e⟩
  | @kid s l hs hk ih => exact .kid ((hm s).2 (.inr hs)) ih
/-- Where a new slot stands: behind those that are not behind its After, and behind all that are later than it. -/
theorem ord_insert {S S' A B C : List Sl} {x : Sl} (hS : Fine S) (hS' : Fine S') (hm : ∀ s, s ∈ S' ↔ s = x ∨ s ∈ S) (hx : ∀ s ∈ S, s.u ≠ x.a) (hO : Ord S (A ++ (B ++ C)))
    (hA : ∀ t ∈ A, Has S x.u ∧ (t.a = x.u ∨ Bef S t.a x.u)) (hA' : Has S x.u → ∀ t ∈ B ++ C, Bef S x.u t.a)
    (hB : ∀ t ∈ B, less x.a t.a = true) (hC : ∀ t ∈ C.head?, less t.a x.a = true) : Ord S' (A ++ (B ++ x :: C)) := by
  classical
  have hxu : ¬ Has S x.u → ¬ Has S' x.u := by
    rintro hn ⟨t, ht, e⟩
    rcases (hm t).1 ht with rfl | ht
    · have h1 := hS'.up t ((hm t).2 (.inl rfl))
      by_cases hz : t.u = zs
      · exact hS'.nz t ((hm t).2 (.inl rfl)) (e.trans hz)
      · have := h1 hz
        rw [e, less_irr] at this; cases this
    · exact hn ⟨t, ht, e⟩
  -- the way down to the new one's place
  obtain ⟨P, hP⟩ : ∃ P : List Sp, Path S' x.a (P ++ [x.a]) ∧ (∀ b ∈ P, less b x.a = true) ∧ ((¬ Has S x.u ∧ P = []) ∨ Path S x.u P) := by
    by_cases hu : Has S x.u
    · obtain ⟨P, hP⟩ := hS.path hu
      have hlt := hS'.less_up ((hm x).2 (.inl rfl)) (hP.more hm hx).has
      refine ⟨P, .kid ((hm x).2 (.inl rfl)) (hP.more hm hx), fun b hb => ?_, .inr hP⟩
      obtain ⟨q, r, e⟩ := List.append_of_mem hb
      rcases (hP.part hS q b r e).2 with rfl | h
      · exact hlt
      · exact less_trans h hlt
    · exact ⟨[], .root ((hm x).2 (.inl rfl)) (hxu hu), by simp, .inl ⟨hu, rfl⟩⟩
  obtain ⟨hPx, hPl, hPc⟩ := hP
  have memS : ∀ t ∈ A ++ (B ++ C), t ∈ S := fun t ht => (hO.mem t).1 ht
  have path : ∀ t ∈ S, ∃ l, Path S t.a l := fun t ht => hS.path ⟨t, ht, rfl⟩
  have up : ∀ {y z : Sp}, Bef S y z → Bef S' y z := fun ⟨l, m, h1, h2, h3⟩ => ⟨l, m, h1.more hm hx, h2.more hm hx, h3⟩
  -- those behind After
  have hbeh : ∀ t ∈ B ++ C, ∀ l, Path S t.a l → plt P l := by
    intro t ht l hl
    rcases hPc with ⟨-, rfl⟩ | hPp
    · obtain ⟨q, rfl⟩ := hl.last
      cases q <;> trivial
    · obtain ⟨l1, m1, h1, h2, h3⟩ := hA' hPp.has t ht
      rw [h1.uniq hS hPp, h2.uniq hS hl] at h3
      exact h3
  have hsrt := List.pairwise_append.1 hO.srt
  have hsrt2 := List.pairwise_append.1 hsrt.2.1
  -- one on the way to t, behind After, is no later in the row than t
  have early : ∀ t ∈ B, ∀ b : Sp, ∀ pb l, Path S b pb → Path S t.a l → plt P pb → (pb = l ∨ plt pb l) → less x.a b = true := by
    intro t ht b pb l hb hl hPb hle
    obtain ⟨s, hs, rfl⟩ := hb.has
    have hsO := (hO.mem s).2 hs
    rcases List.mem_append.1 hsO with h | h
    · exfalso
      obtain ⟨hu, hc⟩ := hA s h
      rcases hPc with ⟨hn, -⟩ | hPp
      · exact hn hu
      · rcases hc with e | ⟨l1, m1, h1, h2, h3⟩
        · rw [e] at hb
          rw [hb.uniq hS hPp] at hPb
          exact plt_irr _ hPb
        · rw [h1.uniq hS hb, h2.uniq hS hPp] at h3
          exact plt_irr _ (plt_trans h3 hPb)
    · rcases List.mem_append.1 h with h | h
      · exact hB s h
      · exfalso
        obtain ⟨l1, m1, h1, h2, h3⟩ := hsrt2.2.2 t ht s h
        rw [h1.uniq hS hl, h2.uniq hS hb] at h3
        rcases hle with rfl | hle
        · exact plt_irr _ h3
        · exact plt_irr _ (plt_trans h3 hle)
  have hA2 : ∀ t ∈ A, Bef S' t.a x.a := by
    intro t ht
    obtain ⟨hu, hc⟩ := hA t ht
    rcases hPc with ⟨hn, -⟩ | hPp
    · exact absurd hu hn
    · rcases hc with e | ⟨l1, m1, h1, h2, h3⟩
      · exact ⟨P, _, by rw [e]; exact hPp.more hm hx, hPx, plt_pre P x.a []⟩
      · rw [h2.uniq hS hPp] at h3
        exact ⟨l1, _, h1.more hm hx, hPx, plt_trans h3 (plt_pre P x.a [])⟩
  have hB2 : ∀ t ∈ B, Bef S' t.a x.a := by
    intro t ht
    obtain ⟨l, hl⟩ := path t (memS t (by simp [ht]))
    have hPl' := hbeh t (by simp [ht]) l hl
    refine ⟨l, _, hl.more hm hx, hPx, ?_⟩
    rcases plt_cases hPl' with ⟨c, r, rfl⟩ | ⟨q, a, b, l', m', e1, e2, hab⟩
    · have hc := (hl.part hS P c r rfl).1
      have := early t ht c (P ++ [c]) _ hc hl (plt_pre P c []) (by
        cases r with
        | nil => exact .inl rfl
        | cons d r =>
          right
          have := plt_pre (P ++ [c]) d r
          simpa using this)
      exact plt_fork P r [] this
    · exfalso
      have hb := (hl.part hS q b m' e2).1
      have h1 := early t ht b (q ++ [b]) _ hb hl (by rw [e1]; exact plt_fork q l' [] hab) (by
        rw [e2]
        cases m' with
        | nil => exact .inl rfl
        | cons d r =>
          right
          have := plt_pre (q ++ [b]) d r
          simpa using this)
      have h2 := hPl a (by rw [e1]; simp)
      have := less_trans (less_trans h1 hab) h2
      rw [less_irr] at this; cases this
  have hC0 : ∀ t ∈ C.head?, Bef S' x.a t.a := by
    intro t ht
    have htC : t ∈ C := List.mem_of_mem_head? ht
    obtain ⟨l, hl⟩ := path t (memS t (by simp [htC]))
    have hPl' := hbeh t (by simp [htC]) l hl
    have htx := hC t ht
    refine ⟨_, l, hPx, hl.more hm hx, ?_⟩
    rcases plt_cases hPl' with ⟨c, r, rfl⟩ | ⟨q, a, b, l', m', e1, e2, hab⟩
    · refine plt_fork P [] r ?_
      rcases (hl.part hS P c r rfl).2 with rfl | h
      · exact htx
      · exact less_trans h htx
    · rw [e1, e2, List.append_assoc, List.cons_append]
      exact plt_fork q _ _ hab
  have hC2 : ∀ t ∈ C, Bef S' x.a t.a := by
    cases C with
    | nil => simp
    | cons c C =>
      intro t ht
      have h0 := hC0 c rfl
      rcases List.mem_cons.1 ht with rfl | ht
      · exact h0
      · have := hsrt2.2.1
        exact h0.trans hS' (up ((List.pairwise_cons.1 this).1 t ht))
  refine ⟨?_, fun s => ?_⟩
  · refine List.pairwise_append.2 ⟨hsrt.1.imp up, List.pairwise_append.2 ⟨hsrt2.1.imp up, List.pairwise_cons.2 ⟨hC2, hsrt2.2.1.imp up⟩, ?_⟩, ?_⟩
    · intro t ht z hz
      rcases List.mem_cons.1 hz with rfl | hz
      · exact hB2 t ht
      · exact up (hsrt2.2.2 t ht z hz)
    · intro t ht z hz
      rcases List.mem_append.1 hz with hz | hz
      · exact up (hsrt.2.2 t ht z (by simp [hz]))
      · rcases List.mem_cons.1 hz with rfl | hz
        · exact hA2 t ht
        · exact up (hsrt.2.2 t ht z (by simp [hz]))
  · have := hO.mem s
    rw [hm, ← this]
    simp only [List.mem_append, List.mem_cons]
    constructor
    · rintro (h | h | h | h)
      · exact .inr (.inl h)
      · exact .inr (.inr (.inl h))
      · exact .inl h
      · exact .inr (.inr (.inr h))
    · rintro (h | h | h | h)
      · exact .inr (.inr (.inl h))
      · exact .inl h
      · exact .inr (.inl h)
      · exact .inr (.inr (.inr h))
end Go.VL.rga

namespace Go.VL.rga
open Go Go.VL Go.VL.st

def hasB (S : List Sl) (x : Sp) : Bool := S.any fun s => decide (s.a = x)
theorem hasB_iff {S : List Sl} {x : Sp} : hasB S x = true ↔ Has S x := by
  simp [hasB, Has]
/-- Under which one a slot stands. -/
def upS (S : List Sl) (s : Sl) : Sp := bif hasB S s.u then s.u else zs
/-- The slots of one, later ones first. -/
structure Kids (S : List Sl) (x : Sp) (K : List Sl) : Prop where
  desc : K.Pairwise fun s t => less t.a s.a = true
  mem : ∀ s, s ∈ K ↔ s ∈ S ∧ upS S s = x
/-- What comes of slots that stand under one: each, and what is under it. -/
inductive DfsL (S : List Sl) : List Sl → List Sl → Prop
  | nil : DfsL S [] []
  | cons {s : Sl} {K K' o1 o2 : List Sl} : Kids S s.a K' → DfsL S K' o1 → DfsL S K o2 → DfsL S (s :: K) (s :: (o1 ++ o2))
def Dfs (S : List Sl) (x : Sp) (out : List Sl) : Prop := ∃ K, Kids S x K ∧ DfsL S K out
theorem up_path {S : List Sl} (hS : Fine S) {s : Sl} (hs : s ∈ S) {P : List Sp} (hP : (upS S s = zs ∧ P = []) ∨ Path S (upS S s) P) : Path S s.a (P ++ [s.a]) := by
  unfold upS at hP
  cases hu : hasB S s.u <;> rw [hu] at hP
  · have hn : ¬ Has S s.u := fun h => by rw [hasB_iff.2 h] at hu; cases hu
    rcases hP with ⟨-, rfl⟩ | h
    · exact .root hs hn
    · obtain ⟨t, ht, e⟩ := h.has
      exact absurd e (hS.nz t ht)
  · rcases hP with ⟨e, -⟩ | h
    · obtain ⟨t, ht, e'⟩ := hasB_iff.1 hu
      exact absurd (e'.trans e) (hS.nz t ht)
    · exact .kid hs h
theorem path_snoc {S : List Sl} {x : Sp} {l : List Sp} (h : Path S x l) : ∃ s ∈ S, s.a = x ∧ ((¬ Has S s.u ∧ l = [s.a]) ∨ ∃ q, Path S s.u q ∧ l = q ++ [s.a]) := by
  cases h with
  | root h1 h2 => exact ⟨_, h1, rfl, .inl ⟨h2, rfl⟩⟩
  | kid h1 h2 => exact ⟨_, h1, rfl, .inr ⟨_, h2, rfl⟩⟩
theorem dfsL_ord {S : List Sl} (hS : Fine S) {K out : List Sl} (h : DfsL S K out) : ∀ {x : Sp} {P : List Sp}, (K.Pairwise fun s t => less t.a s.a = true) → (∀ s ∈ K, s ∈ S ∧ upS S s = x) → ((x = zs ∧ P = []) ∨ Path S x P) →
    (out.Pairwise fun s t => Bef S s.a t.a) ∧ ∀ t, t ∈ out ↔ t ∈ S ∧ ∃ s ∈ K, ∃ r, Path S t.a (P ++ s.a :: r) := by
  induction h with
  | nil => intro x P _ _ _; exact ⟨.nil, by simp⟩
  | @cons s K K' o1 o2 hK' h1 h2 ih1 ih2 =>
    intro x P hd hk hP
    obtain ⟨hsS, hsu⟩ := hk s (by simp)
    obtain ⟨d1, d2⟩ := List.pairwise_cons.1 hd
    have hps : Path S s.a (P ++ [s.a]) := up_path hS hsS (by rw [hsu]; exact hP)
    obtain ⟨a1, a2⟩ := ih1 (x := s.a) (P := P ++ [s.a]) hK'.desc (fun t ht => (hK'.mem t).1 ht) (.inr hps)
    obtain ⟨b1, b2⟩ := ih2 (x := x) (P := P) d2 (fun t ht => hk t (by simp [ht])) hP
    have hin1 : ∀ t ∈ o1, ∃ c r, Path S t.a (P ++ s.a :: c :: r) := fun t ht => by
      obtain ⟨-, s', -, r, hr⟩ := (a2 t).1 ht
      exact ⟨_, r, by simpa using hr⟩
    have hin2 : ∀ t ∈ o2, ∃ c r, Path S t.a (P ++ c :: r) ∧ less c s.a = true := fun t ht => by
      obtain ⟨-, s', hs', r, hr⟩ := (b2 t).1 ht
      exact ⟨_, r, hr, d1 s' hs'⟩
    refine ⟨List.pairwise_cons.2 ⟨fun t ht => ?_, List.pairwise_append.2 ⟨a1, b1, fun t ht z hz => ?_⟩⟩, fun t => ⟨fun ht => ?_, ?_⟩⟩
    · rcases List.mem_append.1 ht with ht | ht
      · obtain ⟨c, r, hr⟩ := hin1 t ht
        exact ⟨_, _, hps, hr, (plt_app P).2 (.inr ⟨rfl, trivial⟩)⟩
      · obtain ⟨c, r, hr, hl⟩ := hin2 t ht
        exact ⟨_, _, hps, hr, plt_fork P [] r hl⟩
    · obtain ⟨c, r, hr⟩ := hin1 t ht
      obtain ⟨c', r', hr', hl⟩ := hin2 z hz
      exact ⟨_, _, hr, hr', plt_fork P _ _ hl⟩
    · rcases List.mem_cons.1 ht with rfl | ht
      · exact ⟨hsS, t, by simp, [], hps⟩
      · rcases List.mem_append.1 ht with ht | ht
        · obtain ⟨c, r, hr⟩ := hin1 t ht
          exact ⟨((a2 t).1 ht).1, s, by simp, _, hr⟩
        · obtain ⟨k1, s', hs', r, hr⟩ := (b2 t).1 ht
          exact ⟨k1, s', by simp [hs'], r, hr⟩
    · rintro ⟨htS, s', hs', r, hr⟩
      rcases List.mem_cons.1 hs' with rfl | hs'
      · cases r with
        | nil =>
          obtain ⟨q, hq⟩ := hr.last
          have : t.a = s'.a := by
            have := List.append_inj' hq rfl
            simpa using this.2.symm
          rw [hS.uniq htS hsS this]; simp
        | cons c r =>
          have hc := (hr.part hS (P ++ [s'.a]) c r (by simp)).1
          obtain ⟨z, hz, rfl, hzp⟩ := path_snoc hc
          have hzu : Path S z.u (P ++ [s'.a]) := by
            rcases hzp with ⟨-, e⟩ | ⟨q, hq, e⟩
            · have := congrArg List.length e
              simp at this
            · have := (List.append_inj' e rfl).1
              rw [this]; exact hq
          have hzu' : z.u = s'.a := by
            obtain ⟨q, hq⟩ := hzu.last
            have := (List.append_inj' hq rfl).2
            simpa using this.symm
          have hzK : z ∈ K' := (hK'.mem z).2 ⟨hz, by unfold upS; rw [hasB_iff.2 hzu.has]; exact hzu'⟩
          refine List.mem_cons.2 (.inr (List.mem_append.2 (.inl ((a2 t).2 ⟨htS, z, hzK, r, by simpa using hr⟩))))
      · exact List.mem_cons.2 (.inr (List.mem_append.2 (.inr ((b2 t).2 ⟨htS, s', hs', r, hr⟩))))
/-- Who goes down from the front goes over the row. -/
theorem dfs_ord {S : List Sl} (hS : Fine S) {out : List Sl} (h : Dfs S zs out) : Ord S out := by
  obtain ⟨K, hK, h⟩ := h
  obtain ⟨h1, h2⟩ := dfsL_ord hS h (x := zs) (P := []) hK.desc (fun s hs => (hK.mem s).1 hs) (.inl ⟨rfl, rfl⟩)
  refine ⟨h1, fun t => ⟨fun ht => ((h2 t).1 ht).1, fun ht => (h2 t).2 ⟨ht, ?_⟩⟩⟩
  obtain ⟨l, hl⟩ := hS.path ⟨t, ht, rfl⟩
  obtain ⟨q, e⟩ := hl.last
  obtain ⟨c, r, rfl⟩ : ∃ c r, l = c :: r := by
    cases l with
    | nil => cases q <;> simp at e
    | cons c r => exact ⟨c, r, rfl⟩
  have hc := (hl.part hS [] c r rfl).1
  obtain ⟨z, hz, rfl, hzp⟩ := path_snoc hc
  have hn : ¬ Has S z.u := by
    rcases hzp with ⟨h, -⟩ | ⟨q', hq', e'⟩
    · exact h
    · exfalso
      obtain ⟨q2, rfl⟩ := hq'.last
      have := congrArg List.length e'
      simp at this
  refine ⟨z, (hK.mem z).2 ⟨hz, ?_⟩, r, hl⟩
  unfold upS
  cases hb : hasB S z.u with
  | false => rfl
  | true => exact absurd (hasB_iff.1 hb) hn
theorem Ord.eq {S : List Sl} (hS : Fine S) {A B : List Sl} (h : Ord S A) (k : Ord S B) : A = B :=
  Ord.uniq hS h.srt k.srt fun s => (h.mem s).trans (k.mem s).symm
/-- The order hangs on which slots there are alone. -/
theorem Path.congr {S T : List Sl} (hm : ∀ s, s ∈ S ↔ s ∈ T) {x : Sp} {l : List Sp} (h : Path S x l) : Path T x l := by
  induction h with
  | root h1 h2 => exact .root ((hm _).1 h1) fun ⟨t, ht, e⟩ => h2 ⟨t, (hm t).2 ht, e⟩
  | kid h1 _ ih => exact .kid ((hm _).1 h1) ih
theorem Ord.congr {S T O : List Sl} (hm : ∀ s, s ∈ S ↔ s ∈ T) (h : Ord S O) : Ord T O :=
  ⟨h.srt.imp fun ⟨l, m, h1, h2, h3⟩ => ⟨l, m, h1.congr hm, h2.congr hm, h3⟩, fun s => (h.mem s).trans (hm s)⟩
end Go.VL.rga

namespace Go.VL.rga
open Go Go.VL Go.VL.st

def okS (s : Sl) : Bool := right s.a && (decide (s.u = zs) || (right s.u && less s.u s.a))
def addE (w : List Sl) (s : Sl) : Int := bif okS s then (bif hasB w s.a then 5 else 0) else 2
def addW (w : List Sl) (s : Sl) : List Sl := bif okS s && !hasB w s.a then w ++ [s] else w
theorem hasB_app (w : List Sl) (s : Sl) (x : Sp) : hasB (w ++ [s]) x = (hasB w x || decide (s.a = x)) := by
  simp [hasB]
theorem fine_nil : Fine [] := ⟨by simp, by simp, by simp⟩
theorem right_nz {x : Sp} (h : right x = true) : x ≠ zs := by
  rintro rfl
  simp [right, zs] at h
theorem fine_add {w : List Sl} {s : Sl} (h : Fine w) (hok : okS s = true) (hh : hasB w s.a = false) : Fine (w ++ [s]) := by
  simp only [okS, Bool.and_eq_true, Bool.or_eq_true, decide_eq_true_eq] at hok
  refine ⟨?_, ?_, ?_⟩
  · rw [List.map_append, List.nodup_append]
    refine ⟨h.nd, by simp, fun a ha b hb e => ?_⟩
    obtain ⟨t, ht, rfl⟩ := List.mem_map.1 ha
    simp only [List.map_cons, List.map_nil, List.mem_singleton] at hb
    rw [hb] at e
    rw [hasB_iff.2 ⟨t, ht, e⟩] at hh; cases hh
  · intro t ht
    rcases List.mem_append.1 ht with ht | ht
    · exact h.up t ht
    · rw [List.mem_singleton] at ht
      subst ht
      intro hz
      exact (hok.2.resolve_left hz).2
  · intro t ht
    rcases List.mem_append.1 ht with ht | ht
    · exact h.nz t ht
    · rw [List.mem_singleton] at ht
      subst ht
      exact right_nz hok.1
theorem fine_addW {w : List Sl} (h : Fine w) (s : Sl) : Fine (addW w s) := by
  unfold addW
  cases hb : okS s && !hasB w s.a
  · exact h
  · simp only [Bool.and_eq_true, Bool.not_eq_true'] at hb
    exact fine_add h hb.1 hb.2
theorem addW_le (w : List Sl) (s : Sl) : (addW w s).length ≤ w.length + 1 := by
  unfold addW
  cases okS s && !hasB w s.a <;> simp
theorem ord_nil : Ord [] [] := ⟨.nil, fun _ => Iff.rfl⟩
theorem Ord.perm_len {S O : List Sl} (hS : Fine S) (h : Ord S O) : O.Nodup := by
  refine h.srt.imp fun {a b} hab e => ?_
  rw [e] at hab
  exact hab.irr hS
theorem nodup_len : ∀ {A B : List Sl}, A.Nodup → (∀ x ∈ A, x ∈ B) → A.length ≤ B.length
  | [], B, _, _ => Nat.zero_le _
  | x :: A, B, hn, hs => by
    rw [List.nodup_cons] at hn
    have hx := hs x (by simp)
    have := nodup_len (A := A) (B := B.erase x) hn.2 fun y hy => (List.mem_erase_of_ne (by rintro rfl; exact hn.1 hy)).2 (hs y (by simp [hy]))
    rw [List.length_erase_of_mem hx] at this
    have := List.length_pos_of_mem hx
    simp only [List.length_cons]; omega
theorem Fine.nodup {S : List Sl} (h : Fine S) : S.Nodup := by
  have := List.pairwise_map.1 h.nd
  exact this.imp fun {a b} hab e => hab (by rw [e])
theorem Ord.len {S O : List Sl} (hS : Fine S) (h : Ord S O) : O.length = S.length :=
  Nat.le_antisymm (nodup_len (h.perm_len hS) fun x hx => (h.mem x).1 hx) (nodup_len hS.nodup fun x hx => (h.mem x).2 hx)
/-- What was put where the program puts it stands in order. -/
theorem add_ord {w O : List Sl} {s : Sl} (hS : Fine w) (hO : Ord w O) (hok : okS s = true) (hh : hasB w s.a = false) (hw : ∀ t ∈ w, t.u ≠ s.a) {j i : Nat} (hj : (hasB w s.u = false ∧ j = 0) ∨ ∃ (p : Nat) (hp : p < O.length), O[p].a = s.u ∧ j = p + 1)
    (hji : j ≤ i) (hi : i ≤ O.length) (hsk : ∀ (k : Nat) (hk : k < O.length), j ≤ k → k < i → less s.a O[k].a = true) (hst : ∀ (h : i < O.length), less s.a O[i].a = false) : Ord (w ++ [s]) (O.take i ++ s :: O.drop i) := by
  have e1 : O.take i = O.take j ++ (O.drop j).take (i - j) := by
    have := List.take_add (l := O) (i := j) (j := i - j)
    rw [show j + (i - j) = i by omega] at this
    exact this
  have hO' : Ord w (O.take j ++ ((O.drop j).take (i - j) ++ O.drop i)) := by
    rw [← List.append_assoc, ← e1, List.take_append_drop]; exact hO
  have hidx := List.pairwise_iff_getElem.1 hO.srt
  rw [e1, List.append_assoc]
  refine ord_insert hS (fine_add hS hok hh) (fun t => by simp [or_comm]) hw hO' (fun t ht => ?_) (fun hu t ht => ?_) (fun t ht => ?_) (fun t ht => ?_)
  · rcases hj with ⟨-, rfl⟩ | ⟨p, hp, hpe, rfl⟩
    · simp at ht
    · have hu : Has w s.u := ⟨O[p], (hO.mem _).1 (List.getElem_mem hp), hpe⟩
      obtain ⟨k, hk, rfl⟩ := List.getElem_of_mem ht
      simp only [List.length_take] at hk
      rw [List.getElem_take]
      refine ⟨hu, ?_⟩
      rcases Nat.lt_or_ge k p with h | h
      · right; rw [← hpe]; exact hidx k p (by omega) hp h
      · left
        have : k = p := by omega
        subst this
        exact hpe
  · rcases hj with ⟨hn, -⟩ | ⟨p, hp, hpe, rfl⟩
    · rw [hasB_iff.2 hu] at hn; cases hn
    · rw [← hpe]
      have ht' : t ∈ O.drop (p + 1) := by
        rcases List.mem_append.1 ht with h | h
        · exact List.mem_of_mem_take h
        · have : O.drop i = (O.drop (p + 1)).drop (i - (p + 1)) := by rw [List.drop_drop]; congr 1; omega
          rw [this] at h
          exact List.mem_of_mem_drop h
      obtain ⟨k, hk, rfl⟩ := List.getElem_of_mem ht'
      rw [List.length_drop] at hk
      rw [List.getElem_drop]
      exact hidx p (p + 1 + k) hp (by omega) (by omega)
  · obtain ⟨k, hk, rfl⟩ := List.getElem_of_mem ht
    simp only [List.length_take, List.length_drop] at hk
    rw [List.getElem_take, List.getElem_drop]
    exact hsk _ (by omega) (by omega) (by omega)
  · by_cases h : i < O.length
    · rw [List.head?_drop, List.getElem?_eq_getElem h] at ht
      cases ht
      refine less_of (hst h) fun e => ?_
      have : hasB w s.a = true := hasB_iff.2 ⟨O[i], (hO.mem _).1 (List.getElem_mem h), e.symm⟩
      rw [hh] at this; cases this
    · rw [List.drop_of_length_le (by omega)] at ht
      cases ht
end Go.VL.rga

namespace Go.VL
open Go Go.ChangeShapes Go.WideShapes Go.ChangeAt Go.RowKit

/-- What was there is as it was. -/
structure OldKept (W w' : World) : Prop where
  os : w'.os = W.os
  out : w'.output = W.output
  heap : ∀ (b : Nat) (o : Obj), W.heap[b]? = some o → w'.heap[b]? = some o

def pubOf (W : World) (b : Nat) : List Value := match W.heap[b]? with
  | some (.cells c _ _) => c.toList
  | _ => []
/-- The ghost at a claim's start: all that is there is laid aside, and may be read. -/
def g0 (W : World) : G := { mu := [], rho := [], pub := pubOf W, phi := fun b => W.heap[b]?, snap := fun _ _ => none, os := W.os, tape := W.tape, out := W.output, drn := W.drawn }

theorem inv0 (W : World) : INV (g0 W) ⟨[], []⟩ W where
  os := rfl
  tape := rfl
  out := rfl
  phi := fun _ _ h => h
  pub := fun b i v h => by
    simp only [g0, pubOf] at h
    split at h
    · rename_i c e z hx
      exact ⟨c, e, z, hx, by simpa using h⟩
    · simp at h
  mulen := rfl
  objs := fun i b o h => by simp [g0] at h
  inj := fun i j b h => by simp [g0] at h
  rholen := rfl
  own := fun r v s es h => by simp at h
  snapb := fun b n x h => by simp [g0] at h
  apart := fun r r' v s es v' s' es' b h => by simp at h
  drn := Nat.le_refl _

theorem entry {P : Program} {f : FuncId} {xs : List V} {W : World} {vs : List Value} {K : V → St → Prop} (h : CallA P f xs ⟨[], []⟩ K) (hr : RepL (g0 W) xs vs) :
    Calls P f vs.toArray W fun e w' => ∃ v x σ γ, e = .returned v ∧ OldKept W w' ∧ INV γ σ w' ∧ Rep γ x v ∧ K x σ := by
  refine (h.2 (g0 W) W vs (inv0 W) hr).mono ?_
  rintro e w' ⟨v, x, σ, γ, rfl, hle, hi, hx, hk⟩
  refine ⟨v, x, σ, γ, rfl, ⟨hi.os.trans hle.os, hi.out.trans hle.out, fun b o hb => hi.phi b o ?_⟩, hi, hx, hk⟩
  rw [hle.phi]; exact hb

theorem OldKept.frame {W w' : World} (h : OldKept W w') (may : MemPlace → Prop) : W.keptBut w' may := by
  refine ⟨h.os, h.out, fun i hi => ?_⟩
  have h1 : W.heap[i]? = some W.heap[i] := Array.getElem?_eq_getElem hi
  rw [h1, h.heap _ _ h1]
  cases W.heap[i] <;> simp

theorem OldKept.frozen {W w' : World} (h : OldKept W w') {a : Addr} (ha : a.block < W.heap.size) : w'.frozen? a = W.frozen? a := by
  have h1 : W.heap[a.block]? = some W.heap[a.block] := Array.getElem?_eq_getElem ha
  simp only [World.frozen?, h1, h.heap _ _ h1]

/-- A claim's postcondition where nothing that was there has changed. -/
theorem post_of_old {H : Type} {enc : TypeId × Value → H} {P : Program} {f : Func} {s : ChangeSpec} {apart fresh handsOn again : Bool} {W W' : World} {args : Array Value} {v : Value} {ds gs : List (DataW H)} {before pa pv : List MemPlace}
    (hW : DataW.Whole enc P f.params.toList s.vars apart W args.toList ds gs before)
    (hres : ∀ (b : Nat) (sp : Nat → Bool) (hd : Bool), DataW.TrodAll enc P W' b sp hd f.resultTypes.toList (v.resultList f.resultTypes.size) (s.fn H (ds ++ gs)).results [])
    (hargs : ∀ sp : Nat → Bool, (∀ p ∈ before, sp p.block = true) → DataW.TrodAll enc P W' 0 sp true f.params.toList args.toList (s.fn H (ds ++ gs)).args pa)
    (hvars : ∀ sp : Nat → Bool, (∀ p ∈ before, sp p.block = true) → DataW.TrodVars enc P W' sp s.vars (s.fn H (ds ++ gs)).vars pv)
    (hps : before = pa ++ pv) (hk : OldKept W W')
    (hok : ∀ (j : Nat) (t : TypeId) (r : Value), f.resultTypes[j]? = some t → (v.resultList f.resultTypes.size)[j]? = some r → Value.okWide P W' .any 0 t r) :
    s.post enc P f apart fresh handsOn again W args v W' := by
  have hold : ∀ p ∈ before, (fun b => decide (b < W.heap.size)) p.block = true := fun p hp => by simpa using hW.lt p hp
  have hlt := hW.lt
  refine ⟨ds, gs, before, [], pa, pv, hW, hres _ _ _, hargs _ hold, hvars _ hold, World.keptBut_mono (fun p hp => ⟨hp, ?_⟩) (hk.frame (· ∈ before)), fun _ => ?_⟩
  · rw [hps, List.mem_append] at hp
    exact Or.inr hp
  · obtain ⟨_, _, _, _, _, hz, hn⟩ := hW
    refine ⟨hok, _, _, ([] ++ pa) ++ pv, ⟨[] ++ pa, pv, trodAll_append (hargs _ (fun _ _ => rfl)) (hres _ _ _), hvars _ (fun _ _ => rfl), rfl, ?_, ?_⟩, ?_⟩
    · intro b off hp
      have hp' : MemPlace.cell b off ∈ before := by rw [hps]; simpa using hp
      rw [hk.frozen (by have := hlt _ hp'; exact this)]
      exact hz b off hp'
    · intro ha
      have := hn ha
      rw [hps] at this
      simpa using this
    · intro p hp _
      rw [hps]
      simpa using hp
end Go.VL

namespace Go.VL.row
open Go Go.VL

theorem setCells_ok : ∀ (vs : List Value) (w : World) (b o : Nat) (c : Array Value) (e : TypeId) (z : Nat × Nat), w.heap[b]? = some (.cells c e z) → o + vs.length ≤ c.size →
    But (some b) w (w.setCells b o vs) ∧ ∃ c' : Array Value, (w.setCells b o vs).heap[b]? = some (.cells c' e z) ∧ c'.toList = c.toList.take o ++ vs ++ c.toList.drop (o + vs.length)
  | [], w, b, o, c, e, z, h, _ => ⟨.refl _ _, c, h, by simp⟩
  | v :: vs, w, b, o, c, e, z, h, hs => by
    simp only [List.length_cons] at hs
    have hlt : o < c.size := by omega
    obtain ⟨h1, c', h2, h3⟩ := setCells_ok vs (w.setCell ⟨b, o, none⟩ v) b (o + 1) _ e z (setCell_heap h v) (by simp; omega)
    refine ⟨(setCell_but w b o v).trans h1, c', h2, ?_⟩
    rw [h3, Array.toList_setIfInBounds, List.take_succ_eq_append_getElem (by simpa using hlt), List.take_set_of_le (Nat.le_refl _), List.drop_set_of_lt (by omega)]
    simp only [List.getElem_set_self, List.append_assoc, List.cons_append, List.nil_append, List.length_cons]
    rw [show o + 1 + vs.length = o + (vs.length + 1) from by omega]

theorem frep_nil {γ : G} {σ : St} {w : World} : FRep γ σ ⟨[], []⟩ ⟨#[], []⟩ w (fun _ => 0) := by
  refine ⟨fun t => ?_, fun k cs hk => ?_, fun a b c d h => ?_⟩
  · simp [sget, SRep, Rep]
  · simp [lget] at hk
  · simp [lget] at h

/-- A slice whose block is an object, or a nil one. -/
def RowOf (σ : St) (s : V) (z : Nat) (es : List (List V)) : Prop :=
  (∃ R q, s = .sl true R q [] ∧ es = []) ∨ ∃ j cap, s = .osl j es.length cap z ∧ σ.objs[j]? = some (.row cap z es.flatten) ∧ (∀ x ∈ es, x.length = z) ∧ es.length ≤ cap
/-- What is done to the objects. -/
def RowTo (σ : St) (s : V) (σ' : St) : Prop :=
  σ'.live = σ.live ∧ σ.objs.length ≤ σ'.objs.length ∧ ∀ (k : Nat) (o : AObj), (∀ n cap z, s ≠ .osl k n cap z) → σ.objs[k]? = some o → σ'.objs[k]? = some o

section
variable {γ : G} {σ : St} {w w' : World}
/-- A new row. -/
theorem row_new (hi : INV γ σ w) (hb : But none w w') {c : Array Value} {e : TypeId} {s : V} {z n cap : Nat} {es : List (List V)} {vs : List Value} (hw : w'.heap[w.heap.size]? = some (.cells c e (0, 0)))
    (hvs : ∀ (j : Nat) (v : Value), vs[j]? = some v → c[j]? = some v) (hr : RepL γ es.flatten vs) (h1 : ∀ v ∈ vs, v.oneCell' = true) (hc : cap * z ≤ c.size ∧ cap ≤ 9223372036854775807) (hz : ∀ x ∈ es, x.length = z) (hn : es.length = n) (hcap : n ≤ cap) (hfl : es.flatten.length ≤ cap * z) :
    ∃ v x σ' γ', Ending.returned (.slice (some ⟨w.heap.size, 0, none⟩) n cap) = .returned v ∧ Le γ γ' ∧ INV γ' σ' w' ∧ Rep γ' x v ∧ (RowOf σ' x z es ∧ RowTo σ s σ' ∧ ∃ j cap, x = .osl j n cap z ∧ ((∃ n' cap', s = .osl j n' cap' z) ∨ σ.objs.length ≤ j)) := by
  subst hn
  have hle : LeR γ { γ with mu := γ.mu ++ [w.heap.size] } := ⟨fun i c hi => by
    show (γ.mu ++ [_])[i]? = some c
    rw [List.getElem?_append_left (List.getElem?_eq_some_iff.1 hi).1]; exact hi, fun _ _ x => x, fun _ _ _ x => x⟩
  obtain ⟨h2, h3⟩ := hi.newObj hb (Nat.le_refl _) (sn := γ.snap) (fun _ _ _ x => x) (fun _ _ _ => rfl) (ob := .row cap z es.flatten)
    ⟨vs, c, e, (0, 0), hw, hvs, RepL.mono hle _ _ hr, hc, hfl, fun j _ => by omega, h1⟩
  refine ⟨_, .osl σ.objs.length es.length cap z, _, _, rfl, h3, h2, ?_, .inr ⟨_, cap, rfl, by simp, hz, hcap⟩, ⟨rfl, by simp, fun k o _ hk => ?_⟩, _, _, rfl, .inr (Nat.le_refl _)⟩
  · simp only [Rep]
    exact ⟨w.heap.size, by rw [← hi.mulen]; simp, rfl⟩
  · show (σ.objs ++ [_])[k]? = some o
    rw [List.getElem?_append_left (List.getElem?_eq_some_iff.1 hk).1]; exact hk
/-- A row in its place. -/
theorem row_set (hi : INV γ σ w) {j b : Nat} (hmu : γ.mu[j]? = some b) (hj : j < σ.objs.length) (hb : But (some b) w w') {c : Array Value} {e : TypeId} {q : Nat × Nat} {z n n0 cap : Nat} {es : List (List V)} {vs : List Value} (hw : w'.heap[b]? = some (.cells c e q))
    (hvs : ∀ (j : Nat) (v : Value), vs[j]? = some v → c[j]? = some v) (hr : RepL γ es.flatten vs) (h1 : ∀ v ∈ vs, v.oneCell' = true) (hc : cap * z ≤ c.size ∧ cap ≤ 9223372036854775807) (hq : ∀ j, j < cap * z → ¬ (q.1 ≤ j ∧ j < q.2)) (hz : ∀ x ∈ es, x.length = z) (hn : es.length = n) (hcap : n ≤ cap) (hfl : es.flatten.length ≤ cap * z) :
    ∃ v x σ' γ', Ending.returned (.slice (some ⟨b, 0, none⟩) n cap) = .returned v ∧ Le γ γ' ∧ INV γ' σ' w' ∧ Rep γ' x v ∧ (RowOf σ' x z es ∧ RowTo σ (.osl j n0 cap z) σ' ∧ ∃ j' cap', x = .osl j' n cap' z ∧ ((∃ n' cap'', V.osl j n0 cap z = .osl j' n' cap'' z) ∨ σ.objs.length ≤ j')) := by
  subst hn
  obtain ⟨h2, -⟩ := setObj_ok hi (frep_nil) hmu hb (ob := .row cap z es.flatten) (sn := γ.snap) (fun _ _ _ x => x) (fun _ _ _ => rfl) (fun c n x hx => Nat.lt_of_lt_of_le (hi.snapb c n x hx) hb.size) ⟨vs, c, e, q, hw, hvs, hr, hc, hfl, hq, h1⟩
  refine ⟨_, .osl j es.length cap z, _, γ, rfl, .refl γ, h2, ?_, .inr ⟨j, cap, rfl, by simp [hj], hz, hcap⟩, ⟨rfl, by simp, fun k o hk ho => ?_⟩, _, _, rfl, .inl ⟨_, _, rfl⟩⟩
  · simp only [Rep]
    exact ⟨b, hmu, rfl⟩
  · show (σ.objs.set j _)[k]? = some o
    rw [List.getElem?_set_ne (fun e => hk n0 cap z (by rw [e]))]; exact ho
end
theorem flat_take {z : Nat} : ∀ {es : List (List V)} (i : Nat), (∀ x ∈ es, x.length = z) → (es.take i).flatten = es.flatten.take (i * z)
  | [], i, _ => by simp
  | x :: es, 0, _ => by simp
  | x :: es, i + 1, h => by
    have hx := h x (by simp)
    have e : (i + 1) * z = z + i * z := by rw [Nat.succ_mul, Nat.add_comm]
    rw [List.take_succ_cons, List.flatten_cons, List.flatten_cons, flat_take i fun y hy => h y (by simp [hy]), e, List.take_append, hx, List.take_of_length_le (l := x) (by omega), show z + i * z - z = i * z by omega]
theorem flat_drop {z : Nat} : ∀ {es : List (List V)} (i : Nat), (∀ x ∈ es, x.length = z) → (es.drop i).flatten = es.flatten.drop (i * z)
  | [], i, _ => by simp
  | x :: es, 0, _ => by simp
  | x :: es, i + 1, h => by
    have hx := h x (by simp)
    have e : (i + 1) * z = z + i * z := by rw [Nat.succ_mul, Nat.add_comm]
    rw [List.drop_succ_cons, List.flatten_cons, flat_drop i fun y hy => h y (by simp [hy]), e, List.drop_append, hx, List.drop_of_length_le (l := x) (by omega), List.nil_append, show z + i * z - z = i * z by omega]
theorem flat_len' {z : Nat} : ∀ {es : List (List V)}, (∀ x ∈ es, x.length = z) → es.flatten.length = es.length * z
  | [], _ => by simp
  | x :: es, h => by
    rw [List.flatten_cons, List.length_append, h x (by simp), flat_len' fun y hy => h y (by simp [hy]), List.length_cons, Nat.succ_mul, Nat.add_comm]
theorem prefix_eq {c : Array Value} {vs : List Value} (h : ∀ (j : Nat) (v : Value), vs[j]? = some v → c[j]? = some v) : c.toList = vs ++ c.toList.drop vs.length := by
  have : c.toList.take vs.length = vs := by
    apply List.ext_getElem?
    intro j
    rw [List.getElem?_take]
    split
    · rename_i hj
      rw [List.getElem?_eq_getElem hj]
      simpa using h j _ (List.getElem?_eq_getElem hj)
    · rename_i hj
      rw [List.getElem?_eq_none (by omega)]
  conv => lhs; rw [← List.take_append_drop vs.length c.toList, this]
theorem eq_prefix {c : Array Value} {vs r : List Value} (h : c.toList = vs ++ r) (j : Nat) (v : Value) (hj : vs[j]? = some v) : c[j]? = some v := by
  have h1 := (List.getElem?_eq_some_iff.1 hj).1
  have : c.toList[j]? = some v := by rw [h, List.getElem?_append_left h1]; exact hj
  simpa using this
theorem but_new {w w' : World} (h : But (some w.heap.size) w w') : But none w w' :=
  ⟨h.os, h.tape, h.out, h.size, fun k o _ hk => h.heap k o (fun e => by cases e; exact absurd (Array.getElem?_eq_some_iff.1 hk).1 (Nat.lt_irrefl _)) hk, h.drn⟩
theorem mid_eq {l vs x : List Value} (h : l = vs ++ l.drop vs.length) (a b : Nat) {z : Nat} (hab : b = a + z) (ha : a ≤ vs.length) (hl : vs.length + z ≤ l.length) :
    List.take a (l.take b ++ vs.drop a ++ l.drop (b + (vs.drop a).length)) ++ x ++ List.drop b (l.take b ++ vs.drop a ++ l.drop (b + (vs.drop a).length)) = vs.take a ++ x ++ vs.drop a ++ l.drop (b + (vs.drop a).length) := by
  have hb : b ≤ l.length := by omega
  have e1 : List.take a (l.take b ++ vs.drop a ++ l.drop (b + (vs.drop a).length)) = vs.take a := by
    rw [List.append_assoc, List.take_append_of_le_length (by simp; omega), List.take_take, Nat.min_eq_left (by omega)]
    conv => lhs; rw [h]
    rw [List.take_append_of_le_length ha]
  have e2 : List.drop b (l.take b ++ vs.drop a ++ l.drop (b + (vs.drop a).length)) = vs.drop a ++ l.drop (b + (vs.drop a).length) := by
    rw [List.append_assoc, List.drop_append_of_le_length (by simp; omega), List.drop_of_length_le (by rw [List.length_take]; omega), List.nil_append]
  rw [e1, e2]
  simp [List.append_assoc]

/-- What is not of some objects stays. -/
structure UpdS (S : Nat → Prop) (σ τ : St) : Prop where
  objs : ∀ (j : Nat) (o : AObj), ¬ S j → σ.objs[j]? = some o → τ.objs[j]? = some o
  live : ∀ r : Nat, σ.live[r]? = some true → τ.live[r]? = some true
  olen : σ.objs.length ≤ τ.objs.length
  llen : σ.live.length ≤ τ.live.length
theorem UpdS.refl (S : Nat → Prop) (σ : St) : UpdS S σ σ := ⟨fun _ _ _ h => h, fun _ h => h, Nat.le_refl _, Nat.le_refl _⟩
theorem UpdS.trans {S S' : Nat → Prop} {a b c : St} (h : UpdS S a b) (k : UpdS S' b c) (hs : ∀ j, S' j → S j ∨ a.objs.length ≤ j) : UpdS S a c :=
  ⟨fun j o hj x => k.objs j o (fun h' => (hs j h').elim hj fun hl => by have := (List.getElem?_eq_some_iff.1 x).1; omega) (h.objs j o hj x), fun r x => k.live r (h.live r x), Nat.le_trans h.olen k.olen, Nat.le_trans h.llen k.llen⟩
theorem UpdS.of {S : Nat → Prop} {a b : St} (h : Ext a b) : UpdS S a b := ⟨fun j o _ x => h.objs j o x, h.live, h.olen, h.llen⟩
theorem UpdS.ext {a b : St} (h : UpdS (fun _ => False) a b) : Ext a b := ⟨fun j o x => h.objs j o (fun h => h) x, h.live, h.olen, h.llen⟩
theorem rowOf_up {S : Nat → Prop} {σ τ : St} {s : V} {z : Nat} {es : List (List V)} (h : RowOf σ s z es) (hu : UpdS S σ τ) (hs : ∀ k n cap z, s = .osl k n cap z → ¬ S k) : RowOf τ s z es := by
  rcases h with h | ⟨j, cap, rfl, h1, h2, h3⟩
  · exact .inl h
  · exact .inr ⟨j, cap, rfl, hu.objs _ _ (hs j _ _ _ rfl) h1, h2, h3⟩
theorem flat_split {z : Nat} {D : List (List V)} (hz : ∀ x ∈ D, x.length = z) {i : Nat} (hi : i < D.length) :
    D.flatten = (D.take i).flatten ++ (D[i] ++ (D.drop (i + 1)).flatten) ∧ (D.take i).flatten.length = i * z := by
  constructor
  · rw [← List.flatten_cons, ← List.flatten_append, ← List.drop_eq_getElem_cons hi, List.take_append_drop]
  · rw [flat_len' fun x hx => hz x (List.mem_of_mem_take hx), List.length_take, Nat.min_eq_left (by omega)]
theorem over_mid (A e B xs : List V) (o : Nat) (h : o + xs.length ≤ e.length) : over (A ++ (e ++ B)) (A.length + o) xs = A ++ (over e o xs ++ B) := by
  simp only [over]
  rw [List.take_length_add_append, Nat.add_assoc, List.drop_length_add_append, List.take_append_of_le_length (by omega), List.drop_append_of_le_length h]
  simp only [List.append_assoc]
section
variable {σ : St}
theorem updS_setM {m : Nat} {lv : List LK} {es : List (V × V)} {v : Nat} : UpdS (fun k => k = m) σ (σ.setM m lv es v) := by
  refine ⟨fun j o hj hx => ?_, fun _ h => h, ?_, Nat.le_refl _⟩
  · show (σ.objs.set m _)[j]? = some o
    rw [List.getElem?_set_ne (fun e => hj e.symm)]; exact hx
  · show _ ≤ (σ.objs.set m _).length
    rw [List.length_set]; exact Nat.le_refl _
theorem updS_setR {j cap z : Nat} {cs : List V} : UpdS (fun k => k = j) σ (σ.setR j cap z cs) := by
  refine ⟨fun j o hj hx => ?_, fun _ h => h, ?_, Nat.le_refl _⟩
  · show (σ.objs.set _ _)[j]? = some o
    rw [List.getElem?_set_ne (fun e => hj e.symm)]; exact hx
  · show _ ≤ (σ.objs.set _ _).length
    rw [List.length_set]; exact Nat.le_refl _
theorem updS_setC {j : Nat} {cs : List V} : UpdS (fun k => k = j) σ (σ.setC j cs) := by
  refine ⟨fun j o hj hx => ?_, fun _ h => h, ?_, Nat.le_refl _⟩
  · show (σ.objs.set _ _)[j]? = some o
    rw [List.getElem?_set_ne (fun e => hj e.symm)]; exact hx
  · show _ ≤ (σ.objs.set _ _).length
    rw [List.length_set]; exact Nat.le_refl _
end
theorem rdS_up {S : Nat → Prop} {σ τ : St} {v : V} {s : Nat} {es : List (List V)} (h : RdS σ v s es) (hu : UpdS S σ τ) : RdS τ v s es := by
  obtain ⟨b', r', s', h1, h2, h3⟩ := h
  refine ⟨b', r', s', h1, h2, h3.imp_right fun y => ⟨?_, y.2⟩⟩
  have := y.1
  cases r' with
  | pub => trivial
  | own q => exact hu.live q this
  | view q => exact hu.live q this
theorem UpdS.toExt {S : Nat → Prop} {σ a b : St} (h : UpdS S a b) (k : Ext σ a) (hs : ∀ j, S j → σ.objs.length ≤ j) : Ext σ b :=
  ⟨fun j o x => h.objs j o (fun hj => by have := hs j hj; have := (List.getElem?_eq_some_iff.1 x).1; omega) (k.objs j o x), fun r x => h.live r (k.live r x), Nat.le_trans k.olen h.olen, Nat.le_trans k.llen h.llen⟩
theorem kept_upd {S : Nat → Prop} {σ τ : St} (h : UpdS S σ τ) : Kept (some []) σ τ := by
  intro L hL
  cases hL
  exact ⟨fun j hj => (by cases hj), fun r hr => h.live r hr⟩
/-- A slice that was begun as nil. -/
def Acc (n : Nat) (τ : St) (w : V) (z : Nat) (l : List (List V)) : Prop := (l = [] ∧ w = .sl true .pub z []) ∨ ∃ q, w = .sl false (.own q) z l ∧ τ.live[q]? = some true ∧ n ≤ q
theorem Acc.rd {n z : Nat} {τ : St} {w : V} {l : List (List V)} (h : Acc n τ w z l) : RdS τ w z l := by
  rcases h with ⟨rfl, rfl⟩ | ⟨q, rfl, h1, h2⟩
  · exact ⟨true, .pub, z, rfl, by simp, .inl rfl⟩
  · exact ⟨false, .own q, z, rfl, by simp, .inr ⟨h1, rfl⟩⟩
theorem setA_ne {τ : St} {i j : Nat} {o : AObj} (h : j ≠ i) : (τ.setA i o).objs[j]? = τ.objs[j]? := by
  show (τ.objs.set i o)[j]? = _
  rw [List.getElem?_set_ne (Ne.symm h)]
theorem setA_at {τ : St} {i : Nat} {o o' : AObj} (h : τ.objs[i]? = some o') : (τ.setA i o).objs[i]? = some o := by
  show (τ.objs.set i o)[i]? = _
  rw [List.getElem?_set_self (List.getElem?_eq_some_iff.1 h).1]
theorem ext_setA {σ τ : St} (h : Ext σ τ) {i : Nat} (hi : σ.objs.length ≤ i) {o : AObj} : Ext σ (τ.setA i o) :=
  ⟨fun j x hj => by
    have h1 := (List.getElem?_eq_some_iff.1 hj).1
    rw [setA_ne (by omega)]
    exact h.objs _ _ hj, h.live, by
    show σ.objs.length ≤ (τ.objs.set i _).length
    rw [List.length_set]; exact h.olen, h.llen⟩

/-- What a row brings to append. -/
theorem elts_row {σ : St} {y : V} {z : Nat} {es : List (List V)} (h : RowOf σ y z es) : ∃ p : Prop × List (List V), elts σ z y = some p ∧ p.1 ∧ p.2 = es := by
  rcases h with ⟨R, q, rfl, rfl⟩ | ⟨j, cap, rfl, h1, h2, h3⟩
  · exact ⟨_, rfl, ⟨.inl rfl, .inr rfl⟩, rfl⟩
  · refine ⟨(z = z ∧ z = z ∧ es.length * z ≤ es.flatten.length, chunk z es.length es.flatten), ?_, ⟨rfl, rfl, ?_⟩, chunk_flat h2⟩
    · simp only [elts, h1, eltO]
    · rw [flat_len' h2]; exact Nat.le_refl _
/-- append of a row to nothing: a new row. -/
theorem ao_copy {σ : St} {y : V} {z n0 : Nat} {R0 : R} {es : List (List V)} (h : RowOf σ y z es) (hl : es.length ≤ 1073741824) :
    AoV σ z true (.sl true R0 n0 []) y fun v σ' => RowOf σ' v z es ∧ Ext σ σ' ∧ σ'.live = σ.live ∧ (∀ k n cap z', v = .osl k n cap z' → σ.objs.length ≤ k) ∧ V.flat v = true ∧ (v = .sl true .pub 0 [] ∨ ∃ k n cap z', v = .osl k n cap z') := by
  obtain ⟨p, hp, p1, p2⟩ := elts_row h
  have hz : ∀ x ∈ es, x.length = z := by
    rcases h with ⟨R, q, rfl, rfl⟩ | ⟨j, cap, rfl, h1, h2, h3⟩
    · simp
    · exact h2
  unfold AoV
  rw [hp]
  refine ⟨rfl, p1, by rw [p2]; exact hl, fun e => ?_, fun e cap hc1 hc2 => ?_⟩
  · rw [p2] at e
    subst e
    exact ⟨.inl ⟨_, _, rfl, rfl⟩, .refl _, rfl, (fun k n cap z' h => by cases h), rfl, .inl rfl⟩
  · rw [p2] at hc1 ⊢
    refine ⟨.inr ⟨_, cap, rfl, by simp, hz, hc1⟩, ext_obj _ _, rfl, fun k n cap' z' h => ?_, rfl, .inr ⟨_, _, _, _, rfl⟩⟩
    cases h
    exact Nat.le_refl _

end Go.VL.row

namespace Go.VL.rga
open Go Go.VL Go.Proofs Go.IntWalk Go.VL.st Go.VL.row

def slC (s : Sl) : List V := [.int .i64 s.a.c, .int .i64 s.a.r, .int .i64 s.u.c, .int .i64 s.u.r]
def slV (s : Sl) : V := .agg (slC s)
def slsV (l : List Sl) : List (List V) := l.map slC
theorem slsV_length (l : List Sl) : (slsV l).length = l.length := by simp [slsV]
theorem slsV_get {l : List Sl} {i : Nat} (h : i < l.length) : (slsV l)[((i : Nat) : Int).toNat]?.getD [] = slC l[i] := by simp [slsV, h]
theorem slsV_len (l : List Sl) : ∀ x ∈ slsV l, x.length = 4 := by
  intro x hx
  obtain ⟨m, -, rfl⟩ := List.mem_map.1 hx
  rfl

section
variable {σ : St} {s a b : Sp} {r : Int} {t : Sl}
set_option maxRecDepth 100000 in
theorem replica_ok : CallA Try.prog 50 [.int .i64 r] σ fun v σ' => σ' = σ ∧ v = .bool (decide (0 ≤ r) && decide (r < 64)) := by
  refine fn_at Try.func50 (by decide) comp50 rfl fun Q q1 q2 => ?_
  cases h1 : decide (0 ≤ r) <;> cases h2 : decide (r < 64)
  all_goals
    rw [h1, h2] at q2
    simp -implicitDefEqProofs only [go_sem, Nat.reduceBEq, Nat.reduceAdd, eq_self, true_and, and_self, c50, h1, h2]
    refine q2 _ _ ?_
    simp -implicitDefEqProofs only [go_sem, Nat.reduceBEq, Nat.reduceAdd]
    try first | exact ⟨trivial, trivial⟩ | exact ⟨trivial, rfl⟩ | exact ⟨rfl, rfl⟩ | exact ⟨rfl, trivial⟩ | trivial
set_option maxRecDepth 100000 in
theorem right_ok : CallA Try.prog 40 [spV s] σ fun v σ' => σ' = σ ∧ v = .bool (right s) := by
  refine fn_at Try.func40 (by decide) comp40 rfl fun Q q1 q2 => ?_
  simp only [right] at q2
  cases h1 : decide (1 ≤ s.c) <;> cases h2 : decide (s.c ≤ 1099511627776)
  case true.true =>
    rw [h1, h2] at q2
    simp -implicitDefEqProofs only [go_sem, Nat.reduceBEq, Nat.reduceAdd, eq_self, true_and, and_self, c40, spV, spC, h1, h2]
    refine call_at replica_ok ?_
    rintro v σ' ⟨rfl, rfl⟩
    refine ⟨kept_none, ?_⟩
    simp -implicitDefEqProofs only [go_sem, Nat.reduceBEq, Nat.reduceAdd]
    refine q2 _ _ ?_
    simp -implicitDefEqProofs only [go_sem, Nat.reduceBEq, Nat.reduceAdd]
    try first | exact ⟨trivial, trivial⟩ | exact ⟨trivial, rfl⟩ | exact ⟨rfl, rfl⟩ | exact ⟨rfl, trivial⟩ | trivial
  all_goals
    rw [h1, h2] at q2
    simp -implicitDefEqProofs only [go_sem, Nat.reduceBEq, Nat.reduceAdd, eq_self, true_and, and_self, c40, spV, spC, h1, h2]
    refine q2 _ _ ?_
    simp -implicitDefEqProofs only [go_sem, Nat.reduceBEq, Nat.reduceAdd]
    try first | exact ⟨trivial, trivial⟩ | exact ⟨trivial, rfl⟩ | exact ⟨rfl, rfl⟩ | exact ⟨rfl, trivial⟩ | trivial
set_option maxRecDepth 100000 in
theorem rright_ok : CallA Try.prog 38 [spV s] σ fun v σ' => σ' = σ ∧ v = .bool (right s) := by
  refine fn_at Try.func38 (by decide) comp38 rfl fun Q q1 q2 => ?_
  simp only [right] at q2
  cases h1 : decide (1 ≤ s.c) <;> cases h2 : decide (s.c ≤ 1099511627776) <;> cases h3 : decide (0 ≤ s.r) <;> cases h4 : decide (s.r < 64)
  all_goals
    rw [h1, h2, h3, h4] at q2
    simp -implicitDefEqProofs only [go_sem, Nat.reduceBEq, Nat.reduceAdd, eq_self, true_and, and_self, c38, spV, spC, h1, h2, h3, h4]
    refine q2 _ _ ?_
    simp -implicitDefEqProofs only [go_sem, Nat.reduceBEq, Nat.reduceAdd]
    try first | exact ⟨trivial, trivial⟩ | exact ⟨trivial, rfl⟩ | exact ⟨rfl, rfl⟩ | exact ⟨rfl, trivial⟩ | trivial
set_option maxRecDepth 100000 in
theorem compare_ok : CallA Try.prog 43 [spV a, spV b] σ fun v σ' => σ' = σ ∧ v = .int .i64 (cmp a b) := by
  refine fn_at Try.func43 (by decide) comp43 rfl fun Q q1 q2 => ?_
  simp only [cmp, less, sp_dec] at q2
  cases h1 : decide (a.c = b.c) <;> cases h2 : decide (a.r = b.r) <;> cases h3 : decide (a.c < b.c) <;> cases h4 : decide (a.r < b.r)
  all_goals
    rw [h1, h2, h3, h4] at q2
    simp -implicitDefEqProofs only [go_sem, Nat.reduceBEq, Nat.reduceAdd, eq_self, true_and, and_self, c43, spV, spC, h1, h2, h3, h4, V.eqs, V.eq]
    refine q2 _ _ ?_
    simp -implicitDefEqProofs only [go_sem, Nat.reduceBEq, Nat.reduceAdd]
    try first | exact ⟨trivial, trivial⟩ | exact ⟨trivial, rfl⟩ | exact ⟨rfl, rfl⟩ | exact ⟨rfl, trivial⟩ | trivial
set_option maxRecDepth 100000 in
theorem less_ok : CallA Try.prog 34 [spV a, spV b] σ fun v σ' => σ' = σ ∧ v = .bool (less a b) := by
  refine fn_at Try.func34 (by decide) comp34 rfl fun Q q1 q2 => ?_
  simp -implicitDefEqProofs only [go_sem, Nat.reduceBEq, Nat.reduceAdd, eq_self, true_and, and_true, and_self, List.getElem?_cons_zero, List.getElem?_cons_succ, Nat.reduceLeDiff, Nat.zero_add, Nat.reduceSub, Nat.le_refl, c34, spV, spC]
  refine call_at (compare_ok (a := a) (b := b)) ?_
  rintro v σ' ⟨rfl, rfl⟩
  refine ⟨kept_none, ?_⟩
  simp -implicitDefEqProofs only [go_sem, Nat.reduceBEq, Nat.reduceAdd, eq_self, true_and, and_true, and_self, List.getElem?_cons_zero, List.getElem?_cons_succ, Nat.reduceLeDiff, Nat.zero_add, Nat.reduceSub, Nat.le_refl, cmp_neg]
  refine q2 _ _ ?_
  simp -implicitDefEqProofs only [go_sem, Nat.reduceBEq, Nat.reduceAdd, eq_self, true_and, and_true, and_self, List.getElem?_cons_zero, List.getElem?_cons_succ, Nat.reduceLeDiff, Nat.zero_add, Nat.reduceSub, Nat.le_refl, Nat.lt_irrefl]
  try first | exact ⟨trivial, trivial⟩ | exact ⟨trivial, rfl⟩ | exact ⟨rfl, rfl⟩ | exact ⟨rfl, trivial⟩ | trivial
set_option maxRecDepth 100000 in
theorem rless_ok : CallA Try.prog 20 [spV a, spV b] σ fun v σ' => σ' = σ ∧ v = .bool (less a b) := by
  refine fn_at Try.func20 (by decide) comp20 rfl fun Q q1 q2 => ?_
  simp only [less] at q2
  cases h1 : decide (a.c = b.c) <;> cases h3 : decide (a.c < b.c) <;> cases h4 : decide (a.r < b.r)
  all_goals
    rw [h1, h3, h4] at q2
    simp -implicitDefEqProofs only [go_sem, Nat.reduceBEq, Nat.reduceAdd, eq_self, true_and, and_self, c20, spV, spC, h1, h3, h4]
    refine q2 _ _ ?_
    simp -implicitDefEqProofs only [go_sem, Nat.reduceBEq, Nat.reduceAdd]
    try first | exact ⟨trivial, trivial⟩ | exact ⟨trivial, rfl⟩ | exact ⟨rfl, rfl⟩ | exact ⟨rfl, trivial⟩ | trivial
theorem zs_dec (s : Sp) : V.eqs [.int .i64 s.c, .int .i64 s.r] [.int .i64 0, .int .i64 0] = decide (s = zs) := sp_eqs s zs
set_option maxRecDepth 100000 in
theorem slot_ok : CallA Try.prog 32 [slV t] σ fun v σ' => σ' = σ ∧ v = .bool (okS t) := by
  refine fn_at Try.func32 (by decide) comp32 rfl fun Q q1 q2 => ?_
  simp only [okS] at q2
  simp -implicitDefEqProofs only [go_sem, Nat.reduceBEq, Nat.reduceAdd, eq_self, true_and, and_true, and_self, List.getElem?_cons_zero, List.getElem?_cons_succ, Nat.reduceLeDiff, Nat.zero_add, Nat.reduceSub, Nat.le_refl, c32, slV, slC]
  refine call_at (right_ok (s := t.a)) ?_
  rintro v σ' ⟨rfl, rfl⟩
  refine ⟨kept_none, ?_⟩
  cases h1 : right t.a
  · rw [h1] at q2
    simp -implicitDefEqProofs only [go_sem, Nat.reduceBEq, Nat.reduceAdd, eq_self, true_and, and_true, and_self, List.getElem?_cons_zero, List.getElem?_cons_succ, Nat.reduceLeDiff, Nat.zero_add, Nat.reduceSub, Nat.le_refl, h1]
    refine q2 _ _ ?_
    simp -implicitDefEqProofs only [go_sem, Nat.reduceBEq, Nat.reduceAdd, eq_self, true_and, and_true, and_self, List.getElem?_cons_zero, List.getElem?_cons_succ, Nat.reduceLeDiff, Nat.zero_add, Nat.reduceSub, Nat.le_refl, Nat.lt_irrefl]
    try first | exact ⟨trivial, trivial⟩ | exact ⟨trivial, rfl⟩ | exact ⟨rfl, rfl⟩ | exact ⟨rfl, trivial⟩ | trivial
  cases h2 : decide (t.u = zs)
  case true =>
    rw [h1, h2] at q2
    simp -implicitDefEqProofs only [go_sem, Nat.reduceBEq, Nat.reduceAdd, eq_self, true_and, and_true, and_self, List.getElem?_cons_zero, List.getElem?_cons_succ, Nat.reduceLeDiff, Nat.zero_add, Nat.reduceSub, Nat.le_refl, h1, h2, zs_dec]
    refine q2 _ _ ?_
    simp -implicitDefEqProofs only [go_sem, Nat.reduceBEq, Nat.reduceAdd, eq_self, true_and, and_true, and_self, List.getElem?_cons_zero, List.getElem?_cons_succ, Nat.reduceLeDiff, Nat.zero_add, Nat.reduceSub, Nat.le_refl, Nat.lt_irrefl]
    try first | exact ⟨trivial, trivial⟩ | exact ⟨trivial, rfl⟩ | exact ⟨rfl, rfl⟩ | exact ⟨rfl, trivial⟩ | trivial
  rw [h1, h2] at q2
  simp -implicitDefEqProofs only [go_sem, Nat.reduceBEq, Nat.reduceAdd, eq_self, true_and, and_true, and_self, List.getElem?_cons_zero, List.getElem?_cons_succ, Nat.reduceLeDiff, Nat.zero_add, Nat.reduceSub, Nat.le_refl, h1, h2, zs_dec]
  refine call_at (right_ok (s := t.u)) ?_
  rintro v σ' ⟨rfl, rfl⟩
  refine ⟨kept_none, ?_⟩
  cases h3 : right t.u
  · rw [h3] at q2
    simp -implicitDefEqProofs only [go_sem, Nat.reduceBEq, Nat.reduceAdd, eq_self, true_and, and_true, and_self, List.getElem?_cons_zero, List.getElem?_cons_succ, Nat.reduceLeDiff, Nat.zero_add, Nat.reduceSub, Nat.le_refl, h3]
    refine q2 _ _ ?_
    simp -implicitDefEqProofs only [go_sem, Nat.reduceBEq, Nat.reduceAdd, eq_self, true_and, and_true, and_self, List.getElem?_cons_zero, List.getElem?_cons_succ, Nat.reduceLeDiff, Nat.zero_add, Nat.reduceSub, Nat.le_refl, Nat.lt_irrefl]
    try first | exact ⟨trivial, trivial⟩ | exact ⟨trivial, rfl⟩ | exact ⟨rfl, rfl⟩ | exact ⟨rfl, trivial⟩ | trivial
  rw [h3] at q2
  simp -implicitDefEqProofs only [go_sem, Nat.reduceBEq, Nat.reduceAdd, eq_self, true_and, and_true, and_self, List.getElem?_cons_zero, List.getElem?_cons_succ, Nat.reduceLeDiff, Nat.zero_add, Nat.reduceSub, Nat.le_refl, h3]
  refine call_at (less_ok (a := t.u) (b := t.a)) ?_
  rintro v σ' ⟨rfl, rfl⟩
  refine ⟨kept_none, ?_⟩
  simp -implicitDefEqProofs only [go_sem, Nat.reduceBEq, Nat.reduceAdd, eq_self, true_and, and_true, and_self, List.getElem?_cons_zero, List.getElem?_cons_succ, Nat.reduceLeDiff, Nat.zero_add, Nat.reduceSub, Nat.le_refl, Nat.lt_irrefl]
  refine q2 _ _ ?_
  simp -implicitDefEqProofs only [go_sem, Nat.reduceBEq, Nat.reduceAdd, eq_self, true_and, and_true, and_self, List.getElem?_cons_zero, List.getElem?_cons_succ, Nat.reduceLeDiff, Nat.zero_add, Nat.reduceSub, Nat.le_refl, Nat.lt_irrefl]
  try (first | (first | exact ⟨trivial, trivial⟩ | exact ⟨trivial, rfl⟩ | exact ⟨rfl, rfl⟩ | exact ⟨rfl, trivial⟩ | trivial) | (simp; done))
set_option maxRecDepth 100000 in
theorem rslot_ok : CallA Try.prog 29 [slV t] σ fun v σ' => σ' = σ ∧ v = .bool (okS t) := by
  refine fn_at Try.func29 (by decide) comp29 rfl fun Q q1 q2 => ?_
  have hz : decide (t.u = zs) = (decide (t.u.c = 0) && decide (t.u.r = 0)) := sp_dec _ _
  simp only [okS, hz] at q2
  simp -implicitDefEqProofs only [go_sem, Nat.reduceBEq, Nat.reduceAdd, eq_self, true_and, and_true, and_self, List.getElem?_cons_zero, List.getElem?_cons_succ, Nat.reduceLeDiff, Nat.zero_add, Nat.reduceSub, Nat.le_refl, c29, slV, slC]
  cases h4 : decide (t.u.c = 0) <;> cases h5 : decide (t.u.r = 0)
  all_goals
    rw [h4, h5] at q2
    simp -implicitDefEqProofs only [go_sem, Nat.reduceBEq, Nat.reduceAdd, eq_self, true_and, and_true, and_self, List.getElem?_cons_zero, List.getElem?_cons_succ, Nat.reduceLeDiff, Nat.zero_add, Nat.reduceSub, Nat.le_refl, h4, h5]
    refine call_at (rright_ok (s := t.a)) ?_
    rintro v σ' ⟨rfl, rfl⟩
    refine ⟨kept_none, ?_⟩
    cases h1 : right t.a
    · rw [h1] at q2
      simp -implicitDefEqProofs only [go_sem, Nat.reduceBEq, Nat.reduceAdd, eq_self, true_and, and_true, and_self, List.getElem?_cons_zero, List.getElem?_cons_succ, Nat.reduceLeDiff, Nat.zero_add, Nat.reduceSub, Nat.le_refl, h1]
      refine q2 _ _ ?_
      simp -implicitDefEqProofs only [go_sem, Nat.reduceBEq, Nat.reduceAdd, eq_self, true_and, and_true, and_self, List.getElem?_cons_zero, List.getElem?_cons_succ, Nat.reduceLeDiff, Nat.zero_add, Nat.reduceSub, Nat.le_refl, Nat.lt_irrefl]
      try first | exact ⟨trivial, trivial⟩ | exact ⟨trivial, rfl⟩ | exact ⟨rfl, rfl⟩ | exact ⟨rfl, trivial⟩ | trivial
    rw [h1] at q2
    simp -implicitDefEqProofs only [go_sem, Nat.reduceBEq, Nat.reduceAdd, eq_self, true_and, and_true, and_self, List.getElem?_cons_zero, List.getElem?_cons_succ, Nat.reduceLeDiff, Nat.zero_add, Nat.reduceSub, Nat.le_refl, h1]
    first
      | (refine q2 _ _ ?_
         simp -implicitDefEqProofs only [go_sem, Nat.reduceBEq, Nat.reduceAdd, eq_self, true_and, and_true, and_self, List.getElem?_cons_zero, List.getElem?_cons_succ, Nat.reduceLeDiff, Nat.zero_add, Nat.reduceSub, Nat.le_refl, Nat.lt_irrefl]
         try first | exact ⟨trivial, trivial⟩ | exact ⟨trivial, rfl⟩ | exact ⟨rfl, rfl⟩ | exact ⟨rfl, trivial⟩ | trivial)
      | (refine call_at (rright_ok (s := t.u)) ?_
         rintro v σ' ⟨rfl, rfl⟩
         refine ⟨kept_none, ?_⟩
         cases h3 : right t.u
         · rw [h3] at q2
           simp -implicitDefEqProofs only [go_sem, Nat.reduceBEq, Nat.reduceAdd, eq_self, true_and, and_true, and_self, List.getElem?_cons_zero, List.getElem?_cons_succ, Nat.reduceLeDiff, Nat.zero_add, Nat.reduceSub, Nat.le_refl, h3]
           refine q2 _ _ ?_
           simp -implicitDefEqProofs only [go_sem, Nat.reduceBEq, Nat.reduceAdd, eq_self, true_and, and_true, and_self, List.getElem?_cons_zero, List.getElem?_cons_succ, Nat.reduceLeDiff, Nat.zero_add, Nat.reduceSub, Nat.le_refl, Nat.lt_irrefl]
           try first | exact ⟨trivial, trivial⟩ | exact ⟨trivial, rfl⟩ | exact ⟨rfl, rfl⟩ | exact ⟨rfl, trivial⟩ | trivial
         rw [h3] at q2
         simp -implicitDefEqProofs only [go_sem, Nat.reduceBEq, Nat.reduceAdd, eq_self, true_and, and_true, and_self, List.getElem?_cons_zero, List.getElem?_cons_succ, Nat.reduceLeDiff, Nat.zero_add, Nat.reduceSub, Nat.le_refl, h3]
         refine call_at (rless_ok (a := t.u) (b := t.a)) ?_
         rintro v σ' ⟨rfl, rfl⟩
         refine ⟨kept_none, ?_⟩
         simp -implicitDefEqProofs only [go_sem, Nat.reduceBEq, Nat.reduceAdd, eq_self, true_and, and_true, and_self, List.getElem?_cons_zero, List.getElem?_cons_succ, Nat.reduceLeDiff, Nat.zero_add, Nat.reduceSub, Nat.le_refl, Nat.lt_irrefl]
         refine q2 _ _ ?_
         simp -implicitDefEqProofs only [go_sem, Nat.reduceBEq, Nat.reduceAdd, eq_self, true_and, and_true, and_self, List.getElem?_cons_zero, List.getElem?_cons_succ, Nat.reduceLeDiff, Nat.zero_add, Nat.reduceSub, Nat.le_refl, Nat.lt_irrefl]
         try (first | (first | exact ⟨trivial, trivial⟩ | exact ⟨trivial, rfl⟩ | exact ⟨rfl, rfl⟩ | exact ⟨rfl, trivial⟩ | trivial) | (simp; done)))
end
end Go.VL.rga

namespace Go.VL.rga
open Go Go.VL Go.Proofs Go.IntWalk Go.VL.st Go.VL.row

theorem _root_.Go.VL.RdS.nil_of {σ : St} {R : VL.R} {z s : Nat} {es : List (List V)} (h : RdS σ (.sl true R z es) s es) : es = [] := by
  obtain ⟨b', r', s', h1, h2, h3⟩ := h
  cases h1
  exact h2 rfl
theorem hasB_take {l : List Sl} {i : Nat} {x : Sp} (hi : i < l.length) : hasB (l.take (i + 1)) x = (hasB (l.take i) x || decide (l[i].a = x)) := by
  rw [List.take_succ_eq_append_getElem hi, hasB_app]
theorem hasB_at {l : List Sl} {i : Nat} {x : Sp} (hi : i < l.length) (h : l[i].a = x) : hasB l x = true := hasB_iff.2 ⟨_, List.getElem_mem hi, h⟩
def stampsL (l : List Sl) : List Sp := l.map (·.a)
/-- Where a stamp is. -/
def IsAt (x : Sp) (l : List Sp) (w : V) : Prop := (x ∉ l ∧ w = .int .i64 (-1)) ∨ ∃ (k : Nat) (h : k < l.length), l[k] = x ∧ x ∉ l.take k ∧ w = .int .i64 k
section
variable {σ : St} {l : List Sl} {A B : List Sp} {v w : V} {x : Sp} {s : Sl}
set_option maxRecDepth 100000 in
set_option maxHeartbeats 1600000 in
theorem rhas_ok (hv : RdS σ v 4 (slsV l)) (hl : l.length ≤ 1000000) :
    CallA Try.prog 19 [v, spV x] σ fun w σ' => w = .bool (hasB l x) ∧ σ' = σ := by
  obtain ⟨b, RR, z, rfl, -, -⟩ := id hv
  refine fn_at Try.func19 (by decide) comp19 rfl fun Q q1 q2 => ?_
  simp -implicitDefEqProofs only [go_sem, Nat.reduceBEq, Nat.reduceAdd, eq_self, true_and, and_true, and_self, List.getElem?_cons_zero, List.getElem?_cons_succ, Nat.reduceLeDiff, Nat.zero_add, Nat.reduceSub, Nat.le_refl, c19, spV, spC]
  refine loop_at (fun (i : Nat) => ⟨[(0, .v (.sl b RR z (slsV l))), (3, .loc 3 0), (5, .v (.int .i64 i))], [(3, spC x)]⟩)
    (fun i τ' => i ≤ l.length ∧ τ' = σ ∧ hasB (l.take i) x = false) (fun i => l.length - i) 0 ?_ ?_ ?_
  · exact .inr (by simp [go_sem, spC])
  · exact ⟨Nat.zero_le _, rfl, rfl⟩
  rintro i τ' ⟨g1, hτ, g3⟩ Z z1 z2 z3
  have hτ := hτ.symm
  subst hτ
  simp -implicitDefEqProofs only [go_sem, Nat.reduceBEq, Nat.reduceAdd, eq_self, true_and, and_true, and_self, List.getElem?_cons_zero, List.getElem?_cons_succ, Nat.reduceLeDiff, Nat.zero_add, Nat.reduceSub, Nat.le_refl, spC]
  refine CondW_b (fun hcc => ?_) (fun hcc => ?_)
  · have hi : i < l.length := by simpa [slsV_length] using hcc
    obtain ⟨k1, k2⟩ := rdl hv (by cases l <;> simp [slsV] at hi ⊢)
    have hget := slsV_get hi
    have hib : (i : Int) < (slsV l).length := by rw [slsV_length]; omega
    have hw64 : IntKind.i64.wrap ((i : Int) + 1) = ((i + 1 : Nat) : Int) := by rw [i64_in _ (by omega)]; omega
    by_cases hn : l[i].a = x
    · have hd : decide (l[i].a = x) = true := by simp [hn]
      rw [hasB_at hi hn] at q2
      simp -implicitDefEqProofs only [go_sem, Nat.reduceBEq, Nat.reduceAdd, eq_self, true_and, and_true, and_self, List.getElem?_cons_zero, List.getElem?_cons_succ, Nat.reduceLeDiff, Nat.zero_add, Nat.reduceSub, Nat.le_refl, hget, slC, spC, sp_eqs, hd]
      repeat refine ⟨⟨by omega, hib, k2⟩, k1, ?_⟩
      refine z3 _ _ ?_
      simp -implicitDefEqProofs only [go_sem, Nat.reduceBEq, Nat.reduceAdd, eq_self, true_and, and_true, and_self, List.getElem?_cons_zero, List.getElem?_cons_succ, Nat.reduceLeDiff, Nat.zero_add, Nat.reduceSub, Nat.le_refl, Nat.lt_irrefl]
      refine q2 _ _ ?_
      simp -implicitDefEqProofs only [go_sem, Nat.reduceBEq, Nat.reduceAdd, eq_self, true_and, and_true, and_self, List.getElem?_cons_zero, List.getElem?_cons_succ, Nat.reduceLeDiff, Nat.zero_add, Nat.reduceSub, Nat.le_refl, Nat.lt_irrefl]
      try first | exact ⟨trivial, trivial⟩ | exact ⟨trivial, rfl⟩ | exact ⟨rfl, rfl⟩ | exact ⟨rfl, trivial⟩ | trivial
    · have hd : decide (l[i].a = x) = false := by simp [hn]
      simp -implicitDefEqProofs only [go_sem, Nat.reduceBEq, Nat.reduceAdd, eq_self, true_and, and_true, and_self, List.getElem?_cons_zero, List.getElem?_cons_succ, Nat.reduceLeDiff, Nat.zero_add, Nat.reduceSub, Nat.le_refl, hget, slC, spC, sp_eqs, hd]
      repeat refine ⟨⟨by omega, hib, k2⟩, k1, ?_⟩
      simp -implicitDefEqProofs only [go_sem, Nat.reduceBEq, Nat.reduceAdd, eq_self, true_and, and_true, and_self, List.getElem?_cons_zero, List.getElem?_cons_succ, Nat.reduceLeDiff, Nat.zero_add, Nat.reduceSub, Nat.le_refl, hw64]
      refine z1 (i + 1) _ _ (.inr ?_) (by omega) ⟨by omega, rfl, ?_⟩
      · simp -implicitDefEqProofs only [go_sem, Nat.reduceBEq, Nat.reduceAdd, eq_self, true_and, and_true, and_self, List.getElem?_cons_zero, List.getElem?_cons_succ, Nat.reduceLeDiff, Nat.zero_add, Nat.reduceSub, Nat.le_refl, spC]
        try trivial
      · rw [hasB_take hi, g3, hd]; rfl
  · have hi : ¬ i < l.length := by simpa [slsV_length] using hcc
    rw [List.take_of_length_le (by omega)] at g3
    rw [g3] at q2
    simp -implicitDefEqProofs only [go_sem, Nat.reduceBEq, Nat.reduceAdd, eq_self, true_and, and_true, and_self, List.getElem?_cons_zero, List.getElem?_cons_succ, Nat.reduceLeDiff, Nat.zero_add, Nat.reduceSub, Nat.le_refl, Nat.lt_irrefl]
    refine z2 _ _ _ ?_
    simp -implicitDefEqProofs only [go_sem, Nat.reduceBEq, Nat.reduceAdd, eq_self, true_and, and_true, and_self, List.getElem?_cons_zero, List.getElem?_cons_succ, Nat.reduceLeDiff, Nat.zero_add, Nat.reduceSub, Nat.le_refl, Nat.lt_irrefl]
    refine q2 _ _ ?_
    simp -implicitDefEqProofs only [go_sem, Nat.reduceBEq, Nat.reduceAdd, eq_self, true_and, and_true, and_self, List.getElem?_cons_zero, List.getElem?_cons_succ, Nat.reduceLeDiff, Nat.zero_add, Nat.reduceSub, Nat.le_refl, Nat.lt_irrefl]
    try first | exact ⟨trivial, trivial⟩ | exact ⟨trivial, rfl⟩ | exact ⟨rfl, rfl⟩ | exact ⟨rfl, trivial⟩ | trivial
set_option maxRecDepth 100000 in
set_option maxHeartbeats 1600000 in
theorem rplace_ok (hv : RdS σ v 2 (spsV A)) (hl : A.length ≤ 1000000) :
    CallA Try.prog 18 [v, spV x] σ fun w σ' => IsAt x A w ∧ σ' = σ := by
  obtain ⟨b, RR, z, rfl, -, -⟩ := id hv
  refine fn_at Try.func18 (by decide) comp18 rfl fun Q q1 q2 => ?_
  simp -implicitDefEqProofs only [go_sem, Nat.reduceBEq, Nat.reduceAdd, eq_self, true_and, and_true, and_self, List.getElem?_cons_zero, List.getElem?_cons_succ, Nat.reduceLeDiff, Nat.zero_add, Nat.reduceSub, Nat.le_refl, c18, spV, spC]
  refine loop_at (fun (i : Nat) => ⟨[(0, .v (.sl b RR z (spsV A))), (3, .loc 3 0), (5, .v (.int .i64 i))], [(3, spC x)]⟩)
    (fun i τ' => i ≤ A.length ∧ τ' = σ ∧ x ∉ A.take i) (fun i => A.length - i) 0 ?_ ?_ ?_
  · exact .inr (by simp [go_sem, spC])
  · exact ⟨Nat.zero_le _, rfl, by simp⟩
  rintro i τ' ⟨g1, hτ, g3⟩ Z z1 z2 z3
  have hτ := hτ.symm
  subst hτ
  simp -implicitDefEqProofs only [go_sem, Nat.reduceBEq, Nat.reduceAdd, eq_self, true_and, and_true, and_self, List.getElem?_cons_zero, List.getElem?_cons_succ, Nat.reduceLeDiff, Nat.zero_add, Nat.reduceSub, Nat.le_refl, spC]
  refine CondW_b (fun hcc => ?_) (fun hcc => ?_)
  · have hi : i < A.length := by simpa [spsV_length] using hcc
    obtain ⟨k1, k2⟩ := rdl hv (by cases A <;> simp [spsV] at hi ⊢)
    have hget := spsV_get hi
    have hib : (i : Int) < (spsV A).length := by rw [spsV_length]; omega
    have hw64 : IntKind.i64.wrap ((i : Int) + 1) = ((i + 1 : Nat) : Int) := by rw [i64_in _ (by omega)]; omega
    by_cases hn : A[i] = x
    · have hd : decide (A[i] = x) = true := by simp [hn]
      simp -implicitDefEqProofs only [go_sem, Nat.reduceBEq, Nat.reduceAdd, eq_self, true_and, and_true, and_self, List.getElem?_cons_zero, List.getElem?_cons_succ, Nat.reduceLeDiff, Nat.zero_add, Nat.reduceSub, Nat.le_refl, hget, spC, sp_eqs, hd]
      repeat refine ⟨⟨by omega, hib, k2⟩, k1, ?_⟩
      refine z3 _ _ ?_
      simp -implicitDefEqProofs only [go_sem, Nat.reduceBEq, Nat.reduceAdd, eq_self, true_and, and_true, and_self, List.getElem?_cons_zero, List.getElem?_cons_succ, Nat.reduceLeDiff, Nat.zero_add, Nat.reduceSub, Nat.le_refl, Nat.lt_irrefl]
      refine q2 _ _ ?_
      simp -implicitDefEqProofs only [go_sem, Nat.reduceBEq, Nat.reduceAdd, eq_self, true_and, and_true, and_self, List.getElem?_cons_zero, List.getElem?_cons_succ, Nat.reduceLeDiff, Nat.zero_add, Nat.reduceSub, Nat.le_refl, Nat.lt_irrefl]
      exact .inr ⟨i, hi, hn, g3, rfl⟩
    · have hd : decide (A[i] = x) = false := by simp [hn]
      simp -implicitDefEqProofs only [go_sem, Nat.reduceBEq, Nat.reduceAdd, eq_self, true_and, and_true, and_self, List.getElem?_cons_zero, List.getElem?_cons_succ, Nat.reduceLeDiff, Nat.zero_add, Nat.reduceSub, Nat.le_refl, hget, spC, sp_eqs, hd]
      repeat refine ⟨⟨by omega, hib, k2⟩, k1, ?_⟩
      simp -implicitDefEqProofs only [go_sem, Nat.reduceBEq, Nat.reduceAdd, eq_self, true_and, and_true, and_self, List.getElem?_cons_zero, List.getElem?_cons_succ, Nat.reduceLeDiff, Nat.zero_add, Nat.reduceSub, Nat.le_refl, hw64]
      refine z1 (i + 1) _ _ (.inr ?_) (by omega) ⟨by omega, rfl, ?_⟩
      · simp -implicitDefEqProofs only [go_sem, Nat.reduceBEq, Nat.reduceAdd, eq_self, true_and, and_true, and_self, List.getElem?_cons_zero, List.getElem?_cons_succ, Nat.reduceLeDiff, Nat.zero_add, Nat.reduceSub, Nat.le_refl, spC]
        try trivial
      · rw [List.take_succ_eq_append_getElem hi]
        simp only [List.mem_append, List.mem_singleton, not_or]
        exact ⟨g3, Ne.symm hn⟩
  · have hi : ¬ i < A.length := by simpa [spsV_length] using hcc
    rw [List.take_of_length_le (by omega)] at g3
    simp -implicitDefEqProofs only [go_sem, Nat.reduceBEq, Nat.reduceAdd, eq_self, true_and, and_true, and_self, List.getElem?_cons_zero, List.getElem?_cons_succ, Nat.reduceLeDiff, Nat.zero_add, Nat.reduceSub, Nat.le_refl, Nat.lt_irrefl]
    refine z2 _ _ _ ?_
    simp -implicitDefEqProofs only [go_sem, Nat.reduceBEq, Nat.reduceAdd, eq_self, true_and, and_true, and_self, List.getElem?_cons_zero, List.getElem?_cons_succ, Nat.reduceLeDiff, Nat.zero_add, Nat.reduceSub, Nat.le_refl, Nat.lt_irrefl]
    refine q2 _ _ ?_
    simp -implicitDefEqProofs only [go_sem, Nat.reduceBEq, Nat.reduceAdd, eq_self, true_and, and_true, and_self, List.getElem?_cons_zero, List.getElem?_cons_succ, Nat.reduceLeDiff, Nat.zero_add, Nat.reduceSub, Nat.le_refl, Nat.lt_irrefl]
    exact .inl ⟨g3, rfl⟩
set_option maxRecDepth 100000 in
set_option maxHeartbeats 1600000 in
theorem same_ok (hv : RdS σ v 2 (spsV A)) (hw : RdS σ w 2 (spsV B)) (hl : A.length ≤ 1000000000) :
    CallA Try.prog 17 [v, w] σ fun u σ' => u = .bool (decide (A = B)) ∧ σ' = σ := by
  obtain ⟨b, R, z, rfl, -, -⟩ := id hv
  obtain ⟨b', R', z', rfl, -, -⟩ := id hw
  refine fn_at Try.func17 (by decide) comp17 rfl fun Q q1 q2 => ?_
  have hA := spsV_length A
  have hB := spsV_length B
  by_cases hll : A.length = B.length
  case neg =>
    have hd : decide (((spsV A).length : Int) = (spsV B).length) = false := by rw [hA, hB]; simp; omega
    have hne : decide (A = B) = false := by simp only [decide_eq_false_iff_not]; rintro rfl; exact hll rfl
    rw [hne] at q2
    simp -implicitDefEqProofs only [go_sem, Nat.reduceBEq, Nat.reduceAdd, eq_self, true_and, and_true, and_self, List.getElem?_cons_zero, List.getElem?_cons_succ, Nat.reduceLeDiff, Nat.zero_add, Nat.reduceSub, Nat.le_refl, c17, hd]
    refine q2 _ _ ?_
    simp -implicitDefEqProofs only [go_sem, Nat.reduceBEq, Nat.reduceAdd, eq_self, true_and, and_true, and_self, List.getElem?_cons_zero, List.getElem?_cons_succ, Nat.reduceLeDiff, Nat.zero_add, Nat.reduceSub, Nat.le_refl, Nat.lt_irrefl]
    try first | exact ⟨trivial, trivial⟩ | exact ⟨trivial, rfl⟩ | exact ⟨rfl, rfl⟩ | exact ⟨rfl, trivial⟩ | trivial
  have hd : decide (((spsV A).length : Int) = (spsV B).length) = true := by rw [hA, hB]; simp; omega
  simp -implicitDefEqProofs only [go_sem, Nat.reduceBEq, Nat.reduceAdd, eq_self, true_and, and_true, and_self, List.getElem?_cons_zero, List.getElem?_cons_succ, Nat.reduceLeDiff, Nat.zero_add, Nat.reduceSub, Nat.le_refl, c17, hd]
  refine loop_at (fun (i : Nat) => ⟨[(0, .v (.sl b R z (spsV A))), (1, .v (.sl b' R' z' (spsV B))), (5, .v (.int .i64 i))], []⟩)
    (fun i τ' => i ≤ A.length ∧ τ' = σ ∧ A.take i = B.take i) (fun i => A.length - i) 0 ?_ ?_ ?_
  · exact .inr (by simp [go_sem])
  · exact ⟨Nat.zero_le _, rfl, rfl⟩
  rintro i τ' ⟨g1, hτ, g3⟩ Z z1 z2 z3
  have hτ := hτ.symm
  subst hτ
  simp -implicitDefEqProofs only [go_sem, Nat.reduceBEq, Nat.reduceAdd, eq_self, true_and, and_true, and_self, List.getElem?_cons_zero, List.getElem?_cons_succ, Nat.reduceLeDiff, Nat.zero_add, Nat.reduceSub, Nat.le_refl, Nat.lt_irrefl]
  refine CondW_b (fun hcc => ?_) (fun hcc => ?_)
  · have hi : i < A.length := by simpa [hA] using hcc
    have hi' : i < B.length := by omega
    obtain ⟨k1, k2⟩ := rdl hv (by cases A <;> simp [spsV] at hi ⊢)
    obtain ⟨k3, k4⟩ := rdl hw (by cases B <;> simp [spsV] at hi' ⊢)
    have hget := spsV_get hi
    have hget' := spsV_get hi'
    have hib : (i : Int) < (spsV A).length := by rw [hA]; omega
    have hib' : (i : Int) < (spsV B).length := by rw [hB]; omega
    have hw64 : IntKind.i64.wrap ((i : Int) + 1) = ((i + 1 : Nat) : Int) := by rw [i64_in _ (by omega)]; omega
    have hte := take_ext hi hi' g3
    by_cases he : A[i] = B[i]
    · have hdd : decide (A[i] = B[i]) = true := by simp [he]
      simp -implicitDefEqProofs only [go_sem, Nat.reduceBEq, Nat.reduceAdd, eq_self, true_and, and_true, and_self, List.getElem?_cons_zero, List.getElem?_cons_succ, Nat.reduceLeDiff, Nat.zero_add, Nat.reduceSub, Nat.le_refl, hget, hget', spC, sp_eqs, hdd]
      refine ⟨⟨by omega, hib, k2⟩, k1, ⟨by omega, hib', k4⟩, k3, ?_⟩
      simp -implicitDefEqProofs only [go_sem, Nat.reduceBEq, Nat.reduceAdd, eq_self, true_and, and_true, and_self, List.getElem?_cons_zero, List.getElem?_cons_succ, Nat.reduceLeDiff, Nat.zero_add, Nat.reduceSub, Nat.le_refl, hw64]
      refine z1 (i + 1) _ _ (.inr ?_) (by omega) ⟨by omega, rfl, hte.2 he⟩
      simp -implicitDefEqProofs only [go_sem, Nat.reduceBEq, Nat.reduceAdd, eq_self, true_and, and_true, and_self, List.getElem?_cons_zero, List.getElem?_cons_succ, Nat.reduceLeDiff, Nat.zero_add, Nat.reduceSub, Nat.le_refl, Nat.lt_irrefl]
      try trivial
    · have hdd : decide (A[i] = B[i]) = false := by simp [he]
      have hne : decide (A = B) = false := by
        simp only [decide_eq_false_iff_not]; intro e
        exact he (hte.1 (by rw [e]))
      rw [hne] at q2
      simp -implicitDefEqProofs only [go_sem, Nat.reduceBEq, Nat.reduceAdd, eq_self, true_and, and_true, and_self, List.getElem?_cons_zero, List.getElem?_cons_succ, Nat.reduceLeDiff, Nat.zero_add, Nat.reduceSub, Nat.le_refl, hget, hget', spC, sp_eqs, hdd]
      refine ⟨⟨by omega, hib, k2⟩, k1, ⟨by omega, hib', k4⟩, k3, ?_⟩
      refine z3 _ _ ?_
      simp -implicitDefEqProofs only [go_sem, Nat.reduceBEq, Nat.reduceAdd, eq_self, true_and, and_true, and_self, List.getElem?_cons_zero, List.getElem?_cons_succ, Nat.reduceLeDiff, Nat.zero_add, Nat.reduceSub, Nat.le_refl, Nat.lt_irrefl]
      refine q2 _ _ ?_
      simp -implicitDefEqProofs only [go_sem, Nat.reduceBEq, Nat.reduceAdd, eq_self, true_and, and_true, and_self, List.getElem?_cons_zero, List.getElem?_cons_succ, Nat.reduceLeDiff, Nat.zero_add, Nat.reduceSub, Nat.le_refl, Nat.lt_irrefl]
      try first | exact ⟨trivial, trivial⟩ | exact ⟨trivial, rfl⟩ | exact ⟨rfl, rfl⟩ | exact ⟨rfl, trivial⟩ | trivial
  · have hi : ¬ i < A.length := by simpa [hA] using hcc
    have hi : A.length ≤ i := by omega
    rw [List.take_of_length_le (by omega), List.take_of_length_le (by omega)] at g3
    have hne : decide (A = B) = true := by simp [g3]
    rw [hne] at q2
    simp -implicitDefEqProofs only [go_sem, Nat.reduceBEq, Nat.reduceAdd, eq_self, true_and, and_true, and_self, List.getElem?_cons_zero, List.getElem?_cons_succ, Nat.reduceLeDiff, Nat.zero_add, Nat.reduceSub, Nat.le_refl, Nat.lt_irrefl]
    refine z2 _ _ _ ?_
    simp -implicitDefEqProofs only [go_sem, Nat.reduceBEq, Nat.reduceAdd, eq_self, true_and, and_true, and_self, List.getElem?_cons_zero, List.getElem?_cons_succ, Nat.reduceLeDiff, Nat.zero_add, Nat.reduceSub, Nat.le_refl, Nat.lt_irrefl]
    refine q2 _ _ ?_
    simp -implicitDefEqProofs only [go_sem, Nat.reduceBEq, Nat.reduceAdd, eq_self, true_and, and_true, and_self, List.getElem?_cons_zero, List.getElem?_cons_succ, Nat.reduceLeDiff, Nat.zero_add, Nat.reduceSub, Nat.le_refl, Nat.lt_irrefl]
    try first | exact ⟨trivial, trivial⟩ | exact ⟨trivial, rfl⟩ | exact ⟨rfl, rfl⟩ | exact ⟨rfl, trivial⟩ | trivial
set_option maxRecDepth 100000 in
theorem up_ok (hv : RdS σ v 4 (slsV l)) (hl : l.length ≤ 1000000) :
    CallA Try.prog 54 [v, slV s] σ fun w σ' => w = spV (upS l s) ∧ σ' = σ := by
  refine fn_at Try.func54 (by decide) comp54 rfl fun Q q1 q2 => ?_
  simp -implicitDefEqProofs only [go_sem, Nat.reduceBEq, Nat.reduceAdd, eq_self, true_and, and_true, and_self, List.getElem?_cons_zero, List.getElem?_cons_succ, Nat.reduceLeDiff, Nat.zero_add, Nat.reduceSub, Nat.le_refl, c54, slV, slC]
  refine call_at (rhas_ok (x := s.u) hv hl) ?_
  rintro w τ ⟨rfl, rfl⟩
  refine ⟨kept_none, ?_⟩
  unfold upS at q2
  cases h : hasB l s.u <;> rw [h] at q2
  all_goals
    simp -implicitDefEqProofs only [go_sem, Nat.reduceBEq, Nat.reduceAdd, eq_self, true_and, and_true, and_self, List.getElem?_cons_zero, List.getElem?_cons_succ, Nat.reduceLeDiff, Nat.zero_add, Nat.reduceSub, Nat.le_refl, h]
    refine q2 _ _ ?_
    simp -implicitDefEqProofs only [go_sem, Nat.reduceBEq, Nat.reduceAdd, eq_self, true_and, and_true, and_self, List.getElem?_cons_zero, List.getElem?_cons_succ, Nat.reduceLeDiff, Nat.zero_add, Nat.reduceSub, Nat.le_refl, Nat.lt_irrefl]
    try first | exact ⟨trivial, trivial⟩ | exact ⟨trivial, rfl⟩ | exact ⟨rfl, rfl⟩ | exact ⟨rfl, trivial⟩ | trivial
    try rfl
set_option maxRecDepth 100000 in
theorem cut_ok (hv : RdS σ v 4 (slsV l)) : CallA Try.prog 23 [v] σ fun w σ' => RdS σ w 4 (slsV (l.take 120)) ∧ σ' = σ := by
  refine fn_at Try.func23 (by decide) comp23 rfl fun Q q1 q2 => ?_
  obtain ⟨b, R, z, rfl, -, -⟩ := id hv
  have hA := slsV_length l
  cases hd : decide (((slsV l).length : Int) > 120)
  · have hle : l.length ≤ 120 := by simp [hA] at hd; omega
    rw [List.take_of_length_le hle] at q2
    simp -implicitDefEqProofs only [go_sem, Nat.reduceBEq, Nat.reduceAdd, eq_self, true_and, and_true, and_self, List.getElem?_cons_zero, List.getElem?_cons_succ, Nat.reduceLeDiff, Nat.zero_add, Nat.reduceSub, Nat.le_refl, c23, hd]
    refine q2 _ _ ?_
    simp -implicitDefEqProofs only [go_sem, Nat.reduceBEq, Nat.reduceAdd, eq_self, true_and, and_true, and_self, List.getElem?_cons_zero, List.getElem?_cons_succ, Nat.reduceLeDiff, Nat.zero_add, Nat.reduceSub, Nat.le_refl, Nat.lt_irrefl]
    exact hv
  · have hle : 120 < l.length := by simp [hA] at hd; omega
    obtain ⟨k1, k2⟩ := rdl hv (by cases l <;> simp [slsV] at hle ⊢)
    have hb : b = false := by
      cases b with
      | false => rfl
      | true =>
        have := hv.nil_of
        simp [slsV] at this
        rw [this] at hle; simp at hle
    have ht : List.take (Int.toNat 120) (slsV l) = slsV (l.take 120) := by simp [slsV, List.map_take]
    simp -implicitDefEqProofs only [go_sem, Nat.reduceBEq, Nat.reduceAdd, eq_self, true_and, and_true, and_self, List.getElem?_cons_zero, List.getElem?_cons_succ, Nat.reduceLeDiff, Nat.zero_add, Nat.reduceSub, Nat.le_refl, c23, hd]
    refine ⟨⟨.inr k2, by decide, by decide, by show 120 ≤ _; omega⟩, ?_⟩
    rw [ht]
    refine q2 _ _ ?_
    simp -implicitDefEqProofs only [go_sem, Nat.reduceBEq, Nat.reduceAdd, eq_self, true_and, and_true, and_self, List.getElem?_cons_zero, List.getElem?_cons_succ, Nat.reduceLeDiff, Nat.zero_add, Nat.reduceSub, Nat.le_refl, Nat.lt_irrefl]
    exact (⟨b, R.toView, z, rfl, fun h => absurd h (by rw [hb]; decide), .inr ⟨rd_toView k1, k2⟩⟩ : RdS _ _ _ _)
end
end Go.VL.rga

namespace Go.Proofs
open Go.Shelf Go.RowKit Go.Lib

/-- ALL IS READ BEFORE ANYTHING IS WRITTEN; elements of k cells. -/
theorem run_copyK {P : Program} (w : World) (dT sT ty elem : TypeId) (b o dLen dCap : Nat) (a : Addr) (sLen sCap k : Nat) (cs : List Value)
    (hu : P.underlying dT = some (.slice elem)) (hs : ∀ w, (Go.sizeOf elem).run P w = .ok k w) (hn : cs.length = Nat.min sLen dLen * k)
    (hsrc : ∀ j v, cs[j]? = some v → w.cell? (a.add j) = some v) (hc : ∀ j, j < cs.length → (w.cell? ⟨b, o + j, none⟩).isSome = true) (hf : ∀ j, j < cs.length → w.frozen? ⟨b, o + j, none⟩ = false) (h1 : ∀ v ∈ cs, v.oneCell' = true) :
    (Builtin.copy_ #[dT, sT] ty #[.slice (some ⟨b, o, none⟩) dLen dCap, .slice (some a) sLen sCap]).run P w = .ok (goInt (Nat.min sLen dLen)) (w.setCells b o cs) := by
  have hl := run_loadCells_list (P := P) w a cs hsrc
  have hst := run_storeCells_cells (P := P) b o cs 0 w (by simpa using hc) (by simpa using hf) h1
  simp [Builtin.copy_, run_underlying hu, Builtin.lenOf, Builtin.firstCells, hs, ← hn, hl, hst]

set_option maxHeartbeats 4000000 in
set_option maxRecDepth 100000 in
theorem insShift (b off n c i vb voff m vc : Nat) (cs vs : List Value) (w : World) (hi : i < n) (hm : 0 < m) (hroom : n + m ≤ c) (hc63 : c ≤ 9223372036854775807) (hvb : vb ≠ b)
    (hcl : cs.length = n * 4) (hvl : vs.length = m * 4)
    (hcs : ∀ j v, cs[j]? = some v → w.cell? ⟨b, off + j, none⟩ = some v) (hsp : ∀ j, j < (n + m) * 4 → (w.cell? ⟨b, off + j, none⟩).isSome = true) (hfz : ∀ j, j < (n + m) * 4 → w.frozen? ⟨b, off + j, none⟩ = false)
    (hvs : ∀ j v, vs[j]? = some v → w.cell? ⟨vb, voff + j, none⟩ = some v) (h1c : ∀ v ∈ cs, v.oneCell' = true) (h1v : ∀ v ∈ vs, v.oneCell' = true)
    (tA tB : TypeId) (kA kB : Nat) (hsa : w.shape? vb = some (tA, kA)) (hsb : w.shape? b = some (tB, kB)) (hkB : kB ≠ 0) (hfa : w.frozen? ⟨vb, voff, none⟩ = false) (hfe : w.frozen? ⟨vb, kA, none⟩ = false) :
    Calls Try.prog 35 #[.slice (some ⟨b, off, none⟩) n c, .int .i64 i, .slice (some ⟨vb, voff, none⟩) m vc] w fun e w' =>
      e = .returned (.slice (some ⟨b, off, none⟩) (n + m) c) ∧ w' = (w.drew.setCells b (off + (i + m) * 4) (cs.drop (i * 4))).setCells b (off + i * 4) vs := by
  have hz1 : ¬ ((m : Int) = 0) := by omega
  have hz2 : ¬ ((i : Int) = (n : Int)) := by omega
  have hov : ∀ lb cb, (callFunc 44 #[.slice (some ⟨vb, voff, none⟩) m vc, .slice (some ⟨b, off + (i + m) * 4, none⟩) lb cb]).run Try.prog w = .ok (.value (.bool false)) w := fun lb cb => by
    rw [run_callFunc_extern Try.func44 (by kernel_rfl) (by kernel_rfl) (by kernel_rfl) (e := Extern.SlicesOverlaps.overlaps #[22, 22] #[4]) (by kernel_rfl),
      Lib.run_overlaps_apart w 22 4 26 Try.underlying22 4 Try.sizeOf26 ⟨vb, voff, none⟩ ⟨b, off + (i + m) * 4, none⟩ m vc lb cb hvb tA tB kA kB hsa hsb hkB hfa hfe]
    rfl
  have hdl : (cs.drop (i * 4)).length = (n - i) * 4 := by rw [List.length_drop, hcl]; omega
  have mixed : Try.prog.follows .mixedOrders = true := by kernel_rfl
  have hw1 : IntKind.i64.wrap ((i : Int) + (m : Int)) = (i : Int) + (m : Int) := by rw [IntKind.wrap_i64]; omega
  have hb1 : (0 : Int) ≤ (i : Int) + (m : Int) := by omega
  have hin : i ≤ n := by omega
  have htn : ((i : Int) + (m : Int)).toNat = i + m := by omega
  have hb2 : ¬ (c = i + m) := by omega
  have hb3 : (i : Int) ≤ (n : Int) + (m : Int) := by omega
  have hb4 : ¬ (c = i) := by omega
  have hcp1 : ∀ ty dc sc, (Builtin.copy_ #[22, 22] ty #[.slice (some ⟨b, off + (i + m) * 4, none⟩) (n + m - (i + m)) dc, .slice (some ⟨b, off + i * 4, none⟩) (n + m - i) sc]).run Try.prog w.drew = .ok (goInt (n - i : Nat)) (w.drew.setCells b (off + (i + m) * 4) (cs.drop (i * 4))) := fun ty dc sc => by
    have := run_copyK (P := Try.prog) w.drew 22 22 ty 26 b (off + (i + m) * 4) (n + m - (i + m)) dc ⟨b, off + i * 4, none⟩ (n + m - i) sc 4 (cs.drop (i * 4)) Try.underlying22 Try.sizeOf26 (by rw [hdl]; simp only [Nat.min_def]; split <;> omega)
      (fun j v hj => by rw [Addr.add_lit, Nat.add_assoc]; exact hcs (i * 4 + j) v (by rwa [List.getElem?_drop] at hj))
      (fun j hj => by rw [Nat.add_assoc]; exact hsp _ (by omega)) (fun j hj => by rw [Nat.add_assoc]; exact hfz _ (by omega)) (fun v hv => h1c v (List.mem_of_mem_drop hv))
    rw [this]
    congr 2
    simp only [Nat.min_def]; split <;> omega
  obtain ⟨W1, hW1⟩ : ∃ W1, W1 = w.drew.setCells b (off + (i + m) * 4) (cs.drop (i * 4)) := ⟨_, rfl⟩
  have hsp1 : ∀ k, k < (n + m) * 4 → (W1.cell? ⟨b, off + k, none⟩).isSome = true := fun k hk => by
    rw [hW1]
    exact isSome_setCells b _ _ _ (fun j hj => by rw [Nat.add_assoc]; exact hsp _ (by omega)) _ (hsp k hk)
  have hcp2 : ∀ (W : World), (∀ x, W.cell? x = W1.cell? x) → (∀ x, W.frozen? x = W1.frozen? x) → ∀ ty dc, (Builtin.copy_ #[22, 22] ty #[.slice (some ⟨b, off + i * 4, none⟩) (n + m - i) dc, .slice (some ⟨vb, voff, none⟩) m vc]).run Try.prog W = .ok (goInt (m : Nat)) (W.setCells b (off + i * 4) vs) := fun W hWc hWf ty dc => by
    have := run_copyK (P := Try.prog) W 22 22 ty 26 b (off + i * 4) (n + m - i) dc ⟨vb, voff, none⟩ m vc 4 vs Try.underlying22 Try.sizeOf26 (by rw [hvl]; simp only [Nat.min_def]; split <;> omega)
      (fun j v hj => by
        rw [Addr.add_lit, hWc, hW1, World.cell?_setCells_out b _ _ _ _ (fun h _ => absurd h hvb)]
        exact hvs j v hj)
      (fun j hj => by rw [hWc, Nat.add_assoc]; exact hsp1 _ (by omega)) (fun j hj => by rw [hWf, hW1, World.frozen?_setCells, Nat.add_assoc]; exact hfz _ (by omega)) h1v
    rw [this]
    congr 2
    simp only [Nat.min_def]; split <;> omega
  rw [← hW1] at hcp1
  go_enter Try.func35, Try.ntmps35
  go_wp2_with (simp only [hov])
  go_region_law_o (refine step_copy_runI rfl _ _ 22 22 rfl _ _ (by simp [Act.eval, Act.put]) (by simp [Act.eval, Act.put]) (hcp1 _ _ _) ?_)
  go_wp2_with (at_builtin; refine wpList_copy_runI _ rfl _ _ 22 22 rfl _ _ rfl rfl (hcp2 _ (fun _ => rfl) (fun _ => rfl) _ _) ?_)
  go_ret
  first | exact ⟨rfl, rfl⟩ | exact ⟨rfl, by rw [hW1]⟩

set_option maxHeartbeats 4000000 in
set_option maxRecDepth 100000 in
theorem insGrow (b off n c i vb voff m vc : Nat) (cs vs : List Value) (w : World) (hi : i < n) (hm : 0 < m) (hnc : n ≤ c) (hroom : c < n + m) (hbig : n + m ≤ 1000000000)
    (hcl : cs.length = n * 4) (hvl : vs.length = m * 4)
    (hcs : ∀ j v, cs[j]? = some v → w.cell? ⟨b, off + j, none⟩ = some v)
    (hvs : ∀ j v, vs[j]? = some v → w.cell? ⟨vb, voff + j, none⟩ = some v) (h1c : ∀ v ∈ cs, v.oneCell' = true) (h1v : ∀ v ∈ vs, v.oneCell' = true) (zv : Value) (hzv : Try.t26.zero = some zv) :
    Calls Try.prog 35 #[.slice (some ⟨b, off, none⟩) n c, .int .i64 i, .slice (some ⟨vb, voff, none⟩) m vc] w fun e w' =>
      e = .returned (.slice (some ⟨w.heap.size, 0, none⟩) (n + m) (grownCap w (n + m) c 26)) ∧
      w' = (((w.alloc (.cells ((cs.take (i * 4)).toArray ++ Builtin.zeroCells zv.cells (n + m - i) ++ Builtin.zeroCells zv.cells (grownCap w (n + m) c 26 - (n + m))) 26)).drew.setCells w.heap.size (i * 4) vs).drew).setCells w.heap.size ((i + m) * 4) (cs.drop (i * 4)) := by
  have mixed : Try.prog.follows .mixedOrders = true := by kernel_rfl
  obtain ⟨i0, hi0, hz0, hzs, hzb⟩ : ∃ i0, Try.prog.info? 26 = some i0 ∧ i0.zero = some zv ∧ i0.size = 4 ∧ i0.bytes = 32 := ⟨Try.t26, by kernel_rfl, hzv, by kernel_rfl, by kernel_rfl⟩
  have hz1 : ¬ ((m : Int) = 0) := by omega
  have hz2 : ¬ ((i : Int) = (n : Int)) := by omega
  have hz3 : (c : Int) < (n : Int) + (m : Int) := by omega
  have hbw : b < w.heap.size := block_lt_of_cell (hcs 0 _ (List.getElem?_eq_getElem (by omega)))
  have hvw : vb < w.heap.size := block_lt_of_cell (hvs 0 _ (List.getElem?_eq_getElem (by omega)))
  have hkk : (n : Int) + (m : Int) - (i : Int) = ((n + m - i : Nat) : Int) := by omega
  have hik : i + (n + m - i) = n + m := by omega
  have hold : (Builtin.firstCells i0.size i (.slice (some ⟨b, off, none⟩) i c)).run Try.prog w.drew = .ok (cs.take (i * 4)).toArray w.drew := by
    rw [hzs]
    exact run_firstCells_some w.drew 4 i ⟨b, off, none⟩ i c (cs.take (i * 4)) (by rw [List.length_take]; omega) (fun j v hj => by
      rw [Addr.add_lit]
      rw [List.getElem?_take] at hj
      split at hj
      · exact hcs j v hj
      · cases hj)
  have hrz : ∀ ty, (Builtin.append_ #[22, 3] ty #[.slice (some ⟨b, off, none⟩) i c, .int .i64 ((n : Int) + (m : Int) - (i : Int))]).run Try.prog w =
      .ok (.slice (some ⟨w.heap.size, 0, none⟩) (n + m) (grownCap w (n + m) c 26)) (w.drew.alloc (.cells ((cs.take (i * 4)).toArray ++ Builtin.zeroCells zv.cells (n + m - i) ++ Builtin.zeroCells zv.cells (grownCap w (n + m) c 26 - (n + m))) 26)) := fun ty => by
    have h := Lib.run_append_grow_zeros w 22 3 ty 26 i0 _ .i64 .i64 Try.underlying22 Try.underlying3 hi0 hz0 (some ⟨b, off, none⟩) i c (cs.take (i * 4)) hold (n + m - i) (by omega) (by omega) (by omega) (by omega) (by rw [hzb]; omega) (by
      rw [hzb, hik]
      have := Go.VL.nextcap_le (n + m) c hroom
      omega)
    rw [hik] at h
    rw [hkk]
    exact h
  obtain ⟨G, hG⟩ : ∃ G, G = grownCap w (n + m) c 26 := ⟨_, rfl⟩
  obtain ⟨ROW, hROW⟩ : ∃ ROW : Array Value, ROW = (cs.take (i * 4)).toArray ++ Builtin.zeroCells zv.cells (n + m - i) ++ Builtin.zeroCells zv.cells (G - (n + m)) := ⟨_, rfl⟩
  rw [← hG] at hrz ⊢
  rw [← hROW] at hrz ⊢
  have hzc : zv.cells.size = 4 := by
    have : Try.t26.zero = some zv → zv.cells.size = 4 := by
      intro h
      have h2 : (Try.t26.zero.map fun z => z.cells.size) = some 4 := by kernel_rfl
      rw [h] at h2
      simpa using h2
    exact this hzv
  have hRl : (n + m) * 4 ≤ ROW.size := by
    rw [hROW]
    simp only [Array.size_append, List.size_toArray, List.length_take, Go.VL.zeroCells_size, hzc]
    omega
  obtain ⟨W1, hW1⟩ : ∃ W1, W1 = w.drew.alloc (.cells ROW 26) := ⟨_, rfl⟩
  rw [← hW1] at hrz
  have hN : ∀ j, j < (n + m) * 4 → (W1.cell? ⟨w.heap.size, j, none⟩).isSome = true := fun j hj => by
    rw [hW1, World.cell?_alloc_at (w := w.drew) ROW _ w.heap.size j rfl, Array.getElem?_eq_getElem (by omega)]; rfl
  have hNf : ∀ j, W1.frozen? ⟨w.heap.size, j, none⟩ = false := fun j => by rw [hW1]; exact World.frozen?_alloc_at (w := w.drew) ROW _ w.heap.size j rfl
  have hOb : ∀ j v, w.cell? ⟨b, j, none⟩ = some v → W1.cell? ⟨b, j, none⟩ = some v := fun j v h => by rw [hW1, World.cell?_alloc_past (w := w.drew) _ b j hbw]; exact h
  have hOv : ∀ j v, w.cell? ⟨vb, j, none⟩ = some v → W1.cell? ⟨vb, j, none⟩ = some v := fun j v h => by rw [hW1, World.cell?_alloc_past (w := w.drew) _ vb j hvw]; exact h
  have hcpA : ∀ (W : World), (∀ x, W.cell? x = W1.cell? x) → (∀ x, W.frozen? x = W1.frozen? x) → ∀ ty dc, (Builtin.copy_ #[22, 22] ty #[.slice (some ⟨w.heap.size, i * 4, none⟩) (n + m - i) dc, .slice (some ⟨vb, voff, none⟩) m vc]).run Try.prog W = .ok (goInt (m : Nat)) (W.setCells w.heap.size (i * 4) vs) := fun W hWc hWf ty dc => by
    have := run_copyK (P := Try.prog) W 22 22 ty 26 w.heap.size (i * 4) (n + m - i) dc ⟨vb, voff, none⟩ m vc 4 vs Try.underlying22 Try.sizeOf26 (by rw [hvl]; simp only [Nat.min_def]; split <;> omega)
      (fun j v hj => by rw [Addr.add_lit, hWc]; exact hOv _ v (hvs j v hj))
      (fun j hj => by rw [hWc]; exact hN _ (by omega)) (fun j hj => by rw [hWf]; exact hNf _) h1v
    rw [this]
    congr 2
    simp only [Nat.min_def]; split <;> omega
  have hGn : n + m ≤ G := by rw [hG]; exact grownCap_ge w _ _ _
  have hG63 : G ≤ 9223372036854775807 := by
    have := grownCap_le_maxLen w (n + m) c 26 (by unfold maxLen; omega)
    rw [← hG] at this
    unfold maxLen at this
    omega
  have hGi : ¬ (G = i) := by omega
  have hGim : ¬ (G = i + m) := by omega
  have hci : ¬ (c = i) := by omega
  have hbN : b ≠ w.heap.size := by omega
  have hdl : (cs.drop (i * 4)).length = (n - i) * 4 := by rw [List.length_drop, hcl]; omega
  have hcpB : ∀ (W : World), (∀ x, W.cell? x = (W1.setCells w.heap.size (i * 4) vs).cell? x) → (∀ x, W.frozen? x = (W1.setCells w.heap.size (i * 4) vs).frozen? x) → ∀ ty dc sc, (Builtin.copy_ #[22, 22] ty #[.slice (some ⟨w.heap.size, (i + m) * 4, none⟩) (n + m - (i + m)) dc, .slice (some ⟨b, off + i * 4, none⟩) (n - i) sc]).run Try.prog W = .ok (goInt (n - i : Nat)) (W.setCells w.heap.size ((i + m) * 4) (cs.drop (i * 4))) := fun W hWc hWf ty dc sc => by
    have := run_copyK (P := Try.prog) W 22 22 ty 26 w.heap.size ((i + m) * 4) (n + m - (i + m)) dc ⟨b, off + i * 4, none⟩ (n - i) sc 4 (cs.drop (i * 4)) Try.underlying22 Try.sizeOf26 (by rw [hdl]; simp only [Nat.min_def]; split <;> omega)
      (fun j v hj => by
        rw [Addr.add_lit, hWc, World.cell?_setCells_out _ _ _ _ _ (fun h _ => absurd h hbN), Nat.add_assoc]
        exact hOb _ v (hcs (i * 4 + j) v (by rwa [List.getElem?_drop] at hj)))
      (fun j hj => by rw [hWc]; exact isSome_setCells _ _ _ _ (fun t ht => hN _ (by omega)) _ (hN _ (by omega)))
      (fun j hj => by rw [hWf, World.frozen?_setCells]; exact hNf _) (fun v hv => h1c v (List.mem_of_mem_drop hv))
    rw [this]
    congr 2
    simp only [Nat.min_def]; split <;> omega
  subst hW1
  have hE1 : ∀ x, ((w.alloc (.cells ROW 26)).drew).cell? x = (w.drew.alloc (.cells ROW 26)).cell? x := fun x => rfl
  have hE2 : ∀ x, ((w.alloc (.cells ROW 26)).drew).frozen? x = (w.drew.alloc (.cells ROW 26)).frozen? x := fun x => rfl
  have hF1 : ∀ x, (((w.alloc (.cells ROW 26)).drew.setCells w.heap.size (i * 4) vs).drew).cell? x = ((w.drew.alloc (.cells ROW 26)).setCells w.heap.size (i * 4) vs).cell? x := fun x => rfl
  have hF2 : ∀ x, (((w.alloc (.cells ROW 26)).drew.setCells w.heap.size (i * 4) vs).drew).frozen? x = ((w.drew.alloc (.cells ROW 26)).setCells w.heap.size (i * 4) vs).frozen? x := fun x => rfl
  have hw1 : IntKind.i64.wrap ((i : Int) + (m : Int)) = (i : Int) + (m : Int) := by rw [IntKind.wrap_i64]; omega
  have hb1 : (0 : Int) ≤ (i : Int) + (m : Int) := by omega
  have hin : i ≤ n := by omega
  have htn : ((i : Int) + (m : Int)).toNat = i + m := by omega
  have hb3 : (i : Int) ≤ (n : Int) := by omega
  clear hkk hik hold hROW hG hRl
  go_enter Try.func35, Try.ntmps35
  go_wp2_with (first
    | (at_builtin; refine Lib.wpList_append_run _ rfl _ _ _ _ rfl _ _ rfl rfl _ _ (hrz _) ?_)
    | (at_builtin; refine wpList_copy_runI _ rfl _ _ 22 22 rfl _ _ rfl rfl (hcpA _ hE1 hE2 _ _) ?_)
    | (at_builtin; refine wpList_copy_runI _ rfl _ _ 22 22 rfl _ _ rfl rfl (hcpB _ (fun _ => rfl) (fun _ => rfl) _ _ _) ?_))
  go_region_law_o (refine step_copy_runI rfl _ _ 22 22 rfl (.slice (some ⟨w.heap.size, (i + m) * 4, none⟩) (n + m - (i + m)) (G - (i + m))) (.slice (some ⟨b, off + i * 4, none⟩) (n - i) (c - i)) (by simp [Act.eval, Act.put]) (by simp [Act.eval, Act.put]) (hcpB _ hF1 hF2 3 (G - (i + m)) (c - i)) ?_)
  go_wp2
  go_ret
  exact ⟨rfl, rfl⟩
end Go.Proofs

namespace Go.Proofs
open Go.Shelf Go.RowKit Go.Lib Go.VL

section
variable {P : Program} {w : World}
theorem run_appK_room {t ty e : TypeId} {i : TypeInfo} (ht : P.underlying t = some (.slice e)) (hi : P.info? e = some i) {b off n c m : Nat} {y : Value} (hl : (Builtin.lenOf y).run P w = .ok m w)
    {xs : List Value} (hxs : (Builtin.firstCells i.size m y).run P w = .ok xs.toArray w) (hroom : n + m ≤ c) {w' : World} (hst : (storeCells ⟨b, off + n * i.size, none⟩ xs).run P w = .ok () w') :
    (Builtin.append_ #[t, t] ty #[.slice (some ⟨b, off, none⟩) n c, y]).run P w = .ok (.slice (some ⟨b, off, none⟩) (n + m) c) w' := by
  have hsz : szOf P e = some i.size := by simp [szOf, hi]
  simp [Builtin.append_, run_underlying ht, Go.VL.run_sizeOf hsz, hl, hxs, hroom, add_none, hst]
theorem run_appK_grow {t ty e : TypeId} {i : TypeInfo} {zv : Value} (ht : P.underlying t = some (.slice e)) (hi : P.info? e = some i) (hzv : i.zero = some zv) (hbytes : i.bytes ≤ 65536) {base : Option Addr} {n c m : Nat} {y : Value}
    (hl : (Builtin.lenOf y).run P w = .ok m w) {xs os : List Value} (hxs : (Builtin.firstCells i.size m y).run P w.drew = .ok xs.toArray w.drew) (hos : (Builtin.firstCells i.size n (.slice base n c)).run P w.drew = .ok os.toArray w.drew)
    (hroom : ¬ n + m ≤ c) (hbig : n + m ≤ 1073741824) :
    ∃ nc, n + m ≤ nc ∧ nc ≤ 9223372036854775807 ∧ ∀ ty, (Builtin.append_ #[t, t] ty #[.slice base n c, y]).run P w = .ok (.slice (some ⟨w.heap.size, 0, none⟩) (n + m) nc) (pushed w.drew (.cells (os.toArray ++ (xs.toArray ++ Builtin.zeroCells zv.cells (nc - (n + m)))) e)) := by
  have hsz : szOf P e = some i.size := by simp [szOf, hi]
  refine ⟨(Question.appendCap (n + m) c e).cut (w.tape w.drawn (.appendCap (n + m) c e)), by simp only [Question.cut]; omega, ?_, fun ty => ?_⟩
  · have := grownCap_le_maxLen w (n + m) c e (by unfold maxLen; omega)
    unfold grownCap maxLen at this
    exact this
  have hn := nextcap_le (n + m) c (by omega)
  have hb : ¬ (Builtin.nextslicecap (n + m) c * i.bytes > 2 ^ 48) := by
    have : Builtin.nextslicecap (n + m) c * i.bytes ≤ 4294967296 * 65536 := Nat.mul_le_mul (by omega) hbytes
    omega
  have hq : (Question.appendCap (n + m) c e).forced = false := rfl
  simp [Builtin.append_, run_underlying ht, Go.VL.run_sizeOf hsz, hl, hroom, Go.VL.run_typeInfo hi]
  have hm : ¬ (9223372036854775807 < (n : Int) + (m : Int) ∧ i.bytes = 0) := by omega
  have hb' : ¬ (281474976710656 < Builtin.nextslicecap (n + m) c * i.bytes) := by omega
  rw [if_neg hm, if_neg hb', hq]
  simp [hos, hxs, run_zeroValue hi hzv, newRow]
  rfl
end

set_option maxHeartbeats 4000000 in
set_option maxRecDepth 100000 in
theorem insEnd (base : Option Addr) (n c vb voff m vc : Nat) (w w' : World) (v' : Value) (hm : 0 < m) (hrun : ∀ ty, (Builtin.append_ #[22, 22] ty #[.slice base n c, .slice (some ⟨vb, voff, none⟩) m vc]).run Try.prog w = .ok v' w') :
    Calls Try.prog 35 #[.slice base n c, .int .i64 n, .slice (some ⟨vb, voff, none⟩) m vc] w fun e W => e = .returned v' ∧ W = w' := by
  have mixed : Try.prog.follows .mixedOrders = true := by kernel_rfl
  have hz1 : ¬ ((m : Int) = 0) := by omega
  go_enter Try.func35, Try.ntmps35
  cases base with
  | none =>
    go_wp2_with (at_builtin; refine Lib.wpList_append_run _ rfl _ _ _ _ rfl _ _ rfl rfl _ _ (hrun _) ?_)
    go_ret
    exact ⟨rfl, rfl⟩
  | some a =>
    obtain ⟨ab, ao, asp⟩ := a
    go_wp2_with (at_builtin; refine Lib.wpList_append_run _ rfl _ _ _ _ rfl _ _ rfl rfl _ _ (hrun _) ?_)
    all_goals (go_ret; exact ⟨rfl, rfl⟩)
end Go.Proofs

namespace Go.VL.rga
open Go Go.VL Go.Proofs Go.VL.row

section
variable {σ : St} {s : V} {es : List (List V)} {i r : Nat} {x : List V}
set_option maxHeartbeats 1000000 in
theorem ins_ok (hs : RowOf σ s 4 es) (hin : i ≤ es.length) (hlen : es.length ≤ 100000000) (hlive : σ.live[r]? = some true) (hx : x.length = 4) :
    CallA Try.prog 35 [s, .int .i64 i, .sl false (.own r) 4 [x]] σ fun v σ' => RowOf σ' v 4 (es.take i ++ x :: es.drop i) ∧ RowTo σ s σ' ∧ ∃ j cap, v = .osl j (es.length + 1) cap 4 ∧ ((∃ n' cap', s = .osl j n' cap' 4) ∨ σ.objs.length ≤ j) := by
  refine ⟨⟨Try.f35, Try.func35, rfl, by kernel_rfl⟩, fun γ w vs hi hr => ?_⟩
  simp only [RepL] at hr
  obtain ⟨v1, _, rfl, hv1, v2, _, rfl, hv2, v3, _, rfl, hv3, rfl⟩ := hr
  simp only [Rep] at hv2 hv3
  subst hv2
  obtain ⟨a, cap3, rfl, hsp, hcap3, hrho⟩ := hv3
  obtain ⟨vb, voff, sp⟩ := a
  simp only at hsp
  subst hsp
  obtain ⟨a', cap', e0, -, h3, h4, h5, h6, c3, e3, z3, vs3, h7, h8, h9, ⟨h10, h12⟩, h11⟩ := hi.own _ _ _ _ hlive hrho
  cases e0
  simp only [List.length_cons, List.length_nil, Nat.zero_add] at h3 h4 h5 h6 h7 h8 h10 h11 hcap3
  have hvl : vs3.length = 4 := by have := h9.length; simpa using this
  have hx3 : RepL γ x vs3 := by have := h9.flat.1; simpa using this
  have h1v := h9.one
  have hvs : ∀ (j : Nat) (v : Value), vs3[j]? = some v → w.cell? ⟨vb, voff + j, none⟩ = some v := fun j v hj => by rw [cell_of_heap h7]; exact h8 j v hj
  have hfr : ∀ (w' : World), w'.heap = w.heap → (Builtin.firstCells 4 1 (.slice (some ⟨vb, voff, none⟩) 1 cap3)).run Try.prog w' = .ok vs3.toArray w' := fun w' hw' => by
    have hc7 : w'.heap[vb]? = some (.cells c3 e3 z3) := by rw [hw']; exact h7
    simp only [Builtin.firstCells]
    rw [run_loadCells (P := Try.prog) (w := w') (vs := vs3) (fun j v hj => by rw [cell_of_heap hc7]; exact h8 j v hj) (by omega), List.take_of_length_le (by omega)]
  obtain ⟨zv, hzv⟩ : ∃ zv, Try.t26.zero = some zv := Option.isSome_iff_exists.1 (by kernel_rfl)
  have hi71 : Try.prog.info? 26 = some Try.t26 := by kernel_rfl
  have hsz71 : Try.t26.size = 4 := by kernel_rfl
  have hby71 : Try.t26.bytes ≤ 65536 := by decide +kernel
  have hl3 : (Builtin.lenOf (.slice (some ⟨vb, voff, none⟩) 1 cap3)).run Try.prog w = .ok 1 w := by simp [Builtin.lenOf]
  have hzc : zv.cells.size = 4 := by
    have h2 : (Try.t26.zero.map fun z => z.cells.size) = some 4 := by kernel_rfl
    rw [hzv] at h2
    simpa using h2
  -- a new block behind append
  have grow : ∀ (base : Option Addr) (cp : Nat) (os : List Value), i = es.length → (Builtin.firstCells 4 es.length (.slice base es.length cp)).run Try.prog w.drew = .ok os.toArray w.drew → RepL γ es.flatten os → (∀ v ∈ os, v.oneCell' = true) → (∀ y ∈ es, y.length = 4) → ¬ es.length + 1 ≤ cp →
      Calls Try.prog 35 #[.slice base es.length cp, .int .i64 i, .slice (some ⟨vb, voff, none⟩) 1 cap3] w fun e w' => ∃ v x' σ' γ', e = .returned v ∧ Le γ γ' ∧ INV γ' σ' w' ∧ Rep γ' x' v ∧ (RowOf σ' x' 4 (es.take i ++ x :: es.drop i) ∧ RowTo σ s σ' ∧ ∃ j cap, x' = .osl j (es.length + 1) cap 4 ∧ ((∃ n' cap', s = .osl j n' cap' 4) ∨ σ.objs.length ≤ j)) := by
    intro base cp os hie hos hros hone hz hroom
    subst hie
    obtain ⟨nc, hnc, hnc2, hrun⟩ := run_appK_grow (P := Try.prog) (w := w) (t := 22) (ty := 22) Try.underlying22 hi71 hzv hby71 hl3 (by rw [hsz71]; exact hfr _ rfl) (by rw [hsz71]; exact hos) hroom (by omega)
    refine (insEnd base es.length cp vb voff 1 cap3 w _ _ (by omega) hrun).mono ?_
    rintro e w' ⟨rfl, rfl⟩
    have hol := hros.length
    have hfl := flat_len' hz
    have hes : (es.take es.length ++ x :: es.drop es.length).flatten = es.flatten ++ x := by simp
    refine row_new (s := s) hi ((But.drew w).trans (.push w.drew _)) (heap_push w.drew _) (vs := os ++ vs3) (fun j v hj => ?_) (by rw [hes]; exact hros.append hx3) (fun v hv => ?_) ?_ (fun y hy => ?_) (by simp) hnc ?_
    · exact eq_prefix (r := (Builtin.zeroCells zv.cells (nc - (es.length + 1))).toList) (by simp) j v hj
    · rcases List.mem_append.1 hv with hv | hv
      · exact hone v hv
      · exact h1v v hv
    · refine ⟨?_, hnc2⟩
      simp only [Array.size_append, List.size_toArray, zeroCells_size, hzc]
      omega
    · simp only [List.take_length, List.drop_length, List.mem_append, List.mem_singleton] at hy
      rcases hy with hy | hy
      · exact hz y hy
      · rw [hy]; exact hx
    · rw [hes, List.length_append, hfl, hx]; omega
  rcases hs with ⟨R, q, rfl, rfl⟩ | ⟨j, cap, rfl, ho, hz, hcap⟩
  · simp only [Rep] at hv1
    obtain ⟨-, rfl⟩ := hv1
    have hi0 : i = 0 := by simpa using hin
    subst hi0
    exact grow none 0 [] rfl (by simp [Builtin.firstCells]) (by simp [RepL]) (by simp) (by simp) (by simp)
  simp only [Rep] at hv1
  obtain ⟨b, hb, rfl⟩ := hv1
  obtain ⟨p1, p2, vs, c, e, z, k1, k2, k3, k4, k5, k6, k7⟩ := hi.objs _ _ _ hb ho
  have hfl := flat_len' hz
  have hvsl : vs.length = es.length * 4 := by rw [← k3.length, hfl]
  have hold : (Builtin.firstCells 4 es.length (.slice (some ⟨b, 0, none⟩) es.length cap)).run Try.prog w.drew = .ok vs.toArray w.drew := by
    have hc7 : w.drew.heap[b]? = some (.cells c e z) := k1
    simp only [Builtin.firstCells]
    rw [run_loadCells (P := Try.prog) (w := w.drew) (vs := vs) (fun j v hj => by rw [cell_of_heap hc7, Nat.zero_add]; exact k2 j v hj) (by omega), List.take_of_length_le (by omega)]
  by_cases hie : i = es.length
  · by_cases hroom : es.length + 1 ≤ cap
    · subst hie
      obtain ⟨w', r1, r2, c', r3, r4⟩ := run_storeCells (P := Try.prog) vs3 w b (0 + es.length * Try.t26.size) 0 c e z k1 (by rw [hsz71]; omega) (fun q h1 h2 => k6 q (by rw [hsz71] at h2; omega)) h1v
      refine (insEnd (some ⟨b, 0, none⟩) es.length cap vb voff 1 cap3 w _ _ (by omega) fun ty => run_appK_room (P := Try.prog) (ty := ty) Try.underlying22 hi71 hl3 (by rw [hsz71]; exact hfr w rfl) hroom r1).mono ?_
      rintro e' W ⟨rfl, rfl⟩
      have hes : (es.take es.length ++ x :: es.drop es.length).flatten = es.flatten ++ x := by simp
      have hcv := prefix_eq k2
      rw [hsz71, Nat.zero_add, Nat.add_zero, ← hvsl] at r4
      have hpre : c'.toList = (vs ++ vs3) ++ c.toList.drop (vs.length + vs3.length) := by
        rw [r4]
        conv => lhs; rw [hcv]
        simp
        try rw [← hcv]
      have hsize : c'.size = c.size := by
        have := congrArg List.length r4
        simp only [Array.length_toList, List.length_append, List.length_take, List.length_drop] at this
        omega
      have hjl : j < σ.objs.length := (List.getElem?_eq_some_iff.1 ho).1
      refine row_set (n0 := es.length) hi hb hjl r2 r3 (vs := vs ++ vs3) (fun q v hq => eq_prefix hpre q v hq) (by rw [hes]; exact k3.append hx3) (fun v hv => ?_) ⟨by rw [hsize]; exact k4.1, k4.2⟩ k6 (fun y hy => ?_) (by simp) hroom ?_
      · rcases List.mem_append.1 hv with hv | hv
        · exact k7 v hv
        · exact h1v v hv
      · simp only [List.take_length, List.drop_length, List.mem_append, List.mem_singleton] at hy
        rcases hy with hy | hy
        · exact hz y hy
        · rw [hy]; exact hx
      · rw [hes, List.length_append, hfl, hx]; omega
    · exact grow (some ⟨b, 0, none⟩) cap vs hie hold k3 k7 hz hroom
  · have hlt : i < es.length := by omega
    have hbv : vb ≠ b := fun h => h6 (h ▸ mem_of_get hb)
    have hl13 : vs3.length = 1 * 4 := by omega
    have hfes : (es.take i ++ x :: es.drop i).flatten = es.flatten.take (i * 4) ++ x ++ es.flatten.drop (i * 4) := by
      rw [List.flatten_append, List.flatten_cons, flat_take i hz, flat_drop i hz, List.append_assoc]
    have hnes : (es.take i ++ x :: es.drop i).length = es.length + 1 := by simp; omega
    have hzes : ∀ y ∈ es.take i ++ x :: es.drop i, y.length = 4 := fun y hy => by
      rcases List.mem_append.1 hy with hy | hy
      · exact hz y (List.mem_of_mem_take hy)
      · rcases List.mem_cons.1 hy with hy | hy
        · rw [hy]; exact hx
        · exact hz y (List.mem_of_mem_drop hy)
    have hc0 : ∀ (q : Nat) (v : Value), vs[q]? = some v → w.cell? ⟨b, 0 + q, none⟩ = some v := fun q v hq => by rw [cell_of_heap k1, Nat.zero_add]; exact k2 q v hq
    by_cases hroom : es.length + 1 ≤ cap
    · have hcs : (es.length + 1) * 4 ≤ c.size := by have := k4.1; omega
      have hsh := insShift b 0 es.length cap i vb voff 1 cap3 vs vs3 w hlt (by omega) hroom k4.2 hbv hvsl hl13 hc0
        (fun q hq => by rw [cell_of_heap k1, Nat.zero_add, Array.getElem?_eq_getElem (by omega)]; rfl)
        (fun q hq => by have := k6 q (by omega); simp only [World.frozen?, k1, Nat.zero_add, Bool.and_eq_false_iff, decide_eq_false_iff_not]; omega)
        hvs k7 h1v e3 e c3.size c.size (by simp [World.shape?, h7]) (by simp [World.shape?, k1]) (by omega)
        (by have := h11 voff (by omega) (by omega); simp only [World.frozen?, h7, Bool.and_eq_false_iff, decide_eq_false_iff_not]; omega)
        (by have := h12.resolve_right (by decide); simp only [World.frozen?, h7, Bool.and_eq_false_iff, decide_eq_false_iff_not]; omega)
      refine hsh.mono ?_
      rintro e' W ⟨rfl, rfl⟩
      have hvd : (vs.drop (i * 4)).length = vs.length - i * 4 := List.length_drop
      obtain ⟨b1, c1, r1, r2⟩ := setCells_ok (vs.drop (i * 4)) w.drew b (0 + (i + 1) * 4) c e z k1 (by rw [hvd]; omega)
      have hs1 : c1.size = c.size := by
        have := congrArg List.length r2
        simp only [Array.length_toList, List.length_append, List.length_take, List.length_drop] at this
        omega
      obtain ⟨b2, c2, r3, r4⟩ := setCells_ok vs3 _ b (0 + i * 4) c1 e z r1 (by rw [hvl, hs1]; omega)
      have hs2 : c2.size = c.size := by
        have := congrArg List.length r4
        simp only [Array.length_toList, List.length_append, List.length_take, List.length_drop] at this
        omega
      have hcv := prefix_eq k2
      have hE := mid_eq (z := 4) (l := c.toList) (vs := vs) (x := vs3) hcv (i * 4) ((i + 1) * 4) (by omega) (by omega) (by simp only [Array.length_toList]; omega)
      rw [Nat.zero_add] at r2 r4
      rw [r2, show i * 4 + vs3.length = (i + 1) * 4 from by omega, hE] at r4
      have hjl : j < σ.objs.length := (List.getElem?_eq_some_iff.1 ho).1
      refine row_set (n0 := es.length) hi hb hjl (((But.drew w).some _).trans (b1.trans b2)) r3 (vs := vs.take (i * 4) ++ vs3 ++ vs.drop (i * 4)) (fun q v hq => eq_prefix r4 q v hq) (by rw [hfes]; exact (k3.take.append hx3).append k3.drop) (fun v hv => ?_) ⟨by rw [hs2]; exact k4.1, k4.2⟩ k6 hzes hnes hroom ?_
      · rcases List.mem_append.1 hv with hv | hv
        · rcases List.mem_append.1 hv with hv | hv
          · exact k7 v (List.mem_of_mem_take hv)
          · exact h1v v hv
        · exact k7 v (List.mem_of_mem_drop hv)
      · rw [hfes]; simp only [List.length_append, List.length_take, List.length_drop, hfl, hx]; omega
    · have hgr := insGrow b 0 es.length cap i vb voff 1 cap3 vs vs3 w hlt (by omega) hcap (by omega) (by omega) hvsl hl13 hc0 hvs k7 h1v zv hzv
      refine hgr.mono ?_
      rintro e' W ⟨rfl, rfl⟩
      have hG := grownCap_ge w (es.length + 1) cap 26
      have hG63 := grownCap_le_maxLen w (es.length + 1) cap 26 (by unfold maxLen; omega)
      unfold maxLen at hG63
      generalize grownCap w (es.length + 1) cap 26 = G at hG hG63
      obtain ⟨ROW, hROW⟩ : ∃ ROW : Array Value, ROW = (vs.take (i * 4)).toArray ++ Builtin.zeroCells zv.cells (es.length + 1 - i) ++ Builtin.zeroCells zv.cells (G - (es.length + 1)) := ⟨_, rfl⟩
      rw [← hROW]
      have hRs : ROW.size = G * 4 := by
        rw [hROW]
        simp only [Array.size_append, List.size_toArray, List.length_take, zeroCells_size, hzc]
        omega
      have hRt : ROW.toList.take (i * 4) = vs.take (i * 4) := by
        rw [hROW, Array.toList_append, Array.toList_append, List.append_assoc, List.take_append_of_le_length (by simp only [List.length_take]; omega), List.take_of_length_le (by simp only [List.length_take]; omega)]
      obtain ⟨b1, c1, r1, r2⟩ := setCells_ok vs3 (w.alloc (.cells ROW 26)).drew w.heap.size (i * 4) ROW 26 (0, 0) (heap_push w _) (by rw [hvl, hRs]; omega)
      have hs1 : c1.size = ROW.size := by
        have := congrArg List.length r2
        simp only [Array.length_toList, List.length_append, List.length_take, List.length_drop] at this
        omega
      have hvd : (vs.drop (i * 4)).length = vs.length - i * 4 := List.length_drop
      obtain ⟨b2, c2, r3, r4⟩ := setCells_ok (vs.drop (i * 4)) (((w.alloc (.cells ROW 26)).drew.setCells w.heap.size (i * 4) vs3).drew) w.heap.size ((i + 1) * 4) c1 26 (0, 0) r1 (by rw [hvd, hs1, hRs]; omega)
      have hs2 : c2.size = ROW.size := by
        have := congrArg List.length r4
        simp only [Array.length_toList, List.length_append, List.length_take, List.length_drop] at this
        omega
      rw [hRt] at r2
      have hT : c1.toList.take ((i + 1) * 4) = vs.take (i * 4) ++ vs3 := by
        rw [r2, List.take_append_of_le_length (by simp only [List.length_append, List.length_take]; omega), List.take_of_length_le (by simp only [List.length_append, List.length_take]; omega)]
      rw [hT] at r4
      have hbut : But none w ((((w.alloc (.cells ROW 26)).drew.setCells w.heap.size (i * 4) vs3).drew).setCells w.heap.size ((i + 1) * 4) (vs.drop (i * 4))) := by
        have h1 : But (some w.heap.size) w ((((w.alloc (.cells ROW 26)).drew.setCells w.heap.size (i * 4) vs3).drew).setCells w.heap.size ((i + 1) * 4) (vs.drop (i * 4))) :=
          (((But.push w _).trans (But.drew _)).some _).trans (b1.trans (((But.drew _).some _).trans b2))
        exact but_new h1
      refine row_new (s := .osl j es.length cap 4) hi hbut r3 (vs := vs.take (i * 4) ++ vs3 ++ vs.drop (i * 4)) (fun q v hq => eq_prefix r4 q v hq) (by rw [hfes]; exact (k3.take.append hx3).append k3.drop) (fun v hv => ?_) ⟨by rw [hs2, hRs]; exact Nat.le_refl _, hG63⟩ hzes hnes (by omega) ?_
      · rcases List.mem_append.1 hv with hv | hv
        · rcases List.mem_append.1 hv with hv | hv
          · exact k7 v (List.mem_of_mem_take hv)
          · exact h1v v hv
        · exact k7 v (List.mem_of_mem_drop hv)
      · rw [hfes]; simp only [List.length_append, List.length_take, List.length_drop, hfl, hx]; omega
end
end Go.VL.rga

namespace Go.VL.rga
open Go Go.VL Go.Proofs Go.IntWalk Go.VL.st Go.VL.row

/-- How many: a map's entries. -/
abbrev Nl := List (Sp × Nat)
def entsN (T : Nl) : List (V × V) := T.map fun x => (spV x.1, .int .i64 x.2)
def lookN (x : Sp) : Nl → Option Nat
  | [] => none
  | y :: T => bif decide (x = y.1) then some y.2 else lookN x T
def updN (x : Sp) (p : Nat) : Nl → Nl
  | [] => [(x, p)]
  | y :: T => bif decide (x = y.1) then (x, p) :: T else y :: updN x p T
theorem key_eq (a b : Sp) : V.eq (.agg [.int .i64 a.c, .int .i64 a.r]) (spV b) = decide (a = b) := by
  simp only [spV, spC, V.eq, sp_eqs]
theorem find_N (x : Sp) : ∀ T : Nl, find (.agg [.int .i64 x.c, .int .i64 x.r]) (entsN T) = (lookN x T).map fun n : Nat => V.int .i64 n
  | [] => rfl
  | y :: T => by
    have ih := find_N x T
    simp only [entsN] at ih
    simp only [entsN, List.map_cons, find, key_eq, lookN, ih]
    cases decide (x = y.1) <;> rfl
theorem upd_N (x : Sp) (p : Nat) : ∀ T : Nl, upd (.agg [.int .i64 x.c, .int .i64 x.r]) (.int .i64 p) (entsN T) = entsN (updN x p T)
  | [] => rfl
  | y :: T => by
    have ih := upd_N x p T
    simp only [entsN] at ih
    simp only [entsN, List.map_cons, upd, key_eq, updN, ih]
    cases decide (x = y.1) <;> rfl
theorem lookN_mem {x : Sp} : ∀ {T : Nl}, lookN x T = none ↔ x ∉ T.map (·.1)
  | [] => by simp [lookN]
  | y :: T => by
    simp only [lookN, List.map_cons, List.mem_cons, not_or]
    by_cases h : x = y.1
    · simp [h]
    · simp only [h, decide_false, cond_false, lookN_mem (T := T), not_false_eq_true, true_and]
theorem updN_keys (x : Sp) (p : Nat) : ∀ T : Nl, (updN x p T).map (·.1) = if x ∈ T.map (·.1) then T.map (·.1) else T.map (·.1) ++ [x]
  | [] => by simp [updN]
  | y :: T => by
    simp only [updN]
    by_cases h : x = y.1
    · simp [h]
    · simp only [h, decide_false, cond_false, List.map_cons, updN_keys x p T, List.mem_cons, false_or]
      split <;> simp
theorem updN_nd {x : Sp} {p : Nat} {T : Nl} (h : (T.map (·.1)).Nodup) : ((updN x p T).map (·.1)).Nodup := by
  rw [updN_keys]
  split
  · exact h
  · rename_i hx
    rw [List.nodup_append]
    refine ⟨h, by simp, fun a ha b hb e => hx ?_⟩
    rw [List.mem_singleton] at hb
    rw [← hb, ← e]; exact ha
theorem updN_look (x : Sp) (p : Nat) (z : Sp) : ∀ T : Nl, lookN z (updN x p T) = if z = x then some p else lookN z T
  | [] => by
    simp only [updN, lookN]
    by_cases h : z = x <;> simp [h]
  | y :: T => by
    simp only [updN]
    by_cases h : x = y.1
    · simp only [h, decide_true, cond_true, lookN]
      by_cases hz : z = y.1 <;> simp [hz]
    · simp only [h, decide_false, cond_false, lookN, updN_look x p z T]
      by_cases hz : z = y.1
      · have : z ≠ x := fun e => h (e ▸ hz)
        simp [hz, Ne.symm h]
      · simp [hz]
/-- With an entry made. -/
def addN (x : Sp) (T : Nl) : Nl := match lookN x T with
  | some _ => T
  | none => T ++ [(x, 0)]
theorem addE_N (x : Sp) (T : Nl) : Go.VL.addE (.agg [.int .i64 x.c, .int .i64 x.r]) (.int .i64 0) (entsN T) = entsN (addN x T) := by
  unfold Go.VL.addE addN
  rw [find_N]
  cases lookN x T with
  | some n => rfl
  | none => simp [entsN, spV, spC]
theorem lookN_app (x z : Sp) (n : Nat) : ∀ T : Nl, lookN z (T ++ [(x, n)]) = match lookN z T with
    | some m => some m
    | none => if z = x then some n else none
  | [] => by
    simp only [lookN, List.nil_append]
    by_cases h : z = x <;> simp [h]
  | y :: T => by
    simp only [List.cons_append, lookN, lookN_app x z n T]
    cases decide (z = y.1) <;> rfl
theorem addN_look (x z : Sp) (T : Nl) : (lookN z (addN x T)).getD 0 = (lookN z T).getD 0 := by
  unfold addN
  cases h : lookN x T with
  | some n => rfl
  | none =>
    simp only [lookN_app]
    cases hz : lookN z T with
    | some m => rfl
    | none => simp only; split <;> rfl
theorem updN_app {x : Sp} {p n : Nat} : ∀ {T : Nl}, lookN x T = none → updN x p (T ++ [(x, n)]) = updN x p T
  | [], _ => by simp [updN]
  | y :: T, h => by
    simp only [lookN] at h
    simp only [List.cons_append, updN]
    cases hd : decide (x = y.1)
    · rw [hd] at h
      simp only [cond_false] at h ⊢
      rw [updN_app h]
    · rw [hd] at h; cases h
theorem updN_addN (x : Sp) (p : Nat) (T : Nl) : updN x p (addN x T) = updN x p T := by
  unfold addN
  cases h : lookN x T with
  | some n => rfl
  | none => exact updN_app h
abbrev KL : List LK := [.agg, .int .i64, .int .i64]
/-- A map has how many. -/
def CntIs (σ : St) (m : Nat) (f : Sp → Nat) : Prop := ∃ T ver, σ.objs[m]? = some (.mp KL (entsN T) ver) ∧ (T.map (·.1)).Nodup ∧ ∀ x, (lookN x T).getD 0 = f x
theorem CntIs.find {σ : St} {m : Nat} {f : Sp → Nat} (h : CntIs σ m f) : ∃ es ver, σ.objs[m]? = some (.mp KL es ver) ∧ ∀ x : Sp, (find (.agg [.int .i64 x.c, .int .i64 x.r]) es).getD (.int .i64 0) = .int .i64 (f x) := by
  obtain ⟨T, ver, h1, h2, h3⟩ := h
  refine ⟨_, _, h1, fun x => ?_⟩
  rw [find_N, ← h3 x]
  cases lookN x T <;> rfl
def cntU (S : List Sl) (x : Sp) : Nat := (S.filter fun s => decide (s.u = x)).length
def cntH (S : List Sl) (x : Sp) : Nat := bif hasB S x then 1 else 0
theorem cntU_pos {S : List Sl} {x : Sp} : decide ((cntU S x : Int) > 0) = S.any fun s => decide (s.u = x) := by
  rw [Bool.eq_iff_iff, decide_eq_true_eq, List.any_eq_true]
  unfold cntU
  constructor
  · intro h
    have : 0 < (S.filter fun s => decide (s.u = x)).length := by omega
    obtain ⟨s, hs⟩ := List.exists_mem_of_length_pos this
    exact ⟨s, (List.mem_filter.1 hs).1, by simpa using (List.mem_filter.1 hs).2⟩
  · rintro ⟨s, hs, h⟩
    have := List.length_pos_of_mem ((List.mem_filter (p := fun s : Sl => decide (s.u = x))).2 ⟨hs, h⟩)
    omega
/-- A row in memory. -/
structure RowIs (σ : St) (i u k : Nat) (s : V) (O S : List Sl) : Prop where
  cells : σ.objs[i]? = some (.cells [s, .map (some u), .map (some k)])
  row : RowOf σ s 4 (slsV O)
  und : CntIs σ u (cntU S)
  has : CntIs σ k (cntH S)
  ne : u ≠ k
  fine : Fine S
  ord : Ord S O
/-- The objects that are a row's own. -/
def Own (i u k : Nat) (s : V) (j : Nat) : Prop := j = i ∨ j = u ∨ j = k ∨ ∃ n cap z, s = .osl j n cap z
theorem CntIs.up {P : Nat → Prop} {σ τ : St} {m : Nat} {f : Sp → Nat} (h : CntIs σ m f) (hu : UpdS P σ τ) (hm : ¬ P m) : CntIs τ m f := by
  obtain ⟨T, ver, h1, h2⟩ := h
  exact ⟨T, ver, hu.objs _ _ hm h1, h2⟩
theorem RowIs.up {P : Nat → Prop} {σ τ : St} {i u k : Nat} {s : V} {O S : List Sl} (h : RowIs σ i u k s O S) (hu : UpdS P σ τ) (hP : ∀ j, Own i u k s j → ¬ P j) : RowIs τ i u k s O S :=
  ⟨hu.objs _ _ (hP i (.inl rfl)) h.cells, rowOf_up h.row hu fun j n cap z e => hP j (.inr (.inr (.inr ⟨n, cap, z, e⟩))), h.und.up hu (hP u (.inr (.inl rfl))), h.has.up hu (hP k (.inr (.inr (.inl rfl)))), h.ne, h.fine, h.ord⟩
theorem RowIs.ext {σ τ : St} {i u k : Nat} {s : V} {O S : List Sl} (h : RowIs σ i u k s O S) (hu : Ext σ τ) : RowIs τ i u k s O S :=
  h.up (P := fun _ => False) (.of hu) fun _ _ h => h
theorem RowIs.len {σ : St} {i u k : Nat} {s : V} {O S : List Sl} (h : RowIs σ i u k s O S) : O.length = S.length := h.ord.len h.fine
/-- An element's cells in a row. -/
theorem row_drop {O : List Sl} {i : Nat} (hi : i < O.length) (o : Nat) (ho : o ≤ 4) : (slsV O).flatten.drop (i * 4 + o) = (slC O[i]).drop o ++ ((slsV O).drop (i + 1)).flatten := by
  have hl : i < (slsV O).length := by simpa [slsV] using hi
  obtain ⟨h1, h2⟩ := flat_split (slsV_len O) hl
  rw [h1, ← h2, List.drop_append, List.drop_of_length_le (by omega), Nat.add_sub_cancel_left, List.nil_append, show (slsV O)[i] = slC O[i] from by simp [slsV], List.drop_append_of_le_length (by simpa [slC] using ho)]
theorem row_drop0 {O : List Sl} {i : Nat} (hi : i < O.length) : (slsV O).flatten.drop (i * 4) = slC O[i] ++ ((slsV O).drop (i + 1)).flatten := row_drop hi 0 (by omega)
theorem hasB_ord {S O : List Sl} (h : Ord S O) (x : Sp) : hasB S x = decide (x ∈ stampsL O) := by
  rw [Bool.eq_iff_iff, hasB_iff, decide_eq_true_eq, stampsL, List.mem_map]
  constructor
  · rintro ⟨t, ht, e⟩; exact ⟨t, (h.mem t).2 ht, e⟩
  · rintro ⟨t, ht, e⟩; exact ⟨t, (h.mem t).1 ht, e⟩

section
variable {σ : St} {i u k j : Nat} {s : V} {O S : List Sl} {x : Sp} {t : Sl}
set_option maxRecDepth 100000 in
theorem new_ok : CallA Try.prog 22 [] σ fun v σ' => v = .ptr (some (σ.objs.length + 2, 0)) ∧ RowIs σ' (σ.objs.length + 2) σ.objs.length (σ.objs.length + 1) (.sl true .pub 0 []) [] [] ∧ Ext σ σ' ∧ σ'.live = σ.live := by
  refine fn_at Try.func22 (by decide) comp22 rfl fun Q q1 q2 => ?_
  simp -implicitDefEqProofs only [go_sem, Nat.reduceBEq, Nat.reduceAdd, c22, Nat.reduceLeDiff, Nat.zero_add]
  refine q2 _ _ ?_
  simp -implicitDefEqProofs only [go_sem, Nat.reduceBEq, Nat.reduceAdd]
  refine ⟨by simp, ⟨by simp, .inl ⟨_, _, rfl, rfl⟩, ⟨[], 0, by simp [entsN], by simp, fun _ => rfl⟩, ⟨[], 0, by simp [entsN], by simp, fun _ => rfl⟩, by omega, fine_nil, ord_nil⟩, ((ext_obj σ _).trans (ext_obj _ _)).trans (ext_obj _ _), trivial⟩
set_option maxRecDepth 100000 in
theorem len_ok (h : RowIs σ i u k s O S) : CallA Try.prog 25 [.ptr (some (i, 0))] σ fun v σ' => σ' = σ ∧ v = .int .i64 S.length := by
  have h1 := h.cells
  have hlen := h.len
  refine fn_at Try.func25 (by decide) comp25 rfl fun Q q1 q2 => ?_
  rw [← hlen] at q2
  rcases h.row with ⟨R, q, rfl, he⟩ | ⟨j, cap, rfl, hr, -, hc⟩
  · have hD : O = [] := by simpa [slsV] using he
    subst hD
    simp -implicitDefEqProofs only [go_sem, Nat.reduceBEq, Nat.reduceAdd, eq_self, true_and, and_true, and_self, List.getElem?_cons_zero, List.getElem?_cons_succ, Nat.reduceLeDiff, Nat.zero_add, Nat.reduceSub, Nat.le_refl, c25, h1]
    refine q2 _ _ ?_
    simp -implicitDefEqProofs only [go_sem, Nat.reduceBEq, Nat.reduceAdd, eq_self, true_and, and_true, and_self, List.getElem?_cons_zero, List.getElem?_cons_succ, Nat.reduceLeDiff, Nat.zero_add, Nat.reduceSub, Nat.le_refl, Nat.lt_irrefl]
    try simp
  · simp -implicitDefEqProofs only [go_sem, Nat.reduceBEq, Nat.reduceAdd, eq_self, true_and, and_true, and_self, List.getElem?_cons_zero, List.getElem?_cons_succ, Nat.reduceLeDiff, Nat.zero_add, Nat.reduceSub, Nat.le_refl, c25, h1, slsV_length]
    refine q2 _ _ ?_
    simp -implicitDefEqProofs only [go_sem, Nat.reduceBEq, Nat.reduceAdd, eq_self, true_and, and_true, and_self, List.getElem?_cons_zero, List.getElem?_cons_succ, Nat.reduceLeDiff, Nat.zero_add, Nat.reduceSub, Nat.le_refl, Nat.lt_irrefl]
    try simp
set_option maxRecDepth 100000 in
theorem has_ok (h : RowIs σ i u k s O S) : CallA Try.prog 15 [.ptr (some (i, 0)), spV x] σ fun v σ' => v = .bool (hasB S x) ∧ σ' = σ := by
  have h1 := h.cells
  obtain ⟨es, ver, h2, hf⟩ := h.has.find
  refine fn_at Try.func15 (by decide) comp15 rfl fun Q q1 q2 => ?_
  have hk : keyFits KL (.agg [.int .i64 x.c, .int .i64 x.r]) = true := rfl
  have hfx := hf x
  unfold cntH at hfx
  cases hb : hasB S x <;> rw [hb] at hfx q2
  all_goals
    simp only [cond_true, cond_false] at hfx
    cases hff : find (.agg [.int .i64 x.c, .int .i64 x.r]) es with
    | none =>
      rw [hff] at hfx
      simp -implicitDefEqProofs only [go_sem, Nat.reduceBEq, Nat.reduceAdd, eq_self, true_and, and_true, and_self, List.getElem?_cons_zero, List.getElem?_cons_succ, Nat.reduceLeDiff, Nat.zero_add, Nat.reduceSub, Nat.le_refl, c15, spV, spC, h1, h2, hk, hff]
      refine q2 _ _ ?_
      simp -implicitDefEqProofs only [go_sem, Nat.reduceBEq, Nat.reduceAdd, eq_self, true_and, and_true, and_self, List.getElem?_cons_zero, List.getElem?_cons_succ, Nat.reduceLeDiff, Nat.zero_add, Nat.reduceSub, Nat.le_refl, Nat.lt_irrefl]
      all_goals first | (first | exact ⟨trivial, trivial⟩ | exact ⟨trivial, rfl⟩ | exact ⟨rfl, rfl⟩ | exact ⟨rfl, trivial⟩ | trivial) | exact absurd hfx (by simp)
    | some w =>
      rw [hff] at hfx
      simp only [Option.getD_some] at hfx
      subst hfx
      simp -implicitDefEqProofs only [go_sem, Nat.reduceBEq, Nat.reduceAdd, eq_self, true_and, and_true, and_self, List.getElem?_cons_zero, List.getElem?_cons_succ, Nat.reduceLeDiff, Nat.zero_add, Nat.reduceSub, Nat.le_refl, c15, spV, spC, h1, h2, hk, hff]
      refine q2 _ _ ?_
      simp -implicitDefEqProofs only [go_sem, Nat.reduceBEq, Nat.reduceAdd, eq_self, true_and, and_true, and_self, List.getElem?_cons_zero, List.getElem?_cons_succ, Nat.reduceLeDiff, Nat.zero_add, Nat.reduceSub, Nat.le_refl, Nat.lt_irrefl]
      try first | exact ⟨trivial, trivial⟩ | exact ⟨trivial, rfl⟩ | exact ⟨rfl, rfl⟩ | exact ⟨rfl, trivial⟩ | trivial
set_option maxRecDepth 100000 in
theorem has_nil : CallA Try.prog 15 [.ptr none, spV x] σ fun v σ' => v = .bool false ∧ σ' = σ := by
  refine fn_at Try.func15 (by decide) comp15 rfl fun Q q1 q2 => ?_
  simp -implicitDefEqProofs only [go_sem, Nat.reduceBEq, Nat.reduceAdd, eq_self, true_and, and_true, and_self, List.getElem?_cons_zero, List.getElem?_cons_succ, Nat.reduceLeDiff, Nat.zero_add, Nat.reduceSub, Nat.le_refl, c15, spV, spC]
  refine q2 _ _ ?_
  simp -implicitDefEqProofs only [go_sem, Nat.reduceBEq, Nat.reduceAdd, eq_self, true_and, and_true, and_self, List.getElem?_cons_zero, List.getElem?_cons_succ, Nat.reduceLeDiff, Nat.zero_add, Nat.reduceSub, Nat.le_refl, Nat.lt_irrefl]
  try first | exact ⟨trivial, trivial⟩ | exact ⟨trivial, rfl⟩ | exact ⟨rfl, rfl⟩ | exact ⟨rfl, trivial⟩ | trivial
set_option maxRecDepth 100000 in
theorem isat_ok (ho : σ.objs[j]? = some (.cells (spC x))) : CallA Try.prog 42 [slV t, .ptr (some (j, 0))] σ fun v σ' => v = .bool (decide (t.a = x)) ∧ σ' = σ := by
  refine fn_at Try.func42 (by decide) comp42 rfl fun Q q1 q2 => ?_
  simp only [spC] at ho
  simp -implicitDefEqProofs only [go_sem, Nat.reduceBEq, Nat.reduceAdd, eq_self, true_and, and_true, and_self, List.getElem?_cons_zero, List.getElem?_cons_succ, Nat.reduceLeDiff, Nat.zero_add, Nat.reduceSub, Nat.le_refl, c42, slV, slC, ho, sp_eqs]
  refine q2 _ _ ?_
  simp -implicitDefEqProofs only [go_sem, Nat.reduceBEq, Nat.reduceAdd, eq_self, true_and, and_true, and_self, List.getElem?_cons_zero, List.getElem?_cons_succ, Nat.reduceLeDiff, Nat.zero_add, Nat.reduceSub, Nat.le_refl, Nat.lt_irrefl]
  try first | exact ⟨trivial, trivial⟩ | exact ⟨trivial, rfl⟩ | exact ⟨rfl, rfl⟩ | exact ⟨rfl, trivial⟩ | trivial
set_option maxHeartbeats 1600000 in
set_option maxRecDepth 100000 in
theorem index_ok (hr : RowOf σ s 4 (slsV O)) (hn : O.length ≤ 1000000) (hx : σ.objs[j]? = some (.cells (spC x))) :
    CallA Try.prog 41 [s, .fn 42 [.ptr (some (j, 0))]] σ fun w σ' => IsAt x (stampsL O) w ∧ σ' = σ := by
  refine fn_at Try.func41 (by decide) comp41 rfl fun Q q1 q2 => ?_
  rcases hr with ⟨R, q, rfl, he⟩ | ⟨j', cap, rfl, ho, -, hc⟩
  · have hD : O = [] := by simpa [slsV] using he
    subst hD
    simp -implicitDefEqProofs only [go_sem, Nat.reduceBEq, Nat.reduceAdd, eq_self, true_and, and_true, and_self, List.getElem?_cons_zero, List.getElem?_cons_succ, Nat.reduceLeDiff, Nat.zero_add, Nat.reduceSub, Nat.le_refl, c41]
    refine loop_at (fun (_ : Unit) => ⟨[(7, .v (.int .i64 0)), (8, .v (.int .i64 0))], []⟩) (fun _ τ => τ = σ) (fun _ => 0) () ?_ ?_ ?_
    · refine .inr ?_
      simp -implicitDefEqProofs only [go_sem, Nat.reduceBEq, Nat.reduceAdd, eq_self, true_and, and_true, and_self, List.getElem?_cons_zero, List.getElem?_cons_succ, Nat.reduceLeDiff, Nat.zero_add, Nat.reduceSub, Nat.le_refl, Nat.lt_irrefl]
      try trivial
      try simp
    · rfl
    rintro u τ rfl Z z1 z2 z3
    have h0 : decide ((0 : Int) < 0) = false := by decide
    simp -implicitDefEqProofs only [go_sem, Nat.reduceBEq, Nat.reduceAdd, eq_self, true_and, and_true, and_self, List.getElem?_cons_zero, List.getElem?_cons_succ, Nat.reduceLeDiff, Nat.zero_add, Nat.reduceSub, Nat.le_refl, h0]
    refine z2 _ _ _ ?_
    simp -implicitDefEqProofs only [go_sem, Nat.reduceBEq, Nat.reduceAdd, eq_self, true_and, and_true, and_self, List.getElem?_cons_zero, List.getElem?_cons_succ, Nat.reduceLeDiff, Nat.zero_add, Nat.reduceSub, Nat.le_refl, Nat.lt_irrefl]
    refine q2 _ _ ?_
    simp -implicitDefEqProofs only [go_sem, Nat.reduceBEq, Nat.reduceAdd, eq_self, true_and, and_true, and_self, List.getElem?_cons_zero, List.getElem?_cons_succ, Nat.reduceLeDiff, Nat.zero_add, Nat.reduceSub, Nat.le_refl, Nat.lt_irrefl]
    exact .inl ⟨by simp [stampsL], rfl⟩
  have hlm : (slsV O).length = O.length := slsV_length O
  simp -implicitDefEqProofs only [go_sem, Nat.reduceBEq, Nat.reduceAdd, eq_self, true_and, and_true, and_self, List.getElem?_cons_zero, List.getElem?_cons_succ, Nat.reduceLeDiff, Nat.zero_add, Nat.reduceSub, Nat.le_refl, c41]
  refine loop_at (fun (y : Nat) => ⟨[(0, .v (.osl j' (slsV O).length cap 4)), (1, .v (.fn 42 [.ptr (some (j, 0))])), (7, .v (.int .i64 O.length)), (8, .v (.int .i64 y))], []⟩)
    (fun y τ => y ≤ O.length ∧ τ = σ ∧ x ∉ stampsL (O.take y)) (fun y => O.length - y) 0 ?_ ?_ ?_
  · refine .inr ?_
    simp -implicitDefEqProofs only [go_sem, Nat.reduceBEq, Nat.reduceAdd, eq_self, true_and, and_true, and_self, List.getElem?_cons_zero, List.getElem?_cons_succ, Nat.reduceLeDiff, Nat.zero_add, Nat.reduceSub, Nat.le_refl, hlm]
    try trivial
    try simp
  · exact ⟨Nat.zero_le _, rfl, by simp [stampsL]⟩
  rintro y τ ⟨g1, hτ, g3⟩ Z z1 z2 z3
  have hτ := hτ.symm
  subst hτ
  simp -implicitDefEqProofs only [go_sem, Nat.reduceBEq, Nat.reduceAdd, eq_self, true_and, and_true, and_self, List.getElem?_cons_zero, List.getElem?_cons_succ, Nat.reduceLeDiff, Nat.zero_add, Nat.reduceSub, Nat.le_refl, Nat.lt_irrefl]
  refine CondW_b (fun hcc => ?_) (fun hcc => ?_)
  · have hi : y < O.length := by simpa using hcc
    have hget := row_drop0 hi
    have hb : (y : Int) < (slsV O).length := by rw [hlm]; omega
    have hw : IntKind.i64.wrap ((y : Int) + 1) = ((y + 1 : Nat) : Int) := by rw [i64_in _ (by omega)]; omega
    have hsl : (stampsL O).length = O.length := by simp [stampsL]
    have hsg : (stampsL O)[y]'(by omega) = O[y].a := by simp [stampsL]
    have hst : stampsL (O.take y) = (stampsL O).take y := by simp [stampsL, List.map_take]
    have hst1 : stampsL (O.take (y + 1)) = stampsL (O.take y) ++ [O[y].a] := by rw [List.take_succ_eq_append_getElem hi, stampsL, List.map_append]; rfl
    generalize O[y] = d at *
    simp -implicitDefEqProofs only [go_sem, Nat.reduceBEq, Nat.reduceAdd, eq_self, true_and, and_true, and_self, List.getElem?_cons_zero, List.getElem?_cons_succ, Nat.reduceLeDiff, Nat.zero_add, Nat.reduceSub, Nat.le_refl, ho, hget, Int.toNat_natCast, Nat.add_zero, slC]
    refine ⟨⟨by omega, hb⟩, ?_⟩
    refine call_at (isat_ok (t := d) hx) ?_
    rintro v τ' ⟨rfl, rfl⟩
    refine ⟨(Ext.refl _).kept, ?_⟩
    cases hd : decide (d.a = x)
    · have hne := of_decide_eq_false hd
      simp -implicitDefEqProofs only [go_sem, Nat.reduceBEq, Nat.reduceAdd, eq_self, true_and, and_true, and_self, List.getElem?_cons_zero, List.getElem?_cons_succ, Nat.reduceLeDiff, Nat.zero_add, Nat.reduceSub, Nat.le_refl, hd, hw]
      refine z1 (y + 1) _ _ (.inr ?_) (by omega) ⟨by omega, rfl, ?_⟩
      · simp -implicitDefEqProofs only [go_sem, Nat.reduceBEq, Nat.reduceAdd, eq_self, true_and, and_true, and_self, List.getElem?_cons_zero, List.getElem?_cons_succ, Nat.reduceLeDiff, Nat.zero_add, Nat.reduceSub, Nat.le_refl, Nat.lt_irrefl]
        try trivial
      · rw [hst1]
        simp only [List.mem_append, List.mem_singleton, not_or]
        exact ⟨g3, Ne.symm hne⟩
    · have hne := of_decide_eq_true hd
      simp -implicitDefEqProofs only [go_sem, Nat.reduceBEq, Nat.reduceAdd, eq_self, true_and, and_true, and_self, List.getElem?_cons_zero, List.getElem?_cons_succ, Nat.reduceLeDiff, Nat.zero_add, Nat.reduceSub, Nat.le_refl, hd]
      refine z3 _ _ ?_
      simp -implicitDefEqProofs only [go_sem, Nat.reduceBEq, Nat.reduceAdd, eq_self, true_and, and_true, and_self, List.getElem?_cons_zero, List.getElem?_cons_succ, Nat.reduceLeDiff, Nat.zero_add, Nat.reduceSub, Nat.le_refl, Nat.lt_irrefl]
      refine q2 _ _ ?_
      simp -implicitDefEqProofs only [go_sem, Nat.reduceBEq, Nat.reduceAdd, eq_self, true_and, and_true, and_self, List.getElem?_cons_zero, List.getElem?_cons_succ, Nat.reduceLeDiff, Nat.zero_add, Nat.reduceSub, Nat.le_refl, Nat.lt_irrefl]
      exact .inr ⟨y, by omega, hsg.trans hne, by rw [← hst]; exact g3, rfl⟩
  · have hi : ¬ y < O.length := by simpa using hcc
    rw [List.take_of_length_le (by omega)] at g3
    simp -implicitDefEqProofs only [go_sem, Nat.reduceBEq, Nat.reduceAdd, eq_self, true_and, and_true, and_self, List.getElem?_cons_zero, List.getElem?_cons_succ, Nat.reduceLeDiff, Nat.zero_add, Nat.reduceSub, Nat.le_refl, Nat.lt_irrefl]
    refine z2 _ _ _ ?_
    simp -implicitDefEqProofs only [go_sem, Nat.reduceBEq, Nat.reduceAdd, eq_self, true_and, and_true, and_self, List.getElem?_cons_zero, List.getElem?_cons_succ, Nat.reduceLeDiff, Nat.zero_add, Nat.reduceSub, Nat.le_refl, Nat.lt_irrefl]
    refine q2 _ _ ?_
    simp -implicitDefEqProofs only [go_sem, Nat.reduceBEq, Nat.reduceAdd, eq_self, true_and, and_true, and_self, List.getElem?_cons_zero, List.getElem?_cons_succ, Nat.reduceLeDiff, Nat.zero_add, Nat.reduceSub, Nat.le_refl, Nat.lt_irrefl]
    exact .inl ⟨g3, rfl⟩
set_option maxRecDepth 100000 in
theorem place_ok (h : RowIs σ i u k s O S) (hn : S.length ≤ 1000000) : CallA Try.prog 33 [.ptr (some (i, 0)), spV x] σ fun w σ' => IsAt x (stampsL O) w ∧ Ext σ σ' ∧ σ'.live = σ.live := by
  have hlen := h.len
  refine fn_at Try.func33 (by decide) comp33 rfl fun Q q1 q2 => ?_
  have he := ext_obj σ (.cells (spC x))
  have h := h.ext he
  have h1 := h.cells
  have h2 : (σ.objs ++ [AObj.cells (spC x)])[σ.objs.length]? = some (.cells (spC x)) := by simp
  simp only [spC] at h1 he
  simp -implicitDefEqProofs only [go_sem, Nat.reduceBEq, Nat.reduceAdd, eq_self, true_and, and_true, and_self, List.getElem?_cons_zero, List.getElem?_cons_succ, Nat.reduceLeDiff, Nat.zero_add, Nat.reduceSub, Nat.le_refl, c33, spV, spC, h1]
  refine call_at (index_ok (x := x) h.row (by omega) h2) ?_
  rintro v τ ⟨hv, rfl⟩
  refine ⟨kept_none, ?_⟩
  simp -implicitDefEqProofs only [go_sem, Nat.reduceBEq, Nat.reduceAdd, eq_self, true_and, and_true, and_self, List.getElem?_cons_zero, List.getElem?_cons_succ, Nat.reduceLeDiff, Nat.zero_add, Nat.reduceSub, Nat.le_refl, Nat.lt_irrefl]
  refine q2 _ _ ?_
  simp -implicitDefEqProofs only [go_sem, Nat.reduceBEq, Nat.reduceAdd, eq_self, true_and, and_true, and_self, List.getElem?_cons_zero, List.getElem?_cons_succ, Nat.reduceLeDiff, Nat.zero_add, Nat.reduceSub, Nat.le_refl, Nat.lt_irrefl]
  exact ⟨hv, he⟩
end
end Go.VL.rga

namespace Go.VL.rga
open Go Go.VL Go.Proofs Go.IntWalk Go.VL.st Go.VL.row

/-- An owned slice, new since. -/
def OwnS (n : Nat) (τ : St) (w : V) (z : Nat) (es : List (List V)) : Prop := ∃ q, w = .sl false (.own q) z es ∧ τ.live[q]? = some true ∧ n ≤ q
theorem OwnS.rd {n z : Nat} {τ : St} {w : V} {es : List (List V)} (h : OwnS n τ w z es) : RdS τ w z es := by
  obtain ⟨q, rfl, h1, h2⟩ := h
  exact ⟨false, .own q, z, rfl, by simp, .inr ⟨h1, rfl⟩⟩
theorem stampsV (l : List Sl) : spsV (stampsL l) = l.map fun s => spC s.a := by simp [spsV, stampsL]
theorem stamps_len (l : List Sl) : (stampsL l).length = l.length := by simp [stampsL]

theorem snocInd {α : Type} {p : List α → Prop} (h0 : p []) (h1 : ∀ l a, p l → p (l ++ [a])) : ∀ l, p l := by
  have : ∀ n l, List.length l = n → p l := by
    intro n
    induction n with
    | zero => intro l hl; rw [List.length_eq_zero_iff.1 hl]; exact h0
    | succ n ih =>
      intro l hl
      rcases List.eq_nil_or_concat l with rfl | ⟨r, a, rfl⟩
      · exact h0
      · rw [List.concat_eq_append] at hl ⊢
        rw [List.length_append, List.length_singleton] at hl
        exact h1 _ _ (ih _ (by omega))
  exact fun l => this _ l rfl
/-- What is put in its place. -/
def putK (s : Sl) : List Sl → Bool → List Sl
  | [], d => bif d then [] else [s]
  | x :: r, d => bif !d && less x.a s.a then s :: x :: putK s r true else x :: putK s r d
theorem putK_true (s : Sl) : ∀ L : List Sl, putK s L true = L
  | [] => rfl
  | x :: L => by simp [putK, putK_true s L]
theorem putK_mem {s y : Sl} : ∀ {L : List Sl}, y ∈ putK s L false ↔ y = s ∨ y ∈ L
  | [] => by simp [putK]
  | x :: L => by
    simp only [putK, Bool.not_false, Bool.true_and]
    cases less x.a s.a
    · simp only [cond_false, List.mem_cons, putK_mem (L := L)]
      constructor
      · rintro (h | h | h)
        · exact .inr (.inl h)
        · exact .inl h
        · exact .inr (.inr h)
      · rintro (h | h | h)
        · exact .inr (.inl h)
        · exact .inl h
        · exact .inr (.inr h)
    · simp only [cond_true, List.mem_cons, putK_true]
theorem putK_len (s : Sl) : ∀ L : List Sl, (putK s L false).length = L.length + 1
  | [] => rfl
  | x :: L => by
    simp only [putK, Bool.not_false, Bool.true_and]
    cases less x.a s.a
    · simp [putK_len s L]
    · simp [putK_true]
theorem putK_desc {s : Sl} : ∀ {L : List Sl}, (L.Pairwise fun s t => less t.a s.a = true) → (∀ y ∈ L, y.a ≠ s.a) → (putK s L false).Pairwise fun s t => less t.a s.a = true
  | [], _, _ => by simp [putK]
  | x :: L, h, hn => by
    obtain ⟨h1, h2⟩ := List.pairwise_cons.1 h
    simp only [putK, Bool.not_false, Bool.true_and, putK_true]
    cases hx : less x.a s.a
    · rw [cond_false]
      refine List.pairwise_cons.2 ⟨fun z hz => ?_, putK_desc h2 fun y hy => hn y (by simp [hy])⟩
      rcases putK_mem.1 hz with rfl | hz
      · exact less_of hx (hn x (by simp))
      · exact h1 z hz
    · rw [cond_true]
      refine List.pairwise_cons.2 ⟨fun z hz => ?_, h⟩
      rcases List.mem_cons.1 hz with rfl | hz
      · exact hx
      · exact less_trans (h1 z hz) hx
def undL (S : List Sl) (x : Sp) (L : List Sl) : List Sl := L.foldl (fun out s => bif decide (upS S s = x) then putK s out false else out) []
theorem undL_step {S L : List Sl} {x : Sp} {i : Nat} (hi : i < L.length) : undL S x (L.take (i + 1)) = bif decide (upS S L[i] = x) then putK L[i] (undL S x (L.take i)) false else undL S x (L.take i) := by
  rw [List.take_succ_eq_append_getElem hi, undL, List.foldl_append]; rfl
theorem undL_snoc {S L : List Sl} {x : Sp} (s : Sl) : undL S x (L ++ [s]) = bif decide (upS S s = x) then putK s (undL S x L) false else undL S x L := by
  rw [undL, List.foldl_append]; rfl
theorem undL_len (S : List Sl) (x : Sp) (L : List Sl) : (undL S x L).length ≤ L.length := by
  refine snocInd (p := fun L => (undL S x L).length ≤ L.length) ?_ ?_ L
  · exact Nat.le_refl _
  · intro L s ih
    rw [undL_snoc]
    cases decide (upS S s = x)
    · simp; omega
    · rw [cond_true, putK_len]; simp; omega
theorem undL_mem {S : List Sl} {x : Sp} {L : List Sl} {t : Sl} : t ∈ undL S x L ↔ t ∈ L ∧ upS S t = x := by
  refine snocInd (p := fun L => t ∈ undL S x L ↔ t ∈ L ∧ upS S t = x) ?_ ?_ L
  · simp [undL]
  · intro L s ih
    rw [undL_snoc]
    cases h : decide (upS S s = x)
    · have h := of_decide_eq_false h
      rw [cond_false, ih]
      simp only [List.mem_append, List.mem_singleton]
      constructor
      · rintro ⟨h1, h2⟩; exact ⟨.inl h1, h2⟩
      · rintro ⟨h1 | rfl, h2⟩
        · exact ⟨h1, h2⟩
        · exact absurd h2 h
    · have h := of_decide_eq_true h
      rw [cond_true, putK_mem, ih]
      simp only [List.mem_append, List.mem_singleton]
      constructor
      · rintro (rfl | ⟨h1, h2⟩)
        · exact ⟨.inr rfl, h⟩
        · exact ⟨.inl h1, h2⟩
      · rintro ⟨h1 | rfl, h2⟩
        · exact .inr ⟨h1, h2⟩
        · exact .inl rfl
theorem undL_desc {S : List Sl} {x : Sp} {L : List Sl} (hn : (L.map (·.a)).Nodup) : (undL S x L).Pairwise fun s t => less t.a s.a = true := by
  revert hn
  refine snocInd (p := fun L => (L.map (·.a)).Nodup → (undL S x L).Pairwise fun s t => less t.a s.a = true) ?_ ?_ L
  · exact fun _ => .nil
  · intro L s ih hn
    rw [List.map_append, List.nodup_append] at hn
    rw [undL_snoc]
    cases h : decide (upS S s = x)
    · exact ih hn.1
    · refine putK_desc (ih hn.1) fun y hy e => ?_
      exact hn.2.2 y.a (List.mem_map.2 ⟨y, (undL_mem.1 hy).1, rfl⟩) s.a (by simp) e
theorem undL_kids {S : List Sl} (hS : Fine S) (x : Sp) : Kids S x (undL S x S) := ⟨undL_desc hS.nd, fun _ => undL_mem⟩
section
variable {σ : St} {l : List Sl} {v : V} {x : Sp} {s : Sl}
set_option maxRecDepth 100000 in
set_option maxHeartbeats 1600000 in
theorem stamps_ok (hv : RdS σ v 4 (slsV l)) (hl : l.length ≤ 1000000) :
    CallA Try.prog 26 [v] σ fun w σ' => OwnS σ.live.length σ' w 2 (spsV (stampsL l)) ∧ Ext σ σ' ∧ σ'.objs = σ.objs := by
  obtain ⟨b, RR, z, rfl, -, -⟩ := id hv
  refine fn_at Try.func26 (by decide) comp26 rfl fun Q q1 q2 => ?_
  simp -implicitDefEqProofs only [go_sem, Nat.reduceBEq, Nat.reduceAdd, eq_self, true_and, and_true, and_self, List.getElem?_cons_zero, List.getElem?_cons_succ, Nat.reduceLeDiff, Nat.zero_add, Nat.reduceSub, Nat.le_refl, c26]
  refine loop_at (fun (x : Nat × Nat) => ⟨[(0, .v (.sl b RR z (slsV l))), (3, .v (.sl false (.own x.2) 2 (spsV (stampsL (l.take x.1))))), (4, .v (.int .i64 x.1))], []⟩)
    (fun x τ' => x.1 ≤ l.length ∧ Ext σ τ' ∧ τ'.objs = σ.objs ∧ τ'.live[x.2]? = some true ∧ σ.live.length ≤ x.2) (fun x => l.length - x.1) (0, σ.live.length) ?_ ?_ ?_
  · exact .inr (by simp [go_sem, spsV, stampsL])
  · exact ⟨Nat.zero_le _, ext_live σ true, rfl, live_last _ _, Nat.le_refl _⟩
  rintro ⟨i, q⟩ τ' ⟨g1, g2, g3, g4, g5⟩ Z z1 z2 z3
  simp only at g1 g4 g5
  have hsz : (spsV (stampsL (l.take i))).length ≤ 1000000 := by rw [spsV_length, stamps_len, List.length_take]; omega
  simp -implicitDefEqProofs only [go_sem, Nat.reduceBEq, Nat.reduceAdd, eq_self, true_and, and_true, and_self, List.getElem?_cons_zero, List.getElem?_cons_succ, Nat.reduceLeDiff, Nat.zero_add, Nat.reduceSub, Nat.le_refl, Nat.lt_irrefl]
  refine CondW_b (fun hcc => ?_) (fun hcc => ?_)
  · have hi : i < l.length := by simpa [slsV_length] using hcc
    obtain ⟨k1, k2⟩ := rdl (hv.ext g2) (by cases l <;> simp [slsV] at hi ⊢)
    have hget := slsV_get hi
    have hib : (i : Int) < (slsV l).length := by rw [slsV_length]; omega
    have hw64 : IntKind.i64.wrap ((i : Int) + 1) = ((i + 1 : Nat) : Int) := by rw [i64_in _ (by omega)]; omega
    have hst : spsV (stampsL (l.take (i + 1))) = spsV (stampsL (l.take i)) ++ [spC l[i].a] := by rw [List.take_succ_eq_append_getElem hi, stampsL, List.map_append, spsV, List.map_append]; rfl
    simp -implicitDefEqProofs only [go_sem, Nat.reduceBEq, Nat.reduceAdd, eq_self, true_and, and_true, and_self, List.getElem?_cons_zero, List.getElem?_cons_succ, Nat.reduceLeDiff, Nat.zero_add, Nat.reduceSub, Nat.le_refl, hget, slC]
    refine ⟨⟨by omega, hib, k2⟩, k1, ?_⟩
    refine ⟨⟨.inr trivial, .inr ((ext_live _ _).live _ g4), ⟨.inr (live_last _ _), .inl trivial⟩, by omega⟩, ?_⟩
    simp -implicitDefEqProofs only [go_sem, Nat.reduceBEq, Nat.reduceAdd, eq_self, true_and, and_true, and_self, List.getElem?_cons_zero, List.getElem?_cons_succ, Nat.reduceLeDiff, Nat.zero_add, Nat.reduceSub, Nat.le_refl, hw64]
    refine z1 (i + 1, _) _ _ (.inr ?_) (by simp only; omega) ⟨by simp only; omega, ext_kill (ext_push g2) g5, g3, live_last' _ _ _, by have := g2.llen; simp only [List.length_append, List.length_cons, List.length_nil]; omega⟩
    simp -implicitDefEqProofs only [go_sem, Nat.reduceBEq, Nat.reduceAdd, eq_self, true_and, and_true, and_self, List.getElem?_cons_zero, List.getElem?_cons_succ, Nat.reduceLeDiff, Nat.zero_add, Nat.reduceSub, Nat.le_refl, hst, spC]
    try trivial
  · have hi : ¬ i < l.length := by simpa [slsV_length] using hcc
    rw [List.take_of_length_le (by omega)]
    simp -implicitDefEqProofs only [go_sem, Nat.reduceBEq, Nat.reduceAdd, eq_self, true_and, and_true, and_self, List.getElem?_cons_zero, List.getElem?_cons_succ, Nat.reduceLeDiff, Nat.zero_add, Nat.reduceSub, Nat.le_refl, Nat.lt_irrefl]
    refine z2 _ _ _ ?_
    simp -implicitDefEqProofs only [go_sem, Nat.reduceBEq, Nat.reduceAdd, eq_self, true_and, and_true, and_self, List.getElem?_cons_zero, List.getElem?_cons_succ, Nat.reduceLeDiff, Nat.zero_add, Nat.reduceSub, Nat.le_refl, Nat.lt_irrefl]
    refine q2 _ _ ?_
    simp -implicitDefEqProofs only [go_sem, Nat.reduceBEq, Nat.reduceAdd, eq_self, true_and, and_true, and_self, List.getElem?_cons_zero, List.getElem?_cons_succ, Nat.reduceLeDiff, Nat.zero_add, Nat.reduceSub, Nat.le_refl, Nat.lt_irrefl]
    exact ⟨⟨q, rfl, g4, g5⟩, g2, g3⟩
set_option maxRecDepth 100000 in
set_option maxHeartbeats 1600000 in
theorem radd_ok (hv : RdS σ v 4 (slsV l)) (hl : l.length ≤ 1000000) :
    CallA Try.prog 24 [v, slV s] σ fun w σ' => (∃ x, w = .tup [x, .int .i64 (addE l s)] ∧ RdS σ' x 4 (slsV (addW l s))) ∧ Ext σ σ' ∧ σ'.objs = σ.objs := by
  obtain ⟨b, R, z, rfl, -, -⟩ := id hv
  refine fn_at Try.func24 (by decide) comp24 rfl fun Q q1 q2 => ?_
  have hz := rd_z hv
  simp -implicitDefEqProofs only [go_sem, Nat.reduceBEq, Nat.reduceAdd, eq_self, true_and, and_true, and_self, List.getElem?_cons_zero, List.getElem?_cons_succ, Nat.reduceLeDiff, Nat.zero_add, Nat.reduceSub, Nat.le_refl, c24, slV, slC]
  refine call_at (rslot_ok (t := s)) ?_
  rintro v τ ⟨rfl, rfl⟩
  refine ⟨kept_none, ?_⟩
  unfold addE addW at q2
  cases h1 : okS s <;> rw [h1] at q2
  · simp -implicitDefEqProofs only [go_sem, Nat.reduceBEq, Nat.reduceAdd, eq_self, true_and, and_true, and_self, List.getElem?_cons_zero, List.getElem?_cons_succ, Nat.reduceLeDiff, Nat.zero_add, Nat.reduceSub, Nat.le_refl, h1]
    refine q2 _ _ ?_
    simp -implicitDefEqProofs only [go_sem, Nat.reduceBEq, Nat.reduceAdd, eq_self, true_and, and_true, and_self, List.getElem?_cons_zero, List.getElem?_cons_succ, Nat.reduceLeDiff, Nat.zero_add, Nat.reduceSub, Nat.le_refl, Nat.lt_irrefl]
    exact ⟨⟨_, rfl, hv⟩, .refl _⟩
  simp -implicitDefEqProofs only [go_sem, Nat.reduceBEq, Nat.reduceAdd, eq_self, true_and, and_true, and_self, List.getElem?_cons_zero, List.getElem?_cons_succ, Nat.reduceLeDiff, Nat.zero_add, Nat.reduceSub, Nat.le_refl, h1]
  refine call_at (rhas_ok (x := s.a) hv hl) ?_
  rintro v τ ⟨rfl, rfl⟩
  refine ⟨kept_none, ?_⟩
  cases h2 : hasB l s.a <;> rw [h2] at q2
  case true =>
    simp -implicitDefEqProofs only [go_sem, Nat.reduceBEq, Nat.reduceAdd, eq_self, true_and, and_true, and_self, List.getElem?_cons_zero, List.getElem?_cons_succ, Nat.reduceLeDiff, Nat.zero_add, Nat.reduceSub, Nat.le_refl, h2]
    refine q2 _ _ ?_
    simp -implicitDefEqProofs only [go_sem, Nat.reduceBEq, Nat.reduceAdd, eq_self, true_and, and_true, and_self, List.getElem?_cons_zero, List.getElem?_cons_succ, Nat.reduceLeDiff, Nat.zero_add, Nat.reduceSub, Nat.le_refl, Nat.lt_irrefl]
    exact ⟨⟨_, rfl, hv⟩, .refl _⟩
  simp -implicitDefEqProofs only [go_sem, Nat.reduceBEq, Nat.reduceAdd, eq_self, true_and, and_true, and_self, List.getElem?_cons_zero, List.getElem?_cons_succ, Nat.reduceLeDiff, Nat.zero_add, Nat.reduceSub, Nat.le_refl, h2]
  have hz' : z = 4 ∨ slsV l = [] := hz.elim (fun hb => .inr (by subst hb; exact hv.nil_of)) .inl
  have hrd : b = true ∨ rd (τ.live ++ [true]) R := by
    obtain ⟨b', r', s', e, h3, h4⟩ := hv.ext (ext_live τ true)
    cases e
    exact h4.imp_right (·.1)
  refine ⟨⟨.inr trivial, .inr (live_last _ _), ⟨hrd, hz'⟩, by rw [slsV_length]; omega⟩, ⟨.inr trivial, .inr ?_, ⟨.inr (live_last _ _), .inl trivial⟩, by rw [slsV_length]; omega⟩, ?_⟩
  · exact (ext_live ⟨τ.objs, (τ.live ++ [true]).set τ.live.length false ++ [true]⟩ true).live _ (live_last' _ _ _)
  have e1 : Ext τ ⟨τ.objs, (τ.live ++ [true]).set τ.live.length false ++ [true]⟩ := ext_kill (ext_push (.refl τ)) (Nat.le_refl _)
  refine q2 _ _ ?_
  simp -implicitDefEqProofs only [go_sem, Nat.reduceBEq, Nat.reduceAdd, eq_self, true_and, and_true, and_self, List.getElem?_cons_zero, List.getElem?_cons_succ, Nat.reduceLeDiff, Nat.zero_add, Nat.reduceSub, Nat.le_refl, Nat.lt_irrefl]
  refine ⟨⟨_, rfl, ?_⟩, ext_kill (ext_push e1) (by simp)⟩
  have e : slsV (l ++ [s]) = slsV l ++ [slC s] := by simp [slsV]
  show RdS _ _ 4 (slsV (l ++ [s]))
  rw [e]
  exact OwnS.rd (n := 0) ⟨_, rfl, live_last' _ _ _, Nat.zero_le _⟩
set_option maxRecDepth 100000 in
set_option maxHeartbeats 6400000 in
theorem under_ok (hv : RdS σ v 4 (slsV l)) (hl : l.length ≤ 1000) :
    CallA Try.prog 49 [v, spV x] σ fun w σ' => OwnS σ.live.length σ' w 4 (slsV (undL l x l)) ∧ Ext σ σ' ∧ σ'.objs = σ.objs := by
  obtain ⟨b, RR, z, rfl, -, -⟩ := id hv
  refine fn_at Try.func49 (by decide) comp49 rfl fun Q q1 q2 => ?_
  simp -implicitDefEqProofs only [go_sem, Nat.reduceBEq, Nat.reduceAdd, eq_self, true_and, and_true, and_self, List.getElem?_cons_zero, List.getElem?_cons_succ, Nat.reduceLeDiff, Nat.zero_add, Nat.reduceSub, Nat.le_refl, c49, spV, spC]
  refine loop_at (fun (y : Nat × Nat) => ⟨[(0, .v (.sl b RR z (slsV l))), (3, .loc 3 0), (5, .v (.sl false (.own y.2) 4 (slsV (undL l x (l.take y.1))))), (6, .v (.int .i64 y.1))], [(3, spC x)]⟩)
    (fun y τ' => y.1 ≤ l.length ∧ Ext σ τ' ∧ τ'.objs = σ.objs ∧ τ'.live[y.2]? = some true ∧ σ.live.length ≤ y.2) (fun y => l.length - y.1) (0, σ.live.length) ?_ ?_ ?_
  · exact .inr (by simp [go_sem, slsV, undL, spC])
  · exact ⟨Nat.zero_le _, ext_live σ true, rfl, live_last _ _, Nat.le_refl _⟩
  rintro ⟨i, q⟩ τ' ⟨g1, g2, g3, g4, g5⟩ Z z1 z2 z3
  simp only at g1 g4 g5
  simp -implicitDefEqProofs only [go_sem, Nat.reduceBEq, Nat.reduceAdd, eq_self, true_and, and_true, and_self, List.getElem?_cons_zero, List.getElem?_cons_succ, Nat.reduceLeDiff, Nat.zero_add, Nat.reduceSub, Nat.le_refl, spC]
  refine CondW_b (fun hcc => ?_) (fun hcc => ?_)
  case refine_2 =>
    have hi : ¬ i < l.length := by simpa [slsV_length] using hcc
    rw [List.take_of_length_le (by omega)]
    simp -implicitDefEqProofs only [go_sem, Nat.reduceBEq, Nat.reduceAdd, eq_self, true_and, and_true, and_self, List.getElem?_cons_zero, List.getElem?_cons_succ, Nat.reduceLeDiff, Nat.zero_add, Nat.reduceSub, Nat.le_refl, Nat.lt_irrefl]
    refine z2 _ _ _ ?_
    simp -implicitDefEqProofs only [go_sem, Nat.reduceBEq, Nat.reduceAdd, eq_self, true_and, and_true, and_self, List.getElem?_cons_zero, List.getElem?_cons_succ, Nat.reduceLeDiff, Nat.zero_add, Nat.reduceSub, Nat.le_refl, Nat.lt_irrefl]
    refine q2 _ _ ?_
    simp -implicitDefEqProofs only [go_sem, Nat.reduceBEq, Nat.reduceAdd, eq_self, true_and, and_true, and_self, List.getElem?_cons_zero, List.getElem?_cons_succ, Nat.reduceLeDiff, Nat.zero_add, Nat.reduceSub, Nat.le_refl, Nat.lt_irrefl]
    exact ⟨⟨q, rfl, g4, g5⟩, g2, g3⟩
  have hi : i < l.length := by simpa [slsV_length] using hcc
  obtain ⟨k1, k2⟩ := rdl (hv.ext g2) (by cases l <;> simp [slsV] at hi ⊢)
  have hget := slsV_get hi
  have hib : (i : Int) < (slsV l).length := by rw [slsV_length]; omega
  have hw64 : IntKind.i64.wrap ((i : Int) + 1) = ((i + 1 : Nat) : Int) := by rw [i64_in _ (by omega)]; omega
  have hst := undL_step (S := l) (x := x) hi
  have hol : (undL l x (l.take i)).length ≤ i := Nat.le_trans (undL_len _ _ _) (by rw [List.length_take]; omega)
  have next : ∀ (F : Fr) (q' : Nat) (τ2 : St) (out : List Sl), out = undL l x (l.take (i + 1)) →
      FrLe ⟨[(0, .v (.sl b RR z (slsV l))), (3, .loc 3 0), (5, .v (.sl false (.own q') 4 (slsV out))), (6, .v (.int .i64 ((i + 1 : Nat) : Int)))], [(3, spC x)]⟩ F →
      Ext σ τ2 → τ2.objs = σ.objs → τ2.live[q']? = some true → σ.live.length ≤ q' → Z .normal F τ2 := by
    rintro F q' τ2 out rfl hF h1 h2 h3 h4
    exact z1 (i + 1, q') F τ2 hF (by simp only; omega) ⟨by simp only; omega, h1, h2, h3, h4⟩
  refine cut_dup ?_
  generalize hos : undL l x (l.take i) = out at *
  generalize hs : l[i] = s at *
  have hget0 : ∀ live, rd live RR → True := fun _ _ => trivial
  simp -implicitDefEqProofs only [go_sem, Nat.reduceBEq, Nat.reduceAdd, eq_self, true_and, and_true, and_self, List.getElem?_cons_zero, List.getElem?_cons_succ, Nat.reduceLeDiff, Nat.zero_add, Nat.reduceSub, Nat.le_refl, hget, slC]
  refine ⟨⟨by omega, hib, k2⟩, k1, ?_⟩
  refine call_at (up_ok (s := s) (hv.ext g2) (by omega)) ?_
  rintro v τ1 ⟨rfl, rfl⟩
  refine ⟨(Ext.refl _).kept, ?_⟩
  cases hup : decide (upS l s = x)
  · rw [hup, cond_false] at hst
    simp -implicitDefEqProofs only [go_sem, Nat.reduceBEq, Nat.reduceAdd, eq_self, true_and, and_true, and_self, List.getElem?_cons_zero, List.getElem?_cons_succ, Nat.reduceLeDiff, Nat.zero_add, Nat.reduceSub, Nat.le_refl, spV, spC, sp_eqs, hup, hw64]
    refine next _ q _ out hst.symm (.inr ?_) g2 g3 g4 g5
    simp -implicitDefEqProofs only [go_sem, Nat.reduceBEq, Nat.reduceAdd, eq_self, true_and, and_true, and_self, List.getElem?_cons_zero, List.getElem?_cons_succ, Nat.reduceLeDiff, Nat.zero_add, Nat.reduceSub, Nat.le_refl, spC]
    try trivial
  rw [hup, cond_true] at hst
  simp -implicitDefEqProofs only [go_sem, Nat.reduceBEq, Nat.reduceAdd, eq_self, true_and, and_true, and_self, List.getElem?_cons_zero, List.getElem?_cons_succ, Nat.reduceLeDiff, Nat.zero_add, Nat.reduceSub, Nat.le_refl, spV, spC, sp_eqs, hup]
  refine loop_at (fun (y : Nat × Nat × List Sl × Bool) => ⟨[(0, .v (.sl b RR z (slsV l))), (3, .loc 3 0), (5, .v (.sl false (.own q) 4 (slsV out))), (6, .v (.int .i64 i)), (7, .v (.sl false (.own y.2.1) 4 (slsV y.2.2.1))), (8, .v (.bool y.2.2.2)), (9, .v (.int .i64 y.1))], [(3, spC x)]⟩)
    (fun y τ2 => y.1 ≤ out.length ∧ Ext τ1 τ2 ∧ τ2.objs = σ.objs ∧ τ2.live[y.2.1]? = some true ∧ τ1.live.length ≤ y.2.1 ∧ y.2.2.1 ++ putK s (out.drop y.1) y.2.2.2 = putK s out false ∧ y.2.2.1.length ≤ 2 * y.1) (fun y => out.length - y.1) (0, τ1.live.length, [], false) ?_ ?_ ?_
  · exact .inr (by simp [go_sem, slsV, spC])
  · exact ⟨Nat.zero_le _, ext_live τ1 true, g3, live_last _ _, Nat.le_refl _, rfl, Nat.le_refl _⟩
  rintro ⟨k, p, nx, d⟩ τ2 ⟨j1, j2, j3, j4, j5, j6, j7⟩ Y y1 y2 y3
  simp only at j1 j4 j5 j6 j7
  have hrd := (hv.ext g2).ext j2
  have k3 := rdl hrd (by cases l <;> simp [slsV] at hi ⊢)
  have hsz : (slsV nx).length ≤ 2000002 := by rw [slsV_length]; omega
  have n1 : τ1.live.length ≤ (τ2.live ++ [true]).length := by have := j2.llen; simp only [List.length_append, List.length_cons, List.length_nil]; omega
  have e1 := ext_kill (b := true) (ext_push (b := true) j2) j5
  have l1 : (St.mk τ2.objs (kill (τ2.live ++ [true]) (.own p) ++ [true])).live[(τ2.live ++ [true]).length]? = some true := live_last' _ _ _
  simp -implicitDefEqProofs only [go_sem, Nat.reduceBEq, Nat.reduceAdd, eq_self, true_and, and_true, and_self, List.getElem?_cons_zero, List.getElem?_cons_succ, Nat.reduceLeDiff, Nat.zero_add, Nat.reduceSub, Nat.le_refl, spC]
  refine CondW_b (fun hcc => ?_) (fun hcc => ?_)
  · have hk : k < out.length := by simpa [slsV_length] using hcc
    have hget2 := slsV_get hk
    have hkb : (k : Int) < (slsV out).length := by rw [slsV_length]; omega
    have hw64k : IntKind.i64.wrap ((k : Int) + 1) = ((k + 1 : Nat) : Int) := by rw [i64_in _ (by omega)]; omega
    have hq : τ2.live[q]? = some true := j2.live _ g4
    rw [List.drop_eq_getElem_cons hk] at j6
    generalize out[k] = y at hget2 j6
    simp only [putK] at j6
    have ynext : ∀ (F : Fr) (p' : Nat) (τ3 : St) (nx' : List Sl) (d' : Bool), nx' ++ putK s (out.drop (k + 1)) d' = putK s out false → nx'.length ≤ nx.length + 2 →
        FrLe ⟨[(0, .v (.sl b RR z (slsV l))), (3, .loc 3 0), (5, .v (.sl false (.own q) 4 (slsV out))), (6, .v (.int .i64 i)), (7, .v (.sl false (.own p') 4 (slsV nx'))), (8, .v (.bool d')), (9, .v (.int .i64 ((k + 1 : Nat) : Int)))], [(3, spC x)]⟩ F →
        Ext τ1 τ3 → τ3.objs = σ.objs → τ3.live[p']? = some true → τ1.live.length ≤ p' → Y .normal F τ3 := by
      intro F p' τ3 nx' d' hp hlen hF h1 h2 h3 h4
      exact y1 (k + 1, p', nx', d') F τ3 hF (by simp only; omega) ⟨by simp only; omega, h1, h2, h3, h4, hp, by simp only; omega⟩
    simp -implicitDefEqProofs only [go_sem, Nat.reduceBEq, Nat.reduceAdd, eq_self, true_and, and_true, and_self, List.getElem?_cons_zero, List.getElem?_cons_succ, Nat.reduceLeDiff, Nat.zero_add, Nat.reduceSub, Nat.le_refl, Nat.lt_irrefl]
    refine cut_dup ?_
    cases d
    case true =>
      rw [Bool.not_true, Bool.false_and, cond_false] at j6
      simp -implicitDefEqProofs only [go_sem, Nat.reduceBEq, Nat.reduceAdd, eq_self, true_and, and_true, and_self, List.getElem?_cons_zero, List.getElem?_cons_succ, Nat.reduceLeDiff, Nat.zero_add, Nat.reduceSub, Nat.le_refl, hget2, slC]
      refine ⟨⟨by omega, hkb⟩, hq, ?_⟩
      refine ⟨⟨.inr trivial, .inr ((ext_live _ _).live _ j4), ⟨.inr (live_last _ _), .inl trivial⟩, by omega⟩, ?_⟩
      simp -implicitDefEqProofs only [go_sem, Nat.reduceBEq, Nat.reduceAdd, eq_self, true_and, and_true, and_self, List.getElem?_cons_zero, List.getElem?_cons_succ, Nat.reduceLeDiff, Nat.zero_add, Nat.reduceSub, Nat.le_refl, hw64k]
      refine ynext _ _ _ (nx ++ [y]) true (by rw [List.append_assoc]; exact j6) (by simp) (.inr ?_) e1 j3 l1 n1
      simp -implicitDefEqProofs only [go_sem, Nat.reduceBEq, Nat.reduceAdd, eq_self, true_and, and_true, and_self, List.getElem?_cons_zero, List.getElem?_cons_succ, Nat.reduceLeDiff, Nat.zero_add, Nat.reduceSub, Nat.le_refl, slC, spC, slsV, List.map_append, List.map_cons, List.map_nil]
      try trivial
    case false =>
      simp -implicitDefEqProofs only [go_sem, Nat.reduceBEq, Nat.reduceAdd, eq_self, true_and, and_true, and_self, List.getElem?_cons_zero, List.getElem?_cons_succ, Nat.reduceLeDiff, Nat.zero_add, Nat.reduceSub, Nat.le_refl, hget2, hget, slC]
      refine ⟨⟨by omega, hkb⟩, hq, ⟨by omega, hib, k2⟩, k3.1, ?_⟩
      refine call_at (rless_ok (a := y.a) (b := s.a)) ?_
      rintro v τ4 ⟨rfl, rfl⟩
      refine ⟨(Ext.refl _).kept, ?_⟩
      cases hls : less y.a s.a
      · rw [hls, Bool.not_false, Bool.true_and, cond_false] at j6
        simp -implicitDefEqProofs only [go_sem, Nat.reduceBEq, Nat.reduceAdd, eq_self, true_and, and_true, and_self, List.getElem?_cons_zero, List.getElem?_cons_succ, Nat.reduceLeDiff, Nat.zero_add, Nat.reduceSub, Nat.le_refl, hls, hget2, slC]
        refine ⟨⟨by omega, hkb⟩, hq, ?_⟩
        refine ⟨⟨.inr trivial, .inr ((ext_live _ _).live _ j4), ⟨.inr (live_last _ _), .inl trivial⟩, by omega⟩, ?_⟩
        simp -implicitDefEqProofs only [go_sem, Nat.reduceBEq, Nat.reduceAdd, eq_self, true_and, and_true, and_self, List.getElem?_cons_zero, List.getElem?_cons_succ, Nat.reduceLeDiff, Nat.zero_add, Nat.reduceSub, Nat.le_refl, hw64k]
        refine ynext _ _ _ (nx ++ [y]) false (by rw [List.append_assoc]; exact j6) (by simp) (.inr ?_) e1 j3 l1 n1
        simp -implicitDefEqProofs only [go_sem, Nat.reduceBEq, Nat.reduceAdd, eq_self, true_and, and_true, and_self, List.getElem?_cons_zero, List.getElem?_cons_succ, Nat.reduceLeDiff, Nat.zero_add, Nat.reduceSub, Nat.le_refl, slC, spC, slsV, List.map_append, List.map_cons, List.map_nil]
        try trivial
      · rw [hls, Bool.not_false, Bool.true_and, cond_true] at j6
        simp -implicitDefEqProofs only [go_sem, Nat.reduceBEq, Nat.reduceAdd, eq_self, true_and, and_true, and_self, List.getElem?_cons_zero, List.getElem?_cons_succ, Nat.reduceLeDiff, Nat.zero_add, Nat.reduceSub, Nat.le_refl, hls, hget, slC]
        have k5 := rdl (((hv.ext g2).ext e1)) (by cases l <;> simp [slsV] at hi ⊢)
        refine ⟨⟨by omega, hib, k2⟩, k3.1, ?_⟩
        refine ⟨⟨.inr trivial, .inr ((ext_live _ _).live _ j4), ⟨.inr (live_last _ _), .inl trivial⟩, by omega⟩, ?_⟩
        simp -implicitDefEqProofs only [go_sem, Nat.reduceBEq, Nat.reduceAdd, eq_self, true_and, and_true, and_self, List.getElem?_cons_zero, List.getElem?_cons_succ, Nat.reduceLeDiff, Nat.zero_add, Nat.reduceSub, Nat.le_refl, hget2, slC]
        refine ⟨⟨by omega, hkb⟩, e1.live _ g4, ?_⟩
        refine ⟨⟨.inr trivial, .inr ((ext_live _ _).live _ l1), ⟨.inr (live_last _ _), .inl trivial⟩, by first | omega | (simp only [List.length_append, List.length_cons, List.length_nil]; omega)⟩, ?_⟩
        simp -implicitDefEqProofs only [go_sem, Nat.reduceBEq, Nat.reduceAdd, eq_self, true_and, and_true, and_self, List.getElem?_cons_zero, List.getElem?_cons_succ, Nat.reduceLeDiff, Nat.zero_add, Nat.reduceSub, Nat.le_refl, hw64k]
        refine ynext _ _ _ (nx ++ [s, y]) true (by rw [List.append_assoc]; exact j6) (by simp) (.inr ?_) (ext_kill (ext_push e1) n1) j3 (live_last' _ _ _) (by have := e1.llen; simp only [kill, List.length_append, List.length_cons, List.length_nil] at this ⊢; omega)
        simp -implicitDefEqProofs only [go_sem, Nat.reduceBEq, Nat.reduceAdd, eq_self, true_and, and_true, and_self, List.getElem?_cons_zero, List.getElem?_cons_succ, Nat.reduceLeDiff, Nat.zero_add, Nat.reduceSub, Nat.le_refl, slC, spC, slsV, List.map_append, List.map_cons, List.map_nil, List.append_assoc, List.cons_append, List.nil_append]
        try trivial
  · have hk : ¬ k < out.length := by simpa [slsV_length] using hcc
    have hk0 : out.drop k = [] := List.drop_eq_nil_iff.2 (by omega)
    rw [hk0] at j6
    simp only [putK] at j6
    simp -implicitDefEqProofs only [go_sem, Nat.reduceBEq, Nat.reduceAdd, eq_self, true_and, and_true, and_self, List.getElem?_cons_zero, List.getElem?_cons_succ, Nat.reduceLeDiff, Nat.zero_add, Nat.reduceSub, Nat.le_refl, Nat.lt_irrefl]
    refine y2 _ _ _ ?_
    simp -implicitDefEqProofs only [go_sem, Nat.reduceBEq, Nat.reduceAdd, eq_self, true_and, and_true, and_self, List.getElem?_cons_zero, List.getElem?_cons_succ, Nat.reduceLeDiff, Nat.zero_add, Nat.reduceSub, Nat.le_refl, Nat.lt_irrefl]
    refine cut_dup ?_
    have n0 : σ.live.length ≤ τ1.live.length := g2.llen
    cases d
    case true =>
      rw [cond_true, List.append_nil] at j6
      simp -implicitDefEqProofs only [go_sem, Nat.reduceBEq, Nat.reduceAdd, eq_self, true_and, and_true, and_self, List.getElem?_cons_zero, List.getElem?_cons_succ, Nat.reduceLeDiff, Nat.zero_add, Nat.reduceSub, Nat.le_refl, hw64]
      refine next _ p _ nx (j6.trans hst.symm) (.inr ?_) (g2.trans j2) j3 j4 (by omega)
      simp -implicitDefEqProofs only [go_sem, Nat.reduceBEq, Nat.reduceAdd, eq_self, true_and, and_true, and_self, List.getElem?_cons_zero, List.getElem?_cons_succ, Nat.reduceLeDiff, Nat.zero_add, Nat.reduceSub, Nat.le_refl, spC]
      try trivial
    case false =>
      rw [cond_false] at j6
      simp -implicitDefEqProofs only [go_sem, Nat.reduceBEq, Nat.reduceAdd, eq_self, true_and, and_true, and_self, List.getElem?_cons_zero, List.getElem?_cons_succ, Nat.reduceLeDiff, Nat.zero_add, Nat.reduceSub, Nat.le_refl, hget, slC]
      refine ⟨⟨by omega, hib, k2⟩, k3.1, ?_⟩
      refine ⟨⟨.inr trivial, .inr ((ext_live _ _).live _ j4), ⟨.inr (live_last _ _), .inl trivial⟩, by omega⟩, ?_⟩
      simp -implicitDefEqProofs only [go_sem, Nat.reduceBEq, Nat.reduceAdd, eq_self, true_and, and_true, and_self, List.getElem?_cons_zero, List.getElem?_cons_succ, Nat.reduceLeDiff, Nat.zero_add, Nat.reduceSub, Nat.le_refl, hw64]
      refine next _ _ _ (nx ++ [s]) (j6.trans hst.symm) (.inr ?_) (g2.trans e1) j3 l1 (by omega)
      simp -implicitDefEqProofs only [go_sem, Nat.reduceBEq, Nat.reduceAdd, eq_self, true_and, and_true, and_self, List.getElem?_cons_zero, List.getElem?_cons_succ, Nat.reduceLeDiff, Nat.zero_add, Nat.reduceSub, Nat.le_refl, slC, spC, slsV, List.map_append, List.map_cons, List.map_nil]
      try trivial
end
end Go.VL.rga

namespace Go.VL.rga
open Go Go.VL Go.Proofs Go.IntWalk Go.VL.st Go.VL.row

theorem DfsL.snoc {S K o K' o1 : List Sl} {s : Sl} (h : DfsL S K o) (hk : Kids S s.a K') (h1 : DfsL S K' o1) : DfsL S (K ++ [s]) (o ++ s :: o1) := by
  induction h with
  | nil =>
    have := DfsL.cons hk h1 (DfsL.nil (S := S))
    rw [List.append_nil] at this
    exact this
  | @cons t K K1 p1 p2 hk1 g1 g2 ih1 ih2 =>
    have := DfsL.cons hk1 g1 ih2
    simpa using this
/-- How many are later. -/
def later (S : List Sl) (x : Sp) : Nat := (S.filter fun t => less x t.a).length
theorem later_lt {S : List Sl} {x y : Sp} (hy : Has S y) (h : less x y = true) : later S y < later S x := by
  obtain ⟨s, hs, rfl⟩ := hy
  have : (S.filter fun t => less s.a t.a) = (S.filter fun t => less x t.a).filter fun t => less s.a t.a := by
    rw [List.filter_filter]
    apply List.filter_congr
    intro t _
    cases ht : less s.a t.a
    · rfl
    · simp [less_trans h ht]
  unfold later
  rw [this]
  rcases Nat.lt_or_ge ((S.filter fun t => less x t.a).filter fun t => less s.a t.a).length (S.filter fun t => less x t.a).length with h3 | h3
  · exact h3
  · exfalso
    have h4 := List.length_filter_eq_length_iff.1 (Nat.le_antisymm (List.length_filter_le _ _) h3)
    have := h4 s (List.mem_filter.2 ⟨hs, h⟩)
    rw [less_irr] at this; cases this
theorem later_le (S : List Sl) (x : Sp) : later S x ≤ S.length := List.length_filter_le _ _
/-- How deep one may still go. -/
def Deep (S : List Sl) (x : Sp) (n : Nat) : Prop := (x = zs ∧ S.length + 1 ≤ n) ∨ (Has S x ∧ later S x ≤ n)
theorem Deep.kid {S : List Sl} (hS : Fine S) {x : Sp} {n : Nat} (h : Deep S x (n + 1)) {s : Sl} (hs : s ∈ S) (hu : upS S s = x) : Deep S s.a n := by
  refine .inr ⟨⟨s, hs, rfl⟩, ?_⟩
  have hle := later_le S s.a
  rcases h with ⟨-, h⟩ | ⟨⟨t, ht, hx⟩, h⟩
  · omega
  · have hxz : x ≠ zs := by rw [← hx]; exact hS.nz t ht
    unfold upS at hu
    cases hb : hasB S s.u <;> rw [hb] at hu
    · exact absurd hu.symm hxz
    · have hu : s.u = x := hu
      have := later_lt ⟨s, hs, rfl⟩ (hS.less_up hs (hasB_iff.1 hb))
      rw [hu] at this
      omega
theorem Deep.pos {S : List Sl} (hS : Fine S) {x : Sp} (h : Deep S x 0) {s : Sl} (hs : s ∈ S) (hu : upS S s = x) : False := by
  rcases h with ⟨-, h⟩ | ⟨⟨t, ht, hx⟩, h⟩
  · omega
  · have hxz : x ≠ zs := by rw [← hx]; exact hS.nz t ht
    unfold upS at hu
    cases hb : hasB S s.u <;> rw [hb] at hu
    · exact absurd hu.symm hxz
    · have hu : s.u = x := hu
      have := later_lt ⟨s, hs, rfl⟩ (hS.less_up hs (hasB_iff.1 hb))
      rw [hu] at this
      omega
theorem Deep.path {S : List Sl} (hS : Fine S) {x : Sp} {n : Nat} (h : Deep S x n) : ∃ P, (x = zs ∧ P = []) ∨ Path S x P := by
  rcases h with ⟨h, -⟩ | ⟨h, -⟩
  · exact ⟨[], .inl ⟨h, rfl⟩⟩
  · obtain ⟨l, hl⟩ := hS.path h
    exact ⟨l, .inr hl⟩
theorem dfsL_len {S : List Sl} (hS : Fine S) {K K0 out : List Sl} {x : Sp} {n : Nat} (hx : Deep S x n) (hk : Kids S x K0) (hs : K.Sublist K0) (h : DfsL S K out) : out.length ≤ S.length := by
  obtain ⟨P, hP⟩ := hx.path hS
  obtain ⟨h1, h2⟩ := dfsL_ord hS h (hk.desc.sublist hs) (fun s hs' => (hk.mem s).1 (hs.mem hs')) hP
  refine nodup_len (h1.imp fun {a b} hab e => ?_) fun t ht => ((h2 t).1 ht).1
  rw [e] at hab
  exact hab.irr hS
theorem set_ne_live {l : List Bool} {q r : Nat} (h : q ≠ r) {b : Bool} (hr : l[r]? = some b) (c : Bool) : (l.set q false ++ [c])[r]? = some b := by
  have hlt : r < l.length := (List.getElem?_eq_some_iff.1 hr).1
  rw [List.getElem?_append_left (by simpa using hlt), List.getElem?_set_ne h]; exact hr
section
variable {l : List Sl} {v : V}
set_option maxRecDepth 100000 in
set_option maxHeartbeats 6400000 in
theorem below_ok (hS : Fine l) (hl : l.length ≤ 1000) : ∀ (n : Nat) (σ : St) (x : Sp), RdS σ v 4 (slsV l) → Deep l x n →
    CallA Try.prog 37 [v, spV x] σ fun w σ' => (∃ out, Dfs l x out ∧ OwnS σ.live.length σ' w 4 (slsV out)) ∧ Ext σ σ' ∧ σ'.objs = σ.objs := by
  intro n
  induction n with
  | zero => ?_
  | succ n ih => ?_
  all_goals
    intro σ x hv hx
    obtain ⟨b, RR, z, rfl, -, -⟩ := id hv
    have hK := undL_kids hS x
    refine fn_at Try.func37 (by decide) comp37 rfl fun Q q1 q2 => ?_
    simp -implicitDefEqProofs only [go_sem, Nat.reduceBEq, Nat.reduceAdd, eq_self, true_and, and_true, and_self, List.getElem?_cons_zero, List.getElem?_cons_succ, Nat.reduceLeDiff, Nat.zero_add, Nat.reduceSub, Nat.le_refl, c37, spV, spC]
    refine call_at (under_ok (x := x) (hv.ext (ext_live σ true)) hl) ?_
    rintro v τ ⟨⟨qk, rfl, hqk, hqn⟩, he0, ho0⟩
    have hq0 : τ.live[σ.live.length]? = some true := he0.live _ (live_last _ _)
    have hqn : σ.live.length + 1 ≤ qk := by simpa using hqn
    have he0 : Ext σ τ := (ext_live σ true).trans he0
    refine ⟨kept_none, ?_⟩
    generalize hKe : undL l x l = K at *
    have hKlen : K.length ≤ l.length := by rw [← hKe]; exact undL_len _ _ _
    simp -implicitDefEqProofs only [go_sem, Nat.reduceBEq, Nat.reduceAdd, eq_self, true_and, and_true, and_self, List.getElem?_cons_zero, List.getElem?_cons_succ, Nat.reduceLeDiff, Nat.zero_add, Nat.reduceSub, Nat.le_refl, Nat.lt_irrefl]
    refine loop_at (fun (y : Nat × Nat × List Sl) => ⟨[(0, .v (.sl b RR z (slsV l))), (5, .v (.sl false (.own y.2.1) 4 (slsV y.2.2))), (6, .v (.sl false (.own qk) 4 (slsV K))), (7, .v (.int .i64 y.1))], []⟩)
      (fun y τ' => y.1 ≤ K.length ∧ Ext σ τ' ∧ τ'.objs = σ.objs ∧ τ'.live[y.2.1]? = some true ∧ σ.live.length ≤ y.2.1 ∧ y.2.1 ≠ qk ∧ τ'.live[qk]? = some true ∧ DfsL l (K.take y.1) y.2.2) (fun y => K.length - y.1) (0, σ.live.length, []) ?_ ?_ ?_
    · exact .inr (by simp [go_sem, slsV])
    · exact ⟨Nat.zero_le _, he0, ho0, hq0, Nat.le_refl _, by simp only; omega, hqk, .nil⟩
    rintro ⟨i, q, o⟩ τ' ⟨g1, g2, g3, g4, g5, g6, g7, g8⟩ Z z1 z2 z3
    simp only at g1 g4 g5 g6 g8
    have hol := dfsL_len hS hx hK (List.take_sublist _ _) g8
    have hsz : (slsV o).length ≤ 1000 := by rw [slsV_length]; omega
    simp -implicitDefEqProofs only [go_sem, Nat.reduceBEq, Nat.reduceAdd, eq_self, true_and, and_true, and_self, List.getElem?_cons_zero, List.getElem?_cons_succ, Nat.reduceLeDiff, Nat.zero_add, Nat.reduceSub, Nat.le_refl, Nat.lt_irrefl]
    refine CondW_b (fun hcc => ?_) (fun hcc => ?_)
    case refine_2 =>
      have hi : ¬ i < K.length := by simpa [slsV_length] using hcc
      rw [List.take_of_length_le (by omega)] at g8
      simp -implicitDefEqProofs only [go_sem, Nat.reduceBEq, Nat.reduceAdd, eq_self, true_and, and_true, and_self, List.getElem?_cons_zero, List.getElem?_cons_succ, Nat.reduceLeDiff, Nat.zero_add, Nat.reduceSub, Nat.le_refl, Nat.lt_irrefl]
      refine z2 _ _ _ ?_
      simp -implicitDefEqProofs only [go_sem, Nat.reduceBEq, Nat.reduceAdd, eq_self, true_and, and_true, and_self, List.getElem?_cons_zero, List.getElem?_cons_succ, Nat.reduceLeDiff, Nat.zero_add, Nat.reduceSub, Nat.le_refl, Nat.lt_irrefl]
      refine q2 _ _ ?_
      simp -implicitDefEqProofs only [go_sem, Nat.reduceBEq, Nat.reduceAdd, eq_self, true_and, and_true, and_self, List.getElem?_cons_zero, List.getElem?_cons_succ, Nat.reduceLeDiff, Nat.zero_add, Nat.reduceSub, Nat.le_refl, Nat.lt_irrefl]
      exact ⟨⟨o, ⟨K, hK, g8⟩, q, rfl, g4, g5⟩, g2, g3⟩
    have hi : i < K.length := by simpa [slsV_length] using hcc
    have hmem := (hK.mem K[i]).1 (List.getElem_mem hi)
  · exact (hx.pos hS hmem.1 hmem.2).elim
  have hdp := hx.kid hS hmem.1 hmem.2
  have hget := slsV_get hi
  have hib : (i : Int) < (slsV K).length := by rw [slsV_length]; omega
  have hw64 : IntKind.i64.wrap ((i : Int) + 1) = ((i + 1 : Nat) : Int) := by rw [i64_in _ (by omega)]; omega
  have htk : K.take (i + 1) = K.take i ++ [K[i]] := List.take_succ_eq_append_getElem hi
  generalize K[i] = s at *
  simp -implicitDefEqProofs only [go_sem, Nat.reduceBEq, Nat.reduceAdd, eq_self, true_and, and_true, and_self, List.getElem?_cons_zero, List.getElem?_cons_succ, Nat.reduceLeDiff, Nat.zero_add, Nat.reduceSub, Nat.le_refl, hget, slC]
  refine ⟨⟨by omega, hib⟩, g7, ?_⟩
  refine ⟨⟨.inr trivial, .inr ((ext_live _ _).live _ g4), ⟨.inr (live_last _ _), .inl trivial⟩, by omega⟩, ?_⟩
  have g7a : ((τ'.live ++ [true]).set q false ++ [true])[qk]? = some true := set_ne_live g6 ((ext_live ⟨τ'.objs, τ'.live⟩ true).live _ g7) true
  have e1 := ext_kill (b := true) (ext_push (b := true) g2) g5
  have l1 : ((τ'.live ++ [true]).set q false ++ [true])[(τ'.live ++ [true]).length]? = some true := live_last' _ _ _
  have n1 : σ.live.length ≤ (τ'.live ++ [true]).length := by have := g2.llen; simp only [List.length_append, List.length_cons, List.length_nil]; omega
  have n2 : (τ'.live ++ [true]).length ≠ qk := by
    have := (List.getElem?_eq_some_iff.1 g7).1
    simp only [List.length_append, List.length_cons, List.length_nil]; omega
  refine ⟨⟨by omega, hib⟩, g7a, ?_⟩
  refine call_at (ih _ s.a (hv.ext e1) hdp) ?_
  rintro v τ1 ⟨⟨o1, ⟨K', hK', hD1⟩, q2', rfl, p1, p2⟩, he1, ho1⟩
  refine ⟨he1.kept, ?_⟩
  have g9 : DfsL l (K.take (i + 1)) (o ++ s :: o1) := by rw [htk]; exact g8.snoc hK' hD1
  have hol2 := dfsL_len hS hx hK (List.take_sublist _ _) g9
  simp only [List.length_append, List.length_cons] at hol2
  have hsz1 : (slsV o).length = o.length := slsV_length _
  have hsz2 : (slsV o1).length = o1.length := slsV_length _
  have e2 := e1.trans he1
  have hqk2 : τ1.live[qk]? = some true := he1.live _ g7a
  simp -implicitDefEqProofs only [go_sem, Nat.reduceBEq, Nat.reduceAdd, eq_self, true_and, and_true, and_self, List.getElem?_cons_zero, List.getElem?_cons_succ, Nat.reduceLeDiff, Nat.zero_add, Nat.reduceSub, Nat.le_refl, Nat.lt_irrefl]
  refine ⟨⟨.inr trivial, .inr (he1.live _ l1), ⟨.inr p1, .inl trivial⟩, by simp only [List.length_append, List.length_cons, List.length_nil]; omega⟩, ?_⟩
  simp -implicitDefEqProofs only [go_sem, Nat.reduceBEq, Nat.reduceAdd, eq_self, true_and, and_true, and_self, List.getElem?_cons_zero, List.getElem?_cons_succ, Nat.reduceLeDiff, Nat.zero_add, Nat.reduceSub, Nat.le_refl, hw64]
  refine z1 (i + 1, τ1.live.length, o ++ s :: o1) _ _ (.inr ?_) (by simp only; omega) ⟨by simp only; omega, ext_kill e2 n1, ho1.trans g3, live_last' _ _ _, e2.llen, ?_, set_ne_live n2 hqk2 true, g9⟩
  · simp -implicitDefEqProofs only [go_sem, Nat.reduceBEq, Nat.reduceAdd, eq_self, true_and, and_true, and_self, List.getElem?_cons_zero, List.getElem?_cons_succ, Nat.reduceLeDiff, Nat.zero_add, Nat.reduceSub, Nat.le_refl, slsV, slC, List.map_append, List.map_cons, List.append_assoc, List.cons_append, List.nil_append]
    try trivial
  · have := (List.getElem?_eq_some_iff.1 hqk2).1
    simp only; omega
set_option maxRecDepth 100000 in
theorem rorder_ok {σ : St} {O : List Sl} (hS : Fine l) (hl : l.length ≤ 1000) (hO : Ord l O) (hv : RdS σ v 4 (slsV l)) :
    CallA Try.prog 27 [v] σ fun w σ' => OwnS σ.live.length σ' w 4 (slsV O) ∧ Ext σ σ' ∧ σ'.objs = σ.objs := by
  refine fn_at Try.func27 (by decide) comp27 rfl fun Q q1 q2 => ?_
  simp -implicitDefEqProofs only [go_sem, Nat.reduceBEq, Nat.reduceAdd, eq_self, true_and, and_true, and_self, List.getElem?_cons_zero, List.getElem?_cons_succ, Nat.reduceLeDiff, Nat.zero_add, Nat.reduceSub, Nat.le_refl, c27]
  refine call_at (below_ok hS hl (l.length + 1) σ zs hv (.inl ⟨rfl, Nat.le_refl _⟩)) ?_
  rintro w τ ⟨⟨out, hd, ho⟩, he, hob⟩
  refine ⟨kept_none, ?_⟩
  have := (dfs_ord hS hd).eq hS hO
  subst this
  simp -implicitDefEqProofs only [go_sem, Nat.reduceBEq, Nat.reduceAdd, eq_self, true_and, and_true, and_self, List.getElem?_cons_zero, List.getElem?_cons_succ, Nat.reduceLeDiff, Nat.zero_add, Nat.reduceSub, Nat.le_refl, Nat.lt_irrefl]
  refine q2 _ _ ?_
  simp -implicitDefEqProofs only [go_sem, Nat.reduceBEq, Nat.reduceAdd, eq_self, true_and, and_true, and_self, List.getElem?_cons_zero, List.getElem?_cons_succ, Nat.reduceLeDiff, Nat.zero_add, Nat.reduceSub, Nat.le_refl, Nat.lt_irrefl]
  exact ⟨ho, he, hob⟩
end
end Go.VL.rga

namespace Go.VL
open Go Go.Proofs Go.Shelf Go.RowKit Go.Lib Go.Sort

section
variable {P : Program} {γ : G} {σ : St} {w : World}

theorem flat_get {X : Type} [Inhabited X] {enc : X → List Value} {k : Nat} (hk : ∀ x, (enc x).length = k) : ∀ (l : List X) (j : Nat), j < l.length * k → (l.flatMap enc)[j]? = some (enc l.toArray[j / k]!)[j % k]!
  | [], j, h => by simp at h
  | x :: l, j, h => by
    have hk0 : 0 < k := by
      rcases Nat.eq_zero_or_pos k with h0 | h0
      · subst h0; simp at h
      · exact h0
    simp only [List.flatMap_cons]
    by_cases hj : j < k
    · rw [List.getElem?_append_left (by rw [hk]; exact hj), Nat.div_eq_of_lt hj, Nat.mod_eq_of_lt hj]
      have hx : j < (enc x).length := by rw [hk]; exact hj
      simp [List.getElem?_eq_getElem hx, hx]
    · rw [List.getElem?_append_right (by rw [hk]; omega), hk]
      have h2 : j - k < l.length * k := by
        simp only [List.length_cons, Nat.succ_mul] at h; omega
      rw [flat_get hk l (j - k) h2]
      have e1 : j / k = (j - k) / k + 1 := by
        have : j = (j - k) + k := by omega
        conv => lhs; rw [this]
        rw [Nat.add_div_right _ hk0]
      have e2 : j % k = (j - k) % k := by
        have : j = (j - k) + k := by omega
        conv => lhs; rw [this]
        rw [Nat.add_mod_right]
      rw [e1, e2]
      have hlt : (j - k) / k < l.length := Nat.div_lt_of_lt_mul (by rw [Nat.mul_comm]; exact h2)
      simp [hlt]
theorem flat_len {X : Type} {enc : X → List Value} {k : Nat} (hk : ∀ x, (enc x).length = k) (l : List X) : (l.flatMap enc).length = l.length * k := by
  induction l with
  | nil => simp
  | cons x l ih => simp [hk, ih, Nat.succ_mul, Nat.add_comm]
theorem repE_map {X : Type} {encV : X → List V} {enc : X → List Value} {k : Nat} (hrep : ∀ x, RepL γ (encV x) (enc x)) (hk : ∀ x, (enc x).length = k) (h1 : ∀ x, ∀ v ∈ enc x, v.oneCell' = true) : ∀ l : List X, RepE γ k (l.map encV) (l.flatMap enc)
  | [] => by simp [RepE]
  | x :: l => by
    simp only [List.map_cons, List.flatMap_cons, RepE]
    exact ⟨enc x, l.flatMap enc, rfl, by rw [(hrep x).length, hk], hrep x, repE_map hrep hk h1 l, h1 x⟩
theorem repE_det {X : Type} {encV : X → List V} {enc : X → List Value} {k : Nat} (hdet : ∀ x ws, RepL γ (encV x) ws → ws = enc x) : ∀ (l : List X) (vs : List Value), RepE γ k (l.map encV) vs → vs = l.flatMap enc
  | [], vs, h => by simpa [RepE] using h
  | x :: l, vs, h => by
    simp only [List.map_cons, RepE] at h
    obtain ⟨ws, us, rfl, -, h2, h3, -⟩ := h
    rw [hdet x ws h2, repE_det hdet l us h3]; rfl

/-- A comparison's calls, in whatever world: they lay blocks and draw, no more. -/
theorem cmp_lays {X : Type} {encV : X → List V} {enc : X → List Value} {cf : X → X → Int} {g : FuncId} (hrep : ∀ γ x, RepL γ (encV x) (enc x))
    (hg : ∀ x y, CallA P g [.agg (encV x), .agg (encV y)] ⟨[], []⟩ fun v _ => v = .int .i64 (cf x y)) (x y : X) (W : World) :
    Calls P g #[.agg (enc x).toArray, .agg (enc y).toArray] W fun e w' => e = .returned (.int .i64 (cf x y)) ∧ ∃ q os', w' = grow (W.drewN q) os' := by
  refine ((hg x y).2 (g0 W) W [.agg (enc x).toArray, .agg (enc y).toArray] (inv0 W) ?_).mono ?_
  · simp only [RepL, Rep]
    exact ⟨_, _, rfl, ⟨_, rfl, hrep _ x⟩, _, _, rfl, ⟨_, rfl, hrep _ y⟩, rfl⟩
  rintro e w' ⟨v, z, σ', γ', rfl, hle, hi, hz, rfl⟩
  simp only [Rep] at hz
  subst hz
  refine ⟨rfl, w'.drawn - W.drawn, w'.heap.extract W.heap.size w'.heap.size, ?_⟩
  have hd : W.drawn ≤ w'.drawn := by
    have := hi.drn
    rw [hle.drn] at this
    exact this
  have hh : ∀ (b : Nat) (o : Obj), W.heap[b]? = some o → w'.heap[b]? = some o := fun b o hb => hi.phi b o (by rw [hle.phi]; exact hb)
  have hsz : W.heap.size ≤ w'.heap.size := by
    rcases Nat.lt_or_ge w'.heap.size W.heap.size with hlt | hge
    · have := hh w'.heap.size W.heap[w'.heap.size] (Array.getElem?_eq_getElem hlt)
      simp at this
    · exact hge
  have hheap : w'.heap = W.heap ++ w'.heap.extract W.heap.size w'.heap.size := by
    apply Array.ext_getElem?
    intro i
    rw [Array.getElem?_append]
    split
    · rename_i hlt
      rw [Array.getElem?_eq_getElem hlt]
      exact hh i _ (Array.getElem?_eq_getElem hlt)
    · rename_i hge
      rw [Array.getElem?_extract]
      simp only [Nat.min_self]
      split
      · rename_i h2
        congr 1; omega
      · rename_i h2
        rw [Array.getElem?_eq_none (by omega)]
  have e1 : w'.os = W.os := hi.os.trans hle.os
  have e2 : w'.tape = W.tape := hi.tape.trans hle.tape
  have e3 : w'.output = W.output := hi.out.trans hle.out
  obtain ⟨h', t', d', o', u'⟩ := w'
  simp only at e1 e2 e3 hheap hd
  subst e1 e2 e3
  show _ = grow (World.drewN W (d' - W.drawn)) _
  simp only [World.drewN, grow]
  rw [← hheap]
  congr 1
  omega

set_option maxHeartbeats 1000000 in
/-- slices.SortFunc of an owned slice of structs. -/
theorem sort_cm {ρ : Ren} {X : Type} [Inhabited X] (L : SlLaysF0.n6 P ρ) (k : Nat) (aE : ∀ w, (isAgg (ρ.t 24)).run P w = .ok true w) (zE : ∀ w, (Go.sizeOf (ρ.t 24)).run P w = .ok k w)
    (encV : X → List V) (enc : X → List Value) (hrep : ∀ γ x, RepL γ (encV x) (enc x)) (hk : ∀ x, (enc x).length = k) (h1 : ∀ x, ∀ v ∈ enc x, v.oneCell' = true) (hdet : ∀ γ x ws, RepL γ (encV x) ws → ws = enc x)
    (cf : X → X → Int) (hO : SWO (ltOf cf)) (g : FuncId) (hg : ∀ x y, CallA P g [.agg (encV x), .agg (encV y)] ⟨[], []⟩ fun v _ => v = .int .i64 (cf x y))
    (hfn : ∃ fn, P.funcs[ρ.f 6]? = some fn ∧ fn.body.isSome = true ∧ (fn.name == "runtime.NumGoroutine") = false) {r : Nat} {l : List X} (hlive : σ.live[r]? = some true) (hsz : l.length < 4611686018427387904) :
    CallM P (ρ.f 6) [.sl false (.own r) k (l.map encV), .fn g []] r k (l.map encV) σ fun v r' es' σ' => ∃ l' : List X, l'.Perm l ∧ l'.Pairwise (fun a b => ltOf cf b a = false) ∧ es' = l'.map encV ∧ v = .tup [] ∧
      r' = σ.live.length ∧ σ' = ⟨σ.objs, σ.live.set r false ++ [true]⟩ := by
  refine ⟨hfn, fun γ w vs hi hr => ?_⟩
  simp only [RepL, Rep] at hr
  obtain ⟨v1, _, rfl, ⟨a, cap, rfl, hsp, hcap, hrho⟩, v2, _, rfl, ⟨_, rfl, rfl⟩, rfl⟩ := hr
  obtain ⟨blk, off, sp⟩ := a
  simp only at hsp
  subst hsp
  obtain ⟨a', cap', e0, -, h3, h4, h5, h6, c, e, z, vs0, h7, h8, h9, h10, h11⟩ := hi.own _ _ _ _ hlive hrho
  cases e0
  simp only at h4 h5 h6 h7 h8 h10 h11
  have hv0 := repE_det (hdet γ) l vs0 h9
  subst hv0
  have hlen : (l.map encV).length = l.length := by simp
  have hfl := flat_len hk l
  have hblk : blk < w.heap.size := lt_of_heap h7
  have hkb : l.length * k ≤ cap * k := Nat.mul_le_mul_right k (by rw [hlen] at h3; exact h3)
  have hcell : ∀ j, j < l.length * k → c[off + j]? = some ((flatK enc k l.toArray)[j]!) := by
    intro j hj
    rw [get_flatK enc k l.toArray j (by simpa using hj)]
    exact h8 j _ (flat_get hk l j hj)
  have hH : HoldsK enc k w blk off l.toArray := by
    intro j hj
    rw [size_flatK] at hj
    simp only [List.size_toArray] at hj
    refine ⟨?_, ?_⟩
    · simp only [World.cell?, h7]
      exact hcell j hj
    · have := h11 (off + j) (by omega) (by omega)
      simp only [World.frozen?, h7, Bool.and_eq_false_iff, decide_eq_false_iff_not]
      omega
  have eg : ∀ args w, (callFunc g args).run P w = .ok (.enter g args) w := fun args w => enter_ok (hg default default).1
  have hcmp : CmpLays P g #[] enc k cf blk off l.toArray.size w := fun m os dk _ x y => by
    simpa using cmp_lays hrep hg x y (sortWorldK enc k w blk off m dk os)
  have hcon := AnyQ.slices_SortFunc L k aE zE enc hk h1 cf hO g #[] blk off cap l.toArray w eg hcmp hH hblk (by simpa using hsz)
  rw [hlen]
  simp only [List.size_toArray] at hcon
  refine hcon.mono ?_
  rintro e' w' ⟨rfl, d', n, os, hp, hs, rfl⟩
  have hds : d'.size = l.length := by simpa using hp.1
  have hperm : d'.toList.Perm l := by
    have := hp.2.2
    rw [Array.extract_eq_self_of_le (by simp [hds]), Array.extract_eq_self_of_le (by simp)] at this
    simpa using this
  have hpair : d'.toList.Pairwise (fun a b => ltOf cf b a = false) := by
    rw [List.pairwise_iff_getElem]
    intro i j hi' hj' hij
    have hi2 : i < d'.size := by simpa using hi'
    have hj2 : j < d'.size := by simpa using hj'
    have := hs i j (Nat.zero_le _) hij (by rw [hds] at hj2; exact hj2)
    rw [getElem!_pos d' j hj2, getElem!_pos d' i hi2] at this
    simpa using this
  have hheap : ∀ b, (sortWorldK enc k w blk off n d' os).heap[b]? = if b < w.heap.size then (w.heap.modify blk (onCells (putCells id off (flatK enc k d'))))[b]? else os[b - w.heap.size]? := by
    intro b
    show ((w.heap.modify blk (onCells (putCells id off (flatK enc k d')))) ++ os)[b]? = _
    rw [Array.getElem?_append]
    simp only [Array.size_modify]
  have hbut : But (some blk) w (sortWorldK enc k w blk off n d' os) := by
    refine ⟨rfl, rfl, rfl, ?_, fun b o hb ho => ?_, ?_⟩
    · show w.heap.size ≤ ((w.heap.modify blk (onCells (putCells id off (flatK enc k d')))) ++ os).size
      simp
    · have hlt := lt_of_heap ho
      rw [hheap, if_pos hlt, Array.getElem?_modify, if_neg (fun e => hb (by rw [e]))]
      exact ho
    · show w.drawn ≤ w.drawn + n
      omega
  have hnew : (sortWorldK enc k w blk off n d' os).heap[blk]? = some (.cells (putCells id off (flatK enc k d') c) e z) := by
    rw [hheap, if_pos hblk, Array.getElem?_modify, if_pos rfl, h7]
    rfl
  have hll : (σ.live.set r false).length = σ.live.length := by simp
  obtain ⟨q1, q2⟩ := hi.right hbut (live := σ.live.set r false) hll (fun j hj => by
      by_cases e : r = j
      · subst e
        rw [List.getElem?_set_self (List.getElem?_eq_some_iff.1 hlive).1] at hj
        cases hj
      · rwa [List.getElem?_set_ne e] at hj)
    (k := blk) ⟨h4, h5, h6, fun j v s es hj hrj hb => by
      by_cases e : r = j
      · subst e
        rw [List.getElem?_set_self (List.getElem?_eq_some_iff.1 hlive).1] at hj
        cases hj
      · rw [List.getElem?_set_ne e] at hj
        exact e (hi.apart r j _ _ _ _ _ _ blk hlive hj hrho hrj rfl hb)⟩
    (v := .slice (some ⟨blk, off, none⟩) (l.map encV).length cap) (s := k) (es := d'.toList.map encV) (f := true) (fun _ => ⟨rfl, by
      refine ⟨⟨blk, off, none⟩, cap, by simp [hds], rfl, by simp only [List.length_map, Array.length_toList, hds]; rw [hlen] at h3; exact h3, h4, h5, h6, _, e, z, d'.toList.flatMap enc, hnew, fun i x hx => ?_, repE_map (fun x => hrep _ x) hk h1 _, ?_, h11⟩
      · have hfl2 := flat_len hk d'.toList
        have hi2 : i < d'.toList.length * k := by rw [← hfl2]; exact (List.getElem?_eq_some_iff.1 hx).1
        rw [flat_get hk _ _ hi2] at hx
        have hi3 : i < l.length * k := by simpa [hds] using hi2
        have hlt : off + i < c.size := by
          have := hcell i hi3
          exact (Array.getElem?_eq_some_iff.1 this).1
        simp only [putCells]
        rw [Array.getElem?_mapIdx, Array.getElem?_eq_getElem hlt]
        simp only [Option.map_some]
        have hi4 : i < d'.size * k := by simpa using hi2
        rw [if_pos ⟨by omega, by rw [size_flatK]; omega⟩, Nat.add_sub_cancel_left, get_flatK enc k d' i hi4]
        simpa using hx
      · simp only [putCells, Array.size_mapIdx]; exact h10⟩)
  refine ⟨.tuple #[], .tup [], _, _, σ.live.length, d'.toList.map encV, rfl, q2, q1, ?_, ⟨.slice (some ⟨blk, off, none⟩) (l.map encV).length cap, hrho, ?_⟩, by simp [hds], d'.toList, hperm, hpair, rfl, rfl, rfl, rfl⟩
  · simp only [Rep]
    exact ⟨[], rfl, rfl⟩
  · show (γ.rho ++ [_])[σ.live.length]? = _
    rw [← hi.rholen]; simp
/-- slices.SortFunc of no elements. -/
theorem sort_nil {ρ : Ren} (L : SlLaysF0.n6 P ρ) (hfn : ∃ fn, P.funcs[ρ.f 6]? = some fn ∧ fn.body.isSome = true ∧ (fn.name == "runtime.NumGoroutine") = false) {R : R} {s : Nat} {f : V} :
    CallA P (ρ.f 6) [.sl true R s [], f] σ fun v σ' => σ' = σ ∧ v = .tup [] := by
  refine ⟨hfn, fun γ w vs hi hr => ?_⟩
  simp only [RepL, Rep] at hr
  obtain ⟨v1, _, rfl, ⟨-, rfl⟩, v2, _, rfl, -, rfl⟩ := hr
  refine (AnyF.slices_SortFunc_none L none 0 v2 w).mono ?_
  rintro e w' ⟨rfl, rfl⟩
  refine ⟨.tuple #[], .tup [], σ, γ, rfl, Le.refl γ, hi, ?_, rfl, rfl⟩
  simp only [Rep]
  exact ⟨[], rfl, rfl⟩
end
end Go.VL

namespace Go.Proofs
open Go.Shelf Go.RowKit Go.Lib Go.Sort
shelf_lay_g SlLaysF0.n6 Slsf 6 at Try 47 as rgaSort
end Go.Proofs
namespace Go.VL.rga
open Go Go.VL Go.Proofs Go.IntWalk Go.Shelf Go.Sort Go.VL.st Go.VL.row

def cmpK (a b : Sl) : Int := cmp b.a a.a
theorem cmpK_lt (a b : Sl) : ltOf cmpK a b = less b.a a.a := cmp_neg b.a a.a
theorem cmpK_swo : SWO (ltOf cmpK) := by
  have e : ltOf cmpK = fun a b => less b.a a.a := by funext a b; exact cmpK_lt a b
  rw [e]
  refine ⟨fun a => less_irr _, fun _ _ _ h k => less_trans k h, fun x y z h1 h2 => ?_⟩
  cases h : less z.a x.a with
  | false => rfl
  | true =>
    cases h3 : less x.a y.a with
    | true => rw [less_trans h h3] at h2; cases h2
    | false =>
      have := less_total h1 h3
      rw [this, h] at h2; cases h2
def slE (p : Sl) : List Value := [.int .i64 p.a.c, .int .i64 p.a.r, .int .i64 p.u.c, .int .i64 p.u.r]
theorem slE_rep (γ : G) (r : Sl) : RepL γ (slC r) (slE r) := by
  simp only [slC, slE, RepL, Rep]
  exact ⟨_, _, rfl, rfl, _, _, rfl, rfl, _, _, rfl, rfl, _, _, rfl, rfl, rfl⟩
theorem slE_det (γ : G) (r : Sl) (ws : List Value) (h : RepL γ (slC r) ws) : ws = slE r := by
  simp only [slC, RepL, Rep] at h
  obtain ⟨_, _, rfl, rfl, _, _, rfl, rfl, _, _, rfl, rfl, _, _, rfl, rfl, rfl⟩ := h
  rfl
theorem slE_one (r : Sl) : ∀ v ∈ slE r, v.oneCell' = true := by
  intro v hv
  simp only [slE, List.mem_cons, List.not_mem_nil, or_false] at hv
  rcases hv with rfl | rfl | rfl | rfl <;> rfl
instance : Inhabited Sl := ⟨⟨zs, zs⟩⟩
section
variable {σ : St} {a b : Sl}
set_option maxRecDepth 100000 in
theorem cmpK_ok : CallA Try.prog 48 [slV a, slV b] σ fun v σ' => σ' = σ ∧ v = .int .i64 (cmpK a b) := by
  refine fn_at Try.func48 (by decide) comp48 rfl fun Q q1 q2 => ?_
  simp -implicitDefEqProofs only [go_sem, Nat.reduceBEq, Nat.reduceAdd, eq_self, true_and, and_true, and_self, List.getElem?_cons_zero, List.getElem?_cons_succ, Nat.reduceLeDiff, Nat.zero_add, Nat.reduceSub, Nat.le_refl, c48, slV, slC]
  refine call_at (compare_ok (a := b.a) (b := a.a)) ?_
  rintro v τ ⟨rfl, rfl⟩
  refine ⟨kept_none, ?_⟩
  simp -implicitDefEqProofs only [go_sem, Nat.reduceBEq, Nat.reduceAdd, eq_self, true_and, and_true, and_self, List.getElem?_cons_zero, List.getElem?_cons_succ, Nat.reduceLeDiff, Nat.zero_add, Nat.reduceSub, Nat.le_refl, Nat.lt_irrefl]
  refine q2 _ _ ?_
  simp -implicitDefEqProofs only [go_sem, Nat.reduceBEq, Nat.reduceAdd, eq_self, true_and, and_true, and_self, List.getElem?_cons_zero, List.getElem?_cons_succ, Nat.reduceLeDiff, Nat.zero_add, Nat.reduceSub, Nat.le_refl, Nat.lt_irrefl]
  try first | exact ⟨trivial, trivial⟩ | exact ⟨trivial, rfl⟩ | exact ⟨rfl, rfl⟩ | exact ⟨rfl, trivial⟩ | trivial
theorem sort_fn : ∃ fn, Try.prog.funcs[rgaSort_ren.f 6]? = some fn ∧ fn.body.isSome = true ∧ (fn.name == "runtime.NumGoroutine") = false := ⟨Try.f47, Try.func47, rfl, by decide⟩
theorem sort_sls {q : Nat} {l : List Sl} (hq : σ.live[q]? = some true) (hl : l.length < 4611686018427387904) :
    CallM Try.prog 47 [.sl false (.own q) 4 (slsV l), .fn 48 []] q 4 (slsV l) σ fun v r' es' σ' => ∃ l' : List Sl, l'.Perm l ∧ l'.Pairwise (fun a b => less a.a b.a = false) ∧ es' = slsV l' ∧ v = .tup [] ∧
      r' = σ.live.length ∧ σ' = ⟨σ.objs, σ.live.set q false ++ [true]⟩ := by
  have h := sort_cm (P := Try.prog) (ρ := rgaSort_ren) (σ := σ) rgaSort 4 Try.isAgg26 Try.sizeOf26 slC slE slE_rep (fun _ => rfl) slE_one slE_det cmpK cmpK_swo 48
    (fun x y => (cmpK_ok (a := x) (b := y)).mono fun _ _ h => h.2) sort_fn (r := q) (l := l) hq hl
  simp only [cmpK_lt] at h
  exact h
theorem sort_none {z : Nat} : CallA Try.prog 47 [.sl true .pub z [], .fn 48 []] σ fun v σ' => σ' = σ ∧ v = .tup [] := sort_nil (ρ := rgaSort_ren) rgaSort sort_fn
end

/-- The kids, by who is above them. -/
abbrev Kl := List (Sp × Nat × List Sl)
def entsK (T : Kl) : List (V × V) := T.map fun y => (spV y.1, .sl false (.own y.2.1) 4 (slsV y.2.2))
def lookK (x : Sp) : Kl → Option (Nat × List Sl)
  | [] => none
  | y :: T => bif decide (x = y.1) then some y.2 else lookK x T
theorem find_K (x : Sp) : ∀ T : Kl, find (.agg [.int .i64 x.c, .int .i64 x.r]) (entsK T) = (lookK x T).map fun p => V.sl false (.own p.1) 4 (slsV p.2)
  | [] => rfl
  | y :: T => by
    have ih := find_K x T
    simp only [entsK] at ih
    simp only [entsK, List.map_cons, find, key_eq, lookK, ih]
    cases decide (x = y.1) <;> rfl
/-- What the map of kids must say. -/
structure GoodK (S : List Sl) (T : Kl) : Prop where
  nd : ∀ x q es, lookK x T = some (q, es) → (es.map (·.a)).Nodup
  mem : ∀ x q es, lookK x T = some (q, es) → ∀ s, s ∈ es ↔ s ∈ S ∧ upS S s = x
  no : ∀ x, lookK x T = none → ∀ s ∈ S, upS S s ≠ x
  inj : ∀ x y q es es', lookK x T = some (q, es) → lookK y T = some (q, es') → x = y
structure Env (τ : St) (kb ob wb mk ver : Nat) (T : Kl) : Prop where
  kbox : τ.objs[kb]? = some (.cells [.map (some mk)])
  wbox : τ.objs[wb]? = some (.cells [.fn 46 [.ptr (some (kb, 0)), .ptr (some (ob, 0)), .ptr (some (wb, 0))]])
  map : τ.objs[mk]? = some (.mp KL (entsK T) ver)
  lt : ∀ x q es, lookK x T = some (q, es) → q < τ.live.length
  ne : kb ≠ ob ∧ wb ≠ ob ∧ mk ≠ ob
/-- What is not of some objects and rights stays. -/
structure Wst (A R : Nat → Prop) (τ τ' : St) : Prop where
  objs : ∀ (j : Nat) (o : AObj), ¬ A j → τ.objs[j]? = some o → τ'.objs[j]? = some o
  live : ∀ r : Nat, ¬ R r → τ.live[r]? = some true → τ'.live[r]? = some true
  olen : τ.objs.length ≤ τ'.objs.length
  llen : τ.live.length ≤ τ'.live.length
theorem Wst.refl (A R : Nat → Prop) (τ : St) : Wst A R τ τ := ⟨fun _ _ _ h => h, fun _ _ h => h, Nat.le_refl _, Nat.le_refl _⟩
theorem Wst.trans {A R A' R' : Nat → Prop} {a b c : St} (h : Wst A R a b) (k : Wst A' R' b c) (hA : ∀ j, A' j → A j ∨ a.objs.length ≤ j) (hR : ∀ r, R' r → R r ∨ a.live.length ≤ r) : Wst A R a c :=
  ⟨fun j o hj x => k.objs j o (fun h' => (hA j h').elim hj fun hl => by have := (List.getElem?_eq_some_iff.1 x).1; omega) (h.objs j o hj x),
   fun r hr x => k.live r (fun h' => (hR r h').elim hr fun hl => by have := (List.getElem?_eq_some_iff.1 x).1; omega) (h.live r hr x), Nat.le_trans h.olen k.olen, Nat.le_trans h.llen k.llen⟩
/-- The box of what comes out, and its row. -/
def OwnO (ob : Nat) (wo : V) (j : Nat) : Prop := j = ob ∨ ∃ n cap z, wo = .osl j n cap z
/-- It stands at or below one. -/
def Bel (S : List Sl) (x : Sp) (P : List Sp) (y : Sp) : Prop := y = x ∨ ∃ c r, Path S y (P ++ c :: r)
def Rts (S : List Sl) (T : Kl) (x : Sp) (P : List Sp) (r : Nat) : Prop := ∃ y es, lookK y T = some (r, es) ∧ Bel S x P y
/-- append of one to a row. -/
theorem ao_push {τ : St} {wo : V} {z r : Nat} {es : List (List V)} {e : List V} (h : RowOf τ wo z es) (hl : es.length < 1073741824) (he : e.length = z) (hr : τ.live[r]? = some true) :
    AoV τ z true wo (.sl false (.own r) z [e]) fun v τ' => RowOf τ' v z (es ++ [e]) ∧ τ'.live = τ.live ∧ τ.objs.length ≤ τ'.objs.length ∧ (∀ (j : Nat) (o : AObj), (∀ n cap z', wo ≠ .osl j n cap z') → τ.objs[j]? = some o → τ'.objs[j]? = some o) ∧
      (∃ j n cap, v = .osl j n cap z ∧ ((∃ n' cap', wo = .osl j n' cap' z) ∨ τ.objs.length ≤ j) ∧ j < τ'.objs.length) := by
  unfold AoV
  show AoP τ z true ((false = true ∨ rd τ.live (.own r)) ∧ (z = z ∨ _), [e]) _ wo
  rcases h with ⟨R, q, rfl, rfl⟩ | ⟨j, cap, rfl, h1, h2, h3⟩
  · refine ⟨rfl, ⟨.inr hr, .inl rfl⟩, by simp, (fun h => absurd h (by simp)), fun _ cap hc1 hc2 => ?_⟩
    refine ⟨.inr ⟨τ.objs.length, cap, rfl, by simp, by simpa using he, hc1⟩, rfl, by simp, fun j o _ hj => ?_, _, _, _, rfl, .inr (Nat.le_refl _), by simp⟩
    show (τ.objs ++ [_])[j]? = some o
    rw [List.getElem?_append_left (List.getElem?_eq_some_iff.1 hj).1]; exact hj
  · refine ⟨rfl, rfl, ?_⟩
    rw [h1]
    have hz : ∀ x ∈ es ++ [e], x.length = z := by
      intro x hx
      rcases List.mem_append.1 hx with hx | hx
      · exact h2 x hx
      · rw [List.mem_singleton] at hx; rw [hx]; exact he
    have hlt := (List.getElem?_eq_some_iff.1 h1).1
    refine ⟨⟨rfl, rfl, flat_len' h2⟩, ⟨.inr hr, .inl rfl⟩, by simp only [List.length_cons, List.length_nil]; omega, fun hc => ?_, fun hc cap' hc1 hc2 => ?_⟩
    · refine ⟨.inr ⟨j, cap, by simp, ?_, hz, by simpa using hc⟩, rfl, by show _ ≤ (τ.objs.set _ _).length; rw [List.length_set]; exact Nat.le_refl _, fun k o hk hj => ?_, _, _, _, rfl, .inl ⟨_, _, rfl⟩, by show _ < (τ.objs.set _ _).length; rw [List.length_set]; exact hlt⟩
      · show (τ.objs.set j _)[j]? = _
        rw [List.getElem?_set_self hlt]; simp
      · show (τ.objs.set j _)[k]? = some o
        rw [List.getElem?_set_ne (fun e => hk _ _ _ (by rw [e]))]; exact hj
    · refine ⟨.inr ⟨τ.objs.length, cap', by simp, by simp, hz, by simpa using hc1⟩, rfl, by simp, fun k o _ hj => ?_, _, _, _, rfl, .inr (Nat.le_refl _), by simp⟩
      show (τ.objs ++ [_])[k]? = some o
      rw [List.getElem?_append_left (List.getElem?_eq_some_iff.1 hj).1]; exact hj
end Go.VL.rga

namespace Go.VL.rga
open Go Go.VL Go.Proofs Go.IntWalk Go.VL.st Go.VL.row

theorem Path.kid_last {S : List Sl} {y : Sp} {P : List Sp} {c : Sp} (h : Path S y (P ++ [c])) : y = c := by
  obtain ⟨q, e⟩ := h.last
  have := (List.append_inj' e rfl).2
  simpa using this.symm
/-- What is at or below a kid is below. -/
theorem Bel.kid {S : List Sl} {P : List Sp} {s : Sl} {y : Sp} (hp : Path S s.a (P ++ [s.a])) (h : Bel S s.a (P ++ [s.a]) y) : ∃ r, Path S y (P ++ s.a :: r) := by
  rcases h with rfl | ⟨c, r, h⟩
  · exact ⟨[], hp⟩
  · exact ⟨c :: r, by simpa using h⟩
theorem rowOf_ne {τ : St} {w : V} {z b : Nat} {es : List (List V)} {cs : List V} (h : RowOf τ w z es) (hb : τ.objs[b]? = some (.cells cs)) : ∀ n cap z', w ≠ .osl b n cap z' := by
  rintro n cap z' rfl
  rcases h with ⟨R, q, h, -⟩ | ⟨j, cap', h, h1, -⟩
  · cases h
  · cases h
    rw [hb] at h1; cases h1
theorem rowOf_nm {τ : St} {w : V} {z b : Nat} {es : List (List V)} {lv : List LK} {ms : List (V × V)} {ver : Nat} (h : RowOf τ w z es) (hb : τ.objs[b]? = some (.mp lv ms ver)) : ∀ n cap z', w ≠ .osl b n cap z' := by
  rintro n cap z' rfl
  rcases h with ⟨R, q, h, -⟩ | ⟨j, cap', h, h1, -⟩
  · cases h
  · cases h
    rw [hb] at h1; cases h1
theorem Env.step {τ τ' : St} {kb ob wb mk ver : Nat} {T : Kl} {w : V} {R : Nat → Prop} {es : List (List V)} (h : Env τ kb ob wb mk ver T) (hr : RowOf τ w 4 es) (hw : Wst (OwnO ob w) R τ τ') : Env τ' kb ob wb mk ver T := by
  have hn : ∀ b, b ≠ ob → (∀ n cap z, w ≠ .osl b n cap z) → ¬ OwnO ob w b := fun b h1 h2 h3 => h3.elim h1 fun ⟨n, cap, z, e⟩ => h2 n cap z e
  exact ⟨hw.objs _ _ (hn _ h.ne.1 (rowOf_ne hr h.kbox)) h.kbox, hw.objs _ _ (hn _ h.ne.2.1 (rowOf_ne hr h.wbox)) h.wbox, hw.objs _ _ (hn _ h.ne.2.2 (rowOf_nm hr h.map)) h.map, fun x q es hx => Nat.lt_of_lt_of_le (h.lt x q es hx) hw.llen, h.ne⟩
theorem sorted_kids {S : List Sl} {T : Kl} (hT : GoodK S T) {x : Sp} {q : Nat} {es K : List Sl} (hlk : lookK x T = some (q, es)) (hp : K.Perm es) (hs : K.Pairwise fun a b => less a.a b.a = false) : Kids S x K := by
  have hnd : (K.map (·.a)).Nodup := (hp.map _).nodup_iff.2 (hT.nd x q es hlk)
  have h1 := List.pairwise_map.1 hnd
  refine ⟨(hs.and h1).imp fun {a b} h => less_of h.1 h.2, fun s => ?_⟩
  rw [hp.mem_iff]; exact hT.mem x q es hlk s
section
variable {S : List Sl} {T : Kl} {kb ob wb mk ver : Nat}
set_option maxRecDepth 100000 in
set_option maxHeartbeats 6400000 in
theorem walk_ok (hS : Fine S) (hT : GoodK S T) (hl : S.length ≤ 1000) : ∀ (n : Nat) (τ : St) (x : Sp) (P : List Sp) (wo : V) (o : List Sl), Deep S x n → ((x = zs ∧ P = []) ∨ Path S x P) → Env τ kb ob wb mk ver T →
    τ.objs[ob]? = some (.cells [wo]) → RowOf τ wo 4 (slsV o) → o.length + (S.length + 1) * (n + 1) ≤ 100000000 → (∀ y q es, lookK y T = some (q, es) → Bel S x P y → τ.live[q]? = some true) →
    CallA Try.prog 46 [spV x, .ptr (some (kb, 0)), .ptr (some (ob, 0)), .ptr (some (wb, 0))] τ fun v τ' => ∃ wo' out, Dfs S x out ∧ τ'.objs[ob]? = some (.cells [wo']) ∧ RowOf τ' wo' 4 (slsV (o ++ out)) ∧
      Wst (OwnO ob wo) (Rts S T x P) τ τ' ∧ (∀ j n cap z, wo' = .osl j n cap z → (∃ n' cap', wo = .osl j n' cap' z) ∨ τ.objs.length ≤ j) := by
  intro n
  induction n using Nat.strongRecOn with
  | ind n ih =>
  intro τ x P wo o hx hP hE ho hr hsz hlv
  have kid : ∀ s ∈ S, upS S s = x → ∃ m, n = m + 1 ∧ Deep S s.a m := by
    intro s hs hu
    cases n with
    | zero => exact (hx.pos hS hs hu).elim
    | succ m => exact ⟨m, rfl, hx.kid hS hs hu⟩
  refine fn_at Try.func46 (by decide) comp46 rfl fun Q q1 q2 => ?_
  have e1 := hE.kbox
  have e2 := hE.wbox
  have e3 := hE.map
  have hk : keyFits KL (.agg [.int .i64 x.c, .int .i64 x.r]) = true := rfl
  have hfi := find_K x T
  cases hlk : lookK x T with
  | none =>
    rw [hlk] at hfi
    simp -implicitDefEqProofs only [go_sem, Nat.reduceBEq, Nat.reduceAdd, eq_self, true_and, and_true, and_self, List.getElem?_cons_zero, List.getElem?_cons_succ, Nat.reduceLeDiff, Nat.zero_add, Nat.reduceSub, Nat.le_refl, c46, spV, spC, e1, e2, e3, hk, hfi, Option.map_none]
    refine cm_nil sort_none ?_
    rintro v σ' ⟨rfl, rfl⟩
    refine ⟨kept_none, ?_⟩
    simp -implicitDefEqProofs only [go_sem, Nat.reduceBEq, Nat.reduceAdd, eq_self, true_and, and_true, and_self, List.getElem?_cons_zero, List.getElem?_cons_succ, Nat.reduceLeDiff, Nat.zero_add, Nat.reduceSub, Nat.le_refl, Nat.lt_irrefl]
    refine loop_at (fun (_ : Unit) => ⟨[(14, .v (.int .i64 0)), (15, .v (.int .i64 0))], []⟩) (fun _ τ' => τ' = σ') (fun _ => 0) () ?_ ?_ ?_
    · refine .inr ?_
      simp -implicitDefEqProofs only [go_sem, Nat.reduceBEq, Nat.reduceAdd, eq_self, true_and, and_true, and_self, List.getElem?_cons_zero, List.getElem?_cons_succ, Nat.reduceLeDiff, Nat.zero_add, Nat.reduceSub, Nat.le_refl, Nat.lt_irrefl]
      try trivial
      try simp
    · rfl
    rintro u τ' rfl Z z1 z2 z3
    have h0 : decide ((0 : Int) < 0) = false := by decide
    simp -implicitDefEqProofs only [go_sem, Nat.reduceBEq, Nat.reduceAdd, eq_self, true_and, and_true, and_self, List.getElem?_cons_zero, List.getElem?_cons_succ, Nat.reduceLeDiff, Nat.zero_add, Nat.reduceSub, Nat.le_refl, h0]
    refine z2 _ _ _ ?_
    simp -implicitDefEqProofs only [go_sem, Nat.reduceBEq, Nat.reduceAdd, eq_self, true_and, and_true, and_self, List.getElem?_cons_zero, List.getElem?_cons_succ, Nat.reduceLeDiff, Nat.zero_add, Nat.reduceSub, Nat.le_refl, Nat.lt_irrefl]
    refine q1 _ _ ?_
    simp -implicitDefEqProofs only [go_sem, Nat.reduceBEq, Nat.reduceAdd, eq_self, true_and, and_true, and_self, List.getElem?_cons_zero, List.getElem?_cons_succ, Nat.reduceLeDiff, Nat.zero_add, Nat.reduceSub, Nat.le_refl, Nat.lt_irrefl]
    have hK : Kids S x [] := ⟨.nil, fun s => ⟨fun h => (by cases h), fun h => absurd h.2 (hT.no x hlk s h.1)⟩⟩
    exact ⟨wo, [], ⟨[], hK, .nil⟩, ho, by rw [List.append_nil]; exact hr, .refl _ _ _, fun j n cap z e => .inl ⟨n, cap, e⟩⟩
  | some p =>
    obtain ⟨q, es⟩ := p
    rw [hlk] at hfi
    have hql := hlv x q es hlk (.inl rfl)
    have hesn : es.Nodup := (List.pairwise_map.1 (hT.nd x q es hlk)).imp fun {a b} h e => h (by rw [e])
    have hesl : es.length ≤ S.length := nodup_len hesn fun s hs => ((hT.mem x q es hlk s).1 hs).1
    simp -implicitDefEqProofs only [go_sem, Nat.reduceBEq, Nat.reduceAdd, eq_self, true_and, and_true, and_self, List.getElem?_cons_zero, List.getElem?_cons_succ, Nat.reduceLeDiff, Nat.zero_add, Nat.reduceSub, Nat.le_refl, c46, spV, spC, e1, e2, e3, hk, hfi, Option.map_some]
    refine cm_at (sort_sls hql (by omega)) ?_
    rintro v r' es' σ' ⟨K, p1, p2, rfl, rfl, rfl, rfl⟩
    refine ⟨kept_none, ?_⟩
    have hK := sorted_kids hT hlk p1 p2
    have hKl : K.length = es.length := p1.length_eq
    simp -implicitDefEqProofs only [go_sem, Nat.reduceBEq, Nat.reduceAdd, eq_self, true_and, and_true, and_self, List.getElem?_cons_zero, List.getElem?_cons_succ, Nat.reduceLeDiff, Nat.zero_add, Nat.reduceSub, Nat.le_refl, renL, beq_self_eq_true, cond_true]
    have hTq : ∀ {y : Sp} {r : Nat} {es' : List Sl}, lookK y T = some (r, es') → r ≠ τ.live.length := fun h e => by have := hE.lt _ _ _ h; omega
    have hsp : ∀ s ∈ K, Path S s.a (P ++ [s.a]) := fun s hs => by
      obtain ⟨h1, h2⟩ := (hK.mem s).1 hs
      exact up_path hS h1 (by rw [h2]; exact hP)
    refine loop_at (fun (y : Nat × List Sl × V) => ⟨[(2, .v (.ptr (some (ob, 0)))), (3, .v (.ptr (some (wb, 0)))), (13, .v (.sl false (.own τ.live.length) 4 (slsV K))), (14, .v (.int .i64 K.length)), (15, .v (.int .i64 y.1))], []⟩)
      (fun y τ' => y.1 ≤ K.length ∧ DfsL S (K.take y.1) y.2.1 ∧ Env τ' kb ob wb mk ver T ∧ τ'.objs[ob]? = some (.cells [y.2.2]) ∧ RowOf τ' y.2.2 4 (slsV (o ++ y.2.1)) ∧ Wst (OwnO ob wo) (Rts S T x P) τ τ' ∧
        (∀ j n cap z, y.2.2 = .osl j n cap z → (∃ n' cap', wo = .osl j n' cap' z) ∨ τ.objs.length ≤ j) ∧ τ'.live[τ.live.length]? = some true ∧
        (∀ z q' es', lookK z T = some (q', es') → (∃ (k : Nat) (hk : k < K.length), y.1 ≤ k ∧ ∃ r, Path S z (P ++ K[k].a :: r)) → τ'.live[q']? = some true)) (fun y => K.length - y.1) (0, [], wo) ?_ ?_ ?_
    · refine .inr ?_
      simp -implicitDefEqProofs only [go_sem, Nat.reduceBEq, Nat.reduceAdd, eq_self, true_and, and_true, and_self, List.getElem?_cons_zero, List.getElem?_cons_succ, Nat.reduceLeDiff, Nat.zero_add, Nat.reduceSub, Nat.le_refl, slsV_length]
      try trivial
      try simp
    · have hW : Wst (OwnO ob wo) (Rts S T x P) τ ⟨τ.objs, τ.live.set q false ++ [true]⟩ := by
        refine ⟨fun _ _ _ h => h, fun r hr hl => ?_, Nat.le_refl _, by simp⟩
        have : q ≠ r := fun e => hr (e ▸ ⟨x, es, hlk, .inl rfl⟩)
        exact set_ne_live this hl true
      refine ⟨Nat.zero_le _, .nil, hE.step hr hW, ho, by rw [List.append_nil]; exact hr, hW, fun j n cap z e => .inl ⟨n, cap, e⟩, live_last' _ _ _, ?_⟩
      rintro z q' es' hz ⟨k, hk, -, r, hp⟩
      have hl' := hlv z q' es' hz (.inr ⟨_, _, hp⟩)
      have : q ≠ q' := by
        rintro rfl
        have := hT.inj _ _ _ _ _ hlk hz
        subst this
        rcases hP with ⟨hx0, rfl⟩ | hP
        · obtain ⟨t, ht, he⟩ := hp.has
          exact hS.nz t ht (he.trans hx0)
        · have := congrArg List.length (hP.uniq hS hp)
          simp at this
      exact set_ne_live this hl' true
    rintro ⟨i, o1, w⟩ τ' ⟨g1, g2, g3, g4, g5, g6, g7, g8, g9⟩ Z z1 z2 z3
    simp only at g1 g2 g4 g5 g7 g9
    have hol := dfsL_len hS hx hK (List.take_sublist _ _) g2
    simp -implicitDefEqProofs only [go_sem, Nat.reduceBEq, Nat.reduceAdd, eq_self, true_and, and_true, and_self, List.getElem?_cons_zero, List.getElem?_cons_succ, Nat.reduceLeDiff, Nat.zero_add, Nat.reduceSub, Nat.le_refl, Nat.lt_irrefl]
    refine CondW_b (fun hcc => ?_) (fun hcc => ?_)
    case refine_2 =>
      have hi : ¬ i < K.length := by simpa using hcc
      rw [List.take_of_length_le (by omega)] at g2
      simp -implicitDefEqProofs only [go_sem, Nat.reduceBEq, Nat.reduceAdd, eq_self, true_and, and_true, and_self, List.getElem?_cons_zero, List.getElem?_cons_succ, Nat.reduceLeDiff, Nat.zero_add, Nat.reduceSub, Nat.le_refl, Nat.lt_irrefl]
      refine z2 _ _ _ ?_
      simp -implicitDefEqProofs only [go_sem, Nat.reduceBEq, Nat.reduceAdd, eq_self, true_and, and_true, and_self, List.getElem?_cons_zero, List.getElem?_cons_succ, Nat.reduceLeDiff, Nat.zero_add, Nat.reduceSub, Nat.le_refl, Nat.lt_irrefl]
      refine q1 _ _ ?_
      simp -implicitDefEqProofs only [go_sem, Nat.reduceBEq, Nat.reduceAdd, eq_self, true_and, and_true, and_self, List.getElem?_cons_zero, List.getElem?_cons_succ, Nat.reduceLeDiff, Nat.zero_add, Nat.reduceSub, Nat.le_refl, Nat.lt_irrefl]
      exact ⟨w, o1, ⟨K, hK, g2⟩, g4, g5, g6, g7⟩
    have hi : i < K.length := by simpa using hcc
    have hmemK := List.getElem_mem hi
    have hmem := (hK.mem K[i]).1 hmemK
    have hpi := hsp _ hmemK
    obtain ⟨m, hm, hdp⟩ := kid _ hmem.1 hmem.2
    have hget := slsV_get hi
    have hib : (i : Int) < (slsV K).length := by rw [slsV_length]; omega
    have hw64 : IntKind.i64.wrap ((i : Int) + 1) = ((i + 1 : Nat) : Int) := by rw [i64_in _ (by omega)]; omega
    have htk : K.take (i + 1) = K.take i ++ [K[i]] := List.take_succ_eq_append_getElem hi
    have hlater : ∀ (k : Nat) (hk : k < K.length), i + 1 ≤ k → less K[k].a K[i].a = true := fun k hk hik => (List.pairwise_iff_getElem.1 hK.desc) i k hi hk (by omega)
    have hrem : ∀ z q' es', lookK z T = some (q', es') → (∃ r, Path S z (P ++ K[i].a :: r)) → τ'.live[q']? = some true := fun z q' es' h1 ⟨r, h2⟩ => g9 z q' es' h1 ⟨i, hi, Nat.le_refl _, r, h2⟩
    generalize K[i] = s at *
    simp -implicitDefEqProofs only [go_sem, Nat.reduceBEq, Nat.reduceAdd, eq_self, true_and, and_true, and_self, List.getElem?_cons_zero, List.getElem?_cons_succ, Nat.reduceLeDiff, Nat.zero_add, Nat.reduceSub, Nat.le_refl, hget, slC, g4]
    refine ⟨⟨by omega, hib⟩, g8, ?_⟩
    have hsl : (slsV (o ++ o1)).length < 1073741824 := by
      rw [slsV_length, List.length_append]
      have : (S.length + 1) * (n + 1) = (S.length + 1) * n + (S.length + 1) := Nat.mul_succ _ _
      omega
    have g5' : RowOf ⟨τ'.objs, τ'.live ++ [true]⟩ w 4 (slsV (o ++ o1)) := g5
    refine ao_at (ao_push (e := slC s) g5' hsl rfl (live_last _ _)) ?_
    rintro v τb ⟨b1, b2, b3, b4, jv, nv, cv, rfl, b5, b6⟩
    refine ⟨kept_none, ?_⟩
    have hob : τb.objs[ob]? = some (.cells [w]) := b4 _ _ (rowOf_ne g5 g4) g4
    have hwb0 : τb.objs[wb]? = _ := b4 _ _ (rowOf_ne g5 g3.wbox) g3.wbox
    have hne := g3.ne
    have hobc : (τb.setC ob [.osl jv nv cv 4]).objs[ob]? = some (.cells [.osl jv nv cv 4]) := by
      show (τb.objs.set _ _)[_]? = _
      rw [List.getElem?_set_self (List.getElem?_eq_some_iff.1 hob).1]
    have hwbc : (τb.setC ob [.osl jv nv cv 4]).objs[wb]? = some (.cells [.fn 46 [.ptr (some (kb, 0)), .ptr (some (ob, 0)), .ptr (some (wb, 0))]]) := by
      show (τb.objs.set _ _)[_]? = _
      rw [List.getElem?_set_ne (Ne.symm hne.2.1)]; exact hwb0
    have hjv : jv ≠ ob := by
      rintro rfl
      exact rowOf_ne b1 hob _ _ _ rfl
    have hlc : (τb.setC ob [.osl jv nv cv 4]).live = τ'.live ++ [true] := b2
    have hWc : Wst (OwnO ob w) (fun _ => False) τ' (τb.setC ob [.osl jv nv cv 4]) := by
      refine ⟨fun j ob' hj hx => ?_, fun r _ hr => by rw [hlc]; exact (ext_live ⟨τ'.objs, τ'.live⟩ true).live _ hr, ?_, by rw [hlc]; simp⟩
      · show (τb.objs.set _ _)[_]? = _
        rw [List.getElem?_set_ne (fun e => hj (.inl e.symm))]
        exact b4 _ _ (fun n cap z e => hj (.inr ⟨n, cap, z, e⟩)) hx
      · show τ'.objs.length ≤ (τb.objs.set _ _).length
        rw [List.length_set]; exact b3
    have hRc : RowOf (τb.setC ob [.osl jv nv cv 4]) (.osl jv nv cv 4) 4 (slsV (o ++ o1 ++ [s])) := by
      have e : slsV (o ++ o1 ++ [s]) = slsV (o ++ o1) ++ [slC s] := by simp [slsV]
      rw [e]
      exact rowOf_up b1 (updS_setC (σ := τb) (j := ob)) fun k n cap z e => by cases e; exact hjv
    have hEc := g3.step g5 hWc
    simp -implicitDefEqProofs only [go_sem, Nat.reduceBEq, Nat.reduceAdd, eq_self, true_and, and_true, and_self, List.getElem?_cons_zero, List.getElem?_cons_succ, Nat.reduceLeDiff, Nat.zero_add, Nat.reduceSub, Nat.le_refl, hob, hwbc]
    generalize τb.setC ob [.osl jv nv cv 4] = τc at *
    have hsz2 : (o ++ o1 ++ [s]).length + (S.length + 1) * (m + 1) ≤ 100000000 := by
      subst hm
      have : (S.length + 1) * (m + 1 + 1) = (S.length + 1) * (m + 1) + (S.length + 1) := Nat.mul_succ _ _
      simp only [List.length_append, List.length_cons, List.length_nil]
      omega
    have hbel : ∀ {y : Sp}, Bel S s.a (P ++ [s.a]) y → ∃ r, Path S y (P ++ s.a :: r) := fun h => h.kid hpi
    have hlv2 : ∀ (y : Sp) (q' : Nat) (es' : List Sl), lookK y T = some (q', es') → Bel S s.a (P ++ [s.a]) y → τc.live[q']? = some true := fun y q' es' h1 h2 => by
      exact hWc.live _ (fun h => h) (hrem y q' es' h1 (hbel h2))
    refine call_at (ih m (by omega) τc s.a (P ++ [s.a]) _ (o ++ o1 ++ [s]) hdp (.inr hpi) hEc hobc hRc hsz2 hlv2) ?_
    rintro v τd ⟨wo', out, ⟨K', hK', hD'⟩, d1, d2, d3, d4⟩
    refine ⟨kept_none, ?_⟩
    have hEd := hEc.step hRc d3
    have hRts : ∀ {r : Nat}, Rts S T s.a (P ++ [s.a]) r → ∃ y es', lookK y T = some (r, es') ∧ ∃ r', Path S y (P ++ s.a :: r') := fun ⟨y, es', h1, h2⟩ => ⟨y, es', h1, hbel h2⟩
    have hoc : τ'.objs.length ≤ τc.objs.length := hWc.olen
    have hWd : Wst (OwnO ob wo) (Rts S T x P) τ τd := by
      refine (g6.trans hWc (fun j hj => ?_) (fun _ h => h.elim)).trans d3 (fun j hj => ?_) (fun r hr' => ?_)
      · rcases hj with rfl | ⟨n', c', z', e⟩
        · exact .inl (.inl rfl)
        · exact (g7 _ _ _ _ e).imp (fun ⟨a, b, h⟩ => .inr ⟨a, b, z', h⟩) id
      · rcases hj with rfl | ⟨n', c', z', e⟩
        · exact .inl (.inl rfl)
        · cases e
          rcases b5 with ⟨a, b, h⟩ | h
          · exact (g7 _ _ _ _ h).imp (fun ⟨a, b, h⟩ => .inr ⟨a, b, _, h⟩) id
          · exact .inr (Nat.le_trans g6.olen h)
      · obtain ⟨y, es', h1, r', h2⟩ := hRts hr'
        exact .inl ⟨y, es', h1, .inr ⟨_, _, h2⟩⟩
    have hnew : τd.live[τ.live.length]? = some true := by
      refine d3.live _ (fun h => ?_) (hWc.live _ (fun h => h) g8)
      obtain ⟨y, es', h1, -⟩ := hRts h
      exact hTq h1 rfl
    simp -implicitDefEqProofs only [go_sem, Nat.reduceBEq, Nat.reduceAdd, eq_self, true_and, and_true, and_self, List.getElem?_cons_zero, List.getElem?_cons_succ, Nat.reduceLeDiff, Nat.zero_add, Nat.reduceSub, Nat.le_refl, hw64]
    refine z1 (i + 1, o1 ++ s :: out, wo') _ _ (.inr ?_) (by simp only; omega) ⟨by simp only; omega, by rw [htk]; exact g2.snoc hK' hD', hEd, d1, ?_, hWd, ?_, hnew, ?_⟩
    · simp -implicitDefEqProofs only [go_sem, Nat.reduceBEq, Nat.reduceAdd, eq_self, true_and, and_true, and_self, List.getElem?_cons_zero, List.getElem?_cons_succ, Nat.reduceLeDiff, Nat.zero_add, Nat.reduceSub, Nat.le_refl, Nat.lt_irrefl]
      try trivial
    · have e : o ++ (o1 ++ s :: out) = o ++ o1 ++ [s] ++ out := by simp
      rw [e]; exact d2
    · intro j n' c' z' e
      rcases d4 _ _ _ _ e with ⟨a, b, h⟩ | h
      · cases h
        rcases b5 with ⟨a, b, h⟩ | h
        · exact g7 _ _ _ _ h
        · exact .inr (Nat.le_trans g6.olen h)
      · exact .inr (Nat.le_trans g6.olen (Nat.le_trans hoc h))
    · rintro z q' es' hz ⟨k, hk', hik, r, hp⟩
      refine d3.live _ (fun h => ?_) (hWc.live _ (fun h => h) (g9 z q' es' hz ⟨k, hk', by omega, r, hp⟩))
      obtain ⟨y, es2, h1, r', h2⟩ := hRts h
      have := hT.inj _ _ _ _ _ h1 hz
      subst this
      have he := List.append_cancel_left (h2.uniq hS hp)
      simp only [List.cons.injEq] at he
      have := hlater k hk' hik
      rw [← he.1, less_irr] at this; cases this
end
end Go.VL.rga
