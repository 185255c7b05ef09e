import Derived.Test.YtfaipokjiallmaaB1
import Derived.Test.YtfaipokjiallmaaProg
import Derived.IntWalk
set_option linter.unusedVariables false
set_option linter.unusedSimpArgs false
namespace Go.VL.wire
open Go Go.VL Go.Proofs
/-- topiary/topiarylaw06.WirePuts: 1 parameters, 31 slots. -/
def c3 : C :=
  .seq (.ops [⟨none, .bxL 1 (.t 0)⟩,
    ⟨none, .mv 2 (.c (.bool false))⟩])
  (.seq (.ops [⟨none, .ld 8 (.t 1) 13 true⟩,
    ⟨none, .ca (some 9) 12 [(.t 8)]⟩,
    ⟨none, .ca (some 10) 11 [(.t 9)]⟩,
    ⟨none, .mv 7 (.t 10)⟩,
    ⟨none, .ex 11 (.t 7) 0⟩,
    ⟨none, .ex 12 (.t 7) 1⟩,
    ⟨none, .mv 3 (.t 11)⟩,
    ⟨none, .mv 4 (.t 12)⟩])
  (.seq (.ops [⟨none, .ld 14 (.t 1) 13 true⟩,
    ⟨none, .ca (some 15) 13 [(.t 14)]⟩,
    ⟨none, .mv 13 (.t 15)⟩,
    ⟨none, .ex 16 (.t 13) 0⟩,
    ⟨none, .ex 17 (.t 13) 1⟩,
    ⟨none, .mv 5 (.t 16)⟩,
    ⟨none, .mv 6 (.t 17)⟩])
  (.seq (.ops [⟨none, .mv 18 (.t 3)⟩,
    ⟨none, .cS 19 (.t 18)⟩,
    ⟨none, .mv 20 (.t 5)⟩,
    ⟨none, .cS 21 (.t 20)⟩,
    ⟨none, .bi 22 .eql (.t 19) (.t 21)⟩,
    ⟨none, .mv 23 (.t 22)⟩,
    ⟨some (23, true), .mv 24 (.t 4)⟩,
    ⟨some (23, true), .mv 25 (.t 6)⟩,
    ⟨some (23, true), .bi 26 .eql (.t 24) (.t 25)⟩,
    ⟨none, .pk 27 (.t 23) (.t 26) (.c (.bool false))⟩,
    ⟨none, .mv 28 (.t 27)⟩,
    ⟨some (28, true), .ca (some 29) 14 []⟩,
    ⟨none, .pk 30 (.t 28) (.t 29) (.c (.bool false))⟩,
    ⟨none, .mv 2 (.t 30)⟩])
  (.ret))))
theorem comp3 : compFn Try.prog [1] Try.f3 = some ([.t 2], c3) := by kernel_rfl
/-- topiary/topiarylaw06.WireGets: 1 parameters, 30 slots. -/
def c4 : C :=
  .seq (.ops [⟨none, .mv 2 (.c (.bool false))⟩])
  (.seq (.ops [⟨none, .lit 8 1 []⟩,
    ⟨none, .mv 9 (.t 0)⟩,
    ⟨none, .ap 10 1 (.t 8) (.t 9)⟩,
    ⟨none, .ca (some 11) 15 [(.t 10)]⟩,
    ⟨none, .mv 7 (.t 11)⟩,
    ⟨none, .ex 12 (.t 7) 0⟩,
    ⟨none, .ex 13 (.t 7) 1⟩,
    ⟨none, .alL 3 [.int .i64 0, .int .i64 0, .int .i64 0, .sl true .pub 0 [], .int .i64 0, .int .i64 0, .int .i64 0, .int .i64 0, .int .i64 0, .int .i64 0, .int .i64 0, .str [], .str []]⟩,
    ⟨none, .st (.t 3) (.t 12) 13⟩,
    ⟨none, .mv 4 (.t 13)⟩])
  (.seq (.ops [⟨none, .mv 15 (.t 0)⟩,
    ⟨none, .ca (some 16) 16 [(.t 15)]⟩,
    ⟨none, .mv 14 (.t 16)⟩,
    ⟨none, .ex 17 (.t 14) 0⟩,
    ⟨none, .ex 18 (.t 14) 1⟩,
    ⟨none, .alL 5 [.int .i64 0, .int .i64 0, .int .i64 0, .sl true .pub 0 [], .int .i64 0, .int .i64 0, .int .i64 0, .int .i64 0, .int .i64 0, .int .i64 0, .int .i64 0, .str [], .str []]⟩,
    ⟨none, .st (.t 5) (.t 17) 13⟩,
    ⟨none, .mv 6 (.t 18)⟩])
  (.seq (.ops [⟨none, .ld 19 (.t 3) 13 true⟩,
    ⟨none, .ld 20 (.t 5) 13 true⟩,
    ⟨none, .ca (some 21) 17 [(.t 19), (.t 20)]⟩,
    ⟨none, .mv 22 (.t 21)⟩,
    ⟨some (22, true), .mv 23 (.t 4)⟩,
    ⟨some (22, true), .mv 24 (.t 6)⟩,
    ⟨some (22, true), .bi 25 .eql (.t 23) (.t 24)⟩,
    ⟨none, .pk 26 (.t 22) (.t 25) (.c (.bool false))⟩,
    ⟨none, .mv 27 (.t 26)⟩,
    ⟨some (27, true), .ca (some 28) 14 []⟩,
    ⟨none, .pk 29 (.t 27) (.t 28) (.c (.bool false))⟩,
    ⟨none, .mv 2 (.t 29)⟩])
  (.ret))))
theorem comp4 : compFn Try.prog [3, 5] Try.f4 = some ([.t 2], c4) := by kernel_rfl
/-- topiary/topiarylaw06.WireChecks: 1 parameters, 12 slots. -/
def c5 : C :=
  .seq (.ops [⟨none, .bxL 1 (.t 0)⟩,
    ⟨none, .mv 2 (.c (.bool false))⟩])
  (.seq (.opsD [⟨none, .ld 3 (.t 1) 5 true⟩,
    ⟨none, .ld 6 (.t 1) 5 true⟩,
    ⟨none, .ca (some 4) 19 [(.t 3)]⟩,
    ⟨none, .ca (some 5) 18 [(.t 4)]⟩,
    ⟨none, .ca (some 7) 20 [(.t 6)]⟩,
    ⟨none, .bi 8 .eql (.t 5) (.t 7)⟩,
    ⟨none, .mv 9 (.t 8)⟩,
    ⟨some (9, true), .ca (some 10) 14 []⟩,
    ⟨none, .pk 11 (.t 9) (.t 10) (.c (.bool false))⟩,
    ⟨none, .mv 2 (.t 11)⟩])
  (.ret))
theorem comp5 : compFn Try.prog [1] Try.f5 = some ([.t 2], c5) := by kernel_rfl
/-- topiary/topiarylaw06.WireWrites: 1 parameters, 38 slots. -/
def c6 : C :=
  .seq (.ops [⟨none, .bxL 1 (.t 0)⟩,
    ⟨none, .mv 2 (.c (.bool false))⟩])
  (.seq (.ops [⟨none, .ld 8 (.t 1) 5 true⟩,
    ⟨none, .ca (some 9) 19 [(.t 8)]⟩,
    ⟨none, .alL 3 [.int .i64 0, .int .i64 0, .sl true .pub 0 [], .bool false, .sl true .pub 0 []]⟩,
    ⟨none, .st (.t 3) (.t 9) 5⟩])
  (.seq (.ops [⟨none, .ld 11 (.t 3) 5 true⟩,
    ⟨none, .ca (some 12) 21 [(.t 11)]⟩,
    ⟨none, .mv 10 (.t 12)⟩,
    ⟨none, .ex 13 (.t 10) 0⟩,
    ⟨none, .ex 14 (.t 10) 1⟩,
    ⟨none, .mv 4 (.t 13)⟩,
    ⟨none, .mv 5 (.t 14)⟩])
  (.seq (.ops [⟨none, .ld 16 (.t 1) 5 true⟩,
    ⟨none, .ca (some 17) 22 [(.t 16)]⟩,
    ⟨none, .mv 15 (.t 17)⟩,
    ⟨none, .ex 18 (.t 15) 0⟩,
    ⟨none, .ex 19 (.t 15) 1⟩,
    ⟨none, .mv 6 (.t 18)⟩,
    ⟨none, .mv 7 (.t 19)⟩])
  (.seq (.ops [⟨none, .mv 20 (.t 4)⟩,
    ⟨none, .cS 21 (.t 20)⟩,
    ⟨none, .mv 22 (.t 6)⟩,
    ⟨none, .cS 23 (.t 22)⟩,
    ⟨none, .bi 24 .eql (.t 21) (.t 23)⟩,
    ⟨none, .mv 25 (.t 24)⟩,
    ⟨some (25, true), .mv 26 (.t 5)⟩,
    ⟨some (25, true), .mv 27 (.t 7)⟩,
    ⟨some (25, true), .bi 28 .eql (.t 26) (.t 27)⟩,
    ⟨none, .pk 29 (.t 25) (.t 28) (.c (.bool false))⟩,
    ⟨none, .mv 30 (.t 29)⟩,
    ⟨some (30, true), .ld 31 (.t 3) 5 true⟩,
    ⟨some (30, true), .ld 32 (.t 1) 5 true⟩,
    ⟨some (30, true), .ca (some 33) 23 [(.t 31), (.t 32)]⟩,
    ⟨none, .pk 34 (.t 30) (.t 33) (.c (.bool false))⟩,
    ⟨none, .mv 35 (.t 34)⟩,
    ⟨some (35, true), .ca (some 36) 14 []⟩,
    ⟨none, .pk 37 (.t 35) (.t 36) (.c (.bool false))⟩,
    ⟨none, .mv 2 (.t 37)⟩])
  (.ret)))))
theorem comp6 : compFn Try.prog [1, 3] Try.f6 = some ([.t 2], c6) := by kernel_rfl
/-- topiary/topiarylaw06.WireReads: 1 parameters, 47 slots. -/
def c7 : C :=
  .seq (.ops [⟨none, .mv 2 (.c (.bool false))⟩])
  (.seq (.ops [⟨none, .lit 9 1 []⟩,
    ⟨none, .mv 10 (.t 0)⟩,
    ⟨none, .ap 11 1 (.t 9) (.t 10)⟩,
    ⟨none, .mv 3 (.t 11)⟩])
  (.seq (.ops [⟨none, .mv 13 (.t 3)⟩,
    ⟨none, .ca (some 14) 24 [(.t 13)]⟩,
    ⟨none, .mv 12 (.t 14)⟩,
    ⟨none, .ex 15 (.t 12) 0⟩,
    ⟨none, .ex 16 (.t 12) 1⟩,
    ⟨none, .alL 4 [.int .i64 0, .int .i64 0, .sl true .pub 0 [], .bool false, .sl true .pub 0 []]⟩,
    ⟨none, .st (.t 4) (.t 15) 5⟩,
    ⟨none, .mv 5 (.t 16)⟩])
  (.seq (.ops [⟨none, .mv 18 (.t 0)⟩,
    ⟨none, .ca (some 19) 25 [(.t 18)]⟩,
    ⟨none, .mv 17 (.t 19)⟩,
    ⟨none, .ex 20 (.t 17) 0⟩,
    ⟨none, .ex 21 (.t 17) 1⟩,
    ⟨none, .alL 6 [.int .i64 0, .int .i64 0, .sl true .pub 0 [], .bool false, .sl true .pub 0 []]⟩,
    ⟨none, .st (.t 6) (.t 20) 5⟩,
    ⟨none, .mv 7 (.t 21)⟩])
  (.seq (.seq (.ops [⟨none, .mv 8 (.c (.int .i64 0))⟩])
  (.block 0 (.loop (.seq (.seq (.ops [⟨none, .mv 22 (.t 8)⟩,
    ⟨none, .mv 23 (.t 3)⟩,
    ⟨none, .ln 24 .sl (.t 23)⟩,
    ⟨none, .bi 25 .lss (.t 22) (.t 24)⟩])
  (.cond (.t 25) (.skip)
    (.exit 0)))
  (.seq (.block 1 (.ops [⟨none, .mv 28 (.t 3)⟩,
    ⟨none, .mv 29 (.t 8)⟩,
    ⟨none, .mv 30 (.t 3)⟩,
    ⟨none, .mv 31 (.t 8)⟩,
    ⟨none, .ia 32 (.t 30) (.t 31) 1⟩,
    ⟨none, .ld 33 (.t 32) 1 false⟩,
    ⟨none, .bi 34 .sub (.c (.int .u8 255)) (.t 33)⟩,
    ⟨none, .ia 35 (.t 28) (.t 29) 1⟩,
    ⟨none, .se (.t 35) (.t 34) 1⟩]))
  (.ops [⟨none, .mv 26 (.t 8)⟩,
    ⟨none, .bi 27 .add (.t 26) (.c (.int .i64 1))⟩,
    ⟨none, .mv 8 (.t 27)⟩]))))))
  (.seq (.ops [⟨none, .ld 36 (.t 4) 5 true⟩,
    ⟨none, .ld 37 (.t 6) 5 true⟩,
    ⟨none, .ca (some 38) 23 [(.t 36), (.t 37)]⟩,
    ⟨none, .mv 39 (.t 38)⟩,
    ⟨some (39, true), .mv 40 (.t 5)⟩,
    ⟨some (39, true), .mv 41 (.t 7)⟩,
    ⟨some (39, true), .bi 42 .eql (.t 40) (.t 41)⟩,
    ⟨none, .pk 43 (.t 39) (.t 42) (.c (.bool false))⟩,
    ⟨none, .mv 44 (.t 43)⟩,
    ⟨some (44, true), .ca (some 45) 14 []⟩,
    ⟨none, .pk 46 (.t 44) (.t 45) (.c (.bool false))⟩,
    ⟨none, .mv 2 (.t 46)⟩])
  (.ret))))))
theorem comp7 : compFn Try.prog [4, 6, 1000035] Try.f7 = some ([.t 2], c7) := by kernel_rfl
/-- topiary/topiarylaw06.WireBack: 2 parameters, 55 slots. -/
def c8 : C :=
  .seq (.ops [⟨none, .bxL 2 (.t 0)⟩,
    ⟨none, .mv 4 (.c (.bool false))⟩])
  (.seq (.ops [⟨none, .ld 14 (.t 2) 5 true⟩,
    ⟨none, .ca (some 15) 21 [(.t 14)]⟩,
    ⟨none, .mv 13 (.t 15)⟩,
    ⟨none, .ex 16 (.t 13) 0⟩,
    ⟨none, .ex 17 (.t 13) 1⟩,
    ⟨none, .mv 5 (.t 16)⟩,
    ⟨none, .mv 6 (.t 17)⟩])
  (.cut (.seq (.ops [⟨none, .mv 18 (.t 6)⟩,
    ⟨none, .bi 19 .eql (.t 18) (.c (.int .i64 0))⟩])
  (.cond (.t 19) (.seq (.ops [⟨none, .mv 21 (.t 5)⟩,
      ⟨none, .ca (some 22) 24 [(.t 21)]⟩,
      ⟨none, .mv 20 (.t 22)⟩,
      ⟨none, .ex 23 (.t 20) 0⟩,
      ⟨none, .ex 24 (.t 20) 1⟩,
      ⟨none, .alL 7 [.int .i64 0, .int .i64 0, .sl true .pub 0 [], .bool false, .sl true .pub 0 []]⟩,
      ⟨none, .st (.t 7) (.t 23) 5⟩,
      ⟨none, .mv 8 (.t 24)⟩])
    (.seq (.ops [⟨none, .mv 25 (.t 8)⟩,
      ⟨none, .bi 26 .neq (.t 25) (.c (.int .i64 0))⟩,
      ⟨none, .mv 27 (.t 26)⟩,
      ⟨some (27, false), .ld 28 (.t 2) 5 true⟩,
      ⟨some (27, false), .ld 29 (.t 7) 5 true⟩,
      ⟨some (27, false), .ca (some 30) 23 [(.t 28), (.t 29)]⟩,
      ⟨some (27, false), .un 31 .not (.t 30)⟩,
      ⟨none, .pk 32 (.t 27) (.c (.bool true)) (.t 31)⟩])
    (.cond (.t 32) (.seq (.ops [⟨none, .mv 4 (.c (.bool false))⟩])
      (.ret))
      (.skip))))
    (.skip)))
  (.seq (.ops [⟨none, .mv 34 (.t 1)⟩,
    ⟨none, .ca (some 35) 24 [(.t 34)]⟩,
    ⟨none, .mv 33 (.t 35)⟩,
    ⟨none, .ex 36 (.t 33) 0⟩,
    ⟨none, .ex 37 (.t 33) 1⟩,
    ⟨none, .alL 9 [.int .i64 0, .int .i64 0, .sl true .pub 0 [], .bool false, .sl true .pub 0 []]⟩,
    ⟨none, .st (.t 9) (.t 36) 5⟩,
    ⟨none, .mv 10 (.t 37)⟩])
  (.cut (.seq (.ops [⟨none, .mv 38 (.t 10)⟩,
    ⟨none, .bi 39 .eql (.t 38) (.c (.int .i64 0))⟩])
  (.cond (.t 39) (.seq (.ops [⟨none, .ld 41 (.t 9) 5 true⟩,
      ⟨none, .ca (some 42) 21 [(.t 41)]⟩,
      ⟨none, .mv 40 (.t 42)⟩,
      ⟨none, .ex 43 (.t 40) 0⟩,
      ⟨none, .ex 44 (.t 40) 1⟩,
      ⟨none, .mv 11 (.t 43)⟩,
      ⟨none, .mv 12 (.t 44)⟩])
    (.seq (.ops [⟨none, .mv 45 (.t 12)⟩,
      ⟨none, .bi 46 .neq (.t 45) (.c (.int .i64 0))⟩,
      ⟨none, .mv 47 (.t 46)⟩,
      ⟨some (47, false), .mv 48 (.t 11)⟩,
      ⟨some (47, false), .cS 49 (.t 48)⟩,
      ⟨some (47, false), .mv 50 (.t 1)⟩,
      ⟨some (47, false), .cS 51 (.t 50)⟩,
      ⟨some (47, false), .bi 52 .neq (.t 49) (.t 51)⟩,
      ⟨none, .pk 53 (.t 47) (.c (.bool true)) (.t 52)⟩])
    (.cond (.t 53) (.seq (.ops [⟨none, .mv 4 (.c (.bool false))⟩])
      (.ret))
      (.skip))))
    (.skip)))
  (.seq (.ops [⟨none, .ca (some 54) 14 []⟩,
    ⟨none, .mv 4 (.t 54)⟩])
  (.ret))))))
theorem comp8 : compFn Try.prog [2, 7, 9] Try.f8 = some ([.t 4], c8) := by kernel_rfl
/-- topiary/topiarylaw06.WireChanges: 2 parameters, 55 slots. -/
def c9 : C :=
  .seq (.ops [⟨none, .bxL 2 (.t 0)⟩,
    ⟨none, .mv 4 (.c (.bool false))⟩])
  (.seq (.ops [⟨none, .ld 14 (.t 2) 13 true⟩,
    ⟨none, .ca (some 15) 11 [(.t 14)]⟩,
    ⟨none, .mv 13 (.t 15)⟩,
    ⟨none, .ex 16 (.t 13) 0⟩,
    ⟨none, .ex 17 (.t 13) 1⟩,
    ⟨none, .mv 5 (.t 16)⟩,
    ⟨none, .mv 6 (.t 17)⟩])
  (.cut (.seq (.ops [⟨none, .mv 18 (.t 6)⟩,
    ⟨none, .bi 19 .eql (.t 18) (.c (.int .i64 0))⟩])
  (.cond (.t 19) (.seq (.ops [⟨none, .mv 21 (.t 5)⟩,
      ⟨none, .ca (some 22) 15 [(.t 21)]⟩,
      ⟨none, .mv 20 (.t 22)⟩,
      ⟨none, .ex 23 (.t 20) 0⟩,
      ⟨none, .ex 24 (.t 20) 1⟩,
      ⟨none, .alL 7 [.int .i64 0, .int .i64 0, .int .i64 0, .sl true .pub 0 [], .int .i64 0, .int .i64 0, .int .i64 0, .int .i64 0, .int .i64 0, .int .i64 0, .int .i64 0, .str [], .str []]⟩,
      ⟨none, .st (.t 7) (.t 23) 13⟩,
      ⟨none, .mv 8 (.t 24)⟩])
    (.seq (.ops [⟨none, .mv 25 (.t 8)⟩,
      ⟨none, .bi 26 .neq (.t 25) (.c (.int .i64 0))⟩,
      ⟨none, .mv 27 (.t 26)⟩,
      ⟨some (27, false), .ld 28 (.t 2) 13 true⟩,
      ⟨some (27, false), .ld 29 (.t 7) 13 true⟩,
      ⟨some (27, false), .ca (some 30) 17 [(.t 28), (.t 29)]⟩,
      ⟨some (27, false), .un 31 .not (.t 30)⟩,
      ⟨none, .pk 32 (.t 27) (.c (.bool true)) (.t 31)⟩])
    (.cond (.t 32) (.seq (.ops [⟨none, .mv 4 (.c (.bool false))⟩])
      (.ret))
      (.skip))))
    (.skip)))
  (.seq (.ops [⟨none, .mv 34 (.t 1)⟩,
    ⟨none, .ca (some 35) 15 [(.t 34)]⟩,
    ⟨none, .mv 33 (.t 35)⟩,
    ⟨none, .ex 36 (.t 33) 0⟩,
    ⟨none, .ex 37 (.t 33) 1⟩,
    ⟨none, .alL 9 [.int .i64 0, .int .i64 0, .int .i64 0, .sl true .pub 0 [], .int .i64 0, .int .i64 0, .int .i64 0, .int .i64 0, .int .i64 0, .int .i64 0, .int .i64 0, .str [], .str []]⟩,
    ⟨none, .st (.t 9) (.t 36) 13⟩,
    ⟨none, .mv 10 (.t 37)⟩])
  (.cut (.seq (.ops [⟨none, .mv 38 (.t 10)⟩,
    ⟨none, .bi 39 .eql (.t 38) (.c (.int .i64 0))⟩])
  (.cond (.t 39) (.seq (.ops [⟨none, .ld 41 (.t 9) 13 true⟩,
      ⟨none, .ca (some 42) 11 [(.t 41)]⟩,
      ⟨none, .mv 40 (.t 42)⟩,
      ⟨none, .ex 43 (.t 40) 0⟩,
      ⟨none, .ex 44 (.t 40) 1⟩,
      ⟨none, .mv 11 (.t 43)⟩,
      ⟨none, .mv 12 (.t 44)⟩])
    (.seq (.ops [⟨none, .mv 45 (.t 12)⟩,
      ⟨none, .bi 46 .neq (.t 45) (.c (.int .i64 0))⟩,
      ⟨none, .mv 47 (.t 46)⟩,
      ⟨some (47, false), .mv 48 (.t 11)⟩,
      ⟨some (47, false), .cS 49 (.t 48)⟩,
      ⟨some (47, false), .mv 50 (.t 1)⟩,
      ⟨some (47, false), .cS 51 (.t 50)⟩,
      ⟨some (47, false), .bi 52 .neq (.t 49) (.t 51)⟩,
      ⟨none, .pk 53 (.t 47) (.c (.bool true)) (.t 52)⟩])
    (.cond (.t 53) (.seq (.ops [⟨none, .mv 4 (.c (.bool false))⟩])
      (.ret))
      (.skip))))
    (.skip)))
  (.seq (.ops [⟨none, .ca (some 54) 14 []⟩,
    ⟨none, .mv 4 (.t 54)⟩])
  (.ret))))))
theorem comp9 : compFn Try.prog [2, 7, 9] Try.f9 = some ([.t 4], c9) := by kernel_rfl
/-- topiary/topiarylaw06.WireSpoilt: 3 parameters, 50 slots. -/
def c10 : C :=
  .seq (.ops [⟨none, .bxL 3 (.t 0)⟩,
    ⟨none, .mv 6 (.c (.bool false))⟩])
  (.seq (.ops [⟨none, .ld 14 (.t 3) 5 true⟩,
    ⟨none, .ca (some 15) 21 [(.t 14)]⟩,
    ⟨none, .mv 13 (.t 15)⟩,
    ⟨none, .ex 16 (.t 13) 0⟩,
    ⟨none, .ex 17 (.t 13) 1⟩,
    ⟨none, .mv 7 (.t 16)⟩,
    ⟨none, .mv 8 (.t 17)⟩])
  (.seq (.seq (.ops [⟨none, .mv 18 (.t 8)⟩,
    ⟨none, .bi 19 .neq (.t 18) (.c (.int .i64 0))⟩])
  (.cond (.t 19) (.seq (.ops [⟨none, .mv 20 (.t 7)⟩,
      ⟨none, .ln 21 .sl (.t 20)⟩,
      ⟨none, .bi 22 .eql (.t 21) (.c (.int .i64 0))⟩,
      ⟨none, .mv 23 (.t 22)⟩,
      ⟨some (23, true), .ca (some 24) 14 []⟩,
      ⟨none, .pk 25 (.t 23) (.t 24) (.c (.bool false))⟩,
      ⟨none, .mv 6 (.t 25)⟩])
    (.ret))
    (.skip)))
  (.seq (.ops [⟨none, .mv 27 (.t 7)⟩,
    ⟨none, .mv 28 (.t 1)⟩,
    ⟨none, .mv 29 (.t 2)⟩,
    ⟨none, .ca (some 30) 26 [(.t 27), (.t 28), (.t 29)]⟩,
    ⟨none, .mv 26 (.t 30)⟩,
    ⟨none, .ex 31 (.t 26) 0⟩,
    ⟨none, .ex 32 (.t 26) 1⟩,
    ⟨none, .mv 9 (.t 31)⟩,
    ⟨none, .mv 10 (.t 32)⟩])
  (.seq (.seq (.ops [⟨none, .mv 33 (.t 10)⟩,
    ⟨none, .bi 34 .neq (.t 33) (.c (.int .i64 0))⟩])
  (.cond (.t 34) (.seq (.ops [⟨none, .ca (some 35) 14 []⟩,
      ⟨none, .mv 6 (.t 35)⟩])
    (.ret))
    (.skip)))
  (.seq (.ops [⟨none, .mv 37 (.t 9)⟩,
    ⟨none, .ca (some 38) 24 [(.t 37)]⟩,
    ⟨none, .mv 36 (.t 38)⟩,
    ⟨none, .ex 39 (.t 36) 0⟩,
    ⟨none, .ex 40 (.t 36) 1⟩,
    ⟨none, .alL 11 [.int .i64 0, .int .i64 0, .sl true .pub 0 [], .bool false, .sl true .pub 0 []]⟩,
    ⟨none, .st (.t 11) (.t 39) 5⟩,
    ⟨none, .mv 12 (.t 40)⟩])
  (.seq (.ops [⟨none, .mv 41 (.t 12)⟩,
    ⟨none, .bi 42 .eql (.t 41) (.c (.int .i64 2))⟩,
    ⟨none, .mv 43 (.t 42)⟩,
    ⟨some (43, false), .mv 44 (.t 12)⟩,
    ⟨some (43, false), .bi 45 .eql (.t 44) (.c (.int .i64 9))⟩,
    ⟨none, .pk 46 (.t 43) (.c (.bool true)) (.t 45)⟩,
    ⟨none, .mv 47 (.t 46)⟩,
    ⟨some (47, true), .ca (some 48) 14 []⟩,
    ⟨none, .pk 49 (.t 47) (.t 48) (.c (.bool false))⟩,
    ⟨none, .mv 6 (.t 49)⟩])
  (.ret)))))))
theorem comp10 : compFn Try.prog [3, 11] Try.f10 = some ([.t 6], c10) := by kernel_rfl
/-- topiary/wire.Put: 1 parameters, 87 slots. -/
def c11 : C :=
  .seq (.ops [⟨none, .bxL 1 (.t 0)⟩,
    ⟨none, .mv 2 (.c (.sl true .pub 1 []))⟩,
    ⟨none, .mv 3 (.c (.int .i64 0))⟩])
  (.seq (.seq (.ops [⟨none, .ld 6 (.t 1) 13 true⟩,
    ⟨none, .ca (some 7) 27 [(.t 6)]⟩,
    ⟨none, .mv 4 (.t 7)⟩])
  (.seq (.ops [⟨none, .mv 8 (.t 4)⟩,
    ⟨none, .bi 9 .neq (.t 8) (.c (.int .i64 0))⟩])
  (.cond (.t 9) (.seq (.ops [⟨none, .mv 10 (.t 4)⟩,
      ⟨none, .mv 2 (.c (.sl true .pub 1 []))⟩,
      ⟨none, .mv 3 (.t 10)⟩])
    (.ret))
    (.skip))))
  (.seq (.ops [⟨none, .fa 11 (.t 1) 4⟩,
    ⟨none, .ld 12 (.t 11) 1 false⟩,
    ⟨none, .fa 13 (.t 1) 0⟩,
    ⟨none, .fa 14 (.t 13) 0⟩,
    ⟨none, .ld 15 (.t 14) 1 false⟩,
    ⟨none, .fa 16 (.t 1) 0⟩,
    ⟨none, .fa 17 (.t 16) 1⟩,
    ⟨none, .ld 18 (.t 17) 1 false⟩,
    ⟨none, .fa 19 (.t 1) 2⟩,
    ⟨none, .ld 20 (.t 19) 1 false⟩,
    ⟨none, .fa 21 (.t 1) 3⟩,
    ⟨none, .ld 22 (.t 21) 1 false⟩,
    ⟨none, .ln 23 .sl (.t 22)⟩,
    ⟨none, .lit 24 1 [(.t 12), (.t 15), (.t 18), (.t 20), (.t 23)]⟩,
    ⟨none, .ca (some 25) 28 [(.c (.sl true .pub 0 [])), (.t 24)]⟩,
    ⟨none, .mv 5 (.t 25)⟩])
  (.seq (.ops [⟨none, .mv 26 (.t 5)⟩,
    ⟨none, .fa 27 (.t 1) 3⟩,
    ⟨none, .ld 28 (.t 27) 1 false⟩,
    ⟨none, .ca (some 29) 28 [(.t 26), (.t 28)]⟩,
    ⟨none, .mv 5 (.t 29)⟩])
  (.cut (.seq (.ops [⟨none, .fa 30 (.t 1) 4⟩,
    ⟨none, .ld 31 (.t 30) 1 false⟩,
    ⟨none, .bi 32 .neq (.t 31) (.c (.int .i64 1))⟩])
  (.cond (.t 32) (.ops [⟨none, .mv 33 (.t 5)⟩,
      ⟨none, .fa 34 (.t 1) 5⟩,
      ⟨none, .fa 35 (.t 34) 0⟩,
      ⟨none, .ld 36 (.t 35) 1 false⟩,
      ⟨none, .fa 37 (.t 1) 5⟩,
      ⟨none, .fa 38 (.t 37) 1⟩,
      ⟨none, .ld 39 (.t 38) 1 false⟩,
      ⟨none, .lit 40 1 [(.t 36), (.t 39)]⟩,
      ⟨none, .ca (some 41) 28 [(.t 33), (.t 40)]⟩,
      ⟨none, .mv 5 (.t 41)⟩])
    (.skip)))
  (.cut (.seq (.ops [⟨none, .fa 42 (.t 1) 4⟩,
    ⟨none, .ld 43 (.t 42) 1 false⟩,
    ⟨none, .bi 44 .eql (.t 43) (.c (.int .i64 1))⟩,
    ⟨none, .mv 45 (.t 44)⟩,
    ⟨some (45, false), .fa 46 (.t 1) 4⟩,
    ⟨some (45, false), .ld 47 (.t 46) 1 false⟩,
    ⟨some (45, false), .bi 48 .eql (.t 47) (.c (.int .i64 2))⟩,
    ⟨none, .pk 49 (.t 45) (.c (.bool true)) (.t 48)⟩])
  (.cond (.t 49) (.ops [⟨none, .mv 50 (.t 5)⟩,
      ⟨none, .fa 51 (.t 1) 7⟩,
      ⟨none, .fa 52 (.t 51) 0⟩,
      ⟨none, .ld 53 (.t 52) 1 false⟩,
      ⟨none, .fa 54 (.t 1) 7⟩,
      ⟨none, .fa 55 (.t 54) 1⟩,
      ⟨none, .ld 56 (.t 55) 1 false⟩,
      ⟨none, .fa 57 (.t 1) 9⟩,
      ⟨none, .fa 58 (.t 57) 0⟩,
      ⟨none, .ld 59 (.t 58) 1 false⟩,
      ⟨none, .fa 60 (.t 1) 9⟩,
      ⟨none, .fa 61 (.t 60) 1⟩,
      ⟨none, .ld 62 (.t 61) 1 false⟩,
      ⟨none, .lit 63 1 [(.t 53), (.t 56), (.t 59), (.t 62)]⟩,
      ⟨none, .ca (some 64) 28 [(.t 50), (.t 63)]⟩,
      ⟨none, .mv 5 (.t 64)⟩])
    (.skip)))
  (.cut (.seq (.ops [⟨none, .fa 65 (.t 1) 11⟩,
    ⟨none, .ld 66 (.t 65) 1 false⟩,
    ⟨none, .bi 67 .neq (.t 66) (.c (.str []))⟩])
  (.cond (.t 67) (.ops [⟨none, .mv 68 (.t 5)⟩,
      ⟨none, .fa 69 (.t 1) 11⟩,
      ⟨none, .ld 70 (.t 69) 1 false⟩,
      ⟨none, .lit 71 1 [(.t 70)]⟩,
      ⟨none, .ca (some 72) 29 [(.t 68), (.t 71)]⟩,
      ⟨none, .mv 5 (.t 72)⟩])
    (.skip)))
  (.cut (.seq (.ops [⟨none, .fa 73 (.t 1) 4⟩,
    ⟨none, .ld 74 (.t 73) 1 false⟩,
    ⟨none, .bi 75 .eql (.t 74) (.c (.int .i64 3))⟩,
    ⟨none, .mv 76 (.t 75)⟩,
    ⟨some (76, false), .fa 77 (.t 1) 4⟩,
    ⟨some (76, false), .ld 78 (.t 77) 1 false⟩,
    ⟨some (76, false), .bi 79 .eql (.t 78) (.c (.int .i64 5))⟩,
    ⟨none, .pk 80 (.t 76) (.c (.bool true)) (.t 79)⟩])
  (.cond (.t 80) (.ops [⟨none, .mv 81 (.t 5)⟩,
      ⟨none, .fa 82 (.t 1) 12⟩,
      ⟨none, .ld 83 (.t 82) 1 false⟩,
      ⟨none, .lit 84 1 [(.t 83)]⟩,
      ⟨none, .ca (some 85) 29 [(.t 81), (.t 84)]⟩,
      ⟨none, .mv 5 (.t 85)⟩])
    (.skip)))
  (.seq (.ops [⟨none, .mv 86 (.t 5)⟩,
    ⟨none, .mv 2 (.t 86)⟩,
    ⟨none, .mv 3 (.c (.int .i64 0))⟩])
  (.ret)))))))))
theorem comp11 : compFn Try.prog [1] Try.f11 = some ([.t 2, .t 3], c11) := by kernel_rfl
/-- topiary/topiaryref05.Copy: 1 parameters, 9 slots. -/
def c12 : C :=
  .seq (.ops [⟨none, .bxL 1 (.t 0)⟩,
    ⟨none, .alL 2 [.int .i64 0, .int .i64 0, .int .i64 0, .sl true .pub 0 [], .int .i64 0, .int .i64 0, .int .i64 0, .int .i64 0, .int .i64 0, .int .i64 0, .int .i64 0, .str [], .str []]⟩])
  (.seq (.ops [⟨none, .lit 3 1 []⟩,
    ⟨none, .fa 4 (.t 1) 3⟩,
    ⟨none, .ld 5 (.t 4) 1 false⟩,
    ⟨none, .ap 6 1 (.t 3) (.t 5)⟩,
    ⟨none, .fa 7 (.t 1) 3⟩,
    ⟨none, .st (.t 7) (.t 6) 1⟩])
  (.seq (.ops [⟨none, .ld 8 (.t 1) 13 true⟩,
    ⟨none, .st (.t 2) (.t 8) 13⟩])
  (.ret)))
theorem comp12 : compFn Try.prog [1, 2] Try.f12 = some ([.c 2 13 true], c12) := by kernel_rfl
/-- topiary/topiaryref06.Put: 1 parameters, 77 slots. -/
def c13 : C :=
  .seq (.ops [⟨none, .bxL 1 (.t 0)⟩,
    ⟨none, .mv 2 (.c (.sl true .pub 1 []))⟩,
    ⟨none, .mv 3 (.c (.int .i64 0))⟩])
  (.seq (.seq (.ops [⟨none, .ld 5 (.t 1) 13 true⟩,
    ⟨none, .ca (some 6) 30 [(.t 5)]⟩,
    ⟨none, .bi 7 .neq (.t 6) (.c (.int .i64 0))⟩])
  (.cond (.t 7) (.seq (.ops [⟨none, .ld 8 (.t 1) 13 true⟩,
      ⟨none, .ca (some 9) 30 [(.t 8)]⟩,
      ⟨none, .mv 2 (.c (.sl true .pub 1 []))⟩,
      ⟨none, .mv 3 (.t 9)⟩])
    (.ret))
    (.skip)))
  (.seq (.opsD [⟨none, .fa 10 (.t 1) 4⟩,
    ⟨none, .ld 11 (.t 10) 1 false⟩,
    ⟨none, .fa 13 (.t 1) 0⟩,
    ⟨none, .ld 14 (.t 13) 2 true⟩,
    ⟨none, .ca (some 12) 32 [(.c (.sl true .pub 0 [])), (.t 11)]⟩,
    ⟨none, .ca (some 15) 31 [(.t 12), (.t 14)]⟩,
    ⟨none, .mv 4 (.t 15)⟩])
  (.seq (.opsD [⟨none, .mv 16 (.t 4)⟩,
    ⟨none, .fa 17 (.t 1) 2⟩,
    ⟨none, .ld 18 (.t 17) 1 false⟩,
    ⟨none, .fa 20 (.t 1) 3⟩,
    ⟨none, .ld 21 (.t 20) 1 false⟩,
    ⟨none, .ca (some 19) 32 [(.t 16), (.t 18)]⟩,
    ⟨none, .ca (some 22) 33 [(.t 19), (.t 21)]⟩,
    ⟨none, .mv 4 (.t 22)⟩])
  (.seq (.seq (.ops [⟨none, .fa 23 (.t 1) 4⟩,
    ⟨none, .ld 24 (.t 23) 1 false⟩])
  (.block 0 (.seq (.ops [⟨none, .bi 26 .eql (.t 24) (.c (.int .i64 1))⟩,
    ⟨none, .mv 25 (.t 26)⟩])
  (.cond (.t 25) (.seq (.opsD [⟨none, .mv 27 (.t 4)⟩,
      ⟨none, .fa 28 (.t 1) 7⟩,
      ⟨none, .ld 29 (.t 28) 2 true⟩,
      ⟨none, .fa 31 (.t 1) 9⟩,
      ⟨none, .ld 32 (.t 31) 2 true⟩,
      ⟨none, .fa 34 (.t 1) 11⟩,
      ⟨none, .ld 35 (.t 34) 1 false⟩,
      ⟨none, .ca (some 30) 31 [(.t 27), (.t 29)]⟩,
      ⟨none, .ca (some 33) 31 [(.t 30), (.t 32)]⟩,
      ⟨none, .ca (some 36) 34 [(.t 33), (.t 35)]⟩,
      ⟨none, .mv 2 (.t 36)⟩,
      ⟨none, .mv 3 (.c (.int .i64 0))⟩])
    (.ret))
    (.seq (.ops [⟨none, .bi 38 .eql (.t 24) (.c (.int .i64 2))⟩,
      ⟨none, .mv 37 (.t 38)⟩])
    (.cond (.t 37) (.seq (.opsD [⟨none, .mv 39 (.t 4)⟩,
        ⟨none, .fa 40 (.t 1) 5⟩,
        ⟨none, .ld 41 (.t 40) 2 true⟩,
        ⟨none, .fa 43 (.t 1) 7⟩,
        ⟨none, .ld 44 (.t 43) 2 true⟩,
        ⟨none, .fa 46 (.t 1) 9⟩,
        ⟨none, .ld 47 (.t 46) 2 true⟩,
        ⟨none, .ca (some 42) 31 [(.t 39), (.t 41)]⟩,
        ⟨none, .ca (some 45) 31 [(.t 42), (.t 44)]⟩,
        ⟨none, .ca (some 48) 31 [(.t 45), (.t 47)]⟩,
        ⟨none, .mv 2 (.t 48)⟩,
        ⟨none, .mv 3 (.c (.int .i64 0))⟩])
      (.ret))
      (.seq (.ops [⟨none, .bi 50 .eql (.t 24) (.c (.int .i64 3))⟩,
        ⟨none, .mv 49 (.t 50)⟩])
      (.cond (.t 49) (.seq (.opsD [⟨none, .mv 51 (.t 4)⟩,
          ⟨none, .fa 52 (.t 1) 5⟩,
          ⟨none, .ld 53 (.t 52) 2 true⟩,
          ⟨none, .fa 55 (.t 1) 11⟩,
          ⟨none, .ld 56 (.t 55) 1 false⟩,
          ⟨none, .fa 58 (.t 1) 12⟩,
          ⟨none, .ld 59 (.t 58) 1 false⟩,
          ⟨none, .ca (some 54) 31 [(.t 51), (.t 53)]⟩,
          ⟨none, .ca (some 57) 34 [(.t 54), (.t 56)]⟩,
          ⟨none, .ca (some 60) 34 [(.t 57), (.t 59)]⟩,
          ⟨none, .mv 2 (.t 60)⟩,
          ⟨none, .mv 3 (.c (.int .i64 0))⟩])
        (.ret))
        (.seq (.ops [⟨none, .bi 62 .eql (.t 24) (.c (.int .i64 4))⟩,
          ⟨none, .mv 61 (.t 62)⟩])
        (.cond (.t 61) (.seq (.opsD [⟨none, .mv 63 (.t 4)⟩,
            ⟨none, .fa 64 (.t 1) 5⟩,
            ⟨none, .ld 65 (.t 64) 2 true⟩,
            ⟨none, .fa 67 (.t 1) 11⟩,
            ⟨none, .ld 68 (.t 67) 1 false⟩,
            ⟨none, .ca (some 66) 31 [(.t 63), (.t 65)]⟩,
            ⟨none, .ca (some 69) 34 [(.t 66), (.t 68)]⟩,
            ⟨none, .mv 2 (.t 69)⟩,
            ⟨none, .mv 3 (.c (.int .i64 0))⟩])
          (.ret))
          (.skip)))))))))))
  (.seq (.opsD [⟨none, .mv 70 (.t 4)⟩,
    ⟨none, .fa 71 (.t 1) 5⟩,
    ⟨none, .ld 72 (.t 71) 2 true⟩,
    ⟨none, .fa 74 (.t 1) 12⟩,
    ⟨none, .ld 75 (.t 74) 1 false⟩,
    ⟨none, .ca (some 73) 31 [(.t 70), (.t 72)]⟩,
    ⟨none, .ca (some 76) 34 [(.t 73), (.t 75)]⟩,
    ⟨none, .mv 2 (.t 76)⟩,
    ⟨none, .mv 3 (.c (.int .i64 0))⟩])
  (.ret))))))
theorem comp13 : compFn Try.prog [1] Try.f13 = some ([.t 2, .t 3], c13) := by kernel_rfl
/-- topiary/topiarylaw06.awake: 0 parameters, 38 slots. -/
def c14 : C :=
  .seq (.ops [⟨none, .mv 0 (.c (.bool false))⟩])
  (.seq (.ops [⟨none, .lit 6 1 [(.c (.int .i64 1)), (.c (.int .i64 0)), (.c (.int .i64 3))]⟩,
    ⟨none, .bld 7 [.int .i64 0, .int .i64 0, .sl true .pub 0 [], .bool false, .sl true .pub 0 []] [(0, 1, (.c (.int .i64 2))), (1, 1, (.c (.int .i64 2))), (2, 1, (.t 6))]⟩,
    ⟨none, .ca (some 8) 21 [(.t 7)]⟩,
    ⟨none, .mv 5 (.t 8)⟩,
    ⟨none, .ex 9 (.t 5) 0⟩,
    ⟨none, .ex 10 (.t 5) 1⟩,
    ⟨none, .mv 1 (.t 9)⟩,
    ⟨none, .mv 2 (.t 10)⟩])
  (.seq (.ops [⟨none, .mv 12 (.t 1)⟩,
    ⟨none, .ca (some 13) 24 [(.t 12)]⟩,
    ⟨none, .mv 11 (.t 13)⟩,
    ⟨none, .ex 14 (.t 11) 0⟩,
    ⟨none, .ex 15 (.t 11) 1⟩,
    ⟨none, .alL 3 [.int .i64 0, .int .i64 0, .sl true .pub 0 [], .bool false, .sl true .pub 0 []]⟩,
    ⟨none, .st (.t 3) (.t 14) 5⟩,
    ⟨none, .mv 4 (.t 15)⟩])
  (.seq (.ops [⟨none, .mv 16 (.t 2)⟩,
    ⟨none, .bi 17 .eql (.t 16) (.c (.int .i64 0))⟩,
    ⟨none, .mv 18 (.t 17)⟩,
    ⟨some (18, true), .mv 19 (.t 4)⟩,
    ⟨some (18, true), .bi 20 .eql (.t 19) (.c (.int .i64 0))⟩,
    ⟨none, .pk 21 (.t 18) (.t 20) (.c (.bool false))⟩,
    ⟨none, .mv 22 (.t 21)⟩,
    ⟨some (22, true), .fa 23 (.t 3) 1⟩,
    ⟨some (22, true), .ld 24 (.t 23) 1 false⟩,
    ⟨some (22, true), .bi 25 .eql (.t 24) (.c (.int .i64 2))⟩,
    ⟨none, .pk 26 (.t 22) (.t 25) (.c (.bool false))⟩,
    ⟨none, .mv 27 (.t 26)⟩,
    ⟨some (27, true), .fa 28 (.t 3) 2⟩,
    ⟨some (27, true), .ld 29 (.t 28) 1 false⟩,
    ⟨some (27, true), .ln 30 .sl (.t 29)⟩,
    ⟨some (27, true), .bi 31 .eql (.t 30) (.c (.int .i64 3))⟩,
    ⟨none, .pk 32 (.t 27) (.t 31) (.c (.bool false))⟩,
    ⟨none, .mv 33 (.t 32)⟩,
    ⟨some (33, true), .mv 34 (.t 1)⟩,
    ⟨some (33, true), .ln 35 .sl (.t 34)⟩,
    ⟨some (33, true), .bi 36 .eql (.t 35) (.c (.int .i64 16))⟩,
    ⟨none, .pk 37 (.t 33) (.t 36) (.c (.bool false))⟩,
    ⟨none, .mv 0 (.t 37)⟩])
  (.ret))))
theorem comp14 : compFn Try.prog [3] Try.f14 = some ([.t 0], c14) := by kernel_rfl
/-- topiary/wire.Get: 1 parameters, 80 slots. -/
def c15 : C :=
  .seq (.ops [⟨none, .alL 2 [.int .i64 0, .int .i64 0, .int .i64 0, .sl true .pub 0 [], .int .i64 0, .int .i64 0, .int .i64 0, .int .i64 0, .int .i64 0, .int .i64 0, .int .i64 0, .str [], .str []]⟩,
    ⟨none, .mv 3 (.c (.int .i64 0))⟩])
  (.seq (.ops [⟨none, .mv 6 (.t 0)⟩,
    ⟨none, .ca (some 7) 35 [(.t 6)]⟩,
    ⟨none, .mv 4 (.t 7)⟩])
  (.seq (.ops [⟨none, .mv 8 (.t 4)⟩,
    ⟨none, .ca (some 9) 36 [(.t 8)]⟩,
    ⟨none, .bld 10 [.int .i64 0, .int .i64 0, .int .i64 0, .sl true .pub 0 [], .int .i64 0, .int .i64 0, .int .i64 0, .int .i64 0, .int .i64 0, .int .i64 0, .int .i64 0, .str [], .str []] [(4, 1, (.t 9))]⟩,
    ⟨none, .alL 5 [.int .i64 0, .int .i64 0, .int .i64 0, .sl true .pub 0 [], .int .i64 0, .int .i64 0, .int .i64 0, .int .i64 0, .int .i64 0, .int .i64 0, .int .i64 0, .str [], .str []]⟩,
    ⟨none, .st (.t 5) (.t 10) 13⟩])
  (.seq (.ops [⟨none, .mv 11 (.t 4)⟩,
    ⟨none, .ca (some 12) 37 [(.t 11)]⟩,
    ⟨none, .fa 13 (.t 5) 0⟩,
    ⟨none, .st (.t 13) (.t 12) 2⟩])
  (.seq (.ops [⟨none, .mv 14 (.t 4)⟩,
    ⟨none, .ca (some 15) 36 [(.t 14)]⟩,
    ⟨none, .fa 16 (.t 5) 2⟩,
    ⟨none, .st (.t 16) (.t 15) 1⟩])
  (.seq (.ops [⟨none, .mv 17 (.t 4)⟩,
    ⟨none, .ca (some 18) 38 [(.t 17)]⟩,
    ⟨none, .fa 19 (.t 5) 3⟩,
    ⟨none, .st (.t 19) (.t 18) 1⟩])
  (.seq (.ops [⟨none, .fa 20 (.t 5) 0⟩,
    ⟨none, .ld 21 (.t 20) 2 true⟩,
    ⟨none, .fa 22 (.t 5) 5⟩,
    ⟨none, .st (.t 22) (.t 21) 2⟩])
  (.cut (.seq (.ops [⟨none, .fa 23 (.t 5) 4⟩,
    ⟨none, .ld 24 (.t 23) 1 false⟩,
    ⟨none, .bi 25 .neq (.t 24) (.c (.int .i64 1))⟩])
  (.cond (.t 25) (.ops [⟨none, .mv 26 (.t 4)⟩,
      ⟨none, .ca (some 27) 37 [(.t 26)]⟩,
      ⟨none, .fa 28 (.t 5) 5⟩,
      ⟨none, .st (.t 28) (.t 27) 2⟩])
    (.skip)))
  (.cut (.seq (.ops [⟨none, .fa 29 (.t 5) 4⟩,
    ⟨none, .ld 30 (.t 29) 1 false⟩,
    ⟨none, .bi 31 .eql (.t 30) (.c (.int .i64 1))⟩,
    ⟨none, .mv 32 (.t 31)⟩,
    ⟨some (32, false), .fa 33 (.t 5) 4⟩,
    ⟨some (32, false), .ld 34 (.t 33) 1 false⟩,
    ⟨some (32, false), .bi 35 .eql (.t 34) (.c (.int .i64 2))⟩,
    ⟨none, .pk 36 (.t 32) (.c (.bool true)) (.t 35)⟩])
  (.cond (.t 36) (.seq (.ops [⟨none, .mv 37 (.t 4)⟩,
      ⟨none, .ca (some 38) 37 [(.t 37)]⟩,
      ⟨none, .fa 39 (.t 5) 7⟩,
      ⟨none, .st (.t 39) (.t 38) 2⟩])
    (.ops [⟨none, .mv 40 (.t 4)⟩,
      ⟨none, .ca (some 41) 37 [(.t 40)]⟩,
      ⟨none, .fa 42 (.t 5) 9⟩,
      ⟨none, .st (.t 42) (.t 41) 2⟩]))
    (.skip)))
  (.cut (.seq (.ops [⟨none, .fa 43 (.t 5) 4⟩,
    ⟨none, .ld 44 (.t 43) 1 false⟩,
    ⟨none, .bi 45 .eql (.t 44) (.c (.int .i64 1))⟩,
    ⟨none, .mv 46 (.t 45)⟩,
    ⟨some (46, false), .fa 47 (.t 5) 4⟩,
    ⟨some (46, false), .ld 48 (.t 47) 1 false⟩,
    ⟨some (46, false), .bi 49 .eql (.t 48) (.c (.int .i64 3))⟩,
    ⟨none, .pk 50 (.t 46) (.c (.bool true)) (.t 49)⟩,
    ⟨none, .mv 51 (.t 50)⟩,
    ⟨some (51, false), .fa 52 (.t 5) 4⟩,
    ⟨some (51, false), .ld 53 (.t 52) 1 false⟩,
    ⟨some (51, false), .bi 54 .eql (.t 53) (.c (.int .i64 4))⟩,
    ⟨none, .pk 55 (.t 51) (.c (.bool true)) (.t 54)⟩])
  (.cond (.t 55) (.ops [⟨none, .mv 56 (.t 4)⟩,
      ⟨none, .ca (some 57) 39 [(.t 56), (.c (.int .i64 32))]⟩,
      ⟨none, .fa 58 (.t 5) 11⟩,
      ⟨none, .st (.t 58) (.t 57) 1⟩])
    (.skip)))
  (.cut (.seq (.ops [⟨none, .fa 59 (.t 5) 4⟩,
    ⟨none, .ld 60 (.t 59) 1 false⟩,
    ⟨none, .bi 61 .eql (.t 60) (.c (.int .i64 3))⟩,
    ⟨none, .mv 62 (.t 61)⟩,
    ⟨some (62, false), .fa 63 (.t 5) 4⟩,
    ⟨some (62, false), .ld 64 (.t 63) 1 false⟩,
    ⟨some (62, false), .bi 65 .eql (.t 64) (.c (.int .i64 5))⟩,
    ⟨none, .pk 66 (.t 62) (.c (.bool true)) (.t 65)⟩])
  (.cond (.t 66) (.ops [⟨none, .mv 67 (.t 4)⟩,
      ⟨none, .ca (some 68) 39 [(.t 67), (.c (.int .i64 256))]⟩,
      ⟨none, .fa 69 (.t 5) 12⟩,
      ⟨none, .st (.t 69) (.t 68) 1⟩])
    (.skip)))
  (.seq (.seq (.ops [⟨none, .mv 70 (.t 4)⟩,
    ⟨none, .ca (some 71) 40 [(.t 70)]⟩,
    ⟨none, .bi 72 .neq (.t 71) (.c (.int .i64 0))⟩,
    ⟨none, .mv 73 (.t 72)⟩,
    ⟨some (73, false), .ld 74 (.t 5) 13 true⟩,
    ⟨some (73, false), .ca (some 75) 27 [(.t 74)]⟩,
    ⟨some (73, false), .bi 76 .neq (.t 75) (.c (.int .i64 0))⟩,
    ⟨none, .pk 77 (.t 73) (.c (.bool true)) (.t 76)⟩])
  (.cond (.t 77) (.seq (.ops [⟨none, .bld 78 [.int .i64 0, .int .i64 0, .int .i64 0, .sl true .pub 0 [], .int .i64 0, .int .i64 0, .int .i64 0, .int .i64 0, .int .i64 0, .int .i64 0, .int .i64 0, .str [], .str []] []⟩,
      ⟨none, .st (.t 2) (.t 78) 13⟩,
      ⟨none, .mv 3 (.c (.int .i64 2))⟩])
    (.ret))
    (.skip)))
  (.seq (.ops [⟨none, .ld 79 (.t 5) 13 true⟩,
    ⟨none, .st (.t 2) (.t 79) 13⟩,
    ⟨none, .mv 3 (.c (.int .i64 0))⟩])
  (.ret)))))))))))))
theorem comp15 : compFn Try.prog [2, 5] Try.f15 = some ([.c 2 13 true, .t 3], c15) := by kernel_rfl
/-- topiary/topiaryref06.Get: 1 parameters, 120 slots. -/
def c16 : C :=
  .seq (.ops [⟨none, .alL 2 [.int .i64 0, .int .i64 0, .int .i64 0, .sl true .pub 0 [], .int .i64 0, .int .i64 0, .int .i64 0, .int .i64 0, .int .i64 0, .int .i64 0, .int .i64 0, .str [], .str []]⟩,
    ⟨none, .mv 3 (.c (.int .i64 0))⟩])
  (.seq (.ops [⟨none, .bld 8 [.int .i64 0, .int .i64 0, .int .i64 0, .sl true .pub 0 [], .int .i64 0, .int .i64 0, .int .i64 0, .int .i64 0, .int .i64 0, .int .i64 0, .int .i64 0, .str [], .str []] []⟩,
    ⟨none, .alL 4 [.int .i64 0, .int .i64 0, .int .i64 0, .sl true .pub 0 [], .int .i64 0, .int .i64 0, .int .i64 0, .int .i64 0, .int .i64 0, .int .i64 0, .int .i64 0, .str [], .str []]⟩,
    ⟨none, .st (.t 4) (.t 8) 13⟩])
  (.seq (.ops [⟨none, .mv 9 (.t 0)⟩,
    ⟨none, .bld 10 [.sl true .pub 0 [], .int .i64 0, .int .i64 0, .int .i64 0] [(0, 1, (.t 9))]⟩,
    ⟨none, .alL 5 [.sl true .pub 0 [], .int .i64 0, .int .i64 0, .int .i64 0]⟩,
    ⟨none, .st (.t 5) (.t 10) 4⟩])
  (.seq (.ops [⟨none, .ld 12 (.t 5) 4 true⟩,
    ⟨none, .ca (some 13) 41 [(.t 12)]⟩,
    ⟨none, .mv 11 (.t 13)⟩,
    ⟨none, .ex 14 (.t 11) 0⟩,
    ⟨none, .ex 15 (.t 11) 1⟩,
    ⟨none, .st (.t 5) (.t 14) 4⟩,
    ⟨none, .fa 16 (.t 4) 4⟩,
    ⟨none, .st (.t 16) (.t 15) 1⟩])
  (.seq (.ops [⟨none, .ld 18 (.t 5) 4 true⟩,
    ⟨none, .ca (some 19) 42 [(.t 18)]⟩,
    ⟨none, .mv 17 (.t 19)⟩,
    ⟨none, .ex 20 (.t 17) 0⟩,
    ⟨none, .ex 21 (.t 17) 1⟩,
    ⟨none, .st (.t 5) (.t 20) 4⟩,
    ⟨none, .fa 22 (.t 4) 0⟩,
    ⟨none, .st (.t 22) (.t 21) 2⟩])
  (.seq (.ops [⟨none, .ld 24 (.t 5) 4 true⟩,
    ⟨none, .ca (some 25) 41 [(.t 24)]⟩,
    ⟨none, .mv 23 (.t 25)⟩,
    ⟨none, .ex 26 (.t 23) 0⟩,
    ⟨none, .ex 27 (.t 23) 1⟩,
    ⟨none, .st (.t 5) (.t 26) 4⟩,
    ⟨none, .fa 28 (.t 4) 2⟩,
    ⟨none, .st (.t 28) (.t 27) 1⟩])
  (.seq (.ops [⟨none, .ld 30 (.t 5) 4 true⟩,
    ⟨none, .ca (some 31) 43 [(.t 30)]⟩,
    ⟨none, .mv 29 (.t 31)⟩,
    ⟨none, .ex 32 (.t 29) 0⟩,
    ⟨none, .ex 33 (.t 29) 1⟩,
    ⟨none, .st (.t 5) (.t 32) 4⟩,
    ⟨none, .fa 34 (.t 4) 3⟩,
    ⟨none, .st (.t 34) (.t 33) 1⟩])
  (.cut (.seq (.ops [⟨none, .fa 35 (.t 4) 4⟩,
    ⟨none, .ld 36 (.t 35) 1 false⟩,
    ⟨none, .bi 37 .eql (.t 36) (.c (.int .i64 1))⟩])
  (.cond (.t 37) (.ops [⟨none, .fa 38 (.t 4) 0⟩,
      ⟨none, .ld 39 (.t 38) 2 true⟩,
      ⟨none, .fa 40 (.t 4) 5⟩,
      ⟨none, .st (.t 40) (.t 39) 2⟩])
    (.ops [⟨none, .ld 42 (.t 5) 4 true⟩,
      ⟨none, .ca (some 43) 42 [(.t 42)]⟩,
      ⟨none, .mv 41 (.t 43)⟩,
      ⟨none, .ex 44 (.t 41) 0⟩,
      ⟨none, .ex 45 (.t 41) 1⟩,
      ⟨none, .st (.t 5) (.t 44) 4⟩,
      ⟨none, .fa 46 (.t 4) 5⟩,
      ⟨none, .st (.t 46) (.t 45) 2⟩])))
  (.cut (.seq (.ops [⟨none, .fa 47 (.t 4) 4⟩,
    ⟨none, .ld 48 (.t 47) 1 false⟩,
    ⟨none, .bi 49 .eql (.t 48) (.c (.int .i64 1))⟩,
    ⟨none, .mv 50 (.t 49)⟩,
    ⟨some (50, false), .fa 51 (.t 4) 4⟩,
    ⟨some (50, false), .ld 52 (.t 51) 1 false⟩,
    ⟨some (50, false), .bi 53 .eql (.t 52) (.c (.int .i64 2))⟩,
    ⟨none, .pk 54 (.t 50) (.c (.bool true)) (.t 53)⟩])
  (.cond (.t 54) (.seq (.ops [⟨none, .ld 56 (.t 5) 4 true⟩,
      ⟨none, .ca (some 57) 42 [(.t 56)]⟩,
      ⟨none, .mv 55 (.t 57)⟩,
      ⟨none, .ex 58 (.t 55) 0⟩,
      ⟨none, .ex 59 (.t 55) 1⟩,
      ⟨none, .st (.t 5) (.t 58) 4⟩,
      ⟨none, .fa 60 (.t 4) 7⟩,
      ⟨none, .st (.t 60) (.t 59) 2⟩])
    (.ops [⟨none, .ld 62 (.t 5) 4 true⟩,
      ⟨none, .ca (some 63) 42 [(.t 62)]⟩,
      ⟨none, .mv 61 (.t 63)⟩,
      ⟨none, .ex 64 (.t 61) 0⟩,
      ⟨none, .ex 65 (.t 61) 1⟩,
      ⟨none, .st (.t 5) (.t 64) 4⟩,
      ⟨none, .fa 66 (.t 4) 9⟩,
      ⟨none, .st (.t 66) (.t 65) 2⟩]))
    (.skip)))
  (.cut (.seq (.ops [⟨none, .fa 67 (.t 4) 4⟩,
    ⟨none, .ld 68 (.t 67) 1 false⟩,
    ⟨none, .bi 69 .eql (.t 68) (.c (.int .i64 1))⟩,
    ⟨none, .mv 70 (.t 69)⟩,
    ⟨some (70, false), .fa 71 (.t 4) 4⟩,
    ⟨some (70, false), .ld 72 (.t 71) 1 false⟩,
    ⟨some (70, false), .bi 73 .eql (.t 72) (.c (.int .i64 3))⟩,
    ⟨none, .pk 74 (.t 70) (.c (.bool true)) (.t 73)⟩,
    ⟨none, .mv 75 (.t 74)⟩,
    ⟨some (75, false), .fa 76 (.t 4) 4⟩,
    ⟨some (75, false), .ld 77 (.t 76) 1 false⟩,
    ⟨some (75, false), .bi 78 .eql (.t 77) (.c (.int .i64 4))⟩,
    ⟨none, .pk 79 (.t 75) (.c (.bool true)) (.t 78)⟩])
  (.cond (.t 79) (.ops [⟨none, .ld 81 (.t 5) 4 true⟩,
      ⟨none, .mv 82 (.t 0)⟩,
      ⟨none, .ln 83 .sl (.t 82)⟩,
      ⟨none, .ca (some 84) 44 [(.t 81), (.t 83)]⟩,
      ⟨none, .mv 80 (.t 84)⟩,
      ⟨none, .ex 85 (.t 80) 0⟩,
      ⟨none, .ex 86 (.t 80) 1⟩,
      ⟨none, .st (.t 5) (.t 85) 4⟩,
      ⟨none, .fa 87 (.t 4) 11⟩,
      ⟨none, .st (.t 87) (.t 86) 1⟩])
    (.skip)))
  (.cut (.seq (.ops [⟨none, .fa 88 (.t 4) 4⟩,
    ⟨none, .ld 89 (.t 88) 1 false⟩,
    ⟨none, .bi 90 .eql (.t 89) (.c (.int .i64 3))⟩,
    ⟨none, .mv 91 (.t 90)⟩,
    ⟨some (91, false), .fa 92 (.t 4) 4⟩,
    ⟨some (91, false), .ld 93 (.t 92) 1 false⟩,
    ⟨some (91, false), .bi 94 .eql (.t 93) (.c (.int .i64 5))⟩,
    ⟨none, .pk 95 (.t 91) (.c (.bool true)) (.t 94)⟩])
  (.cond (.t 95) (.ops [⟨none, .ld 97 (.t 5) 4 true⟩,
      ⟨none, .mv 98 (.t 0)⟩,
      ⟨none, .ln 99 .sl (.t 98)⟩,
      ⟨none, .ca (some 100) 44 [(.t 97), (.t 99)]⟩,
      ⟨none, .mv 96 (.t 100)⟩,
      ⟨none, .ex 101 (.t 96) 0⟩,
      ⟨none, .ex 102 (.t 96) 1⟩,
      ⟨none, .st (.t 5) (.t 101) 4⟩,
      ⟨none, .fa 103 (.t 4) 12⟩,
      ⟨none, .st (.t 103) (.t 102) 1⟩])
    (.skip)))
  (.seq (.ops [⟨none, .ld 105 (.t 4) 13 true⟩,
    ⟨none, .ca (some 106) 13 [(.t 105)]⟩,
    ⟨none, .mv 104 (.t 106)⟩,
    ⟨none, .ex 107 (.t 104) 0⟩,
    ⟨none, .ex 108 (.t 104) 1⟩,
    ⟨none, .mv 6 (.t 107)⟩,
    ⟨none, .mv 7 (.t 108)⟩])
  (.seq (.seq (.ops [⟨none, .mv 109 (.t 7)⟩,
    ⟨none, .bi 110 .neq (.t 109) (.c (.int .i64 0))⟩,
    ⟨none, .mv 111 (.t 110)⟩,
    ⟨some (111, false), .mv 112 (.t 6)⟩,
    ⟨some (111, false), .cS 113 (.t 112)⟩,
    ⟨some (111, false), .mv 114 (.t 0)⟩,
    ⟨some (111, false), .cS 115 (.t 114)⟩,
    ⟨some (111, false), .bi 116 .neq (.t 113) (.t 115)⟩,
    ⟨none, .pk 117 (.t 111) (.c (.bool true)) (.t 116)⟩])
  (.cond (.t 117) (.seq (.ops [⟨none, .bld 118 [.int .i64 0, .int .i64 0, .int .i64 0, .sl true .pub 0 [], .int .i64 0, .int .i64 0, .int .i64 0, .int .i64 0, .int .i64 0, .int .i64 0, .int .i64 0, .str [], .str []] []⟩,
      ⟨none, .st (.t 2) (.t 118) 13⟩,
      ⟨none, .mv 3 (.c (.int .i64 2))⟩])
    (.ret))
    (.skip)))
  (.seq (.ops [⟨none, .ld 119 (.t 4) 13 true⟩,
    ⟨none, .st (.t 2) (.t 119) 13⟩,
    ⟨none, .mv 3 (.c (.int .i64 0))⟩])
  (.ret))))))))))))))
theorem comp16 : compFn Try.prog [2, 4, 5] Try.f16 = some ([.c 2 13 true, .t 3], c16) := by kernel_rfl
/-- topiary/topiaryref05.Same: 2 parameters, 66 slots. -/
def c17 : C :=
  .seq (.ops [⟨none, .bxL 2 (.t 0)⟩,
    ⟨none, .bxL 3 (.t 1)⟩,
    ⟨none, .mv 4 (.c (.bool false))⟩])
  (.seq (.ops [⟨none, .fa 5 (.t 2) 0⟩,
    ⟨none, .ld 6 (.t 5) 2 true⟩,
    ⟨none, .fa 7 (.t 3) 0⟩,
    ⟨none, .ld 8 (.t 7) 2 true⟩,
    ⟨none, .be 9 false [.int .i64, .int .i64] (.t 6) (.t 8)⟩,
    ⟨none, .mv 10 (.t 9)⟩,
    ⟨some (10, true), .fa 11 (.t 2) 2⟩,
    ⟨some (10, true), .ld 12 (.t 11) 1 false⟩,
    ⟨some (10, true), .fa 13 (.t 3) 2⟩,
    ⟨some (10, true), .ld 14 (.t 13) 1 false⟩,
    ⟨some (10, true), .bi 15 .eql (.t 12) (.t 14)⟩,
    ⟨none, .pk 16 (.t 10) (.t 15) (.c (.bool false))⟩,
    ⟨none, .mv 17 (.t 16)⟩,
    ⟨some (17, true), .fa 18 (.t 2) 3⟩,
    ⟨some (17, true), .ld 19 (.t 18) 1 false⟩,
    ⟨some (17, true), .fa 20 (.t 3) 3⟩,
    ⟨some (17, true), .ld 21 (.t 20) 1 false⟩,
    ⟨some (17, true), .ca (some 22) 45 [(.t 19), (.t 21)]⟩,
    ⟨none, .pk 23 (.t 17) (.t 22) (.c (.bool false))⟩,
    ⟨none, .mv 24 (.t 23)⟩,
    ⟨some (24, true), .fa 25 (.t 2) 4⟩,
    ⟨some (24, true), .ld 26 (.t 25) 1 false⟩,
    ⟨some (24, true), .fa 27 (.t 3) 4⟩,
    ⟨some (24, true), .ld 28 (.t 27) 1 false⟩,
    ⟨some (24, true), .bi 29 .eql (.t 26) (.t 28)⟩,
    ⟨none, .pk 30 (.t 24) (.t 29) (.c (.bool false))⟩,
    ⟨none, .mv 31 (.t 30)⟩,
    ⟨some (31, true), .fa 32 (.t 2) 5⟩,
    ⟨some (31, true), .ld 33 (.t 32) 2 true⟩,
    ⟨some (31, true), .fa 34 (.t 3) 5⟩,
    ⟨some (31, true), .ld 35 (.t 34) 2 true⟩,
    ⟨some (31, true), .be 36 false [.int .i64, .int .i64] (.t 33) (.t 35)⟩,
    ⟨none, .pk 37 (.t 31) (.t 36) (.c (.bool false))⟩,
    ⟨none, .mv 38 (.t 37)⟩,
    ⟨some (38, true), .fa 39 (.t 2) 7⟩,
    ⟨some (38, true), .ld 40 (.t 39) 2 true⟩,
    ⟨some (38, true), .fa 41 (.t 3) 7⟩,
    ⟨some (38, true), .ld 42 (.t 41) 2 true⟩,
    ⟨some (38, true), .be 43 false [.int .i64, .int .i64] (.t 40) (.t 42)⟩,
    ⟨none, .pk 44 (.t 38) (.t 43) (.c (.bool false))⟩,
    ⟨none, .mv 45 (.t 44)⟩,
    ⟨some (45, true), .fa 46 (.t 2) 9⟩,
    ⟨some (45, true), .ld 47 (.t 46) 2 true⟩,
    ⟨some (45, true), .fa 48 (.t 3) 9⟩,
    ⟨some (45, true), .ld 49 (.t 48) 2 true⟩,
    ⟨some (45, true), .be 50 false [.int .i64, .int .i64] (.t 47) (.t 49)⟩,
    ⟨none, .pk 51 (.t 45) (.t 50) (.c (.bool false))⟩,
    ⟨none, .mv 52 (.t 51)⟩,
    ⟨some (52, true), .fa 53 (.t 2) 11⟩,
    ⟨some (52, true), .ld 54 (.t 53) 1 false⟩,
    ⟨some (52, true), .fa 55 (.t 3) 11⟩,
    ⟨some (52, true), .ld 56 (.t 55) 1 false⟩,
    ⟨some (52, true), .bi 57 .eql (.t 54) (.t 56)⟩,
    ⟨none, .pk 58 (.t 52) (.t 57) (.c (.bool false))⟩,
    ⟨none, .mv 59 (.t 58)⟩,
    ⟨some (59, true), .fa 60 (.t 2) 12⟩,
    ⟨some (59, true), .ld 61 (.t 60) 1 false⟩,
    ⟨some (59, true), .fa 62 (.t 3) 12⟩,
    ⟨some (59, true), .ld 63 (.t 62) 1 false⟩,
    ⟨some (59, true), .bi 64 .eql (.t 61) (.t 63)⟩,
    ⟨none, .pk 65 (.t 59) (.t 64) (.c (.bool false))⟩,
    ⟨none, .mv 4 (.t 65)⟩])
  (.ret))
theorem comp17 : compFn Try.prog [2, 3] Try.f17 = some ([.t 4], c17) := by kernel_rfl
/-- topiary/wire.Check: 1 parameters, 98 slots. -/
def c18 : C :=
  .seq (.ops [⟨none, .bxL 1 (.t 0)⟩,
    ⟨none, .mv 2 (.c (.int .i64 0))⟩])
  (.seq (.seq (.ops [⟨none, .fa 8 (.t 1) 0⟩,
    ⟨none, .ld 9 (.t 8) 1 false⟩,
    ⟨none, .bi 10 .lss (.t 9) (.c (.int .i64 1))⟩,
    ⟨none, .mv 11 (.t 10)⟩,
    ⟨some (11, false), .fa 12 (.t 1) 0⟩,
    ⟨some (11, false), .ld 13 (.t 12) 1 false⟩,
    ⟨some (11, false), .bi 14 .gtr (.t 13) (.c (.int .i64 3))⟩,
    ⟨none, .pk 15 (.t 11) (.c (.bool true)) (.t 14)⟩,
    ⟨none, .mv 16 (.t 15)⟩,
    ⟨some (16, false), .fa 17 (.t 1) 1⟩,
    ⟨some (16, false), .ld 18 (.t 17) 1 false⟩,
    ⟨some (16, false), .bi 19 .lss (.t 18) (.c (.int .i64 0))⟩,
    ⟨none, .pk 20 (.t 16) (.c (.bool true)) (.t 19)⟩,
    ⟨none, .mv 21 (.t 20)⟩,
    ⟨some (21, false), .fa 22 (.t 1) 1⟩,
    ⟨some (21, false), .ld 23 (.t 22) 1 false⟩,
    ⟨some (21, false), .bi 24 .geq (.t 23) (.c (.int .i64 64))⟩,
    ⟨none, .pk 25 (.t 21) (.c (.bool true)) (.t 24)⟩])
  (.cond (.t 25) (.seq (.ops [⟨none, .mv 2 (.c (.int .i64 1))⟩])
    (.ret))
    (.skip)))
  (.seq (.seq (.ops [⟨none, .fa 26 (.t 1) 2⟩,
    ⟨none, .ld 27 (.t 26) 1 false⟩,
    ⟨none, .ca (some 28) 46 [(.t 27)]⟩,
    ⟨none, .mv 3 (.t 28)⟩])
  (.seq (.ops [⟨none, .mv 29 (.t 3)⟩,
    ⟨none, .bi 30 .neq (.t 29) (.c (.int .i64 0))⟩])
  (.cond (.t 30) (.seq (.ops [⟨none, .mv 31 (.t 3)⟩,
      ⟨none, .mv 2 (.t 31)⟩])
    (.ret))
    (.skip))))
  (.seq (.seq (.ops [⟨none, .fa 32 (.t 1) 2⟩,
    ⟨none, .ld 33 (.t 32) 1 false⟩,
    ⟨none, .ln 34 .sl (.t 33)⟩,
    ⟨none, .mv 4 (.t 34)⟩])
  (.seq (.ops [⟨none, .mv 35 (.t 4)⟩,
    ⟨none, .bi 36 .gtr (.t 35) (.c (.int .i64 0))⟩,
    ⟨none, .mv 37 (.t 36)⟩,
    ⟨some (37, true), .fa 38 (.t 1) 2⟩,
    ⟨some (37, true), .ld 39 (.t 38) 1 false⟩,
    ⟨some (37, true), .mv 40 (.t 4)⟩,
    ⟨some (37, true), .bi 41 .sub (.t 40) (.c (.int .i64 1))⟩,
    ⟨some (37, true), .ia 42 (.t 39) (.t 41) 1⟩,
    ⟨some (37, true), .ld 43 (.t 42) 1 false⟩,
    ⟨some (37, true), .bi 44 .eql (.t 43) (.c (.int .i64 0))⟩,
    ⟨none, .pk 45 (.t 37) (.t 44) (.c (.bool false))⟩])
  (.cond (.t 45) (.seq (.ops [⟨none, .mv 2 (.c (.int .i64 2))⟩])
    (.ret))
    (.skip))))
  (.seq (.seq (.ops [⟨none, .fa 46 (.t 1) 4⟩,
    ⟨none, .ld 47 (.t 46) 1 false⟩,
    ⟨none, .ln 48 .sl (.t 47)⟩,
    ⟨none, .bi 49 .gtr (.t 48) (.c (.int .i64 64))⟩])
  (.cond (.t 49) (.seq (.ops [⟨none, .mv 2 (.c (.int .i64 3))⟩])
    (.ret))
    (.skip)))
  (.seq (.seq (.ops [⟨none, .fa 50 (.t 1) 0⟩,
    ⟨none, .ld 51 (.t 50) 1 false⟩,
    ⟨none, .bi 52 .neq (.t 51) (.c (.int .i64 3))⟩,
    ⟨none, .mv 53 (.t 52)⟩,
    ⟨some (53, true), .fa 54 (.t 1) 3⟩,
    ⟨some (53, true), .ld 55 (.t 54) 1 false⟩,
    ⟨none, .pk 56 (.t 53) (.t 55) (.c (.bool false))⟩,
    ⟨none, .mv 57 (.t 56)⟩,
    ⟨some (57, false), .fa 58 (.t 1) 0⟩,
    ⟨some (57, false), .ld 59 (.t 58) 1 false⟩,
    ⟨some (57, false), .bi 60 .eql (.t 59) (.c (.int .i64 1))⟩,
    ⟨some (57, false), .mv 61 (.t 60)⟩,
    ⟨some (61, true), .fa 62 (.t 1) 2⟩,
    ⟨some (61, true), .ld 63 (.t 62) 1 false⟩,
    ⟨some (61, true), .ln 64 .sl (.t 63)⟩,
    ⟨some (61, true), .bi 65 .gtr (.t 64) (.c (.int .i64 0))⟩,
    ⟨some (61, true), .mv 66 (.t 65)⟩,
    ⟨some (66, false), .fa 67 (.t 1) 4⟩,
    ⟨some (66, false), .ld 68 (.t 67) 1 false⟩,
    ⟨some (66, false), .ln 69 .sl (.t 68)⟩,
    ⟨some (66, false), .bi 70 .eql (.t 69) (.c (.int .i64 0))⟩,
    ⟨some (61, true), .pk 71 (.t 66) (.c (.bool true)) (.t 70)⟩,
    ⟨some (57, false), .pk 72 (.t 61) (.t 71) (.c (.bool false))⟩,
    ⟨none, .pk 73 (.t 57) (.c (.bool true)) (.t 72)⟩,
    ⟨none, .mv 74 (.t 73)⟩,
    ⟨some (74, false), .fa 75 (.t 1) 0⟩,
    ⟨some (74, false), .ld 76 (.t 75) 1 false⟩,
    ⟨some (74, false), .bi 77 .eql (.t 76) (.c (.int .i64 2))⟩,
    ⟨some (74, false), .mv 78 (.t 77)⟩,
    ⟨some (78, true), .fa 79 (.t 1) 4⟩,
    ⟨some (78, true), .ld 80 (.t 79) 1 false⟩,
    ⟨some (78, true), .ln 81 .sl (.t 80)⟩,
    ⟨some (78, true), .bi 82 .gtr (.t 81) (.c (.int .i64 0))⟩,
    ⟨some (74, false), .pk 83 (.t 78) (.t 82) (.c (.bool false))⟩,
    ⟨none, .pk 84 (.t 74) (.c (.bool true)) (.t 83)⟩])
  (.cond (.t 84) (.seq (.ops [⟨none, .mv 2 (.c (.int .i64 2))⟩])
    (.ret))
    (.skip)))
  (.seq (.seq (.ops [⟨none, .fa 85 (.t 1) 4⟩,
    ⟨none, .ld 86 (.t 85) 1 false⟩,
    ⟨none, .ln 87 .sl (.t 86)⟩,
    ⟨none, .mv 88 (.c (.int .i64 0))⟩])
  (.block 0 (.loop (.seq (.ops [⟨none, .bi 89 .lss (.t 88) (.t 87)⟩])
  (.seq (.cond (.t 89) (.skip)
    (.exit 0))
  (.seq (.block 1 (.seq (.ops [⟨none, .ia 90 (.t 86) (.t 88) 13⟩,
    ⟨none, .ld 91 (.t 90) 13 true⟩,
    ⟨none, .alL 6 [.int .i64 0, .int .i64 0, .int .i64 0, .sl true .pub 0 [], .int .i64 0, .int .i64 0, .int .i64 0, .int .i64 0, .int .i64 0, .int .i64 0, .int .i64 0, .str [], .str []]⟩,
    ⟨none, .st (.t 6) (.t 91) 13⟩])
  (.seq (.ops [⟨none, .ld 92 (.t 6) 13 true⟩,
    ⟨none, .ca (some 93) 27 [(.t 92)]⟩,
    ⟨none, .mv 7 (.t 93)⟩])
  (.seq (.ops [⟨none, .mv 94 (.t 7)⟩,
    ⟨none, .bi 95 .neq (.t 94) (.c (.int .i64 0))⟩])
  (.cond (.t 95) (.seq (.ops [⟨none, .mv 96 (.t 7)⟩,
      ⟨none, .mv 2 (.t 96)⟩])
    (.ret))
    (.skip))))))
  (.ops [⟨none, .bi 97 .add (.t 88) (.c (.int .i64 1))⟩,
    ⟨none, .mv 88 (.t 97)⟩])))))))
  (.seq (.ops [⟨none, .mv 2 (.c (.int .i64 0))⟩])
  (.ret))))))))
theorem comp18 : compFn Try.prog [1, 6] Try.f18 = some ([.t 2], c18) := by kernel_rfl
/-- topiary/topiaryref06.Copy: 1 parameters, 13 slots. -/
def c19 : C :=
  .seq (.ops [⟨none, .bxL 1 (.t 0)⟩,
    ⟨none, .alL 2 [.int .i64 0, .int .i64 0, .sl true .pub 0 [], .bool false, .sl true .pub 0 []]⟩])
  (.seq (.ops [⟨none, .lit 3 1 []⟩,
    ⟨none, .fa 4 (.t 1) 2⟩,
    ⟨none, .ld 5 (.t 4) 1 false⟩,
    ⟨none, .ap 6 1 (.t 3) (.t 5)⟩,
    ⟨none, .fa 7 (.t 1) 2⟩,
    ⟨none, .st (.t 7) (.t 6) 1⟩])
  (.seq (.ops [⟨none, .fa 8 (.t 1) 4⟩,
    ⟨none, .ld 9 (.t 8) 1 false⟩,
    ⟨none, .ca (some 10) 47 [(.t 9)]⟩,
    ⟨none, .fa 11 (.t 1) 4⟩,
    ⟨none, .st (.t 11) (.t 10) 1⟩])
  (.seq (.ops [⟨none, .ld 12 (.t 1) 5 true⟩,
    ⟨none, .st (.t 2) (.t 12) 5⟩])
  (.ret))))
theorem comp19 : compFn Try.prog [1, 2] Try.f19 = some ([.c 2 5 true], c19) := by kernel_rfl
/-- topiary/topiaryref06.Check: 1 parameters, 95 slots. -/
def c20 : C :=
  .seq (.ops [⟨none, .bxL 1 (.t 0)⟩,
    ⟨none, .mv 2 (.c (.int .i64 0))⟩])
  (.seq (.seq (.ops [⟨none, .fa 4 (.t 1) 0⟩,
    ⟨none, .ld 5 (.t 4) 1 false⟩,
    ⟨none, .bi 6 .lss (.t 5) (.c (.int .i64 1))⟩,
    ⟨none, .mv 7 (.t 6)⟩,
    ⟨some (7, false), .fa 8 (.t 1) 0⟩,
    ⟨some (7, false), .ld 9 (.t 8) 1 false⟩,
    ⟨some (7, false), .bi 10 .gtr (.t 9) (.c (.int .i64 3))⟩,
    ⟨none, .pk 11 (.t 7) (.c (.bool true)) (.t 10)⟩,
    ⟨none, .mv 12 (.t 11)⟩,
    ⟨some (12, false), .fa 13 (.t 1) 1⟩,
    ⟨some (12, false), .ld 14 (.t 13) 1 false⟩,
    ⟨some (12, false), .bi 15 .lss (.t 14) (.c (.int .i64 0))⟩,
    ⟨none, .pk 16 (.t 12) (.c (.bool true)) (.t 15)⟩,
    ⟨none, .mv 17 (.t 16)⟩,
    ⟨some (17, false), .fa 18 (.t 1) 1⟩,
    ⟨some (17, false), .ld 19 (.t 18) 1 false⟩,
    ⟨some (17, false), .bi 20 .geq (.t 19) (.c (.int .i64 64))⟩,
    ⟨none, .pk 21 (.t 17) (.c (.bool true)) (.t 20)⟩])
  (.cond (.t 21) (.seq (.ops [⟨none, .mv 2 (.c (.int .i64 1))⟩])
    (.ret))
    (.skip)))
  (.seq (.seq (.ops [⟨none, .fa 22 (.t 1) 2⟩,
    ⟨none, .ld 23 (.t 22) 1 false⟩,
    ⟨none, .ca (some 24) 48 [(.t 23)]⟩,
    ⟨none, .bi 25 .neq (.t 24) (.c (.int .i64 0))⟩])
  (.cond (.t 25) (.seq (.ops [⟨none, .fa 26 (.t 1) 2⟩,
      ⟨none, .ld 27 (.t 26) 1 false⟩,
      ⟨none, .ca (some 28) 48 [(.t 27)]⟩,
      ⟨none, .mv 2 (.t 28)⟩])
    (.ret))
    (.skip)))
  (.seq (.seq (.opsD [⟨none, .fa 29 (.t 1) 2⟩,
    ⟨none, .ld 30 (.t 29) 1 false⟩,
    ⟨none, .fa 33 (.t 1) 2⟩,
    ⟨none, .ld 34 (.t 33) 1 false⟩,
    ⟨none, .ln 35 .sl (.t 34)⟩,
    ⟨none, .ca (some 31) 49 [(.t 30)]⟩,
    ⟨none, .ln 32 .sl (.t 31)⟩,
    ⟨none, .bi 36 .neq (.t 32) (.t 35)⟩])
  (.cond (.t 36) (.seq (.ops [⟨none, .mv 2 (.c (.int .i64 2))⟩])
    (.ret))
    (.skip)))
  (.seq (.seq (.ops [⟨none, .fa 37 (.t 1) 4⟩,
    ⟨none, .ld 38 (.t 37) 1 false⟩,
    ⟨none, .ln 39 .sl (.t 38)⟩,
    ⟨none, .bi 40 .gtr (.t 39) (.c (.int .i64 64))⟩])
  (.cond (.t 40) (.seq (.ops [⟨none, .mv 2 (.c (.int .i64 3))⟩])
    (.ret))
    (.skip)))
  (.seq (.seq (.ops [⟨none, .fa 41 (.t 1) 0⟩,
    ⟨none, .ld 42 (.t 41) 1 false⟩,
    ⟨none, .bi 43 .eql (.t 42) (.c (.int .i64 1))⟩,
    ⟨none, .mv 44 (.t 43)⟩,
    ⟨some (44, true), .fa 45 (.t 1) 2⟩,
    ⟨some (44, true), .ld 46 (.t 45) 1 false⟩,
    ⟨some (44, true), .ln 47 .sl (.t 46)⟩,
    ⟨some (44, true), .bi 48 .gtr (.t 47) (.c (.int .i64 0))⟩,
    ⟨some (44, true), .mv 49 (.t 48)⟩,
    ⟨some (49, false), .fa 50 (.t 1) 3⟩,
    ⟨some (49, false), .ld 51 (.t 50) 1 false⟩,
    ⟨some (44, true), .pk 52 (.t 49) (.c (.bool true)) (.t 51)⟩,
    ⟨some (44, true), .mv 53 (.t 52)⟩,
    ⟨some (53, false), .fa 54 (.t 1) 4⟩,
    ⟨some (53, false), .ld 55 (.t 54) 1 false⟩,
    ⟨some (53, false), .ln 56 .sl (.t 55)⟩,
    ⟨some (53, false), .bi 57 .eql (.t 56) (.c (.int .i64 0))⟩,
    ⟨some (44, true), .pk 58 (.t 53) (.c (.bool true)) (.t 57)⟩,
    ⟨none, .pk 59 (.t 44) (.t 58) (.c (.bool false))⟩,
    ⟨none, .mv 60 (.t 59)⟩,
    ⟨some (60, false), .fa 61 (.t 1) 0⟩,
    ⟨some (60, false), .ld 62 (.t 61) 1 false⟩,
    ⟨some (60, false), .bi 63 .eql (.t 62) (.c (.int .i64 2))⟩,
    ⟨some (60, false), .mv 64 (.t 63)⟩,
    ⟨some (64, true), .fa 65 (.t 1) 3⟩,
    ⟨some (64, true), .ld 66 (.t 65) 1 false⟩,
    ⟨some (64, true), .mv 67 (.t 66)⟩,
    ⟨some (67, false), .fa 68 (.t 1) 4⟩,
    ⟨some (67, false), .ld 69 (.t 68) 1 false⟩,
    ⟨some (67, false), .ln 70 .sl (.t 69)⟩,
    ⟨some (67, false), .bi 71 .gtr (.t 70) (.c (.int .i64 0))⟩,
    ⟨some (64, true), .pk 72 (.t 67) (.c (.bool true)) (.t 71)⟩,
    ⟨some (60, false), .pk 73 (.t 64) (.t 72) (.c (.bool false))⟩,
    ⟨none, .pk 74 (.t 60) (.c (.bool true)) (.t 73)⟩])
  (.cond (.t 74) (.seq (.ops [⟨none, .mv 2 (.c (.int .i64 2))⟩])
    (.ret))
    (.skip)))
  (.seq (.seq (.ops [⟨none, .mv 3 (.c (.int .i64 0))⟩])
  (.block 0 (.loop (.seq (.seq (.ops [⟨none, .mv 75 (.t 3)⟩,
    ⟨none, .fa 76 (.t 1) 4⟩,
    ⟨none, .ld 77 (.t 76) 1 false⟩,
    ⟨none, .ln 78 .sl (.t 77)⟩,
    ⟨none, .bi 79 .lss (.t 75) (.t 78)⟩])
  (.cond (.t 79) (.skip)
    (.exit 0)))
  (.seq (.block 1 (.seq (.ops [⟨none, .fa 82 (.t 1) 4⟩,
    ⟨none, .ld 83 (.t 82) 1 false⟩,
    ⟨none, .mv 84 (.t 3)⟩,
    ⟨none, .ia 85 (.t 83) (.t 84) 13⟩,
    ⟨none, .ld 86 (.t 85) 13 true⟩,
    ⟨none, .ca (some 87) 30 [(.t 86)]⟩,
    ⟨none, .bi 88 .neq (.t 87) (.c (.int .i64 0))⟩])
  (.cond (.t 88) (.seq (.ops [⟨none, .fa 89 (.t 1) 4⟩,
      ⟨none, .ld 90 (.t 89) 1 false⟩,
      ⟨none, .mv 91 (.t 3)⟩,
      ⟨none, .ia 92 (.t 90) (.t 91) 13⟩,
      ⟨none, .ld 93 (.t 92) 13 true⟩,
      ⟨none, .ca (some 94) 30 [(.t 93)]⟩,
      ⟨none, .mv 2 (.t 94)⟩])
    (.ret))
    (.skip))))
  (.ops [⟨none, .mv 80 (.t 3)⟩,
    ⟨none, .bi 81 .add (.t 80) (.c (.int .i64 1))⟩,
    ⟨none, .mv 3 (.t 81)⟩]))))))
  (.seq (.ops [⟨none, .mv 2 (.c (.int .i64 0))⟩])
  (.ret))))))))
theorem comp20 : compFn Try.prog [1] Try.f20 = some ([.t 2], c20) := by kernel_rfl
/-- topiary/wire.Write: 1 parameters, 60 slots. -/
def c21 : C :=
  .seq (.ops [⟨none, .bxL 1 (.t 0)⟩,
    ⟨none, .mv 2 (.c (.sl true .pub 1 []))⟩,
    ⟨none, .mv 3 (.c (.int .i64 0))⟩])
  (.seq (.seq (.ops [⟨none, .ld 11 (.t 1) 5 true⟩,
    ⟨none, .ca (some 12) 18 [(.t 11)]⟩,
    ⟨none, .mv 4 (.t 12)⟩])
  (.seq (.ops [⟨none, .mv 13 (.t 4)⟩,
    ⟨none, .bi 14 .neq (.t 13) (.c (.int .i64 0))⟩])
  (.cond (.t 14) (.seq (.ops [⟨none, .mv 15 (.t 4)⟩,
      ⟨none, .mv 2 (.c (.sl true .pub 1 []))⟩,
      ⟨none, .mv 3 (.t 15)⟩])
    (.ret))
    (.skip))))
  (.seq (.ops [⟨none, .mv 5 (.c (.int .i64 0))⟩])
  (.cut (.seq (.ops [⟨none, .fa 16 (.t 1) 3⟩,
    ⟨none, .ld 17 (.t 16) 1 false⟩])
  (.cond (.t 17) (.ops [⟨none, .mv 5 (.c (.int .i64 1))⟩])
    (.skip)))
  (.seq (.ops [⟨none, .fa 18 (.t 1) 1⟩,
    ⟨none, .ld 19 (.t 18) 1 false⟩,
    ⟨none, .fa 20 (.t 1) 2⟩,
    ⟨none, .ld 21 (.t 20) 1 false⟩,
    ⟨none, .ln 22 .sl (.t 21)⟩,
    ⟨none, .lit 23 1 [(.t 19), (.t 22)]⟩,
    ⟨none, .ca (some 24) 28 [(.c (.sl true .pub 0 [])), (.t 23)]⟩,
    ⟨none, .mv 6 (.t 24)⟩])
  (.seq (.ops [⟨none, .mv 25 (.t 6)⟩,
    ⟨none, .fa 26 (.t 1) 2⟩,
    ⟨none, .ld 27 (.t 26) 1 false⟩,
    ⟨none, .ca (some 28) 28 [(.t 25), (.t 27)]⟩,
    ⟨none, .mv 6 (.t 28)⟩])
  (.seq (.ops [⟨none, .mv 29 (.t 6)⟩,
    ⟨none, .mv 30 (.t 5)⟩,
    ⟨none, .fa 31 (.t 1) 4⟩,
    ⟨none, .ld 32 (.t 31) 1 false⟩,
    ⟨none, .ln 33 .sl (.t 32)⟩,
    ⟨none, .lit 34 1 [(.t 30), (.t 33)]⟩,
    ⟨none, .ca (some 35) 28 [(.t 29), (.t 34)]⟩,
    ⟨none, .mv 6 (.t 35)⟩])
  (.seq (.seq (.ops [⟨none, .fa 36 (.t 1) 4⟩,
    ⟨none, .ld 37 (.t 36) 1 false⟩,
    ⟨none, .ln 38 .sl (.t 37)⟩,
    ⟨none, .mv 39 (.c (.int .i64 0))⟩])
  (.block 0 (.loop (.seq (.ops [⟨none, .bi 40 .lss (.t 39) (.t 38)⟩])
  (.seq (.cond (.t 40) (.skip)
    (.exit 0))
  (.seq (.block 1 (.seq (.ops [⟨none, .ia 41 (.t 37) (.t 39) 13⟩,
    ⟨none, .ld 42 (.t 41) 13 true⟩,
    ⟨none, .alL 8 [.int .i64 0, .int .i64 0, .int .i64 0, .sl true .pub 0 [], .int .i64 0, .int .i64 0, .int .i64 0, .int .i64 0, .int .i64 0, .int .i64 0, .int .i64 0, .str [], .str []]⟩,
    ⟨none, .st (.t 8) (.t 42) 13⟩])
  (.seq (.ops [⟨none, .ld 44 (.t 8) 13 true⟩,
    ⟨none, .ca (some 45) 11 [(.t 44)]⟩,
    ⟨none, .mv 43 (.t 45)⟩,
    ⟨none, .ex 46 (.t 43) 0⟩,
    ⟨none, .ex 47 (.t 43) 1⟩,
    ⟨none, .mv 9 (.t 46)⟩,
    ⟨none, .mv 10 (.t 47)⟩])
  (.ops [⟨none, .mv 48 (.t 6)⟩,
    ⟨none, .mv 49 (.t 9)⟩,
    ⟨none, .cS 50 (.t 49)⟩,
    ⟨none, .lit 51 1 [(.t 50)]⟩,
    ⟨none, .ca (some 52) 29 [(.t 48), (.t 51)]⟩,
    ⟨none, .mv 6 (.t 52)⟩]))))
  (.ops [⟨none, .bi 53 .add (.t 39) (.c (.int .i64 1))⟩,
    ⟨none, .mv 39 (.t 53)⟩])))))))
  (.seq (.ops [⟨none, .fa 54 (.t 1) 0⟩,
    ⟨none, .ld 55 (.t 54) 1 false⟩,
    ⟨none, .mv 56 (.t 6)⟩,
    ⟨none, .ca (some 57) 50 [(.t 55), (.t 56)]⟩,
    ⟨none, .ex 58 (.t 57) 0⟩,
    ⟨none, .ex 59 (.t 57) 1⟩,
    ⟨none, .mv 2 (.t 58)⟩,
    ⟨none, .mv 3 (.t 59)⟩])
  (.ret)))))))))
theorem comp21 : compFn Try.prog [1, 8] Try.f21 = some ([.t 2, .t 3], c21) := by kernel_rfl
/-- topiary/topiaryref06.Write: 1 parameters, 55 slots. -/
def c22 : C :=
  .seq (.ops [⟨none, .bxL 1 (.t 0)⟩,
    ⟨none, .mv 2 (.c (.sl true .pub 1 []))⟩,
    ⟨none, .mv 3 (.c (.int .i64 0))⟩])
  (.seq (.seq (.ops [⟨none, .ld 9 (.t 1) 5 true⟩,
    ⟨none, .ca (some 10) 20 [(.t 9)]⟩,
    ⟨none, .bi 11 .neq (.t 10) (.c (.int .i64 0))⟩])
  (.cond (.t 11) (.seq (.ops [⟨none, .ld 12 (.t 1) 5 true⟩,
      ⟨none, .ca (some 13) 20 [(.t 12)]⟩,
      ⟨none, .mv 2 (.c (.sl true .pub 1 []))⟩,
      ⟨none, .mv 3 (.t 13)⟩])
    (.ret))
    (.skip)))
  (.seq (.ops [⟨none, .mv 4 (.c (.int .i64 0))⟩])
  (.cut (.seq (.ops [⟨none, .fa 14 (.t 1) 3⟩,
    ⟨none, .ld 15 (.t 14) 1 false⟩])
  (.cond (.t 15) (.ops [⟨none, .mv 4 (.c (.int .i64 1))⟩])
    (.skip)))
  (.seq (.opsD [⟨none, .fa 16 (.t 1) 1⟩,
    ⟨none, .ld 17 (.t 16) 1 false⟩,
    ⟨none, .fa 19 (.t 1) 2⟩,
    ⟨none, .ld 20 (.t 19) 1 false⟩,
    ⟨none, .ca (some 18) 32 [(.c (.sl true .pub 0 [])), (.t 17)]⟩,
    ⟨none, .ca (some 21) 33 [(.t 18), (.t 20)]⟩,
    ⟨none, .mv 5 (.t 21)⟩])
  (.seq (.opsD [⟨none, .mv 22 (.t 5)⟩,
    ⟨none, .mv 23 (.t 4)⟩,
    ⟨none, .fa 25 (.t 1) 4⟩,
    ⟨none, .ld 26 (.t 25) 1 false⟩,
    ⟨none, .ln 27 .sl (.t 26)⟩,
    ⟨none, .ca (some 24) 32 [(.t 22), (.t 23)]⟩,
    ⟨none, .ca (some 28) 32 [(.t 24), (.t 27)]⟩,
    ⟨none, .mv 5 (.t 28)⟩])
  (.seq (.seq (.ops [⟨none, .mv 6 (.c (.int .i64 0))⟩])
  (.block 0 (.loop (.seq (.seq (.ops [⟨none, .mv 29 (.t 6)⟩,
    ⟨none, .fa 30 (.t 1) 4⟩,
    ⟨none, .ld 31 (.t 30) 1 false⟩,
    ⟨none, .ln 32 .sl (.t 31)⟩,
    ⟨none, .bi 33 .lss (.t 29) (.t 32)⟩])
  (.cond (.t 33) (.skip)
    (.exit 0)))
  (.seq (.block 1 (.seq (.ops [⟨none, .fa 37 (.t 1) 4⟩,
    ⟨none, .ld 38 (.t 37) 1 false⟩,
    ⟨none, .mv 39 (.t 6)⟩,
    ⟨none, .ia 40 (.t 38) (.t 39) 13⟩,
    ⟨none, .ld 41 (.t 40) 13 true⟩,
    ⟨none, .ca (some 42) 13 [(.t 41)]⟩,
    ⟨none, .mv 36 (.t 42)⟩,
    ⟨none, .ex 43 (.t 36) 0⟩,
    ⟨none, .ex 44 (.t 36) 1⟩,
    ⟨none, .mv 7 (.t 43)⟩,
    ⟨none, .mv 8 (.t 44)⟩])
  (.ops [⟨none, .mv 45 (.t 5)⟩,
    ⟨none, .mv 46 (.t 7)⟩,
    ⟨none, .cS 47 (.t 46)⟩,
    ⟨none, .ca (some 48) 34 [(.t 45), (.t 47)]⟩,
    ⟨none, .mv 5 (.t 48)⟩])))
  (.ops [⟨none, .mv 34 (.t 6)⟩,
    ⟨none, .bi 35 .add (.t 34) (.c (.int .i64 1))⟩,
    ⟨none, .mv 6 (.t 35)⟩]))))))
  (.seq (.ops [⟨none, .fa 49 (.t 1) 0⟩,
    ⟨none, .ld 50 (.t 49) 1 false⟩,
    ⟨none, .mv 51 (.t 5)⟩,
    ⟨none, .ca (some 52) 51 [(.t 50), (.t 51)]⟩,
    ⟨none, .ex 53 (.t 52) 0⟩,
    ⟨none, .ex 54 (.t 52) 1⟩,
    ⟨none, .mv 2 (.t 53)⟩,
    ⟨none, .mv 3 (.t 54)⟩])
  (.ret))))))))
theorem comp22 : compFn Try.prog [1] Try.f22 = some ([.t 2, .t 3], c22) := by kernel_rfl
/-- topiary/topiaryref06.Same: 2 parameters, 38 slots. -/
def c23 : C :=
  .seq (.ops [⟨none, .bxL 2 (.t 0)⟩,
    ⟨none, .bxL 3 (.t 1)⟩,
    ⟨none, .mv 4 (.c (.bool false))⟩])
  (.seq (.ops [⟨none, .fa 5 (.t 2) 0⟩,
    ⟨none, .ld 6 (.t 5) 1 false⟩,
    ⟨none, .fa 7 (.t 3) 0⟩,
    ⟨none, .ld 8 (.t 7) 1 false⟩,
    ⟨none, .bi 9 .eql (.t 6) (.t 8)⟩,
    ⟨none, .mv 10 (.t 9)⟩,
    ⟨some (10, true), .fa 11 (.t 2) 1⟩,
    ⟨some (10, true), .ld 12 (.t 11) 1 false⟩,
    ⟨some (10, true), .fa 13 (.t 3) 1⟩,
    ⟨some (10, true), .ld 14 (.t 13) 1 false⟩,
    ⟨some (10, true), .bi 15 .eql (.t 12) (.t 14)⟩,
    ⟨none, .pk 16 (.t 10) (.t 15) (.c (.bool false))⟩,
    ⟨none, .mv 17 (.t 16)⟩,
    ⟨some (17, true), .fa 18 (.t 2) 2⟩,
    ⟨some (17, true), .ld 19 (.t 18) 1 false⟩,
    ⟨some (17, true), .fa 20 (.t 3) 2⟩,
    ⟨some (17, true), .ld 21 (.t 20) 1 false⟩,
    ⟨some (17, true), .ca (some 22) 45 [(.t 19), (.t 21)]⟩,
    ⟨none, .pk 23 (.t 17) (.t 22) (.c (.bool false))⟩,
    ⟨none, .mv 24 (.t 23)⟩,
    ⟨some (24, true), .fa 25 (.t 2) 3⟩,
    ⟨some (24, true), .ld 26 (.t 25) 1 false⟩,
    ⟨some (24, true), .fa 27 (.t 3) 3⟩,
    ⟨some (24, true), .ld 28 (.t 27) 1 false⟩,
    ⟨some (24, true), .bq 29 false .bool (.t 26) (.t 28)⟩,
    ⟨none, .pk 30 (.t 24) (.t 29) (.c (.bool false))⟩,
    ⟨none, .mv 31 (.t 30)⟩,
    ⟨some (31, true), .fa 32 (.t 2) 4⟩,
    ⟨some (31, true), .ld 33 (.t 32) 1 false⟩,
    ⟨some (31, true), .fa 34 (.t 3) 4⟩,
    ⟨some (31, true), .ld 35 (.t 34) 1 false⟩,
    ⟨some (31, true), .ca (some 36) 52 [(.t 33), (.t 35)]⟩,
    ⟨none, .pk 37 (.t 31) (.t 36) (.c (.bool false))⟩,
    ⟨none, .mv 4 (.t 37)⟩])
  (.ret))
theorem comp23 : compFn Try.prog [2, 3] Try.f23 = some ([.t 4], c23) := by kernel_rfl
/-- topiary/wire.Read: 1 parameters, 62 slots. -/
def c24 : C :=
  .seq (.ops [⟨none, .alL 2 [.int .i64 0, .int .i64 0, .sl true .pub 0 [], .bool false, .sl true .pub 0 []]⟩,
    ⟨none, .mv 3 (.c (.int .i64 0))⟩])
  (.seq (.ops [⟨none, .mv 13 (.t 0)⟩,
    ⟨none, .ca (some 14) 53 [(.t 13)]⟩,
    ⟨none, .mv 12 (.t 14)⟩,
    ⟨none, .ex 15 (.t 12) 0⟩,
    ⟨none, .ex 16 (.t 12) 1⟩,
    ⟨none, .ex 17 (.t 12) 2⟩,
    ⟨none, .mv 4 (.t 15)⟩,
    ⟨none, .mv 5 (.t 16)⟩,
    ⟨none, .mv 6 (.t 17)⟩])
  (.seq (.seq (.ops [⟨none, .mv 18 (.t 6)⟩,
    ⟨none, .bi 19 .neq (.t 18) (.c (.int .i64 0))⟩])
  (.cond (.t 19) (.seq (.ops [⟨none, .bld 20 [.int .i64 0, .int .i64 0, .sl true .pub 0 [], .bool false, .sl true .pub 0 []] []⟩,
      ⟨none, .mv 21 (.t 6)⟩,
      ⟨none, .st (.t 2) (.t 20) 5⟩,
      ⟨none, .mv 3 (.t 21)⟩])
    (.ret))
    (.skip)))
  (.seq (.ops [⟨none, .mv 22 (.t 5)⟩,
    ⟨none, .ca (some 23) 35 [(.t 22)]⟩,
    ⟨none, .mv 7 (.t 23)⟩])
  (.seq (.ops [⟨none, .mv 24 (.t 4)⟩,
    ⟨none, .mv 25 (.t 7)⟩,
    ⟨none, .ca (some 26) 36 [(.t 25)]⟩,
    ⟨none, .mv 27 (.t 7)⟩,
    ⟨none, .ca (some 28) 38 [(.t 27)]⟩,
    ⟨none, .bld 29 [.int .i64 0, .int .i64 0, .sl true .pub 0 [], .bool false, .sl true .pub 0 []] [(0, 1, (.t 24)), (1, 1, (.t 26)), (2, 1, (.t 28))]⟩,
    ⟨none, .alH 8 [.int .i64 0, .int .i64 0, .sl true .pub 0 [], .bool false, .sl true .pub 0 []]⟩,
    ⟨none, .st (.t 8) (.t 29) 5⟩])
  (.seq (.ops [⟨none, .mv 30 (.t 7)⟩,
    ⟨none, .ca (some 31) 54 [(.t 30), (.c (.int .i64 1))]⟩,
    ⟨none, .bi 32 .eql (.t 31) (.c (.int .i64 1))⟩,
    ⟨none, .fa 33 (.t 8) 3⟩,
    ⟨none, .st (.t 33) (.t 32) 1⟩])
  (.seq (.ops [⟨none, .alH 9 [.bool false]⟩,
    ⟨none, .st (.t 9) (.c (.bool false)) 1⟩])
  (.seq (.skip)
  (.cut (.seq (.ops [⟨none, .mv 34 (.t 7)⟩,
    ⟨none, .mv 35 (.t 7)⟩,
    ⟨none, .ca (some 36) 54 [(.t 35), (.c (.int .i64 64))]⟩,
    ⟨none, .ca (some 37) 55 [(.t 34), (.t 36)]⟩])
  (.block 0 (.range (.t 37) [38, 39] (.seq (.ops [⟨none, .alL 10 [.int .i64 0, .int .i64 0, .int .i64 0, .sl true .pub 0 [], .int .i64 0, .int .i64 0, .int .i64 0, .int .i64 0, .int .i64 0, .int .i64 0, .int .i64 0, .str [], .str []]⟩,
    ⟨none, .st (.t 10) (.t 38) 13⟩])
  (.ops [⟨none, .mv 11 (.t 39)⟩]))
  (.block 1 (.block 2 (.seq (.ops [⟨none, .mv 47 (.t 11)⟩,
    ⟨none, .bi 48 .neq (.t 47) (.c (.int .i64 0))⟩,
    ⟨none, .mv 46 (.t 48)⟩])
  (.cond (.t 46) (.seq (.ops [⟨none, .st (.t 9) (.c (.bool true)) 1⟩])
    (.exit 0))
    (.ops [⟨none, .fa 40 (.t 8) 4⟩,
      ⟨none, .ld 41 (.t 40) 1 false⟩,
      ⟨none, .ld 42 (.t 10) 13 true⟩,
      ⟨none, .lit 43 13 [(.t 42)]⟩,
      ⟨none, .ap 44 13 (.t 41) (.t 43)⟩,
      ⟨none, .fa 45 (.t 8) 4⟩,
      ⟨none, .st (.t 45) (.t 44) 1⟩]))))))))
  (.seq (.seq (.ops [⟨none, .ld 49 (.t 9) 1 false⟩,
    ⟨none, .mv 50 (.t 49)⟩,
    ⟨some (50, false), .mv 51 (.t 7)⟩,
    ⟨some (50, false), .ca (some 52) 40 [(.t 51)]⟩,
    ⟨some (50, false), .bi 53 .neq (.t 52) (.c (.int .i64 0))⟩,
    ⟨none, .pk 54 (.t 50) (.c (.bool true)) (.t 53)⟩,
    ⟨none, .mv 55 (.t 54)⟩,
    ⟨some (55, false), .ld 56 (.t 8) 5 true⟩,
    ⟨some (55, false), .ca (some 57) 18 [(.t 56)]⟩,
    ⟨some (55, false), .bi 58 .neq (.t 57) (.c (.int .i64 0))⟩,
    ⟨none, .pk 59 (.t 55) (.c (.bool true)) (.t 58)⟩])
  (.cond (.t 59) (.seq (.ops [⟨none, .bld 60 [.int .i64 0, .int .i64 0, .sl true .pub 0 [], .bool false, .sl true .pub 0 []] []⟩,
      ⟨none, .st (.t 2) (.t 60) 5⟩,
      ⟨none, .mv 3 (.c (.int .i64 2))⟩])
    (.ret))
    (.skip)))
  (.seq (.ops [⟨none, .ld 61 (.t 8) 5 true⟩,
    ⟨none, .st (.t 2) (.t 61) 5⟩,
    ⟨none, .mv 3 (.c (.int .i64 0))⟩])
  (.ret)))))))))))
theorem comp24 : compFn Try.prog [2, 10] Try.f24 = some ([.c 2 5 true, .t 3], c24) := by kernel_rfl
/-- topiary/topiaryref06.Read: 1 parameters, 99 slots. -/
def c25 : C :=
  .seq (.ops [⟨none, .alL 2 [.int .i64 0, .int .i64 0, .sl true .pub 0 [], .bool false, .sl true .pub 0 []]⟩,
    ⟨none, .mv 3 (.c (.int .i64 0))⟩])
  (.seq (.ops [⟨none, .mv 18 (.t 0)⟩,
    ⟨none, .ca (some 19) 56 [(.t 18)]⟩,
    ⟨none, .mv 17 (.t 19)⟩,
    ⟨none, .ex 20 (.t 17) 0⟩,
    ⟨none, .ex 21 (.t 17) 1⟩,
    ⟨none, .ex 22 (.t 17) 2⟩,
    ⟨none, .mv 4 (.t 20)⟩,
    ⟨none, .mv 5 (.t 21)⟩,
    ⟨none, .mv 6 (.t 22)⟩])
  (.seq (.seq (.ops [⟨none, .mv 23 (.t 6)⟩,
    ⟨none, .bi 24 .neq (.t 23) (.c (.int .i64 0))⟩])
  (.cond (.t 24) (.seq (.ops [⟨none, .bld 25 [.int .i64 0, .int .i64 0, .sl true .pub 0 [], .bool false, .sl true .pub 0 []] []⟩,
      ⟨none, .mv 26 (.t 6)⟩,
      ⟨none, .st (.t 2) (.t 25) 5⟩,
      ⟨none, .mv 3 (.t 26)⟩])
    (.ret))
    (.skip)))
  (.seq (.ops [⟨none, .mv 27 (.t 4)⟩,
    ⟨none, .bld 28 [.int .i64 0, .int .i64 0, .sl true .pub 0 [], .bool false, .sl true .pub 0 []] [(0, 1, (.t 27))]⟩,
    ⟨none, .alL 7 [.int .i64 0, .int .i64 0, .sl true .pub 0 [], .bool false, .sl true .pub 0 []]⟩,
    ⟨none, .st (.t 7) (.t 28) 5⟩])
  (.seq (.ops [⟨none, .mv 29 (.t 5)⟩,
    ⟨none, .bld 30 [.sl true .pub 0 [], .int .i64 0, .int .i64 0, .int .i64 0] [(0, 1, (.t 29))]⟩,
    ⟨none, .alL 8 [.sl true .pub 0 [], .int .i64 0, .int .i64 0, .int .i64 0]⟩,
    ⟨none, .st (.t 8) (.t 30) 4⟩])
  (.seq (.ops [⟨none, .ld 32 (.t 8) 4 true⟩,
    ⟨none, .ca (some 33) 41 [(.t 32)]⟩,
    ⟨none, .mv 31 (.t 33)⟩,
    ⟨none, .ex 34 (.t 31) 0⟩,
    ⟨none, .ex 35 (.t 31) 1⟩,
    ⟨none, .st (.t 8) (.t 34) 4⟩,
    ⟨none, .fa 36 (.t 7) 1⟩,
    ⟨none, .st (.t 36) (.t 35) 1⟩])
  (.seq (.ops [⟨none, .ld 38 (.t 8) 4 true⟩,
    ⟨none, .ca (some 39) 43 [(.t 38)]⟩,
    ⟨none, .mv 37 (.t 39)⟩,
    ⟨none, .ex 40 (.t 37) 0⟩,
    ⟨none, .ex 41 (.t 37) 1⟩,
    ⟨none, .st (.t 8) (.t 40) 4⟩,
    ⟨none, .fa 42 (.t 7) 2⟩,
    ⟨none, .st (.t 42) (.t 41) 1⟩])
  (.seq (.ops [⟨none, .mv 9 (.c (.int .i64 0))⟩])
  (.seq (.ops [⟨none, .mv 10 (.c (.int .i64 0))⟩])
  (.seq (.ops [⟨none, .ld 44 (.t 8) 4 true⟩,
    ⟨none, .ca (some 45) 41 [(.t 44)]⟩,
    ⟨none, .mv 43 (.t 45)⟩,
    ⟨none, .ex 46 (.t 43) 0⟩,
    ⟨none, .ex 47 (.t 43) 1⟩,
    ⟨none, .st (.t 8) (.t 46) 4⟩,
    ⟨none, .mv 9 (.t 47)⟩])
  (.seq (.ops [⟨none, .mv 48 (.t 9)⟩,
    ⟨none, .bi 49 .eql (.t 48) (.c (.int .i64 1))⟩,
    ⟨none, .fa 50 (.t 7) 3⟩,
    ⟨none, .st (.t 50) (.t 49) 1⟩])
  (.seq (.ops [⟨none, .ld 52 (.t 8) 4 true⟩,
    ⟨none, .ca (some 53) 57 [(.t 52), (.c (.int .i64 64))]⟩,
    ⟨none, .mv 51 (.t 53)⟩,
    ⟨none, .ex 54 (.t 51) 0⟩,
    ⟨none, .ex 55 (.t 51) 1⟩,
    ⟨none, .st (.t 8) (.t 54) 4⟩,
    ⟨none, .mv 10 (.t 55)⟩])
  (.seq (.seq (.ops [⟨none, .mv 11 (.c (.int .i64 0))⟩])
  (.block 0 (.loop (.seq (.seq (.ops [⟨none, .mv 56 (.t 11)⟩,
    ⟨none, .mv 57 (.t 10)⟩,
    ⟨none, .bi 58 .lss (.t 56) (.t 57)⟩])
  (.cond (.t 58) (.skip)
    (.exit 0)))
  (.seq (.block 1 (.seq (.ops [⟨none, .mv 12 (.c (.str []))⟩])
  (.seq (.ops [⟨none, .ld 62 (.t 8) 4 true⟩,
    ⟨none, .mv 63 (.t 5)⟩,
    ⟨none, .ln 64 .sl (.t 63)⟩,
    ⟨none, .ca (some 65) 44 [(.t 62), (.t 64)]⟩,
    ⟨none, .mv 61 (.t 65)⟩,
    ⟨none, .ex 66 (.t 61) 0⟩,
    ⟨none, .ex 67 (.t 61) 1⟩,
    ⟨none, .st (.t 8) (.t 66) 4⟩,
    ⟨none, .mv 12 (.t 67)⟩])
  (.seq (.ops [⟨none, .mv 69 (.t 12)⟩,
    ⟨none, .cB 70 (.t 69)⟩,
    ⟨none, .ca (some 71) 16 [(.t 70)]⟩,
    ⟨none, .mv 68 (.t 71)⟩,
    ⟨none, .ex 72 (.t 68) 0⟩,
    ⟨none, .ex 73 (.t 68) 1⟩,
    ⟨none, .alL 13 [.int .i64 0, .int .i64 0, .int .i64 0, .sl true .pub 0 [], .int .i64 0, .int .i64 0, .int .i64 0, .int .i64 0, .int .i64 0, .int .i64 0, .int .i64 0, .str [], .str []]⟩,
    ⟨none, .st (.t 13) (.t 72) 13⟩,
    ⟨none, .mv 14 (.t 73)⟩])
  (.seq (.seq (.ops [⟨none, .mv 74 (.t 14)⟩,
    ⟨none, .bi 75 .neq (.t 74) (.c (.int .i64 0))⟩])
  (.cond (.t 75) (.seq (.ops [⟨none, .bld 76 [.int .i64 0, .int .i64 0, .sl true .pub 0 [], .bool false, .sl true .pub 0 []] []⟩,
      ⟨none, .st (.t 2) (.t 76) 5⟩,
      ⟨none, .mv 3 (.c (.int .i64 2))⟩])
    (.ret))
    (.skip)))
  (.ops [⟨none, .fa 77 (.t 7) 4⟩,
    ⟨none, .ld 78 (.t 77) 1 false⟩,
    ⟨none, .ld 79 (.t 13) 13 true⟩,
    ⟨none, .lit 80 13 [(.t 79)]⟩,
    ⟨none, .ap 81 13 (.t 78) (.t 80)⟩,
    ⟨none, .fa 82 (.t 7) 4⟩,
    ⟨none, .st (.t 82) (.t 81) 1⟩]))))))
  (.ops [⟨none, .mv 59 (.t 11)⟩,
    ⟨none, .bi 60 .add (.t 59) (.c (.int .i64 1))⟩,
    ⟨none, .mv 11 (.t 60)⟩]))))))
  (.seq (.ops [⟨none, .ld 84 (.t 7) 5 true⟩,
    ⟨none, .ca (some 85) 22 [(.t 84)]⟩,
    ⟨none, .mv 83 (.t 85)⟩,
    ⟨none, .ex 86 (.t 83) 0⟩,
    ⟨none, .ex 87 (.t 83) 1⟩,
    ⟨none, .mv 15 (.t 86)⟩,
    ⟨none, .mv 16 (.t 87)⟩])
  (.seq (.seq (.ops [⟨none, .mv 88 (.t 16)⟩,
    ⟨none, .bi 89 .neq (.t 88) (.c (.int .i64 0))⟩,
    ⟨none, .mv 90 (.t 89)⟩,
    ⟨some (90, false), .mv 91 (.t 15)⟩,
    ⟨some (90, false), .cS 92 (.t 91)⟩,
    ⟨some (90, false), .mv 93 (.t 0)⟩,
    ⟨some (90, false), .cS 94 (.t 93)⟩,
    ⟨some (90, false), .bi 95 .neq (.t 92) (.t 94)⟩,
    ⟨none, .pk 96 (.t 90) (.c (.bool true)) (.t 95)⟩])
  (.cond (.t 96) (.seq (.ops [⟨none, .bld 97 [.int .i64 0, .int .i64 0, .sl true .pub 0 [], .bool false, .sl true .pub 0 []] []⟩,
      ⟨none, .st (.t 2) (.t 97) 5⟩,
      ⟨none, .mv 3 (.c (.int .i64 2))⟩])
    (.ret))
    (.skip)))
  (.seq (.ops [⟨none, .ld 98 (.t 7) 5 true⟩,
    ⟨none, .st (.t 2) (.t 98) 5⟩,
    ⟨none, .mv 3 (.c (.int .i64 0))⟩])
  (.ret))))))))))))))))
theorem comp25 : compFn Try.prog [2, 7, 8, 13] Try.f25 = some ([.c 2 5 true, .t 3], c25) := by kernel_rfl
/-- topiary/topiaryref04.Spoil: 3 parameters, 38 slots. -/
def c26 : C :=
  .seq (.ops [⟨none, .mv 6 (.c (.sl true .pub 1 []))⟩,
    ⟨none, .mv 7 (.c (.int .i64 0))⟩])
  (.seq (.seq (.ops [⟨none, .mv 10 (.t 1)⟩,
    ⟨none, .bi 11 .lss (.t 10) (.c (.int .i64 0))⟩,
    ⟨none, .mv 12 (.t 11)⟩,
    ⟨some (12, false), .mv 13 (.t 1)⟩,
    ⟨some (12, false), .mv 14 (.t 0)⟩,
    ⟨some (12, false), .ln 15 .sl (.t 14)⟩,
    ⟨some (12, false), .bi 16 .geq (.t 13) (.t 15)⟩,
    ⟨none, .pk 17 (.t 12) (.c (.bool true)) (.t 16)⟩])
  (.cond (.t 17) (.seq (.ops [⟨none, .mv 6 (.c (.sl true .pub 1 []))⟩,
      ⟨none, .mv 7 (.c (.int .i64 1))⟩])
    (.ret))
    (.skip)))
  (.seq (.ops [⟨none, .mv 18 (.t 2)⟩,
    ⟨none, .bi 19 .rem (.t 18) (.c (.int .i64 256))⟩,
    ⟨none, .bi 20 .add (.t 19) (.c (.int .i64 256))⟩,
    ⟨none, .bi 21 .rem (.t 20) (.c (.int .i64 256))⟩,
    ⟨none, .mv 8 (.t 21)⟩])
  (.seq (.seq (.ops [⟨none, .mv 22 (.t 8)⟩,
    ⟨none, .bi 23 .eql (.t 22) (.c (.int .i64 0))⟩])
  (.cond (.t 23) (.seq (.ops [⟨none, .mv 6 (.c (.sl true .pub 1 []))⟩,
      ⟨none, .mv 7 (.c (.int .i64 7))⟩])
    (.ret))
    (.skip)))
  (.seq (.ops [⟨none, .lit 24 1 []⟩,
    ⟨none, .mv 25 (.t 0)⟩,
    ⟨none, .ap 26 1 (.t 24) (.t 25)⟩,
    ⟨none, .mv 9 (.t 26)⟩])
  (.seq (.ops [⟨none, .mv 27 (.t 9)⟩,
    ⟨none, .mv 28 (.t 1)⟩,
    ⟨none, .mv 29 (.t 9)⟩,
    ⟨none, .mv 30 (.t 1)⟩,
    ⟨none, .ia 31 (.t 29) (.t 30) 1⟩,
    ⟨none, .ld 32 (.t 31) 1 false⟩,
    ⟨none, .mv 33 (.t 8)⟩,
    ⟨none, .cI 34 .u8 (.t 33)⟩,
    ⟨none, .bi 35 .xor (.t 32) (.t 34)⟩,
    ⟨none, .ia 36 (.t 27) (.t 28) 1⟩,
    ⟨none, .se (.t 36) (.t 35) 1⟩])
  (.seq (.ops [⟨none, .mv 37 (.t 9)⟩,
    ⟨none, .mv 6 (.t 37)⟩,
    ⟨none, .mv 7 (.c (.int .i64 0))⟩])
  (.ret)))))))
theorem comp26 : compFn Try.prog [1000036] Try.f26 = some ([.t 6, .t 7], c26) := by kernel_rfl
/-- topiary/change.Check: 1 parameters, 45 slots. -/
def c27 : C :=
  .seq (.ops [⟨none, .bxL 1 (.t 0)⟩,
    ⟨none, .mv 2 (.c (.int .i64 0))⟩])
  (.seq (.block 0 (.seq (.ops [⟨none, .fa 5 (.t 1) 4⟩,
    ⟨none, .ld 6 (.t 5) 1 false⟩,
    ⟨none, .bi 7 .lss (.t 6) (.c (.int .i64 1))⟩,
    ⟨none, .mv 8 (.t 7)⟩,
    ⟨some (8, false), .fa 9 (.t 1) 4⟩,
    ⟨some (8, false), .ld 10 (.t 9) 1 false⟩,
    ⟨some (8, false), .bi 11 .gtr (.t 10) (.c (.int .i64 5))⟩,
    ⟨none, .pk 12 (.t 8) (.c (.bool true)) (.t 11)⟩,
    ⟨none, .mv 4 (.t 12)⟩])
  (.cond (.t 4) (.seq (.ops [⟨none, .mv 2 (.c (.int .i64 1))⟩])
    (.ret))
    (.seq (.ops [⟨none, .fa 14 (.t 1) 0⟩,
      ⟨none, .ld 15 (.t 14) 2 true⟩,
      ⟨none, .ca (some 16) 58 [(.t 15)]⟩,
      ⟨none, .un 17 .not (.t 16)⟩,
      ⟨none, .mv 13 (.t 17)⟩])
    (.cond (.t 13) (.seq (.ops [⟨none, .mv 2 (.c (.int .i64 2))⟩])
      (.ret))
      (.seq (.ops [⟨none, .fa 19 (.t 1) 2⟩,
        ⟨none, .ld 20 (.t 19) 1 false⟩,
        ⟨none, .bi 21 .lss (.t 20) (.c (.int .i64 1))⟩,
        ⟨none, .mv 22 (.t 21)⟩,
        ⟨some (22, false), .fa 23 (.t 1) 2⟩,
        ⟨some (22, false), .ld 24 (.t 23) 1 false⟩,
        ⟨some (22, false), .fa 25 (.t 1) 0⟩,
        ⟨some (22, false), .fa 26 (.t 25) 0⟩,
        ⟨some (22, false), .ld 27 (.t 26) 1 false⟩,
        ⟨some (22, false), .bi 28 .gtr (.t 24) (.t 27)⟩,
        ⟨none, .pk 29 (.t 22) (.c (.bool true)) (.t 28)⟩,
        ⟨none, .mv 18 (.t 29)⟩])
      (.cond (.t 18) (.seq (.ops [⟨none, .mv 2 (.c (.int .i64 1))⟩])
        (.ret))
        (.skip))))))))
  (.seq (.seq (.ops [⟨none, .ld 30 (.t 1) 13 true⟩,
    ⟨none, .ca (some 31) 59 [(.t 30)]⟩,
    ⟨none, .mv 3 (.t 31)⟩])
  (.seq (.ops [⟨none, .mv 32 (.t 3)⟩,
    ⟨none, .bi 33 .neq (.t 32) (.c (.int .i64 0))⟩])
  (.cond (.t 33) (.seq (.ops [⟨none, .mv 34 (.t 3)⟩,
      ⟨none, .mv 2 (.t 34)⟩])
    (.ret))
    (.skip))))
  (.seq (.seq (.ops [⟨none, .ld 35 (.t 1) 13 true⟩,
    ⟨none, .ca (some 36) 60 [(.t 35)]⟩,
    ⟨none, .un 37 .not (.t 36)⟩,
    ⟨none, .mv 38 (.t 37)⟩,
    ⟨some (38, false), .ld 39 (.t 1) 13 true⟩,
    ⟨some (38, false), .ca (some 40) 61 [(.t 39)]⟩,
    ⟨some (38, false), .un 41 .not (.t 40)⟩,
    ⟨none, .pk 42 (.t 38) (.c (.bool true)) (.t 41)⟩])
  (.cond (.t 42) (.seq (.ops [⟨none, .mv 2 (.c (.int .i64 2))⟩])
    (.ret))
    (.skip)))
  (.seq (.ops [⟨none, .ld 43 (.t 1) 13 true⟩,
    ⟨none, .ca (some 44) 62 [(.t 43)]⟩,
    ⟨none, .mv 2 (.t 44)⟩])
  (.ret)))))
theorem comp27 : compFn Try.prog [1] Try.f27 = some ([.t 2], c27) := by kernel_rfl
/-- topiary/octet.Put: 2 parameters, 37 slots. -/
def c28 : C :=
  .seq (.ops [⟨none, .mv 4 (.c (.sl true .pub 1 []))⟩])
  (.seq (.ops [⟨none, .lit 8 1 []⟩,
    ⟨none, .mv 9 (.t 0)⟩,
    ⟨none, .ap 10 1 (.t 8) (.t 9)⟩,
    ⟨none, .mv 5 (.t 10)⟩])
  (.seq (.seq (.ops [⟨none, .mv 11 (.t 1)⟩,
    ⟨none, .ln 12 .sl (.t 11)⟩,
    ⟨none, .mv 13 (.c (.int .i64 0))⟩])
  (.block 0 (.loop (.seq (.ops [⟨none, .bi 14 .lss (.t 13) (.t 12)⟩])
  (.seq (.cond (.t 14) (.skip)
    (.exit 0))
  (.seq (.block 1 (.seq (.ops [⟨none, .ia 15 (.t 11) (.t 13) 1⟩,
    ⟨none, .ld 16 (.t 15) 1 false⟩,
    ⟨none, .mv 7 (.t 16)⟩])
  (.seq (.ops [⟨none, .mv 17 (.t 7)⟩,
    ⟨none, .mx 18 (.t 17) (.c (.int .i64 0))⟩,
    ⟨none, .mv 7 (.t 18)⟩])
  (.seq (.block 2 (.loop (.seq (.seq (.ops [⟨none, .mv 19 (.t 7)⟩,
    ⟨none, .bi 20 .geq (.t 19) (.c (.int .i64 128))⟩])
  (.cond (.t 20) (.skip)
    (.exit 2)))
  (.block 3 (.seq (.ops [⟨none, .mv 21 (.t 5)⟩,
    ⟨none, .mv 22 (.t 7)⟩,
    ⟨none, .bi 23 .and (.t 22) (.c (.int .i64 127))⟩,
    ⟨none, .bi 24 .or (.t 23) (.c (.int .i64 128))⟩,
    ⟨none, .cI 25 .u8 (.t 24)⟩,
    ⟨none, .lit 26 1 [(.t 25)]⟩,
    ⟨none, .ap 27 1 (.t 21) (.t 26)⟩,
    ⟨none, .mv 5 (.t 27)⟩])
  (.ops [⟨none, .mv 28 (.t 7)⟩,
    ⟨none, .bi 29 .shr (.t 28) (.c (.int .u64 7))⟩,
    ⟨none, .mv 7 (.t 29)⟩]))))))
  (.ops [⟨none, .mv 30 (.t 5)⟩,
    ⟨none, .mv 31 (.t 7)⟩,
    ⟨none, .cI 32 .u8 (.t 31)⟩,
    ⟨none, .lit 33 1 [(.t 32)]⟩,
    ⟨none, .ap 34 1 (.t 30) (.t 33)⟩,
    ⟨none, .mv 5 (.t 34)⟩])))))
  (.ops [⟨none, .bi 35 .add (.t 13) (.c (.int .i64 1))⟩,
    ⟨none, .mv 13 (.t 35)⟩])))))))
  (.seq (.ops [⟨none, .mv 36 (.t 5)⟩,
    ⟨none, .mv 4 (.t 36)⟩])
  (.ret))))
theorem comp28 : compFn Try.prog [] Try.f28 = some ([.t 4], c28) := by kernel_rfl
/-- topiary/octet.PutText: 2 parameters, 26 slots. -/
def c29 : C :=
  .seq (.ops [⟨none, .mv 4 (.c (.sl true .pub 1 []))⟩])
  (.seq (.ops [⟨none, .lit 8 1 []⟩,
    ⟨none, .mv 9 (.t 0)⟩,
    ⟨none, .ap 10 1 (.t 8) (.t 9)⟩,
    ⟨none, .mv 5 (.t 10)⟩])
  (.seq (.seq (.ops [⟨none, .mv 11 (.t 1)⟩,
    ⟨none, .ln 12 .sl (.t 11)⟩,
    ⟨none, .mv 13 (.c (.int .i64 0))⟩])
  (.block 0 (.loop (.seq (.ops [⟨none, .bi 14 .lss (.t 13) (.t 12)⟩])
  (.seq (.cond (.t 14) (.skip)
    (.exit 0))
  (.seq (.block 1 (.seq (.ops [⟨none, .ia 15 (.t 11) (.t 13) 1⟩,
    ⟨none, .ld 16 (.t 15) 1 false⟩,
    ⟨none, .mv 7 (.t 16)⟩])
  (.ops [⟨none, .mv 17 (.t 5)⟩,
    ⟨none, .mv 18 (.t 7)⟩,
    ⟨none, .ln 19 .fn (.t 18)⟩,
    ⟨none, .lit 20 1 [(.t 19)]⟩,
    ⟨none, .ca (some 21) 28 [(.t 17), (.t 20)]⟩,
    ⟨none, .mv 22 (.t 7)⟩,
    ⟨none, .ap 23 1 (.t 21) (.t 22)⟩,
    ⟨none, .mv 5 (.t 23)⟩])))
  (.ops [⟨none, .bi 24 .add (.t 13) (.c (.int .i64 1))⟩,
    ⟨none, .mv 13 (.t 24)⟩])))))))
  (.seq (.ops [⟨none, .mv 25 (.t 5)⟩,
    ⟨none, .mv 4 (.t 25)⟩])
  (.ret))))
theorem comp29 : compFn Try.prog [] Try.f29 = some ([.t 4], c29) := by kernel_rfl
/-- topiary/topiaryref05.Check: 1 parameters, 105 slots. -/
def c30 : C :=
  .seq (.ops [⟨none, .bxL 1 (.t 0)⟩,
    ⟨none, .mv 2 (.c (.int .i64 0))⟩])
  (.seq (.seq (.ops [⟨none, .fa 4 (.t 1) 4⟩,
    ⟨none, .ld 5 (.t 4) 1 false⟩,
    ⟨none, .bi 6 .lss (.t 5) (.c (.int .i64 1))⟩,
    ⟨none, .mv 7 (.t 6)⟩,
    ⟨some (7, false), .fa 8 (.t 1) 4⟩,
    ⟨some (7, false), .ld 9 (.t 8) 1 false⟩,
    ⟨some (7, false), .bi 10 .gtr (.t 9) (.c (.int .i64 5))⟩,
    ⟨none, .pk 11 (.t 7) (.c (.bool true)) (.t 10)⟩])
  (.cond (.t 11) (.seq (.ops [⟨none, .mv 2 (.c (.int .i64 1))⟩])
    (.ret))
    (.skip)))
  (.seq (.seq (.ops [⟨none, .fa 12 (.t 1) 0⟩,
    ⟨none, .ld 13 (.t 12) 2 true⟩,
    ⟨none, .ca (some 14) 63 [(.t 13)]⟩,
    ⟨none, .un 15 .not (.t 14)⟩])
  (.cond (.t 15) (.seq (.ops [⟨none, .mv 2 (.c (.int .i64 2))⟩])
    (.ret))
    (.skip)))
  (.seq (.seq (.ops [⟨none, .fa 16 (.t 1) 2⟩,
    ⟨none, .ld 17 (.t 16) 1 false⟩,
    ⟨none, .bi 18 .lss (.t 17) (.c (.int .i64 1))⟩,
    ⟨none, .mv 19 (.t 18)⟩,
    ⟨some (19, false), .fa 20 (.t 1) 2⟩,
    ⟨some (19, false), .ld 21 (.t 20) 1 false⟩,
    ⟨some (19, false), .fa 22 (.t 1) 0⟩,
    ⟨some (19, false), .fa 23 (.t 22) 0⟩,
    ⟨some (19, false), .ld 24 (.t 23) 1 false⟩,
    ⟨some (19, false), .bi 25 .gtr (.t 21) (.t 24)⟩,
    ⟨none, .pk 26 (.t 19) (.c (.bool true)) (.t 25)⟩])
  (.cond (.t 26) (.seq (.ops [⟨none, .mv 2 (.c (.int .i64 1))⟩])
    (.ret))
    (.skip)))
  (.seq (.seq (.ops [⟨none, .fa 27 (.t 1) 3⟩,
    ⟨none, .ld 28 (.t 27) 1 false⟩,
    ⟨none, .ca (some 29) 48 [(.t 28)]⟩,
    ⟨none, .bi 30 .neq (.t 29) (.c (.int .i64 0))⟩])
  (.cond (.t 30) (.seq (.ops [⟨none, .fa 31 (.t 1) 3⟩,
      ⟨none, .ld 32 (.t 31) 1 false⟩,
      ⟨none, .ca (some 33) 48 [(.t 32)]⟩,
      ⟨none, .mv 2 (.t 33)⟩])
    (.ret))
    (.skip)))
  (.seq (.seq (.opsD [⟨none, .fa 34 (.t 1) 3⟩,
    ⟨none, .ld 35 (.t 34) 1 false⟩,
    ⟨none, .fa 38 (.t 1) 3⟩,
    ⟨none, .ld 39 (.t 38) 1 false⟩,
    ⟨none, .ln 40 .sl (.t 39)⟩,
    ⟨none, .ca (some 36) 49 [(.t 35)]⟩,
    ⟨none, .ln 37 .sl (.t 36)⟩,
    ⟨none, .bi 41 .neq (.t 37) (.t 40)⟩,
    ⟨none, .mv 42 (.t 41)⟩,
    ⟨some (42, false), .fa 43 (.t 1) 3⟩,
    ⟨some (42, false), .ld 44 (.t 43) 1 false⟩,
    ⟨some (42, false), .fa 45 (.t 1) 0⟩,
    ⟨some (42, false), .fa 46 (.t 45) 1⟩,
    ⟨some (42, false), .ld 47 (.t 46) 1 false⟩,
    ⟨some (42, false), .fa 49 (.t 1) 2⟩,
    ⟨some (42, false), .ld 50 (.t 49) 1 false⟩,
    ⟨some (42, false), .bi 51 .sub (.t 50) (.c (.int .i64 1))⟩,
    ⟨some (42, false), .ca (some 48) 64 [(.t 44), (.t 47)]⟩,
    ⟨some (42, false), .bi 52 .neq (.t 48) (.t 51)⟩,
    ⟨none, .pk 53 (.t 42) (.c (.bool true)) (.t 52)⟩,
    ⟨none, .mv 54 (.t 53)⟩,
    ⟨some (54, false), .ld 55 (.t 1) 13 true⟩,
    ⟨some (54, false), .ca (some 56) 65 [(.t 55)]⟩,
    ⟨some (54, false), .un 57 .not (.t 56)⟩,
    ⟨none, .pk 58 (.t 54) (.c (.bool true)) (.t 57)⟩])
  (.cond (.t 58) (.seq (.ops [⟨none, .mv 2 (.c (.int .i64 2))⟩])
    (.ret))
    (.skip)))
  (.seq (.ops [⟨none, .fa 59 (.t 1) 4⟩,
    ⟨none, .ld 60 (.t 59) 1 false⟩,
    ⟨none, .bi 61 .eql (.t 60) (.c (.int .i64 1))⟩,
    ⟨none, .mv 62 (.t 61)⟩,
    ⟨some (62, false), .fa 63 (.t 1) 4⟩,
    ⟨some (62, false), .ld 64 (.t 63) 1 false⟩,
    ⟨some (62, false), .bi 65 .eql (.t 64) (.c (.int .i64 3))⟩,
    ⟨none, .pk 66 (.t 62) (.c (.bool true)) (.t 65)⟩,
    ⟨none, .mv 67 (.t 66)⟩,
    ⟨some (67, false), .fa 68 (.t 1) 4⟩,
    ⟨some (67, false), .ld 69 (.t 68) 1 false⟩,
    ⟨some (67, false), .bi 70 .eql (.t 69) (.c (.int .i64 4))⟩,
    ⟨none, .pk 71 (.t 67) (.c (.bool true)) (.t 70)⟩,
    ⟨none, .mv 3 (.t 71)⟩])
  (.seq (.seq (.ops [⟨none, .mv 72 (.t 3)⟩,
    ⟨none, .mv 73 (.t 72)⟩,
    ⟨some (73, true), .fa 74 (.t 1) 11⟩,
    ⟨some (73, true), .ld 75 (.t 74) 1 false⟩,
    ⟨some (73, true), .ca (some 76) 66 [(.t 75)]⟩,
    ⟨some (73, true), .un 77 .not (.t 76)⟩,
    ⟨none, .pk 78 (.t 73) (.t 77) (.c (.bool false))⟩,
    ⟨none, .mv 79 (.t 78)⟩,
    ⟨some (79, false), .mv 80 (.t 3)⟩,
    ⟨some (79, false), .un 81 .not (.t 80)⟩,
    ⟨some (79, false), .mv 82 (.t 81)⟩,
    ⟨some (82, true), .fa 83 (.t 1) 11⟩,
    ⟨some (82, true), .ld 84 (.t 83) 1 false⟩,
    ⟨some (82, true), .bi 85 .neq (.t 84) (.c (.str []))⟩,
    ⟨some (79, false), .pk 86 (.t 82) (.t 85) (.c (.bool false))⟩,
    ⟨none, .pk 87 (.t 79) (.c (.bool true)) (.t 86)⟩])
  (.cond (.t 87) (.seq (.ops [⟨none, .mv 2 (.c (.int .i64 8))⟩])
    (.ret))
    (.skip)))
  (.seq (.seq (.ops [⟨none, .fa 88 (.t 1) 12⟩,
    ⟨none, .ld 89 (.t 88) 1 false⟩,
    ⟨none, .ln 90 .fn (.t 89)⟩,
    ⟨none, .bi 91 .gtr (.t 90) (.c (.int .i64 256))⟩])
  (.cond (.t 91) (.seq (.ops [⟨none, .mv 2 (.c (.int .i64 3))⟩])
    (.ret))
    (.skip)))
  (.seq (.seq (.ops [⟨none, .fa 92 (.t 1) 4⟩,
    ⟨none, .ld 93 (.t 92) 1 false⟩,
    ⟨none, .bi 94 .neq (.t 93) (.c (.int .i64 3))⟩,
    ⟨none, .mv 95 (.t 94)⟩,
    ⟨some (95, true), .fa 96 (.t 1) 4⟩,
    ⟨some (95, true), .ld 97 (.t 96) 1 false⟩,
    ⟨some (95, true), .bi 98 .neq (.t 97) (.c (.int .i64 5))⟩,
    ⟨none, .pk 99 (.t 95) (.t 98) (.c (.bool false))⟩,
    ⟨none, .mv 100 (.t 99)⟩,
    ⟨some (100, true), .fa 101 (.t 1) 12⟩,
    ⟨some (100, true), .ld 102 (.t 101) 1 false⟩,
    ⟨some (100, true), .bi 103 .neq (.t 102) (.c (.str []))⟩,
    ⟨none, .pk 104 (.t 100) (.t 103) (.c (.bool false))⟩])
  (.cond (.t 104) (.seq (.ops [⟨none, .mv 2 (.c (.int .i64 2))⟩])
    (.ret))
    (.skip)))
  (.seq (.ops [⟨none, .mv 2 (.c (.int .i64 0))⟩])
  (.ret)))))))))))
theorem comp30 : compFn Try.prog [1] Try.f30 = some ([.t 2], c30) := by kernel_rfl
/-- topiary/topiaryref06.stamp: 2 parameters, 12 slots. -/
def c31 : C :=
  .seq (.ops [⟨none, .bxL 3 (.t 1)⟩,
    ⟨none, .mv 4 (.c (.sl true .pub 1 []))⟩])
  (.seq (.opsD [⟨none, .mv 5 (.t 0)⟩,
    ⟨none, .fa 6 (.t 3) 0⟩,
    ⟨none, .ld 7 (.t 6) 1 false⟩,
    ⟨none, .fa 9 (.t 3) 1⟩,
    ⟨none, .ld 10 (.t 9) 1 false⟩,
    ⟨none, .ca (some 8) 32 [(.t 5), (.t 7)]⟩,
    ⟨none, .ca (some 11) 32 [(.t 8), (.t 10)]⟩,
    ⟨none, .mv 4 (.t 11)⟩])
  (.ret))
theorem comp31 : compFn Try.prog [3] Try.f31 = some ([.t 4], c31) := by kernel_rfl
/-- topiary/topiaryref03.Put: 2 parameters, 27 slots. -/
def c32 : C :=
  .seq (.ops [⟨none, .mv 4 (.c (.sl true .pub 1 []))⟩])
  (.seq (.ops [⟨none, .lit 6 1 []⟩,
    ⟨none, .mv 7 (.t 0)⟩,
    ⟨none, .ap 8 1 (.t 6) (.t 7)⟩,
    ⟨none, .mv 5 (.t 8)⟩])
  (.cut (.seq (.ops [⟨none, .mv 9 (.t 1)⟩,
    ⟨none, .bi 10 .lss (.t 9) (.c (.int .i64 0))⟩])
  (.cond (.t 10) (.ops [⟨none, .mv 1 (.c (.int .i64 0))⟩])
    (.skip)))
  (.seq (.block 0 (.loop (.seq (.seq (.ops [⟨none, .mv 11 (.t 1)⟩,
    ⟨none, .bi 12 .gtr (.t 11) (.c (.int .i64 127))⟩])
  (.cond (.t 12) (.skip)
    (.exit 0)))
  (.block 1 (.seq (.ops [⟨none, .mv 13 (.t 5)⟩,
    ⟨none, .mv 14 (.t 1)⟩,
    ⟨none, .bi 15 .rem (.t 14) (.c (.int .i64 128))⟩,
    ⟨none, .bi 16 .add (.c (.int .i64 128)) (.t 15)⟩,
    ⟨none, .cI 17 .u8 (.t 16)⟩,
    ⟨none, .lit 18 1 [(.t 17)]⟩,
    ⟨none, .ap 19 1 (.t 13) (.t 18)⟩,
    ⟨none, .mv 5 (.t 19)⟩])
  (.ops [⟨none, .mv 20 (.t 1)⟩,
    ⟨none, .bi 21 .quo (.t 20) (.c (.int .i64 128))⟩,
    ⟨none, .mv 1 (.t 21)⟩]))))))
  (.seq (.ops [⟨none, .mv 22 (.t 5)⟩,
    ⟨none, .mv 23 (.t 1)⟩,
    ⟨none, .cI 24 .u8 (.t 23)⟩,
    ⟨none, .lit 25 1 [(.t 24)]⟩,
    ⟨none, .ap 26 1 (.t 22) (.t 25)⟩,
    ⟨none, .mv 4 (.t 26)⟩])
  (.ret)))))
theorem comp32 : compFn Try.prog [] Try.f32 = some ([.t 4], c32) := by kernel_rfl
/-- topiary/topiaryref06.list: 2 parameters, 24 slots. -/
def c33 : C :=
  .seq (.ops [⟨none, .mv 4 (.c (.sl true .pub 1 []))⟩])
  (.seq (.ops [⟨none, .mv 7 (.t 0)⟩,
    ⟨none, .mv 8 (.t 1)⟩,
    ⟨none, .ln 9 .sl (.t 8)⟩,
    ⟨none, .ca (some 10) 32 [(.t 7), (.t 9)]⟩,
    ⟨none, .mv 5 (.t 10)⟩])
  (.seq (.seq (.ops [⟨none, .mv 6 (.c (.int .i64 0))⟩])
  (.block 0 (.loop (.seq (.seq (.ops [⟨none, .mv 11 (.t 6)⟩,
    ⟨none, .mv 12 (.t 1)⟩,
    ⟨none, .ln 13 .sl (.t 12)⟩,
    ⟨none, .bi 14 .lss (.t 11) (.t 13)⟩])
  (.cond (.t 14) (.skip)
    (.exit 0)))
  (.seq (.block 1 (.ops [⟨none, .mv 17 (.t 5)⟩,
    ⟨none, .mv 18 (.t 1)⟩,
    ⟨none, .mv 19 (.t 6)⟩,
    ⟨none, .ia 20 (.t 18) (.t 19) 1⟩,
    ⟨none, .ld 21 (.t 20) 1 false⟩,
    ⟨none, .ca (some 22) 32 [(.t 17), (.t 21)]⟩,
    ⟨none, .mv 5 (.t 22)⟩]))
  (.ops [⟨none, .mv 15 (.t 6)⟩,
    ⟨none, .bi 16 .add (.t 15) (.c (.int .i64 1))⟩,
    ⟨none, .mv 6 (.t 16)⟩]))))))
  (.seq (.ops [⟨none, .mv 23 (.t 5)⟩,
    ⟨none, .mv 4 (.t 23)⟩])
  (.ret))))
theorem comp33 : compFn Try.prog [] Try.f33 = some ([.t 4], c33) := by kernel_rfl
/-- topiary/topiaryref03.PutText: 2 parameters, 24 slots. -/
def c34 : C :=
  .seq (.ops [⟨none, .mv 4 (.c (.sl true .pub 1 []))⟩])
  (.seq (.ops [⟨none, .mv 7 (.t 0)⟩,
    ⟨none, .mv 8 (.t 1)⟩,
    ⟨none, .ln 9 .fn (.t 8)⟩,
    ⟨none, .ca (some 10) 32 [(.t 7), (.t 9)]⟩,
    ⟨none, .mv 5 (.t 10)⟩])
  (.seq (.seq (.ops [⟨none, .mv 6 (.c (.int .i64 0))⟩])
  (.block 0 (.loop (.seq (.seq (.ops [⟨none, .mv 11 (.t 6)⟩,
    ⟨none, .mv 12 (.t 1)⟩,
    ⟨none, .ln 13 .fn (.t 12)⟩,
    ⟨none, .bi 14 .lss (.t 11) (.t 13)⟩])
  (.cond (.t 14) (.skip)
    (.exit 0)))
  (.seq (.block 1 (.ops [⟨none, .mv 17 (.t 5)⟩,
    ⟨none, .mv 18 (.t 1)⟩,
    ⟨none, .mv 19 (.t 6)⟩,
    ⟨none, .ix 20 (.t 18) (.t 19)⟩,
    ⟨none, .lit 21 1 [(.t 20)]⟩,
    ⟨none, .ap 22 1 (.t 17) (.t 21)⟩,
    ⟨none, .mv 5 (.t 22)⟩]))
  (.ops [⟨none, .mv 15 (.t 6)⟩,
    ⟨none, .bi 16 .add (.t 15) (.c (.int .i64 1))⟩,
    ⟨none, .mv 6 (.t 16)⟩]))))))
  (.seq (.ops [⟨none, .mv 23 (.t 5)⟩,
    ⟨none, .mv 4 (.t 23)⟩])
  (.ret))))
theorem comp34 : compFn Try.prog [] Try.f34 = some ([.t 4], c34) := by kernel_rfl
/-- topiary/octet.New: 1 parameters, 8 slots. -/
def c35 : C :=
  .seq (.ops [⟨none, .mv 2 (.c (.ptr none))⟩])
  (.seq (.ops [⟨none, .lit 3 1 []⟩,
    ⟨none, .mv 4 (.t 0)⟩,
    ⟨none, .ap 5 1 (.t 3) (.t 4)⟩,
    ⟨none, .bld 6 [.sl true .pub 0 [], .int .i64 0, .int .i64 0, .int .i64 0] [(0, 1, (.t 5))]⟩,
    ⟨none, .bxH 7 (.t 6)⟩,
    ⟨none, .mv 2 (.t 7)⟩])
  (.ret))
theorem comp35 : compFn Try.prog [] Try.f35 = some ([.t 2], c35) := by kernel_rfl
/-- (*topiary/octet.Reader).Num: 1 parameters, 34 slots. -/
def c36 : C :=
  .seq (.ops [⟨none, .mv 2 (.c (.int .i64 0))⟩])
  (.seq (.seq (.ops [⟨none, .mv 6 (.t 0)⟩,
    ⟨none, .bq 7 false .ptr (.t 6) (.c (.ptr none))⟩,
    ⟨none, .mv 8 (.t 7)⟩,
    ⟨some (8, false), .mv 9 (.t 0)⟩,
    ⟨some (8, false), .nc 10 (.t 9)⟩,
    ⟨some (8, false), .fa 11 (.t 10) 2⟩,
    ⟨some (8, false), .ld 12 (.t 11) 1 false⟩,
    ⟨some (8, false), .bi 13 .neq (.t 12) (.c (.int .i64 0))⟩,
    ⟨none, .pk 14 (.t 8) (.c (.bool true)) (.t 13)⟩])
  (.cond (.t 14) (.seq (.ops [⟨none, .mv 2 (.c (.int .i64 0))⟩])
    (.ret))
    (.skip)))
  (.seq (.ops [⟨none, .mv 16 (.t 0)⟩,
    ⟨none, .ca (some 17) 67 [(.t 16)]⟩,
    ⟨none, .mv 15 (.t 17)⟩,
    ⟨none, .ex 18 (.t 15) 0⟩,
    ⟨none, .ex 19 (.t 15) 1⟩,
    ⟨none, .ex 20 (.t 15) 2⟩,
    ⟨none, .mv 3 (.t 18)⟩,
    ⟨none, .mv 4 (.t 19)⟩,
    ⟨none, .mv 5 (.t 20)⟩])
  (.seq (.seq (.ops [⟨none, .mv 21 (.t 5)⟩,
    ⟨none, .un 22 .not (.t 21)⟩])
  (.cond (.t 22) (.seq (.ops [⟨none, .mv 23 (.t 0)⟩,
      ⟨none, .mv 24 (.t 0)⟩,
      ⟨none, .nc 25 (.t 24)⟩,
      ⟨none, .fa 26 (.t 25) 1⟩,
      ⟨none, .ld 27 (.t 26) 1 false⟩,
      ⟨none, .ca (some 28) 68 [(.t 23), (.c (.int .i64 2)), (.t 27)]⟩])
    (.seq (.ops [⟨none, .mv 2 (.c (.int .i64 0))⟩])
    (.ret)))
    (.skip)))
  (.seq (.ops [⟨none, .mv 29 (.t 0)⟩,
    ⟨none, .mv 30 (.t 4)⟩,
    ⟨none, .nc 31 (.t 29)⟩,
    ⟨none, .fa 32 (.t 31) 1⟩,
    ⟨none, .st (.t 32) (.t 30) 1⟩])
  (.seq (.ops [⟨none, .mv 33 (.t 3)⟩,
    ⟨none, .mv 2 (.t 33)⟩])
  (.ret))))))
theorem comp36 : compFn Try.prog [] Try.f36 = some ([.t 2], c36) := by kernel_rfl
/-- topiary/wire.stamp: 1 parameters, 10 slots. -/
def c37 : C :=
  .seq (.ops [⟨none, .alL 2 [.int .i64 0, .int .i64 0]⟩])
  (.seq (.ops [⟨none, .mv 4 (.t 0)⟩,
    ⟨none, .ca (some 5) 36 [(.t 4)]⟩,
    ⟨none, .mv 3 (.t 5)⟩])
  (.seq (.ops [⟨none, .mv 6 (.t 3)⟩,
    ⟨none, .mv 7 (.t 0)⟩,
    ⟨none, .ca (some 8) 36 [(.t 7)]⟩,
    ⟨none, .bld 9 [.int .i64 0, .int .i64 0] [(0, 1, (.t 6)), (1, 1, (.t 8))]⟩,
    ⟨none, .st (.t 2) (.t 9) 2⟩])
  (.ret)))
theorem comp37 : compFn Try.prog [2] Try.f37 = some ([.c 2 2 true], c37) := by kernel_rfl
/-- topiary/wire.numbers: 1 parameters, 15 slots. -/
def c38 : C :=
  .seq (.ops [⟨none, .mv 2 (.c (.sl true .pub 1 []))⟩])
  (.seq (.ops [⟨none, .mv 3 (.c (.sl true .pub 1 []))⟩])
  (.seq (.seq (.ops [⟨none, .mv 4 (.t 0)⟩,
    ⟨none, .ca (some 5) 54 [(.t 4), (.c (.int .i64 64))]⟩,
    ⟨none, .mv 6 (.c (.int .i64 0))⟩])
  (.block 0 (.loop (.seq (.ops [⟨none, .bi 7 .lss (.t 6) (.t 5)⟩])
  (.seq (.cond (.t 7) (.skip)
    (.exit 0))
  (.seq (.block 1 (.ops [⟨none, .mv 8 (.t 3)⟩,
    ⟨none, .mv 9 (.t 0)⟩,
    ⟨none, .ca (some 10) 36 [(.t 9)]⟩,
    ⟨none, .lit 11 1 [(.t 10)]⟩,
    ⟨none, .ap 12 1 (.t 8) (.t 11)⟩,
    ⟨none, .mv 3 (.t 12)⟩]))
  (.ops [⟨none, .bi 13 .add (.t 6) (.c (.int .i64 1))⟩,
    ⟨none, .mv 6 (.t 13)⟩])))))))
  (.seq (.ops [⟨none, .mv 14 (.t 3)⟩,
    ⟨none, .mv 2 (.t 14)⟩])
  (.ret))))
theorem comp38 : compFn Try.prog [] Try.f38 = some ([.t 2], c38) := by kernel_rfl
/-- (*topiary/octet.Reader).Text: 2 parameters, 69 slots. -/
def c39 : C :=
  .seq (.ops [⟨none, .mv 4 (.c (.str []))⟩])
  (.seq (.seq (.ops [⟨none, .mv 8 (.t 0)⟩,
    ⟨none, .bq 9 false .ptr (.t 8) (.c (.ptr none))⟩,
    ⟨none, .mv 10 (.t 9)⟩,
    ⟨some (10, false), .mv 11 (.t 0)⟩,
    ⟨some (10, false), .nc 12 (.t 11)⟩,
    ⟨some (10, false), .fa 13 (.t 12) 2⟩,
    ⟨some (10, false), .ld 14 (.t 13) 1 false⟩,
    ⟨some (10, false), .bi 15 .neq (.t 14) (.c (.int .i64 0))⟩,
    ⟨none, .pk 16 (.t 10) (.c (.bool true)) (.t 15)⟩])
  (.cond (.t 16) (.seq (.ops [⟨none, .mv 4 (.c (.str []))⟩])
    (.ret))
    (.skip)))
  (.seq (.ops [⟨none, .mv 17 (.t 0)⟩,
    ⟨none, .nc 18 (.t 17)⟩,
    ⟨none, .fa 19 (.t 18) 1⟩,
    ⟨none, .ld 20 (.t 19) 1 false⟩,
    ⟨none, .mv 5 (.t 20)⟩])
  (.seq (.ops [⟨none, .mv 21 (.t 0)⟩,
    ⟨none, .mv 22 (.t 1)⟩,
    ⟨none, .ca (some 23) 54 [(.t 21), (.t 22)]⟩,
    ⟨none, .mv 6 (.t 23)⟩])
  (.seq (.seq (.ops [⟨none, .mv 24 (.t 0)⟩,
    ⟨none, .nc 25 (.t 24)⟩,
    ⟨none, .fa 26 (.t 25) 2⟩,
    ⟨none, .ld 27 (.t 26) 1 false⟩,
    ⟨none, .bi 28 .neq (.t 27) (.c (.int .i64 0))⟩])
  (.cond (.t 28) (.seq (.ops [⟨none, .mv 4 (.c (.str []))⟩])
    (.ret))
    (.skip)))
  (.seq (.seq (.opsD [⟨none, .mv 29 (.t 6)⟩,
    ⟨none, .mv 30 (.t 0)⟩,
    ⟨none, .nc 31 (.t 30)⟩,
    ⟨none, .fa 32 (.t 31) 0⟩,
    ⟨none, .ld 33 (.t 32) 1 false⟩,
    ⟨none, .ln 34 .sl (.t 33)⟩,
    ⟨none, .mv 35 (.t 0)⟩,
    ⟨none, .nc 36 (.t 35)⟩,
    ⟨none, .fa 37 (.t 36) 1⟩,
    ⟨none, .ld 38 (.t 37) 1 false⟩,
    ⟨none, .bi 39 .sub (.t 34) (.t 38)⟩,
    ⟨none, .bi 40 .gtr (.t 29) (.t 39)⟩])
  (.cond (.t 40) (.seq (.ops [⟨none, .mv 41 (.t 0)⟩,
      ⟨none, .mv 42 (.t 5)⟩,
      ⟨none, .ca (some 43) 68 [(.t 41), (.c (.int .i64 2)), (.t 42)]⟩])
    (.seq (.ops [⟨none, .mv 4 (.c (.str []))⟩])
    (.ret)))
    (.skip)))
  (.seq (.opsD [⟨none, .mv 44 (.t 0)⟩,
    ⟨none, .nc 45 (.t 44)⟩,
    ⟨none, .fa 46 (.t 45) 0⟩,
    ⟨none, .ld 47 (.t 46) 1 false⟩,
    ⟨none, .mv 48 (.t 0)⟩,
    ⟨none, .nc 49 (.t 48)⟩,
    ⟨none, .fa 50 (.t 49) 1⟩,
    ⟨none, .ld 51 (.t 50) 1 false⟩,
    ⟨none, .mv 52 (.t 0)⟩,
    ⟨none, .nc 53 (.t 52)⟩,
    ⟨none, .fa 54 (.t 53) 1⟩,
    ⟨none, .ld 55 (.t 54) 1 false⟩,
    ⟨none, .mv 56 (.t 6)⟩,
    ⟨none, .bi 57 .add (.t 55) (.t 56)⟩,
    ⟨none, .sl 58 1 (.t 47) (some (.t 51)) (some (.t 57))⟩,
    ⟨none, .cS 59 (.t 58)⟩,
    ⟨none, .mv 7 (.t 59)⟩])
  (.seq (.ops [⟨none, .mv 60 (.t 0)⟩,
    ⟨none, .nc 61 (.t 60)⟩,
    ⟨none, .fa 62 (.t 61) 1⟩,
    ⟨none, .ld 63 (.t 62) 1 false⟩,
    ⟨none, .mv 64 (.t 6)⟩,
    ⟨none, .bi 65 .add (.t 63) (.t 64)⟩,
    ⟨none, .nc 66 (.t 60)⟩,
    ⟨none, .fa 67 (.t 66) 1⟩,
    ⟨none, .st (.t 67) (.t 65) 1⟩])
  (.seq (.ops [⟨none, .mv 68 (.t 7)⟩,
    ⟨none, .mv 4 (.t 68)⟩])
  (.ret)))))))))
theorem comp39 : compFn Try.prog [] Try.f39 = some ([.t 4], c39) := by kernel_rfl
/-- (*topiary/octet.Reader).Done: 1 parameters, 26 slots. -/
def c40 : C :=
  .seq (.ops [⟨none, .mv 2 (.c (.int .i64 0))⟩])
  (.seq (.seq (.ops [⟨none, .mv 3 (.t 0)⟩,
    ⟨none, .bq 4 false .ptr (.t 3) (.c (.ptr none))⟩])
  (.cond (.t 4) (.seq (.ops [⟨none, .mv 2 (.c (.int .i64 0))⟩])
    (.ret))
    (.skip)))
  (.seq (.seq (.opsD [⟨none, .mv 5 (.t 0)⟩,
    ⟨none, .nc 6 (.t 5)⟩,
    ⟨none, .fa 7 (.t 6) 2⟩,
    ⟨none, .ld 8 (.t 7) 1 false⟩,
    ⟨none, .bi 9 .eql (.t 8) (.c (.int .i64 0))⟩,
    ⟨none, .mv 10 (.t 9)⟩,
    ⟨some (10, true), .mv 11 (.t 0)⟩,
    ⟨some (10, true), .nc 12 (.t 11)⟩,
    ⟨some (10, true), .fa 13 (.t 12) 1⟩,
    ⟨some (10, true), .ld 14 (.t 13) 1 false⟩,
    ⟨some (10, true), .mv 15 (.t 0)⟩,
    ⟨some (10, true), .nc 16 (.t 15)⟩,
    ⟨some (10, true), .fa 17 (.t 16) 0⟩,
    ⟨some (10, true), .ld 18 (.t 17) 1 false⟩,
    ⟨some (10, true), .ln 19 .sl (.t 18)⟩,
    ⟨some (10, true), .bi 20 .lss (.t 14) (.t 19)⟩,
    ⟨none, .pk 21 (.t 10) (.t 20) (.c (.bool false))⟩])
  (.cond (.t 21) (.seq (.ops [⟨none, .mv 2 (.c (.int .i64 7))⟩])
    (.ret))
    (.skip)))
  (.seq (.ops [⟨none, .mv 22 (.t 0)⟩,
    ⟨none, .nc 23 (.t 22)⟩,
    ⟨none, .fa 24 (.t 23) 2⟩,
    ⟨none, .ld 25 (.t 24) 1 false⟩,
    ⟨none, .mv 2 (.t 25)⟩])
  (.ret))))
theorem comp40 : compFn Try.prog [] Try.f40 = some ([.t 2], c40) := by kernel_rfl
/-- topiary/topiaryref03.Next: 1 parameters, 35 slots. -/
def c41 : C :=
  .seq (.ops [⟨none, .bxL 1 (.t 0)⟩,
    ⟨none, .alL 2 [.sl true .pub 0 [], .int .i64 0, .int .i64 0, .int .i64 0]⟩,
    ⟨none, .mv 3 (.c (.int .i64 0))⟩])
  (.seq (.seq (.ops [⟨none, .fa 7 (.t 1) 2⟩,
    ⟨none, .ld 8 (.t 7) 1 false⟩,
    ⟨none, .bi 9 .neq (.t 8) (.c (.int .i64 0))⟩])
  (.cond (.t 9) (.seq (.ops [⟨none, .ld 10 (.t 1) 4 true⟩,
      ⟨none, .st (.t 2) (.t 10) 4⟩,
      ⟨none, .mv 3 (.c (.int .i64 0))⟩])
    (.ret))
    (.skip)))
  (.seq (.ops [⟨none, .fa 12 (.t 1) 0⟩,
    ⟨none, .ld 13 (.t 12) 1 false⟩,
    ⟨none, .fa 14 (.t 1) 1⟩,
    ⟨none, .ld 15 (.t 14) 1 false⟩,
    ⟨none, .sl 16 1 (.t 13) (some (.t 15)) none⟩,
    ⟨none, .ca (some 17) 69 [(.t 16)]⟩,
    ⟨none, .mv 11 (.t 17)⟩,
    ⟨none, .ex 18 (.t 11) 0⟩,
    ⟨none, .ex 19 (.t 11) 1⟩,
    ⟨none, .ex 20 (.t 11) 2⟩,
    ⟨none, .mv 4 (.t 18)⟩,
    ⟨none, .mv 5 (.t 19)⟩,
    ⟨none, .mv 6 (.t 20)⟩])
  (.seq (.seq (.ops [⟨none, .mv 21 (.t 6)⟩,
    ⟨none, .un 22 .not (.t 21)⟩])
  (.cond (.t 22) (.seq (.ops [⟨none, .ld 23 (.t 1) 4 true⟩,
      ⟨none, .fa 24 (.t 1) 1⟩,
      ⟨none, .ld 25 (.t 24) 1 false⟩,
      ⟨none, .ca (some 26) 70 [(.t 23), (.c (.int .i64 2)), (.t 25)]⟩,
      ⟨none, .st (.t 2) (.t 26) 4⟩,
      ⟨none, .mv 3 (.c (.int .i64 0))⟩])
    (.ret))
    (.skip)))
  (.seq (.ops [⟨none, .fa 27 (.t 1) 0⟩,
    ⟨none, .ld 28 (.t 27) 1 false⟩,
    ⟨none, .fa 29 (.t 1) 1⟩,
    ⟨none, .ld 30 (.t 29) 1 false⟩,
    ⟨none, .mv 31 (.t 5)⟩,
    ⟨none, .bi 32 .add (.t 30) (.t 31)⟩,
    ⟨none, .bld 33 [.sl true .pub 0 [], .int .i64 0, .int .i64 0, .int .i64 0] [(0, 1, (.t 28)), (1, 1, (.t 32))]⟩,
    ⟨none, .mv 34 (.t 4)⟩,
    ⟨none, .st (.t 2) (.t 33) 4⟩,
    ⟨none, .mv 3 (.t 34)⟩])
  (.ret)))))
theorem comp41 : compFn Try.prog [1, 2] Try.f41 = some ([.c 2 4 true, .t 3], c41) := by kernel_rfl
/-- topiary/topiaryref06.next: 1 parameters, 22 slots. -/
def c42 : C :=
  .seq (.ops [⟨none, .bxL 1 (.t 0)⟩,
    ⟨none, .alL 2 [.sl true .pub 0 [], .int .i64 0, .int .i64 0, .int .i64 0]⟩,
    ⟨none, .alL 3 [.int .i64 0, .int .i64 0]⟩])
  (.seq (.ops [⟨none, .ld 9 (.t 1) 4 true⟩,
    ⟨none, .ca (some 10) 41 [(.t 9)]⟩,
    ⟨none, .mv 8 (.t 10)⟩,
    ⟨none, .ex 11 (.t 8) 0⟩,
    ⟨none, .ex 12 (.t 8) 1⟩,
    ⟨none, .alL 4 [.sl true .pub 0 [], .int .i64 0, .int .i64 0, .int .i64 0]⟩,
    ⟨none, .st (.t 4) (.t 11) 4⟩,
    ⟨none, .mv 5 (.t 12)⟩])
  (.seq (.ops [⟨none, .ld 14 (.t 4) 4 true⟩,
    ⟨none, .ca (some 15) 41 [(.t 14)]⟩,
    ⟨none, .mv 13 (.t 15)⟩,
    ⟨none, .ex 16 (.t 13) 0⟩,
    ⟨none, .ex 17 (.t 13) 1⟩,
    ⟨none, .alL 6 [.sl true .pub 0 [], .int .i64 0, .int .i64 0, .int .i64 0]⟩,
    ⟨none, .st (.t 6) (.t 16) 4⟩,
    ⟨none, .mv 7 (.t 17)⟩])
  (.seq (.ops [⟨none, .ld 18 (.t 6) 4 true⟩,
    ⟨none, .mv 19 (.t 5)⟩,
    ⟨none, .mv 20 (.t 7)⟩,
    ⟨none, .bld 21 [.int .i64 0, .int .i64 0] [(0, 1, (.t 19)), (1, 1, (.t 20))]⟩,
    ⟨none, .st (.t 2) (.t 18) 4⟩,
    ⟨none, .st (.t 3) (.t 21) 2⟩])
  (.ret))))
theorem comp42 : compFn Try.prog [1, 2, 3, 4, 6] Try.f42 = some ([.c 2 4 true, .c 3 2 true], c42) := by kernel_rfl
/-- topiary/topiaryref06.numbers: 1 parameters, 33 slots. -/
def c43 : C :=
  .seq (.ops [⟨none, .bxL 1 (.t 0)⟩,
    ⟨none, .alL 2 [.sl true .pub 0 [], .int .i64 0, .int .i64 0, .int .i64 0]⟩,
    ⟨none, .mv 3 (.c (.sl true .pub 1 []))⟩])
  (.seq (.ops [⟨none, .ld 11 (.t 1) 4 true⟩,
    ⟨none, .ca (some 12) 57 [(.t 11), (.c (.int .i64 64))]⟩,
    ⟨none, .mv 10 (.t 12)⟩,
    ⟨none, .ex 13 (.t 10) 0⟩,
    ⟨none, .ex 14 (.t 10) 1⟩,
    ⟨none, .alL 4 [.sl true .pub 0 [], .int .i64 0, .int .i64 0, .int .i64 0]⟩,
    ⟨none, .st (.t 4) (.t 13) 4⟩,
    ⟨none, .mv 5 (.t 14)⟩])
  (.seq (.ops [⟨none, .lit 15 1 []⟩,
    ⟨none, .mv 6 (.t 15)⟩])
  (.seq (.seq (.ops [⟨none, .mv 7 (.c (.int .i64 0))⟩])
  (.block 0 (.loop (.seq (.seq (.ops [⟨none, .mv 16 (.t 7)⟩,
    ⟨none, .mv 17 (.t 5)⟩,
    ⟨none, .bi 18 .lss (.t 16) (.t 17)⟩])
  (.cond (.t 18) (.skip)
    (.exit 0)))
  (.seq (.block 1 (.seq (.ops [⟨none, .ld 22 (.t 4) 4 true⟩,
    ⟨none, .ca (some 23) 41 [(.t 22)]⟩,
    ⟨none, .mv 21 (.t 23)⟩,
    ⟨none, .ex 24 (.t 21) 0⟩,
    ⟨none, .ex 25 (.t 21) 1⟩,
    ⟨none, .alL 8 [.sl true .pub 0 [], .int .i64 0, .int .i64 0, .int .i64 0]⟩,
    ⟨none, .st (.t 8) (.t 24) 4⟩,
    ⟨none, .mv 9 (.t 25)⟩])
  (.seq (.ops [⟨none, .ld 26 (.t 8) 4 true⟩,
    ⟨none, .st (.t 4) (.t 26) 4⟩])
  (.ops [⟨none, .mv 27 (.t 6)⟩,
    ⟨none, .mv 28 (.t 9)⟩,
    ⟨none, .lit 29 1 [(.t 28)]⟩,
    ⟨none, .ap 30 1 (.t 27) (.t 29)⟩,
    ⟨none, .mv 6 (.t 30)⟩]))))
  (.ops [⟨none, .mv 19 (.t 7)⟩,
    ⟨none, .bi 20 .add (.t 19) (.c (.int .i64 1))⟩,
    ⟨none, .mv 7 (.t 20)⟩]))))))
  (.seq (.ops [⟨none, .ld 31 (.t 4) 4 true⟩,
    ⟨none, .mv 32 (.t 6)⟩,
    ⟨none, .st (.t 2) (.t 31) 4⟩,
    ⟨none, .mv 3 (.t 32)⟩])
  (.ret)))))
theorem comp43 : compFn Try.prog [1, 2, 4, 8] Try.f43 = some ([.c 2 4 true, .t 3], c43) := by kernel_rfl
/-- topiary/topiaryref03.Text: 2 parameters, 48 slots. -/
def c44 : C :=
  .seq (.ops [⟨none, .bxL 2 (.t 0)⟩,
    ⟨none, .alL 4 [.sl true .pub 0 [], .int .i64 0, .int .i64 0, .int .i64 0]⟩,
    ⟨none, .mv 5 (.c (.str []))⟩])
  (.seq (.ops [⟨none, .ld 10 (.t 2) 4 true⟩,
    ⟨none, .mv 11 (.t 1)⟩,
    ⟨none, .ca (some 12) 57 [(.t 10), (.t 11)]⟩,
    ⟨none, .mv 9 (.t 12)⟩,
    ⟨none, .ex 13 (.t 9) 0⟩,
    ⟨none, .ex 14 (.t 9) 1⟩,
    ⟨none, .alL 6 [.sl true .pub 0 [], .int .i64 0, .int .i64 0, .int .i64 0]⟩,
    ⟨none, .st (.t 6) (.t 13) 4⟩,
    ⟨none, .mv 7 (.t 14)⟩])
  (.seq (.seq (.ops [⟨none, .fa 15 (.t 6) 2⟩,
    ⟨none, .ld 16 (.t 15) 1 false⟩,
    ⟨none, .bi 17 .neq (.t 16) (.c (.int .i64 0))⟩])
  (.cond (.t 17) (.seq (.ops [⟨none, .ld 18 (.t 6) 4 true⟩,
      ⟨none, .st (.t 4) (.t 18) 4⟩,
      ⟨none, .mv 5 (.c (.str []))⟩])
    (.ret))
    (.skip)))
  (.seq (.seq (.ops [⟨none, .mv 19 (.t 7)⟩,
    ⟨none, .fa 20 (.t 6) 0⟩,
    ⟨none, .ld 21 (.t 20) 1 false⟩,
    ⟨none, .ln 22 .sl (.t 21)⟩,
    ⟨none, .fa 23 (.t 6) 1⟩,
    ⟨none, .ld 24 (.t 23) 1 false⟩,
    ⟨none, .bi 25 .sub (.t 22) (.t 24)⟩,
    ⟨none, .bi 26 .gtr (.t 19) (.t 25)⟩])
  (.cond (.t 26) (.seq (.ops [⟨none, .ld 27 (.t 2) 4 true⟩,
      ⟨none, .fa 28 (.t 2) 1⟩,
      ⟨none, .ld 29 (.t 28) 1 false⟩,
      ⟨none, .ca (some 30) 70 [(.t 27), (.c (.int .i64 2)), (.t 29)]⟩,
      ⟨none, .st (.t 4) (.t 30) 4⟩,
      ⟨none, .mv 5 (.c (.str []))⟩])
    (.ret))
    (.skip)))
  (.seq (.ops [⟨none, .fa 31 (.t 6) 0⟩,
    ⟨none, .ld 32 (.t 31) 1 false⟩,
    ⟨none, .fa 33 (.t 6) 1⟩,
    ⟨none, .ld 34 (.t 33) 1 false⟩,
    ⟨none, .fa 35 (.t 6) 1⟩,
    ⟨none, .ld 36 (.t 35) 1 false⟩,
    ⟨none, .mv 37 (.t 7)⟩,
    ⟨none, .bi 38 .add (.t 36) (.t 37)⟩,
    ⟨none, .sl 39 1 (.t 32) (some (.t 34)) (some (.t 38))⟩,
    ⟨none, .cS 40 (.t 39)⟩,
    ⟨none, .mv 8 (.t 40)⟩])
  (.seq (.ops [⟨none, .fa 41 (.t 6) 1⟩,
    ⟨none, .ld 42 (.t 41) 1 false⟩,
    ⟨none, .mv 43 (.t 7)⟩,
    ⟨none, .bi 44 .add (.t 42) (.t 43)⟩,
    ⟨none, .fa 45 (.t 6) 1⟩,
    ⟨none, .st (.t 45) (.t 44) 1⟩])
  (.seq (.ops [⟨none, .ld 46 (.t 6) 4 true⟩,
    ⟨none, .mv 47 (.t 8)⟩,
    ⟨none, .st (.t 4) (.t 46) 4⟩,
    ⟨none, .mv 5 (.t 47)⟩])
  (.ret)))))))
theorem comp44 : compFn Try.prog [2, 4, 6] Try.f44 = some ([.c 4 4 true, .t 5], c44) := by kernel_rfl
/-- topiary/topiaryref02.Same: 2 parameters, 26 slots. -/
def c45 : C :=
  .seq (.ops [⟨none, .mv 4 (.c (.bool false))⟩])
  (.seq (.seq (.ops [⟨none, .mv 6 (.t 0)⟩,
    ⟨none, .ln 7 .sl (.t 6)⟩,
    ⟨none, .mv 8 (.t 1)⟩,
    ⟨none, .ln 9 .sl (.t 8)⟩,
    ⟨none, .bi 10 .neq (.t 7) (.t 9)⟩])
  (.cond (.t 10) (.seq (.ops [⟨none, .mv 4 (.c (.bool false))⟩])
    (.ret))
    (.skip)))
  (.seq (.seq (.ops [⟨none, .mv 5 (.c (.int .i64 0))⟩])
  (.block 0 (.loop (.seq (.seq (.ops [⟨none, .mv 11 (.t 5)⟩,
    ⟨none, .mv 12 (.t 0)⟩,
    ⟨none, .ln 13 .sl (.t 12)⟩,
    ⟨none, .bi 14 .lss (.t 11) (.t 13)⟩])
  (.cond (.t 14) (.skip)
    (.exit 0)))
  (.seq (.block 1 (.seq (.opsD [⟨none, .mv 17 (.t 0)⟩,
    ⟨none, .mv 18 (.t 5)⟩,
    ⟨none, .ia 19 (.t 17) (.t 18) 1⟩,
    ⟨none, .ld 20 (.t 19) 1 false⟩,
    ⟨none, .mv 21 (.t 1)⟩,
    ⟨none, .mv 22 (.t 5)⟩,
    ⟨none, .ia 23 (.t 21) (.t 22) 1⟩,
    ⟨none, .ld 24 (.t 23) 1 false⟩,
    ⟨none, .bi 25 .neq (.t 20) (.t 24)⟩])
  (.cond (.t 25) (.seq (.ops [⟨none, .mv 4 (.c (.bool false))⟩])
    (.ret))
    (.skip))))
  (.ops [⟨none, .mv 15 (.t 5)⟩,
    ⟨none, .bi 16 .add (.t 15) (.c (.int .i64 1))⟩,
    ⟨none, .mv 5 (.t 16)⟩]))))))
  (.seq (.ops [⟨none, .mv 4 (.c (.bool true))⟩])
  (.ret))))
theorem comp45 : compFn Try.prog [] Try.f45 = some ([.t 4], c45) := by kernel_rfl
/-- topiary/clock.Check: 1 parameters, 21 slots. -/
def c46 : C :=
  .seq (.ops [⟨none, .mv 2 (.c (.int .i64 0))⟩])
  (.seq (.seq (.ops [⟨none, .mv 5 (.t 0)⟩,
    ⟨none, .ln 6 .sl (.t 5)⟩,
    ⟨none, .bi 7 .gtr (.t 6) (.c (.int .i64 64))⟩])
  (.cond (.t 7) (.seq (.ops [⟨none, .mv 2 (.c (.int .i64 3))⟩])
    (.ret))
    (.skip)))
  (.seq (.seq (.ops [⟨none, .mv 8 (.t 0)⟩,
    ⟨none, .ln 9 .sl (.t 8)⟩,
    ⟨none, .mv 10 (.c (.int .i64 0))⟩])
  (.block 0 (.loop (.seq (.ops [⟨none, .bi 11 .lss (.t 10) (.t 9)⟩])
  (.seq (.cond (.t 11) (.skip)
    (.exit 0))
  (.seq (.block 1 (.seq (.ops [⟨none, .ia 12 (.t 8) (.t 10) 1⟩,
    ⟨none, .ld 13 (.t 12) 1 false⟩,
    ⟨none, .mv 4 (.t 13)⟩])
  (.seq (.ops [⟨none, .mv 14 (.t 4)⟩,
    ⟨none, .bi 15 .lss (.t 14) (.c (.int .i64 0))⟩,
    ⟨none, .mv 16 (.t 15)⟩,
    ⟨some (16, false), .mv 17 (.t 4)⟩,
    ⟨some (16, false), .bi 18 .gtr (.t 17) (.c (.int .i64 1099511627776))⟩,
    ⟨none, .pk 19 (.t 16) (.c (.bool true)) (.t 18)⟩])
  (.cond (.t 19) (.seq (.ops [⟨none, .mv 2 (.c (.int .i64 1))⟩])
    (.ret))
    (.skip)))))
  (.ops [⟨none, .bi 20 .add (.t 10) (.c (.int .i64 1))⟩,
    ⟨none, .mv 10 (.t 20)⟩])))))))
  (.seq (.ops [⟨none, .mv 2 (.c (.int .i64 0))⟩])
  (.ret))))
theorem comp46 : compFn Try.prog [] Try.f46 = some ([.t 2], c46) := by kernel_rfl
/-- topiary/topiaryref05.CopyAll: 1 parameters, 21 slots. -/
def c47 : C :=
  .seq (.ops [⟨none, .mv 2 (.c (.sl true .pub 13 []))⟩])
  (.seq (.ops [⟨none, .lit 5 13 []⟩,
    ⟨none, .mv 3 (.t 5)⟩])
  (.seq (.seq (.ops [⟨none, .mv 4 (.c (.int .i64 0))⟩])
  (.block 0 (.loop (.seq (.seq (.ops [⟨none, .mv 6 (.t 4)⟩,
    ⟨none, .mv 7 (.t 0)⟩,
    ⟨none, .ln 8 .sl (.t 7)⟩,
    ⟨none, .bi 9 .lss (.t 6) (.t 8)⟩])
  (.cond (.t 9) (.skip)
    (.exit 0)))
  (.seq (.block 1 (.ops [⟨none, .mv 12 (.t 3)⟩,
    ⟨none, .mv 13 (.t 0)⟩,
    ⟨none, .mv 14 (.t 4)⟩,
    ⟨none, .ia 15 (.t 13) (.t 14) 13⟩,
    ⟨none, .ld 16 (.t 15) 13 true⟩,
    ⟨none, .ca (some 17) 12 [(.t 16)]⟩,
    ⟨none, .lit 18 13 [(.t 17)]⟩,
    ⟨none, .ap 19 13 (.t 12) (.t 18)⟩,
    ⟨none, .mv 3 (.t 19)⟩]))
  (.ops [⟨none, .mv 10 (.t 4)⟩,
    ⟨none, .bi 11 .add (.t 10) (.c (.int .i64 1))⟩,
    ⟨none, .mv 4 (.t 11)⟩]))))))
  (.seq (.ops [⟨none, .mv 20 (.t 3)⟩,
    ⟨none, .mv 2 (.t 20)⟩])
  (.ret))))
theorem comp47 : compFn Try.prog [] Try.f47 = some ([.t 2], c47) := by kernel_rfl
/-- topiary/topiaryref02.Check: 1 parameters, 25 slots. -/
def c48 : C :=
  .seq (.ops [⟨none, .mv 2 (.c (.int .i64 0))⟩])
  (.seq (.seq (.ops [⟨none, .mv 4 (.t 0)⟩,
    ⟨none, .ln 5 .sl (.t 4)⟩,
    ⟨none, .bi 6 .gtr (.t 5) (.c (.int .i64 64))⟩])
  (.cond (.t 6) (.seq (.ops [⟨none, .mv 2 (.c (.int .i64 3))⟩])
    (.ret))
    (.skip)))
  (.seq (.seq (.ops [⟨none, .mv 3 (.c (.int .i64 0))⟩])
  (.block 0 (.loop (.seq (.seq (.ops [⟨none, .mv 7 (.t 3)⟩,
    ⟨none, .mv 8 (.t 0)⟩,
    ⟨none, .ln 9 .sl (.t 8)⟩,
    ⟨none, .bi 10 .lss (.t 7) (.t 9)⟩])
  (.cond (.t 10) (.skip)
    (.exit 0)))
  (.seq (.block 1 (.seq (.ops [⟨none, .mv 13 (.t 0)⟩,
    ⟨none, .mv 14 (.t 3)⟩,
    ⟨none, .ia 15 (.t 13) (.t 14) 1⟩,
    ⟨none, .ld 16 (.t 15) 1 false⟩,
    ⟨none, .bi 17 .lss (.t 16) (.c (.int .i64 0))⟩,
    ⟨none, .mv 18 (.t 17)⟩,
    ⟨some (18, false), .mv 19 (.t 0)⟩,
    ⟨some (18, false), .mv 20 (.t 3)⟩,
    ⟨some (18, false), .ia 21 (.t 19) (.t 20) 1⟩,
    ⟨some (18, false), .ld 22 (.t 21) 1 false⟩,
    ⟨some (18, false), .bi 23 .gtr (.t 22) (.c (.int .i64 1099511627776))⟩,
    ⟨none, .pk 24 (.t 18) (.c (.bool true)) (.t 23)⟩])
  (.cond (.t 24) (.seq (.ops [⟨none, .mv 2 (.c (.int .i64 1))⟩])
    (.ret))
    (.skip))))
  (.ops [⟨none, .mv 11 (.t 3)⟩,
    ⟨none, .bi 12 .add (.t 11) (.c (.int .i64 1))⟩,
    ⟨none, .mv 3 (.t 12)⟩]))))))
  (.seq (.ops [⟨none, .mv 2 (.c (.int .i64 0))⟩])
  (.ret))))
theorem comp48 : compFn Try.prog [] Try.f48 = some ([.t 2], c48) := by kernel_rfl
/-- topiary/topiaryref02.Trim: 1 parameters, 35 slots. -/
def c49 : C :=
  .seq (.ops [⟨none, .mv 2 (.c (.sl true .pub 1 []))⟩])
  (.seq (.ops [⟨none, .lit 6 1 []⟩,
    ⟨none, .mv 3 (.t 6)⟩])
  (.seq (.ops [⟨none, .mv 4 (.c (.int .i64 0))⟩])
  (.seq (.seq (.ops [⟨none, .mv 5 (.c (.int .i64 0))⟩])
  (.block 0 (.loop (.seq (.seq (.ops [⟨none, .mv 7 (.t 5)⟩,
    ⟨none, .mv 8 (.t 0)⟩,
    ⟨none, .ln 9 .sl (.t 8)⟩,
    ⟨none, .bi 10 .lss (.t 7) (.t 9)⟩])
  (.cond (.t 10) (.skip)
    (.exit 0)))
  (.cut (.block 1 (.seq (.seq (.ops [⟨none, .mv 13 (.t 0)⟩,
    ⟨none, .mv 14 (.t 5)⟩,
    ⟨none, .ia 15 (.t 13) (.t 14) 1⟩,
    ⟨none, .ld 16 (.t 15) 1 false⟩,
    ⟨none, .bi 17 .eql (.t 16) (.c (.int .i64 0))⟩])
  (.cond (.t 17) (.seq (.ops [⟨none, .mv 18 (.t 4)⟩,
      ⟨none, .bi 19 .add (.t 18) (.c (.int .i64 1))⟩,
      ⟨none, .mv 4 (.t 19)⟩])
    (.exit 1))
    (.skip)))
  (.seq (.block 2 (.loop (.seq (.seq (.ops [⟨none, .mv 20 (.t 4)⟩,
    ⟨none, .bi 21 .gtr (.t 20) (.c (.int .i64 0))⟩])
  (.cond (.t 21) (.skip)
    (.exit 2)))
  (.block 3 (.seq (.ops [⟨none, .mv 22 (.t 3)⟩,
    ⟨none, .lit 23 1 [(.c (.int .i64 0))]⟩,
    ⟨none, .ap 24 1 (.t 22) (.t 23)⟩,
    ⟨none, .mv 3 (.t 24)⟩])
  (.ops [⟨none, .mv 25 (.t 4)⟩,
    ⟨none, .bi 26 .sub (.t 25) (.c (.int .i64 1))⟩,
    ⟨none, .mv 4 (.t 26)⟩]))))))
  (.ops [⟨none, .mv 27 (.t 3)⟩,
    ⟨none, .mv 28 (.t 0)⟩,
    ⟨none, .mv 29 (.t 5)⟩,
    ⟨none, .ia 30 (.t 28) (.t 29) 1⟩,
    ⟨none, .ld 31 (.t 30) 1 false⟩,
    ⟨none, .lit 32 1 [(.t 31)]⟩,
    ⟨none, .ap 33 1 (.t 27) (.t 32)⟩,
    ⟨none, .mv 3 (.t 33)⟩]))))
  (.ops [⟨none, .mv 11 (.t 5)⟩,
    ⟨none, .bi 12 .add (.t 11) (.c (.int .i64 1))⟩,
    ⟨none, .mv 5 (.t 12)⟩]))))))
  (.seq (.ops [⟨none, .mv 34 (.t 3)⟩,
    ⟨none, .mv 2 (.t 34)⟩])
  (.ret)))))
theorem comp49 : compFn Try.prog [] Try.f49 = some ([.t 2], c49) := by kernel_rfl
/-- topiary/seal.Seal: 2 parameters, 33 slots. -/
def c50 : C :=
  .seq (.ops [⟨none, .mv 4 (.c (.sl true .pub 1 []))⟩,
    ⟨none, .mv 5 (.c (.int .i64 0))⟩])
  (.seq (.seq (.ops [⟨none, .mv 7 (.t 0)⟩,
    ⟨none, .bi 8 .lss (.t 7) (.c (.int .i64 1))⟩,
    ⟨none, .mv 9 (.t 8)⟩,
    ⟨some (9, false), .mv 10 (.t 0)⟩,
    ⟨some (9, false), .bi 11 .gtr (.t 10) (.c (.int .i64 15))⟩,
    ⟨none, .pk 12 (.t 9) (.c (.bool true)) (.t 11)⟩])
  (.cond (.t 12) (.seq (.ops [⟨none, .mv 4 (.c (.sl true .pub 1 []))⟩,
      ⟨none, .mv 5 (.c (.int .i64 1))⟩])
    (.ret))
    (.skip)))
  (.seq (.seq (.ops [⟨none, .mv 13 (.t 1)⟩,
    ⟨none, .ln 14 .sl (.t 13)⟩,
    ⟨none, .bi 15 .gtr (.t 14) (.c (.int .i64 65536))⟩])
  (.cond (.t 15) (.seq (.ops [⟨none, .mv 4 (.c (.sl true .pub 1 []))⟩,
      ⟨none, .mv 5 (.c (.int .i64 3))⟩])
    (.ret))
    (.skip)))
  (.seq (.ops [⟨none, .mv 16 (.t 0)⟩,
    ⟨none, .cI 17 .u8 (.t 16)⟩,
    ⟨none, .lit 18 1 [(.t 17)]⟩,
    ⟨none, .mv 19 (.t 1)⟩,
    ⟨none, .ln 20 .sl (.t 19)⟩,
    ⟨none, .cI 21 .u32 (.t 20)⟩,
    ⟨none, .ca (some 22) 71 [(.t 21)]⟩,
    ⟨none, .ap 23 1 (.t 18) (.t 22)⟩,
    ⟨none, .mv 6 (.t 23)⟩])
  (.seq (.ops [⟨none, .mv 24 (.t 6)⟩,
    ⟨none, .mv 25 (.t 1)⟩,
    ⟨none, .ap 26 1 (.t 24) (.t 25)⟩,
    ⟨none, .mv 6 (.t 26)⟩])
  (.seq (.ops [⟨none, .mv 27 (.t 6)⟩,
    ⟨none, .mv 28 (.t 6)⟩,
    ⟨none, .lit 29 1 [(.t 28)]⟩,
    ⟨none, .ca (some 30) 72 [(.t 29)]⟩,
    ⟨none, .ca (some 31) 71 [(.t 30)]⟩,
    ⟨none, .ap 32 1 (.t 27) (.t 31)⟩,
    ⟨none, .mv 4 (.t 32)⟩,
    ⟨none, .mv 5 (.c (.int .i64 0))⟩])
  (.ret))))))
theorem comp50 : compFn Try.prog [] Try.f50 = some ([.t 4, .t 5], c50) := by kernel_rfl
/-- topiary/topiaryref04.Seal: 2 parameters, 35 slots. -/
def c51 : C :=
  .seq (.ops [⟨none, .mv 4 (.c (.sl true .pub 1 []))⟩,
    ⟨none, .mv 5 (.c (.int .i64 0))⟩])
  (.seq (.seq (.ops [⟨none, .mv 8 (.t 0)⟩,
    ⟨none, .bi 9 .lss (.t 8) (.c (.int .i64 1))⟩,
    ⟨none, .mv 10 (.t 9)⟩,
    ⟨some (10, false), .mv 11 (.t 0)⟩,
    ⟨some (10, false), .bi 12 .gtr (.t 11) (.c (.int .i64 15))⟩,
    ⟨none, .pk 13 (.t 10) (.c (.bool true)) (.t 12)⟩])
  (.cond (.t 13) (.seq (.ops [⟨none, .mv 4 (.c (.sl true .pub 1 []))⟩,
      ⟨none, .mv 5 (.c (.int .i64 1))⟩])
    (.ret))
    (.skip)))
  (.seq (.seq (.ops [⟨none, .mv 14 (.t 1)⟩,
    ⟨none, .ln 15 .sl (.t 14)⟩,
    ⟨none, .bi 16 .gtr (.t 15) (.c (.int .i64 65536))⟩])
  (.cond (.t 16) (.seq (.ops [⟨none, .mv 4 (.c (.sl true .pub 1 []))⟩,
      ⟨none, .mv 5 (.c (.int .i64 3))⟩])
    (.ret))
    (.skip)))
  (.seq (.ops [⟨none, .mv 17 (.t 0)⟩,
    ⟨none, .cI 18 .u8 (.t 17)⟩,
    ⟨none, .lit 19 1 [(.t 18)]⟩,
    ⟨none, .mv 6 (.t 19)⟩])
  (.seq (.ops [⟨none, .mv 20 (.t 6)⟩,
    ⟨none, .mv 21 (.t 1)⟩,
    ⟨none, .ln 22 .sl (.t 21)⟩,
    ⟨none, .cI 23 .u32 (.t 22)⟩,
    ⟨none, .ca (some 24) 73 [(.t 23)]⟩,
    ⟨none, .ap 25 1 (.t 20) (.t 24)⟩,
    ⟨none, .mv 6 (.t 25)⟩])
  (.seq (.ops [⟨none, .mv 26 (.t 6)⟩,
    ⟨none, .mv 27 (.t 1)⟩,
    ⟨none, .ap 28 1 (.t 26) (.t 27)⟩,
    ⟨none, .mv 6 (.t 28)⟩])
  (.seq (.ops [⟨none, .mv 29 (.t 6)⟩,
    ⟨none, .ca (some 30) 74 [(.t 29)]⟩,
    ⟨none, .ca (some 31) 73 [(.t 30)]⟩,
    ⟨none, .mv 7 (.t 31)⟩])
  (.seq (.ops [⟨none, .mv 32 (.t 6)⟩,
    ⟨none, .mv 33 (.t 7)⟩,
    ⟨none, .ap 34 1 (.t 32) (.t 33)⟩,
    ⟨none, .mv 4 (.t 34)⟩,
    ⟨none, .mv 5 (.c (.int .i64 0))⟩])
  (.ret))))))))
theorem comp51 : compFn Try.prog [] Try.f51 = some ([.t 4, .t 5], c51) := by kernel_rfl
/-- topiary/topiaryref05.SameAll: 2 parameters, 27 slots. -/
def c52 : C :=
  .seq (.ops [⟨none, .mv 4 (.c (.bool false))⟩])
  (.seq (.seq (.ops [⟨none, .mv 6 (.t 0)⟩,
    ⟨none, .ln 7 .sl (.t 6)⟩,
    ⟨none, .mv 8 (.t 1)⟩,
    ⟨none, .ln 9 .sl (.t 8)⟩,
    ⟨none, .bi 10 .neq (.t 7) (.t 9)⟩])
  (.cond (.t 10) (.seq (.ops [⟨none, .mv 4 (.c (.bool false))⟩])
    (.ret))
    (.skip)))
  (.seq (.seq (.ops [⟨none, .mv 5 (.c (.int .i64 0))⟩])
  (.block 0 (.loop (.seq (.seq (.ops [⟨none, .mv 11 (.t 5)⟩,
    ⟨none, .mv 12 (.t 0)⟩,
    ⟨none, .ln 13 .sl (.t 12)⟩,
    ⟨none, .bi 14 .lss (.t 11) (.t 13)⟩])
  (.cond (.t 14) (.skip)
    (.exit 0)))
  (.seq (.block 1 (.seq (.opsD [⟨none, .mv 17 (.t 0)⟩,
    ⟨none, .mv 18 (.t 5)⟩,
    ⟨none, .ia 19 (.t 17) (.t 18) 13⟩,
    ⟨none, .ld 20 (.t 19) 13 true⟩,
    ⟨none, .mv 21 (.t 1)⟩,
    ⟨none, .mv 22 (.t 5)⟩,
    ⟨none, .ia 23 (.t 21) (.t 22) 13⟩,
    ⟨none, .ld 24 (.t 23) 13 true⟩,
    ⟨none, .ca (some 25) 17 [(.t 20), (.t 24)]⟩,
    ⟨none, .un 26 .not (.t 25)⟩])
  (.cond (.t 26) (.seq (.ops [⟨none, .mv 4 (.c (.bool false))⟩])
    (.ret))
    (.skip))))
  (.ops [⟨none, .mv 15 (.t 5)⟩,
    ⟨none, .bi 16 .add (.t 15) (.c (.int .i64 1))⟩,
    ⟨none, .mv 5 (.t 16)⟩]))))))
  (.seq (.ops [⟨none, .mv 4 (.c (.bool true))⟩])
  (.ret))))
theorem comp52 : compFn Try.prog [] Try.f52 = some ([.t 4], c52) := by kernel_rfl
/-- topiary/seal.Open: 1 parameters, 58 slots. -/
def c53 : C :=
  .seq (.ops [⟨none, .mv 2 (.c (.int .i64 0))⟩,
    ⟨none, .mv 3 (.c (.sl true .pub 1 []))⟩,
    ⟨none, .mv 4 (.c (.int .i64 0))⟩])
  (.seq (.seq (.ops [⟨none, .mv 7 (.t 0)⟩,
    ⟨none, .ln 8 .sl (.t 7)⟩,
    ⟨none, .bi 9 .lss (.t 8) (.c (.int .i64 9))⟩,
    ⟨none, .mv 10 (.t 9)⟩,
    ⟨some (10, false), .mv 11 (.t 0)⟩,
    ⟨some (10, false), .ia 12 (.t 11) (.c (.int .i64 0)) 1⟩,
    ⟨some (10, false), .ld 13 (.t 12) 1 false⟩,
    ⟨some (10, false), .bi 14 .lss (.t 13) (.c (.int .u8 1))⟩,
    ⟨none, .pk 15 (.t 10) (.c (.bool true)) (.t 14)⟩,
    ⟨none, .mv 16 (.t 15)⟩,
    ⟨some (16, false), .mv 17 (.t 0)⟩,
    ⟨some (16, false), .ia 18 (.t 17) (.c (.int .i64 0)) 1⟩,
    ⟨some (16, false), .ld 19 (.t 18) 1 false⟩,
    ⟨some (16, false), .bi 20 .gtr (.t 19) (.c (.int .u8 15))⟩,
    ⟨none, .pk 21 (.t 16) (.c (.bool true)) (.t 20)⟩])
  (.cond (.t 21) (.seq (.ops [⟨none, .mv 2 (.c (.int .i64 0))⟩,
      ⟨none, .mv 3 (.c (.sl true .pub 1 []))⟩,
      ⟨none, .mv 4 (.c (.int .i64 2))⟩])
    (.ret))
    (.skip)))
  (.seq (.ops [⟨none, .mv 22 (.t 0)⟩,
    ⟨none, .sl 23 1 (.t 22) (some (.c (.int .i64 1))) none⟩,
    ⟨none, .ca (some 24) 75 [(.t 23)]⟩,
    ⟨none, .mv 5 (.t 24)⟩])
  (.seq (.seq (.ops [⟨none, .mv 25 (.t 5)⟩,
    ⟨none, .bi 26 .gtr (.t 25) (.c (.int .u32 65536))⟩,
    ⟨none, .mv 27 (.t 26)⟩,
    ⟨some (27, false), .mv 28 (.t 5)⟩,
    ⟨some (27, false), .cI 29 .i64 (.t 28)⟩,
    ⟨some (27, false), .mv 30 (.t 0)⟩,
    ⟨some (27, false), .ln 31 .sl (.t 30)⟩,
    ⟨some (27, false), .bi 32 .sub (.t 31) (.c (.int .i64 5))⟩,
    ⟨some (27, false), .bi 33 .sub (.t 32) (.c (.int .i64 4))⟩,
    ⟨some (27, false), .bi 34 .neq (.t 29) (.t 33)⟩,
    ⟨none, .pk 35 (.t 27) (.c (.bool true)) (.t 34)⟩])
  (.cond (.t 35) (.seq (.ops [⟨none, .mv 2 (.c (.int .i64 0))⟩,
      ⟨none, .mv 3 (.c (.sl true .pub 1 []))⟩,
      ⟨none, .mv 4 (.c (.int .i64 2))⟩])
    (.ret))
    (.skip)))
  (.seq (.ops [⟨none, .mv 36 (.t 0)⟩,
    ⟨none, .ln 37 .sl (.t 36)⟩,
    ⟨none, .bi 38 .sub (.t 37) (.c (.int .i64 4))⟩,
    ⟨none, .mv 6 (.t 38)⟩])
  (.seq (.seq (.opsE [⟨none, .mv 39 (.t 0)⟩,
    ⟨none, .mv 40 (.t 6)⟩,
    ⟨none, .sl 41 1 (.t 39) (some (.t 40)) none⟩,
    ⟨none, .mv 43 (.t 0)⟩,
    ⟨none, .mv 44 (.t 6)⟩,
    ⟨none, .sl 45 1 (.t 43) none (some (.t 44))⟩,
    ⟨none, .ca (some 42) 75 [(.t 41)]⟩,
    ⟨none, .lit 46 1 [(.t 45)]⟩,
    ⟨none, .ca (some 47) 72 [(.t 46)]⟩,
    ⟨none, .bi 48 .neq (.t 42) (.t 47)⟩]
  [⟨none, .mv 39 (.t 0)⟩,
    ⟨none, .mv 40 (.t 6)⟩,
    ⟨none, .sl 41 1 (.t 39) (some (.t 40)) none⟩,
    ⟨none, .mv 43 (.t 0)⟩,
    ⟨none, .mv 44 (.t 6)⟩,
    ⟨none, .sl 45 1 (.t 43) none (some (.t 44))⟩,
    ⟨none, .lit 46 1 [(.t 45)]⟩,
    ⟨none, .ca (some 42) 75 [(.t 41)]⟩,
    ⟨none, .ca (some 47) 72 [(.t 46)]⟩,
    ⟨none, .bi 48 .neq (.t 42) (.t 47)⟩])
  (.cond (.t 48) (.seq (.ops [⟨none, .mv 2 (.c (.int .i64 0))⟩,
      ⟨none, .mv 3 (.c (.sl true .pub 1 []))⟩,
      ⟨none, .mv 4 (.c (.int .i64 9))⟩])
    (.ret))
    (.skip)))
  (.seq (.opsE [⟨none, .mv 49 (.t 0)⟩,
    ⟨none, .ia 50 (.t 49) (.c (.int .i64 0)) 1⟩,
    ⟨none, .ld 51 (.t 50) 1 false⟩,
    ⟨none, .cI 52 .i64 (.t 51)⟩,
    ⟨none, .mv 54 (.t 0)⟩,
    ⟨none, .mv 55 (.t 6)⟩,
    ⟨none, .sl 56 1 (.t 54) (some (.c (.int .i64 5))) (some (.t 55))⟩,
    ⟨none, .lit 53 1 []⟩,
    ⟨none, .ap 57 1 (.t 53) (.t 56)⟩,
    ⟨none, .mv 2 (.t 52)⟩,
    ⟨none, .mv 3 (.t 57)⟩,
    ⟨none, .mv 4 (.c (.int .i64 0))⟩]
  [⟨none, .mv 49 (.t 0)⟩,
    ⟨none, .ia 50 (.t 49) (.c (.int .i64 0)) 1⟩,
    ⟨none, .mv 54 (.t 0)⟩,
    ⟨none, .mv 55 (.t 6)⟩,
    ⟨none, .sl 56 1 (.t 54) (some (.c (.int .i64 5))) (some (.t 55))⟩,
    ⟨none, .lit 53 1 []⟩,
    ⟨none, .ap 57 1 (.t 53) (.t 56)⟩,
    ⟨none, .ld 51 (.t 50) 1 false⟩,
    ⟨none, .cI 52 .i64 (.t 51)⟩,
    ⟨none, .mv 2 (.t 52)⟩,
    ⟨none, .mv 3 (.t 57)⟩,
    ⟨none, .mv 4 (.c (.int .i64 0))⟩])
  (.ret)))))))
theorem comp53 : compFn Try.prog [] Try.f53 = some ([.t 2, .t 3, .t 4], c53) := by kernel_rfl
/-- (*topiary/octet.Reader).Count: 2 parameters, 36 slots. -/
def c54 : C :=
  .seq (.ops [⟨none, .mv 4 (.c (.int .i64 0))⟩])
  (.seq (.seq (.ops [⟨none, .mv 7 (.t 0)⟩,
    ⟨none, .bq 8 false .ptr (.t 7) (.c (.ptr none))⟩,
    ⟨none, .mv 9 (.t 8)⟩,
    ⟨some (9, false), .mv 10 (.t 0)⟩,
    ⟨some (9, false), .nc 11 (.t 10)⟩,
    ⟨some (9, false), .fa 12 (.t 11) 2⟩,
    ⟨some (9, false), .ld 13 (.t 12) 1 false⟩,
    ⟨some (9, false), .bi 14 .neq (.t 13) (.c (.int .i64 0))⟩,
    ⟨none, .pk 15 (.t 9) (.c (.bool true)) (.t 14)⟩])
  (.cond (.t 15) (.seq (.ops [⟨none, .mv 4 (.c (.int .i64 0))⟩])
    (.ret))
    (.skip)))
  (.seq (.ops [⟨none, .mv 16 (.t 0)⟩,
    ⟨none, .nc 17 (.t 16)⟩,
    ⟨none, .fa 18 (.t 17) 1⟩,
    ⟨none, .ld 19 (.t 18) 1 false⟩,
    ⟨none, .mv 5 (.t 19)⟩])
  (.seq (.ops [⟨none, .mv 20 (.t 0)⟩,
    ⟨none, .ca (some 21) 36 [(.t 20)]⟩,
    ⟨none, .mv 6 (.t 21)⟩])
  (.seq (.seq (.ops [⟨none, .mv 22 (.t 0)⟩,
    ⟨none, .nc 23 (.t 22)⟩,
    ⟨none, .fa 24 (.t 23) 2⟩,
    ⟨none, .ld 25 (.t 24) 1 false⟩,
    ⟨none, .bi 26 .eql (.t 25) (.c (.int .i64 0))⟩,
    ⟨none, .mv 27 (.t 26)⟩,
    ⟨some (27, true), .mv 28 (.t 6)⟩,
    ⟨some (27, true), .mv 29 (.t 1)⟩,
    ⟨some (27, true), .bi 30 .gtr (.t 28) (.t 29)⟩,
    ⟨none, .pk 31 (.t 27) (.t 30) (.c (.bool false))⟩])
  (.cond (.t 31) (.seq (.ops [⟨none, .mv 32 (.t 0)⟩,
      ⟨none, .mv 33 (.t 5)⟩,
      ⟨none, .ca (some 34) 68 [(.t 32), (.c (.int .i64 3)), (.t 33)]⟩])
    (.seq (.ops [⟨none, .mv 4 (.c (.int .i64 0))⟩])
    (.ret)))
    (.skip)))
  (.seq (.ops [⟨none, .mv 35 (.t 6)⟩,
    ⟨none, .mv 4 (.t 35)⟩])
  (.ret))))))
theorem comp54 : compFn Try.prog [] Try.f54 = some ([.t 4], c54) := by kernel_rfl
/-- topiary/wire.changes: 2 parameters, 6 slots. -/
def c55 : C :=
  .seq (.ops [⟨none, .bxH 2 (.t 0)⟩,
    ⟨none, .bxH 3 (.t 1)⟩,
    ⟨none, .mv 4 (.c (.nilf))⟩])
  (.seq (.ops [⟨none, .mf 5 76 [(.t 3), (.t 2)]⟩,
    ⟨none, .mv 4 (.t 5)⟩])
  (.ret))
theorem comp55 : compFn Try.prog [] Try.f55 = some ([.t 4], c55) := by kernel_rfl
/-- topiary/topiaryref04.Open: 1 parameters, 61 slots. -/
def c56 : C :=
  .seq (.ops [⟨none, .mv 2 (.c (.int .i64 0))⟩,
    ⟨none, .mv 3 (.c (.sl true .pub 1 []))⟩,
    ⟨none, .mv 4 (.c (.int .i64 0))⟩])
  (.seq (.seq (.ops [⟨none, .mv 5 (.t 0)⟩,
    ⟨none, .ln 6 .sl (.t 5)⟩,
    ⟨none, .bi 7 .lss (.t 6) (.c (.int .i64 9))⟩,
    ⟨none, .mv 8 (.t 7)⟩,
    ⟨some (8, false), .mv 9 (.t 0)⟩,
    ⟨some (8, false), .ia 10 (.t 9) (.c (.int .i64 0)) 1⟩,
    ⟨some (8, false), .ld 11 (.t 10) 1 false⟩,
    ⟨some (8, false), .bi 12 .lss (.t 11) (.c (.int .u8 1))⟩,
    ⟨none, .pk 13 (.t 8) (.c (.bool true)) (.t 12)⟩,
    ⟨none, .mv 14 (.t 13)⟩,
    ⟨some (14, false), .mv 15 (.t 0)⟩,
    ⟨some (14, false), .ia 16 (.t 15) (.c (.int .i64 0)) 1⟩,
    ⟨some (14, false), .ld 17 (.t 16) 1 false⟩,
    ⟨some (14, false), .bi 18 .gtr (.t 17) (.c (.int .u8 15))⟩,
    ⟨none, .pk 19 (.t 14) (.c (.bool true)) (.t 18)⟩,
    ⟨none, .mv 20 (.t 19)⟩,
    ⟨some (20, false), .mv 21 (.t 0)⟩,
    ⟨some (20, false), .sl 22 1 (.t 21) (some (.c (.int .i64 1))) (some (.c (.int .i64 5)))⟩,
    ⟨some (20, false), .ca (some 23) 77 [(.t 22)]⟩,
    ⟨some (20, false), .bi 24 .gtr (.t 23) (.c (.int .i64 65536))⟩,
    ⟨none, .pk 25 (.t 20) (.c (.bool true)) (.t 24)⟩,
    ⟨none, .mv 26 (.t 25)⟩,
    ⟨some (26, false), .mv 27 (.t 0)⟩,
    ⟨some (26, false), .sl 28 1 (.t 27) (some (.c (.int .i64 1))) (some (.c (.int .i64 5)))⟩,
    ⟨some (26, false), .ca (some 29) 77 [(.t 28)]⟩,
    ⟨some (26, false), .mv 30 (.t 0)⟩,
    ⟨some (26, false), .ln 31 .sl (.t 30)⟩,
    ⟨some (26, false), .bi 32 .sub (.t 31) (.c (.int .i64 9))⟩,
    ⟨some (26, false), .bi 33 .neq (.t 29) (.t 32)⟩,
    ⟨none, .pk 34 (.t 26) (.c (.bool true)) (.t 33)⟩])
  (.cond (.t 34) (.seq (.ops [⟨none, .mv 2 (.c (.int .i64 0))⟩,
      ⟨none, .mv 3 (.c (.sl true .pub 1 []))⟩,
      ⟨none, .mv 4 (.c (.int .i64 2))⟩])
    (.ret))
    (.skip)))
  (.seq (.seq (.opsD [⟨none, .mv 35 (.t 0)⟩,
    ⟨none, .mv 36 (.t 0)⟩,
    ⟨none, .ln 37 .sl (.t 36)⟩,
    ⟨none, .bi 38 .sub (.t 37) (.c (.int .i64 4))⟩,
    ⟨none, .sl 39 1 (.t 35) none (some (.t 38))⟩,
    ⟨none, .mv 43 (.t 0)⟩,
    ⟨none, .mv 44 (.t 0)⟩,
    ⟨none, .ln 45 .sl (.t 44)⟩,
    ⟨none, .bi 46 .sub (.t 45) (.c (.int .i64 4))⟩,
    ⟨none, .sl 47 1 (.t 43) (some (.t 46)) none⟩,
    ⟨none, .cS 48 (.t 47)⟩,
    ⟨none, .ca (some 40) 74 [(.t 39)]⟩,
    ⟨none, .ca (some 41) 73 [(.t 40)]⟩,
    ⟨none, .cS 42 (.t 41)⟩,
    ⟨none, .bi 49 .neq (.t 42) (.t 48)⟩])
  (.cond (.t 49) (.seq (.ops [⟨none, .mv 2 (.c (.int .i64 0))⟩,
      ⟨none, .mv 3 (.c (.sl true .pub 1 []))⟩,
      ⟨none, .mv 4 (.c (.int .i64 9))⟩])
    (.ret))
    (.skip)))
  (.seq (.opsE [⟨none, .mv 50 (.t 0)⟩,
    ⟨none, .ia 51 (.t 50) (.c (.int .i64 0)) 1⟩,
    ⟨none, .ld 52 (.t 51) 1 false⟩,
    ⟨none, .cI 53 .i64 (.t 52)⟩,
    ⟨none, .mv 55 (.t 0)⟩,
    ⟨none, .mv 56 (.t 0)⟩,
    ⟨none, .ln 57 .sl (.t 56)⟩,
    ⟨none, .bi 58 .sub (.t 57) (.c (.int .i64 4))⟩,
    ⟨none, .sl 59 1 (.t 55) (some (.c (.int .i64 5))) (some (.t 58))⟩,
    ⟨none, .lit 54 1 []⟩,
    ⟨none, .ap 60 1 (.t 54) (.t 59)⟩,
    ⟨none, .mv 2 (.t 53)⟩,
    ⟨none, .mv 3 (.t 60)⟩,
    ⟨none, .mv 4 (.c (.int .i64 0))⟩]
  [⟨none, .mv 50 (.t 0)⟩,
    ⟨none, .ia 51 (.t 50) (.c (.int .i64 0)) 1⟩,
    ⟨none, .mv 55 (.t 0)⟩,
    ⟨none, .mv 56 (.t 0)⟩,
    ⟨none, .ln 57 .sl (.t 56)⟩,
    ⟨none, .bi 58 .sub (.t 57) (.c (.int .i64 4))⟩,
    ⟨none, .sl 59 1 (.t 55) (some (.c (.int .i64 5))) (some (.t 58))⟩,
    ⟨none, .lit 54 1 []⟩,
    ⟨none, .ap 60 1 (.t 54) (.t 59)⟩,
    ⟨none, .ld 52 (.t 51) 1 false⟩,
    ⟨none, .cI 53 .i64 (.t 52)⟩,
    ⟨none, .mv 2 (.t 53)⟩,
    ⟨none, .mv 3 (.t 60)⟩,
    ⟨none, .mv 4 (.c (.int .i64 0))⟩])
  (.ret))))
theorem comp56 : compFn Try.prog [] Try.f56 = some ([.t 2, .t 3, .t 4], c56) := by kernel_rfl
/-- topiary/topiaryref03.Count: 2 parameters, 32 slots. -/
def c57 : C :=
  .seq (.ops [⟨none, .bxL 2 (.t 0)⟩,
    ⟨none, .alL 4 [.sl true .pub 0 [], .int .i64 0, .int .i64 0, .int .i64 0]⟩,
    ⟨none, .mv 5 (.c (.int .i64 0))⟩])
  (.seq (.ops [⟨none, .ld 9 (.t 2) 4 true⟩,
    ⟨none, .ca (some 10) 41 [(.t 9)]⟩,
    ⟨none, .mv 8 (.t 10)⟩,
    ⟨none, .ex 11 (.t 8) 0⟩,
    ⟨none, .ex 12 (.t 8) 1⟩,
    ⟨none, .alL 6 [.sl true .pub 0 [], .int .i64 0, .int .i64 0, .int .i64 0]⟩,
    ⟨none, .st (.t 6) (.t 11) 4⟩,
    ⟨none, .mv 7 (.t 12)⟩])
  (.seq (.seq (.ops [⟨none, .fa 13 (.t 2) 2⟩,
    ⟨none, .ld 14 (.t 13) 1 false⟩,
    ⟨none, .bi 15 .eql (.t 14) (.c (.int .i64 0))⟩,
    ⟨none, .mv 16 (.t 15)⟩,
    ⟨some (16, true), .fa 17 (.t 6) 2⟩,
    ⟨some (16, true), .ld 18 (.t 17) 1 false⟩,
    ⟨some (16, true), .bi 19 .eql (.t 18) (.c (.int .i64 0))⟩,
    ⟨none, .pk 20 (.t 16) (.t 19) (.c (.bool false))⟩,
    ⟨none, .mv 21 (.t 20)⟩,
    ⟨some (21, true), .mv 22 (.t 7)⟩,
    ⟨some (21, true), .mv 23 (.t 1)⟩,
    ⟨some (21, true), .bi 24 .gtr (.t 22) (.t 23)⟩,
    ⟨none, .pk 25 (.t 21) (.t 24) (.c (.bool false))⟩])
  (.cond (.t 25) (.seq (.ops [⟨none, .ld 26 (.t 2) 4 true⟩,
      ⟨none, .fa 27 (.t 2) 1⟩,
      ⟨none, .ld 28 (.t 27) 1 false⟩,
      ⟨none, .ca (some 29) 70 [(.t 26), (.c (.int .i64 3)), (.t 28)]⟩,
      ⟨none, .st (.t 4) (.t 29) 4⟩,
      ⟨none, .mv 5 (.c (.int .i64 0))⟩])
    (.ret))
    (.skip)))
  (.seq (.ops [⟨none, .ld 30 (.t 6) 4 true⟩,
    ⟨none, .mv 31 (.t 7)⟩,
    ⟨none, .st (.t 4) (.t 30) 4⟩,
    ⟨none, .mv 5 (.t 31)⟩])
  (.ret))))
theorem comp57 : compFn Try.prog [2, 4, 6] Try.f57 = some ([.c 4 4 true, .t 5], c57) := by kernel_rfl
/-- topiary/ident.Right: 1 parameters, 16 slots. -/
def c58 : C :=
  .seq (.ops [⟨none, .bxL 1 (.t 0)⟩,
    ⟨none, .mv 2 (.c (.bool false))⟩])
  (.seq (.ops [⟨none, .fa 3 (.t 1) 0⟩,
    ⟨none, .ld 4 (.t 3) 1 false⟩,
    ⟨none, .bi 5 .geq (.t 4) (.c (.int .i64 1))⟩,
    ⟨none, .mv 6 (.t 5)⟩,
    ⟨some (6, true), .fa 7 (.t 1) 0⟩,
    ⟨some (6, true), .ld 8 (.t 7) 1 false⟩,
    ⟨some (6, true), .bi 9 .leq (.t 8) (.c (.int .i64 1099511627776))⟩,
    ⟨none, .pk 10 (.t 6) (.t 9) (.c (.bool false))⟩,
    ⟨none, .mv 11 (.t 10)⟩,
    ⟨some (11, true), .fa 12 (.t 1) 1⟩,
    ⟨some (11, true), .ld 13 (.t 12) 1 false⟩,
    ⟨some (11, true), .ca (some 14) 78 [(.t 13)]⟩,
    ⟨none, .pk 15 (.t 11) (.t 14) (.c (.bool false))⟩,
    ⟨none, .mv 2 (.t 15)⟩])
  (.ret))
theorem comp58 : compFn Try.prog [1] Try.f58 = some ([.t 2], c58) := by kernel_rfl
/-- topiary/change.deps: 1 parameters, 37 slots. -/
def c59 : C :=
  .seq (.ops [⟨none, .bxL 1 (.t 0)⟩,
    ⟨none, .mv 2 (.c (.int .i64 0))⟩])
  (.seq (.seq (.ops [⟨none, .fa 5 (.t 1) 3⟩,
    ⟨none, .ld 6 (.t 5) 1 false⟩,
    ⟨none, .ca (some 7) 46 [(.t 6)]⟩,
    ⟨none, .mv 3 (.t 7)⟩])
  (.seq (.ops [⟨none, .mv 8 (.t 3)⟩,
    ⟨none, .bi 9 .neq (.t 8) (.c (.int .i64 0))⟩])
  (.cond (.t 9) (.seq (.ops [⟨none, .mv 10 (.t 3)⟩,
      ⟨none, .mv 2 (.t 10)⟩])
    (.ret))
    (.skip))))
  (.seq (.seq (.ops [⟨none, .fa 11 (.t 1) 3⟩,
    ⟨none, .ld 12 (.t 11) 1 false⟩,
    ⟨none, .ln 13 .sl (.t 12)⟩,
    ⟨none, .mv 4 (.t 13)⟩])
  (.seq (.opsD [⟨none, .mv 14 (.t 4)⟩,
    ⟨none, .bi 15 .gtr (.t 14) (.c (.int .i64 0))⟩,
    ⟨none, .mv 16 (.t 15)⟩,
    ⟨some (16, true), .fa 17 (.t 1) 3⟩,
    ⟨some (16, true), .ld 18 (.t 17) 1 false⟩,
    ⟨some (16, true), .mv 19 (.t 4)⟩,
    ⟨some (16, true), .bi 20 .sub (.t 19) (.c (.int .i64 1))⟩,
    ⟨some (16, true), .ia 21 (.t 18) (.t 20) 1⟩,
    ⟨some (16, true), .ld 22 (.t 21) 1 false⟩,
    ⟨some (16, true), .bi 23 .eql (.t 22) (.c (.int .i64 0))⟩,
    ⟨none, .pk 24 (.t 16) (.t 23) (.c (.bool false))⟩,
    ⟨none, .mv 25 (.t 24)⟩,
    ⟨some (25, false), .fa 26 (.t 1) 3⟩,
    ⟨some (25, false), .ld 27 (.t 26) 1 false⟩,
    ⟨some (25, false), .fa 28 (.t 1) 0⟩,
    ⟨some (25, false), .fa 29 (.t 28) 1⟩,
    ⟨some (25, false), .ld 30 (.t 29) 1 false⟩,
    ⟨some (25, false), .fa 32 (.t 1) 2⟩,
    ⟨some (25, false), .ld 33 (.t 32) 1 false⟩,
    ⟨some (25, false), .bi 34 .sub (.t 33) (.c (.int .i64 1))⟩,
    ⟨some (25, false), .ca (some 31) 79 [(.t 27), (.t 30)]⟩,
    ⟨some (25, false), .bi 35 .neq (.t 31) (.t 34)⟩,
    ⟨none, .pk 36 (.t 25) (.c (.bool true)) (.t 35)⟩])
  (.cond (.t 36) (.seq (.ops [⟨none, .mv 2 (.c (.int .i64 2))⟩])
    (.ret))
    (.skip))))
  (.seq (.ops [⟨none, .mv 2 (.c (.int .i64 0))⟩])
  (.ret))))
theorem comp59 : compFn Try.prog [1] Try.f59 = some ([.t 2], c59) := by kernel_rfl
/-- topiary/change.node: 1 parameters, 40 slots. -/
def c60 : C :=
  .seq (.ops [⟨none, .bxL 1 (.t 0)⟩,
    ⟨none, .mv 2 (.c (.bool false))⟩])
  (.seq (.seq (.ops [⟨none, .fa 3 (.t 1) 4⟩,
    ⟨none, .ld 4 (.t 3) 1 false⟩])
  (.block 0 (.seq (.ops [⟨none, .bi 6 .eql (.t 4) (.c (.int .i64 1))⟩,
    ⟨none, .mv 5 (.t 6)⟩])
  (.cond (.t 5) (.seq (.ops [⟨none, .fa 7 (.t 1) 5⟩,
      ⟨none, .ld 8 (.t 7) 2 true⟩,
      ⟨none, .fa 9 (.t 1) 0⟩,
      ⟨none, .ld 10 (.t 9) 2 true⟩,
      ⟨none, .be 11 false [.int .i64, .int .i64] (.t 8) (.t 10)⟩,
      ⟨none, .mv 2 (.t 11)⟩])
    (.ret))
    (.seq (.ops [⟨none, .bi 13 .eql (.t 4) (.c (.int .i64 2))⟩,
      ⟨none, .mv 12 (.t 13)⟩])
    (.cond (.t 12) (.seq (.ops [⟨none, .fa 14 (.t 1) 5⟩,
        ⟨none, .ld 15 (.t 14) 2 true⟩,
        ⟨none, .ca (some 16) 58 [(.t 15)]⟩,
        ⟨none, .mv 17 (.t 16)⟩,
        ⟨some (17, true), .fa 18 (.t 1) 5⟩,
        ⟨some (17, true), .ld 19 (.t 18) 2 true⟩,
        ⟨some (17, true), .fa 20 (.t 1) 0⟩,
        ⟨some (17, true), .ld 21 (.t 20) 2 true⟩,
        ⟨some (17, true), .ca (some 22) 80 [(.t 19), (.t 21)]⟩,
        ⟨none, .pk 23 (.t 17) (.t 22) (.c (.bool false))⟩,
        ⟨none, .mv 2 (.t 23)⟩])
      (.ret))
      (.skip)))))))
  (.seq (.ops [⟨none, .fa 24 (.t 1) 5⟩,
    ⟨none, .ld 25 (.t 24) 2 true⟩,
    ⟨none, .bld 26 [.int .i64 0, .int .i64 0] []⟩,
    ⟨none, .be 27 false [.int .i64, .int .i64] (.t 25) (.t 26)⟩,
    ⟨none, .mv 28 (.t 27)⟩,
    ⟨some (28, false), .fa 29 (.t 1) 5⟩,
    ⟨some (28, false), .ld 30 (.t 29) 2 true⟩,
    ⟨some (28, false), .ca (some 31) 58 [(.t 30)]⟩,
    ⟨some (28, false), .mv 32 (.t 31)⟩,
    ⟨some (32, true), .fa 33 (.t 1) 5⟩,
    ⟨some (32, true), .ld 34 (.t 33) 2 true⟩,
    ⟨some (32, true), .fa 35 (.t 1) 0⟩,
    ⟨some (32, true), .ld 36 (.t 35) 2 true⟩,
    ⟨some (32, true), .ca (some 37) 80 [(.t 34), (.t 36)]⟩,
    ⟨some (28, false), .pk 38 (.t 32) (.t 37) (.c (.bool false))⟩,
    ⟨none, .pk 39 (.t 28) (.c (.bool true)) (.t 38)⟩,
    ⟨none, .mv 2 (.t 39)⟩])
  (.ret)))
theorem comp60 : compFn Try.prog [1] Try.f60 = some ([.t 2], c60) := by kernel_rfl
/-- topiary/change.place: 1 parameters, 56 slots. -/
def c61 : C :=
  .seq (.ops [⟨none, .bxL 1 (.t 0)⟩,
    ⟨none, .mv 2 (.c (.bool false))⟩])
  (.seq (.seq (.ops [⟨none, .fa 3 (.t 1) 4⟩,
    ⟨none, .ld 4 (.t 3) 1 false⟩,
    ⟨none, .bi 5 .neq (.t 4) (.c (.int .i64 1))⟩,
    ⟨none, .mv 6 (.t 5)⟩,
    ⟨some (6, true), .fa 7 (.t 1) 4⟩,
    ⟨some (6, true), .ld 8 (.t 7) 1 false⟩,
    ⟨some (6, true), .bi 9 .neq (.t 8) (.c (.int .i64 2))⟩,
    ⟨none, .pk 10 (.t 6) (.t 9) (.c (.bool false))⟩])
  (.cond (.t 10) (.seq (.ops [⟨none, .fa 11 (.t 1) 7⟩,
      ⟨none, .ld 12 (.t 11) 2 true⟩,
      ⟨none, .bld 13 [.int .i64 0, .int .i64 0] []⟩,
      ⟨none, .be 14 false [.int .i64, .int .i64] (.t 12) (.t 13)⟩,
      ⟨none, .mv 15 (.t 14)⟩,
      ⟨some (15, true), .fa 16 (.t 1) 9⟩,
      ⟨some (15, true), .ld 17 (.t 16) 2 true⟩,
      ⟨some (15, true), .bld 18 [.int .i64 0, .int .i64 0] []⟩,
      ⟨some (15, true), .be 19 false [.int .i64, .int .i64] (.t 17) (.t 18)⟩,
      ⟨none, .pk 20 (.t 15) (.t 19) (.c (.bool false))⟩,
      ⟨none, .mv 2 (.t 20)⟩])
    (.ret))
    (.skip)))
  (.seq (.seq (.ops [⟨none, .fa 21 (.t 1) 7⟩,
    ⟨none, .ld 22 (.t 21) 2 true⟩,
    ⟨none, .ca (some 23) 81 [(.t 22)]⟩,
    ⟨none, .un 24 .not (.t 23)⟩,
    ⟨none, .mv 25 (.t 24)⟩,
    ⟨some (25, false), .fa 26 (.t 1) 7⟩,
    ⟨some (25, false), .ld 27 (.t 26) 2 true⟩,
    ⟨some (25, false), .fa 28 (.t 1) 0⟩,
    ⟨some (25, false), .ld 29 (.t 28) 2 true⟩,
    ⟨some (25, false), .ca (some 30) 80 [(.t 27), (.t 29)]⟩,
    ⟨some (25, false), .un 31 .not (.t 30)⟩,
    ⟨none, .pk 32 (.t 25) (.c (.bool true)) (.t 31)⟩,
    ⟨none, .mv 33 (.t 32)⟩,
    ⟨some (33, false), .fa 34 (.t 1) 7⟩,
    ⟨some (33, false), .ld 35 (.t 34) 2 true⟩,
    ⟨some (33, false), .fa 36 (.t 1) 5⟩,
    ⟨some (33, false), .ld 37 (.t 36) 2 true⟩,
    ⟨some (33, false), .be 38 false [.int .i64, .int .i64] (.t 35) (.t 37)⟩,
    ⟨none, .pk 39 (.t 33) (.c (.bool true)) (.t 38)⟩])
  (.cond (.t 39) (.seq (.ops [⟨none, .mv 2 (.c (.bool false))⟩])
    (.ret))
    (.skip)))
  (.seq (.ops [⟨none, .fa 40 (.t 1) 9⟩,
    ⟨none, .ld 41 (.t 40) 2 true⟩,
    ⟨none, .bld 42 [.int .i64 0, .int .i64 0] []⟩,
    ⟨none, .be 43 false [.int .i64, .int .i64] (.t 41) (.t 42)⟩,
    ⟨none, .mv 44 (.t 43)⟩,
    ⟨some (44, false), .fa 45 (.t 1) 9⟩,
    ⟨some (44, false), .ld 46 (.t 45) 2 true⟩,
    ⟨some (44, false), .ca (some 47) 58 [(.t 46)]⟩,
    ⟨some (44, false), .mv 48 (.t 47)⟩,
    ⟨some (48, true), .fa 49 (.t 1) 9⟩,
    ⟨some (48, true), .ld 50 (.t 49) 2 true⟩,
    ⟨some (48, true), .fa 51 (.t 1) 0⟩,
    ⟨some (48, true), .ld 52 (.t 51) 2 true⟩,
    ⟨some (48, true), .ca (some 53) 80 [(.t 50), (.t 52)]⟩,
    ⟨some (44, false), .pk 54 (.t 48) (.t 53) (.c (.bool false))⟩,
    ⟨none, .pk 55 (.t 44) (.c (.bool true)) (.t 54)⟩,
    ⟨none, .mv 2 (.t 55)⟩])
  (.ret))))
theorem comp61 : compFn Try.prog [1] Try.f61 = some ([.t 2], c61) := by kernel_rfl
/-- topiary/change.words: 1 parameters, 42 slots. -/
def c62 : C :=
  .seq (.ops [⟨none, .bxL 1 (.t 0)⟩,
    ⟨none, .mv 2 (.c (.int .i64 0))⟩])
  (.seq (.ops [⟨none, .mv 3 (.c (.bool false))⟩,
    ⟨none, .mv 4 (.c (.bool false))⟩])
  (.cut (.seq (.ops [⟨none, .fa 5 (.t 1) 4⟩,
    ⟨none, .ld 6 (.t 5) 1 false⟩])
  (.block 0 (.seq (.block 3 (.cut (.block 2 (.seq (.block 1 (.seq (.seq (.seq (.ops [⟨none, .bi 8 .eql (.t 6) (.c (.int .i64 3))⟩,
    ⟨none, .mv 7 (.t 8)⟩])
  (.cond (.t 7) (.exit 1)
    (.skip)))
  (.seq (.cut (.seq (.ops [⟨none, .bi 10 .eql (.t 6) (.c (.int .i64 1))⟩,
    ⟨none, .mv 9 (.t 10)⟩])
  (.cond (.t 9) (.skip)
    (.ops [⟨none, .bi 11 .eql (.t 6) (.c (.int .i64 4))⟩,
      ⟨none, .mv 9 (.t 11)⟩])))
  (.cond (.t 9) (.exit 2)
    (.skip)))
  (.seq (.ops [⟨none, .bi 13 .eql (.t 6) (.c (.int .i64 5))⟩,
    ⟨none, .mv 12 (.t 13)⟩])
  (.cond (.t 12) (.exit 3)
    (.skip)))))
  (.exit 0)))
  (.ops [⟨none, .mv 4 (.c (.bool true))⟩])))
  (.seq (.ops [⟨none, .mv 3 (.c (.bool true))⟩])
  (.exit 0))))
  (.seq (.ops [⟨none, .mv 4 (.c (.bool true))⟩])
  (.exit 0)))))
  (.seq (.block 4 (.cut (.seq (.ops [⟨none, .mv 15 (.t 3)⟩,
    ⟨none, .mv 16 (.t 15)⟩,
    ⟨some (16, true), .fa 17 (.t 1) 11⟩,
    ⟨some (16, true), .ld 18 (.t 17) 1 false⟩,
    ⟨some (16, true), .ca (some 19) 82 [(.t 18)]⟩,
    ⟨some (16, true), .un 20 .not (.t 19)⟩,
    ⟨none, .pk 21 (.t 16) (.t 20) (.c (.bool false))⟩,
    ⟨none, .mv 14 (.t 21)⟩])
  (.cond (.t 14) (.skip)
    (.ops [⟨none, .mv 22 (.t 3)⟩,
      ⟨none, .un 23 .not (.t 22)⟩,
      ⟨none, .mv 24 (.t 23)⟩,
      ⟨some (24, true), .fa 25 (.t 1) 11⟩,
      ⟨some (24, true), .ld 26 (.t 25) 1 false⟩,
      ⟨some (24, true), .bi 27 .neq (.t 26) (.c (.str []))⟩,
      ⟨none, .pk 28 (.t 24) (.t 27) (.c (.bool false))⟩,
      ⟨none, .mv 14 (.t 28)⟩])))
  (.cond (.t 14) (.seq (.ops [⟨none, .mv 2 (.c (.int .i64 8))⟩])
    (.ret))
    (.seq (.ops [⟨none, .fa 30 (.t 1) 12⟩,
      ⟨none, .ld 31 (.t 30) 1 false⟩,
      ⟨none, .ln 32 .fn (.t 31)⟩,
      ⟨none, .bi 33 .gtr (.t 32) (.c (.int .i64 256))⟩,
      ⟨none, .mv 29 (.t 33)⟩])
    (.cond (.t 29) (.seq (.ops [⟨none, .mv 2 (.c (.int .i64 3))⟩])
      (.ret))
      (.seq (.ops [⟨none, .mv 35 (.t 4)⟩,
        ⟨none, .un 36 .not (.t 35)⟩,
        ⟨none, .mv 37 (.t 36)⟩,
        ⟨some (37, true), .fa 38 (.t 1) 12⟩,
        ⟨some (37, true), .ld 39 (.t 38) 1 false⟩,
        ⟨some (37, true), .bi 40 .neq (.t 39) (.c (.str []))⟩,
        ⟨none, .pk 41 (.t 37) (.t 40) (.c (.bool false))⟩,
        ⟨none, .mv 34 (.t 41)⟩])
      (.cond (.t 34) (.seq (.ops [⟨none, .mv 2 (.c (.int .i64 2))⟩])
        (.ret))
        (.skip))))))))
  (.seq (.ops [⟨none, .mv 2 (.c (.int .i64 0))⟩])
  (.ret)))))
theorem comp62 : compFn Try.prog [1] Try.f62 = some ([.t 2], c62) := by kernel_rfl
/-- topiary/topiaryref01.Right: 1 parameters, 21 slots. -/
def c63 : C :=
  .seq (.ops [⟨none, .bxL 1 (.t 0)⟩,
    ⟨none, .mv 2 (.c (.bool false))⟩])
  (.seq (.ops [⟨none, .fa 3 (.t 1) 0⟩,
    ⟨none, .ld 4 (.t 3) 1 false⟩,
    ⟨none, .bi 5 .geq (.t 4) (.c (.int .i64 1))⟩,
    ⟨none, .mv 6 (.t 5)⟩,
    ⟨some (6, true), .fa 7 (.t 1) 0⟩,
    ⟨some (6, true), .ld 8 (.t 7) 1 false⟩,
    ⟨some (6, true), .bi 9 .leq (.t 8) (.c (.int .i64 1099511627776))⟩,
    ⟨none, .pk 10 (.t 6) (.t 9) (.c (.bool false))⟩,
    ⟨none, .mv 11 (.t 10)⟩,
    ⟨some (11, true), .fa 12 (.t 1) 1⟩,
    ⟨some (11, true), .ld 13 (.t 12) 1 false⟩,
    ⟨some (11, true), .bi 14 .geq (.t 13) (.c (.int .i64 0))⟩,
    ⟨none, .pk 15 (.t 11) (.t 14) (.c (.bool false))⟩,
    ⟨none, .mv 16 (.t 15)⟩,
    ⟨some (16, true), .fa 17 (.t 1) 1⟩,
    ⟨some (16, true), .ld 18 (.t 17) 1 false⟩,
    ⟨some (16, true), .bi 19 .lss (.t 18) (.c (.int .i64 64))⟩,
    ⟨none, .pk 20 (.t 16) (.t 19) (.c (.bool false))⟩,
    ⟨none, .mv 2 (.t 20)⟩])
  (.ret))
theorem comp63 : compFn Try.prog [1] Try.f63 = some ([.t 2], c63) := by kernel_rfl
/-- topiary/topiaryref02.At: 2 parameters, 17 slots. -/
def c64 : C :=
  .seq (.ops [⟨none, .mv 4 (.c (.int .i64 0))⟩])
  (.seq (.seq (.ops [⟨none, .mv 5 (.t 1)⟩,
    ⟨none, .bi 6 .geq (.t 5) (.c (.int .i64 0))⟩,
    ⟨none, .mv 7 (.t 6)⟩,
    ⟨some (7, true), .mv 8 (.t 1)⟩,
    ⟨some (7, true), .mv 9 (.t 0)⟩,
    ⟨some (7, true), .ln 10 .sl (.t 9)⟩,
    ⟨some (7, true), .bi 11 .lss (.t 8) (.t 10)⟩,
    ⟨none, .pk 12 (.t 7) (.t 11) (.c (.bool false))⟩])
  (.cond (.t 12) (.seq (.ops [⟨none, .mv 13 (.t 0)⟩,
      ⟨none, .mv 14 (.t 1)⟩,
      ⟨none, .ia 15 (.t 13) (.t 14) 1⟩,
      ⟨none, .ld 16 (.t 15) 1 false⟩,
      ⟨none, .mv 4 (.t 16)⟩])
    (.ret))
    (.skip)))
  (.seq (.ops [⟨none, .mv 4 (.c (.int .i64 0))⟩])
  (.ret)))
theorem comp64 : compFn Try.prog [] Try.f64 = some ([.t 4], c64) := by kernel_rfl
/-- topiary/topiaryref05.placed: 1 parameters, 92 slots. -/
def c65 : C :=
  .seq (.ops [⟨none, .bxL 1 (.t 0)⟩,
    ⟨none, .mv 2 (.c (.bool false))⟩])
  (.seq (.ops [⟨none, .bld 5 [.int .i64 0, .int .i64 0] []⟩,
    ⟨none, .alL 3 [.int .i64 0, .int .i64 0]⟩,
    ⟨none, .st (.t 3) (.t 5) 2⟩])
  (.seq (.seq (.ops [⟨none, .fa 6 (.t 1) 4⟩,
    ⟨none, .ld 7 (.t 6) 1 false⟩,
    ⟨none, .bi 8 .eql (.t 7) (.c (.int .i64 1))⟩,
    ⟨none, .mv 9 (.t 8)⟩,
    ⟨some (9, true), .fa 10 (.t 1) 5⟩,
    ⟨some (9, true), .ld 11 (.t 10) 2 true⟩,
    ⟨some (9, true), .fa 12 (.t 1) 0⟩,
    ⟨some (9, true), .ld 13 (.t 12) 2 true⟩,
    ⟨some (9, true), .be 14 true [.int .i64, .int .i64] (.t 11) (.t 13)⟩,
    ⟨none, .pk 15 (.t 9) (.t 14) (.c (.bool false))⟩,
    ⟨none, .mv 16 (.t 15)⟩,
    ⟨some (16, false), .fa 17 (.t 1) 4⟩,
    ⟨some (16, false), .ld 18 (.t 17) 1 false⟩,
    ⟨some (16, false), .bi 19 .eql (.t 18) (.c (.int .i64 2))⟩,
    ⟨some (16, false), .mv 20 (.t 19)⟩,
    ⟨some (20, true), .fa 21 (.t 1) 5⟩,
    ⟨some (20, true), .ld 22 (.t 21) 2 true⟩,
    ⟨some (20, true), .fa 23 (.t 1) 0⟩,
    ⟨some (20, true), .ld 24 (.t 23) 2 true⟩,
    ⟨some (20, true), .ca (some 25) 83 [(.t 22), (.t 24)]⟩,
    ⟨some (20, true), .un 26 .not (.t 25)⟩,
    ⟨some (16, false), .pk 27 (.t 20) (.t 26) (.c (.bool false))⟩,
    ⟨none, .pk 28 (.t 16) (.c (.bool true)) (.t 27)⟩,
    ⟨none, .mv 29 (.t 28)⟩,
    ⟨some (29, false), .fa 30 (.t 1) 4⟩,
    ⟨some (29, false), .ld 31 (.t 30) 1 false⟩,
    ⟨some (29, false), .bi 32 .gtr (.t 31) (.c (.int .i64 2))⟩,
    ⟨some (29, false), .mv 33 (.t 32)⟩,
    ⟨some (33, true), .fa 34 (.t 1) 5⟩,
    ⟨some (33, true), .ld 35 (.t 34) 2 true⟩,
    ⟨some (33, true), .ld 36 (.t 3) 2 true⟩,
    ⟨some (33, true), .be 37 true [.int .i64, .int .i64] (.t 35) (.t 36)⟩,
    ⟨some (29, false), .pk 38 (.t 33) (.t 37) (.c (.bool false))⟩,
    ⟨some (29, false), .mv 39 (.t 38)⟩,
    ⟨some (39, true), .fa 40 (.t 1) 5⟩,
    ⟨some (39, true), .ld 41 (.t 40) 2 true⟩,
    ⟨some (39, true), .fa 42 (.t 1) 0⟩,
    ⟨some (39, true), .ld 43 (.t 42) 2 true⟩,
    ⟨some (39, true), .ca (some 44) 83 [(.t 41), (.t 43)]⟩,
    ⟨some (39, true), .un 45 .not (.t 44)⟩,
    ⟨some (29, false), .pk 46 (.t 39) (.t 45) (.c (.bool false))⟩,
    ⟨none, .pk 47 (.t 29) (.c (.bool true)) (.t 46)⟩])
  (.cond (.t 47) (.seq (.ops [⟨none, .mv 2 (.c (.bool false))⟩])
    (.ret))
    (.skip)))
  (.seq (.seq (.ops [⟨none, .fa 48 (.t 1) 4⟩,
    ⟨none, .ld 49 (.t 48) 1 false⟩,
    ⟨none, .bi 50 .gtr (.t 49) (.c (.int .i64 2))⟩])
  (.cond (.t 50) (.seq (.ops [⟨none, .fa 51 (.t 1) 7⟩,
      ⟨none, .ld 52 (.t 51) 2 true⟩,
      ⟨none, .ld 53 (.t 3) 2 true⟩,
      ⟨none, .be 54 false [.int .i64, .int .i64] (.t 52) (.t 53)⟩,
      ⟨none, .mv 55 (.t 54)⟩,
      ⟨some (55, true), .fa 56 (.t 1) 9⟩,
      ⟨some (55, true), .ld 57 (.t 56) 2 true⟩,
      ⟨some (55, true), .ld 58 (.t 3) 2 true⟩,
      ⟨some (55, true), .be 59 false [.int .i64, .int .i64] (.t 57) (.t 58)⟩,
      ⟨none, .pk 60 (.t 55) (.t 59) (.c (.bool false))⟩,
      ⟨none, .mv 2 (.t 60)⟩])
    (.ret))
    (.skip)))
  (.seq (.ops [⟨none, .fa 61 (.t 1) 7⟩,
    ⟨none, .ld 62 (.t 61) 2 true⟩,
    ⟨none, .ca (some 63) 84 [(.t 62)]⟩,
    ⟨none, .mv 64 (.t 63)⟩,
    ⟨some (64, true), .fa 65 (.t 1) 7⟩,
    ⟨some (64, true), .ld 66 (.t 65) 2 true⟩,
    ⟨some (64, true), .fa 67 (.t 1) 0⟩,
    ⟨some (64, true), .ld 68 (.t 67) 2 true⟩,
    ⟨some (64, true), .ca (some 69) 85 [(.t 66), (.t 68)]⟩,
    ⟨none, .pk 70 (.t 64) (.t 69) (.c (.bool false))⟩,
    ⟨none, .mv 71 (.t 70)⟩,
    ⟨some (71, true), .fa 72 (.t 1) 7⟩,
    ⟨some (71, true), .ld 73 (.t 72) 2 true⟩,
    ⟨some (71, true), .fa 74 (.t 1) 5⟩,
    ⟨some (71, true), .ld 75 (.t 74) 2 true⟩,
    ⟨some (71, true), .be 76 true [.int .i64, .int .i64] (.t 73) (.t 75)⟩,
    ⟨none, .pk 77 (.t 71) (.t 76) (.c (.bool false))⟩,
    ⟨none, .mv 4 (.t 77)⟩])
  (.seq (.ops [⟨none, .mv 78 (.t 4)⟩,
    ⟨none, .mv 79 (.t 78)⟩,
    ⟨some (79, true), .fa 80 (.t 1) 9⟩,
    ⟨some (79, true), .ld 81 (.t 80) 2 true⟩,
    ⟨some (79, true), .ld 82 (.t 3) 2 true⟩,
    ⟨some (79, true), .be 83 false [.int .i64, .int .i64] (.t 81) (.t 82)⟩,
    ⟨some (79, true), .mv 84 (.t 83)⟩,
    ⟨some (84, false), .fa 85 (.t 1) 9⟩,
    ⟨some (84, false), .ld 86 (.t 85) 2 true⟩,
    ⟨some (84, false), .fa 87 (.t 1) 0⟩,
    ⟨some (84, false), .ld 88 (.t 87) 2 true⟩,
    ⟨some (84, false), .ca (some 89) 83 [(.t 86), (.t 88)]⟩,
    ⟨some (79, true), .pk 90 (.t 84) (.c (.bool true)) (.t 89)⟩,
    ⟨none, .pk 91 (.t 79) (.t 90) (.c (.bool false))⟩,
    ⟨none, .mv 2 (.t 91)⟩])
  (.ret))))))
theorem comp65 : compFn Try.prog [1, 3] Try.f65 = some ([.t 2], c65) := by kernel_rfl
/-- topiary/topiaryref05.Name: 1 parameters, 53 slots. -/
def c66 : C :=
  .seq (.ops [⟨none, .mv 2 (.c (.bool false))⟩])
  (.seq (.seq (.ops [⟨none, .mv 3 (.c (.int .i64 0))⟩])
  (.block 0 (.loop (.seq (.seq (.ops [⟨none, .mv 5 (.t 3)⟩,
    ⟨none, .mv 6 (.t 0)⟩,
    ⟨none, .ln 7 .fn (.t 6)⟩,
    ⟨none, .bi 8 .lss (.t 5) (.t 7)⟩])
  (.cond (.t 8) (.skip)
    (.exit 0)))
  (.seq (.block 1 (.seq (.ops [⟨none, .mv 11 (.t 0)⟩,
    ⟨none, .mv 12 (.t 3)⟩,
    ⟨none, .ix 13 (.t 11) (.t 12)⟩,
    ⟨none, .bi 14 .geq (.t 13) (.c (.int .u8 97))⟩,
    ⟨none, .mv 15 (.t 14)⟩,
    ⟨some (15, true), .mv 16 (.t 0)⟩,
    ⟨some (15, true), .mv 17 (.t 3)⟩,
    ⟨some (15, true), .ix 18 (.t 16) (.t 17)⟩,
    ⟨some (15, true), .bi 19 .leq (.t 18) (.c (.int .u8 122))⟩,
    ⟨none, .pk 20 (.t 15) (.t 19) (.c (.bool false))⟩,
    ⟨none, .mv 4 (.t 20)⟩])
  (.seq (.ops [⟨none, .mv 21 (.t 4)⟩,
    ⟨none, .un 22 .not (.t 21)⟩,
    ⟨none, .mv 23 (.t 22)⟩,
    ⟨some (23, true), .mv 24 (.t 3)⟩,
    ⟨some (23, true), .bi 25 .eql (.t 24) (.c (.int .i64 0))⟩,
    ⟨some (23, true), .mv 26 (.t 25)⟩,
    ⟨some (26, false), .mv 27 (.t 0)⟩,
    ⟨some (26, false), .mv 28 (.t 3)⟩,
    ⟨some (26, false), .ix 29 (.t 27) (.t 28)⟩,
    ⟨some (26, false), .bi 30 .neq (.t 29) (.c (.int .u8 45))⟩,
    ⟨some (26, false), .mv 31 (.t 30)⟩,
    ⟨some (31, true), .mv 32 (.t 0)⟩,
    ⟨some (31, true), .mv 33 (.t 3)⟩,
    ⟨some (31, true), .ix 34 (.t 32) (.t 33)⟩,
    ⟨some (31, true), .bi 35 .lss (.t 34) (.c (.int .u8 48))⟩,
    ⟨some (31, true), .mv 36 (.t 35)⟩,
    ⟨some (36, false), .mv 37 (.t 0)⟩,
    ⟨some (36, false), .mv 38 (.t 3)⟩,
    ⟨some (36, false), .ix 39 (.t 37) (.t 38)⟩,
    ⟨some (36, false), .bi 40 .gtr (.t 39) (.c (.int .u8 57))⟩,
    ⟨some (31, true), .pk 41 (.t 36) (.c (.bool true)) (.t 40)⟩,
    ⟨some (26, false), .pk 42 (.t 31) (.t 41) (.c (.bool false))⟩,
    ⟨some (23, true), .pk 43 (.t 26) (.c (.bool true)) (.t 42)⟩,
    ⟨none, .pk 44 (.t 23) (.t 43) (.c (.bool false))⟩])
  (.cond (.t 44) (.seq (.ops [⟨none, .mv 2 (.c (.bool false))⟩])
    (.ret))
    (.skip)))))
  (.ops [⟨none, .mv 9 (.t 3)⟩,
    ⟨none, .bi 10 .add (.t 9) (.c (.int .i64 1))⟩,
    ⟨none, .mv 3 (.t 10)⟩]))))))
  (.seq (.ops [⟨none, .mv 45 (.t 0)⟩,
    ⟨none, .ln 46 .fn (.t 45)⟩,
    ⟨none, .bi 47 .geq (.t 46) (.c (.int .i64 1))⟩,
    ⟨none, .mv 48 (.t 47)⟩,
    ⟨some (48, true), .mv 49 (.t 0)⟩,
    ⟨some (48, true), .ln 50 .fn (.t 49)⟩,
    ⟨some (48, true), .bi 51 .leq (.t 50) (.c (.int .i64 32))⟩,
    ⟨none, .pk 52 (.t 48) (.t 51) (.c (.bool false))⟩,
    ⟨none, .mv 2 (.t 52)⟩])
  (.ret)))
theorem comp66 : compFn Try.prog [] Try.f66 = some ([.t 2], c66) := by kernel_rfl
/-- (*topiary/octet.Reader).number: 1 parameters, 59 slots. -/
def c67 : C :=
  .seq (.ops [⟨none, .mv 2 (.c (.int .i64 0))⟩,
    ⟨none, .mv 3 (.c (.int .i64 0))⟩,
    ⟨none, .mv 4 (.c (.bool false))⟩])
  (.seq (.ops [⟨none, .mv 5 (.c (.int .i64 0))⟩])
  (.seq (.ops [⟨none, .mv 6 (.c (.int .u8 0))⟩])
  (.seq (.ops [⟨none, .mv 9 (.t 0)⟩,
    ⟨none, .nc 10 (.t 9)⟩,
    ⟨none, .fa 11 (.t 10) 1⟩,
    ⟨none, .ld 12 (.t 11) 1 false⟩,
    ⟨none, .mv 7 (.t 12)⟩])
  (.seq (.skip)
  (.seq (.seq (.ops [⟨none, .mv 8 (.c (.int .i64 0))⟩])
  (.block 0 (.loop (.seq (.block 1 (.seq (.block 2 (.seq (.ops [⟨none, .mv 16 (.t 7)⟩,
    ⟨none, .mv 17 (.t 0)⟩,
    ⟨none, .nc 18 (.t 17)⟩,
    ⟨none, .fa 19 (.t 18) 0⟩,
    ⟨none, .ld 20 (.t 19) 1 false⟩,
    ⟨none, .ln 21 .sl (.t 20)⟩,
    ⟨none, .bi 22 .eql (.t 16) (.t 21)⟩,
    ⟨none, .mv 23 (.t 22)⟩,
    ⟨some (23, false), .mv 24 (.t 8)⟩,
    ⟨some (23, false), .bi 25 .eql (.t 24) (.c (.int .i64 9))⟩,
    ⟨none, .pk 26 (.t 23) (.c (.bool true)) (.t 25)⟩,
    ⟨none, .mv 15 (.t 26)⟩])
  (.cond (.t 15) (.seq (.ops [⟨none, .mv 2 (.c (.int .i64 0))⟩,
      ⟨none, .mv 3 (.c (.int .i64 0))⟩,
      ⟨none, .mv 4 (.c (.bool false))⟩])
    (.ret))
    (.skip))))
  (.seq (.ops [⟨none, .mv 27 (.t 0)⟩,
    ⟨none, .nc 28 (.t 27)⟩,
    ⟨none, .fa 29 (.t 28) 0⟩,
    ⟨none, .ld 30 (.t 29) 1 false⟩,
    ⟨none, .mv 31 (.t 7)⟩,
    ⟨none, .ia 32 (.t 30) (.t 31) 1⟩,
    ⟨none, .ld 33 (.t 32) 1 false⟩,
    ⟨none, .mv 6 (.t 33)⟩])
  (.seq (.ops [⟨none, .mv 34 (.t 5)⟩,
    ⟨none, .mv 35 (.t 6)⟩,
    ⟨none, .bi 36 .and (.t 35) (.c (.int .u8 127))⟩,
    ⟨none, .cI 37 .i64 (.t 36)⟩,
    ⟨none, .mv 38 (.t 8)⟩,
    ⟨none, .bi 39 .mul (.c (.int .i64 7)) (.t 38)⟩,
    ⟨none, .bi 40 .shl (.t 37) (.t 39)⟩,
    ⟨none, .bi 41 .or (.t 34) (.t 40)⟩,
    ⟨none, .mv 5 (.t 41)⟩])
  (.seq (.ops [⟨none, .mv 42 (.t 7)⟩,
    ⟨none, .bi 43 .add (.t 42) (.c (.int .i64 1))⟩,
    ⟨none, .mv 7 (.t 43)⟩])
  (.seq (.ops [⟨none, .mv 44 (.t 6)⟩,
    ⟨none, .bi 45 .lss (.t 44) (.c (.int .u8 128))⟩])
  (.cond (.t 45) (.exit 0)
    (.skip))))))))
  (.ops [⟨none, .mv 13 (.t 8)⟩,
    ⟨none, .bi 14 .add (.t 13) (.c (.int .i64 1))⟩,
    ⟨none, .mv 8 (.t 14)⟩])))))
  (.seq (.opsD [⟨none, .mv 46 (.t 5)⟩,
    ⟨none, .mv 47 (.t 7)⟩,
    ⟨none, .mv 48 (.t 6)⟩,
    ⟨none, .bi 49 .neq (.t 48) (.c (.int .u8 0))⟩,
    ⟨none, .mv 50 (.t 49)⟩,
    ⟨some (50, false), .mv 51 (.t 7)⟩,
    ⟨some (50, false), .mv 52 (.t 0)⟩,
    ⟨some (50, false), .nc 53 (.t 52)⟩,
    ⟨some (50, false), .fa 54 (.t 53) 1⟩,
    ⟨some (50, false), .ld 55 (.t 54) 1 false⟩,
    ⟨some (50, false), .bi 56 .add (.t 55) (.c (.int .i64 1))⟩,
    ⟨some (50, false), .bi 57 .eql (.t 51) (.t 56)⟩,
    ⟨none, .pk 58 (.t 50) (.c (.bool true)) (.t 57)⟩,
    ⟨none, .mv 2 (.t 46)⟩,
    ⟨none, .mv 3 (.t 47)⟩,
    ⟨none, .mv 4 (.t 58)⟩])
  (.ret)))))))
theorem comp67 : compFn Try.prog [] Try.f67 = some ([.t 2, .t 3, .t 4], c67) := by kernel_rfl
/-- (*topiary/octet.Reader).fail: 3 parameters, 18 slots. -/
def c68 : C :=
  .ops [⟨none, .mv 6 (.t 0)⟩,
    ⟨none, .mv 7 (.t 0)⟩,
    ⟨none, .mv 8 (.t 0)⟩,
    ⟨none, .mv 9 (.t 1)⟩,
    ⟨none, .mv 10 (.t 2)⟩,
    ⟨none, .mv 11 (.t 2)⟩,
    ⟨none, .nc 12 (.t 6)⟩,
    ⟨none, .fa 13 (.t 12) 2⟩,
    ⟨none, .st (.t 13) (.t 9) 1⟩,
    ⟨none, .nc 14 (.t 7)⟩,
    ⟨none, .fa 15 (.t 14) 3⟩,
    ⟨none, .st (.t 15) (.t 10) 1⟩,
    ⟨none, .nc 16 (.t 8)⟩,
    ⟨none, .fa 17 (.t 16) 1⟩,
    ⟨none, .st (.t 17) (.t 11) 1⟩]
theorem comp68 : compFn Try.prog [] Try.f68 = some ([], c68) := by kernel_rfl
/-- topiary/topiaryref03.Num: 1 parameters, 49 slots. -/
def c69 : C :=
  .seq (.ops [⟨none, .mv 2 (.c (.int .i64 0))⟩,
    ⟨none, .mv 3 (.c (.int .i64 0))⟩,
    ⟨none, .mv 4 (.c (.bool false))⟩])
  (.seq (.ops [⟨none, .mv 5 (.c (.int .i64 0))⟩])
  (.seq (.ops [⟨none, .mv 6 (.c (.int .i64 1))⟩])
  (.seq (.seq (.ops [⟨none, .mv 7 (.c (.int .i64 0))⟩])
  (.block 0 (.loop (.seq (.seq (.ops [⟨none, .mv 8 (.t 7)⟩,
    ⟨none, .mv 9 (.t 0)⟩,
    ⟨none, .ln 10 .sl (.t 9)⟩,
    ⟨none, .bi 11 .lss (.t 8) (.t 10)⟩,
    ⟨none, .mv 12 (.t 11)⟩,
    ⟨some (12, true), .mv 13 (.t 7)⟩,
    ⟨some (12, true), .bi 14 .lss (.t 13) (.c (.int .i64 9))⟩,
    ⟨none, .pk 15 (.t 12) (.t 14) (.c (.bool false))⟩])
  (.cond (.t 15) (.skip)
    (.exit 0)))
  (.cut (.block 1 (.seq (.ops [⟨none, .mv 18 (.t 5)⟩,
    ⟨none, .mv 19 (.t 0)⟩,
    ⟨none, .mv 20 (.t 7)⟩,
    ⟨none, .ia 21 (.t 19) (.t 20) 1⟩,
    ⟨none, .ld 22 (.t 21) 1 false⟩,
    ⟨none, .bi 23 .rem (.t 22) (.c (.int .u8 128))⟩,
    ⟨none, .cI 24 .i64 (.t 23)⟩,
    ⟨none, .mv 25 (.t 6)⟩,
    ⟨none, .bi 26 .mul (.t 24) (.t 25)⟩,
    ⟨none, .bi 27 .add (.t 18) (.t 26)⟩,
    ⟨none, .mv 5 (.t 27)⟩])
  (.seq (.seq (.ops [⟨none, .mv 28 (.t 0)⟩,
    ⟨none, .mv 29 (.t 7)⟩,
    ⟨none, .ia 30 (.t 28) (.t 29) 1⟩,
    ⟨none, .ld 31 (.t 30) 1 false⟩,
    ⟨none, .bi 32 .lss (.t 31) (.c (.int .u8 128))⟩])
  (.cond (.t 32) (.seq (.ops [⟨none, .mv 33 (.t 5)⟩,
      ⟨none, .mv 34 (.t 7)⟩,
      ⟨none, .bi 35 .add (.t 34) (.c (.int .i64 1))⟩,
      ⟨none, .mv 36 (.t 0)⟩,
      ⟨none, .mv 37 (.t 7)⟩,
      ⟨none, .ia 38 (.t 36) (.t 37) 1⟩,
      ⟨none, .ld 39 (.t 38) 1 false⟩,
      ⟨none, .bi 40 .neq (.t 39) (.c (.int .u8 0))⟩,
      ⟨none, .mv 41 (.t 40)⟩,
      ⟨some (41, false), .mv 42 (.t 7)⟩,
      ⟨some (41, false), .bi 43 .eql (.t 42) (.c (.int .i64 0))⟩,
      ⟨none, .pk 44 (.t 41) (.c (.bool true)) (.t 43)⟩,
      ⟨none, .mv 2 (.t 33)⟩,
      ⟨none, .mv 3 (.t 35)⟩,
      ⟨none, .mv 4 (.t 44)⟩])
    (.ret))
    (.skip)))
  (.seq (.ops [⟨none, .mv 45 (.t 7)⟩,
    ⟨none, .bi 46 .lss (.t 45) (.c (.int .i64 8))⟩])
  (.cond (.t 46) (.ops [⟨none, .mv 47 (.t 6)⟩,
      ⟨none, .bi 48 .mul (.t 47) (.c (.int .i64 128))⟩,
      ⟨none, .mv 6 (.t 48)⟩])
    (.skip))))))
  (.ops [⟨none, .mv 16 (.t 7)⟩,
    ⟨none, .bi 17 .add (.t 16) (.c (.int .i64 1))⟩,
    ⟨none, .mv 7 (.t 17)⟩]))))))
  (.seq (.ops [⟨none, .mv 2 (.c (.int .i64 0))⟩,
    ⟨none, .mv 3 (.c (.int .i64 0))⟩,
    ⟨none, .mv 4 (.c (.bool false))⟩])
  (.ret)))))
theorem comp69 : compFn Try.prog [] Try.f69 = some ([.t 2, .t 3, .t 4], c69) := by kernel_rfl
/-- topiary/topiaryref03.Fail: 3 parameters, 13 slots. -/
def c70 : C :=
  .seq (.ops [⟨none, .bxL 3 (.t 0)⟩,
    ⟨none, .alL 6 [.sl true .pub 0 [], .int .i64 0, .int .i64 0, .int .i64 0]⟩])
  (.seq (.ops [⟨none, .fa 7 (.t 3) 0⟩,
    ⟨none, .ld 8 (.t 7) 1 false⟩,
    ⟨none, .mv 9 (.t 2)⟩,
    ⟨none, .mv 10 (.t 1)⟩,
    ⟨none, .mv 11 (.t 2)⟩,
    ⟨none, .bld 12 [.sl true .pub 0 [], .int .i64 0, .int .i64 0, .int .i64 0] [(0, 1, (.t 8)), (1, 1, (.t 9)), (2, 1, (.t 10)), (3, 1, (.t 11))]⟩,
    ⟨none, .st (.t 6) (.t 12) 4⟩])
  (.ret))
theorem comp70 : compFn Try.prog [3, 6] Try.f70 = some ([.c 6 4 true], c70) := by kernel_rfl
/-- topiary/seal.four: 1 parameters, 15 slots. -/
def c71 : C :=
  .seq (.ops [⟨none, .mv 2 (.c (.sl true .pub 1 []))⟩])
  (.seq (.ops [⟨none, .mv 3 (.t 0)⟩,
    ⟨none, .cI 4 .u8 (.t 3)⟩,
    ⟨none, .mv 5 (.t 0)⟩,
    ⟨none, .bi 6 .shr (.t 5) (.c (.int .u64 8))⟩,
    ⟨none, .cI 7 .u8 (.t 6)⟩,
    ⟨none, .mv 8 (.t 0)⟩,
    ⟨none, .bi 9 .shr (.t 8) (.c (.int .u64 16))⟩,
    ⟨none, .cI 10 .u8 (.t 9)⟩,
    ⟨none, .mv 11 (.t 0)⟩,
    ⟨none, .bi 12 .shr (.t 11) (.c (.int .u64 24))⟩,
    ⟨none, .cI 13 .u8 (.t 12)⟩,
    ⟨none, .lit 14 1 [(.t 4), (.t 7), (.t 10), (.t 13)]⟩,
    ⟨none, .mv 2 (.t 14)⟩])
  (.ret))
theorem comp71 : compFn Try.prog [] Try.f71 = some ([.t 2], c71) := by kernel_rfl
/-- topiary/seal.Sum: 1 parameters, 40 slots. -/
def c72 : C :=
  .seq (.ops [⟨none, .mv 2 (.c (.int .u32 0))⟩])
  (.seq (.ops [⟨none, .mv 3 (.c (.int .u32 4294967295))⟩])
  (.seq (.seq (.ops [⟨none, .mv 9 (.t 0)⟩,
    ⟨none, .ln 10 .sl (.t 9)⟩,
    ⟨none, .mv 11 (.c (.int .i64 0))⟩])
  (.block 0 (.loop (.seq (.ops [⟨none, .bi 12 .lss (.t 11) (.t 10)⟩])
  (.seq (.cond (.t 12) (.skip)
    (.exit 0))
  (.seq (.block 1 (.seq (.ops [⟨none, .ia 13 (.t 9) (.t 11) 1⟩,
    ⟨none, .ld 14 (.t 13) 1 false⟩,
    ⟨none, .mv 5 (.t 14)⟩])
  (.seq (.ops [⟨none, .mv 15 (.t 5)⟩,
    ⟨none, .ln 16 .sl (.t 15)⟩,
    ⟨none, .mv 17 (.c (.int .i64 0))⟩])
  (.block 2 (.loop (.seq (.ops [⟨none, .bi 18 .lss (.t 17) (.t 16)⟩])
  (.seq (.cond (.t 18) (.skip)
    (.exit 2))
  (.seq (.block 3 (.seq (.ops [⟨none, .ia 19 (.t 15) (.t 17) 1⟩,
    ⟨none, .ld 20 (.t 19) 1 false⟩,
    ⟨none, .mv 7 (.t 20)⟩])
  (.seq (.ops [⟨none, .mv 21 (.t 3)⟩,
    ⟨none, .mv 22 (.t 7)⟩,
    ⟨none, .cI 23 .u32 (.t 22)⟩,
    ⟨none, .bi 24 .xor (.t 21) (.t 23)⟩,
    ⟨none, .mv 3 (.t 24)⟩])
  (.seq (.ops [⟨none, .mv 25 (.c (.int .i64 0))⟩])
  (.block 4 (.loop (.seq (.ops [⟨none, .bi 26 .lss (.t 25) (.c (.int .i64 8))⟩])
  (.seq (.cond (.t 26) (.skip)
    (.exit 4))
  (.cut (.block 5 (.seq (.ops [⟨none, .mv 27 (.t 3)⟩,
    ⟨none, .bi 28 .and (.t 27) (.c (.int .u32 1))⟩,
    ⟨none, .mv 8 (.t 28)⟩])
  (.seq (.ops [⟨none, .mv 29 (.t 3)⟩,
    ⟨none, .bi 30 .shr (.t 29) (.c (.int .u64 1))⟩,
    ⟨none, .mv 3 (.t 30)⟩])
  (.seq (.ops [⟨none, .mv 31 (.t 8)⟩,
    ⟨none, .bi 32 .eql (.t 31) (.c (.int .u32 1))⟩])
  (.cond (.t 32) (.ops [⟨none, .mv 33 (.t 3)⟩,
      ⟨none, .bi 34 .xor (.t 33) (.c (.int .u32 3988292384))⟩,
      ⟨none, .mv 3 (.t 34)⟩])
    (.skip))))))
  (.ops [⟨none, .bi 35 .add (.t 25) (.c (.int .i64 1))⟩,
    ⟨none, .mv 25 (.t 35)⟩]))))))))))
  (.ops [⟨none, .bi 36 .add (.t 17) (.c (.int .i64 1))⟩,
    ⟨none, .mv 17 (.t 36)⟩])))))))))
  (.ops [⟨none, .bi 37 .add (.t 11) (.c (.int .i64 1))⟩,
    ⟨none, .mv 11 (.t 37)⟩])))))))
  (.seq (.ops [⟨none, .mv 38 (.t 3)⟩,
    ⟨none, .un 39 .xor (.t 38)⟩,
    ⟨none, .mv 2 (.t 39)⟩])
  (.ret))))
theorem comp72 : compFn Try.prog [] Try.f72 = some ([.t 2], c72) := by kernel_rfl
/-- topiary/topiaryref04.Four: 1 parameters, 18 slots. -/
def c73 : C :=
  .seq (.ops [⟨none, .mv 2 (.c (.sl true .pub 1 []))⟩])
  (.seq (.ops [⟨none, .mv 3 (.t 0)⟩,
    ⟨none, .bi 4 .rem (.t 3) (.c (.int .u32 256))⟩,
    ⟨none, .cI 5 .u8 (.t 4)⟩,
    ⟨none, .mv 6 (.t 0)⟩,
    ⟨none, .bi 7 .quo (.t 6) (.c (.int .u32 256))⟩,
    ⟨none, .bi 8 .rem (.t 7) (.c (.int .u32 256))⟩,
    ⟨none, .cI 9 .u8 (.t 8)⟩,
    ⟨none, .mv 10 (.t 0)⟩,
    ⟨none, .bi 11 .quo (.t 10) (.c (.int .u32 65536))⟩,
    ⟨none, .bi 12 .rem (.t 11) (.c (.int .u32 256))⟩,
    ⟨none, .cI 13 .u8 (.t 12)⟩,
    ⟨none, .mv 14 (.t 0)⟩,
    ⟨none, .bi 15 .quo (.t 14) (.c (.int .u32 16777216))⟩,
    ⟨none, .cI 16 .u8 (.t 15)⟩,
    ⟨none, .lit 17 1 [(.t 5), (.t 9), (.t 13), (.t 16)]⟩,
    ⟨none, .mv 2 (.t 17)⟩])
  (.ret))
theorem comp73 : compFn Try.prog [] Try.f73 = some ([.t 2], c73) := by kernel_rfl
/-- topiary/topiaryref04.Sum: 1 parameters, 33 slots. -/
def c74 : C :=
  .seq (.ops [⟨none, .mv 2 (.c (.int .u32 0))⟩])
  (.seq (.ops [⟨none, .mv 3 (.c (.int .u32 4294967295))⟩])
  (.seq (.seq (.ops [⟨none, .mv 4 (.c (.int .i64 0))⟩])
  (.block 0 (.loop (.seq (.seq (.ops [⟨none, .mv 6 (.t 4)⟩,
    ⟨none, .mv 7 (.t 0)⟩,
    ⟨none, .ln 8 .sl (.t 7)⟩,
    ⟨none, .bi 9 .lss (.t 6) (.t 8)⟩])
  (.cond (.t 9) (.skip)
    (.exit 0)))
  (.seq (.block 1 (.seq (.ops [⟨none, .mv 12 (.t 3)⟩,
    ⟨none, .mv 13 (.t 0)⟩,
    ⟨none, .mv 14 (.t 4)⟩,
    ⟨none, .ia 15 (.t 13) (.t 14) 1⟩,
    ⟨none, .ld 16 (.t 15) 1 false⟩,
    ⟨none, .cI 17 .u32 (.t 16)⟩,
    ⟨none, .bi 18 .xor (.t 12) (.t 17)⟩,
    ⟨none, .mv 3 (.t 18)⟩])
  (.seq (.ops [⟨none, .mv 5 (.c (.int .i64 0))⟩])
  (.block 2 (.loop (.seq (.seq (.ops [⟨none, .mv 19 (.t 5)⟩,
    ⟨none, .bi 20 .lss (.t 19) (.c (.int .i64 8))⟩])
  (.cond (.t 20) (.skip)
    (.exit 2)))
  (.cut (.block 3 (.seq (.ops [⟨none, .mv 23 (.t 3)⟩,
    ⟨none, .bi 24 .rem (.t 23) (.c (.int .u32 2))⟩,
    ⟨none, .bi 25 .eql (.t 24) (.c (.int .u32 1))⟩])
  (.cond (.t 25) (.ops [⟨none, .mv 26 (.t 3)⟩,
      ⟨none, .bi 27 .quo (.t 26) (.c (.int .u32 2))⟩,
      ⟨none, .bi 28 .xor (.t 27) (.c (.int .u32 3988292384))⟩,
      ⟨none, .mv 3 (.t 28)⟩])
    (.ops [⟨none, .mv 29 (.t 3)⟩,
      ⟨none, .bi 30 .quo (.t 29) (.c (.int .u32 2))⟩,
      ⟨none, .mv 3 (.t 30)⟩]))))
  (.ops [⟨none, .mv 21 (.t 5)⟩,
    ⟨none, .bi 22 .add (.t 21) (.c (.int .i64 1))⟩,
    ⟨none, .mv 5 (.t 22)⟩]))))))))
  (.ops [⟨none, .mv 10 (.t 4)⟩,
    ⟨none, .bi 11 .add (.t 10) (.c (.int .i64 1))⟩,
    ⟨none, .mv 4 (.t 11)⟩]))))))
  (.seq (.ops [⟨none, .mv 31 (.t 3)⟩,
    ⟨none, .bi 32 .xor (.t 31) (.c (.int .u32 4294967295))⟩,
    ⟨none, .mv 2 (.t 32)⟩])
  (.ret))))
theorem comp74 : compFn Try.prog [] Try.f74 = some ([.t 2], c74) := by kernel_rfl
/-- topiary/seal.number: 1 parameters, 25 slots. -/
def c75 : C :=
  .seq (.ops [⟨none, .mv 2 (.c (.int .u32 0))⟩])
  (.seq (.opsD [⟨none, .mv 3 (.t 0)⟩,
    ⟨none, .ia 4 (.t 3) (.c (.int .i64 0)) 1⟩,
    ⟨none, .ld 5 (.t 4) 1 false⟩,
    ⟨none, .cI 6 .u32 (.t 5)⟩,
    ⟨none, .mv 7 (.t 0)⟩,
    ⟨none, .ia 8 (.t 7) (.c (.int .i64 1)) 1⟩,
    ⟨none, .ld 9 (.t 8) 1 false⟩,
    ⟨none, .cI 10 .u32 (.t 9)⟩,
    ⟨none, .bi 11 .shl (.t 10) (.c (.int .u64 8))⟩,
    ⟨none, .bi 12 .or (.t 6) (.t 11)⟩,
    ⟨none, .mv 13 (.t 0)⟩,
    ⟨none, .ia 14 (.t 13) (.c (.int .i64 2)) 1⟩,
    ⟨none, .ld 15 (.t 14) 1 false⟩,
    ⟨none, .cI 16 .u32 (.t 15)⟩,
    ⟨none, .bi 17 .shl (.t 16) (.c (.int .u64 16))⟩,
    ⟨none, .bi 18 .or (.t 12) (.t 17)⟩,
    ⟨none, .mv 19 (.t 0)⟩,
    ⟨none, .ia 20 (.t 19) (.c (.int .i64 3)) 1⟩,
    ⟨none, .ld 21 (.t 20) 1 false⟩,
    ⟨none, .cI 22 .u32 (.t 21)⟩,
    ⟨none, .bi 23 .shl (.t 22) (.c (.int .u64 24))⟩,
    ⟨none, .bi 24 .or (.t 18) (.t 23)⟩,
    ⟨none, .mv 2 (.t 24)⟩])
  (.ret))
theorem comp75 : compFn Try.prog [] Try.f75 = some ([.t 2], c75) := by kernel_rfl
/-- topiary/wire.changes$1: 1 parameters, 26 slots. -/
def c76 : C :=
  .seq (.ops [⟨none, .ld 6 (.t 1) 1 false⟩,
    ⟨none, .mv 7 (.c (.int .i64 0))⟩])
  (.block 0 (.loop (.seq (.ops [⟨none, .bi 8 .lss (.t 7) (.t 6)⟩])
  (.seq (.cond (.t 8) (.skip)
    (.exit 0))
  (.seq (.block 1 (.seq (.ops [⟨none, .ld 10 (.t 2) 1 false⟩,
    ⟨none, .ca (some 11) 39 [(.t 10), (.c (.int .i64 65536))]⟩,
    ⟨none, .cB 12 (.t 11)⟩,
    ⟨none, .ca (some 13) 15 [(.t 12)]⟩,
    ⟨none, .mv 9 (.t 13)⟩,
    ⟨none, .ex 14 (.t 9) 0⟩,
    ⟨none, .ex 15 (.t 9) 1⟩,
    ⟨none, .alL 4 [.int .i64 0, .int .i64 0, .int .i64 0, .sl true .pub 0 [], .int .i64 0, .int .i64 0, .int .i64 0, .int .i64 0, .int .i64 0, .int .i64 0, .int .i64 0, .str [], .str []]⟩,
    ⟨none, .st (.t 4) (.t 14) 13⟩,
    ⟨none, .mv 5 (.t 15)⟩])
  (.seq (.ops [⟨none, .mv 16 (.t 0)⟩,
    ⟨none, .ld 17 (.t 4) 13 true⟩,
    ⟨none, .mv 18 (.t 5)⟩,
    ⟨none, .cv (some 19) (.t 16) [(.t 17), (.t 18)]⟩,
    ⟨none, .un 20 .not (.t 19)⟩,
    ⟨none, .mv 21 (.t 20)⟩,
    ⟨some (21, false), .mv 22 (.t 5)⟩,
    ⟨some (21, false), .bi 23 .neq (.t 22) (.c (.int .i64 0))⟩,
    ⟨none, .pk 24 (.t 21) (.c (.bool true)) (.t 23)⟩])
  (.cond (.t 24) (.ret)
    (.skip)))))
  (.ops [⟨none, .bi 25 .add (.t 7) (.c (.int .i64 1))⟩,
    ⟨none, .mv 7 (.t 25)⟩]))))))
theorem comp76 : compFn Try.prog [4] Try.f76 = some ([], c76) := by kernel_rfl
/-- topiary/topiaryref04.Number: 1 parameters, 25 slots. -/
def c77 : C :=
  .seq (.ops [⟨none, .mv 2 (.c (.int .i64 0))⟩])
  (.seq (.opsD [⟨none, .mv 3 (.t 0)⟩,
    ⟨none, .ia 4 (.t 3) (.c (.int .i64 0)) 1⟩,
    ⟨none, .ld 5 (.t 4) 1 false⟩,
    ⟨none, .cI 6 .i64 (.t 5)⟩,
    ⟨none, .mv 7 (.t 0)⟩,
    ⟨none, .ia 8 (.t 7) (.c (.int .i64 1)) 1⟩,
    ⟨none, .ld 9 (.t 8) 1 false⟩,
    ⟨none, .cI 10 .i64 (.t 9)⟩,
    ⟨none, .bi 11 .mul (.c (.int .i64 256)) (.t 10)⟩,
    ⟨none, .bi 12 .add (.t 6) (.t 11)⟩,
    ⟨none, .mv 13 (.t 0)⟩,
    ⟨none, .ia 14 (.t 13) (.c (.int .i64 2)) 1⟩,
    ⟨none, .ld 15 (.t 14) 1 false⟩,
    ⟨none, .cI 16 .i64 (.t 15)⟩,
    ⟨none, .bi 17 .mul (.c (.int .i64 65536)) (.t 16)⟩,
    ⟨none, .bi 18 .add (.t 12) (.t 17)⟩,
    ⟨none, .mv 19 (.t 0)⟩,
    ⟨none, .ia 20 (.t 19) (.c (.int .i64 3)) 1⟩,
    ⟨none, .ld 21 (.t 20) 1 false⟩,
    ⟨none, .cI 22 .i64 (.t 21)⟩,
    ⟨none, .bi 23 .mul (.c (.int .i64 16777216)) (.t 22)⟩,
    ⟨none, .bi 24 .add (.t 18) (.t 23)⟩,
    ⟨none, .mv 2 (.t 24)⟩])
  (.ret))
theorem comp77 : compFn Try.prog [] Try.f77 = some ([.t 2], c77) := by kernel_rfl
/-- topiary/ident.replica: 1 parameters, 9 slots. -/
def c78 : C :=
  .seq (.ops [⟨none, .mv 2 (.c (.bool false))⟩])
  (.seq (.ops [⟨none, .mv 3 (.t 0)⟩,
    ⟨none, .bi 4 .geq (.t 3) (.c (.int .i64 0))⟩,
    ⟨none, .mv 5 (.t 4)⟩,
    ⟨some (5, true), .mv 6 (.t 0)⟩,
    ⟨some (5, true), .bi 7 .lss (.t 6) (.c (.int .i64 64))⟩,
    ⟨none, .pk 8 (.t 5) (.t 7) (.c (.bool false))⟩,
    ⟨none, .mv 2 (.t 8)⟩])
  (.ret))
theorem comp78 : compFn Try.prog [] Try.f78 = some ([.t 2], c78) := by kernel_rfl
/-- topiary/clock.At: 2 parameters, 17 slots. -/
def c79 : C :=
  .seq (.ops [⟨none, .mv 4 (.c (.int .i64 0))⟩])
  (.seq (.seq (.ops [⟨none, .mv 5 (.t 1)⟩,
    ⟨none, .bi 6 .lss (.t 5) (.c (.int .i64 0))⟩,
    ⟨none, .mv 7 (.t 6)⟩,
    ⟨some (7, false), .mv 8 (.t 1)⟩,
    ⟨some (7, false), .mv 9 (.t 0)⟩,
    ⟨some (7, false), .ln 10 .sl (.t 9)⟩,
    ⟨some (7, false), .bi 11 .geq (.t 8) (.t 10)⟩,
    ⟨none, .pk 12 (.t 7) (.c (.bool true)) (.t 11)⟩])
  (.cond (.t 12) (.seq (.ops [⟨none, .mv 4 (.c (.int .i64 0))⟩])
    (.ret))
    (.skip)))
  (.seq (.ops [⟨none, .mv 13 (.t 0)⟩,
    ⟨none, .mv 14 (.t 1)⟩,
    ⟨none, .ia 15 (.t 13) (.t 14) 1⟩,
    ⟨none, .ld 16 (.t 15) 1 false⟩,
    ⟨none, .mv 4 (.t 16)⟩])
  (.ret)))
theorem comp79 : compFn Try.prog [] Try.f79 = some ([.t 4], c79) := by kernel_rfl
/-- topiary/ident.Less: 2 parameters, 9 slots. -/
def c80 : C :=
  .seq (.ops [⟨none, .bxL 2 (.t 0)⟩,
    ⟨none, .bxL 3 (.t 1)⟩,
    ⟨none, .mv 4 (.c (.bool false))⟩])
  (.seq (.ops [⟨none, .ld 5 (.t 2) 2 true⟩,
    ⟨none, .ld 6 (.t 3) 2 true⟩,
    ⟨none, .ca (some 7) 86 [(.t 5), (.t 6)]⟩,
    ⟨none, .bi 8 .lss (.t 7) (.c (.int .i64 0))⟩,
    ⟨none, .mv 4 (.t 8)⟩])
  (.ret))
theorem comp80 : compFn Try.prog [2, 3] Try.f80 = some ([.t 4], c80) := by kernel_rfl
/-- topiary/ident.Node: 1 parameters, 15 slots. -/
def c81 : C :=
  .seq (.ops [⟨none, .bxL 1 (.t 0)⟩,
    ⟨none, .mv 2 (.c (.bool false))⟩])
  (.seq (.ops [⟨none, .ld 3 (.t 1) 2 true⟩,
    ⟨none, .ca (some 4) 58 [(.t 3)]⟩,
    ⟨none, .mv 5 (.t 4)⟩,
    ⟨some (5, false), .ld 6 (.t 1) 2 true⟩,
    ⟨some (5, false), .bld 7 [.int .i64 0, .int .i64 0] []⟩,
    ⟨some (5, false), .be 8 false [.int .i64, .int .i64] (.t 6) (.t 7)⟩,
    ⟨none, .pk 9 (.t 5) (.c (.bool true)) (.t 8)⟩,
    ⟨none, .mv 10 (.t 9)⟩,
    ⟨some (10, false), .ld 11 (.t 1) 2 true⟩,
    ⟨some (10, false), .bld 12 [.int .i64 0, .int .i64 0] [(1, 1, (.c (.int .i64 1)))]⟩,
    ⟨some (10, false), .be 13 false [.int .i64, .int .i64] (.t 11) (.t 12)⟩,
    ⟨none, .pk 14 (.t 10) (.c (.bool true)) (.t 13)⟩,
    ⟨none, .mv 2 (.t 14)⟩])
  (.ret))
theorem comp81 : compFn Try.prog [1] Try.f81 = some ([.t 2], c81) := by kernel_rfl
/-- topiary/change.Name: 1 parameters, 50 slots. -/
def c82 : C :=
  .seq (.ops [⟨none, .mv 2 (.c (.bool false))⟩])
  (.seq (.seq (.ops [⟨none, .mv 5 (.t 0)⟩,
    ⟨none, .ln 6 .fn (.t 5)⟩,
    ⟨none, .bi 7 .eql (.t 6) (.c (.int .i64 0))⟩,
    ⟨none, .mv 8 (.t 7)⟩,
    ⟨some (8, false), .mv 9 (.t 0)⟩,
    ⟨some (8, false), .ln 10 .fn (.t 9)⟩,
    ⟨some (8, false), .bi 11 .gtr (.t 10) (.c (.int .i64 32))⟩,
    ⟨none, .pk 12 (.t 8) (.c (.bool true)) (.t 11)⟩,
    ⟨none, .mv 13 (.t 12)⟩,
    ⟨some (13, false), .mv 14 (.t 0)⟩,
    ⟨some (13, false), .ix 15 (.t 14) (.c (.int .i64 0))⟩,
    ⟨some (13, false), .bi 16 .lss (.t 15) (.c (.int .u8 97))⟩,
    ⟨none, .pk 17 (.t 13) (.c (.bool true)) (.t 16)⟩,
    ⟨none, .mv 18 (.t 17)⟩,
    ⟨some (18, false), .mv 19 (.t 0)⟩,
    ⟨some (18, false), .ix 20 (.t 19) (.c (.int .i64 0))⟩,
    ⟨some (18, false), .bi 21 .gtr (.t 20) (.c (.int .u8 122))⟩,
    ⟨none, .pk 22 (.t 18) (.c (.bool true)) (.t 21)⟩])
  (.cond (.t 22) (.seq (.ops [⟨none, .mv 2 (.c (.bool false))⟩])
    (.ret))
    (.skip)))
  (.seq (.seq (.ops [⟨none, .mv 23 (.t 0)⟩,
    ⟨none, .ln 24 .fn (.t 23)⟩,
    ⟨none, .mv 25 (.c (.int .i64 0))⟩])
  (.block 0 (.loop (.seq (.ops [⟨none, .bi 26 .lss (.t 25) (.t 24)⟩])
  (.seq (.cond (.t 26) (.skip)
    (.exit 0))
  (.seq (.block 1 (.seq (.ops [⟨none, .mv 27 (.t 25)⟩,
    ⟨none, .mv 3 (.t 27)⟩])
  (.seq (.ops [⟨none, .mv 28 (.t 0)⟩,
    ⟨none, .mv 29 (.t 3)⟩,
    ⟨none, .ix 30 (.t 28) (.t 29)⟩,
    ⟨none, .mv 4 (.t 30)⟩])
  (.seq (.ops [⟨none, .mv 31 (.t 4)⟩,
    ⟨none, .bi 32 .lss (.t 31) (.c (.int .u8 97))⟩,
    ⟨none, .mv 33 (.t 32)⟩,
    ⟨some (33, false), .mv 34 (.t 4)⟩,
    ⟨some (33, false), .bi 35 .gtr (.t 34) (.c (.int .u8 122))⟩,
    ⟨none, .pk 36 (.t 33) (.c (.bool true)) (.t 35)⟩,
    ⟨none, .mv 37 (.t 36)⟩,
    ⟨some (37, true), .mv 38 (.t 4)⟩,
    ⟨some (37, true), .bi 39 .lss (.t 38) (.c (.int .u8 48))⟩,
    ⟨some (37, true), .mv 40 (.t 39)⟩,
    ⟨some (40, false), .mv 41 (.t 4)⟩,
    ⟨some (40, false), .bi 42 .gtr (.t 41) (.c (.int .u8 57))⟩,
    ⟨some (37, true), .pk 43 (.t 40) (.c (.bool true)) (.t 42)⟩,
    ⟨none, .pk 44 (.t 37) (.t 43) (.c (.bool false))⟩,
    ⟨none, .mv 45 (.t 44)⟩,
    ⟨some (45, true), .mv 46 (.t 4)⟩,
    ⟨some (45, true), .bi 47 .neq (.t 46) (.c (.int .u8 45))⟩,
    ⟨none, .pk 48 (.t 45) (.t 47) (.c (.bool false))⟩])
  (.cond (.t 48) (.seq (.ops [⟨none, .mv 2 (.c (.bool false))⟩])
    (.ret))
    (.skip))))))
  (.ops [⟨none, .bi 49 .add (.t 25) (.c (.int .i64 1))⟩,
    ⟨none, .mv 25 (.t 49)⟩])))))))
  (.seq (.ops [⟨none, .mv 2 (.c (.bool true))⟩])
  (.ret))))
theorem comp82 : compFn Try.prog [] Try.f82 = some ([.t 2], c82) := by kernel_rfl
/-- topiary/topiaryref05.ahead: 2 parameters, 12 slots. -/
def c83 : C :=
  .seq (.ops [⟨none, .bxL 2 (.t 0)⟩,
    ⟨none, .bxL 3 (.t 1)⟩,
    ⟨none, .mv 4 (.c (.bool false))⟩])
  (.seq (.ops [⟨none, .ld 5 (.t 2) 2 true⟩,
    ⟨none, .ca (some 6) 63 [(.t 5)]⟩,
    ⟨none, .mv 7 (.t 6)⟩,
    ⟨some (7, true), .ld 8 (.t 2) 2 true⟩,
    ⟨some (7, true), .ld 9 (.t 3) 2 true⟩,
    ⟨some (7, true), .ca (some 10) 85 [(.t 8), (.t 9)]⟩,
    ⟨none, .pk 11 (.t 7) (.t 10) (.c (.bool false))⟩,
    ⟨none, .mv 4 (.t 11)⟩])
  (.ret))
theorem comp83 : compFn Try.prog [2, 3] Try.f83 = some ([.t 4], c83) := by kernel_rfl
/-- topiary/topiaryref01.Node: 1 parameters, 20 slots. -/
def c84 : C :=
  .seq (.ops [⟨none, .bxL 1 (.t 0)⟩,
    ⟨none, .mv 2 (.c (.bool false))⟩])
  (.seq (.ops [⟨none, .ld 3 (.t 1) 2 true⟩,
    ⟨none, .ca (some 4) 63 [(.t 3)]⟩,
    ⟨none, .mv 5 (.t 4)⟩,
    ⟨some (5, false), .fa 6 (.t 1) 0⟩,
    ⟨some (5, false), .ld 7 (.t 6) 1 false⟩,
    ⟨some (5, false), .bi 8 .eql (.t 7) (.c (.int .i64 0))⟩,
    ⟨some (5, false), .mv 9 (.t 8)⟩,
    ⟨some (9, true), .fa 10 (.t 1) 1⟩,
    ⟨some (9, true), .ld 11 (.t 10) 1 false⟩,
    ⟨some (9, true), .bi 12 .eql (.t 11) (.c (.int .i64 0))⟩,
    ⟨some (9, true), .mv 13 (.t 12)⟩,
    ⟨some (13, false), .fa 14 (.t 1) 1⟩,
    ⟨some (13, false), .ld 15 (.t 14) 1 false⟩,
    ⟨some (13, false), .bi 16 .eql (.t 15) (.c (.int .i64 1))⟩,
    ⟨some (9, true), .pk 17 (.t 13) (.c (.bool true)) (.t 16)⟩,
    ⟨some (5, false), .pk 18 (.t 9) (.t 17) (.c (.bool false))⟩,
    ⟨none, .pk 19 (.t 5) (.c (.bool true)) (.t 18)⟩,
    ⟨none, .mv 2 (.t 19)⟩])
  (.ret))
theorem comp84 : compFn Try.prog [1] Try.f84 = some ([.t 2], c84) := by kernel_rfl
/-- topiary/topiaryref01.Less: 2 parameters, 24 slots. -/
def c85 : C :=
  .seq (.ops [⟨none, .bxL 2 (.t 0)⟩,
    ⟨none, .bxL 3 (.t 1)⟩,
    ⟨none, .mv 4 (.c (.bool false))⟩])
  (.seq (.ops [⟨none, .fa 5 (.t 2) 0⟩,
    ⟨none, .ld 6 (.t 5) 1 false⟩,
    ⟨none, .fa 7 (.t 3) 0⟩,
    ⟨none, .ld 8 (.t 7) 1 false⟩,
    ⟨none, .bi 9 .lss (.t 6) (.t 8)⟩,
    ⟨none, .mv 10 (.t 9)⟩,
    ⟨some (10, false), .fa 11 (.t 2) 0⟩,
    ⟨some (10, false), .ld 12 (.t 11) 1 false⟩,
    ⟨some (10, false), .fa 13 (.t 3) 0⟩,
    ⟨some (10, false), .ld 14 (.t 13) 1 false⟩,
    ⟨some (10, false), .bi 15 .eql (.t 12) (.t 14)⟩,
    ⟨some (10, false), .mv 16 (.t 15)⟩,
    ⟨some (16, true), .fa 17 (.t 2) 1⟩,
    ⟨some (16, true), .ld 18 (.t 17) 1 false⟩,
    ⟨some (16, true), .fa 19 (.t 3) 1⟩,
    ⟨some (16, true), .ld 20 (.t 19) 1 false⟩,
    ⟨some (16, true), .bi 21 .lss (.t 18) (.t 20)⟩,
    ⟨some (10, false), .pk 22 (.t 16) (.t 21) (.c (.bool false))⟩,
    ⟨none, .pk 23 (.t 10) (.c (.bool true)) (.t 22)⟩,
    ⟨none, .mv 4 (.t 23)⟩])
  (.ret))
theorem comp85 : compFn Try.prog [2, 3] Try.f85 = some ([.t 4], c85) := by kernel_rfl
/-- topiary/ident.Compare: 2 parameters, 29 slots. -/
def c86 : C :=
  .seq (.ops [⟨none, .bxL 2 (.t 0)⟩,
    ⟨none, .bxL 3 (.t 1)⟩,
    ⟨none, .mv 4 (.c (.int .i64 0))⟩])
  (.seq (.block 0 (.seq (.ops [⟨none, .ld 6 (.t 2) 2 true⟩,
    ⟨none, .ld 7 (.t 3) 2 true⟩,
    ⟨none, .be 8 false [.int .i64, .int .i64] (.t 6) (.t 7)⟩,
    ⟨none, .mv 5 (.t 8)⟩])
  (.cond (.t 5) (.seq (.ops [⟨none, .mv 4 (.c (.int .i64 0))⟩])
    (.ret))
    (.seq (.ops [⟨none, .fa 10 (.t 2) 0⟩,
      ⟨none, .ld 11 (.t 10) 1 false⟩,
      ⟨none, .fa 12 (.t 3) 0⟩,
      ⟨none, .ld 13 (.t 12) 1 false⟩,
      ⟨none, .bi 14 .lss (.t 11) (.t 13)⟩,
      ⟨none, .mv 15 (.t 14)⟩,
      ⟨some (15, false), .fa 16 (.t 2) 0⟩,
      ⟨some (15, false), .ld 17 (.t 16) 1 false⟩,
      ⟨some (15, false), .fa 18 (.t 3) 0⟩,
      ⟨some (15, false), .ld 19 (.t 18) 1 false⟩,
      ⟨some (15, false), .bi 20 .eql (.t 17) (.t 19)⟩,
      ⟨some (15, false), .mv 21 (.t 20)⟩,
      ⟨some (21, true), .fa 22 (.t 2) 1⟩,
      ⟨some (21, true), .ld 23 (.t 22) 1 false⟩,
      ⟨some (21, true), .fa 24 (.t 3) 1⟩,
      ⟨some (21, true), .ld 25 (.t 24) 1 false⟩,
      ⟨some (21, true), .bi 26 .lss (.t 23) (.t 25)⟩,
      ⟨some (15, false), .pk 27 (.t 21) (.t 26) (.c (.bool false))⟩,
      ⟨none, .pk 28 (.t 15) (.c (.bool true)) (.t 27)⟩,
      ⟨none, .mv 9 (.t 28)⟩])
    (.cond (.t 9) (.seq (.ops [⟨none, .mv 4 (.c (.int .i64 (-1)))⟩])
      (.ret))
      (.skip))))))
  (.seq (.ops [⟨none, .mv 4 (.c (.int .i64 1))⟩])
  (.ret)))
theorem comp86 : compFn Try.prog [2, 3] Try.f86 = some ([.t 4], c86) := by kernel_rfl
end Go.VL.wire

namespace Go.VL
open Go

/-- A slice that may be read. -/
def RdS (σ : St) (v : V) (s : Nat) (es : List (List V)) : Prop := ∃ b r s', v = .sl b r s' es ∧ (b = true → es = []) ∧ (b = true ∨ rd σ.live r ∧ s' = s)
def intsV (k : IntKind) (l : List Int) : List (List V) := l.map fun n => [V.int k n]

theorem RdS.ext {σ τ : St} {v : V} {s : Nat} {es : List (List V)} (h : RdS σ v s es) (he : Ext σ τ) : RdS τ v s es := by
  obtain ⟨b, r, s', h1, h2, h3⟩ := h
  exact ⟨b, r, s', h1, h2, h3.imp_right fun x => ⟨rd_ext he x.1, x.2⟩⟩

theorem intsV_get {k : IntKind} {l : List Int} {i : Nat} (h : i < l.length) : (intsV k l)[((i : Nat) : Int).toNat]?.getD [] = [V.int k l[i]] := by
  simp [intsV, h]
theorem bytesV_get {l : List UInt8} {i : Nat} (h : i < l.length) : (bytesV l)[((i : Nat) : Int).toNat]?.getD [] = [V.int .u8 l[i].toNat] := by
  simp [bytesV, h]
theorem intsV_length (k : IntKind) (l : List Int) : (intsV k l).length = l.length := by simp [intsV]

/-- A slice that is owned, and new since a state. -/
def NewS (σ σ' : St) (v : V) (s : Nat) (es : List (List V)) : Prop := ∃ r, v = .sl false (.own r) s es ∧ σ'.live[r]? = some true ∧ σ.live.length ≤ r

theorem NewS.rd {σ σ' : St} {v : V} {s : Nat} {es : List (List V)} (h : NewS σ σ' v s es) : RdS σ' v s es := by
  obtain ⟨r, rfl, h1, _⟩ := h
  exact ⟨false, .own r, s, rfl, by simp, .inr ⟨h1, rfl⟩⟩
theorem NewS.ext {σ σ' τ : St} {v : V} {s : Nat} {es : List (List V)} (h : NewS σ σ' v s es) (he : Ext σ' τ) : NewS σ τ v s es := by
  obtain ⟨r, h0, h1, h2⟩ := h
  exact ⟨r, h0, he.live _ h1, h2⟩

/-- A right that is new has gone, another one has come. -/
theorem ext_kill {σ σ' : St} (h : Ext σ σ') {r : Nat} (hr : σ.live.length ≤ r) {b : Bool} : Ext σ ⟨σ'.objs, σ'.live.set r false ++ [b]⟩ :=
  ⟨h.objs, fun i hi => by
    have h1 := (List.getElem?_eq_some_iff.1 hi).1
    have h2 := h.live i hi
    have h3 := (List.getElem?_eq_some_iff.1 h2).1
    rw [List.getElem?_append_left (by simpa using h3), List.getElem?_set_ne (by omega)]
    exact h2, h.olen, by simp; have := h.llen; omega⟩
theorem ext_push {σ σ' : St} (h : Ext σ σ') {b : Bool} : Ext σ ⟨σ'.objs, σ'.live ++ [b]⟩ := h.trans (ext_live _ _)
/-- What is older than a right is not renamed with it. -/
theorem renS_old {σ : St} {b : Bool} {R : R} {z n r r' s : Nat} {es l : List (List V)} (h : RdS σ (.sl b R z l) n l) (hr : σ.live.length ≤ r) : renS r r' s es (.v (.sl b R z l)) = .v (.sl b R z l) := by
  obtain ⟨_, _, _, e, _, h2⟩ := h
  cases e
  rcases h2 with rfl | h2
  · exact renS_nil _ _ _
  · cases R with
    | pub => exact renS_pub _ _ _
    | view q => exact renS_view _ _ _ _
    | own q =>
      cases b with
      | true => exact renS_nil _ _ _
      | false =>
        have h3 : σ.live[q]? = some true := h2.1
        have := (List.getElem?_eq_some_iff.1 h3).1
        have h4 : Nat.beq q r = false := by
          rw [beq_nat]
          simp
          omega
        simp [renS_own, h4]
theorem live_last (l : List Bool) (b : Bool) : (l ++ [b])[l.length]? = some b := by simp
theorem live_last' (l : List Bool) (r : Nat) (b : Bool) : (l.set r false ++ [b])[l.length]? = some b := by
  rw [List.getElem?_append_right (by simp)]; simp

theorem bytesV_append (a b : List UInt8) : bytesV a ++ bytesV b = bytesV (a ++ b) := by simp [bytesV]
theorem bytesV_length (a : List UInt8) : (bytesV a).length = a.length := by simp [bytesV]
theorem bytes_back (s : List UInt8) : (bytesV s).map byteOfC = s := by
  induction s with
  | nil => rfl
  | cons c r ih => simp only [bytesV, List.map_cons, byteOfC] at ih ⊢; rw [ih]; simp
theorem byte1 (n : Int) (h : 0 ≤ n ∧ n ≤ 255) : [[V.int .u8 n]] = bytesV [UInt8.ofNat n.toNat] := by
  have : ((UInt8.ofNat n.toNat).toNat : Int) = n := by
    rw [UInt8.toNat_ofNat']; omega
  simp only [bytesV, List.map_cons, List.map_nil, this]

theorem and_127 (n : Nat) (h : n < 9223372036854775808) : ibits .and .i64 n 127 = (n % 128 : Nat) := by
  have h1 : (BitVec.ofInt IntKind.i64.bits (n : Int)).toNat = n := by
    rw [BitVec.ofInt_natCast, BitVec.toNat_ofNat, show IntKind.i64.bits = 64 from rfl]; omega
  have h2 : (BitVec.ofInt IntKind.i64.bits 127).toNat = 127 := rfl
  simp only [ibits, BitVec.toNat_and, h1, h2]
  rw [show n &&& 127 = n % 128 from Nat.and_two_pow_sub_one_eq_mod n 7, IntWalk.i64_in _ (by omega)]
theorem or_128 (n : Nat) (h : n < 128) : ibits .or .i64 n 128 = (n + 128 : Nat) := by
  have h1 : (BitVec.ofInt IntKind.i64.bits (n : Int)).toNat = n := by
    rw [BitVec.ofInt_natCast, BitVec.toNat_ofNat, show IntKind.i64.bits = 64 from rfl]; omega
  have h2 : (BitVec.ofInt IntKind.i64.bits 128).toNat = 128 := rfl
  simp only [ibits, BitVec.toNat_or, h1, h2]
  have : n ||| 128 = n + 128 := by
    have := Nat.two_pow_add_eq_or_of_lt (i := 7) (b := n) (by omega) 1
    rw [Nat.or_comm]; simp only [Nat.reducePow, Nat.mul_one] at this; omega
  rw [this, IntWalk.i64_in _ (by omega)]
theorem shr_7 (n : Nat) : (n : Int).fdiv (2 ^ min (Int.toNat 7) 64) = (n / 128 : Nat) := by
  show (n : Int).fdiv (2 ^ 7) = _
  rw [Int.fdiv_eq_ediv_of_nonneg _ (by decide)]; rfl
end Go.VL

namespace Go.VL
open Go

theorem setC_self {σ : St} {i : Nat} {cs : List V} (h : σ.objs[i]? = some (.cells cs)) : σ.setC i cs = σ := by
  obtain ⟨h1, h2⟩ := List.getElem?_eq_some_iff.1 h
  simp only [St.setC]
  rw [← h2, List.set_getElem_self]
theorem RdS.setC {σ : St} {v : V} {s i : Nat} {es : List (List V)} {cs : List V} (h : RdS σ v s es) : RdS (σ.setC i cs) v s es := by
  obtain ⟨b, r, s', h1, h2, h3⟩ := h
  refine ⟨b, r, s', h1, h2, h3.imp_right fun x => ⟨?_, x.2⟩⟩
  have := x.1
  cases r <;> exact this
theorem lit_rd {σ : St} {l : List Bool} {es : List (List V)} {n : Nat} : RdS ⟨σ.objs, σ.live ++ [true]⟩ (.sl false (.own σ.live.length) n es) n es :=
  ⟨false, _, n, rfl, by simp, .inr ⟨live_last _ _, rfl⟩⟩
theorem ext_set {σ σ' : St} (h : Ext σ σ') {i : Nat} (hi : σ.objs.length ≤ i) {cs : List V} : Ext σ (σ'.setC i cs) :=
  ⟨fun j o hj => by
    have h1 := (List.getElem?_eq_some_iff.1 hj).1
    show (σ'.objs.set i _)[j]? = some o
    rw [List.getElem?_set_ne (by omega)]
    exact h.objs _ _ hj, h.live, by
    show σ.objs.length ≤ (σ'.objs.set i _).length
    rw [List.length_set]; exact h.olen, h.llen⟩
theorem tmod_nat (a b : Nat) : ((a : Int).tmod (b : Int)) = ((a % b : Nat) : Int) := by rw [Int.ofNat_tmod]
theorem tdiv_nat (a b : Nat) : ((a : Int).tdiv (b : Int)) = ((a / b : Nat) : Int) := by rw [Int.ofNat_tdiv]
theorem kept_setC {L : List Nat} {σ : St} {i : Nat} {cs : List V} (h : i ∉ L) : Kept (some L) σ (σ.setC i cs) := by
  intro L' hL
  cases hL
  refine ⟨fun j hj o ho => ?_, fun r hr => hr⟩
  show (σ.objs.set i _)[j]? = some o
  rw [List.getElem?_set_ne (fun e => h (by rw [e]; exact hj))]
  exact ho
theorem bytesV_set {g : List UInt8} {i : Nat} {x : Int} (h : 0 ≤ x ∧ x ≤ 255) : (bytesV g).set i [V.int .u8 x] = bytesV (g.set i (UInt8.ofNat x.toNat)) := by
  have : ((UInt8.ofNat x.toNat).toNat : Int) = x := by rw [UInt8.toNat_ofNat']; omega
  simp only [bytesV, List.map_set, this]
theorem rdl {τ : St} {b : Bool} {r : R} {s n : Nat} {es : List (List V)} (h : RdS τ (.sl b r s es) n es) (hne : es ≠ []) : rd τ.live r ∧ s = n := by
  obtain ⟨b', r', s', e, h1, h2⟩ := h
  cases e
  exact h2.resolve_left fun hb => hne (h1 hb)
theorem rd_src {τ : St} {b : Bool} {r : R} {s n : Nat} {es : List (List V)} (h : RdS τ (.sl b r s es) n es) : (b = true ∨ rd τ.live r) ∧ (s = n ∨ es = []) := by
  obtain ⟨b', r', s', e, h1, h2⟩ := h
  cases e
  rcases h2 with h2 | h2
  · exact ⟨.inl h2, .inr (h1 h2)⟩
  · exact ⟨.inr h2.1, .inl h2.2⟩
/-- A value that is a slice. -/
def IsSl (s : V) : Prop := ∃ b r z es, s = .sl b r z es
theorem RdS.isSl {σ : St} {s : V} {n : Nat} {es : List (List V)} (h : RdS σ s n es) : IsSl s := by
  obtain ⟨b, r, z, h, _⟩ := h
  exact ⟨b, r, z, es, h⟩
theorem rd_z {σ : St} {b : Bool} {r : R} {z n : Nat} {es : List (List V)} (h : RdS σ (.sl b r z es) n es) : b = true ∨ z = n := by
  obtain ⟨_, _, _, e, _, h2⟩ := h
  cases e
  exact h2.imp_right (·.2)
theorem rd_toView {l : List Bool} {r : R} (h : rd l r) : rd l r.toView := by cases r <;> exact h
theorem rdS_drop {σ : St} {b : Bool} {r : R} {z : Nat} {p : List UInt8} (h : RdS σ (.sl b r z (bytesV p)) 1 (bytesV p)) (k : Nat) : RdS σ (.sl b r.toView z (bytesV (p.drop k))) 1 (bytesV (p.drop k)) := by
  obtain ⟨_, _, _, e, h1, h2⟩ := h
  cases e
  refine ⟨_, _, _, rfl, fun hb => ?_, h2.imp_right fun x => ⟨rd_toView x.1, x.2⟩⟩
  have := h1 hb
  simp only [bytesV, List.map_eq_nil_iff] at this
  subst this
  simp [bytesV]
end Go.VL

namespace Go.VL.wire
open Go Go.Proofs Go.IntWalk

def enc (n : Nat) : List UInt8 := if n < 128 then [UInt8.ofNat n] else UInt8.ofNat (n % 128 + 128) :: enc (n / 128)
  decreasing_by omega
def encs (l : List Int) : List UInt8 := l.flatMap fun n => enc n.toNat
def I64 (n : Int) : Prop := -9223372036854775808 ≤ n ∧ n < 9223372036854775808

theorem enc_le (n : Nat) : (enc n).length ≤ 10 ∨ 2 ^ 70 ≤ n := by
  by_cases h0 : 2 ^ 70 ≤ n
  · exact .inr h0
  left
  have key : ∀ (k n : Nat), n < 128 ^ k → 0 < k → (enc n).length ≤ k := by
    intro k
    induction k with
    | zero => intro n _ h; omega
    | succ k ih =>
      intro n hn _
      rw [enc]
      split
      · simp
      · rename_i h1
        have : n / 128 < 128 ^ k := by rw [Nat.pow_succ] at hn; omega
        have hk : 0 < k := by
          rcases Nat.eq_zero_or_pos k with e | e
          · subst e; simp at this; omega
          · exact e
        have := ih _ this hk
        simp; omega
  exact key 10 n (by have : (128 : Nat) ^ 10 = 2 ^ 70 := by decide
                     omega) (by decide)

theorem enc_len {n : Int} (h : I64 n) : (enc n.toNat).length ≤ 10 := by
  rcases enc_le n.toNat with h1 | h1
  · exact h1
  · have := h.2; omega
theorem encs_len : ∀ {l : List Int}, (∀ n ∈ l, I64 n) → (encs l).length ≤ 10 * l.length
  | [], _ => by simp [encs]
  | n :: l, h => by
    have h1 := enc_len (h n (by simp))
    have h2 := encs_len (l := l) fun m hm => h m (by simp [hm])
    simp only [encs, List.flatMap_cons, List.length_append, List.length_cons] at h2 ⊢
    omega
theorem encs_take {l : List Int} {i : Nat} (h : i < l.length) : encs (l.take i) ++ enc (l[i]).toNat = encs (l.take (i + 1)) := by
  rw [List.take_succ_eq_append_getElem h]
  simp only [encs, List.flatMap_append, List.flatMap_cons, List.flatMap_nil, List.append_nil]

set_option maxRecDepth 100000 in
/-- octet.Put. -/
theorem put_ok {σ : St} {b l : V} {s : List UInt8} {ns : List Int} (hb : RdS σ b 1 (bytesV s)) (hl : RdS σ l 1 (intsV .i64 ns)) (hn : ∀ n ∈ ns, I64 n) (hlen : s.length + 10 * ns.length ≤ 536870912) :
    CallA Try.prog 28 [b, l] σ fun v σ' => Ext σ σ' ∧ σ'.objs = σ.objs ∧ NewS σ σ' v 1 (bytesV (s ++ encs ns)) := by
  obtain ⟨bb, br, bs, rfl, hb1, hb2⟩ := hb
  obtain ⟨lb, lr, ls, rfl, hl1, hl2⟩ := hl
  refine fn_at Try.func28 (by decide) comp28 rfl fun Q q1 q2 => ?_
  simp only [c28, go_sem, Nat.reduceBEq, Nat.reduceAdd]
  have hb3 : (bb = true ∨ rd (σ.live ++ [true]) br) ∧ (bs = 1 ∨ bytesV s = []) := by
    rcases hb2 with h | h
    · exact ⟨.inl h, .inr (hb1 h)⟩
    · exact ⟨.inr (rd_ext (ext_live σ true) h.1), .inl h.2⟩
  refine ⟨⟨.inr trivial, .inr (live_last _ _), hb3, by simp [bytesV_length]; omega⟩, ?_⟩
  refine loop_at (fun (x : Nat × Nat × List UInt8) => ⟨[(5, .v (.sl false (.own x.2.1) 1 (bytesV x.2.2))), (11, .v (.sl lb lr ls (intsV .i64 ns))), (12, .v (.int .i64 ns.length)), (13, .v (.int .i64 x.1))], []⟩)
    (fun x τ => x.1 ≤ ns.length ∧ Ext σ τ ∧ τ.objs = σ.objs ∧ τ.live[x.2.1]? = some true ∧ σ.live.length ≤ x.2.1 ∧ x.2.2 = s ++ encs (ns.take x.1)) (fun x => ns.length - x.1) (0, (σ.live ++ [true]).length, s) ?_ ?_ ?_
  · exact .inr (by simp [go_sem, intsV])
  · refine ⟨Nat.zero_le _, ?_, rfl, by simp [kill], by simp, by simp [encs]⟩
    exact ext_kill (ext_live σ true) (Nat.le_refl _)
  rintro ⟨i, r, acc⟩ τ ⟨h1, h2, h3, h4, h5, h6⟩ Z z1 z2 z3
  simp only at h1 h4 h5 h6
  simp -implicitDefEqProofs only [go_sem, Nat.reduceBEq, Nat.reduceAdd]
  refine CondW_b (fun hc => ?_) (fun hc => ?_)
  · have hi : i < ns.length := by simpa using hc
    simp -implicitDefEqProofs only [go_sem, Nat.reduceBEq, Nat.reduceAdd]
    have hrd : rd τ.live lr ∧ ls = 1 := by
      rcases hl2 with h | h
      · have := hl1 h
        simp [intsV] at this
        simp [this] at hi
      · exact ⟨rd_ext h2 h.1, h.2⟩
    have hni := hn _ (List.getElem_mem hi)
    generalize hN : ns[i] = m at hni
    simp -implicitDefEqProofs only [go_sem, Nat.reduceBEq, Nat.reduceAdd, intsV_get hi, hN]
    refine ⟨⟨by omega, by simpa [intsV] using hi, hrd.2⟩, hrd.1, ?_⟩
    have hmx : (if 0 > m then 0 else m) = ((m.toNat : Nat) : Int) := by split <;> omega
    simp only [hmx]
    refine loop_at (fun (x : Nat × Nat × List UInt8) => ⟨[(5, .v (.sl false (.own x.2.1) 1 (bytesV x.2.2))), (7, .v (.int .i64 x.1)), (11, .v (.sl lb lr ls (intsV .i64 ns))), (12, .v (.int .i64 ns.length)), (13, .v (.int .i64 i))], []⟩)
      (fun x τ => x.1 ≤ m.toNat ∧ Ext σ τ ∧ τ.objs = σ.objs ∧ τ.live[x.2.1]? = some true ∧ σ.live.length ≤ x.2.1 ∧ x.2.2 ++ enc x.1 = acc ++ enc m.toNat) (fun x => x.1) (m.toNat, r, acc) ?_ ?_ ?_
    · exact .inr (by simp [go_sem])
    · exact ⟨Nat.le_refl _, h2, h3, h4, h5, rfl⟩
    rintro ⟨n, r', acc'⟩ τ' ⟨g1, g2, g3, g4, g5, g6⟩ Z' z1' z2' z3'
    simp only at g1 g4 g5 g6
    have hacc : acc.length ≤ s.length + 10 * i := by
      have := encs_len (l := ns.take i) fun n hn' => hn n (List.mem_of_mem_take hn')
      rw [h6]
      simp at this ⊢
      omega
    have hacc' : acc'.length ≤ acc.length + 10 := by
      have h1 := congrArg List.length g6
      have h2 := enc_len hni
      simp at h1
      omega
    simp -implicitDefEqProofs only [go_sem, Nat.reduceBEq, Nat.reduceAdd]
    refine CondW_b (fun hc' => ?_) (fun hc' => ?_)
    · have hn' : 128 ≤ n := by have := of_decide_eq_true hc'; omega
      simp -implicitDefEqProofs only [go_sem, Nat.reduceBEq, Nat.reduceAdd, and_127 n (by have := hni.2; omega), or_128 (n % 128) (Nat.mod_lt _ (by decide)), u8_in ((n % 128 + 128 : Nat) : Int) (by omega), shr_7]
      have hb1 : [[V.int .u8 ((n % 128 + 128 : Nat) : Int)]] = bytesV [UInt8.ofNat (n % 128 + 128)] := byte1 _ (by omega)
      refine ⟨⟨.inr trivial, .inr ((ext_live _ _).live _ g4), ⟨.inr (live_last _ _), .inl trivial⟩, by simp only [bytesV_length]; omega⟩, by decide, ?_⟩
      refine z1' (n / 128, (τ'.live ++ [true]).length, acc' ++ [UInt8.ofNat (n % 128 + 128)]) _ _ (.inr ?_) ?_ ?_
      · simp -implicitDefEqProofs only [go_sem, Nat.reduceBEq, Nat.reduceAdd, hb1, bytesV_append, shr_7, and_true]
      · simp only; omega
      · refine ⟨by simp only; omega, ext_kill (ext_push g2) g5, g3, live_last' _ _ _, by have := g2.llen; simp; omega, ?_⟩
        rw [enc, if_neg (by omega)] at g6
        simpa using g6
    · have hn' : ¬ (128 ≤ n) := by have := of_decide_eq_false hc'; omega
      simp -implicitDefEqProofs only [go_sem, Nat.reduceBEq, Nat.reduceAdd]
      refine z2' _ _ _ ?_
      simp -implicitDefEqProofs only [go_sem, Nat.reduceBEq, Nat.reduceAdd, u8_in (n : Int) (by omega)]
      have hb1 : [[V.int .u8 (n : Int)]] = bytesV [UInt8.ofNat n] := byte1 _ (by omega)
      refine ⟨⟨.inr trivial, .inr ((ext_live _ _).live _ g4), ⟨.inr (live_last _ _), .inl trivial⟩, by simp only [bytesV_length]; omega⟩, ?_⟩
      refine z1 (i + 1, (τ'.live ++ [true]).length, acc' ++ [UInt8.ofNat n]) _ _ (.inr ?_) ?_ ?_
      · simp -implicitDefEqProofs only [go_sem, Nat.reduceBEq, Nat.reduceAdd, hb1, bytesV_append, and_true]
        rw [i64_in _ (by omega)]; simp
      · simp only; omega
      · refine ⟨by simp only; omega, ext_kill (ext_push g2) g5, g3, live_last' _ _ _, by have := g2.llen; simp; omega, ?_⟩
        rw [enc, if_pos (by omega)] at g6
        simp only [g6, h6, List.append_assoc, ← hN, encs_take hi]
  · have hi : ¬ (i < ns.length) := by simpa using hc
    simp -implicitDefEqProofs only [go_sem, Nat.reduceBEq, Nat.reduceAdd]
    refine z2 _ _ _ ?_
    simp -implicitDefEqProofs only [go_sem, Nat.reduceBEq, Nat.reduceAdd]
    refine q2 _ _ ?_
    simp -implicitDefEqProofs only [go_sem, Nat.reduceBEq, Nat.reduceAdd]
    refine ⟨h2, h3, r, ?_, h4, h5⟩
    rw [h6, List.take_of_length_le (by omega)]
end Go.VL.wire

namespace Go.VL.wire
open Go Go.Proofs Go.IntWalk

theorem shr_64 (m : Int) (h : 0 ≤ m) : m.fdiv (2 ^ min (Int.toNat 7) 64) = m / 128 := by
  show m.fdiv (2 ^ 7) = _
  rw [Int.fdiv_eq_ediv_of_nonneg _ (by decide)]; rfl

/-- A reader. -/
def Rdr (σ : St) (i : Nat) (bs : List UInt8) (at_ e bad : Int) : Prop := ∃ s, σ.objs[i]? = some (.cells [s, .int .i64 at_, .int .i64 e, .int .i64 bad]) ∧ RdS σ s 1 (bytesV bs)

set_option maxRecDepth 100000 in
/-- octet.New. -/
theorem new_ok {σ : St} {b : V} {s : List UInt8} (hb : RdS σ b 1 (bytesV s)) (hlen : s.length ≤ 536870912) :
    CallA Try.prog 35 [b] σ fun v σ' => Ext σ σ' ∧ v = .ptr (some (σ.objs.length, 0)) ∧ Rdr σ' σ.objs.length s 0 0 0 ∧ ∃ l, σ' = ⟨σ.objs ++ [l], σ'.live⟩ := by
  obtain ⟨bb, br, bs, rfl, hb1, hb2⟩ := hb
  refine fn_at Try.func35 (by decide) comp35 rfl fun Q q1 q2 => ?_
  have hb3 : (bb = true ∨ rd (σ.live ++ [true]) br) ∧ (bs = 1 ∨ bytesV s = []) := by
    rcases hb2 with h | h
    · exact ⟨.inl h, .inr (hb1 h)⟩
    · exact ⟨.inr (rd_ext (ext_live σ true) h.1), .inl h.2⟩
  simp -implicitDefEqProofs only [c35, go_sem, Nat.reduceBEq, Nat.reduceAdd, Nat.reduceLeDiff]
  refine ⟨⟨.inr trivial, .inr (live_last _ _), hb3, by simp only [bytesV_length]; omega⟩, ?_⟩
  refine q2 _ _ ?_
  simp -implicitDefEqProofs only [go_sem, Nat.reduceBEq, Nat.reduceAdd]
  have he : Ext σ ⟨σ.objs, kill (σ.live ++ [true]) (R.own σ.live.length) ++ [!false]⟩ := ext_kill (ext_live σ true) (Nat.le_refl _)
  refine ⟨he.trans (ext_obj _ _), trivial, ⟨.sl false (.own (σ.live ++ [true]).length) 1 (bytesV s), by simp, false, .own (σ.live ++ [true]).length, 1, rfl, by simp, .inr ⟨live_last' _ _ _, rfl⟩⟩, _, rfl⟩

set_option maxRecDepth 100000 in
/-- fail. -/
theorem fail_ok {σ : St} {i : Nat} {s : V} {at_ e bad e' at' : Int} (h : σ.objs[i]? = some (.cells [s, .int .i64 at_, .int .i64 e, .int .i64 bad])) :
    CallA Try.prog 68 [.ptr (some (i, 0)), .int .i64 e', .int .i64 at'] σ fun v σ' => σ' = ⟨σ.objs.set i (.cells [s, .int .i64 at', .int .i64 e', .int .i64 at']), σ.live⟩ := by
  refine fn_at Try.func68 (by decide) comp68 rfl fun Q q1 q2 => ?_
  have hlt : i < σ.objs.length := (List.getElem?_eq_some_iff.1 h).1
  simp -implicitDefEqProofs only [c68, go_sem, Nat.reduceBEq, Nat.reduceAdd, h, setC_get hlt]
  refine ⟨⟨⟨trivial, trivial⟩, by decide⟩, ⟨⟨trivial, trivial⟩, by decide⟩, ⟨⟨trivial, trivial⟩, by decide⟩, q1 _ _ ?_⟩
  simp -implicitDefEqProofs only [go_sem, Nat.reduceBEq, Nat.reduceAdd]
  rfl
end Go.VL.wire

namespace Go.VL.wire
open Go Go.Proofs Go.IntWalk

/-- The number at the beginning of bytes: it, its bytes, is it of the one form. -/
def dec : Nat → Nat → List UInt8 → Option (Nat × Nat × Bool)
  | _, _, [] => none
  | k, a, c :: r => if k = 9 then none else if c.toNat < 128 then some (a + c.toNat % 128 * 128 ^ k, k + 1, decide (c.toNat ≠ 0) || decide (k = 0)) else dec (k + 1) (a + c.toNat % 128 * 128 ^ k) r

theorem and_127b (c : Nat) (h : c < 256) : ibits .and .u8 c 127 = (c % 128 : Nat) := by
  have h1 : (BitVec.ofInt IntKind.u8.bits (c : Int)).toNat = c := by
    rw [BitVec.ofInt_natCast, BitVec.toNat_ofNat, show IntKind.u8.bits = 8 from rfl]; omega
  have h2 : (BitVec.ofInt IntKind.u8.bits 127).toNat = 127 := rfl
  simp only [ibits, BitVec.toNat_and, h1, h2]
  rw [show c &&& 127 = c % 128 from Nat.and_two_pow_sub_one_eq_mod c 7, u8_in _ (by omega)]
theorem pow_128 (k : Nat) : 128 ^ k = 2 ^ (7 * k) := by rw [Nat.pow_mul]
theorem pow_le {k : Nat} (h : k ≤ 8) : 128 ^ k ≤ 72057594037927936 := by
  have := Nat.pow_le_pow_right (n := 128) (by decide) h
  exact this
theorem shl_7 {k m : Nat} (hk : k ≤ 8) (hm : m < 128) : IntKind.i64.wrap ((m : Int) * 2 ^ min (Int.toNat ((7 * k : Nat) : Int)) 64) = ((m * 128 ^ k : Nat) : Int) := by
  have h1 : min (Int.toNat ((7 * k : Nat) : Int)) 64 = 7 * k := by omega
  have h2 : (m : Int) * 2 ^ (7 * k) = ((m * 128 ^ k : Nat) : Int) := by rw [pow_128]; simp
  have h3 : m * 128 ^ k ≤ 127 * 72057594037927936 := Nat.mul_le_mul (by omega) (pow_le hk)
  rw [h1, h2, i64_in _ (by omega)]
theorem or_add {k n m : Nat} (hk : k ≤ 8) (hn : n < 128 ^ k) (hm : m < 128) : ibits .or .i64 n ((m * 128 ^ k : Nat) : Int) = ((n + m * 128 ^ k : Nat) : Int) := by
  have h3 : m * 128 ^ k ≤ 127 * 72057594037927936 := Nat.mul_le_mul (by omega) (pow_le hk)
  have h4 := pow_le hk
  have h1 : (BitVec.ofInt IntKind.i64.bits (n : Int)).toNat = n := by
    rw [BitVec.ofInt_natCast, BitVec.toNat_ofNat, show IntKind.i64.bits = 64 from rfl]; omega
  have h2 : (BitVec.ofInt IntKind.i64.bits ((m * 128 ^ k : Nat) : Int)).toNat = m * 128 ^ k := by
    rw [BitVec.ofInt_natCast, BitVec.toNat_ofNat, show IntKind.i64.bits = 64 from rfl]; omega
  simp only [ibits, BitVec.toNat_or, h1, h2]
  have : n ||| m * 128 ^ k = n + m * 128 ^ k := by
    have := Nat.two_pow_add_eq_or_of_lt (i := 7 * k) (b := n) (by rw [← pow_128]; exact hn) m
    rw [← pow_128] at this
    rw [Nat.or_comm, Nat.mul_comm m, ← this, Nat.add_comm]
  rw [this, i64_in _ (by omega)]

/-- What number tells. -/
def numV (at_ : Nat) : Option (Nat × Nat × Bool) → V
  | none => .tup [.int .i64 0, .int .i64 0, .bool false]
  | some x => .tup [.int .i64 x.1, .int .i64 ((at_ + x.2.1 : Nat) : Int), .bool x.2.2]

set_option maxRecDepth 100000 in
/-- number. -/
theorem number_ok {σ : St} {i at_ : Nat} {e bad : Int} {bs : List UInt8} (h : Rdr σ i bs at_ e bad) (ha : at_ ≤ bs.length) (hlen : bs.length ≤ 1073741824) :
    CallA Try.prog 67 [.ptr (some (i, 0))] σ fun v σ' => σ' = σ ∧ v = numV at_ (dec 0 0 (bs.drop at_)) := by
  obtain ⟨s, h, b, r, s', rfl, hb1, hb2⟩ := h
  refine fn_at Try.func67 (by decide) comp67 rfl fun Q q1 q2 => ?_
  simp -implicitDefEqProofs only [c67, go_sem, Nat.reduceBEq, Nat.reduceAdd, h]
  refine loop_at (fun (x : Nat × Nat) => ⟨[(0, .v (.ptr (some (i, 0)))), (5, .v (.int .i64 x.2)), (7, .v (.int .i64 ((at_ + x.1 : Nat) : Int))), (8, .v (.int .i64 x.1))], []⟩)
    (fun x τ => τ = σ ∧ x.1 ≤ 9 ∧ at_ + x.1 ≤ bs.length ∧ x.2 < 128 ^ x.1 ∧ dec 0 0 (bs.drop at_) = dec x.1 x.2 (bs.drop (at_ + x.1))) (fun x => 10 - x.1) (0, 0) ?_ ?_ ?_
  · exact .inr (by simp [go_sem])
  · exact ⟨rfl, by simp, ha, by simp, rfl⟩
  rintro ⟨k, n⟩ τ ⟨rfl, h1, h2, h3, h4⟩ Z z1 z2 z3
  simp only at h1 h2 h3 h4
  have hl : (bytesV bs).length = bs.length := bytesV_length _
  by_cases hne : at_ + k = bs.length
  · have hd : decide (((at_ + k : Nat) : Int) = (bs.length : Int)) = true := by rw [hne]; simp
    simp -implicitDefEqProofs only [go_sem, Nat.reduceBEq, Nat.reduceAdd, h, hl, hd]
    refine z3 _ _ ?_
    simp -implicitDefEqProofs only [go_sem, Nat.reduceBEq, Nat.reduceAdd]
    refine q2 _ _ ?_
    simp -implicitDefEqProofs only [go_sem, Nat.reduceBEq, Nat.reduceAdd]
    refine ⟨trivial, ?_⟩
    rw [h4, hne, List.drop_length]
    rfl
  have hlt : at_ + k < bs.length := by omega
  have hdrop := List.drop_eq_getElem_cons hlt
  have hd : decide (((at_ + k : Nat) : Int) = (bs.length : Int)) = false := by simp; omega
  by_cases hk : k = 9
  · have hd2 : decide ((k : Int) = 9) = true := by rw [hk]; rfl
    simp -implicitDefEqProofs only [go_sem, Nat.reduceBEq, Nat.reduceAdd, h, hl, hd, hd2]
    refine z3 _ _ ?_
    simp -implicitDefEqProofs only [go_sem, Nat.reduceBEq, Nat.reduceAdd]
    refine q2 _ _ ?_
    simp -implicitDefEqProofs only [go_sem, Nat.reduceBEq, Nat.reduceAdd]
    refine ⟨trivial, ?_⟩
    rw [h4, hdrop]
    simp [dec, hk, numV]
  have hd2 : decide ((k : Int) = 9) = false := by simp; omega
  rw [hdrop] at h4
  have hget := bytesV_get hlt
  generalize bs[at_ + k] = c at h4 hget
  have hcb := c.toNat_lt
  have hm : c.toNat % 128 < 128 := Nat.mod_lt _ (by decide)
  have e1 : IntKind.i64.wrap (ibits .and .u8 (c.toNat : Int) 127) = ((c.toNat % 128 : Nat) : Int) := by rw [and_127b _ (by omega), i64_in _ (by omega)]
  have e2 : IntKind.i64.wrap (7 * (k : Int)) = ((7 * k : Nat) : Int) := by rw [i64_in _ (by omega)]; simp
  have e3 := shl_7 (k := k) (by omega) hm
  have e4 := or_add (k := k) (by omega) h3 hm
  have e5 : IntKind.i64.wrap (((at_ + k : Nat) : Int) + 1) = ((at_ + (k + 1) : Nat) : Int) := by rw [i64_in _ (by omega)]; omega
  have hrd : rd τ.live r ∧ s' = 1 := by
    rcases hb2 with x | x
    · have := congrArg List.length (hb1 x)
      rw [hl] at this
      simp at this
      rw [this] at hlt
      simp at hlt
    · exact x
  simp only [dec, if_neg hk] at h4
  have hpow : n + c.toNat % 128 * 128 ^ k < 128 ^ (k + 1) := by
    have : c.toNat % 128 * 128 ^ k ≤ 127 * 128 ^ k := Nat.mul_le_mul_right _ (by omega)
    rw [Nat.pow_succ]; omega
  by_cases hc : c.toNat < 128
  · have hd3 : decide ((c.toNat : Int) < 128) = true := by simp; omega
    rw [if_pos hc] at h4
    simp -implicitDefEqProofs only [go_sem, Nat.reduceBEq, Nat.reduceAdd, h, hl, hd, hd2, hget, e1, e2, e3, e4, e5, hd3]
    refine ⟨⟨by omega, by omega, hrd.2⟩, hrd.1, by omega, z2 _ _ _ ?_⟩
    by_cases hz : c.toNat = 0
    · have hd4 : (!decide ((c.toNat : Int) = 0)) = false := by simp; omega
      simp -implicitDefEqProofs only [go_sem, Nat.reduceBEq, Nat.reduceAdd, h, hd4]
      refine q2 _ _ ?_
      have hd5 : decide (((at_ + (k + 1) : Nat) : Int) = IntKind.i64.wrap ((at_ : Int) + 1)) = decide (k = 0) := by
        rw [i64_in _ (by omega)]
        by_cases hk0 : k = 0
        · simp [hk0]
        · simp [hk0]; omega
      simp -implicitDefEqProofs only [go_sem, Nat.reduceBEq, Nat.reduceAdd, hd5]
      refine ⟨trivial, ?_⟩
      rw [h4]
      simp [numV, hz]
    · have hd4 : (!decide ((c.toNat : Int) = 0)) = true := by simp; omega
      simp -implicitDefEqProofs only [go_sem, Nat.reduceBEq, Nat.reduceAdd, h, hd4]
      refine q2 _ _ ?_
      simp -implicitDefEqProofs only [go_sem, Nat.reduceBEq, Nat.reduceAdd]
      refine ⟨trivial, ?_⟩
      rw [h4]
      simp [numV, hz]
  · have hd3 : decide ((c.toNat : Int) < 128) = false := by simp; omega
    rw [if_neg hc] at h4
    have e6 : IntKind.i64.wrap ((k : Int) + 1) = ((k + 1 : Nat) : Int) := by rw [i64_in _ (by omega)]; rfl
    simp -implicitDefEqProofs only [go_sem, Nat.reduceBEq, Nat.reduceAdd, h, hl, hd, hd2, hget, e1, e2, e3, e4, e5, e6, hd3]
    refine ⟨⟨by omega, by omega, hrd.2⟩, hrd.1, by omega, z1 (k + 1, n + c.toNat % 128 * 128 ^ k) _ _ (.inr ?_) ?_ ?_⟩
    · simp -implicitDefEqProofs only [go_sem, Nat.reduceBEq, Nat.reduceAdd, and_true]
    · simp only; omega
    · exact ⟨rfl, by simp only; omega, by simp only; omega, hpow, h4⟩
end Go.VL.wire

namespace Go.VL.wire
open Go Go.Proofs Go.IntWalk
attribute [go_sem] Option.isNone_some Option.isNone_none Bool.not_true Bool.not_false

def cellsR (s : V) (at_ : Nat) (e bad : Int) : List V := [s, .int .i64 at_, .int .i64 e, .int .i64 bad]
/-- A number, the place, the error, its place. -/
def numR (bs : List UInt8) (at_ : Nat) (e bad : Int) : Nat × Nat × Int × Int :=
  if e = 0 then match dec 0 0 (bs.drop at_) with
    | some (n, c, true) => (n, at_ + c, 0, bad)
    | _ => (0, at_, 2, at_)
  else (0, at_, e, bad)

set_option maxRecDepth 100000 in
/-- Num of no reader. -/
theorem num_nil {σ : St} : CallA Try.prog 36 [.ptr none] σ fun v σ' => σ' = σ ∧ v = .int .i64 0 := by
  refine fn_at Try.func36 (by decide) comp36 rfl fun Q q1 q2 => ?_
  simp -implicitDefEqProofs only [c36, go_sem, Nat.reduceBEq, Nat.reduceAdd]
  refine q2 _ _ ?_
  simp -implicitDefEqProofs only [go_sem, Nat.reduceBEq, Nat.reduceAdd]
  exact ⟨trivial, trivial⟩

set_option maxRecDepth 100000 in
/-- Num. -/
theorem num_ok {σ : St} {i at_ : Nat} {e bad : Int} {bs : List UInt8} {s : V} (h : σ.objs[i]? = some (.cells (cellsR s at_ e bad))) (hs : RdS σ s 1 (bytesV bs)) (ha : at_ ≤ bs.length) (hlen : bs.length ≤ 1073741824) :
    CallA Try.prog 36 [.ptr (some (i, 0))] σ fun v σ' => v = .int .i64 (numR bs at_ e bad).1 ∧ σ' = σ.setC i (cellsR s (numR bs at_ e bad).2.1 (numR bs at_ e bad).2.2.1 (numR bs at_ e bad).2.2.2) := by
  have hlt : i < σ.objs.length := (List.getElem?_eq_some_iff.1 h).1
  refine fn_at Try.func36 (by decide) comp36 rfl fun Q q1 q2 => ?_
  by_cases he : e = 0
  · have hd : (!decide (e = 0)) = false := by simp [he]
    simp only [cellsR] at h
    simp -implicitDefEqProofs only [c36, go_sem, Nat.reduceBEq, Nat.reduceAdd, h, hd]
    refine call_at (number_ok ⟨s, h, hs⟩ ha hlen) ?_
    rintro v σ' ⟨rfl, rfl⟩
    refine ⟨kept_none, ?_⟩
    have bad_ : ∀ x, (∀ n c, x ≠ some (n, c, true)) → dec 0 0 (bs.drop at_) = x → numR bs at_ e bad = (0, at_, 2, (at_ : Int)) := by
      intro x hx hd
      simp only [numR, if_pos he, hd]
    obtain ⟨n0, m0, ok, hV, hB, hG⟩ : ∃ (n0 m0 : Nat) (ok : Bool), numV at_ (dec 0 0 (bs.drop at_)) = .tup [.int .i64 n0, .int .i64 m0, .bool ok] ∧ (ok = false → numR bs at_ e bad = (0, at_, 2, (at_ : Int))) ∧
        (ok = true → numR bs at_ e bad = (n0, m0, 0, bad)) := by
      cases hdec : dec 0 0 (bs.drop at_) with
      | none => exact ⟨0, 0, false, rfl, fun _ => bad_ none (by simp) hdec, fun h => by cases h⟩
      | some x =>
        obtain ⟨n, c, ok⟩ := x
        refine ⟨n, at_ + c, ok, rfl, fun h => bad_ _ (by simp [h]) hdec, fun h => ?_⟩
        subst h
        simp only [numR, if_pos he, hdec]
    simp -implicitDefEqProofs only [hV, go_sem, Nat.reduceBEq, Nat.reduceAdd, List.getElem?_cons_zero, List.getElem?_cons_succ]
    cases ok with
    | false =>
      simp -implicitDefEqProofs only [go_sem, Nat.reduceBEq, Nat.reduceAdd, h]
      refine call_at (fail_ok h) ?_
      rintro v σ' rfl
      refine ⟨kept_none, ?_⟩
      simp -implicitDefEqProofs only [go_sem, Nat.reduceBEq, Nat.reduceAdd, h]
      refine q2 _ _ ?_
      simp -implicitDefEqProofs only [go_sem, Nat.reduceBEq, Nat.reduceAdd]
      rw [hB rfl]
      exact ⟨rfl, rfl⟩
    | true =>
      simp -implicitDefEqProofs only [go_sem, Nat.reduceBEq, Nat.reduceAdd, h]
      refine ⟨⟨⟨trivial, trivial⟩, by decide⟩, q2 _ _ ?_⟩
      simp -implicitDefEqProofs only [go_sem, Nat.reduceBEq, Nat.reduceAdd]
      rw [hG rfl]
      simp only [he, cellsR, true_and]
  · have hd : (!decide (e = 0)) = true := by simp [he]
    simp only [cellsR] at h
    simp -implicitDefEqProofs only [c36, go_sem, Nat.reduceBEq, Nat.reduceAdd, h, hd]
    refine q2 _ _ ?_
    simp -implicitDefEqProofs only [go_sem, Nat.reduceBEq, Nat.reduceAdd]
    simp only [numR, if_neg he]
    exact ⟨rfl, (setC_self h).symm⟩
end Go.VL.wire

namespace Go.VL.wire
open Go Go.Proofs Go.IntWalk

def doneR (bs : List UInt8) (at_ : Nat) (e : Int) : Int := if e = 0 ∧ at_ < bs.length then 7 else e

set_option maxRecDepth 100000 in
/-- Done. -/
theorem done_ok {σ : St} {i at_ : Nat} {e bad : Int} {bs : List UInt8} {s : V} (h : σ.objs[i]? = some (.cells (cellsR s at_ e bad))) (hs : RdS σ s 1 (bytesV bs)) :
    CallA Try.prog 40 [.ptr (some (i, 0))] σ fun v σ' => σ' = σ ∧ v = .int .i64 (doneR bs at_ e) := by
  obtain ⟨b, r, s', rfl, hb1, hb2⟩ := hs
  simp only [cellsR] at h
  have hl : (bytesV bs).length = bs.length := bytesV_length _
  refine fn_at Try.func40 (by decide) comp40 rfl fun Q q1 q2 => ?_
  by_cases he : e = 0
  · have hd : decide (e = 0) = true := by simp [he]
    by_cases ha : at_ < bs.length
    · have hd2 : decide ((at_ : Int) < (bs.length : Int)) = true := by simp [ha]
      simp -implicitDefEqProofs only [c40, go_sem, Nat.reduceBEq, Nat.reduceAdd, h, hd, hl, hd2]
      refine q2 _ _ ?_
      simp -implicitDefEqProofs only [go_sem, Nat.reduceBEq, Nat.reduceAdd]
      simp [doneR, he, ha]
    · have hd2 : decide ((at_ : Int) < (bs.length : Int)) = false := by simp; omega
      simp -implicitDefEqProofs only [c40, go_sem, Nat.reduceBEq, Nat.reduceAdd, h, hd, hl, hd2]
      refine q2 _ _ ?_
      simp -implicitDefEqProofs only [go_sem, Nat.reduceBEq, Nat.reduceAdd]
      simp [doneR, ha]
  · have hd : decide (e = 0) = false := by simp [he]
    simp -implicitDefEqProofs only [c40, go_sem, Nat.reduceBEq, Nat.reduceAdd, h, hd, hl]
    refine q2 _ _ ?_
    simp -implicitDefEqProofs only [go_sem, Nat.reduceBEq, Nat.reduceAdd]
    simp [doneR, he]

theorem encs_300 : [] ++ encs [300, 5] = [172, 2, 5] := by
  have h1 : enc 300 = [172, 2] := by
    rw [enc, if_neg (by decide), enc, if_pos (by decide)]; rfl
  have h2 : enc 5 = [5] := by rw [enc, if_pos (by decide)]; rfl
  show [] ++ (enc 300 ++ (enc 5 ++ [])) = _
  rw [h1, h2]; rfl

end Go.VL.wire

namespace Go.VL.wire
open Go Go.Proofs Go.IntWalk

set_option maxRecDepth 100000 in
theorem done_nil {σ : St} : CallA Try.prog 40 [.ptr none] σ fun v σ' => σ' = σ ∧ v = .int .i64 0 := by
  refine fn_at Try.func40 (by decide) comp40 rfl fun Q q1 q2 => ?_
  simp -implicitDefEqProofs only [c40, go_sem, Nat.reduceBEq, Nat.reduceAdd]
  refine q2 _ _ ?_
  simp -implicitDefEqProofs only [go_sem, Nat.reduceBEq, Nat.reduceAdd]
  exact ⟨trivial, trivial⟩
set_option maxRecDepth 100000 in
theorem count_nil {σ : St} {m : Int} : CallA Try.prog 54 [.ptr none, .int .i64 m] σ fun v σ' => σ' = σ ∧ v = .int .i64 0 := by
  refine fn_at Try.func54 (by decide) comp54 rfl fun Q q1 q2 => ?_
  simp -implicitDefEqProofs only [c54, go_sem, Nat.reduceBEq, Nat.reduceAdd]
  refine q2 _ _ ?_
  simp -implicitDefEqProofs only [go_sem, Nat.reduceBEq, Nat.reduceAdd]
  exact ⟨trivial, trivial⟩
set_option maxRecDepth 100000 in
theorem text_nil {σ : St} {m : Int} : CallA Try.prog 39 [.ptr none, .int .i64 m] σ fun v σ' => σ' = σ ∧ v = .str [] := by
  refine fn_at Try.func39 (by decide) comp39 rfl fun Q q1 q2 => ?_
  simp -implicitDefEqProofs only [c39, go_sem, Nat.reduceBEq, Nat.reduceAdd]
  refine q2 _ _ ?_
  simp -implicitDefEqProofs only [go_sem, Nat.reduceBEq, Nat.reduceAdd]
  exact ⟨trivial, trivial⟩
end Go.VL.wire

namespace Go.VL.wire
open Go Go.Proofs Go.IntWalk

section
variable {σ : St} {i at_ : Nat} {e bad : Int} {bs : List UInt8} {s : V}
end
end Go.VL.wire

namespace Go.VL.wire
open Go Go.Proofs Go.IntWalk

/-- A count, the place, the error, its place. -/
def cntR (bs : List UInt8) (at_ : Nat) (e bad most : Int) : Nat × Nat × Int × Int :=
  if e = 0 ∧ (numR bs at_ e bad).2.2.1 = 0 ∧ most < (numR bs at_ e bad).1 then (0, at_, 3, at_) else numR bs at_ e bad

section
variable {σ : St} {i at_ : Nat} {e bad most : Int} {bs : List UInt8} {s : V}
set_option maxRecDepth 100000 in
theorem count_ok (h : σ.objs[i]? = some (.cells (cellsR s at_ e bad))) (hs : RdS σ s 1 (bytesV bs)) (ha : at_ ≤ bs.length) (hlen : bs.length ≤ 1073741824) :
    CallA Try.prog 54 [.ptr (some (i, 0)), .int .i64 most] σ fun v σ' => v = .int .i64 (cntR bs at_ e bad most).1 ∧
      σ' = σ.setC i (cellsR s (cntR bs at_ e bad most).2.1 (cntR bs at_ e bad most).2.2.1 (cntR bs at_ e bad most).2.2.2) := by
  have hlt : i < σ.objs.length := (List.getElem?_eq_some_iff.1 h).1
  refine fn_at Try.func54 (by decide) comp54 rfl fun Q q1 q2 => ?_
  have hnum := num_ok h hs ha hlen
  by_cases he : e = 0
  · have hd : (!decide (e = 0)) = false := by simp [he]
    simp only [cellsR] at h
    simp -implicitDefEqProofs only [c54, go_sem, Nat.reduceBEq, Nat.reduceAdd, h, hd]
    refine call_at hnum ?_
    rintro v σ' ⟨rfl, rfl⟩
    refine ⟨kept_none, ?_⟩
    have hc : ∀ x, numR bs at_ e bad = x → cntR bs at_ e bad most = if x.2.2.1 = 0 ∧ most < x.1 then (0, at_, 3, (at_ : Int)) else x := by
      intro x hx
      subst hx
      simp only [cntR, he, true_and]
    generalize hx : numR bs at_ e bad = x at hc
    have hc := hc x rfl
    obtain ⟨n, at', e', bad'⟩ := x
    simp only at hc
    have hg := setC_get (cs := cellsR s at' e' bad') hlt
    simp only [cellsR] at hg
    by_cases h1 : e' = 0
    · have d1 : decide (e' = 0) = true := by simp [h1]
      by_cases h2 : most < (n : Int)
      · have d2 : decide (most < (n : Int)) = true := by simp [h2]
        rw [if_pos ⟨h1, h2⟩] at hc
        simp -implicitDefEqProofs only [cellsR, go_sem, Nat.reduceBEq, Nat.reduceAdd, hg, d1, d2]
        refine call_at (fail_ok hg) ?_
        rintro v σ' rfl
        refine ⟨kept_none, ?_⟩
        simp -implicitDefEqProofs only [go_sem, Nat.reduceBEq, Nat.reduceAdd]
        refine q2 _ _ ?_
        simp -implicitDefEqProofs only [go_sem, Nat.reduceBEq, Nat.reduceAdd]
        rw [hc]
        refine ⟨rfl, ?_⟩
        simp [St.setC, cellsR]
      · have d2 : decide (most < (n : Int)) = false := by simp; omega
        rw [if_neg (fun x => h2 x.2)] at hc
        simp -implicitDefEqProofs only [cellsR, go_sem, Nat.reduceBEq, Nat.reduceAdd, hg, d1, d2]
        refine q2 _ _ ?_
        simp -implicitDefEqProofs only [go_sem, Nat.reduceBEq, Nat.reduceAdd]
        rw [hc]
        exact ⟨rfl, rfl⟩
    · have d1 : decide (e' = 0) = false := by simp [h1]
      rw [if_neg (fun x => h1 x.1)] at hc
      simp -implicitDefEqProofs only [cellsR, go_sem, Nat.reduceBEq, Nat.reduceAdd, hg, d1]
      refine q2 _ _ ?_
      simp -implicitDefEqProofs only [go_sem, Nat.reduceBEq, Nat.reduceAdd]
      rw [hc]
      exact ⟨rfl, rfl⟩
  · have hd : (!decide (e = 0)) = true := by simp [he]
    simp only [cellsR] at h
    simp -implicitDefEqProofs only [c54, go_sem, Nat.reduceBEq, Nat.reduceAdd, h, hd]
    refine q2 _ _ ?_
    simp -implicitDefEqProofs only [go_sem, Nat.reduceBEq, Nat.reduceAdd]
    have : cntR bs at_ e bad most = (0, at_, e, bad) := by simp only [cntR, if_neg (fun x : e = 0 ∧ _ => he x.1), numR, if_neg he]
    rw [this]
    exact ⟨rfl, (setC_self h).symm⟩
end
end Go.VL.wire

namespace Go.VL.wire
open Go Go.Proofs Go.IntWalk

theorem dec_bound : ∀ (l : List UInt8) (k a : Nat) {n c : Nat} {ok : Bool}, k ≤ 9 → a < 128 ^ k → dec k a l = some (n, c, ok) → c ≤ k + l.length ∧ n < 9223372036854775808
  | [], k, a, n, c, ok, _, _, h => by simp [dec] at h
  | x :: r, k, a, n, c, ok, hk, ha, h => by
    simp only [dec] at h
    split at h
    · cases h
    · rename_i hk9
      have hpow : a + x.toNat % 128 * 128 ^ k < 128 ^ (k + 1) := by
        have : x.toNat % 128 * 128 ^ k ≤ 127 * 128 ^ k := Nat.mul_le_mul_right _ (by omega)
        rw [Nat.pow_succ]; omega
      split at h
      · simp only [Option.some.injEq, Prod.mk.injEq] at h
        have h9 : 128 ^ (k + 1) ≤ 128 ^ 9 := Nat.pow_le_pow_right (by decide) (by omega)
        have e9 : (128 : Nat) ^ 9 = 9223372036854775808 := by decide
        simp only [List.length_cons]
        omega
      · have := dec_bound r (k + 1) _ (by omega) hpow h
        simp only [List.length_cons]
        omega

theorem numR_bound (bs : List UInt8) {at_ : Nat} (e bad : Int) (ha : at_ ≤ bs.length) : (numR bs at_ e bad).2.1 ≤ bs.length ∧ (numR bs at_ e bad).1 < 9223372036854775808 := by
  unfold numR
  split
  · split
    · rename_i n c h
      have := dec_bound _ 0 0 (by decide) (by decide) h
      simp only [List.length_drop] at this
      exact ⟨by dsimp only; omega, this.2⟩
    · exact ⟨ha, by dsimp only; omega⟩
  · exact ⟨ha, by dsimp only; omega⟩
theorem cntR_bound (bs : List UInt8) {at_ : Nat} (e bad most : Int) (ha : at_ ≤ bs.length) : (cntR bs at_ e bad most).2.1 ≤ bs.length ∧ (cntR bs at_ e bad most).1 < 9223372036854775808 := by
  unfold cntR
  split
  · exact ⟨ha, by dsimp only; omega⟩
  · exact numR_bound bs e bad ha

/-- A text, the place, the error, its place. -/
def txtR (bs : List UInt8) (at_ : Nat) (e bad most : Int) : List UInt8 × Nat × Int × Int :=
  if e = 0 then
    if (cntR bs at_ e bad most).2.2.1 = 0 then
      if bs.length - (cntR bs at_ e bad most).2.1 < (cntR bs at_ e bad most).1 then ([], at_, 2, at_)
      else ((bs.drop (cntR bs at_ e bad most).2.1).take (cntR bs at_ e bad most).1, (cntR bs at_ e bad most).2.1 + (cntR bs at_ e bad most).1, 0, (cntR bs at_ e bad most).2.2.2)
    else ([], (cntR bs at_ e bad most).2)
  else ([], at_, e, bad)

section
variable {σ : St} {i at_ : Nat} {e bad most : Int} {bs : List UInt8} {s : V}
set_option maxRecDepth 100000 in
theorem text_ok (h : σ.objs[i]? = some (.cells (cellsR s at_ e bad))) (hs : RdS σ s 1 (bytesV bs)) (ha : at_ ≤ bs.length) (hlen : bs.length ≤ 1073741824) :
    CallA Try.prog 39 [.ptr (some (i, 0)), .int .i64 most] σ fun v σ' => v = .str (txtR bs at_ e bad most).1 ∧
      σ' = σ.setC i (cellsR s (txtR bs at_ e bad most).2.1 (txtR bs at_ e bad most).2.2.1 (txtR bs at_ e bad most).2.2.2) := by
  have hlt : i < σ.objs.length := (List.getElem?_eq_some_iff.1 h).1
  refine fn_at Try.func39 (by decide) comp39 rfl fun Q q1 q2 => ?_
  have hcnt := count_ok (most := most) h hs ha hlen
  have hb := cntR_bound bs e bad most ha
  by_cases he : e = 0
  · have hd : (!decide (e = 0)) = false := by simp [he]
    simp only [cellsR] at h
    simp -implicitDefEqProofs only [c39, go_sem, Nat.reduceBEq, Nat.reduceAdd, h, hd]
    refine call_at hcnt ?_
    rintro v σ' ⟨rfl, rfl⟩
    refine ⟨kept_none, ?_⟩
    have ht : ∀ x, cntR bs at_ e bad most = x → txtR bs at_ e bad most = if x.2.2.1 = 0 then (if bs.length - x.2.1 < x.1 then ([], at_, 2, (at_ : Int)) else ((bs.drop x.2.1).take x.1, x.2.1 + x.1, 0, x.2.2.2)) else ([], x.2) := by
      intro x hx
      subst hx
      simp only [txtR, if_pos he]
    generalize hx : cntR bs at_ e bad most = x at hb
    have ht := ht x hx
    obtain ⟨n, at', e', bad'⟩ := x
    simp only at hb ht
    obtain ⟨b, r, s', rfl, hb1, hb2⟩ := hs
    have hg := setC_get (cs := cellsR (.sl b r s' (bytesV bs)) at' e' bad') hlt
    simp only [cellsR] at hg
    by_cases h1 : e' = 0
    · have d1 : (!decide (e' = 0)) = false := by simp [h1]
      have hw : IntKind.i64.wrap (((bytesV bs).length : Int) - (at' : Int)) = ((bs.length - at' : Nat) : Int) := by
        rw [bytesV_length, i64_in _ (by omega)]; omega
      rw [if_pos h1] at ht
      by_cases h2 : bs.length - at' < n
      · have d2 : decide (((bs.length - at' : Nat) : Int) < (n : Int)) = true := by simp; omega
        rw [if_pos h2] at ht
        simp -implicitDefEqProofs only [cellsR, go_sem, Nat.reduceBEq, Nat.reduceAdd, hg, d1, hw, d2]
        refine call_at (fail_ok hg) ?_
        rintro v σ' rfl
        refine ⟨kept_none, ?_⟩
        simp -implicitDefEqProofs only [go_sem, Nat.reduceBEq, Nat.reduceAdd]
        refine q2 _ _ ?_
        simp -implicitDefEqProofs only [go_sem, Nat.reduceBEq, Nat.reduceAdd]
        rw [ht]
        refine ⟨rfl, ?_⟩
        simp [St.setC, cellsR]
      · have d2 : decide (((bs.length - at' : Nat) : Int) < (n : Int)) = false := by simp; omega
        rw [if_neg h2] at ht
        have hw2 : IntKind.i64.wrap ((at' : Int) + (n : Int)) = ((at' + n : Nat) : Int) := by rw [i64_in _ (by omega)]; omega
        have hT : List.drop ((at' : Nat) : Int).toNat (List.take ((at' + n : Nat) : Int).toNat (bytesV bs)) = bytesV ((bs.drop at').take n) := by
          simp only [Int.toNat_natCast, bytesV, ← List.map_take, ← List.map_drop]
          rw [List.drop_take, show at' + n - at' = n from by omega]
        simp -implicitDefEqProofs only [cellsR, go_sem, Nat.reduceBEq, Nat.reduceAdd, hg, d1, hw, d2, hw2, hT, bytes_back]
        have hv : b = true ∨ rd (σ.setC i [V.sl b r s' (bytesV bs), V.int IntKind.i64 ↑at', V.int IntKind.i64 e', V.int IntKind.i64 bad']).live r.toView ∧ s' = 1 := by
          rcases hb2 with x | x
          · exact .inl x
          · refine .inr ⟨?_, x.2⟩
            have := x.1
            cases r <;> exact this
        refine ⟨⟨hb2.imp_right (·.2), by omega, by omega, by omega, by rw [bytesV_length]; omega⟩, ⟨hv, trivial⟩, ⟨⟨trivial, trivial⟩, by decide⟩, q2 _ _ ?_⟩
        simp -implicitDefEqProofs only [go_sem, Nat.reduceBEq, Nat.reduceAdd]
        rw [ht]
        exact ⟨rfl, by simp only [cellsR, h1]⟩
    · have d1 : (!decide (e' = 0)) = true := by simp [h1]
      rw [if_neg h1] at ht
      simp -implicitDefEqProofs only [cellsR, go_sem, Nat.reduceBEq, Nat.reduceAdd, hg, d1]
      refine q2 _ _ ?_
      simp -implicitDefEqProofs only [go_sem, Nat.reduceBEq, Nat.reduceAdd]
      rw [ht]
      exact ⟨rfl, rfl⟩
  · have hd : (!decide (e = 0)) = true := by simp [he]
    simp only [cellsR] at h
    simp -implicitDefEqProofs only [c39, go_sem, Nat.reduceBEq, Nat.reduceAdd, h, hd]
    refine q2 _ _ ?_
    simp -implicitDefEqProofs only [go_sem, Nat.reduceBEq, Nat.reduceAdd]
    have ht : txtR bs at_ e bad most = ([], at_, e, bad) := by simp only [txtR, if_neg he]
    rw [ht]
    exact ⟨rfl, (setC_self h).symm⟩
end
end Go.VL.wire

namespace Go.VL.wire
open Go Go.Proofs Go.IntWalk

def strsV (l : List (List UInt8)) : List (List V) := l.map fun s => [V.str s]
def encTs (l : List (List UInt8)) : List UInt8 := l.flatMap fun s => enc s.length ++ s
def sizes (l : List (List UInt8)) : Nat := (l.map fun s => s.length + 10).sum
theorem strsV_get {l : List (List UInt8)} {i : Nat} (h : i < l.length) : (strsV l)[((i : Nat) : Int).toNat]?.getD [] = [V.str l[i]] := by simp [strsV, h]
theorem encTs_take {l : List (List UInt8)} {i : Nat} (h : i < l.length) : encTs (l.take i) ++ (enc (l[i]).length ++ l[i]) = encTs (l.take (i + 1)) := by
  rw [List.take_succ_eq_append_getElem h]
  simp only [encTs, List.flatMap_append, List.flatMap_cons, List.flatMap_nil, List.append_nil]
theorem encTs_len : ∀ (l : List (List UInt8)), sizes l ≤ 536870912 → (encTs l).length ≤ sizes l
  | [], _ => by simp [encTs, sizes]
  | s :: l, h => by
    simp only [sizes, List.map_cons, List.sum_cons] at h ⊢
    have h2 := encTs_len l (by simp only [sizes]; omega)
    have h1 := enc_len (n := (s.length : Int)) ⟨by omega, by omega⟩
    simp only [Int.toNat_natCast] at h1
    simp only [encTs, List.flatMap_cons, List.length_append, sizes] at h2 ⊢
    omega
theorem len_le_sizes : ∀ (l : List (List UInt8)), l.length ≤ sizes l
  | [] => by simp
  | s :: l => by
    have := len_le_sizes l
    simp only [sizes, List.map_cons, List.sum_cons, List.length_cons] at this ⊢
    omega
theorem sizes_take (l : List (List UInt8)) {i : Nat} (h : i < l.length) : sizes (l.take i) + ((l[i]).length + 10) ≤ sizes l := by
  have e : l = l.take i ++ l[i] :: l.drop (i + 1) := by rw [← List.drop_eq_getElem_cons h, List.take_append_drop]
  have : sizes l = sizes (l.take i) + ((l[i]).length + 10 + sizes (l.drop (i + 1))) := by
    conv => lhs; rw [e]
    simp only [sizes, List.map_append, List.sum_append, List.map_cons, List.sum_cons]
  omega

set_option maxRecDepth 100000 in
/-- octet.PutText. -/
theorem putText_ok {σ : St} {b l : V} {s : List UInt8} {ts : List (List UInt8)} (hb : RdS σ b 1 (bytesV s)) (hl : RdS σ l 1 (strsV ts)) (hlen : s.length + sizes ts ≤ 268435456) :
    CallA Try.prog 29 [b, l] σ fun v σ' => Ext σ σ' ∧ σ'.objs = σ.objs ∧ NewS σ σ' v 1 (bytesV (s ++ encTs ts)) := by
  obtain ⟨bb, br, bs, rfl, hb1, hb2⟩ := hb
  obtain ⟨lb, lr, ls, rfl, hl1, hl2⟩ := hl
  refine fn_at Try.func29 (by decide) comp29 rfl fun Q q1 q2 => ?_
  simp -implicitDefEqProofs only [c29, go_sem, Nat.reduceBEq, Nat.reduceAdd]
  have hb3 : (bb = true ∨ rd (σ.live ++ [true]) br) ∧ (bs = 1 ∨ bytesV s = []) := by
    rcases hb2 with h | h
    · exact ⟨.inl h, .inr (hb1 h)⟩
    · exact ⟨.inr (rd_ext (ext_live σ true) h.1), .inl h.2⟩
  refine ⟨⟨.inr trivial, .inr (live_last _ _), hb3, by simp only [bytesV_length]; omega⟩, ?_⟩
  refine loop_at (fun (x : Nat × Nat × List UInt8) => ⟨[(5, .v (.sl false (.own x.2.1) 1 (bytesV x.2.2))), (11, .v (.sl lb lr ls (strsV ts))), (12, .v (.int .i64 ts.length)), (13, .v (.int .i64 x.1))], []⟩)
    (fun x τ => x.1 ≤ ts.length ∧ Ext σ τ ∧ τ.objs = σ.objs ∧ τ.live[x.2.1]? = some true ∧ σ.live.length ≤ x.2.1 ∧ x.2.2 = s ++ encTs (ts.take x.1)) (fun x => ts.length - x.1) (0, (σ.live ++ [true]).length, s) ?_ ?_ ?_
  · exact .inr (by simp [go_sem, strsV])
  · refine ⟨Nat.zero_le _, ?_, rfl, by simp [kill], by simp, by simp [encTs]⟩
    exact ext_kill (ext_live σ true) (Nat.le_refl _)
  rintro ⟨i, r, acc⟩ τ ⟨h1, h2, h3, h4, h5, h6⟩ Z z1 z2 z3
  simp only at h1 h4 h5 h6
  simp -implicitDefEqProofs only [go_sem, Nat.reduceBEq, Nat.reduceAdd]
  refine CondW_b (fun hc => ?_) (fun hc => ?_)
  · have hi : i < ts.length := by simpa using hc
    have hrd : rd τ.live lr ∧ ls = 1 := by
      rcases hl2 with h | h
      · have := hl1 h
        simp [strsV] at this
        simp [this] at hi
      · exact ⟨rd_ext h2 h.1, h.2⟩
    have hsz := sizes_take ts hi
    have hll := len_le_sizes ts
    have hel := encTs_len (ts.take i) (by omega)
    have hstep := encTs_take hi
    simp -implicitDefEqProofs only [go_sem, Nat.reduceBEq, Nat.reduceAdd, strsV_get hi]
    generalize ts[i] = t at hsz hstep
    have hacc : acc.length ≤ s.length + sizes (ts.take i) := by rw [h6, List.length_append]; omega
    refine ⟨⟨by omega, by simpa [strsV] using hi, hrd.2⟩, hrd.1, ?_⟩
    have hin : RdS ⟨τ.objs, τ.live ++ [true]⟩ (.sl false (.own τ.live.length) 1 [[V.int .i64 (t.length : Int)]]) 1 (intsV .i64 [(t.length : Int)]) := lit_rd (σ := τ) (l := [])
    have hout : RdS ⟨τ.objs, τ.live ++ [true]⟩ (.sl false (.own r) 1 (bytesV acc)) 1 (bytesV acc) := ⟨false, .own r, 1, rfl, by simp, .inr ⟨(ext_live _ _).live _ h4, rfl⟩⟩
    refine call_at (put_ok hout hin (by intro m hm; simp at hm; subst hm; exact ⟨by omega, by omega⟩) (by simp only [List.length_cons, List.length_nil]; omega)) ?_
    rintro v τ1 ⟨he1, ho1, r1, rfl, hr1, hn1⟩
    refine ⟨kept_none, ?_⟩
    have hen : encs [(t.length : Int)] = enc t.length := by simp [encs]
    have h10 := enc_len (n := (t.length : Int)) ⟨by omega, by omega⟩
    simp only [Int.toNat_natCast] at h10
    simp -implicitDefEqProofs only [go_sem, Nat.reduceBEq, Nat.reduceAdd, hen, bytesV_append]
    refine ⟨⟨.inr trivial, .inr hr1, trivial, by simp only [bytesV_length, List.length_append]; omega⟩, ?_⟩
    refine z1 (i + 1, τ1.live.length, acc ++ (enc t.length ++ t)) _ _ (.inr ?_) ?_ ?_
    · simp -implicitDefEqProofs only [go_sem, Nat.reduceBEq, Nat.reduceAdd, and_true, List.append_assoc]
      rw [i64_in _ (by omega)]; simp
    · simp only; omega
    · have hl1 : σ.live.length ≤ r1 := by have := h2.llen; simp at hn1; omega
      have hE : Ext σ τ1 := h2.trans ((ext_live _ _).trans he1)
      refine ⟨by simp only; omega, ext_kill hE hl1, ho1.trans h3, live_last' _ _ _, by have := hE.llen; simp only; omega, ?_⟩
      simp only [h6, List.append_assoc, hstep]
  · have hi : ¬ (i < ts.length) := by simpa using hc
    simp -implicitDefEqProofs only [go_sem, Nat.reduceBEq, Nat.reduceAdd]
    refine z2 _ _ _ ?_
    simp -implicitDefEqProofs only [go_sem, Nat.reduceBEq, Nat.reduceAdd]
    refine q2 _ _ ?_
    simp -implicitDefEqProofs only [go_sem, Nat.reduceBEq, Nat.reduceAdd]
    refine ⟨h2, h3, r, ?_, h4, h5⟩
    rw [h6, List.take_of_length_le (by omega)]
end Go.VL.wire

namespace Go.VL.wire
open Go Go.Proofs Go.IntWalk

theorem enc_lt {n : Nat} (h : n < 128) : enc n = [UInt8.ofNat n] := by rw [enc, if_pos h]
theorem enc_ge {n : Nat} (h : ¬ n < 128) : enc n = UInt8.ofNat (n % 128 + 128) :: enc (n / 128) := by rw [enc, if_neg h]
theorem byte_inj {a b : Nat} (ha : a < 256) (hb : b < 256) (h : UInt8.ofNat a = UInt8.ofNat b) : a = b := by
  have := congrArg UInt8.toNat h
  simp only [UInt8.toNat_ofNat'] at this
  omega
/-- No number's bytes begin another one's. -/
theorem enc_prefix : ∀ (m n : Nat), enc m <+: enc n → m = n := by
  intro m
  induction m using Nat.strongRecOn with
  | _ m ih =>
    intro n h
    by_cases hm : m < 128 <;> by_cases hn : n < 128
    · rw [enc_lt hm, enc_lt hn, List.cons_prefix_cons] at h
      exact byte_inj (by omega) (by omega) h.1
    · rw [enc_lt hm, enc_ge hn, List.cons_prefix_cons] at h
      have := byte_inj (by omega) (by omega) h.1
      omega
    · rw [enc_ge hm, enc_lt hn, List.cons_prefix_cons] at h
      have := byte_inj (by omega) (by omega) h.1
      omega
    · rw [enc_ge hm, enc_ge hn, List.cons_prefix_cons] at h
      have h1 := byte_inj (by omega) (by omega) h.1
      have h2 := ih (m / 128) (by omega) (n / 128) h.2
      omega

theorem max0 (a : Int) : (if 0 > a then 0 else a) = ((a.toNat : Nat) : Int) := by split <;> omega

/-- The frame behind the exchange. -/
def apF (a b : Int) (r1 r2 : Nat) (p q : Nat) : Fr :=
  ⟨[(0, .v (.int .i64 a)), (1, .v (.int .i64 b)), (5, .v (.sl false (.own r1) 1 (bytesV (enc p)))), (6, .v (.sl false (.own r2) 1 (bytesV (enc q))))], []⟩

theorem put1 {σ : St} {n : Int} (hn : I64 n) : CallA Try.prog 28 [.sl true .pub 0 [], .sl false (.own σ.live.length) 1 [[.int .i64 n]]] ⟨σ.objs, σ.live ++ [true]⟩ fun v σ' => Ext σ σ' ∧ ∃ r, v = .sl false (.own r) 1 (bytesV (enc n.toNat)) ∧ σ'.live[r]? = some true := by
  have hin : RdS ⟨σ.objs, σ.live ++ [true]⟩ (.sl false (.own σ.live.length) 1 [[V.int .i64 n]]) 1 (intsV .i64 [n]) := lit_rd (σ := σ) (l := [])
  have hnil : RdS ⟨σ.objs, σ.live ++ [true]⟩ (.sl true .pub 0 []) 1 (bytesV []) := ⟨true, .pub, 0, rfl, by simp [bytesV], .inl rfl⟩
  refine (put_ok hnil hin (by intro m hm; simp at hm; subst hm; exact hn) (by simp)).mono ?_
  rintro v σ' ⟨h1, _, r, h2, h3, _⟩
  refine ⟨(ext_live _ _).trans h1, r, ?_, h3⟩
  rw [h2]; simp [encs]

end Go.VL.wire

namespace Go.VL.wire
open Go Go.Proofs Go.IntWalk

/-- What dec takes, written out again. -/
theorem dec_enc : ∀ (l : List UInt8) (k a : Nat) {n c : Nat}, dec k a l = some (n, c, true) → ∃ m, n = a + m * 128 ^ k ∧ k < c ∧ enc m = l.take (c - k) ∧ (0 < k → 0 < m)
  | [], k, a, n, c, h => by simp [dec] at h
  | x :: r, k, a, n, c, h => by
    have hx := x.toNat_lt
    simp only [dec] at h
    split at h
    · cases h
    · split at h
      · rename_i h1
        simp only [Option.some.injEq, Prod.mk.injEq] at h
        obtain ⟨rfl, rfl, h3⟩ := h
        refine ⟨x.toNat, by rw [Nat.mod_eq_of_lt h1], by omega, ?_, fun hk => ?_⟩
        · rw [enc_lt h1, show k + 1 - k = 1 from by omega]
          simp
        · simp at h3; omega
      · rename_i h1
        obtain ⟨m, e1, e2, e3, e4⟩ := dec_enc r (k + 1) _ h
        refine ⟨x.toNat % 128 + m * 128, ?_, by omega, ?_, fun _ => ?_⟩
        · rw [e1, Nat.pow_succ, Nat.add_mul, Nat.mul_assoc m, Nat.mul_comm 128, ← Nat.mul_assoc m]
          rw [Nat.mul_assoc m, Nat.add_assoc]
        · have := e4 (by omega)
          rw [enc_ge (by omega), show c - k = (c - (k + 1)) + 1 from by omega, List.take_succ_cons, ← e3]
          have h5 : (x.toNat % 128 + m * 128) % 128 + 128 = x.toNat := by omega
          have h6 : (x.toNat % 128 + m * 128) / 128 = m := by omega
          rw [h5, h6]; simp
        · have := e4 (by omega); omega
end Go.VL.wire

namespace Go.VL.wire
open Go Go.Proofs Go.IntWalk

/-- What was written is taken. -/
theorem dec_of_enc : ∀ (m k a : Nat) (r : List UInt8), k ≤ 8 → m < 128 ^ (9 - k) → (0 < k → 0 < m) → dec k a (enc m ++ r) = some (a + m * 128 ^ k, k + (enc m).length, true) := by
  intro m
  induction m using Nat.strongRecOn with
  | _ m ih =>
    intro k a r hk hm h0
    by_cases h : m < 128
    · have e1 : (UInt8.ofNat m).toNat = m := by rw [UInt8.toNat_ofNat']; omega
      rw [enc_lt h]
      simp only [List.cons_append, List.nil_append, dec, if_neg (show k ≠ 9 from by omega), e1, if_pos h, Nat.mod_eq_of_lt h, List.length_cons, List.length_nil]
      have : (decide (m ≠ 0) || decide (k = 0)) = true := by
        by_cases hk0 : k = 0
        · simp [hk0]
        · have := h0 (by omega)
          have : m ≠ 0 := by omega
          simp [this]
      rw [this]
    · have e1 : (UInt8.ofNat (m % 128 + 128)).toNat = m % 128 + 128 := by rw [UInt8.toNat_ofNat']; omega
      have hk8 : k ≠ 8 := by
        intro e
        subst e
        simp at hm
        omega
      have hm' : m / 128 < 128 ^ (9 - (k + 1)) := by
        rw [show 9 - k = (9 - (k + 1)) + 1 from by omega, Nat.pow_succ] at hm
        omega
      rw [enc_ge h]
      simp only [List.cons_append, dec, if_neg (show k ≠ 9 from by omega), e1, if_neg (show ¬ m % 128 + 128 < 128 from by omega), List.length_cons]
      rw [ih (m / 128) (by omega) (k + 1) _ r (by omega) hm' (fun _ => by omega)]
      have e2 : (m % 128 + 128) % 128 = m % 128 := by omega
      have e3 : a + m % 128 * 128 ^ k + m / 128 * 128 ^ (k + 1) = a + m * 128 ^ k := by
        rw [Nat.pow_succ, Nat.add_assoc, Nat.mul_comm (128 ^ k) 128, ← Nat.mul_assoc, ← Nat.add_mul]
        congr 2
        omega
      rw [e2, e3]
      congr 3
      omega

theorem numR_of_enc {pre suf : List UInt8} {m : Nat} {bad : Int} (hm : m < 9223372036854775808) : numR (pre ++ (enc m ++ suf)) pre.length 0 bad = (m, pre.length + (enc m).length, 0, bad) := by
  simp only [numR, if_true, List.drop_left]
  rw [dec_of_enc m 0 0 suf (by decide) (by simpa using hm) (fun h => by omega)]
  simp
theorem txtR_of_enc {pre suf t : List UInt8} {bad : Int} (hm : t.length < 9223372036854775808) : txtR (pre ++ (enc t.length ++ (t ++ suf))) pre.length 0 bad t.length = (t, pre.length + ((enc t.length).length + t.length), 0, bad) := by
  have hc : cntR (pre ++ (enc t.length ++ (t ++ suf))) pre.length 0 bad t.length = (t.length, pre.length + (enc t.length).length, 0, bad) := by
    simp only [cntR, numR_of_enc hm]
    rw [if_neg (fun h => by have := h.2.2; simp at this)]
  simp only [txtR, if_true, hc]
  rw [if_neg (by simp only [List.length_append]; omega)]
  have : (pre ++ (enc t.length ++ (t ++ suf))).drop (pre.length + (enc t.length).length) = t ++ suf := by
    rw [← List.append_assoc, ← List.length_append, List.drop_left]
  rw [this, List.take_left]
  simp [Nat.add_assoc]

theorem encs_split {ns : List Int} {i : Nat} (h : i < ns.length) (r : List UInt8) : encs ns ++ r = encs (ns.take i) ++ (enc (ns[i]).toNat ++ (encs (ns.drop (i + 1)) ++ r)) := by
  have e : ns = ns.take i ++ ns[i] :: ns.drop (i + 1) := by rw [← List.drop_eq_getElem_cons h, List.take_append_drop]
  have : encs ns = encs (ns.take i) ++ (enc (ns[i]).toNat ++ encs (ns.drop (i + 1))) := by
    conv => lhs; rw [e]
    simp only [encs, List.flatMap_append, List.flatMap_cons]
  rw [this]; simp
theorem encTs_split {ts : List (List UInt8)} {i : Nat} (h : i < ts.length) : encTs ts = encTs (ts.take i) ++ (enc (ts[i]).length ++ (ts[i] ++ encTs (ts.drop (i + 1)))) := by
  have e : ts = ts.take i ++ ts[i] :: ts.drop (i + 1) := by rw [← List.drop_eq_getElem_cons h, List.take_append_drop]
  conv => lhs; rw [e]
  simp only [encTs, List.flatMap_append, List.flatMap_cons, List.append_assoc]

end Go.VL.wire

namespace Go.VL.wire
open Go Go.Proofs Go.IntWalk

set_option maxRecDepth 100000 in
theorem refPut_ok {σ : St} {b : V} {s : List UInt8} {n : Int} (hb : RdS σ b 1 (bytesV s)) (hn : I64 n) (hlen : s.length ≤ 536870912) :
    CallA Try.prog 32 [b, .int .i64 n] σ fun v σ' => Ext σ σ' ∧ σ'.objs = σ.objs ∧ NewS σ σ' v 1 (bytesV (s ++ enc n.toNat)) := by
  obtain ⟨bb, br, bs, rfl, hb1, hb2⟩ := hb
  refine fn_at Try.func32 (by decide) comp32 rfl fun Q q1 q2 => ?_
  simp -implicitDefEqProofs only [go_sem, Nat.reduceBEq, Nat.reduceAdd, c32]
  have hb3 : (bb = true ∨ rd (σ.live ++ [true]) br) ∧ (bs = 1 ∨ bytesV s = []) := by
    rcases hb2 with h | h
    · exact ⟨.inl h, .inr (hb1 h)⟩
    · exact ⟨.inr (rd_ext (ext_live σ true) h.1), .inl h.2⟩
  refine ⟨⟨.inr trivial, .inr (live_last _ _), hb3, by simp only [bytesV_length]; omega⟩, ?_⟩
  refine cut_at (fun G τ => G = ⟨[(1, .v (.int .i64 n.toNat)), (5, .v (.sl false (.own (σ.live ++ [true]).length) 1 (bytesV s)))], []⟩ ∧ τ = ⟨σ.objs, kill (σ.live ++ [true]) (.own σ.live.length) ++ [true]⟩) ?_ ?_
  · intro Z z1 z2 z3
    simp -implicitDefEqProofs only [go_sem, Nat.reduceBEq, Nat.reduceAdd]
    refine CondW_b (fun hc => ?_) (fun hc => ?_)
    · have hc := of_decide_eq_true hc
      simp -implicitDefEqProofs only [go_sem, Nat.reduceBEq, Nat.reduceAdd]
      refine z1 _ _ _ (.inr ?_) ⟨rfl, rfl⟩
      simp -implicitDefEqProofs only [go_sem, Nat.reduceBEq, Nat.reduceAdd, and_true, true_and]
      rw [show n.toNat = 0 from by omega]; rfl
    · have hc := of_decide_eq_false hc
      simp -implicitDefEqProofs only [go_sem, Nat.reduceBEq, Nat.reduceAdd]
      refine z1 _ _ _ (.inr ?_) ⟨rfl, rfl⟩
      simp -implicitDefEqProofs only [go_sem, Nat.reduceBEq, Nat.reduceAdd, and_true, true_and]
      rw [show ((n.toNat : Nat) : Int) = n from by omega]
  · rintro G τ ⟨rfl, rfl⟩
    simp -implicitDefEqProofs only [go_sem, Nat.reduceBEq, Nat.reduceAdd]
    refine loop_at (fun (x : Nat × Nat × List UInt8) => ⟨[(1, .v (.int .i64 x.1)), (5, .v (.sl false (.own x.2.1) 1 (bytesV x.2.2)))], []⟩)
      (fun x τ => x.1 ≤ n.toNat ∧ Ext σ τ ∧ τ.objs = σ.objs ∧ τ.live[x.2.1]? = some true ∧ σ.live.length ≤ x.2.1 ∧ x.2.2 ++ enc x.1 = s ++ enc n.toNat) (fun x => x.1) (n.toNat, (σ.live ++ [true]).length, s) ?_ ?_ ?_
    · exact .inr (by simp [go_sem])
    · exact ⟨Nat.le_refl _, ext_kill (ext_live σ true) (Nat.le_refl _), rfl, by simp [kill], by simp, rfl⟩
    rintro ⟨m, r, acc⟩ τ ⟨g1, g2, g3, g4, g5, g6⟩ Z z1 z2 z3
    simp only at g1 g4 g5 g6
    have hacc : acc.length ≤ s.length + 10 := by
      have h1 := congrArg List.length g6
      have h2 := enc_len hn
      simp at h1
      omega
    have hni := hn.2
    simp -implicitDefEqProofs only [go_sem, Nat.reduceBEq, Nat.reduceAdd]
    refine CondW_b (fun hc => ?_) (fun hc => ?_)
    · have hm : ¬ (m < 128) := by have := of_decide_eq_true hc; omega
      have e1 : IntKind.i64.wrap (128 + ((m % 128 : Nat) : Int)) = ((m % 128 + 128 : Nat) : Int) := by rw [i64_in _ (by omega)]; omega
      have e2 : IntKind.i64.wrap ((m / 128 : Nat) : Int) = ((m / 128 : Nat) : Int) := by rw [i64_in _ (by omega)]
      have t1 : (m : Int).tmod 128 = ((m % 128 : Nat) : Int) := tmod_nat m 128
      have t2 : (m : Int).tdiv 128 = ((m / 128 : Nat) : Int) := tdiv_nat m 128
      simp -implicitDefEqProofs only [go_sem, Nat.reduceBEq, Nat.reduceAdd, t1, t2, e1, e2, u8_in ((m % 128 + 128 : Nat) : Int) (by omega)]
      have hb1 : [[V.int .u8 ((m % 128 + 128 : Nat) : Int)]] = bytesV [UInt8.ofNat (m % 128 + 128)] := byte1 _ (by omega)
      refine ⟨by decide, ⟨.inr trivial, .inr ((ext_live _ _).live _ g4), ⟨.inr (live_last _ _), .inl trivial⟩, by simp only [bytesV_length]; omega⟩, by decide, ?_⟩
      refine z1 (m / 128, (τ.live ++ [true]).length, acc ++ [UInt8.ofNat (m % 128 + 128)]) _ _ (.inr ?_) ?_ ?_
      · simp -implicitDefEqProofs only [go_sem, Nat.reduceBEq, Nat.reduceAdd, hb1, bytesV_append, and_true]
      · simp only; omega
      · refine ⟨by simp only; omega, ext_kill (ext_push g2) g5, g3, live_last' _ _ _, by have := g2.llen; simp; omega, ?_⟩
        rw [enc_ge hm] at g6
        simpa using g6
    · have hm : m < 128 := by have := of_decide_eq_false hc; omega
      simp -implicitDefEqProofs only [go_sem, Nat.reduceBEq, Nat.reduceAdd]
      refine z2 _ _ _ ?_
      simp -implicitDefEqProofs only [go_sem, Nat.reduceBEq, Nat.reduceAdd, u8_in (m : Int) (by omega)]
      have hb1 : [[V.int .u8 (m : Int)]] = bytesV [UInt8.ofNat m] := byte1 _ (by omega)
      refine ⟨⟨.inr trivial, .inr ((ext_live _ _).live _ g4), ⟨.inr (live_last _ _), .inl trivial⟩, by simp only [bytesV_length]; omega⟩, q2 _ _ ?_⟩
      simp -implicitDefEqProofs only [go_sem, Nat.reduceBEq, Nat.reduceAdd, hb1, bytesV_append]
      rw [enc_lt hm] at g6
      exact ⟨ext_kill (ext_push g2) g5, g3, _, by rw [g6], live_last' _ _ _, by have := g2.llen; simp; omega⟩

set_option maxRecDepth 100000 in
theorem refPutText_ok {σ : St} {b : V} {s t : List UInt8} (hb : RdS σ b 1 (bytesV s)) (hlen : s.length + t.length ≤ 268435456) :
    CallA Try.prog 34 [b, .str t] σ fun v σ' => Ext σ σ' ∧ σ'.objs = σ.objs ∧ NewS σ σ' v 1 (bytesV (s ++ (enc t.length ++ t))) := by
  refine fn_at Try.func34 (by decide) comp34 rfl fun Q q1 q2 => ?_
  simp -implicitDefEqProofs only [go_sem, Nat.reduceBEq, Nat.reduceAdd, c34]
  refine call_at (refPut_ok (n := (t.length : Int)) hb ⟨by omega, by omega⟩ (by omega)) ?_
  rintro v σ1 ⟨he1, ho1, r1, rfl, hr1, hn1⟩
  refine ⟨kept_none, ?_⟩
  simp -implicitDefEqProofs only [go_sem, Nat.reduceBEq, Nat.reduceAdd, Int.toNat_natCast]
  have hel := enc_len (n := (t.length : Int)) ⟨by omega, by omega⟩
  simp only [Int.toNat_natCast] at hel
  refine loop_at (fun (x : Nat × Nat) => ⟨[(1, .v (.str t)), (5, .v (.sl false (.own x.2) 1 (bytesV (s ++ (enc t.length ++ t.take x.1))))), (6, .v (.int .i64 x.1))], []⟩)
    (fun x τ => x.1 ≤ t.length ∧ Ext σ τ ∧ τ.objs = σ.objs ∧ τ.live[x.2]? = some true ∧ σ.live.length ≤ x.2) (fun x => t.length - x.1) (0, r1) ?_ ?_ ?_
  · exact .inr (by simp [go_sem])
  · exact ⟨Nat.zero_le _, he1, ho1, hr1, hn1⟩
  rintro ⟨i, r⟩ τ ⟨g1, g2, g3, g4, g5⟩ Z z1 z2 z3
  simp only at g1 g4 g5
  simp -implicitDefEqProofs only [go_sem, Nat.reduceBEq, Nat.reduceAdd]
  refine CondW_b (fun hc => ?_) (fun hc => ?_)
  · have hi : i < t.length := by simpa using hc
    have hget : (t[((i : Nat) : Int).toNat]?.getD 0) = t[i] := by simp [hi]
    simp -implicitDefEqProofs only [go_sem, Nat.reduceBEq, Nat.reduceAdd, hget]
    have hb1 : [[V.int .u8 ((t[i]).toNat : Int)]] = bytesV [t[i]] := rfl
    refine ⟨⟨by omega, by omega⟩, ⟨.inr trivial, .inr ((ext_live _ _).live _ g4), ⟨.inr (live_last _ _), .inl trivial⟩, by simp only [bytesV_length, List.length_append, List.length_take]; omega⟩, ?_⟩
    refine z1 (i + 1, (τ.live ++ [true]).length) _ _ (.inr ?_) ?_ ?_
    · simp -implicitDefEqProofs only [go_sem, Nat.reduceBEq, Nat.reduceAdd, hb1, bytesV_append, and_true, List.append_assoc, List.take_succ_eq_append_getElem hi]
      rw [i64_in _ (by omega)]; simp
    · simp only; omega
    · exact ⟨by simp only; omega, ext_kill (ext_push g2) g5, g3, live_last' _ _ _, by have := g2.llen; simp; omega⟩
  · have hi : ¬ (i < t.length) := by simpa using hc
    simp -implicitDefEqProofs only [go_sem, Nat.reduceBEq, Nat.reduceAdd]
    refine z2 _ _ _ ?_
    simp -implicitDefEqProofs only [go_sem, Nat.reduceBEq, Nat.reduceAdd]
    refine q2 _ _ ?_
    simp -implicitDefEqProofs only [go_sem, Nat.reduceBEq, Nat.reduceAdd]
    refine ⟨g2, g3, r, ?_, g4, g5⟩
    rw [List.take_of_length_le (by omega)]
end Go.VL.wire

namespace Go.VL.wire
open Go Go.Proofs Go.IntWalk

/-- What the answer's Num tells. -/
def rnum (l : List UInt8) : Nat × Nat × Bool := (dec 0 0 l).getD (0, 0, false)

set_option maxRecDepth 100000 in
set_option maxHeartbeats 1600000 in
theorem refNum_ok {σ : St} {b : V} {p : List UInt8} (hb : RdS σ b 1 (bytesV p)) (hlen : p.length ≤ 1073741824) :
    CallA Try.prog 69 [b] σ fun v σ' => σ' = σ ∧ v = .tup [.int .i64 (rnum p).1, .int .i64 (rnum p).2.1, .bool (rnum p).2.2] := by
  obtain ⟨bb, br, bz, rfl, -, -⟩ := id hb
  refine fn_at Try.func69 (by decide) comp69 rfl fun Q q1 q2 => ?_
  simp -implicitDefEqProofs only [go_sem, Nat.reduceBEq, Nat.reduceAdd, c69]
  have hl : (bytesV p).length = p.length := bytesV_length _
  refine loop_at (fun (x : Nat × Nat) => ⟨[(0, .v (.sl bb br bz (bytesV p))), (5, .v (.int .i64 x.2)), (6, .v (.int .i64 ((if x.1 < 9 then 128 ^ x.1 else 128 ^ 8 : Nat) : Int))), (7, .v (.int .i64 x.1))], []⟩)
    (fun x τ => τ = σ ∧ x.1 ≤ 9 ∧ x.1 ≤ p.length ∧ x.2 < 128 ^ x.1 ∧ dec 0 0 p = dec x.1 x.2 (p.drop x.1)) (fun x => 10 - x.1) (0, 0) ?_ ?_ ?_
  · exact .inr (by simp [go_sem])
  · exact ⟨rfl, by simp, Nat.zero_le _, by simp, rfl⟩
  rintro ⟨k, n⟩ τ ⟨rfl, h1, h2, h3, h4⟩ Z z1 z2 z3
  simp only at h1 h2 h3 h4
  by_cases hne : k < p.length
  · have hd1 : decide ((k : Int) < (p.length : Int)) = true := by simp; omega
    by_cases hk9 : k = 9
    · have hd2 : decide ((k : Int) < 9) = false := by simp; omega
      have hdn : dec 0 0 p = none := by
        rw [h4, List.drop_eq_getElem_cons hne, dec, if_pos hk9]
      simp -implicitDefEqProofs only [go_sem, Nat.reduceBEq, Nat.reduceAdd, hl, hd1, hd2]
      refine z2 _ _ _ ?_
      simp -implicitDefEqProofs only [go_sem, Nat.reduceBEq, Nat.reduceAdd]
      refine q2 _ _ ?_
      simp -implicitDefEqProofs only [go_sem, Nat.reduceBEq, Nat.reduceAdd, rnum, hdn, Option.getD_none]
      exact ⟨trivial, rfl⟩
    · have hd2 : decide ((k : Int) < 9) = true := by simp; omega
      obtain ⟨k1, k2⟩ := rdl hb (by cases p <;> simp [bytesV] at hne ⊢)
      have hc := (p[k]).toNat_lt
      rw [List.drop_eq_getElem_cons hne, dec, if_neg hk9] at h4
      have hp := pow_le (k := k) (by omega)
      have hpow : n + (p[k]).toNat % 128 * 128 ^ k < 128 ^ (k + 1) := by
        have : (p[k]).toNat % 128 * 128 ^ k ≤ 127 * 128 ^ k := Nat.mul_le_mul_right _ (by omega)
        rw [Nat.pow_succ]; omega
      have t1 : (((p[k]).toNat : Nat) : Int).tmod 128 = (((p[k]).toNat % 128 : Nat) : Int) := tmod_nat _ 128
      have hmul : (p[k]).toNat % 128 * 128 ^ k ≤ 127 * 72057594037927936 := Nat.mul_le_mul (by omega) hp
      have t2 : IntKind.i64.wrap (((p[k]).toNat % 128 : Nat) : Int) = (((p[k]).toNat % 128 : Nat) : Int) := i64_in _ (by omega)
      have hby : ((if k < 9 then 128 ^ k else 128 ^ 8 : Nat) : Int) = ((128 ^ k : Nat) : Int) := by rw [if_pos (by omega)]
      have t3 : IntKind.i64.wrap ((((p[k]).toNat % 128 : Nat) : Int) * ((128 ^ k : Nat) : Int)) = (((p[k]).toNat % 128 * 128 ^ k : Nat) : Int) := by
        rw [← Int.natCast_mul, i64_in _ (by omega)]
      have h9 : 128 ^ (k + 1) ≤ 128 ^ 9 := Nat.pow_le_pow_right (by decide) (by omega)
      have e9 : (128 : Nat) ^ 9 = 9223372036854775808 := by decide
      have t4 : IntKind.i64.wrap ((n : Int) + (((p[k]).toNat % 128 * 128 ^ k : Nat) : Int)) = ((n + (p[k]).toNat % 128 * 128 ^ k : Nat) : Int) := by
        rw [← Int.natCast_add, i64_in _ (by omega)]
      have t5 : IntKind.i64.wrap ((k : Int) + 1) = ((k + 1 : Nat) : Int) := by rw [i64_in _ (by omega)]; omega
      simp -implicitDefEqProofs only [go_sem, Nat.reduceBEq, Nat.reduceAdd, hl, hd1, hd2, hby, bytesV_get hne]
      refine cut_at (fun G τ' => τ' = τ ∧ ¬ (p[k]).toNat < 128 ∧ G = ⟨[(0, .v (.sl bb br bz (bytesV p))), (5, .v (.int .i64 ((n + (p[k]).toNat % 128 * 128 ^ k : Nat) : Int))), (6, .v (.int .i64 ((if k + 1 < 9 then 128 ^ (k + 1) else 128 ^ 8 : Nat) : Int))), (7, .v (.int .i64 k))], []⟩) ?_ ?_
      · intro Y y1 y2 y3
        simp -implicitDefEqProofs only [go_sem, Nat.reduceBEq, Nat.reduceAdd, bytesV_get hne, hl, t1, t2, t3, t4]
        refine ⟨⟨by omega, by omega, k2⟩, k1, by decide, ⟨by omega, by omega, k2⟩, k1, ?_⟩
        refine CondW_b (fun hcc => ?_) (fun hcc => ?_)
        · have hlt : (p[k]).toNat < 128 := by have := of_decide_eq_true hcc; omega
          rw [if_pos hlt] at h4
          have hr : rnum p = (n + (p[k]).toNat % 128 * 128 ^ k, k + 1, decide ((p[k]).toNat ≠ 0) || decide (k = 0)) := by rw [rnum, h4]; rfl
          by_cases h0 : (p[k]).toNat = 0
          · have d1 : (!decide ((((p[k]).toNat : Nat) : Int) = 0)) = false := by simp [h0]
            have d2 : decide ((k : Int) = 0) = (decide ((p[k]).toNat ≠ 0) || decide (k = 0)) := by simp [h0]
            simp -implicitDefEqProofs only [go_sem, Nat.reduceBEq, Nat.reduceAdd, bytesV_get hne, hl, t5, d1, d2]
            refine ⟨⟨by omega, by omega, k2⟩, k1, y3 _ _ (z3 _ _ ?_)⟩
            simp -implicitDefEqProofs only [go_sem, Nat.reduceBEq, Nat.reduceAdd]
            refine q2 _ _ ?_
            simp -implicitDefEqProofs only [go_sem, Nat.reduceBEq, Nat.reduceAdd, hr]
            exact ⟨trivial, trivial⟩
          · have d1 : (!decide ((((p[k]).toNat : Nat) : Int) = 0)) = true := by simp; omega
            have d2 : (decide ((p[k]).toNat ≠ 0) || decide (k = 0)) = true := by simp [h0]
            simp -implicitDefEqProofs only [go_sem, Nat.reduceBEq, Nat.reduceAdd, bytesV_get hne, hl, t5, d1]
            refine ⟨⟨by omega, by omega, k2⟩, k1, y3 _ _ (z3 _ _ ?_)⟩
            simp -implicitDefEqProofs only [go_sem, Nat.reduceBEq, Nat.reduceAdd]
            refine q2 _ _ ?_
            rw [d2] at hr
            simp -implicitDefEqProofs only [go_sem, Nat.reduceBEq, Nat.reduceAdd, hr]
            exact ⟨trivial, trivial⟩
        · have hlt : ¬ (p[k]).toNat < 128 := by have := of_decide_eq_false hcc; omega
          simp -implicitDefEqProofs only [go_sem, Nat.reduceBEq, Nat.reduceAdd]
          refine CondW_b (fun h8 => ?_) (fun h8 => ?_)
          · have h8 : k < 8 := by have := of_decide_eq_true h8; omega
            have hp7 : 128 ^ k ≤ 128 ^ 7 := Nat.pow_le_pow_right (by decide) (by omega)
            have e7 : (128 : Nat) ^ 7 = 562949953421312 := by decide
            have t6 : IntKind.i64.wrap (((128 ^ k : Nat) : Int) * 128) = ((128 ^ (k + 1) : Nat) : Int) := by
              rw [Nat.pow_succ, i64_in _ (by omega)]; omega
            simp -implicitDefEqProofs only [go_sem, Nat.reduceBEq, Nat.reduceAdd, t6]
            refine y1 _ _ _ (.inr ?_) ⟨rfl, hlt, rfl⟩
            rw [if_pos (by omega)]
            simp -implicitDefEqProofs only [go_sem, Nat.reduceBEq, Nat.reduceAdd, and_true]
          · have h8 : k = 8 := by have := of_decide_eq_false h8; omega
            simp -implicitDefEqProofs only [go_sem, Nat.reduceBEq, Nat.reduceAdd]
            refine y1 _ _ _ (.inr ?_) ⟨rfl, hlt, rfl⟩
            subst h8
            simp -implicitDefEqProofs only [go_sem, Nat.reduceBEq, Nat.reduceAdd, and_true]
            exact ⟨trivial, trivial, rfl⟩
      · rintro G τ' ⟨rfl, hlt, rfl⟩
        simp -implicitDefEqProofs only [go_sem, Nat.reduceBEq, Nat.reduceAdd, t5]
        rw [if_neg hlt] at h4
        refine z1 (k + 1, n + (p[k]).toNat % 128 * 128 ^ k) _ _ (.inr ?_) ?_ ?_
        · simp -implicitDefEqProofs only [go_sem, Nat.reduceBEq, Nat.reduceAdd, and_true]
        · simp only; omega
        · exact ⟨rfl, by simp only; omega, by simp only; omega, hpow, h4⟩
  · have hd1 : decide ((k : Int) < (p.length : Int)) = false := by simp; omega
    have hdn : dec 0 0 p = none := by
      rw [h4, List.drop_eq_nil_of_le (by omega), dec]
    simp -implicitDefEqProofs only [go_sem, Nat.reduceBEq, Nat.reduceAdd, hl, hd1]
    refine z2 _ _ _ ?_
    simp -implicitDefEqProofs only [go_sem, Nat.reduceBEq, Nat.reduceAdd]
    refine q2 _ _ ?_
    simp -implicitDefEqProofs only [go_sem, Nat.reduceBEq, Nat.reduceAdd, rnum, hdn, Option.getD_none]
    exact ⟨trivial, rfl⟩

/-- A reader of the answer's. -/
def rdr (s : V) (at_ : Nat) (e bad : Int) : V := .agg (cellsR s at_ e bad)

set_option maxRecDepth 100000 in
theorem refFail_ok {σ : St} {s : V} {at_ : Nat} {e bad e' at' : Int} (hs : IsSl s) : CallA Try.prog 70 [rdr s at_ e bad, .int .i64 e', .int .i64 at'] σ fun v σ' => σ' = σ ∧ v = .agg [s, .int .i64 at', .int .i64 e', .int .i64 at'] := by
  obtain ⟨b, r, z, es, rfl⟩ := hs
  refine fn_at Try.func70 (by decide) comp70 rfl fun Q q1 q2 => ?_
  simp -implicitDefEqProofs only [go_sem, Nat.reduceBEq, Nat.reduceAdd, c70, rdr, cellsR, Nat.reduceLeDiff, Nat.zero_add]
  refine ⟨⟨⟨trivial, trivial⟩, by decide⟩, q2 _ _ ?_⟩
  simp -implicitDefEqProofs only [go_sem, Nat.reduceBEq, Nat.reduceAdd]
  exact ⟨trivial, trivial, trivial⟩

theorem numR_rnum (p : List UInt8) (at_ : Nat) (bad : Int) : numR p at_ 0 bad = if (rnum (p.drop at_)).2.2 = true then ((rnum (p.drop at_)).1, at_ + (rnum (p.drop at_)).2.1, 0, bad) else (0, at_, 2, (at_ : Int)) := by
  rcases hd : dec 0 0 (p.drop at_) with _ | ⟨n, c, _ | _⟩ <;> simp [numR, rnum, hd]

set_option maxRecDepth 100000 in
theorem refNext_ok {σ : St} {s : V} {p : List UInt8} {at_ : Nat} {e bad : Int} (hs : RdS σ s 1 (bytesV p)) (ha : at_ ≤ p.length) (hlen : p.length ≤ 1073741824) (h0 : e = 0 → bad = 0) :
    CallA Try.prog 41 [rdr s at_ e bad] σ fun v σ' => σ' = σ ∧ v = .tup [rdr s (numR p at_ e bad).2.1 (numR p at_ e bad).2.2.1 (numR p at_ e bad).2.2.2, .int .i64 (numR p at_ e bad).1] := by
  obtain ⟨b, r, z, rfl, -, -⟩ := id hs
  have hr := rd_src hs
  refine fn_at Try.func41 (by decide) comp41 rfl fun Q q1 q2 => ?_
  have hbl := bytesV_length p
  by_cases he : e = 0
  · have hd : (!decide (e = 0)) = false := by simp [he]
    have hD : List.drop ((at_ : Nat) : Int).toNat (bytesV p) = bytesV (p.drop at_) := by simp [bytesV, List.map_drop]
    have hT : List.take (bytesV p).length (bytesV p) = bytesV p := List.take_of_length_le (Nat.le_refl _)
    simp -implicitDefEqProofs only [go_sem, Nat.reduceBEq, Nat.reduceAdd, c41, rdr, cellsR, hd, hT, hD]
    refine ⟨⟨rd_z hs, by omega, trivial, by omega, Nat.le_refl _⟩, ?_⟩
    have hsub := rdS_drop hs at_
    refine call_at (refNum_ok hsub (by simp only [List.length_drop]; omega)) ?_
    rintro v τ ⟨rfl, rfl⟩
    refine ⟨kept_none, ?_⟩
    have hnr := numR_rnum p at_ bad
    have hnb := numR_bound p 0 bad ha
    subst he
    simp only [hnr] at hnb q2
    clear hnr
    generalize rnum (p.drop at_) = x at hnb q2 ⊢
    obtain ⟨n, c, ok⟩ := x
    cases ok with
    | true =>
      simp only [if_true] at hnb
      have hw : IntKind.i64.wrap ((at_ : Int) + (c : Int)) = ((at_ + c : Nat) : Int) := by rw [i64_in _ (by omega)]; omega
      simp -implicitDefEqProofs only [go_sem, Nat.reduceBEq, Nat.reduceAdd, cellsR, List.getElem?_cons_zero, List.getElem?_cons_succ, Bool.not_true, Nat.reduceLeDiff, Nat.zero_add, hw, Nat.reduceSub]
      refine ⟨⟨⟨trivial, trivial⟩, by decide⟩, q2 _ _ ?_⟩
      simp -implicitDefEqProofs only [go_sem, Nat.reduceBEq, Nat.reduceAdd]
      refine ⟨trivial, trivial, ?_⟩
      rw [h0 rfl]; rfl
    | false =>
      simp -implicitDefEqProofs only [go_sem, Nat.reduceBEq, Nat.reduceAdd, cellsR, List.getElem?_cons_zero, List.getElem?_cons_succ, Bool.not_false]
      refine ⟨trivial, call_at (refFail_ok hs.isSl) ?_⟩
      rintro v τ' ⟨rfl, rfl⟩
      refine ⟨kept_none, ?_⟩
      simp -implicitDefEqProofs only [go_sem, Nat.reduceBEq, Nat.reduceAdd]
      refine ⟨⟨⟨trivial, trivial⟩, by decide⟩, q2 _ _ ?_⟩
      simp -implicitDefEqProofs only [go_sem, Nat.reduceBEq, Nat.reduceAdd]
      refine ⟨trivial, trivial, ?_⟩
      rfl
  · have hd : (!decide (e = 0)) = true := by simp [he]
    simp -implicitDefEqProofs only [go_sem, Nat.reduceBEq, Nat.reduceAdd, c41, rdr, cellsR, hd]
    refine ⟨trivial, ⟨⟨trivial, trivial⟩, by decide⟩, q2 _ _ ?_⟩
    simp -implicitDefEqProofs only [go_sem, Nat.reduceBEq, Nat.reduceAdd]
    have hn : numR p at_ e bad = (0, at_, e, bad) := by simp only [numR, if_neg he]
    rw [hn]
    exact ⟨trivial, trivial, rfl⟩
end Go.VL.wire

namespace Go.VL.wire
open Go Go.Proofs Go.IntWalk

theorem numR_bad {p : List UInt8} {at_ : Nat} {e bad : Int} (h0 : e = 0 → bad = 0) : (numR p at_ e bad).2.2.1 = 0 → (numR p at_ e bad).2.2.2 = 0 := by
  unfold numR
  split
  · rename_i he
    split
    · intro _; exact h0 he
    · intro h; simp at h
  · intro h; exact h0 h
theorem cntR_bad {p : List UInt8} {at_ : Nat} {e bad most : Int} (h0 : e = 0 → bad = 0) : (cntR p at_ e bad most).2.2.1 = 0 → (cntR p at_ e bad most).2.2.2 = 0 := by
  unfold cntR
  split
  · intro h; simp at h
  · exact numR_bad h0
theorem txtR_bad {p : List UInt8} {at_ : Nat} {e bad most : Int} (h0 : e = 0 → bad = 0) : (txtR p at_ e bad most).2.2.1 = 0 → (txtR p at_ e bad most).2.2.2 = 0 := by
  unfold txtR
  split
  · split
    · split
      · intro h; simp at h
      · rename_i h _; intro _; exact cntR_bad h0 h
    · exact cntR_bad h0
  · intro h; exact h0 h
theorem txtR_bound (bs : List UInt8) {at_ : Nat} (e bad most : Int) (ha : at_ ≤ bs.length) : (txtR bs at_ e bad most).2.1 ≤ bs.length := by
  have hb := cntR_bound bs e bad most ha
  unfold txtR
  split
  · split
    · split
      · exact ha
      · dsimp only; omega
    · exact hb.1
  · exact ha

set_option maxRecDepth 100000 in
set_option maxHeartbeats 1600000 in
theorem refCount_ok {σ : St} {s : V} {p : List UInt8} {at_ : Nat} {e bad most : Int} (hs : RdS σ s 1 (bytesV p)) (ha : at_ ≤ p.length) (hlen : p.length ≤ 1073741824) (h0 : e = 0 → bad = 0) :
    CallA Try.prog 57 [rdr s at_ e bad, .int .i64 most] σ fun v σ' => σ' = σ ∧ v = .tup [rdr s (cntR p at_ e bad most).2.1 (cntR p at_ e bad most).2.2.1 (cntR p at_ e bad most).2.2.2, .int .i64 (cntR p at_ e bad most).1] := by
  obtain ⟨b, r, z, rfl, -, -⟩ := id hs
  refine fn_at Try.func57 (by decide) comp57 rfl fun Q q1 q2 => ?_
  have hnx := refNext_ok (e := e) (bad := bad) hs ha hlen h0
  have hc : ∀ x, numR p at_ e bad = x → cntR p at_ e bad most = if e = 0 ∧ x.2.2.1 = 0 ∧ most < x.1 then (0, at_, 3, (at_ : Int)) else x := by
    intro x hx
    subst hx
    rfl
  generalize hx : numR p at_ e bad = x at hnx
  have hc := hc x hx
  obtain ⟨n, a, e', bad'⟩ := x
  simp only at hc
  simp -implicitDefEqProofs only [go_sem, Nat.reduceBEq, Nat.reduceAdd, c57, rdr, cellsR]
  refine ⟨trivial, call_at hnx ?_⟩
  rintro v τ ⟨rfl, rfl⟩
  refine ⟨kept_none, ?_⟩
  have fin1 : (e = 0 ∧ e' = 0 ∧ most < n) ∨ ¬ (e = 0 ∧ e' = 0 ∧ most < n) := Classical.em _
  rcases fin1 with hy | hy
  · obtain ⟨y1, y2, y3⟩ := hy
    rw [if_pos ⟨y1, y2, y3⟩] at hc
    rw [hc] at q2
    have d1 : decide (e = 0) = true := by simp [y1]
    have d2 : decide (e' = 0) = true := by simp [y2]
    have d3 : decide (most < (n : Int)) = true := by simp [y3]
    simp -implicitDefEqProofs only [go_sem, Nat.reduceBEq, Nat.reduceAdd, rdr, cellsR, List.getElem?_cons_zero, List.getElem?_cons_succ, Nat.reduceLeDiff, Nat.zero_add, d1, d2, d3]
    refine ⟨⟨⟨trivial, trivial⟩, by decide⟩, trivial, call_at (refFail_ok hs.isSl) ?_⟩
    rintro v τ' ⟨rfl, rfl⟩
    refine ⟨kept_none, ?_⟩
    simp -implicitDefEqProofs only [go_sem, Nat.reduceBEq, Nat.reduceAdd]
    refine ⟨⟨⟨trivial, trivial⟩, by decide⟩, q2 _ _ ?_⟩
    simp -implicitDefEqProofs only [go_sem, Nat.reduceBEq, Nat.reduceAdd]
    exact ⟨trivial, trivial, rfl⟩
  · rw [if_neg hy] at hc
    rw [hc] at q2
    have hnoret : ∀ (F : Fr), F.l = [(2, [V.sl b r z (bytesV p), V.int IntKind.i64 at_, V.int IntKind.i64 e, V.int IntKind.i64 bad]), (4, [V.sl true R.pub 0 [], V.int IntKind.i64 0, V.int IntKind.i64 0, V.int IntKind.i64 0]), (6, cellsR (V.sl b r z (bytesV p)) a e' bad')] → True := fun _ _ => trivial
    by_cases y1 : e = 0
    · have d1 : decide (e = 0) = true := by simp [y1]
      by_cases y2 : e' = 0
      · have d2 : decide (e' = 0) = true := by simp [y2]
        have d3 : decide (most < (n : Int)) = false := by
          have := fun h => hy ⟨y1, y2, h⟩
          simpa using this
        simp -implicitDefEqProofs only [go_sem, Nat.reduceBEq, Nat.reduceAdd, rdr, cellsR, List.getElem?_cons_zero, List.getElem?_cons_succ, Nat.reduceLeDiff, Nat.zero_add, d1, d2, d3]
        refine ⟨⟨⟨trivial, trivial⟩, by decide⟩, trivial, ⟨⟨trivial, trivial⟩, by decide⟩, q2 _ _ ?_⟩
        simp -implicitDefEqProofs only [go_sem, Nat.reduceBEq, Nat.reduceAdd]
        exact ⟨trivial, trivial, rfl⟩
      · have d2 : decide (e' = 0) = false := by simp [y2]
        simp -implicitDefEqProofs only [go_sem, Nat.reduceBEq, Nat.reduceAdd, rdr, cellsR, List.getElem?_cons_zero, List.getElem?_cons_succ, Nat.reduceLeDiff, Nat.zero_add, d1, d2]
        refine ⟨⟨⟨trivial, trivial⟩, by decide⟩, trivial, ⟨⟨trivial, trivial⟩, by decide⟩, q2 _ _ ?_⟩
        simp -implicitDefEqProofs only [go_sem, Nat.reduceBEq, Nat.reduceAdd]
        exact ⟨trivial, trivial, rfl⟩
    · have d1 : decide (e = 0) = false := by simp [y1]
      simp -implicitDefEqProofs only [go_sem, Nat.reduceBEq, Nat.reduceAdd, rdr, cellsR, List.getElem?_cons_zero, List.getElem?_cons_succ, Nat.reduceLeDiff, Nat.zero_add, d1]
      refine ⟨⟨⟨trivial, trivial⟩, by decide⟩, trivial, ⟨⟨trivial, trivial⟩, by decide⟩, q2 _ _ ?_⟩
      simp -implicitDefEqProofs only [go_sem, Nat.reduceBEq, Nat.reduceAdd]
      exact ⟨trivial, trivial, rfl⟩

set_option maxRecDepth 100000 in
set_option maxHeartbeats 1600000 in
theorem refText_ok {σ : St} {s : V} {p : List UInt8} {at_ : Nat} {e bad most : Int} (hs : RdS σ s 1 (bytesV p)) (ha : at_ ≤ p.length) (hlen : p.length ≤ 1073741824) (h0 : e = 0 → bad = 0) :
    CallA Try.prog 44 [rdr s at_ e bad, .int .i64 most] σ fun v σ' => σ' = σ ∧ v = .tup [rdr s (txtR p at_ e bad most).2.1 (txtR p at_ e bad most).2.2.1 (txtR p at_ e bad most).2.2.2, .str (txtR p at_ e bad most).1] := by
  obtain ⟨b, r, z, rfl, -, -⟩ := id hs
  refine fn_at Try.func44 (by decide) comp44 rfl fun Q q1 q2 => ?_
  have hbl := bytesV_length p
  have hcx := refCount_ok (e := e) (bad := bad) (most := most) hs ha hlen h0
  have hcb := cntR_bound p e bad most ha
  have hbad := cntR_bad (p := p) (at_ := at_) (most := most) h0
  have hc : ∀ x, cntR p at_ e bad most = x → txtR p at_ e bad most = if x.2.2.1 = 0 then (if p.length - x.2.1 < x.1 then ([], at_, 2, (at_ : Int)) else ((p.drop x.2.1).take x.1, x.2.1 + x.1, 0, x.2.2.2)) else ([], x.2) := by
    intro x hx
    by_cases he : e = 0
    · subst hx
      simp only [txtR, if_pos he]
    · have : cntR p at_ e bad most = (0, at_, e, bad) := by simp only [cntR, if_neg (fun x : e = 0 ∧ _ => he x.1), numR, if_neg he]
      rw [this] at hx
      subst hx
      simp only [txtR, if_neg he]
  generalize hx : cntR p at_ e bad most = x at hcx hcb hbad
  have hc := hc x hx
  obtain ⟨n, a, e', bad'⟩ := x
  simp only at hc hcb hbad
  simp -implicitDefEqProofs only [go_sem, Nat.reduceBEq, Nat.reduceAdd, c44, rdr, cellsR]
  refine ⟨trivial, call_at hcx ?_⟩
  rintro v τ ⟨rfl, rfl⟩
  refine ⟨kept_none, ?_⟩
  by_cases he : e' = 0
  · rw [if_pos he] at hc
    have d1 : (!decide (e' = 0)) = false := by simp [he]
    have hw : IntKind.i64.wrap ((p.length : Int) - (a : Int)) = ((p.length - a : Nat) : Int) := by rw [i64_in _ (by omega)]; omega
    by_cases h2 : p.length - a < n
    · have d2 : decide (((p.length - a : Nat) : Int) < (n : Int)) = true := by simp; omega
      rw [if_pos h2] at hc
      rw [hc] at q2
      simp -implicitDefEqProofs only [go_sem, Nat.reduceBEq, Nat.reduceAdd, rdr, cellsR, List.getElem?_cons_zero, List.getElem?_cons_succ, Nat.reduceLeDiff, Nat.zero_add, d1, hbl, hw, d2]
      refine ⟨⟨⟨trivial, trivial⟩, by decide⟩, trivial, call_at (refFail_ok hs.isSl) ?_⟩
      rintro v τ' ⟨rfl, rfl⟩
      refine ⟨kept_none, ?_⟩
      simp -implicitDefEqProofs only [go_sem, Nat.reduceBEq, Nat.reduceAdd]
      refine ⟨⟨⟨trivial, trivial⟩, by decide⟩, q2 _ _ ?_⟩
      simp -implicitDefEqProofs only [go_sem, Nat.reduceBEq, Nat.reduceAdd]
      exact ⟨trivial, trivial, rfl⟩
    · have d2 : decide (((p.length - a : Nat) : Int) < (n : Int)) = false := by simp; omega
      rw [if_neg h2] at hc
      rw [hc] at q2
      have hw2 : IntKind.i64.wrap ((a : Int) + (n : Int)) = ((a + n : Nat) : Int) := by rw [i64_in _ (by omega)]; omega
      have hT : List.drop ((a : Nat) : Int).toNat (List.take ((a + n : Nat) : Int).toNat (bytesV p)) = bytesV ((p.drop a).take n) := by
        simp only [Int.toNat_natCast, bytesV, ← List.map_take, ← List.map_drop]
        rw [List.drop_take, show a + n - a = n from by omega]
      simp -implicitDefEqProofs only [go_sem, Nat.reduceBEq, Nat.reduceAdd, rdr, cellsR, List.getElem?_cons_zero, List.getElem?_cons_succ, Nat.reduceLeDiff, Nat.zero_add, d1, hbl, hw, d2, hw2, hT, bytes_back, Nat.reduceSub]
      have hr2 : b = true ∨ rd τ.live r.toView ∧ z = 1 := by
        obtain ⟨_, _, _, e, _, h⟩ := hs
        cases e
        exact h.imp_right fun x => ⟨rd_toView x.1, x.2⟩
      refine ⟨⟨⟨trivial, trivial⟩, by decide⟩, ⟨rd_z hs, by omega, by omega, by omega, by omega⟩, ⟨hr2, trivial⟩, ⟨⟨trivial, trivial⟩, by decide⟩, trivial, ⟨⟨trivial, trivial⟩, by decide⟩, q2 _ _ ?_⟩
      simp -implicitDefEqProofs only [go_sem, Nat.reduceBEq, Nat.reduceAdd]
      exact ⟨trivial, trivial, by rw [he]; rfl⟩
  · rw [if_neg he] at hc
    rw [hc] at q2
    have d1 : (!decide (e' = 0)) = true := by simp [he]
    simp -implicitDefEqProofs only [go_sem, Nat.reduceBEq, Nat.reduceAdd, rdr, cellsR, List.getElem?_cons_zero, List.getElem?_cons_succ, Nat.reduceLeDiff, Nat.zero_add, d1]
    refine ⟨⟨⟨trivial, trivial⟩, by decide⟩, trivial, ⟨⟨trivial, trivial⟩, by decide⟩, q2 _ _ ?_⟩
    simp -implicitDefEqProofs only [go_sem, Nat.reduceBEq, Nat.reduceAdd]
    exact ⟨trivial, trivial, rfl⟩

end Go.VL.wire

namespace Go.VL.wire
open Go Go.VL Go.Proofs Go.IntWalk

def right (c r : Int) : Bool := decide (1 ≤ c) && (decide (c ≤ 1099511627776) && (decide (0 ≤ r) && decide (r < 64)))
def stV (c r : Int) : V := .agg [.int .i64 c, .int .i64 r]

section
variable {σ : St} {c r a1 a2 b1 b2 : Int}
set_option maxRecDepth 100000 in
theorem replica_ok : CallA Try.prog 78 [.int .i64 r] σ fun v σ' => σ' = σ ∧ v = .bool (decide (0 ≤ r) && decide (r < 64)) := by
  refine fn_at Try.func78 (by decide) comp78 rfl fun Q q1 q2 => ?_
  cases h1 : decide (0 ≤ r) <;> cases h2 : decide (r < 64)
  all_goals
    rw [h1, h2] at q2
    simp -implicitDefEqProofs only [go_sem, Nat.reduceBEq, Nat.reduceAdd, eq_self, true_and, and_self, c78, h1, h2]
    refine q2 _ _ ?_
    simp -implicitDefEqProofs only [go_sem, Nat.reduceBEq, Nat.reduceAdd]
    first | exact ⟨trivial, trivial⟩ | exact ⟨trivial, rfl⟩ | exact ⟨rfl, rfl⟩ | exact ⟨rfl, trivial⟩ | trivial
set_option maxRecDepth 100000 in
theorem right_ok : CallA Try.prog 58 [stV c r] σ fun v σ' => σ' = σ ∧ v = .bool (right c r) := by
  refine fn_at Try.func58 (by decide) comp58 rfl fun Q q1 q2 => ?_
  simp only [right] at q2
  cases h1 : decide (1 ≤ c) <;> cases h2 : decide (c ≤ 1099511627776)
  case true.true =>
    rw [h1, h2] at q2
    simp -implicitDefEqProofs only [go_sem, Nat.reduceBEq, Nat.reduceAdd, eq_self, true_and, and_self, c58, stV, h1, h2]
    refine call_at replica_ok ?_
    rintro v σ' ⟨rfl, rfl⟩
    refine ⟨kept_none, ?_⟩
    simp -implicitDefEqProofs only [go_sem, Nat.reduceBEq, Nat.reduceAdd]
    refine q2 _ _ ?_
    simp -implicitDefEqProofs only [go_sem, Nat.reduceBEq, Nat.reduceAdd]
    first | exact ⟨trivial, trivial⟩ | exact ⟨trivial, rfl⟩ | exact ⟨rfl, rfl⟩ | exact ⟨rfl, trivial⟩ | trivial
  all_goals
    rw [h1, h2] at q2
    simp -implicitDefEqProofs only [go_sem, Nat.reduceBEq, Nat.reduceAdd, eq_self, true_and, and_self, c58, stV, h1, h2]
    refine q2 _ _ ?_
    simp -implicitDefEqProofs only [go_sem, Nat.reduceBEq, Nat.reduceAdd]
    first | exact ⟨trivial, trivial⟩ | exact ⟨trivial, rfl⟩ | exact ⟨rfl, rfl⟩ | exact ⟨rfl, trivial⟩ | trivial
set_option maxRecDepth 100000 in
theorem rright_ok : CallA Try.prog 63 [stV c r] σ fun v σ' => σ' = σ ∧ v = .bool (right c r) := by
  refine fn_at Try.func63 (by decide) comp63 rfl fun Q q1 q2 => ?_
  simp only [right] at q2
  cases h1 : decide (1 ≤ c) <;> cases h2 : decide (c ≤ 1099511627776) <;> cases h3 : decide (0 ≤ r) <;> cases h4 : decide (r < 64)
  all_goals
    rw [h1, h2, h3, h4] at q2
    simp -implicitDefEqProofs only [go_sem, Nat.reduceBEq, Nat.reduceAdd, eq_self, true_and, and_self, c63, stV, h1, h2, h3, h4]
    refine q2 _ _ ?_
    simp -implicitDefEqProofs only [go_sem, Nat.reduceBEq, Nat.reduceAdd]
    first | exact ⟨trivial, trivial⟩ | exact ⟨trivial, rfl⟩ | exact ⟨rfl, rfl⟩ | exact ⟨rfl, trivial⟩ | trivial

def less (a1 a2 b1 b2 : Int) : Bool := decide (a1 < b1) || (decide (a1 = b1) && decide (a2 < b2))
def cmp (a1 a2 b1 b2 : Int) : Int := bif decide (a1 = b1) && decide (a2 = b2) then 0 else bif less a1 a2 b1 b2 then -1 else 1

set_option maxRecDepth 100000 in
theorem compare_ok : CallA Try.prog 86 [stV a1 a2, stV b1 b2] σ fun v σ' => σ' = σ ∧ v = .int .i64 (cmp a1 a2 b1 b2) := by
  refine fn_at Try.func86 (by decide) comp86 rfl fun Q q1 q2 => ?_
  simp only [cmp, less] at q2
  cases h1 : decide (a1 = b1) <;> cases h2 : decide (a2 = b2) <;> cases h3 : decide (a1 < b1) <;> cases h4 : decide (a2 < b2)
  all_goals
    rw [h1, h2, h3, h4] at q2
    simp -implicitDefEqProofs only [go_sem, Nat.reduceBEq, Nat.reduceAdd, eq_self, true_and, and_self, c86, stV, h1, h2, h3, h4, V.eqs, V.eq]
    refine q2 _ _ ?_
    simp -implicitDefEqProofs only [go_sem, Nat.reduceBEq, Nat.reduceAdd]
    first | exact ⟨trivial, trivial⟩ | exact ⟨trivial, rfl⟩ | exact ⟨rfl, rfl⟩ | exact ⟨rfl, trivial⟩ | trivial
set_option maxRecDepth 100000 in
theorem less_ok : CallA Try.prog 85 [stV a1 a2, stV b1 b2] σ fun v σ' => σ' = σ ∧ v = .bool (less a1 a2 b1 b2) := by
  refine fn_at Try.func85 (by decide) comp85 rfl fun Q q1 q2 => ?_
  simp only [less] at q2
  cases h1 : decide (a1 = b1) <;> cases h3 : decide (a1 < b1) <;> cases h4 : decide (a2 < b2)
  all_goals
    rw [h1, h3, h4] at q2
    simp -implicitDefEqProofs only [go_sem, Nat.reduceBEq, Nat.reduceAdd, eq_self, true_and, and_self, c85, stV, h1, h3, h4]
    refine q2 _ _ ?_
    simp -implicitDefEqProofs only [go_sem, Nat.reduceBEq, Nat.reduceAdd]
    first | exact ⟨trivial, trivial⟩ | exact ⟨trivial, rfl⟩ | exact ⟨rfl, rfl⟩ | exact ⟨rfl, trivial⟩ | trivial
end
end Go.VL.wire
