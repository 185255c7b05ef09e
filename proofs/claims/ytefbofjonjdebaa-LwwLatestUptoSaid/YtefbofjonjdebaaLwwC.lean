import Derived.Test.YtefbofjonjdebaaProg
import Derived.Test.YtefbofjonjdebaaVy
set_option linter.unusedVariables false
set_option linter.unusedSimpArgs false
namespace Go.VL.lww
open Go Go.VL Go.Proofs
/-- topiary/topiarylaw13.LwwChecks: 2 parameters, 40 slots. -/
def c3 : C :=
  .seq (.ops [⟨none, .bxL 2 (.t 0)⟩,
    ⟨none, .bxL 3 (.t 1)⟩,
    ⟨none, .mv 4 (.c (.bool false))⟩])
  (.seq (.opsD [⟨none, .ld 5 (.t 2) 7 true⟩,
    ⟨none, .ld 7 (.t 2) 7 true⟩,
    ⟨none, .ca (some 6) 11 [(.t 5)]⟩,
    ⟨none, .ca (some 8) 12 [(.t 7)]⟩,
    ⟨none, .bi 9 .eql (.t 6) (.t 8)⟩,
    ⟨none, .mv 10 (.t 9)⟩,
    ⟨some (10, true), .ld 11 (.t 2) 7 true⟩,
    ⟨some (10, true), .ld 12 (.t 3) 7 true⟩,
    ⟨some (10, true), .ld 14 (.t 2) 7 true⟩,
    ⟨some (10, true), .ld 15 (.t 3) 7 true⟩,
    ⟨some (10, true), .ca (some 13) 13 [(.t 11), (.t 12)]⟩,
    ⟨some (10, true), .ca (some 16) 14 [(.t 14), (.t 15)]⟩,
    ⟨some (10, true), .bq 17 false .bool (.t 13) (.t 16)⟩,
    ⟨none, .pk 18 (.t 10) (.t 17) (.c (.bool false))⟩,
    ⟨none, .mv 19 (.t 18)⟩,
    ⟨some (19, true), .ld 20 (.t 2) 7 true⟩,
    ⟨some (19, true), .ld 21 (.t 2) 7 true⟩,
    ⟨some (19, true), .ca (some 22) 13 [(.t 20), (.t 21)]⟩,
    ⟨some (19, true), .un 23 .not (.t 22)⟩,
    ⟨none, .pk 24 (.t 19) (.t 23) (.c (.bool false))⟩,
    ⟨none, .mv 25 (.t 24)⟩,
    ⟨some (25, true), .ld 26 (.t 2) 7 true⟩,
    ⟨some (25, true), .ld 27 (.t 3) 7 true⟩,
    ⟨some (25, true), .ca (some 28) 13 [(.t 26), (.t 27)]⟩,
    ⟨some (25, true), .un 29 .not (.t 28)⟩,
    ⟨some (25, true), .mv 30 (.t 29)⟩,
    ⟨some (30, false), .ld 31 (.t 3) 7 true⟩,
    ⟨some (30, false), .ld 32 (.t 2) 7 true⟩,
    ⟨some (30, false), .ca (some 33) 13 [(.t 31), (.t 32)]⟩,
    ⟨some (30, false), .un 34 .not (.t 33)⟩,
    ⟨some (25, true), .pk 35 (.t 30) (.c (.bool true)) (.t 34)⟩,
    ⟨none, .pk 36 (.t 25) (.t 35) (.c (.bool false))⟩,
    ⟨none, .mv 37 (.t 36)⟩,
    ⟨some (37, true), .ca (some 38) 15 []⟩,
    ⟨none, .pk 39 (.t 37) (.t 38) (.c (.bool false))⟩,
    ⟨none, .mv 4 (.t 39)⟩])
  (.ret))
theorem comp3 : compFn Try.prog [2, 3] Try.f3 = some ([.t 4], c3) := by kernel_rfl
/-- topiary/topiarylaw13.LwwLatest: 1 parameters, 75 slots. -/
def c4 : C :=
  .seq (.ops [⟨none, .mv 2 (.c (.bool false))⟩])
  (.seq (.ops [⟨none, .mv 11 (.t 0)⟩,
    ⟨none, .ca (some 12) 16 [(.t 11)]⟩,
    ⟨none, .mv 10 (.t 12)⟩,
    ⟨none, .ex 13 (.t 10) 0⟩,
    ⟨none, .ex 14 (.t 10) 1⟩,
    ⟨none, .mv 3 (.t 13)⟩,
    ⟨none, .mv 4 (.t 14)⟩])
  (.cut (.seq (.ops [⟨none, .mv 15 (.t 0)⟩,
    ⟨none, .ln 16 .sl (.t 15)⟩,
    ⟨none, .bi 17 .gtr (.t 16) (.c (.int .i64 200))⟩])
  (.cond (.t 17) (.ops [⟨none, .mv 18 (.t 0)⟩,
      ⟨none, .sl 19 7 (.t 18) none (some (.c (.int .i64 200)))⟩,
      ⟨none, .mv 0 (.t 19)⟩])
    (.skip)))
  (.seq (.seq (.ops [⟨none, .mv 5 (.c (.int .i64 0))⟩])
  (.block 0 (.loop (.seq (.seq (.ops [⟨none, .mv 20 (.t 5)⟩,
    ⟨none, .mv 21 (.t 0)⟩,
    ⟨none, .ln 22 .sl (.t 21)⟩,
    ⟨none, .bi 23 .lss (.t 20) (.t 22)⟩])
  (.cond (.t 23) (.skip)
    (.exit 0)))
  (.cut (.block 1 (.seq (.seq (.ops [⟨none, .mv 26 (.t 0)⟩,
    ⟨none, .mv 27 (.t 5)⟩,
    ⟨none, .ia 28 (.t 26) (.t 27) 7⟩,
    ⟨none, .ld 29 (.t 28) 7 true⟩,
    ⟨none, .ca (some 30) 12 [(.t 29)]⟩,
    ⟨none, .bi 31 .neq (.t 30) (.c (.int .i64 0))⟩])
  (.cond (.t 31) (.exit 1)
    (.skip)))
  (.seq (.opsE [⟨none, .mv 33 (.t 3)⟩,
    ⟨none, .mv 34 (.t 0)⟩,
    ⟨none, .mv 35 (.t 5)⟩,
    ⟨none, .ia 36 (.t 34) (.t 35) 7⟩,
    ⟨none, .fa 37 (.t 36) 0⟩,
    ⟨none, .ld 38 (.t 37) 2 true⟩,
    ⟨none, .mv 39 (.t 0)⟩,
    ⟨none, .mv 40 (.t 5)⟩,
    ⟨none, .ia 41 (.t 39) (.t 40) 7⟩,
    ⟨none, .fa 42 (.t 41) 2⟩,
    ⟨none, .ld 43 (.t 42) 1 false⟩,
    ⟨none, .ca (some 44) 17 [(.t 33), (.t 38), (.t 43)]⟩,
    ⟨none, .mv 32 (.t 44)⟩,
    ⟨none, .ex 45 (.t 32) 0⟩,
    ⟨none, .ex 46 (.t 32) 1⟩,
    ⟨none, .alH 6 [.int .i64 0, .int .i64 0, .str [], .int .i64 0, .int .i64 0, .str [], .bool false]⟩,
    ⟨none, .st (.t 6) (.t 45) 7⟩,
    ⟨none, .mv 7 (.t 46)⟩]
  [⟨none, .mv 33 (.t 3)⟩,
    ⟨none, .mv 34 (.t 0)⟩,
    ⟨none, .mv 35 (.t 5)⟩,
    ⟨none, .ia 36 (.t 34) (.t 35) 7⟩,
    ⟨none, .fa 37 (.t 36) 0⟩,
    ⟨none, .ld 38 (.t 37) 2 true⟩,
    ⟨none, .mv 39 (.t 0)⟩,
    ⟨none, .mv 40 (.t 5)⟩,
    ⟨none, .ia 41 (.t 39) (.t 40) 7⟩,
    ⟨none, .fa 42 (.t 41) 2⟩,
    ⟨none, .ld 43 (.t 42) 1 false⟩,
    ⟨none, .alH 6 [.int .i64 0, .int .i64 0, .str [], .int .i64 0, .int .i64 0, .str [], .bool false]⟩,
    ⟨none, .ca (some 44) 17 [(.t 33), (.t 38), (.t 43)]⟩,
    ⟨none, .mv 32 (.t 44)⟩,
    ⟨none, .ex 45 (.t 32) 0⟩,
    ⟨none, .ex 46 (.t 32) 1⟩,
    ⟨none, .st (.t 6) (.t 45) 7⟩,
    ⟨none, .mv 7 (.t 46)⟩])
  (.seq (.seq (.opsD [⟨none, .mv 47 (.t 7)⟩,
    ⟨none, .un 48 .not (.t 47)⟩,
    ⟨none, .mv 49 (.t 48)⟩,
    ⟨some (49, false), .mv 50 (.t 0)⟩,
    ⟨some (49, false), .mv 51 (.t 5)⟩,
    ⟨some (49, false), .ia 52 (.t 50) (.t 51) 7⟩,
    ⟨some (49, false), .ld 53 (.t 52) 7 true⟩,
    ⟨some (49, false), .ld 54 (.t 6) 7 true⟩,
    ⟨some (49, false), .ca (some 55) 13 [(.t 53), (.t 54)]⟩,
    ⟨none, .pk 56 (.t 49) (.c (.bool true)) (.t 55)⟩])
  (.cond (.t 56) (.seq (.ops [⟨none, .mv 2 (.c (.bool false))⟩])
    (.ret))
    (.skip)))
  (.seq (.ops [⟨none, .mv 8 (.c (.bool false))⟩])
  (.seq (.seq (.ops [⟨none, .mv 9 (.c (.int .i64 0))⟩])
  (.block 2 (.loop (.seq (.seq (.ops [⟨none, .mv 57 (.t 9)⟩,
    ⟨none, .mv 58 (.t 0)⟩,
    ⟨none, .ln 59 .sl (.t 58)⟩,
    ⟨none, .bi 60 .lss (.t 57) (.t 59)⟩])
  (.cond (.t 60) (.skip)
    (.exit 2)))
  (.seq (.block 3 (.opsD [⟨none, .mv 63 (.t 8)⟩,
    ⟨none, .mv 64 (.t 63)⟩,
    ⟨some (64, false), .mv 65 (.t 0)⟩,
    ⟨some (64, false), .mv 66 (.t 9)⟩,
    ⟨some (64, false), .ia 67 (.t 65) (.t 66) 7⟩,
    ⟨some (64, false), .ld 68 (.t 67) 7 true⟩,
    ⟨some (64, false), .ld 69 (.t 6) 7 true⟩,
    ⟨some (64, false), .be 70 false [.int .i64, .int .i64, .str, .int .i64, .int .i64, .str, .bool] (.t 68) (.t 69)⟩,
    ⟨none, .pk 71 (.t 64) (.c (.bool true)) (.t 70)⟩,
    ⟨none, .mv 8 (.t 71)⟩]))
  (.ops [⟨none, .mv 61 (.t 9)⟩,
    ⟨none, .bi 62 .add (.t 61) (.c (.int .i64 1))⟩,
    ⟨none, .mv 9 (.t 62)⟩]))))))
  (.seq (.ops [⟨none, .mv 72 (.t 8)⟩,
    ⟨none, .un 73 .not (.t 72)⟩])
  (.cond (.t 73) (.seq (.ops [⟨none, .mv 2 (.c (.bool false))⟩])
    (.ret))
    (.skip)))))))))
  (.ops [⟨none, .mv 24 (.t 5)⟩,
    ⟨none, .bi 25 .add (.t 24) (.c (.int .i64 1))⟩,
    ⟨none, .mv 5 (.t 25)⟩]))))))
  (.seq (.ops [⟨none, .ca (some 74) 15 []⟩,
    ⟨none, .mv 2 (.t 74)⟩])
  (.ret)))))
theorem comp4 : compFn Try.prog [] Try.f4 = some ([.t 2], c4) := by kernel_rfl
/-- topiary/lww.Check: 1 parameters, 41 slots. -/
def c11 : C :=
  .seq (.ops [⟨none, .bxL 1 (.t 0)⟩,
    ⟨none, .mv 2 (.c (.int .i64 0))⟩])
  (.seq (.block 0 (.cut (.seq (.ops [⟨none, .fa 4 (.t 1) 0⟩,
    ⟨none, .ld 5 (.t 4) 2 true⟩,
    ⟨none, .bld 6 [.int .i64 0, .int .i64 0] []⟩,
    ⟨none, .be 7 true [.int .i64, .int .i64] (.t 5) (.t 6)⟩,
    ⟨none, .mv 8 (.t 7)⟩,
    ⟨some (8, true), .fa 9 (.t 1) 0⟩,
    ⟨some (8, true), .ld 10 (.t 9) 2 true⟩,
    ⟨some (8, true), .ca (some 11) 30 [(.t 10)]⟩,
    ⟨some (8, true), .un 12 .not (.t 11)⟩,
    ⟨none, .pk 13 (.t 8) (.t 12) (.c (.bool false))⟩,
    ⟨none, .mv 3 (.t 13)⟩])
  (.cond (.t 3) (.skip)
    (.ops [⟨none, .fa 14 (.t 1) 3⟩,
      ⟨none, .ld 15 (.t 14) 2 true⟩,
      ⟨none, .ca (some 16) 30 [(.t 15)]⟩,
      ⟨none, .un 17 .not (.t 16)⟩,
      ⟨none, .mv 3 (.t 17)⟩])))
  (.cond (.t 3) (.seq (.ops [⟨none, .mv 2 (.c (.int .i64 2))⟩])
    (.ret))
    (.seq (.ops [⟨none, .fa 19 (.t 1) 2⟩,
      ⟨none, .ld 20 (.t 19) 1 false⟩,
      ⟨none, .bi 21 .neq (.t 20) (.c (.str []))⟩,
      ⟨none, .mv 22 (.t 21)⟩,
      ⟨some (22, true), .fa 23 (.t 1) 2⟩,
      ⟨some (22, true), .ld 24 (.t 23) 1 false⟩,
      ⟨some (22, true), .ca (some 25) 31 [(.t 24)]⟩,
      ⟨some (22, true), .un 26 .not (.t 25)⟩,
      ⟨none, .pk 27 (.t 22) (.t 26) (.c (.bool false))⟩,
      ⟨none, .mv 18 (.t 27)⟩])
    (.cond (.t 18) (.seq (.ops [⟨none, .mv 2 (.c (.int .i64 8))⟩])
      (.ret))
      (.seq (.ops [⟨none, .fa 29 (.t 1) 5⟩,
        ⟨none, .ld 30 (.t 29) 1 false⟩,
        ⟨none, .ln 31 .fn (.t 30)⟩,
        ⟨none, .bi 32 .gtr (.t 31) (.c (.int .i64 256))⟩,
        ⟨none, .mv 28 (.t 32)⟩])
      (.cond (.t 28) (.seq (.ops [⟨none, .mv 2 (.c (.int .i64 3))⟩])
        (.ret))
        (.seq (.ops [⟨none, .fa 34 (.t 1) 6⟩,
          ⟨none, .ld 35 (.t 34) 1 false⟩,
          ⟨none, .mv 36 (.t 35)⟩,
          ⟨some (36, true), .fa 37 (.t 1) 5⟩,
          ⟨some (36, true), .ld 38 (.t 37) 1 false⟩,
          ⟨some (36, true), .bi 39 .neq (.t 38) (.c (.str []))⟩,
          ⟨none, .pk 40 (.t 36) (.t 39) (.c (.bool false))⟩,
          ⟨none, .mv 33 (.t 40)⟩])
        (.cond (.t 33) (.seq (.ops [⟨none, .mv 2 (.c (.int .i64 2))⟩])
          (.ret))
          (.skip))))))))))
  (.seq (.ops [⟨none, .mv 2 (.c (.int .i64 0))⟩])
  (.ret)))
theorem comp11 : compFn Try.prog [1] Try.f11 = some ([.t 2], c11) := by kernel_rfl
/-- topiary/topiaryref13.Check: 1 parameters, 48 slots. -/
def c12 : C :=
  .seq (.ops [⟨none, .bxL 1 (.t 0)⟩,
    ⟨none, .mv 2 (.c (.int .i64 0))⟩])
  (.seq (.ops [⟨none, .fa 4 (.t 1) 0⟩,
    ⟨none, .fa 5 (.t 4) 0⟩,
    ⟨none, .ld 6 (.t 5) 1 false⟩,
    ⟨none, .bi 7 .eql (.t 6) (.c (.int .i64 0))⟩,
    ⟨none, .mv 8 (.t 7)⟩,
    ⟨some (8, true), .fa 9 (.t 1) 0⟩,
    ⟨some (8, true), .fa 10 (.t 9) 1⟩,
    ⟨some (8, true), .ld 11 (.t 10) 1 false⟩,
    ⟨some (8, true), .bi 12 .eql (.t 11) (.c (.int .i64 0))⟩,
    ⟨none, .pk 13 (.t 8) (.t 12) (.c (.bool false))⟩,
    ⟨none, .mv 3 (.t 13)⟩])
  (.seq (.seq (.ops [⟨none, .mv 14 (.t 3)⟩,
    ⟨none, .un 15 .not (.t 14)⟩,
    ⟨none, .mv 16 (.t 15)⟩,
    ⟨some (16, true), .fa 17 (.t 1) 0⟩,
    ⟨some (16, true), .ld 18 (.t 17) 2 true⟩,
    ⟨some (16, true), .ca (some 19) 32 [(.t 18)]⟩,
    ⟨some (16, true), .un 20 .not (.t 19)⟩,
    ⟨none, .pk 21 (.t 16) (.t 20) (.c (.bool false))⟩,
    ⟨none, .mv 22 (.t 21)⟩,
    ⟨some (22, false), .fa 23 (.t 1) 3⟩,
    ⟨some (22, false), .ld 24 (.t 23) 2 true⟩,
    ⟨some (22, false), .ca (some 25) 32 [(.t 24)]⟩,
    ⟨some (22, false), .un 26 .not (.t 25)⟩,
    ⟨none, .pk 27 (.t 22) (.c (.bool true)) (.t 26)⟩])
  (.cond (.t 27) (.seq (.ops [⟨none, .mv 2 (.c (.int .i64 2))⟩])
    (.ret))
    (.skip)))
  (.seq (.seq (.ops [⟨none, .fa 28 (.t 1) 2⟩,
    ⟨none, .ld 29 (.t 28) 1 false⟩,
    ⟨none, .bi 30 .neq (.t 29) (.c (.str []))⟩,
    ⟨none, .mv 31 (.t 30)⟩,
    ⟨some (31, true), .fa 32 (.t 1) 2⟩,
    ⟨some (31, true), .ld 33 (.t 32) 1 false⟩,
    ⟨some (31, true), .ca (some 34) 33 [(.t 33)]⟩,
    ⟨some (31, true), .un 35 .not (.t 34)⟩,
    ⟨none, .pk 36 (.t 31) (.t 35) (.c (.bool false))⟩])
  (.cond (.t 36) (.seq (.ops [⟨none, .mv 2 (.c (.int .i64 8))⟩])
    (.ret))
    (.skip)))
  (.seq (.seq (.ops [⟨none, .fa 37 (.t 1) 5⟩,
    ⟨none, .ld 38 (.t 37) 1 false⟩,
    ⟨none, .ln 39 .fn (.t 38)⟩,
    ⟨none, .bi 40 .gtr (.t 39) (.c (.int .i64 256))⟩])
  (.cond (.t 40) (.seq (.ops [⟨none, .mv 2 (.c (.int .i64 3))⟩])
    (.ret))
    (.skip)))
  (.seq (.seq (.ops [⟨none, .fa 41 (.t 1) 6⟩,
    ⟨none, .ld 42 (.t 41) 1 false⟩,
    ⟨none, .mv 43 (.t 42)⟩,
    ⟨some (43, true), .fa 44 (.t 1) 5⟩,
    ⟨some (43, true), .ld 45 (.t 44) 1 false⟩,
    ⟨some (43, true), .bi 46 .neq (.t 45) (.c (.str []))⟩,
    ⟨none, .pk 47 (.t 43) (.t 46) (.c (.bool false))⟩])
  (.cond (.t 47) (.seq (.ops [⟨none, .mv 2 (.c (.int .i64 2))⟩])
    (.ret))
    (.skip)))
  (.seq (.ops [⟨none, .mv 2 (.c (.int .i64 0))⟩])
  (.ret)))))))
theorem comp12 : compFn Try.prog [1] Try.f12 = some ([.t 2], c12) := by kernel_rfl
/-- topiary/lww.Wins: 2 parameters, 33 slots. -/
def c13 : C :=
  .seq (.ops [⟨none, .bxL 2 (.t 0)⟩,
    ⟨none, .bxL 3 (.t 1)⟩,
    ⟨none, .mv 4 (.c (.bool false))⟩])
  (.seq (.seq (.ops [⟨none, .fa 6 (.t 2) 3⟩,
    ⟨none, .ld 7 (.t 6) 2 true⟩,
    ⟨none, .fa 8 (.t 3) 3⟩,
    ⟨none, .ld 9 (.t 8) 2 true⟩,
    ⟨none, .ca (some 10) 34 [(.t 7), (.t 9)]⟩,
    ⟨none, .mv 5 (.t 10)⟩])
  (.seq (.ops [⟨none, .mv 11 (.t 5)⟩,
    ⟨none, .bi 12 .neq (.t 11) (.c (.int .i64 0))⟩])
  (.cond (.t 12) (.seq (.ops [⟨none, .mv 13 (.t 5)⟩,
      ⟨none, .bi 14 .gtr (.t 13) (.c (.int .i64 0))⟩,
      ⟨none, .mv 4 (.t 14)⟩])
    (.ret))
    (.skip))))
  (.seq (.seq (.ops [⟨none, .fa 15 (.t 2) 6⟩,
    ⟨none, .ld 16 (.t 15) 1 false⟩,
    ⟨none, .mv 17 (.t 16)⟩,
    ⟨some (17, false), .fa 18 (.t 3) 6⟩,
    ⟨some (17, false), .ld 19 (.t 18) 1 false⟩,
    ⟨none, .pk 20 (.t 17) (.c (.bool true)) (.t 19)⟩])
  (.cond (.t 20) (.seq (.ops [⟨none, .fa 21 (.t 3) 6⟩,
      ⟨none, .ld 22 (.t 21) 1 false⟩,
      ⟨none, .mv 23 (.t 22)⟩,
      ⟨some (23, true), .fa 24 (.t 2) 6⟩,
      ⟨some (23, true), .ld 25 (.t 24) 1 false⟩,
      ⟨some (23, true), .un 26 .not (.t 25)⟩,
      ⟨none, .pk 27 (.t 23) (.t 26) (.c (.bool false))⟩,
      ⟨none, .mv 4 (.t 27)⟩])
    (.ret))
    (.skip)))
  (.seq (.ops [⟨none, .fa 28 (.t 2) 5⟩,
    ⟨none, .ld 29 (.t 28) 1 false⟩,
    ⟨none, .fa 30 (.t 3) 5⟩,
    ⟨none, .ld 31 (.t 30) 1 false⟩,
    ⟨none, .bi 32 .gtr (.t 29) (.t 31)⟩,
    ⟨none, .mv 4 (.t 32)⟩])
  (.ret))))
theorem comp13 : compFn Try.prog [2, 3] Try.f13 = some ([.t 4], c13) := by kernel_rfl
/-- topiary/topiaryref13.Wins: 2 parameters, 32 slots. -/
def c14 : C :=
  .seq (.ops [⟨none, .bxL 2 (.t 0)⟩,
    ⟨none, .bxL 3 (.t 1)⟩,
    ⟨none, .mv 4 (.c (.bool false))⟩])
  (.seq (.seq (.ops [⟨none, .fa 5 (.t 2) 3⟩,
    ⟨none, .ld 6 (.t 5) 2 true⟩,
    ⟨none, .fa 7 (.t 3) 3⟩,
    ⟨none, .ld 8 (.t 7) 2 true⟩,
    ⟨none, .be 9 true [.int .i64, .int .i64] (.t 6) (.t 8)⟩])
  (.cond (.t 9) (.seq (.ops [⟨none, .fa 10 (.t 3) 3⟩,
      ⟨none, .ld 11 (.t 10) 2 true⟩,
      ⟨none, .fa 12 (.t 2) 3⟩,
      ⟨none, .ld 13 (.t 12) 2 true⟩,
      ⟨none, .ca (some 14) 35 [(.t 11), (.t 13)]⟩,
      ⟨none, .mv 4 (.t 14)⟩])
    (.ret))
    (.skip)))
  (.seq (.seq (.ops [⟨none, .fa 15 (.t 2) 6⟩,
    ⟨none, .ld 16 (.t 15) 1 false⟩,
    ⟨none, .fa 17 (.t 3) 6⟩,
    ⟨none, .ld 18 (.t 17) 1 false⟩,
    ⟨none, .bq 19 true .bool (.t 16) (.t 18)⟩])
  (.cond (.t 19) (.seq (.ops [⟨none, .fa 20 (.t 3) 6⟩,
      ⟨none, .ld 21 (.t 20) 1 false⟩,
      ⟨none, .mv 4 (.t 21)⟩])
    (.ret))
    (.skip)))
  (.seq (.ops [⟨none, .fa 22 (.t 2) 6⟩,
    ⟨none, .ld 23 (.t 22) 1 false⟩,
    ⟨none, .un 24 .not (.t 23)⟩,
    ⟨none, .mv 25 (.t 24)⟩,
    ⟨some (25, true), .fa 26 (.t 2) 5⟩,
    ⟨some (25, true), .ld 27 (.t 26) 1 false⟩,
    ⟨some (25, true), .fa 28 (.t 3) 5⟩,
    ⟨some (25, true), .ld 29 (.t 28) 1 false⟩,
    ⟨some (25, true), .bi 30 .gtr (.t 27) (.t 29)⟩,
    ⟨none, .pk 31 (.t 25) (.t 30) (.c (.bool false))⟩,
    ⟨none, .mv 4 (.t 31)⟩])
  (.ret))))
theorem comp14 : compFn Try.prog [2, 3] Try.f14 = some ([.t 4], c14) := by kernel_rfl
/-- topiary/topiarylaw13.awake: 0 parameters, 27 slots. -/
def c15 : C :=
  .seq (.ops [⟨none, .mv 0 (.c (.bool false))⟩])
  (.seq (.ops [⟨none, .ca (some 3) 18 []⟩,
    ⟨none, .mv 1 (.t 3)⟩])
  (.seq (.ops [⟨none, .bld 4 [.int .i64 0, .int .i64 0] [(0, 1, (.c (.int .i64 1)))]⟩,
    ⟨none, .bld 5 [.int .i64 0, .int .i64 0] [(0, 1, (.c (.int .i64 3)))]⟩,
    ⟨none, .bld 6 [.int .i64 0, .int .i64 0, .str [], .int .i64 0, .int .i64 0, .str [], .bool false] [(0, 2, (.t 4)), (2, 1, (.c (.str [99, 108, 97, 115, 115]))), (3, 2, (.t 5)), (5, 1, (.c (.str [97])))]⟩,
    ⟨none, .alL 2 [.int .i64 0, .int .i64 0, .str [], .int .i64 0, .int .i64 0, .str [], .bool false]⟩,
    ⟨none, .st (.t 2) (.t 6) 7⟩])
  (.seq (.ops [⟨none, .mv 7 (.t 1)⟩,
    ⟨none, .bq 8 true .ptr (.t 7) (.c (.ptr none))⟩,
    ⟨none, .mv 9 (.t 8)⟩,
    ⟨some (9, true), .mv 10 (.t 1)⟩,
    ⟨some (9, true), .ld 11 (.t 2) 7 true⟩,
    ⟨some (9, true), .ca (some 12) 20 [(.t 10), (.t 11)]⟩,
    ⟨some (9, true), .bi 13 .eql (.t 12) (.c (.int .i64 0))⟩,
    ⟨none, .pk 14 (.t 9) (.t 13) (.c (.bool false))⟩,
    ⟨none, .mv 15 (.t 14)⟩,
    ⟨some (15, true), .mv 16 (.t 1)⟩,
    ⟨some (15, true), .fa 17 (.t 2) 0⟩,
    ⟨some (15, true), .ld 18 (.t 17) 2 true⟩,
    ⟨some (15, true), .ca (some 19) 24 [(.t 16), (.t 18), (.c (.str [99, 108, 97, 115, 115]))]⟩,
    ⟨some (15, true), .bi 20 .eql (.t 19) (.c (.str [97]))⟩,
    ⟨none, .pk 21 (.t 15) (.t 20) (.c (.bool false))⟩,
    ⟨none, .mv 22 (.t 21)⟩,
    ⟨some (22, true), .bld 23 [.int .i64 0, .int .i64 0, .str [], .int .i64 0, .int .i64 0, .str [], .bool false] []⟩,
    ⟨some (22, true), .ca (some 24) 11 [(.t 23)]⟩,
    ⟨some (22, true), .bi 25 .eql (.t 24) (.c (.int .i64 2))⟩,
    ⟨none, .pk 26 (.t 22) (.t 25) (.c (.bool false))⟩,
    ⟨none, .mv 0 (.t 26)⟩])
  (.ret))))
theorem comp15 : compFn Try.prog [2] Try.f15 = some ([.t 0], c15) := by kernel_rfl
/-- topiary/topiarylaw13.laid: 1 parameters, 36 slots. -/
def c16 : C :=
  .seq (.ops [⟨none, .mv 2 (.c (.ptr none))⟩,
    ⟨none, .mv 3 (.c (.sl true .pub 7 []))⟩])
  (.seq (.ops [⟨none, .ca (some 7) 18 []⟩,
    ⟨none, .mv 4 (.t 7)⟩])
  (.seq (.ops [⟨none, .lit 8 7 []⟩,
    ⟨none, .mv 5 (.t 8)⟩])
  (.seq (.seq (.ops [⟨none, .mv 6 (.c (.int .i64 0))⟩])
  (.block 0 (.loop (.seq (.seq (.ops [⟨none, .mv 9 (.t 6)⟩,
    ⟨none, .mv 10 (.t 0)⟩,
    ⟨none, .ln 11 .sl (.t 10)⟩,
    ⟨none, .bi 12 .lss (.t 9) (.t 11)⟩,
    ⟨none, .mv 13 (.t 12)⟩,
    ⟨some (13, true), .mv 14 (.t 6)⟩,
    ⟨some (13, true), .bi 15 .lss (.t 14) (.c (.int .i64 200))⟩,
    ⟨none, .pk 16 (.t 13) (.t 15) (.c (.bool false))⟩])
  (.cond (.t 16) (.skip)
    (.exit 0)))
  (.seq (.block 1 (.seq (.ops [⟨none, .mv 19 (.t 4)⟩,
    ⟨none, .mv 20 (.t 0)⟩,
    ⟨none, .mv 21 (.t 6)⟩,
    ⟨none, .ia 22 (.t 20) (.t 21) 7⟩,
    ⟨none, .ld 23 (.t 22) 7 true⟩,
    ⟨none, .ca (some 24) 20 [(.t 19), (.t 23)]⟩])
  (.ops [⟨none, .mv 26 (.t 5)⟩,
    ⟨none, .mv 27 (.t 0)⟩,
    ⟨none, .mv 28 (.t 6)⟩,
    ⟨none, .ia 29 (.t 27) (.t 28) 7⟩,
    ⟨none, .ld 30 (.t 29) 7 true⟩,
    ⟨none, .ca (some 31) 19 [(.t 26), (.t 30)]⟩,
    ⟨none, .mv 25 (.t 31)⟩,
    ⟨none, .ex 32 (.t 25) 0⟩,
    ⟨none, .ex 33 (.t 25) 1⟩,
    ⟨none, .mv 5 (.t 32)⟩])))
  (.ops [⟨none, .mv 17 (.t 6)⟩,
    ⟨none, .bi 18 .add (.t 17) (.c (.int .i64 1))⟩,
    ⟨none, .mv 6 (.t 18)⟩]))))))
  (.seq (.ops [⟨none, .mv 34 (.t 4)⟩,
    ⟨none, .mv 35 (.t 5)⟩,
    ⟨none, .mv 2 (.t 34)⟩,
    ⟨none, .mv 3 (.t 35)⟩])
  (.ret)))))
theorem comp16 : compFn Try.prog [] Try.f16 = some ([.t 2, .t 3], c16) := by kernel_rfl
/-- (*topiary/lww.Regs).Get: 3 parameters, 26 slots. -/
def c17 : C :=
  .seq (.ops [⟨none, .bxL 4 (.t 1)⟩,
    ⟨none, .alL 6 [.int .i64 0, .int .i64 0, .str [], .int .i64 0, .int .i64 0, .str [], .bool false]⟩,
    ⟨none, .mv 7 (.c (.bool false))⟩])
  (.seq (.seq (.ops [⟨none, .mv 10 (.t 0)⟩,
    ⟨none, .bq 11 false .ptr (.t 10) (.c (.ptr none))⟩])
  (.cond (.t 11) (.seq (.ops [⟨none, .bld 12 [.int .i64 0, .int .i64 0, .str [], .int .i64 0, .int .i64 0, .str [], .bool false] []⟩,
      ⟨none, .st (.t 6) (.t 12) 7⟩,
      ⟨none, .mv 7 (.c (.bool false))⟩])
    (.ret))
    (.skip)))
  (.seq (.opsD [⟨none, .mv 14 (.t 0)⟩,
    ⟨none, .nc 15 (.t 14)⟩,
    ⟨none, .fa 16 (.t 15) 0⟩,
    ⟨none, .ld 17 (.t 16) 1 false⟩,
    ⟨none, .ld 18 (.t 4) 2 true⟩,
    ⟨none, .mv 19 (.t 2)⟩,
    ⟨none, .bld 20 [.int .i64 0, .int .i64 0, .str []] [(0, 2, (.t 18)), (2, 1, (.t 19))]⟩,
    ⟨none, .lk 21 [.agg, .int .i64, .int .i64, .str] (.t 17) (.t 20) true (.agg [.int .i64 0, .int .i64 0, .str [], .int .i64 0, .int .i64 0, .str [], .bool false])⟩,
    ⟨none, .mv 13 (.t 21)⟩,
    ⟨none, .ex 22 (.t 13) 0⟩,
    ⟨none, .ex 23 (.t 13) 1⟩,
    ⟨none, .alH 8 [.int .i64 0, .int .i64 0, .str [], .int .i64 0, .int .i64 0, .str [], .bool false]⟩,
    ⟨none, .st (.t 8) (.t 22) 7⟩,
    ⟨none, .mv 9 (.t 23)⟩])
  (.seq (.ops [⟨none, .ld 24 (.t 8) 7 true⟩,
    ⟨none, .mv 25 (.t 9)⟩,
    ⟨none, .st (.t 6) (.t 24) 7⟩,
    ⟨none, .mv 7 (.t 25)⟩])
  (.ret))))
theorem comp17 : compFn Try.prog [4, 6] Try.f17 = some ([.c 6 7 true, .t 7], c17) := by kernel_rfl
/-- topiary/lww.New: 0 parameters, 4 slots. -/
def c18 : C :=
  .seq (.ops [⟨none, .mv 0 (.c (.ptr none))⟩])
  (.seq (.ops [⟨none, .mm 1 [.agg, .int .i64, .int .i64, .str]⟩,
    ⟨none, .bld 2 [.map none] [(0, 1, (.t 1))]⟩,
    ⟨none, .bxH 3 (.t 2)⟩,
    ⟨none, .mv 0 (.t 3)⟩])
  (.ret))
theorem comp18 : compFn Try.prog [] Try.f18 = some ([.t 0], c18) := by kernel_rfl
/-- topiary/topiaryref13.Put: 2 parameters, 78 slots. -/
def c19 : C :=
  .seq (.ops [⟨none, .bxL 3 (.t 1)⟩,
    ⟨none, .mv 4 (.c (.sl true .pub 7 []))⟩,
    ⟨none, .mv 5 (.c (.int .i64 0))⟩])
  (.seq (.seq (.ops [⟨none, .ld 9 (.t 3) 7 true⟩,
    ⟨none, .ca (some 10) 12 [(.t 9)]⟩,
    ⟨none, .bi 11 .neq (.t 10) (.c (.int .i64 0))⟩])
  (.cond (.t 11) (.seq (.ops [⟨none, .mv 12 (.t 0)⟩,
      ⟨none, .ld 13 (.t 3) 7 true⟩,
      ⟨none, .ca (some 14) 12 [(.t 13)]⟩,
      ⟨none, .mv 4 (.t 12)⟩,
      ⟨none, .mv 5 (.t 14)⟩])
    (.ret))
    (.skip)))
  (.seq (.ops [⟨none, .lit 15 7 []⟩,
    ⟨none, .mv 6 (.t 15)⟩])
  (.seq (.ops [⟨none, .mv 7 (.c (.bool false))⟩])
  (.seq (.seq (.ops [⟨none, .mv 8 (.c (.int .i64 0))⟩])
  (.block 0 (.loop (.seq (.seq (.ops [⟨none, .mv 16 (.t 8)⟩,
    ⟨none, .mv 17 (.t 0)⟩,
    ⟨none, .ln 18 .sl (.t 17)⟩,
    ⟨none, .bi 19 .lss (.t 16) (.t 18)⟩])
  (.cond (.t 19) (.skip)
    (.exit 0)))
  (.cut (.block 1 (.cut (.seq (.opsD [⟨none, .mv 22 (.t 0)⟩,
    ⟨none, .mv 23 (.t 8)⟩,
    ⟨none, .ia 24 (.t 22) (.t 23) 7⟩,
    ⟨none, .fa 25 (.t 24) 0⟩,
    ⟨none, .ld 26 (.t 25) 2 true⟩,
    ⟨none, .fa 27 (.t 3) 0⟩,
    ⟨none, .ld 28 (.t 27) 2 true⟩,
    ⟨none, .be 29 false [.int .i64, .int .i64] (.t 26) (.t 28)⟩,
    ⟨none, .mv 30 (.t 29)⟩,
    ⟨some (30, true), .mv 31 (.t 0)⟩,
    ⟨some (30, true), .mv 32 (.t 8)⟩,
    ⟨some (30, true), .ia 33 (.t 31) (.t 32) 7⟩,
    ⟨some (30, true), .fa 34 (.t 33) 2⟩,
    ⟨some (30, true), .ld 35 (.t 34) 1 false⟩,
    ⟨some (30, true), .fa 36 (.t 3) 2⟩,
    ⟨some (30, true), .ld 37 (.t 36) 1 false⟩,
    ⟨some (30, true), .bi 38 .eql (.t 35) (.t 37)⟩,
    ⟨none, .pk 39 (.t 30) (.t 38) (.c (.bool false))⟩])
  (.cond (.t 39) (.seq (.ops [⟨none, .mv 7 (.c (.bool true))⟩])
    (.seq (.opsD [⟨none, .ld 40 (.t 3) 7 true⟩,
      ⟨none, .mv 41 (.t 0)⟩,
      ⟨none, .mv 42 (.t 8)⟩,
      ⟨none, .ia 43 (.t 41) (.t 42) 7⟩,
      ⟨none, .ld 44 (.t 43) 7 true⟩,
      ⟨none, .ca (some 45) 14 [(.t 40), (.t 44)]⟩])
    (.cond (.t 45) (.seq (.ops [⟨none, .mv 46 (.t 6)⟩,
        ⟨none, .ld 47 (.t 3) 7 true⟩,
        ⟨none, .lit 48 7 [(.t 47)]⟩,
        ⟨none, .ap 49 7 (.t 46) (.t 48)⟩,
        ⟨none, .mv 6 (.t 49)⟩])
      (.exit 1))
      (.skip))))
    (.skip)))
  (.cut (.seq (.opsD [⟨none, .mv 50 (.t 7)⟩,
    ⟨none, .un 51 .not (.t 50)⟩,
    ⟨none, .mv 52 (.t 51)⟩,
    ⟨some (52, true), .ld 53 (.t 3) 7 true⟩,
    ⟨some (52, true), .mv 54 (.t 0)⟩,
    ⟨some (52, true), .mv 55 (.t 8)⟩,
    ⟨some (52, true), .ia 56 (.t 54) (.t 55) 7⟩,
    ⟨some (52, true), .ld 57 (.t 56) 7 true⟩,
    ⟨some (52, true), .ca (some 58) 36 [(.t 53), (.t 57)]⟩,
    ⟨none, .pk 59 (.t 52) (.t 58) (.c (.bool false))⟩])
  (.cond (.t 59) (.seq (.ops [⟨none, .mv 60 (.t 6)⟩,
      ⟨none, .ld 61 (.t 3) 7 true⟩,
      ⟨none, .lit 62 7 [(.t 61)]⟩,
      ⟨none, .ap 63 7 (.t 60) (.t 62)⟩,
      ⟨none, .mv 6 (.t 63)⟩])
    (.ops [⟨none, .mv 7 (.c (.bool true))⟩]))
    (.skip)))
  (.ops [⟨none, .mv 64 (.t 6)⟩,
    ⟨none, .mv 65 (.t 0)⟩,
    ⟨none, .mv 66 (.t 8)⟩,
    ⟨none, .ia 67 (.t 65) (.t 66) 7⟩,
    ⟨none, .ld 68 (.t 67) 7 true⟩,
    ⟨none, .lit 69 7 [(.t 68)]⟩,
    ⟨none, .ap 70 7 (.t 64) (.t 69)⟩,
    ⟨none, .mv 6 (.t 70)⟩]))))
  (.ops [⟨none, .mv 20 (.t 8)⟩,
    ⟨none, .bi 21 .add (.t 20) (.c (.int .i64 1))⟩,
    ⟨none, .mv 8 (.t 21)⟩]))))))
  (.cut (.seq (.ops [⟨none, .mv 71 (.t 7)⟩,
    ⟨none, .un 72 .not (.t 71)⟩])
  (.cond (.t 72) (.ops [⟨none, .mv 73 (.t 6)⟩,
      ⟨none, .ld 74 (.t 3) 7 true⟩,
      ⟨none, .lit 75 7 [(.t 74)]⟩,
      ⟨none, .ap 76 7 (.t 73) (.t 75)⟩,
      ⟨none, .mv 6 (.t 76)⟩])
    (.skip)))
  (.seq (.ops [⟨none, .mv 77 (.t 6)⟩,
    ⟨none, .mv 4 (.t 77)⟩,
    ⟨none, .mv 5 (.c (.int .i64 0))⟩])
  (.ret)))))))
theorem comp19 : compFn Try.prog [3] Try.f19 = some ([.t 4, .t 5], c19) := by kernel_rfl
/-- (*topiary/lww.Regs).Put: 2 parameters, 43 slots. -/
def c20 : C :=
  .seq (.ops [⟨none, .bxL 3 (.t 1)⟩,
    ⟨none, .mv 4 (.c (.int .i64 0))⟩])
  (.seq (.seq (.ops [⟨none, .mv 9 (.t 0)⟩,
    ⟨none, .bq 10 false .ptr (.t 9) (.c (.ptr none))⟩])
  (.cond (.t 10) (.seq (.ops [⟨none, .mv 4 (.c (.int .i64 7))⟩])
    (.ret))
    (.skip)))
  (.seq (.seq (.ops [⟨none, .ld 11 (.t 3) 7 true⟩,
    ⟨none, .ca (some 12) 11 [(.t 11)]⟩,
    ⟨none, .mv 5 (.t 12)⟩])
  (.seq (.ops [⟨none, .mv 13 (.t 5)⟩,
    ⟨none, .bi 14 .neq (.t 13) (.c (.int .i64 0))⟩])
  (.cond (.t 14) (.seq (.ops [⟨none, .mv 15 (.t 5)⟩,
      ⟨none, .mv 4 (.t 15)⟩])
    (.ret))
    (.skip))))
  (.seq (.ops [⟨none, .fa 16 (.t 3) 0⟩,
    ⟨none, .ld 17 (.t 16) 2 true⟩,
    ⟨none, .fa 18 (.t 3) 2⟩,
    ⟨none, .ld 19 (.t 18) 1 false⟩,
    ⟨none, .bld 20 [.int .i64 0, .int .i64 0, .str []] [(0, 2, (.t 17)), (2, 1, (.t 19))]⟩,
    ⟨none, .alL 6 [.int .i64 0, .int .i64 0, .str []]⟩,
    ⟨none, .st (.t 6) (.t 20) 3⟩])
  (.cut (.seq (.opsD [⟨none, .mv 22 (.t 0)⟩,
    ⟨none, .nc 23 (.t 22)⟩,
    ⟨none, .fa 24 (.t 23) 0⟩,
    ⟨none, .ld 25 (.t 24) 1 false⟩,
    ⟨none, .ld 26 (.t 6) 3 true⟩,
    ⟨none, .lk 27 [.agg, .int .i64, .int .i64, .str] (.t 25) (.t 26) true (.agg [.int .i64 0, .int .i64 0, .str [], .int .i64 0, .int .i64 0, .str [], .bool false])⟩,
    ⟨none, .mv 21 (.t 27)⟩,
    ⟨none, .ex 28 (.t 21) 0⟩,
    ⟨none, .ex 29 (.t 21) 1⟩,
    ⟨none, .alH 7 [.int .i64 0, .int .i64 0, .str [], .int .i64 0, .int .i64 0, .str [], .bool false]⟩,
    ⟨none, .st (.t 7) (.t 28) 7⟩,
    ⟨none, .mv 8 (.t 29)⟩])
  (.seq (.ops [⟨none, .mv 30 (.t 8)⟩,
    ⟨none, .un 31 .not (.t 30)⟩,
    ⟨none, .mv 32 (.t 31)⟩,
    ⟨some (32, false), .ld 33 (.t 3) 7 true⟩,
    ⟨some (32, false), .ld 34 (.t 7) 7 true⟩,
    ⟨some (32, false), .ca (some 35) 13 [(.t 33), (.t 34)]⟩,
    ⟨none, .pk 36 (.t 32) (.c (.bool true)) (.t 35)⟩])
  (.cond (.t 36) (.opsD [⟨none, .mv 37 (.t 0)⟩,
      ⟨none, .nc 38 (.t 37)⟩,
      ⟨none, .fa 39 (.t 38) 0⟩,
      ⟨none, .ld 40 (.t 39) 1 false⟩,
      ⟨none, .ld 41 (.t 6) 3 true⟩,
      ⟨none, .ld 42 (.t 3) 7 true⟩,
      ⟨none, .mu [.agg, .int .i64, .int .i64, .str] (.t 40) (.t 41) (.t 42)⟩])
    (.skip))))
  (.seq (.ops [⟨none, .mv 4 (.c (.int .i64 0))⟩])
  (.ret))))))
theorem comp20 : compFn Try.prog [3, 6] Try.f20 = some ([.t 4], c20) := by kernel_rfl
/-- (*topiary/lww.Regs).Value: 3 parameters, 18 slots. -/
def c24 : C :=
  .seq (.ops [⟨none, .bxL 4 (.t 1)⟩,
    ⟨none, .mv 6 (.c (.str []))⟩])
  (.seq (.ops [⟨none, .mv 10 (.t 0)⟩,
    ⟨none, .ld 11 (.t 4) 2 true⟩,
    ⟨none, .mv 12 (.t 2)⟩,
    ⟨none, .ca (some 13) 17 [(.t 10), (.t 11), (.t 12)]⟩,
    ⟨none, .mv 9 (.t 13)⟩,
    ⟨none, .ex 14 (.t 9) 0⟩,
    ⟨none, .ex 15 (.t 9) 1⟩,
    ⟨none, .alL 7 [.int .i64 0, .int .i64 0, .str [], .int .i64 0, .int .i64 0, .str [], .bool false]⟩,
    ⟨none, .st (.t 7) (.t 14) 7⟩,
    ⟨none, .mv 8 (.t 15)⟩])
  (.seq (.ops [⟨none, .fa 16 (.t 7) 5⟩,
    ⟨none, .ld 17 (.t 16) 1 false⟩,
    ⟨none, .mv 6 (.t 17)⟩])
  (.ret)))
theorem comp24 : compFn Try.prog [4, 7] Try.f24 = some ([.t 6], c24) := by kernel_rfl
/-- topiary/ident.Right: 1 parameters, 16 slots. -/
def c30 : C :=
  .seq (.ops [⟨none, .bxL 1 (.t 0)⟩,
    ⟨none, .mv 2 (.c (.bool false))⟩])
  (.seq (.ops [⟨none, .fa 3 (.t 1) 0⟩,
    ⟨none, .ld 4 (.t 3) 1 false⟩,
    ⟨none, .bi 5 .geq (.t 4) (.c (.int .i64 1))⟩,
    ⟨none, .mv 6 (.t 5)⟩,
    ⟨some (6, true), .fa 7 (.t 1) 0⟩,
    ⟨some (6, true), .ld 8 (.t 7) 1 false⟩,
    ⟨some (6, true), .bi 9 .leq (.t 8) (.c (.int .i64 1099511627776))⟩,
    ⟨none, .pk 10 (.t 6) (.t 9) (.c (.bool false))⟩,
    ⟨none, .mv 11 (.t 10)⟩,
    ⟨some (11, true), .fa 12 (.t 1) 1⟩,
    ⟨some (11, true), .ld 13 (.t 12) 1 false⟩,
    ⟨some (11, true), .ca (some 14) 42 [(.t 13)]⟩,
    ⟨none, .pk 15 (.t 11) (.t 14) (.c (.bool false))⟩,
    ⟨none, .mv 2 (.t 15)⟩])
  (.ret))
theorem comp30 : compFn Try.prog [1] Try.f30 = some ([.t 2], c30) := by kernel_rfl
/-- topiary/change.Name: 1 parameters, 50 slots. -/
def c31 : C :=
  .seq (.ops [⟨none, .mv 2 (.c (.bool false))⟩])
  (.seq (.seq (.ops [⟨none, .mv 5 (.t 0)⟩,
    ⟨none, .ln 6 .fn (.t 5)⟩,
    ⟨none, .bi 7 .eql (.t 6) (.c (.int .i64 0))⟩,
    ⟨none, .mv 8 (.t 7)⟩,
    ⟨some (8, false), .mv 9 (.t 0)⟩,
    ⟨some (8, false), .ln 10 .fn (.t 9)⟩,
    ⟨some (8, false), .bi 11 .gtr (.t 10) (.c (.int .i64 32))⟩,
    ⟨none, .pk 12 (.t 8) (.c (.bool true)) (.t 11)⟩,
    ⟨none, .mv 13 (.t 12)⟩,
    ⟨some (13, false), .mv 14 (.t 0)⟩,
    ⟨some (13, false), .ix 15 (.t 14) (.c (.int .i64 0))⟩,
    ⟨some (13, false), .bi 16 .lss (.t 15) (.c (.int .u8 97))⟩,
    ⟨none, .pk 17 (.t 13) (.c (.bool true)) (.t 16)⟩,
    ⟨none, .mv 18 (.t 17)⟩,
    ⟨some (18, false), .mv 19 (.t 0)⟩,
    ⟨some (18, false), .ix 20 (.t 19) (.c (.int .i64 0))⟩,
    ⟨some (18, false), .bi 21 .gtr (.t 20) (.c (.int .u8 122))⟩,
    ⟨none, .pk 22 (.t 18) (.c (.bool true)) (.t 21)⟩])
  (.cond (.t 22) (.seq (.ops [⟨none, .mv 2 (.c (.bool false))⟩])
    (.ret))
    (.skip)))
  (.seq (.seq (.ops [⟨none, .mv 23 (.t 0)⟩,
    ⟨none, .ln 24 .fn (.t 23)⟩,
    ⟨none, .mv 25 (.c (.int .i64 0))⟩])
  (.block 0 (.loop (.seq (.ops [⟨none, .bi 26 .lss (.t 25) (.t 24)⟩])
  (.seq (.cond (.t 26) (.skip)
    (.exit 0))
  (.seq (.block 1 (.seq (.ops [⟨none, .mv 27 (.t 25)⟩,
    ⟨none, .mv 3 (.t 27)⟩])
  (.seq (.ops [⟨none, .mv 28 (.t 0)⟩,
    ⟨none, .mv 29 (.t 3)⟩,
    ⟨none, .ix 30 (.t 28) (.t 29)⟩,
    ⟨none, .mv 4 (.t 30)⟩])
  (.seq (.ops [⟨none, .mv 31 (.t 4)⟩,
    ⟨none, .bi 32 .lss (.t 31) (.c (.int .u8 97))⟩,
    ⟨none, .mv 33 (.t 32)⟩,
    ⟨some (33, false), .mv 34 (.t 4)⟩,
    ⟨some (33, false), .bi 35 .gtr (.t 34) (.c (.int .u8 122))⟩,
    ⟨none, .pk 36 (.t 33) (.c (.bool true)) (.t 35)⟩,
    ⟨none, .mv 37 (.t 36)⟩,
    ⟨some (37, true), .mv 38 (.t 4)⟩,
    ⟨some (37, true), .bi 39 .lss (.t 38) (.c (.int .u8 48))⟩,
    ⟨some (37, true), .mv 40 (.t 39)⟩,
    ⟨some (40, false), .mv 41 (.t 4)⟩,
    ⟨some (40, false), .bi 42 .gtr (.t 41) (.c (.int .u8 57))⟩,
    ⟨some (37, true), .pk 43 (.t 40) (.c (.bool true)) (.t 42)⟩,
    ⟨none, .pk 44 (.t 37) (.t 43) (.c (.bool false))⟩,
    ⟨none, .mv 45 (.t 44)⟩,
    ⟨some (45, true), .mv 46 (.t 4)⟩,
    ⟨some (45, true), .bi 47 .neq (.t 46) (.c (.int .u8 45))⟩,
    ⟨none, .pk 48 (.t 45) (.t 47) (.c (.bool false))⟩])
  (.cond (.t 48) (.seq (.ops [⟨none, .mv 2 (.c (.bool false))⟩])
    (.ret))
    (.skip))))))
  (.ops [⟨none, .bi 49 .add (.t 25) (.c (.int .i64 1))⟩,
    ⟨none, .mv 25 (.t 49)⟩])))))))
  (.seq (.ops [⟨none, .mv 2 (.c (.bool true))⟩])
  (.ret))))
theorem comp31 : compFn Try.prog [] Try.f31 = some ([.t 2], c31) := by kernel_rfl
/-- topiary/topiaryref01.Right: 1 parameters, 21 slots. -/
def c32 : C :=
  .seq (.ops [⟨none, .bxL 1 (.t 0)⟩,
    ⟨none, .mv 2 (.c (.bool false))⟩])
  (.seq (.ops [⟨none, .fa 3 (.t 1) 0⟩,
    ⟨none, .ld 4 (.t 3) 1 false⟩,
    ⟨none, .bi 5 .geq (.t 4) (.c (.int .i64 1))⟩,
    ⟨none, .mv 6 (.t 5)⟩,
    ⟨some (6, true), .fa 7 (.t 1) 0⟩,
    ⟨some (6, true), .ld 8 (.t 7) 1 false⟩,
    ⟨some (6, true), .bi 9 .leq (.t 8) (.c (.int .i64 1099511627776))⟩,
    ⟨none, .pk 10 (.t 6) (.t 9) (.c (.bool false))⟩,
    ⟨none, .mv 11 (.t 10)⟩,
    ⟨some (11, true), .fa 12 (.t 1) 1⟩,
    ⟨some (11, true), .ld 13 (.t 12) 1 false⟩,
    ⟨some (11, true), .bi 14 .geq (.t 13) (.c (.int .i64 0))⟩,
    ⟨none, .pk 15 (.t 11) (.t 14) (.c (.bool false))⟩,
    ⟨none, .mv 16 (.t 15)⟩,
    ⟨some (16, true), .fa 17 (.t 1) 1⟩,
    ⟨some (16, true), .ld 18 (.t 17) 1 false⟩,
    ⟨some (16, true), .bi 19 .lss (.t 18) (.c (.int .i64 64))⟩,
    ⟨none, .pk 20 (.t 16) (.t 19) (.c (.bool false))⟩,
    ⟨none, .mv 2 (.t 20)⟩])
  (.ret))
theorem comp32 : compFn Try.prog [1] Try.f32 = some ([.t 2], c32) := by kernel_rfl
/-- topiary/topiaryref05.Name: 1 parameters, 53 slots. -/
def c33 : C :=
  .seq (.ops [⟨none, .mv 2 (.c (.bool false))⟩])
  (.seq (.seq (.ops [⟨none, .mv 3 (.c (.int .i64 0))⟩])
  (.block 0 (.loop (.seq (.seq (.ops [⟨none, .mv 5 (.t 3)⟩,
    ⟨none, .mv 6 (.t 0)⟩,
    ⟨none, .ln 7 .fn (.t 6)⟩,
    ⟨none, .bi 8 .lss (.t 5) (.t 7)⟩])
  (.cond (.t 8) (.skip)
    (.exit 0)))
  (.seq (.block 1 (.seq (.ops [⟨none, .mv 11 (.t 0)⟩,
    ⟨none, .mv 12 (.t 3)⟩,
    ⟨none, .ix 13 (.t 11) (.t 12)⟩,
    ⟨none, .bi 14 .geq (.t 13) (.c (.int .u8 97))⟩,
    ⟨none, .mv 15 (.t 14)⟩,
    ⟨some (15, true), .mv 16 (.t 0)⟩,
    ⟨some (15, true), .mv 17 (.t 3)⟩,
    ⟨some (15, true), .ix 18 (.t 16) (.t 17)⟩,
    ⟨some (15, true), .bi 19 .leq (.t 18) (.c (.int .u8 122))⟩,
    ⟨none, .pk 20 (.t 15) (.t 19) (.c (.bool false))⟩,
    ⟨none, .mv 4 (.t 20)⟩])
  (.seq (.ops [⟨none, .mv 21 (.t 4)⟩,
    ⟨none, .un 22 .not (.t 21)⟩,
    ⟨none, .mv 23 (.t 22)⟩,
    ⟨some (23, true), .mv 24 (.t 3)⟩,
    ⟨some (23, true), .bi 25 .eql (.t 24) (.c (.int .i64 0))⟩,
    ⟨some (23, true), .mv 26 (.t 25)⟩,
    ⟨some (26, false), .mv 27 (.t 0)⟩,
    ⟨some (26, false), .mv 28 (.t 3)⟩,
    ⟨some (26, false), .ix 29 (.t 27) (.t 28)⟩,
    ⟨some (26, false), .bi 30 .neq (.t 29) (.c (.int .u8 45))⟩,
    ⟨some (26, false), .mv 31 (.t 30)⟩,
    ⟨some (31, true), .mv 32 (.t 0)⟩,
    ⟨some (31, true), .mv 33 (.t 3)⟩,
    ⟨some (31, true), .ix 34 (.t 32) (.t 33)⟩,
    ⟨some (31, true), .bi 35 .lss (.t 34) (.c (.int .u8 48))⟩,
    ⟨some (31, true), .mv 36 (.t 35)⟩,
    ⟨some (36, false), .mv 37 (.t 0)⟩,
    ⟨some (36, false), .mv 38 (.t 3)⟩,
    ⟨some (36, false), .ix 39 (.t 37) (.t 38)⟩,
    ⟨some (36, false), .bi 40 .gtr (.t 39) (.c (.int .u8 57))⟩,
    ⟨some (31, true), .pk 41 (.t 36) (.c (.bool true)) (.t 40)⟩,
    ⟨some (26, false), .pk 42 (.t 31) (.t 41) (.c (.bool false))⟩,
    ⟨some (23, true), .pk 43 (.t 26) (.c (.bool true)) (.t 42)⟩,
    ⟨none, .pk 44 (.t 23) (.t 43) (.c (.bool false))⟩])
  (.cond (.t 44) (.seq (.ops [⟨none, .mv 2 (.c (.bool false))⟩])
    (.ret))
    (.skip)))))
  (.ops [⟨none, .mv 9 (.t 3)⟩,
    ⟨none, .bi 10 .add (.t 9) (.c (.int .i64 1))⟩,
    ⟨none, .mv 3 (.t 10)⟩]))))))
  (.seq (.ops [⟨none, .mv 45 (.t 0)⟩,
    ⟨none, .ln 46 .fn (.t 45)⟩,
    ⟨none, .bi 47 .geq (.t 46) (.c (.int .i64 1))⟩,
    ⟨none, .mv 48 (.t 47)⟩,
    ⟨some (48, true), .mv 49 (.t 0)⟩,
    ⟨some (48, true), .ln 50 .fn (.t 49)⟩,
    ⟨some (48, true), .bi 51 .leq (.t 50) (.c (.int .i64 32))⟩,
    ⟨none, .pk 52 (.t 48) (.t 51) (.c (.bool false))⟩,
    ⟨none, .mv 2 (.t 52)⟩])
  (.ret)))
theorem comp33 : compFn Try.prog [] Try.f33 = some ([.t 2], c33) := by kernel_rfl
/-- topiary/ident.Compare: 2 parameters, 29 slots. -/
def c34 : C :=
  .seq (.ops [⟨none, .bxL 2 (.t 0)⟩,
    ⟨none, .bxL 3 (.t 1)⟩,
    ⟨none, .mv 4 (.c (.int .i64 0))⟩])
  (.seq (.block 0 (.seq (.ops [⟨none, .ld 6 (.t 2) 2 true⟩,
    ⟨none, .ld 7 (.t 3) 2 true⟩,
    ⟨none, .be 8 false [.int .i64, .int .i64] (.t 6) (.t 7)⟩,
    ⟨none, .mv 5 (.t 8)⟩])
  (.cond (.t 5) (.seq (.ops [⟨none, .mv 4 (.c (.int .i64 0))⟩])
    (.ret))
    (.seq (.ops [⟨none, .fa 10 (.t 2) 0⟩,
      ⟨none, .ld 11 (.t 10) 1 false⟩,
      ⟨none, .fa 12 (.t 3) 0⟩,
      ⟨none, .ld 13 (.t 12) 1 false⟩,
      ⟨none, .bi 14 .lss (.t 11) (.t 13)⟩,
      ⟨none, .mv 15 (.t 14)⟩,
      ⟨some (15, false), .fa 16 (.t 2) 0⟩,
      ⟨some (15, false), .ld 17 (.t 16) 1 false⟩,
      ⟨some (15, false), .fa 18 (.t 3) 0⟩,
      ⟨some (15, false), .ld 19 (.t 18) 1 false⟩,
      ⟨some (15, false), .bi 20 .eql (.t 17) (.t 19)⟩,
      ⟨some (15, false), .mv 21 (.t 20)⟩,
      ⟨some (21, true), .fa 22 (.t 2) 1⟩,
      ⟨some (21, true), .ld 23 (.t 22) 1 false⟩,
      ⟨some (21, true), .fa 24 (.t 3) 1⟩,
      ⟨some (21, true), .ld 25 (.t 24) 1 false⟩,
      ⟨some (21, true), .bi 26 .lss (.t 23) (.t 25)⟩,
      ⟨some (15, false), .pk 27 (.t 21) (.t 26) (.c (.bool false))⟩,
      ⟨none, .pk 28 (.t 15) (.c (.bool true)) (.t 27)⟩,
      ⟨none, .mv 9 (.t 28)⟩])
    (.cond (.t 9) (.seq (.ops [⟨none, .mv 4 (.c (.int .i64 (-1)))⟩])
      (.ret))
      (.skip))))))
  (.seq (.ops [⟨none, .mv 4 (.c (.int .i64 1))⟩])
  (.ret)))
theorem comp34 : compFn Try.prog [2, 3] Try.f34 = some ([.t 4], c34) := by kernel_rfl
/-- topiary/topiaryref01.Less: 2 parameters, 24 slots. -/
def c35 : C :=
  .seq (.ops [⟨none, .bxL 2 (.t 0)⟩,
    ⟨none, .bxL 3 (.t 1)⟩,
    ⟨none, .mv 4 (.c (.bool false))⟩])
  (.seq (.ops [⟨none, .fa 5 (.t 2) 0⟩,
    ⟨none, .ld 6 (.t 5) 1 false⟩,
    ⟨none, .fa 7 (.t 3) 0⟩,
    ⟨none, .ld 8 (.t 7) 1 false⟩,
    ⟨none, .bi 9 .lss (.t 6) (.t 8)⟩,
    ⟨none, .mv 10 (.t 9)⟩,
    ⟨some (10, false), .fa 11 (.t 2) 0⟩,
    ⟨some (10, false), .ld 12 (.t 11) 1 false⟩,
    ⟨some (10, false), .fa 13 (.t 3) 0⟩,
    ⟨some (10, false), .ld 14 (.t 13) 1 false⟩,
    ⟨some (10, false), .bi 15 .eql (.t 12) (.t 14)⟩,
    ⟨some (10, false), .mv 16 (.t 15)⟩,
    ⟨some (16, true), .fa 17 (.t 2) 1⟩,
    ⟨some (16, true), .ld 18 (.t 17) 1 false⟩,
    ⟨some (16, true), .fa 19 (.t 3) 1⟩,
    ⟨some (16, true), .ld 20 (.t 19) 1 false⟩,
    ⟨some (16, true), .bi 21 .lss (.t 18) (.t 20)⟩,
    ⟨some (10, false), .pk 22 (.t 16) (.t 21) (.c (.bool false))⟩,
    ⟨none, .pk 23 (.t 10) (.c (.bool true)) (.t 22)⟩,
    ⟨none, .mv 4 (.t 23)⟩])
  (.ret))
theorem comp35 : compFn Try.prog [2, 3] Try.f35 = some ([.t 4], c35) := by kernel_rfl
/-- topiary/topiaryref13.ahead: 2 parameters, 24 slots. -/
def c36 : C :=
  .seq (.ops [⟨none, .bxL 2 (.t 0)⟩,
    ⟨none, .bxL 3 (.t 1)⟩,
    ⟨none, .mv 4 (.c (.bool false))⟩])
  (.seq (.ops [⟨none, .fa 5 (.t 2) 0⟩,
    ⟨none, .ld 6 (.t 5) 2 true⟩,
    ⟨none, .fa 7 (.t 3) 0⟩,
    ⟨none, .ld 8 (.t 7) 2 true⟩,
    ⟨none, .ca (some 9) 35 [(.t 6), (.t 8)]⟩,
    ⟨none, .mv 10 (.t 9)⟩,
    ⟨some (10, false), .fa 11 (.t 2) 0⟩,
    ⟨some (10, false), .ld 12 (.t 11) 2 true⟩,
    ⟨some (10, false), .fa 13 (.t 3) 0⟩,
    ⟨some (10, false), .ld 14 (.t 13) 2 true⟩,
    ⟨some (10, false), .be 15 false [.int .i64, .int .i64] (.t 12) (.t 14)⟩,
    ⟨some (10, false), .mv 16 (.t 15)⟩,
    ⟨some (16, true), .fa 17 (.t 2) 2⟩,
    ⟨some (16, true), .ld 18 (.t 17) 1 false⟩,
    ⟨some (16, true), .fa 19 (.t 3) 2⟩,
    ⟨some (16, true), .ld 20 (.t 19) 1 false⟩,
    ⟨some (16, true), .bi 21 .lss (.t 18) (.t 20)⟩,
    ⟨some (10, false), .pk 22 (.t 16) (.t 21) (.c (.bool false))⟩,
    ⟨none, .pk 23 (.t 10) (.c (.bool true)) (.t 22)⟩,
    ⟨none, .mv 4 (.t 23)⟩])
  (.ret))
theorem comp36 : compFn Try.prog [2, 3] Try.f36 = some ([.t 4], c36) := by kernel_rfl
/-- topiary/ident.replica: 1 parameters, 9 slots. -/
def c42 : C :=
  .seq (.ops [⟨none, .mv 2 (.c (.bool false))⟩])
  (.seq (.ops [⟨none, .mv 3 (.t 0)⟩,
    ⟨none, .bi 4 .geq (.t 3) (.c (.int .i64 0))⟩,
    ⟨none, .mv 5 (.t 4)⟩,
    ⟨some (5, true), .mv 6 (.t 0)⟩,
    ⟨some (5, true), .bi 7 .lss (.t 6) (.c (.int .i64 64))⟩,
    ⟨none, .pk 8 (.t 5) (.t 7) (.c (.bool false))⟩,
    ⟨none, .mv 2 (.t 8)⟩])
  (.ret))
theorem comp42 : compFn Try.prog [] Try.f42 = some ([.t 2], c42) := by kernel_rfl
end Go.VL.lww
