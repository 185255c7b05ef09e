import Derived.Test.YtbhlnbffdhojcaaProg
import Derived.Test.YtbhlnbffdhojcaaVy
set_option linter.unusedVariables false
set_option linter.unusedSimpArgs false
namespace Go.VL
open Go Go.Proofs
/-- topiary/topiarylaw03.OctetApart: 2 parameters, 59 slots. -/
def c3 : C :=
  .seq (.ops [⟨none, .mv 4 (.c (.bool false))⟩])
  (.seq (.ops [⟨none, .mv 7 (.t 0)⟩,
    ⟨none, .lit 8 1 [(.t 7)]⟩,
    ⟨none, .ca (some 9) 9 [(.c (.sl true .pub 0 [])), (.t 8)]⟩,
    ⟨none, .mv 5 (.t 9)⟩])
  (.seq (.ops [⟨none, .mv 10 (.t 1)⟩,
    ⟨none, .lit 11 1 [(.t 10)]⟩,
    ⟨none, .ca (some 12) 9 [(.c (.sl true .pub 0 [])), (.t 11)]⟩,
    ⟨none, .mv 6 (.t 12)⟩])
  (.cut (.seq (.ops [⟨none, .mv 13 (.t 5)⟩,
    ⟨none, .ln 14 .sl (.t 13)⟩,
    ⟨none, .mv 15 (.t 6)⟩,
    ⟨none, .ln 16 .sl (.t 15)⟩,
    ⟨none, .bi 17 .gtr (.t 14) (.t 16)⟩])
  (.cond (.t 17) (.seq (.ops [⟨none, .mv 18 (.t 1)⟩,
      ⟨none, .lit 19 1 [(.t 18)]⟩,
      ⟨none, .ca (some 20) 9 [(.c (.sl true .pub 0 [])), (.t 19)]⟩,
      ⟨none, .mv 5 (.t 20)⟩])
    (.ops [⟨none, .mv 21 (.t 0)⟩,
      ⟨none, .lit 22 1 [(.t 21)]⟩,
      ⟨none, .ca (some 23) 9 [(.c (.sl true .pub 0 [])), (.t 22)]⟩,
      ⟨none, .mv 6 (.t 23)⟩]))
    (.skip)))
  (.seq (.opsD [⟨none, .mv 24 (.t 5)⟩,
    ⟨none, .ln 25 .sl (.t 24)⟩,
    ⟨none, .bi 26 .gtr (.t 25) (.c (.int .i64 0))⟩,
    ⟨none, .mv 27 (.t 26)⟩,
    ⟨some (27, true), .mv 28 (.t 5)⟩,
    ⟨some (27, true), .cS 29 (.t 28)⟩,
    ⟨some (27, true), .mv 30 (.t 6)⟩,
    ⟨some (27, true), .mv 31 (.t 5)⟩,
    ⟨some (27, true), .ln 32 .sl (.t 31)⟩,
    ⟨some (27, true), .sl 33 1 (.t 30) none (some (.t 32))⟩,
    ⟨some (27, true), .cS 34 (.t 33)⟩,
    ⟨some (27, true), .bi 35 .eql (.t 29) (.t 34)⟩,
    ⟨some (27, true), .mv 36 (.t 0)⟩,
    ⟨some (27, true), .mx 37 (.t 36) (.c (.int .i64 0))⟩,
    ⟨some (27, true), .mv 38 (.t 1)⟩,
    ⟨some (27, true), .mx 39 (.t 38) (.c (.int .i64 0))⟩,
    ⟨some (27, true), .bi 40 .eql (.t 37) (.t 39)⟩,
    ⟨some (27, true), .bq 41 false .bool (.t 35) (.t 40)⟩,
    ⟨none, .pk 42 (.t 27) (.t 41) (.c (.bool false))⟩,
    ⟨none, .mv 43 (.t 42)⟩,
    ⟨some (43, true), .mv 44 (.t 0)⟩,
    ⟨some (43, true), .mv 46 (.t 1)⟩,
    ⟨some (43, true), .mv 49 (.t 5)⟩,
    ⟨some (43, true), .ln 50 .sl (.t 49)⟩,
    ⟨some (43, true), .mv 51 (.t 6)⟩,
    ⟨some (43, true), .ln 52 .sl (.t 51)⟩,
    ⟨some (43, true), .bi 53 .add (.t 50) (.t 52)⟩,
    ⟨some (43, true), .ca (some 45) 10 [(.t 44)]⟩,
    ⟨some (43, true), .ca (some 47) 10 [(.t 46)]⟩,
    ⟨some (43, true), .bi 48 .add (.t 45) (.t 47)⟩,
    ⟨some (43, true), .bi 54 .eql (.t 48) (.t 53)⟩,
    ⟨none, .pk 55 (.t 43) (.t 54) (.c (.bool false))⟩,
    ⟨none, .mv 56 (.t 55)⟩,
    ⟨some (56, true), .ca (some 57) 11 []⟩,
    ⟨none, .pk 58 (.t 56) (.t 57) (.c (.bool false))⟩,
    ⟨none, .mv 4 (.t 58)⟩])
  (.ret)))))
theorem comp3 : compFn Try.prog [] Try.f3 = some ([.t 4], c3) := by kernel_rfl
/-- topiary/topiarylaw03.OctetPuts: 3 parameters, 99 slots. -/
def c4 : C :=
  .seq (.ops [⟨none, .mv 6 (.c (.bool false))⟩])
  (.seq (.ops [⟨none, .lit 14 1 []⟩,
    ⟨none, .mv 15 (.t 0)⟩,
    ⟨none, .ap 16 1 (.t 14) (.t 15)⟩,
    ⟨none, .mv 7 (.t 16)⟩])
  (.seq (.seq (.ops [⟨none, .mv 8 (.c (.int .i64 0))⟩])
  (.block 0 (.loop (.seq (.seq (.ops [⟨none, .mv 17 (.t 8)⟩,
    ⟨none, .mv 18 (.t 1)⟩,
    ⟨none, .ln 19 .sl (.t 18)⟩,
    ⟨none, .bi 20 .lss (.t 17) (.t 19)⟩])
  (.cond (.t 20) (.skip)
    (.exit 0)))
  (.seq (.block 1 (.seq (.ops [⟨none, .mv 23 (.t 7)⟩,
    ⟨none, .mv 24 (.t 1)⟩,
    ⟨none, .mv 25 (.t 8)⟩,
    ⟨none, .ia 26 (.t 24) (.t 25) 1⟩,
    ⟨none, .ld 27 (.t 26) 1 false⟩,
    ⟨none, .ca (some 28) 12 [(.t 23), (.t 27)]⟩,
    ⟨none, .mv 7 (.t 28)⟩])
  (.seq (.opsD [⟨none, .mv 29 (.t 1)⟩,
    ⟨none, .mv 30 (.t 8)⟩,
    ⟨none, .ia 31 (.t 29) (.t 30) 1⟩,
    ⟨none, .ld 32 (.t 31) 1 false⟩,
    ⟨none, .mv 34 (.t 1)⟩,
    ⟨none, .mv 35 (.t 8)⟩,
    ⟨none, .ia 36 (.t 34) (.t 35) 1⟩,
    ⟨none, .ld 37 (.t 36) 1 false⟩,
    ⟨none, .ca (some 33) 10 [(.t 32)]⟩,
    ⟨none, .ca (some 38) 12 [(.c (.sl true .pub 0 [])), (.t 37)]⟩,
    ⟨none, .ln 39 .sl (.t 38)⟩,
    ⟨none, .bi 40 .neq (.t 33) (.t 39)⟩])
  (.cond (.t 40) (.seq (.ops [⟨none, .mv 6 (.c (.bool false))⟩])
    (.ret))
    (.skip)))))
  (.ops [⟨none, .mv 21 (.t 8)⟩,
    ⟨none, .bi 22 .add (.t 21) (.c (.int .i64 1))⟩,
    ⟨none, .mv 8 (.t 22)⟩]))))))
  (.seq (.ops [⟨none, .mv 41 (.t 0)⟩,
    ⟨none, .ln 42 .sl (.t 41)⟩,
    ⟨none, .bi 43 .add (.t 42) (.c (.int .i64 64))⟩,
    ⟨none, .ms 44 [.int .u8 0] (.c (.int .i64 0)) (.t 43)⟩,
    ⟨none, .mv 45 (.t 0)⟩,
    ⟨none, .ap 46 1 (.t 44) (.t 45)⟩,
    ⟨none, .mv 9 (.t 46)⟩])
  (.seq (.ops [⟨none, .mv 47 (.t 9)⟩,
    ⟨none, .mv 48 (.t 1)⟩,
    ⟨none, .ca (some 49) 9 [(.t 47), (.t 48)]⟩,
    ⟨none, .mv 10 (.t 49)⟩])
  (.seq (.seq (.ops [⟨none, .mv 50 (.t 10)⟩,
    ⟨none, .cS 51 (.t 50)⟩,
    ⟨none, .mv 52 (.t 7)⟩,
    ⟨none, .cS 53 (.t 52)⟩,
    ⟨none, .bi 54 .neq (.t 51) (.t 53)⟩,
    ⟨none, .mv 55 (.t 54)⟩,
    ⟨some (55, false), .mv 56 (.t 9)⟩,
    ⟨some (55, false), .cS 57 (.t 56)⟩,
    ⟨some (55, false), .mv 58 (.t 0)⟩,
    ⟨some (55, false), .cS 59 (.t 58)⟩,
    ⟨some (55, false), .bi 60 .neq (.t 57) (.t 59)⟩,
    ⟨none, .pk 61 (.t 55) (.c (.bool true)) (.t 60)⟩])
  (.cond (.t 61) (.seq (.ops [⟨none, .mv 6 (.c (.bool false))⟩])
    (.ret))
    (.skip)))
  (.seq (.seq (.ops [⟨none, .mv 11 (.c (.int .i64 0))⟩])
  (.block 2 (.loop (.seq (.seq (.ops [⟨none, .mv 62 (.t 11)⟩,
    ⟨none, .mv 63 (.t 2)⟩,
    ⟨none, .ln 64 .sl (.t 63)⟩,
    ⟨none, .bi 65 .lss (.t 62) (.t 64)⟩])
  (.cond (.t 65) (.skip)
    (.exit 2)))
  (.seq (.block 3 (.ops [⟨none, .mv 68 (.t 7)⟩,
    ⟨none, .mv 69 (.t 2)⟩,
    ⟨none, .mv 70 (.t 11)⟩,
    ⟨none, .ia 71 (.t 69) (.t 70) 1⟩,
    ⟨none, .ld 72 (.t 71) 1 false⟩,
    ⟨none, .ca (some 73) 13 [(.t 68), (.t 72)]⟩,
    ⟨none, .mv 7 (.t 73)⟩]))
  (.ops [⟨none, .mv 66 (.t 11)⟩,
    ⟨none, .bi 67 .add (.t 66) (.c (.int .i64 1))⟩,
    ⟨none, .mv 11 (.t 67)⟩]))))))
  (.seq (.ops [⟨none, .mv 74 (.t 10)⟩,
    ⟨none, .mv 75 (.t 2)⟩,
    ⟨none, .ca (some 76) 14 [(.t 74), (.t 75)]⟩,
    ⟨none, .mv 12 (.t 76)⟩])
  (.seq (.seq (.ops [⟨none, .mv 13 (.c (.int .i64 0))⟩])
  (.block 4 (.loop (.seq (.seq (.ops [⟨none, .mv 77 (.t 13)⟩,
    ⟨none, .mv 78 (.t 10)⟩,
    ⟨none, .ln 79 .sl (.t 78)⟩,
    ⟨none, .bi 80 .lss (.t 77) (.t 79)⟩])
  (.cond (.t 80) (.skip)
    (.exit 4)))
  (.seq (.block 5 (.ops [⟨none, .mv 83 (.t 10)⟩,
    ⟨none, .mv 84 (.t 13)⟩,
    ⟨none, .mv 85 (.t 10)⟩,
    ⟨none, .mv 86 (.t 13)⟩,
    ⟨none, .ia 87 (.t 85) (.t 86) 1⟩,
    ⟨none, .ld 88 (.t 87) 1 false⟩,
    ⟨none, .bi 89 .sub (.c (.int .u8 255)) (.t 88)⟩,
    ⟨none, .ia 90 (.t 83) (.t 84) 1⟩,
    ⟨none, .se (.t 90) (.t 89) 1⟩]))
  (.ops [⟨none, .mv 81 (.t 13)⟩,
    ⟨none, .bi 82 .add (.t 81) (.c (.int .i64 1))⟩,
    ⟨none, .mv 13 (.t 82)⟩]))))))
  (.seq (.ops [⟨none, .mv 91 (.t 12)⟩,
    ⟨none, .cS 92 (.t 91)⟩,
    ⟨none, .mv 93 (.t 7)⟩,
    ⟨none, .cS 94 (.t 93)⟩,
    ⟨none, .bi 95 .eql (.t 92) (.t 94)⟩,
    ⟨none, .mv 96 (.t 95)⟩,
    ⟨some (96, true), .ca (some 97) 11 []⟩,
    ⟨none, .pk 98 (.t 96) (.t 97) (.c (.bool false))⟩,
    ⟨none, .mv 6 (.t 98)⟩])
  (.ret))))))))))
theorem comp4 : compFn Try.prog [1000090] Try.f4 = some ([.t 6], c4) := by kernel_rfl
/-- topiary/topiarylaw03.OctetBack: 2 parameters, 58 slots. -/
def c5 : C :=
  .seq (.ops [⟨none, .mv 4 (.c (.bool false))⟩])
  (.seq (.ops [⟨none, .mv 8 (.t 0)⟩,
    ⟨none, .ca (some 9) 9 [(.c (.sl true .pub 0 [])), (.t 8)]⟩,
    ⟨none, .mv 10 (.t 1)⟩,
    ⟨none, .ca (some 11) 14 [(.t 9), (.t 10)]⟩,
    ⟨none, .ca (some 12) 15 [(.t 11)]⟩,
    ⟨none, .mv 5 (.t 12)⟩])
  (.seq (.seq (.ops [⟨none, .mv 13 (.t 5)⟩,
    ⟨none, .bq 14 false .ptr (.t 13) (.c (.ptr none))⟩])
  (.cond (.t 14) (.seq (.ops [⟨none, .mv 4 (.c (.bool false))⟩])
    (.ret))
    (.skip)))
  (.seq (.seq (.ops [⟨none, .mv 6 (.c (.int .i64 0))⟩])
  (.block 0 (.loop (.seq (.seq (.ops [⟨none, .mv 15 (.t 6)⟩,
    ⟨none, .mv 16 (.t 0)⟩,
    ⟨none, .ln 17 .sl (.t 16)⟩,
    ⟨none, .bi 18 .lss (.t 15) (.t 17)⟩])
  (.cond (.t 18) (.skip)
    (.exit 0)))
  (.seq (.block 1 (.seq (.opsD [⟨none, .mv 21 (.t 5)⟩,
    ⟨none, .mv 23 (.t 0)⟩,
    ⟨none, .mv 24 (.t 6)⟩,
    ⟨none, .ia 25 (.t 23) (.t 24) 1⟩,
    ⟨none, .ld 26 (.t 25) 1 false⟩,
    ⟨none, .mx 27 (.t 26) (.c (.int .i64 0))⟩,
    ⟨none, .ca (some 22) 16 [(.t 21)]⟩,
    ⟨none, .bi 28 .neq (.t 22) (.t 27)⟩])
  (.cond (.t 28) (.seq (.ops [⟨none, .mv 4 (.c (.bool false))⟩])
    (.ret))
    (.skip))))
  (.ops [⟨none, .mv 19 (.t 6)⟩,
    ⟨none, .bi 20 .add (.t 19) (.c (.int .i64 1))⟩,
    ⟨none, .mv 6 (.t 20)⟩]))))))
  (.seq (.seq (.ops [⟨none, .mv 7 (.c (.int .i64 0))⟩])
  (.block 2 (.loop (.seq (.seq (.ops [⟨none, .mv 29 (.t 7)⟩,
    ⟨none, .mv 30 (.t 1)⟩,
    ⟨none, .ln 31 .sl (.t 30)⟩,
    ⟨none, .bi 32 .lss (.t 29) (.t 31)⟩])
  (.cond (.t 32) (.skip)
    (.exit 2)))
  (.seq (.block 3 (.seq (.opsD [⟨none, .mv 35 (.t 5)⟩,
    ⟨none, .mv 36 (.t 1)⟩,
    ⟨none, .mv 37 (.t 7)⟩,
    ⟨none, .ia 38 (.t 36) (.t 37) 1⟩,
    ⟨none, .ld 39 (.t 38) 1 false⟩,
    ⟨none, .ln 40 .fn (.t 39)⟩,
    ⟨none, .mv 42 (.t 1)⟩,
    ⟨none, .mv 43 (.t 7)⟩,
    ⟨none, .ia 44 (.t 42) (.t 43) 1⟩,
    ⟨none, .ld 45 (.t 44) 1 false⟩,
    ⟨none, .ca (some 41) 17 [(.t 35), (.t 40)]⟩,
    ⟨none, .bi 46 .neq (.t 41) (.t 45)⟩])
  (.cond (.t 46) (.seq (.ops [⟨none, .mv 4 (.c (.bool false))⟩])
    (.ret))
    (.skip))))
  (.ops [⟨none, .mv 33 (.t 7)⟩,
    ⟨none, .bi 34 .add (.t 33) (.c (.int .i64 1))⟩,
    ⟨none, .mv 7 (.t 34)⟩]))))))
  (.seq (.ops [⟨none, .mv 47 (.t 5)⟩,
    ⟨none, .ca (some 48) 18 [(.t 47)]⟩,
    ⟨none, .bi 49 .eql (.t 48) (.c (.int .i64 0))⟩,
    ⟨none, .mv 50 (.t 49)⟩,
    ⟨some (50, true), .mv 51 (.t 5)⟩,
    ⟨some (50, true), .ca (some 52) 19 [(.t 51)]⟩,
    ⟨some (50, true), .bi 53 .eql (.t 52) (.c (.int .i64 0))⟩,
    ⟨none, .pk 54 (.t 50) (.t 53) (.c (.bool false))⟩,
    ⟨none, .mv 55 (.t 54)⟩,
    ⟨some (55, true), .ca (some 56) 11 []⟩,
    ⟨none, .pk 57 (.t 55) (.t 56) (.c (.bool false))⟩,
    ⟨none, .mv 4 (.t 57)⟩])
  (.ret))))))
theorem comp5 : compFn Try.prog [] Try.f5 = some ([.t 4], c5) := by kernel_rfl
/-- topiary/topiarylaw03.OctetReads: 2 parameters, 146 slots. -/
def c6 : C :=
  .seq (.ops [⟨none, .mv 4 (.c (.bool false))⟩])
  (.seq (.ops [⟨none, .lit 15 1 []⟩,
    ⟨none, .mv 16 (.t 0)⟩,
    ⟨none, .ap 17 1 (.t 15) (.t 16)⟩,
    ⟨none, .mv 5 (.t 17)⟩])
  (.seq (.ops [⟨none, .mv 18 (.t 5)⟩,
    ⟨none, .ca (some 19) 15 [(.t 18)]⟩,
    ⟨none, .mv 6 (.t 19)⟩])
  (.seq (.ops [⟨none, .mv 20 (.t 0)⟩,
    ⟨none, .bld 21 [.sl true .pub 0 [], .int .i64 0, .int .i64 0, .int .i64 0] [(0, 1, (.t 20))]⟩,
    ⟨none, .alL 7 [.sl true .pub 0 [], .int .i64 0, .int .i64 0, .int .i64 0]⟩,
    ⟨none, .st (.t 7) (.t 21) 4⟩])
  (.seq (.seq (.ops [⟨none, .mv 22 (.t 6)⟩,
    ⟨none, .bq 23 false .ptr (.t 22) (.c (.ptr none))⟩])
  (.cond (.t 23) (.seq (.ops [⟨none, .mv 4 (.c (.bool false))⟩])
    (.ret))
    (.skip)))
  (.seq (.seq (.ops [⟨none, .mv 8 (.c (.int .i64 0))⟩])
  (.block 0 (.loop (.seq (.seq (.ops [⟨none, .mv 24 (.t 8)⟩,
    ⟨none, .mv 25 (.t 5)⟩,
    ⟨none, .ln 26 .sl (.t 25)⟩,
    ⟨none, .bi 27 .lss (.t 24) (.t 26)⟩])
  (.cond (.t 27) (.skip)
    (.exit 0)))
  (.seq (.block 1 (.ops [⟨none, .mv 30 (.t 5)⟩,
    ⟨none, .mv 31 (.t 8)⟩,
    ⟨none, .mv 32 (.t 5)⟩,
    ⟨none, .mv 33 (.t 8)⟩,
    ⟨none, .ia 34 (.t 32) (.t 33) 1⟩,
    ⟨none, .ld 35 (.t 34) 1 false⟩,
    ⟨none, .bi 36 .sub (.c (.int .u8 255)) (.t 35)⟩,
    ⟨none, .ia 37 (.t 30) (.t 31) 1⟩,
    ⟨none, .se (.t 37) (.t 36) 1⟩]))
  (.ops [⟨none, .mv 28 (.t 8)⟩,
    ⟨none, .bi 29 .add (.t 28) (.c (.int .i64 1))⟩,
    ⟨none, .mv 8 (.t 29)⟩]))))))
  (.seq (.seq (.ops [⟨none, .mv 9 (.c (.int .i64 0))⟩])
  (.block 2 (.loop (.seq (.seq (.ops [⟨none, .mv 38 (.t 9)⟩,
    ⟨none, .mv 39 (.t 1)⟩,
    ⟨none, .ln 40 .sl (.t 39)⟩,
    ⟨none, .bi 41 .lss (.t 38) (.t 40)⟩])
  (.cond (.t 41) (.skip)
    (.exit 2)))
  (.seq (.block 3 (.seq (.ops [⟨none, .mv 10 (.c (.int .i64 0))⟩])
  (.seq (.ops [⟨none, .mv 11 (.c (.str []))⟩])
  (.seq (.ops [⟨none, .mv 12 (.c (.bool true))⟩])
  (.cut (.seq (.ops [⟨none, .mv 44 (.t 1)⟩,
    ⟨none, .mv 45 (.t 9)⟩,
    ⟨none, .ia 46 (.t 44) (.t 45) 2⟩,
    ⟨none, .fa 47 (.t 46) 0⟩,
    ⟨none, .ld 48 (.t 47) 1 false⟩])
  (.block 4 (.seq (.ops [⟨none, .bi 50 .eql (.t 48) (.c (.int .i64 0))⟩,
    ⟨none, .mv 49 (.t 50)⟩])
  (.cond (.t 49) (.seq (.ops [⟨none, .ld 52 (.t 7) 4 true⟩,
      ⟨none, .ca (some 53) 20 [(.t 52)]⟩,
      ⟨none, .mv 51 (.t 53)⟩,
      ⟨none, .ex 54 (.t 51) 0⟩,
      ⟨none, .ex 55 (.t 51) 1⟩,
      ⟨none, .st (.t 7) (.t 54) 4⟩,
      ⟨none, .mv 10 (.t 55)⟩])
    (.ops [⟨none, .mv 56 (.t 6)⟩,
      ⟨none, .ca (some 57) 16 [(.t 56)]⟩,
      ⟨none, .mv 58 (.t 10)⟩,
      ⟨none, .bi 59 .eql (.t 57) (.t 58)⟩,
      ⟨none, .mv 12 (.t 59)⟩]))
    (.seq (.ops [⟨none, .bi 61 .eql (.t 48) (.c (.int .i64 1))⟩,
      ⟨none, .mv 60 (.t 61)⟩])
    (.cond (.t 60) (.seq (.opsD [⟨none, .ld 63 (.t 7) 4 true⟩,
        ⟨none, .mv 64 (.t 1)⟩,
        ⟨none, .mv 65 (.t 9)⟩,
        ⟨none, .ia 66 (.t 64) (.t 65) 2⟩,
        ⟨none, .fa 67 (.t 66) 1⟩,
        ⟨none, .ld 68 (.t 67) 1 false⟩,
        ⟨none, .ca (some 69) 21 [(.t 63), (.t 68)]⟩,
        ⟨none, .mv 62 (.t 69)⟩,
        ⟨none, .ex 70 (.t 62) 0⟩,
        ⟨none, .ex 71 (.t 62) 1⟩,
        ⟨none, .st (.t 7) (.t 70) 4⟩,
        ⟨none, .mv 10 (.t 71)⟩])
      (.ops [⟨none, .mv 72 (.t 6)⟩,
        ⟨none, .mv 73 (.t 1)⟩,
        ⟨none, .mv 74 (.t 9)⟩,
        ⟨none, .ia 75 (.t 73) (.t 74) 2⟩,
        ⟨none, .fa 76 (.t 75) 1⟩,
        ⟨none, .ld 77 (.t 76) 1 false⟩,
        ⟨none, .ca (some 78) 22 [(.t 72), (.t 77)]⟩,
        ⟨none, .mv 79 (.t 10)⟩,
        ⟨none, .bi 80 .eql (.t 78) (.t 79)⟩,
        ⟨none, .mv 12 (.t 80)⟩]))
      (.seq (.ops [⟨none, .bi 82 .eql (.t 48) (.c (.int .i64 2))⟩,
        ⟨none, .mv 81 (.t 82)⟩])
      (.cond (.t 81) (.seq (.opsD [⟨none, .ld 84 (.t 7) 4 true⟩,
          ⟨none, .mv 85 (.t 1)⟩,
          ⟨none, .mv 86 (.t 9)⟩,
          ⟨none, .ia 87 (.t 85) (.t 86) 2⟩,
          ⟨none, .fa 88 (.t 87) 1⟩,
          ⟨none, .ld 89 (.t 88) 1 false⟩,
          ⟨none, .ca (some 90) 23 [(.t 84), (.t 89)]⟩,
          ⟨none, .mv 83 (.t 90)⟩,
          ⟨none, .ex 91 (.t 83) 0⟩,
          ⟨none, .ex 92 (.t 83) 1⟩,
          ⟨none, .st (.t 7) (.t 91) 4⟩,
          ⟨none, .mv 11 (.t 92)⟩])
        (.ops [⟨none, .mv 93 (.t 6)⟩,
          ⟨none, .mv 94 (.t 1)⟩,
          ⟨none, .mv 95 (.t 9)⟩,
          ⟨none, .ia 96 (.t 94) (.t 95) 2⟩,
          ⟨none, .fa 97 (.t 96) 1⟩,
          ⟨none, .ld 98 (.t 97) 1 false⟩,
          ⟨none, .ca (some 99) 17 [(.t 93), (.t 98)]⟩,
          ⟨none, .mv 100 (.t 11)⟩,
          ⟨none, .bi 101 .eql (.t 99) (.t 100)⟩,
          ⟨none, .mv 12 (.t 101)⟩]))
        (.ops [⟨none, .mv 12 (.c (.bool true))⟩])))))))))
  (.seq (.ops [⟨none, .mv 103 (.t 6)⟩,
    ⟨none, .ca (some 104) 24 [(.t 103)]⟩,
    ⟨none, .mv 102 (.t 104)⟩,
    ⟨none, .ex 105 (.t 102) 0⟩,
    ⟨none, .ex 106 (.t 102) 1⟩,
    ⟨none, .mv 13 (.t 105)⟩,
    ⟨none, .mv 14 (.t 106)⟩])
  (.seq (.opsD [⟨none, .mv 107 (.t 12)⟩,
    ⟨none, .un 108 .not (.t 107)⟩,
    ⟨none, .mv 109 (.t 108)⟩,
    ⟨some (109, false), .mv 110 (.t 13)⟩,
    ⟨some (109, false), .fa 111 (.t 7) 2⟩,
    ⟨some (109, false), .ld 112 (.t 111) 1 false⟩,
    ⟨some (109, false), .bi 113 .neq (.t 110) (.t 112)⟩,
    ⟨none, .pk 114 (.t 109) (.c (.bool true)) (.t 113)⟩,
    ⟨none, .mv 115 (.t 114)⟩,
    ⟨some (115, false), .mv 116 (.t 14)⟩,
    ⟨some (115, false), .fa 117 (.t 7) 3⟩,
    ⟨some (115, false), .ld 118 (.t 117) 1 false⟩,
    ⟨some (115, false), .bi 119 .neq (.t 116) (.t 118)⟩,
    ⟨none, .pk 120 (.t 115) (.c (.bool true)) (.t 119)⟩,
    ⟨none, .mv 121 (.t 120)⟩,
    ⟨some (121, false), .mv 122 (.t 6)⟩,
    ⟨some (121, false), .fa 124 (.t 7) 1⟩,
    ⟨some (121, false), .ld 125 (.t 124) 1 false⟩,
    ⟨some (121, false), .ca (some 123) 25 [(.t 122)]⟩,
    ⟨some (121, false), .bi 126 .neq (.t 123) (.t 125)⟩,
    ⟨none, .pk 127 (.t 121) (.c (.bool true)) (.t 126)⟩,
    ⟨none, .mv 128 (.t 127)⟩,
    ⟨some (128, false), .mv 129 (.t 6)⟩,
    ⟨some (128, false), .mv 131 (.t 0)⟩,
    ⟨some (128, false), .ln 132 .sl (.t 131)⟩,
    ⟨some (128, false), .fa 133 (.t 7) 1⟩,
    ⟨some (128, false), .ld 134 (.t 133) 1 false⟩,
    ⟨some (128, false), .bi 135 .sub (.t 132) (.t 134)⟩,
    ⟨some (128, false), .ca (some 130) 19 [(.t 129)]⟩,
    ⟨some (128, false), .bi 136 .neq (.t 130) (.t 135)⟩,
    ⟨none, .pk 137 (.t 128) (.c (.bool true)) (.t 136)⟩,
    ⟨none, .mv 138 (.t 137)⟩,
    ⟨some (138, false), .mv 139 (.t 6)⟩,
    ⟨some (138, false), .ld 141 (.t 7) 4 true⟩,
    ⟨some (138, false), .ca (some 140) 18 [(.t 139)]⟩,
    ⟨some (138, false), .ca (some 142) 26 [(.t 141)]⟩,
    ⟨some (138, false), .bi 143 .neq (.t 140) (.t 142)⟩,
    ⟨none, .pk 144 (.t 138) (.c (.bool true)) (.t 143)⟩])
  (.cond (.t 144) (.seq (.ops [⟨none, .mv 4 (.c (.bool false))⟩])
    (.ret))
    (.skip)))))))))
  (.ops [⟨none, .mv 42 (.t 9)⟩,
    ⟨none, .bi 43 .add (.t 42) (.c (.int .i64 1))⟩,
    ⟨none, .mv 9 (.t 43)⟩]))))))
  (.seq (.ops [⟨none, .ca (some 145) 11 []⟩,
    ⟨none, .mv 4 (.t 145)⟩])
  (.ret))))))))
theorem comp6 : compFn Try.prog [7, 1000037] Try.f6 = some ([.t 4], c6) := by kernel_rfl
/-- topiary/topiarylaw03.OctetNil: 1 parameters, 52 slots. -/
def c7 : C :=
  .seq (.ops [⟨none, .mv 2 (.c (.bool false))⟩])
  (.seq (.ops [⟨none, .mv 3 (.c (.ptr none))⟩])
  (.seq (.ops [⟨none, .mv 7 (.t 3)⟩,
    ⟨none, .ca (some 8) 24 [(.t 7)]⟩,
    ⟨none, .mv 6 (.t 8)⟩,
    ⟨none, .ex 9 (.t 6) 0⟩,
    ⟨none, .ex 10 (.t 6) 1⟩,
    ⟨none, .mv 4 (.t 9)⟩,
    ⟨none, .mv 5 (.t 10)⟩])
  (.seq (.ops [⟨none, .mv 11 (.t 3)⟩,
    ⟨none, .ca (some 12) 16 [(.t 11)]⟩,
    ⟨none, .bi 13 .eql (.t 12) (.c (.int .i64 0))⟩,
    ⟨none, .mv 14 (.t 13)⟩,
    ⟨some (14, true), .mv 15 (.t 3)⟩,
    ⟨some (14, true), .mv 16 (.t 0)⟩,
    ⟨some (14, true), .ca (some 17) 22 [(.t 15), (.t 16)]⟩,
    ⟨some (14, true), .bi 18 .eql (.t 17) (.c (.int .i64 0))⟩,
    ⟨none, .pk 19 (.t 14) (.t 18) (.c (.bool false))⟩,
    ⟨none, .mv 20 (.t 19)⟩,
    ⟨some (20, true), .mv 21 (.t 3)⟩,
    ⟨some (20, true), .mv 22 (.t 0)⟩,
    ⟨some (20, true), .ca (some 23) 17 [(.t 21), (.t 22)]⟩,
    ⟨some (20, true), .bi 24 .eql (.t 23) (.c (.str []))⟩,
    ⟨none, .pk 25 (.t 20) (.t 24) (.c (.bool false))⟩,
    ⟨none, .mv 26 (.t 25)⟩,
    ⟨some (26, true), .mv 27 (.t 3)⟩,
    ⟨some (26, true), .ca (some 28) 19 [(.t 27)]⟩,
    ⟨some (26, true), .bi 29 .eql (.t 28) (.c (.int .i64 0))⟩,
    ⟨none, .pk 30 (.t 26) (.t 29) (.c (.bool false))⟩,
    ⟨none, .mv 31 (.t 30)⟩,
    ⟨some (31, true), .mv 32 (.t 3)⟩,
    ⟨some (31, true), .ca (some 33) 25 [(.t 32)]⟩,
    ⟨some (31, true), .bi 34 .eql (.t 33) (.c (.int .i64 0))⟩,
    ⟨none, .pk 35 (.t 31) (.t 34) (.c (.bool false))⟩,
    ⟨none, .mv 36 (.t 35)⟩,
    ⟨some (36, true), .mv 37 (.t 4)⟩,
    ⟨some (36, true), .bi 38 .eql (.t 37) (.c (.int .i64 0))⟩,
    ⟨none, .pk 39 (.t 36) (.t 38) (.c (.bool false))⟩,
    ⟨none, .mv 40 (.t 39)⟩,
    ⟨some (40, true), .mv 41 (.t 5)⟩,
    ⟨some (40, true), .bi 42 .eql (.t 41) (.c (.int .i64 0))⟩,
    ⟨none, .pk 43 (.t 40) (.t 42) (.c (.bool false))⟩,
    ⟨none, .mv 44 (.t 43)⟩,
    ⟨some (44, true), .mv 45 (.t 3)⟩,
    ⟨some (44, true), .ca (some 46) 18 [(.t 45)]⟩,
    ⟨some (44, true), .bi 47 .eql (.t 46) (.c (.int .i64 0))⟩,
    ⟨none, .pk 48 (.t 44) (.t 47) (.c (.bool false))⟩,
    ⟨none, .mv 49 (.t 48)⟩,
    ⟨some (49, true), .ca (some 50) 11 []⟩,
    ⟨none, .pk 51 (.t 49) (.t 50) (.c (.bool false))⟩,
    ⟨none, .mv 2 (.t 51)⟩])
  (.ret))))
theorem comp7 : compFn Try.prog [] Try.f7 = some ([.t 2], c7) := by kernel_rfl
/-- topiary/topiarylaw03.OctetStrict: 1 parameters, 80 slots. -/
def c8 : C :=
  .seq (.ops [⟨none, .mv 2 (.c (.bool false))⟩])
  (.seq (.ops [⟨none, .mv 11 (.t 0)⟩,
    ⟨none, .ca (some 12) 15 [(.t 11)]⟩,
    ⟨none, .mv 3 (.t 12)⟩])
  (.seq (.ops [⟨none, .mv 13 (.t 0)⟩,
    ⟨none, .ca (some 14) 15 [(.t 13)]⟩,
    ⟨none, .mv 4 (.t 14)⟩])
  (.seq (.seq (.ops [⟨none, .mv 15 (.t 3)⟩,
    ⟨none, .bq 16 false .ptr (.t 15) (.c (.ptr none))⟩,
    ⟨none, .mv 17 (.t 16)⟩,
    ⟨some (17, false), .mv 18 (.t 4)⟩,
    ⟨some (17, false), .bq 19 false .ptr (.t 18) (.c (.ptr none))⟩,
    ⟨none, .pk 20 (.t 17) (.c (.bool true)) (.t 19)⟩])
  (.cond (.t 20) (.seq (.ops [⟨none, .mv 2 (.c (.bool false))⟩])
    (.ret))
    (.skip)))
  (.seq (.ops [⟨none, .mv 21 (.t 3)⟩,
    ⟨none, .ca (some 22) 16 [(.t 21)]⟩,
    ⟨none, .mv 5 (.t 22)⟩])
  (.seq (.seq (.ops [⟨none, .mv 24 (.t 3)⟩,
    ⟨none, .ca (some 25) 24 [(.t 24)]⟩,
    ⟨none, .mv 23 (.t 25)⟩,
    ⟨none, .ex 26 (.t 23) 0⟩,
    ⟨none, .ex 27 (.t 23) 1⟩,
    ⟨none, .mv 6 (.t 26)⟩,
    ⟨none, .mv 7 (.t 27)⟩])
  (.seq (.opsD [⟨none, .mv 28 (.t 6)⟩,
    ⟨none, .bi 29 .eql (.t 28) (.c (.int .i64 0))⟩,
    ⟨none, .mv 30 (.t 29)⟩,
    ⟨some (30, true), .mv 31 (.t 3)⟩,
    ⟨some (30, true), .mv 33 (.t 0)⟩,
    ⟨some (30, true), .ln 34 .sl (.t 33)⟩,
    ⟨some (30, true), .ca (some 32) 25 [(.t 31)]⟩,
    ⟨some (30, true), .bi 35 .gtr (.t 32) (.t 34)⟩,
    ⟨some (30, true), .mv 36 (.t 35)⟩,
    ⟨some (36, false), .mv 37 (.t 5)⟩,
    ⟨some (36, false), .mv 41 (.t 0)⟩,
    ⟨some (36, false), .mv 42 (.t 3)⟩,
    ⟨some (36, false), .lit 38 1 [(.t 37)]⟩,
    ⟨some (36, false), .ca (some 39) 9 [(.c (.sl true .pub 0 [])), (.t 38)]⟩,
    ⟨some (36, false), .cS 40 (.t 39)⟩,
    ⟨some (36, false), .ca (some 43) 25 [(.t 42)]⟩,
    ⟨some (36, false), .sl 44 1 (.t 41) none (some (.t 43))⟩,
    ⟨some (36, false), .cS 45 (.t 44)⟩,
    ⟨some (36, false), .bi 46 .neq (.t 40) (.t 45)⟩,
    ⟨some (30, true), .pk 47 (.t 36) (.c (.bool true)) (.t 46)⟩,
    ⟨none, .pk 48 (.t 30) (.t 47) (.c (.bool false))⟩])
  (.cond (.t 48) (.seq (.ops [⟨none, .mv 2 (.c (.bool false))⟩])
    (.ret))
    (.skip))))
  (.seq (.ops [⟨none, .mv 49 (.t 4)⟩,
    ⟨none, .mv 50 (.t 0)⟩,
    ⟨none, .ln 51 .sl (.t 50)⟩,
    ⟨none, .ca (some 52) 17 [(.t 49), (.t 51)]⟩,
    ⟨none, .mv 8 (.t 52)⟩])
  (.seq (.seq (.ops [⟨none, .mv 54 (.t 4)⟩,
    ⟨none, .ca (some 55) 24 [(.t 54)]⟩,
    ⟨none, .mv 53 (.t 55)⟩,
    ⟨none, .ex 56 (.t 53) 0⟩,
    ⟨none, .ex 57 (.t 53) 1⟩,
    ⟨none, .mv 9 (.t 56)⟩,
    ⟨none, .mv 10 (.t 57)⟩])
  (.seq (.opsD [⟨none, .mv 58 (.t 9)⟩,
    ⟨none, .bi 59 .eql (.t 58) (.c (.int .i64 0))⟩,
    ⟨none, .mv 60 (.t 59)⟩,
    ⟨some (60, true), .mv 61 (.t 4)⟩,
    ⟨some (60, true), .mv 63 (.t 0)⟩,
    ⟨some (60, true), .ln 64 .sl (.t 63)⟩,
    ⟨some (60, true), .ca (some 62) 25 [(.t 61)]⟩,
    ⟨some (60, true), .bi 65 .gtr (.t 62) (.t 64)⟩,
    ⟨some (60, true), .mv 66 (.t 65)⟩,
    ⟨some (66, false), .mv 67 (.t 8)⟩,
    ⟨some (66, false), .mv 71 (.t 0)⟩,
    ⟨some (66, false), .mv 72 (.t 4)⟩,
    ⟨some (66, false), .lit 68 1 [(.t 67)]⟩,
    ⟨some (66, false), .ca (some 69) 14 [(.c (.sl true .pub 0 [])), (.t 68)]⟩,
    ⟨some (66, false), .cS 70 (.t 69)⟩,
    ⟨some (66, false), .ca (some 73) 25 [(.t 72)]⟩,
    ⟨some (66, false), .sl 74 1 (.t 71) none (some (.t 73))⟩,
    ⟨some (66, false), .cS 75 (.t 74)⟩,
    ⟨some (66, false), .bi 76 .neq (.t 70) (.t 75)⟩,
    ⟨some (60, true), .pk 77 (.t 66) (.c (.bool true)) (.t 76)⟩,
    ⟨none, .pk 78 (.t 60) (.t 77) (.c (.bool false))⟩])
  (.cond (.t 78) (.seq (.ops [⟨none, .mv 2 (.c (.bool false))⟩])
    (.ret))
    (.skip))))
  (.seq (.ops [⟨none, .ca (some 79) 11 []⟩,
    ⟨none, .mv 2 (.t 79)⟩])
  (.ret)))))))))
theorem comp8 : compFn Try.prog [] Try.f8 = some ([.t 2], c8) := by kernel_rfl
/-- topiary/octet.Put: 2 parameters, 37 slots. -/
def c9 : C :=
  .seq (.ops [⟨none, .mv 4 (.c (.sl true .pub 1 []))⟩])
  (.seq (.ops [⟨none, .lit 8 1 []⟩,
    ⟨none, .mv 9 (.t 0)⟩,
    ⟨none, .ap 10 1 (.t 8) (.t 9)⟩,
    ⟨none, .mv 5 (.t 10)⟩])
  (.seq (.seq (.ops [⟨none, .mv 11 (.t 1)⟩,
    ⟨none, .ln 12 .sl (.t 11)⟩,
    ⟨none, .mv 13 (.c (.int .i64 0))⟩])
  (.block 0 (.loop (.seq (.ops [⟨none, .bi 14 .lss (.t 13) (.t 12)⟩])
  (.seq (.cond (.t 14) (.skip)
    (.exit 0))
  (.seq (.block 1 (.seq (.ops [⟨none, .ia 15 (.t 11) (.t 13) 1⟩,
    ⟨none, .ld 16 (.t 15) 1 false⟩,
    ⟨none, .mv 7 (.t 16)⟩])
  (.seq (.ops [⟨none, .mv 17 (.t 7)⟩,
    ⟨none, .mx 18 (.t 17) (.c (.int .i64 0))⟩,
    ⟨none, .mv 7 (.t 18)⟩])
  (.seq (.block 2 (.loop (.seq (.seq (.ops [⟨none, .mv 19 (.t 7)⟩,
    ⟨none, .bi 20 .geq (.t 19) (.c (.int .i64 128))⟩])
  (.cond (.t 20) (.skip)
    (.exit 2)))
  (.block 3 (.seq (.ops [⟨none, .mv 21 (.t 5)⟩,
    ⟨none, .mv 22 (.t 7)⟩,
    ⟨none, .bi 23 .and (.t 22) (.c (.int .i64 127))⟩,
    ⟨none, .bi 24 .or (.t 23) (.c (.int .i64 128))⟩,
    ⟨none, .cI 25 .u8 (.t 24)⟩,
    ⟨none, .lit 26 1 [(.t 25)]⟩,
    ⟨none, .ap 27 1 (.t 21) (.t 26)⟩,
    ⟨none, .mv 5 (.t 27)⟩])
  (.ops [⟨none, .mv 28 (.t 7)⟩,
    ⟨none, .bi 29 .shr (.t 28) (.c (.int .u64 7))⟩,
    ⟨none, .mv 7 (.t 29)⟩]))))))
  (.ops [⟨none, .mv 30 (.t 5)⟩,
    ⟨none, .mv 31 (.t 7)⟩,
    ⟨none, .cI 32 .u8 (.t 31)⟩,
    ⟨none, .lit 33 1 [(.t 32)]⟩,
    ⟨none, .ap 34 1 (.t 30) (.t 33)⟩,
    ⟨none, .mv 5 (.t 34)⟩])))))
  (.ops [⟨none, .bi 35 .add (.t 13) (.c (.int .i64 1))⟩,
    ⟨none, .mv 13 (.t 35)⟩])))))))
  (.seq (.ops [⟨none, .mv 36 (.t 5)⟩,
    ⟨none, .mv 4 (.t 36)⟩])
  (.ret))))
theorem comp9 : compFn Try.prog [] Try.f9 = some ([.t 4], c9) := by kernel_rfl
/-- topiary/octet.Size: 1 parameters, 11 slots. -/
def c10 : C :=
  .seq (.ops [⟨none, .mv 2 (.c (.int .i64 0))⟩])
  (.seq (.ops [⟨none, .mv 3 (.c (.int .i64 1))⟩])
  (.seq (.block 0 (.loop (.seq (.seq (.ops [⟨none, .mv 4 (.t 0)⟩,
    ⟨none, .bi 5 .geq (.t 4) (.c (.int .i64 128))⟩])
  (.cond (.t 5) (.skip)
    (.exit 0)))
  (.block 1 (.seq (.ops [⟨none, .mv 6 (.t 0)⟩,
    ⟨none, .bi 7 .shr (.t 6) (.c (.int .u64 7))⟩,
    ⟨none, .mv 0 (.t 7)⟩])
  (.ops [⟨none, .mv 8 (.t 3)⟩,
    ⟨none, .bi 9 .add (.t 8) (.c (.int .i64 1))⟩,
    ⟨none, .mv 3 (.t 9)⟩]))))))
  (.seq (.ops [⟨none, .mv 10 (.t 3)⟩,
    ⟨none, .mv 2 (.t 10)⟩])
  (.ret))))
theorem comp10 : compFn Try.prog [] Try.f10 = some ([.t 2], c10) := by kernel_rfl
/-- topiary/topiarylaw03.awake: 0 parameters, 27 slots. -/
def c11 : C :=
  .seq (.ops [⟨none, .mv 0 (.c (.bool false))⟩])
  (.seq (.ops [⟨none, .lit 2 1 [(.c (.int .u8 172)), (.c (.int .u8 2)), (.c (.int .u8 5))]⟩,
    ⟨none, .ca (some 3) 15 [(.t 2)]⟩,
    ⟨none, .mv 1 (.t 3)⟩])
  (.seq (.ops [⟨none, .mv 4 (.t 1)⟩,
    ⟨none, .bq 5 true .ptr (.t 4) (.c (.ptr none))⟩,
    ⟨none, .mv 6 (.t 5)⟩,
    ⟨some (6, true), .mv 7 (.t 1)⟩,
    ⟨some (6, true), .ca (some 8) 16 [(.t 7)]⟩,
    ⟨some (6, true), .bi 9 .eql (.t 8) (.c (.int .i64 300))⟩,
    ⟨none, .pk 10 (.t 6) (.t 9) (.c (.bool false))⟩,
    ⟨none, .mv 11 (.t 10)⟩,
    ⟨some (11, true), .mv 12 (.t 1)⟩,
    ⟨some (11, true), .ca (some 13) 16 [(.t 12)]⟩,
    ⟨some (11, true), .bi 14 .eql (.t 13) (.c (.int .i64 5))⟩,
    ⟨none, .pk 15 (.t 11) (.t 14) (.c (.bool false))⟩,
    ⟨none, .mv 16 (.t 15)⟩,
    ⟨some (16, true), .mv 17 (.t 1)⟩,
    ⟨some (16, true), .ca (some 18) 18 [(.t 17)]⟩,
    ⟨some (16, true), .bi 19 .eql (.t 18) (.c (.int .i64 0))⟩,
    ⟨none, .pk 20 (.t 16) (.t 19) (.c (.bool false))⟩,
    ⟨none, .mv 21 (.t 20)⟩,
    ⟨some (21, true), .lit 22 1 [(.c (.int .i64 300)), (.c (.int .i64 5))]⟩,
    ⟨some (21, true), .ca (some 23) 9 [(.c (.sl true .pub 0 [])), (.t 22)]⟩,
    ⟨some (21, true), .cS 24 (.t 23)⟩,
    ⟨some (21, true), .bi 25 .eql (.t 24) (.c (.str [172, 2, 5]))⟩,
    ⟨none, .pk 26 (.t 21) (.t 25) (.c (.bool false))⟩,
    ⟨none, .mv 0 (.t 26)⟩])
  (.ret)))
theorem comp11 : compFn Try.prog [] Try.f11 = some ([.t 0], c11) := by kernel_rfl
/-- topiary/topiaryref03.Put: 2 parameters, 27 slots. -/
def c12 : C :=
  .seq (.ops [⟨none, .mv 4 (.c (.sl true .pub 1 []))⟩])
  (.seq (.ops [⟨none, .lit 6 1 []⟩,
    ⟨none, .mv 7 (.t 0)⟩,
    ⟨none, .ap 8 1 (.t 6) (.t 7)⟩,
    ⟨none, .mv 5 (.t 8)⟩])
  (.cut (.seq (.ops [⟨none, .mv 9 (.t 1)⟩,
    ⟨none, .bi 10 .lss (.t 9) (.c (.int .i64 0))⟩])
  (.cond (.t 10) (.ops [⟨none, .mv 1 (.c (.int .i64 0))⟩])
    (.skip)))
  (.seq (.block 0 (.loop (.seq (.seq (.ops [⟨none, .mv 11 (.t 1)⟩,
    ⟨none, .bi 12 .gtr (.t 11) (.c (.int .i64 127))⟩])
  (.cond (.t 12) (.skip)
    (.exit 0)))
  (.block 1 (.seq (.ops [⟨none, .mv 13 (.t 5)⟩,
    ⟨none, .mv 14 (.t 1)⟩,
    ⟨none, .bi 15 .rem (.t 14) (.c (.int .i64 128))⟩,
    ⟨none, .bi 16 .add (.c (.int .i64 128)) (.t 15)⟩,
    ⟨none, .cI 17 .u8 (.t 16)⟩,
    ⟨none, .lit 18 1 [(.t 17)]⟩,
    ⟨none, .ap 19 1 (.t 13) (.t 18)⟩,
    ⟨none, .mv 5 (.t 19)⟩])
  (.ops [⟨none, .mv 20 (.t 1)⟩,
    ⟨none, .bi 21 .quo (.t 20) (.c (.int .i64 128))⟩,
    ⟨none, .mv 1 (.t 21)⟩]))))))
  (.seq (.ops [⟨none, .mv 22 (.t 5)⟩,
    ⟨none, .mv 23 (.t 1)⟩,
    ⟨none, .cI 24 .u8 (.t 23)⟩,
    ⟨none, .lit 25 1 [(.t 24)]⟩,
    ⟨none, .ap 26 1 (.t 22) (.t 25)⟩,
    ⟨none, .mv 4 (.t 26)⟩])
  (.ret)))))
theorem comp12 : compFn Try.prog [] Try.f12 = some ([.t 4], c12) := by kernel_rfl
/-- topiary/topiaryref03.PutText: 2 parameters, 24 slots. -/
def c13 : C :=
  .seq (.ops [⟨none, .mv 4 (.c (.sl true .pub 1 []))⟩])
  (.seq (.ops [⟨none, .mv 7 (.t 0)⟩,
    ⟨none, .mv 8 (.t 1)⟩,
    ⟨none, .ln 9 .fn (.t 8)⟩,
    ⟨none, .ca (some 10) 12 [(.t 7), (.t 9)]⟩,
    ⟨none, .mv 5 (.t 10)⟩])
  (.seq (.seq (.ops [⟨none, .mv 6 (.c (.int .i64 0))⟩])
  (.block 0 (.loop (.seq (.seq (.ops [⟨none, .mv 11 (.t 6)⟩,
    ⟨none, .mv 12 (.t 1)⟩,
    ⟨none, .ln 13 .fn (.t 12)⟩,
    ⟨none, .bi 14 .lss (.t 11) (.t 13)⟩])
  (.cond (.t 14) (.skip)
    (.exit 0)))
  (.seq (.block 1 (.ops [⟨none, .mv 17 (.t 5)⟩,
    ⟨none, .mv 18 (.t 1)⟩,
    ⟨none, .mv 19 (.t 6)⟩,
    ⟨none, .ix 20 (.t 18) (.t 19)⟩,
    ⟨none, .lit 21 1 [(.t 20)]⟩,
    ⟨none, .ap 22 1 (.t 17) (.t 21)⟩,
    ⟨none, .mv 5 (.t 22)⟩]))
  (.ops [⟨none, .mv 15 (.t 6)⟩,
    ⟨none, .bi 16 .add (.t 15) (.c (.int .i64 1))⟩,
    ⟨none, .mv 6 (.t 16)⟩]))))))
  (.seq (.ops [⟨none, .mv 23 (.t 5)⟩,
    ⟨none, .mv 4 (.t 23)⟩])
  (.ret))))
theorem comp13 : compFn Try.prog [] Try.f13 = some ([.t 4], c13) := by kernel_rfl
/-- topiary/octet.PutText: 2 parameters, 26 slots. -/
def c14 : C :=
  .seq (.ops [⟨none, .mv 4 (.c (.sl true .pub 1 []))⟩])
  (.seq (.ops [⟨none, .lit 8 1 []⟩,
    ⟨none, .mv 9 (.t 0)⟩,
    ⟨none, .ap 10 1 (.t 8) (.t 9)⟩,
    ⟨none, .mv 5 (.t 10)⟩])
  (.seq (.seq (.ops [⟨none, .mv 11 (.t 1)⟩,
    ⟨none, .ln 12 .sl (.t 11)⟩,
    ⟨none, .mv 13 (.c (.int .i64 0))⟩])
  (.block 0 (.loop (.seq (.ops [⟨none, .bi 14 .lss (.t 13) (.t 12)⟩])
  (.seq (.cond (.t 14) (.skip)
    (.exit 0))
  (.seq (.block 1 (.seq (.ops [⟨none, .ia 15 (.t 11) (.t 13) 1⟩,
    ⟨none, .ld 16 (.t 15) 1 false⟩,
    ⟨none, .mv 7 (.t 16)⟩])
  (.ops [⟨none, .mv 17 (.t 5)⟩,
    ⟨none, .mv 18 (.t 7)⟩,
    ⟨none, .ln 19 .fn (.t 18)⟩,
    ⟨none, .lit 20 1 [(.t 19)]⟩,
    ⟨none, .ca (some 21) 9 [(.t 17), (.t 20)]⟩,
    ⟨none, .mv 22 (.t 7)⟩,
    ⟨none, .ap 23 1 (.t 21) (.t 22)⟩,
    ⟨none, .mv 5 (.t 23)⟩])))
  (.ops [⟨none, .bi 24 .add (.t 13) (.c (.int .i64 1))⟩,
    ⟨none, .mv 13 (.t 24)⟩])))))))
  (.seq (.ops [⟨none, .mv 25 (.t 5)⟩,
    ⟨none, .mv 4 (.t 25)⟩])
  (.ret))))
theorem comp14 : compFn Try.prog [] Try.f14 = some ([.t 4], c14) := by kernel_rfl
/-- topiary/octet.New: 1 parameters, 8 slots. -/
def c15 : C :=
  .seq (.ops [⟨none, .mv 2 (.c (.ptr none))⟩])
  (.seq (.ops [⟨none, .lit 3 1 []⟩,
    ⟨none, .mv 4 (.t 0)⟩,
    ⟨none, .ap 5 1 (.t 3) (.t 4)⟩,
    ⟨none, .bld 6 [.sl true .pub 0 [], .int .i64 0, .int .i64 0, .int .i64 0] [(0, 1, (.t 5))]⟩,
    ⟨none, .bxH 7 (.t 6)⟩,
    ⟨none, .mv 2 (.t 7)⟩])
  (.ret))
theorem comp15 : compFn Try.prog [] Try.f15 = some ([.t 2], c15) := by kernel_rfl
/-- (*topiary/octet.Reader).Num: 1 parameters, 34 slots. -/
def c16 : C :=
  .seq (.ops [⟨none, .mv 2 (.c (.int .i64 0))⟩])
  (.seq (.seq (.ops [⟨none, .mv 6 (.t 0)⟩,
    ⟨none, .bq 7 false .ptr (.t 6) (.c (.ptr none))⟩,
    ⟨none, .mv 8 (.t 7)⟩,
    ⟨some (8, false), .mv 9 (.t 0)⟩,
    ⟨some (8, false), .nc 10 (.t 9)⟩,
    ⟨some (8, false), .fa 11 (.t 10) 2⟩,
    ⟨some (8, false), .ld 12 (.t 11) 1 false⟩,
    ⟨some (8, false), .bi 13 .neq (.t 12) (.c (.int .i64 0))⟩,
    ⟨none, .pk 14 (.t 8) (.c (.bool true)) (.t 13)⟩])
  (.cond (.t 14) (.seq (.ops [⟨none, .mv 2 (.c (.int .i64 0))⟩])
    (.ret))
    (.skip)))
  (.seq (.ops [⟨none, .mv 16 (.t 0)⟩,
    ⟨none, .ca (some 17) 27 [(.t 16)]⟩,
    ⟨none, .mv 15 (.t 17)⟩,
    ⟨none, .ex 18 (.t 15) 0⟩,
    ⟨none, .ex 19 (.t 15) 1⟩,
    ⟨none, .ex 20 (.t 15) 2⟩,
    ⟨none, .mv 3 (.t 18)⟩,
    ⟨none, .mv 4 (.t 19)⟩,
    ⟨none, .mv 5 (.t 20)⟩])
  (.seq (.seq (.ops [⟨none, .mv 21 (.t 5)⟩,
    ⟨none, .un 22 .not (.t 21)⟩])
  (.cond (.t 22) (.seq (.ops [⟨none, .mv 23 (.t 0)⟩,
      ⟨none, .mv 24 (.t 0)⟩,
      ⟨none, .nc 25 (.t 24)⟩,
      ⟨none, .fa 26 (.t 25) 1⟩,
      ⟨none, .ld 27 (.t 26) 1 false⟩,
      ⟨none, .ca (some 28) 28 [(.t 23), (.c (.int .i64 2)), (.t 27)]⟩])
    (.seq (.ops [⟨none, .mv 2 (.c (.int .i64 0))⟩])
    (.ret)))
    (.skip)))
  (.seq (.ops [⟨none, .mv 29 (.t 0)⟩,
    ⟨none, .mv 30 (.t 4)⟩,
    ⟨none, .nc 31 (.t 29)⟩,
    ⟨none, .fa 32 (.t 31) 1⟩,
    ⟨none, .st (.t 32) (.t 30) 1⟩])
  (.seq (.ops [⟨none, .mv 33 (.t 3)⟩,
    ⟨none, .mv 2 (.t 33)⟩])
  (.ret))))))
theorem comp16 : compFn Try.prog [] Try.f16 = some ([.t 2], c16) := by kernel_rfl
/-- (*topiary/octet.Reader).Text: 2 parameters, 69 slots. -/
def c17 : C :=
  .seq (.ops [⟨none, .mv 4 (.c (.str []))⟩])
  (.seq (.seq (.ops [⟨none, .mv 8 (.t 0)⟩,
    ⟨none, .bq 9 false .ptr (.t 8) (.c (.ptr none))⟩,
    ⟨none, .mv 10 (.t 9)⟩,
    ⟨some (10, false), .mv 11 (.t 0)⟩,
    ⟨some (10, false), .nc 12 (.t 11)⟩,
    ⟨some (10, false), .fa 13 (.t 12) 2⟩,
    ⟨some (10, false), .ld 14 (.t 13) 1 false⟩,
    ⟨some (10, false), .bi 15 .neq (.t 14) (.c (.int .i64 0))⟩,
    ⟨none, .pk 16 (.t 10) (.c (.bool true)) (.t 15)⟩])
  (.cond (.t 16) (.seq (.ops [⟨none, .mv 4 (.c (.str []))⟩])
    (.ret))
    (.skip)))
  (.seq (.ops [⟨none, .mv 17 (.t 0)⟩,
    ⟨none, .nc 18 (.t 17)⟩,
    ⟨none, .fa 19 (.t 18) 1⟩,
    ⟨none, .ld 20 (.t 19) 1 false⟩,
    ⟨none, .mv 5 (.t 20)⟩])
  (.seq (.ops [⟨none, .mv 21 (.t 0)⟩,
    ⟨none, .mv 22 (.t 1)⟩,
    ⟨none, .ca (some 23) 22 [(.t 21), (.t 22)]⟩,
    ⟨none, .mv 6 (.t 23)⟩])
  (.seq (.seq (.ops [⟨none, .mv 24 (.t 0)⟩,
    ⟨none, .nc 25 (.t 24)⟩,
    ⟨none, .fa 26 (.t 25) 2⟩,
    ⟨none, .ld 27 (.t 26) 1 false⟩,
    ⟨none, .bi 28 .neq (.t 27) (.c (.int .i64 0))⟩])
  (.cond (.t 28) (.seq (.ops [⟨none, .mv 4 (.c (.str []))⟩])
    (.ret))
    (.skip)))
  (.seq (.seq (.opsD [⟨none, .mv 29 (.t 6)⟩,
    ⟨none, .mv 30 (.t 0)⟩,
    ⟨none, .nc 31 (.t 30)⟩,
    ⟨none, .fa 32 (.t 31) 0⟩,
    ⟨none, .ld 33 (.t 32) 1 false⟩,
    ⟨none, .ln 34 .sl (.t 33)⟩,
    ⟨none, .mv 35 (.t 0)⟩,
    ⟨none, .nc 36 (.t 35)⟩,
    ⟨none, .fa 37 (.t 36) 1⟩,
    ⟨none, .ld 38 (.t 37) 1 false⟩,
    ⟨none, .bi 39 .sub (.t 34) (.t 38)⟩,
    ⟨none, .bi 40 .gtr (.t 29) (.t 39)⟩])
  (.cond (.t 40) (.seq (.ops [⟨none, .mv 41 (.t 0)⟩,
      ⟨none, .mv 42 (.t 5)⟩,
      ⟨none, .ca (some 43) 28 [(.t 41), (.c (.int .i64 2)), (.t 42)]⟩])
    (.seq (.ops [⟨none, .mv 4 (.c (.str []))⟩])
    (.ret)))
    (.skip)))
  (.seq (.opsD [⟨none, .mv 44 (.t 0)⟩,
    ⟨none, .nc 45 (.t 44)⟩,
    ⟨none, .fa 46 (.t 45) 0⟩,
    ⟨none, .ld 47 (.t 46) 1 false⟩,
    ⟨none, .mv 48 (.t 0)⟩,
    ⟨none, .nc 49 (.t 48)⟩,
    ⟨none, .fa 50 (.t 49) 1⟩,
    ⟨none, .ld 51 (.t 50) 1 false⟩,
    ⟨none, .mv 52 (.t 0)⟩,
    ⟨none, .nc 53 (.t 52)⟩,
    ⟨none, .fa 54 (.t 53) 1⟩,
    ⟨none, .ld 55 (.t 54) 1 false⟩,
    ⟨none, .mv 56 (.t 6)⟩,
    ⟨none, .bi 57 .add (.t 55) (.t 56)⟩,
    ⟨none, .sl 58 1 (.t 47) (some (.t 51)) (some (.t 57))⟩,
    ⟨none, .cS 59 (.t 58)⟩,
    ⟨none, .mv 7 (.t 59)⟩])
  (.seq (.ops [⟨none, .mv 60 (.t 0)⟩,
    ⟨none, .nc 61 (.t 60)⟩,
    ⟨none, .fa 62 (.t 61) 1⟩,
    ⟨none, .ld 63 (.t 62) 1 false⟩,
    ⟨none, .mv 64 (.t 6)⟩,
    ⟨none, .bi 65 .add (.t 63) (.t 64)⟩,
    ⟨none, .nc 66 (.t 60)⟩,
    ⟨none, .fa 67 (.t 66) 1⟩,
    ⟨none, .st (.t 67) (.t 65) 1⟩])
  (.seq (.ops [⟨none, .mv 68 (.t 7)⟩,
    ⟨none, .mv 4 (.t 68)⟩])
  (.ret)))))))))
theorem comp17 : compFn Try.prog [] Try.f17 = some ([.t 4], c17) := by kernel_rfl
/-- (*topiary/octet.Reader).Done: 1 parameters, 26 slots. -/
def c18 : C :=
  .seq (.ops [⟨none, .mv 2 (.c (.int .i64 0))⟩])
  (.seq (.seq (.ops [⟨none, .mv 3 (.t 0)⟩,
    ⟨none, .bq 4 false .ptr (.t 3) (.c (.ptr none))⟩])
  (.cond (.t 4) (.seq (.ops [⟨none, .mv 2 (.c (.int .i64 0))⟩])
    (.ret))
    (.skip)))
  (.seq (.seq (.opsD [⟨none, .mv 5 (.t 0)⟩,
    ⟨none, .nc 6 (.t 5)⟩,
    ⟨none, .fa 7 (.t 6) 2⟩,
    ⟨none, .ld 8 (.t 7) 1 false⟩,
    ⟨none, .bi 9 .eql (.t 8) (.c (.int .i64 0))⟩,
    ⟨none, .mv 10 (.t 9)⟩,
    ⟨some (10, true), .mv 11 (.t 0)⟩,
    ⟨some (10, true), .nc 12 (.t 11)⟩,
    ⟨some (10, true), .fa 13 (.t 12) 1⟩,
    ⟨some (10, true), .ld 14 (.t 13) 1 false⟩,
    ⟨some (10, true), .mv 15 (.t 0)⟩,
    ⟨some (10, true), .nc 16 (.t 15)⟩,
    ⟨some (10, true), .fa 17 (.t 16) 0⟩,
    ⟨some (10, true), .ld 18 (.t 17) 1 false⟩,
    ⟨some (10, true), .ln 19 .sl (.t 18)⟩,
    ⟨some (10, true), .bi 20 .lss (.t 14) (.t 19)⟩,
    ⟨none, .pk 21 (.t 10) (.t 20) (.c (.bool false))⟩])
  (.cond (.t 21) (.seq (.ops [⟨none, .mv 2 (.c (.int .i64 7))⟩])
    (.ret))
    (.skip)))
  (.seq (.ops [⟨none, .mv 22 (.t 0)⟩,
    ⟨none, .nc 23 (.t 22)⟩,
    ⟨none, .fa 24 (.t 23) 2⟩,
    ⟨none, .ld 25 (.t 24) 1 false⟩,
    ⟨none, .mv 2 (.t 25)⟩])
  (.ret))))
theorem comp18 : compFn Try.prog [] Try.f18 = some ([.t 2], c18) := by kernel_rfl
/-- (*topiary/octet.Reader).Left: 1 parameters, 15 slots. -/
def c19 : C :=
  .seq (.ops [⟨none, .mv 2 (.c (.int .i64 0))⟩])
  (.seq (.seq (.ops [⟨none, .mv 3 (.t 0)⟩,
    ⟨none, .bq 4 false .ptr (.t 3) (.c (.ptr none))⟩])
  (.cond (.t 4) (.seq (.ops [⟨none, .mv 2 (.c (.int .i64 0))⟩])
    (.ret))
    (.skip)))
  (.seq (.opsD [⟨none, .mv 5 (.t 0)⟩,
    ⟨none, .nc 6 (.t 5)⟩,
    ⟨none, .fa 7 (.t 6) 0⟩,
    ⟨none, .ld 8 (.t 7) 1 false⟩,
    ⟨none, .ln 9 .sl (.t 8)⟩,
    ⟨none, .mv 10 (.t 0)⟩,
    ⟨none, .nc 11 (.t 10)⟩,
    ⟨none, .fa 12 (.t 11) 1⟩,
    ⟨none, .ld 13 (.t 12) 1 false⟩,
    ⟨none, .bi 14 .sub (.t 9) (.t 13)⟩,
    ⟨none, .mv 2 (.t 14)⟩])
  (.ret)))
theorem comp19 : compFn Try.prog [] Try.f19 = some ([.t 2], c19) := by kernel_rfl
/-- topiary/topiaryref03.Next: 1 parameters, 35 slots. -/
def c20 : C :=
  .seq (.ops [⟨none, .bxL 1 (.t 0)⟩,
    ⟨none, .alL 2 [.sl true .pub 0 [], .int .i64 0, .int .i64 0, .int .i64 0]⟩,
    ⟨none, .mv 3 (.c (.int .i64 0))⟩])
  (.seq (.seq (.ops [⟨none, .fa 7 (.t 1) 2⟩,
    ⟨none, .ld 8 (.t 7) 1 false⟩,
    ⟨none, .bi 9 .neq (.t 8) (.c (.int .i64 0))⟩])
  (.cond (.t 9) (.seq (.ops [⟨none, .ld 10 (.t 1) 4 true⟩,
      ⟨none, .st (.t 2) (.t 10) 4⟩,
      ⟨none, .mv 3 (.c (.int .i64 0))⟩])
    (.ret))
    (.skip)))
  (.seq (.ops [⟨none, .fa 12 (.t 1) 0⟩,
    ⟨none, .ld 13 (.t 12) 1 false⟩,
    ⟨none, .fa 14 (.t 1) 1⟩,
    ⟨none, .ld 15 (.t 14) 1 false⟩,
    ⟨none, .sl 16 1 (.t 13) (some (.t 15)) none⟩,
    ⟨none, .ca (some 17) 29 [(.t 16)]⟩,
    ⟨none, .mv 11 (.t 17)⟩,
    ⟨none, .ex 18 (.t 11) 0⟩,
    ⟨none, .ex 19 (.t 11) 1⟩,
    ⟨none, .ex 20 (.t 11) 2⟩,
    ⟨none, .mv 4 (.t 18)⟩,
    ⟨none, .mv 5 (.t 19)⟩,
    ⟨none, .mv 6 (.t 20)⟩])
  (.seq (.seq (.ops [⟨none, .mv 21 (.t 6)⟩,
    ⟨none, .un 22 .not (.t 21)⟩])
  (.cond (.t 22) (.seq (.ops [⟨none, .ld 23 (.t 1) 4 true⟩,
      ⟨none, .fa 24 (.t 1) 1⟩,
      ⟨none, .ld 25 (.t 24) 1 false⟩,
      ⟨none, .ca (some 26) 30 [(.t 23), (.c (.int .i64 2)), (.t 25)]⟩,
      ⟨none, .st (.t 2) (.t 26) 4⟩,
      ⟨none, .mv 3 (.c (.int .i64 0))⟩])
    (.ret))
    (.skip)))
  (.seq (.ops [⟨none, .fa 27 (.t 1) 0⟩,
    ⟨none, .ld 28 (.t 27) 1 false⟩,
    ⟨none, .fa 29 (.t 1) 1⟩,
    ⟨none, .ld 30 (.t 29) 1 false⟩,
    ⟨none, .mv 31 (.t 5)⟩,
    ⟨none, .bi 32 .add (.t 30) (.t 31)⟩,
    ⟨none, .bld 33 [.sl true .pub 0 [], .int .i64 0, .int .i64 0, .int .i64 0] [(0, 1, (.t 28)), (1, 1, (.t 32))]⟩,
    ⟨none, .mv 34 (.t 4)⟩,
    ⟨none, .st (.t 2) (.t 33) 4⟩,
    ⟨none, .mv 3 (.t 34)⟩])
  (.ret)))))
theorem comp20 : compFn Try.prog [1, 2] Try.f20 = some ([.c 2 4 true, .t 3], c20) := by kernel_rfl
/-- topiary/topiaryref03.Count: 2 parameters, 32 slots. -/
def c21 : C :=
  .seq (.ops [⟨none, .bxL 2 (.t 0)⟩,
    ⟨none, .alL 4 [.sl true .pub 0 [], .int .i64 0, .int .i64 0, .int .i64 0]⟩,
    ⟨none, .mv 5 (.c (.int .i64 0))⟩])
  (.seq (.ops [⟨none, .ld 9 (.t 2) 4 true⟩,
    ⟨none, .ca (some 10) 20 [(.t 9)]⟩,
    ⟨none, .mv 8 (.t 10)⟩,
    ⟨none, .ex 11 (.t 8) 0⟩,
    ⟨none, .ex 12 (.t 8) 1⟩,
    ⟨none, .alL 6 [.sl true .pub 0 [], .int .i64 0, .int .i64 0, .int .i64 0]⟩,
    ⟨none, .st (.t 6) (.t 11) 4⟩,
    ⟨none, .mv 7 (.t 12)⟩])
  (.seq (.seq (.ops [⟨none, .fa 13 (.t 2) 2⟩,
    ⟨none, .ld 14 (.t 13) 1 false⟩,
    ⟨none, .bi 15 .eql (.t 14) (.c (.int .i64 0))⟩,
    ⟨none, .mv 16 (.t 15)⟩,
    ⟨some (16, true), .fa 17 (.t 6) 2⟩,
    ⟨some (16, true), .ld 18 (.t 17) 1 false⟩,
    ⟨some (16, true), .bi 19 .eql (.t 18) (.c (.int .i64 0))⟩,
    ⟨none, .pk 20 (.t 16) (.t 19) (.c (.bool false))⟩,
    ⟨none, .mv 21 (.t 20)⟩,
    ⟨some (21, true), .mv 22 (.t 7)⟩,
    ⟨some (21, true), .mv 23 (.t 1)⟩,
    ⟨some (21, true), .bi 24 .gtr (.t 22) (.t 23)⟩,
    ⟨none, .pk 25 (.t 21) (.t 24) (.c (.bool false))⟩])
  (.cond (.t 25) (.seq (.ops [⟨none, .ld 26 (.t 2) 4 true⟩,
      ⟨none, .fa 27 (.t 2) 1⟩,
      ⟨none, .ld 28 (.t 27) 1 false⟩,
      ⟨none, .ca (some 29) 30 [(.t 26), (.c (.int .i64 3)), (.t 28)]⟩,
      ⟨none, .st (.t 4) (.t 29) 4⟩,
      ⟨none, .mv 5 (.c (.int .i64 0))⟩])
    (.ret))
    (.skip)))
  (.seq (.ops [⟨none, .ld 30 (.t 6) 4 true⟩,
    ⟨none, .mv 31 (.t 7)⟩,
    ⟨none, .st (.t 4) (.t 30) 4⟩,
    ⟨none, .mv 5 (.t 31)⟩])
  (.ret))))
theorem comp21 : compFn Try.prog [2, 4, 6] Try.f21 = some ([.c 4 4 true, .t 5], c21) := by kernel_rfl
/-- (*topiary/octet.Reader).Count: 2 parameters, 36 slots. -/
def c22 : C :=
  .seq (.ops [⟨none, .mv 4 (.c (.int .i64 0))⟩])
  (.seq (.seq (.ops [⟨none, .mv 7 (.t 0)⟩,
    ⟨none, .bq 8 false .ptr (.t 7) (.c (.ptr none))⟩,
    ⟨none, .mv 9 (.t 8)⟩,
    ⟨some (9, false), .mv 10 (.t 0)⟩,
    ⟨some (9, false), .nc 11 (.t 10)⟩,
    ⟨some (9, false), .fa 12 (.t 11) 2⟩,
    ⟨some (9, false), .ld 13 (.t 12) 1 false⟩,
    ⟨some (9, false), .bi 14 .neq (.t 13) (.c (.int .i64 0))⟩,
    ⟨none, .pk 15 (.t 9) (.c (.bool true)) (.t 14)⟩])
  (.cond (.t 15) (.seq (.ops [⟨none, .mv 4 (.c (.int .i64 0))⟩])
    (.ret))
    (.skip)))
  (.seq (.ops [⟨none, .mv 16 (.t 0)⟩,
    ⟨none, .nc 17 (.t 16)⟩,
    ⟨none, .fa 18 (.t 17) 1⟩,
    ⟨none, .ld 19 (.t 18) 1 false⟩,
    ⟨none, .mv 5 (.t 19)⟩])
  (.seq (.ops [⟨none, .mv 20 (.t 0)⟩,
    ⟨none, .ca (some 21) 16 [(.t 20)]⟩,
    ⟨none, .mv 6 (.t 21)⟩])
  (.seq (.seq (.ops [⟨none, .mv 22 (.t 0)⟩,
    ⟨none, .nc 23 (.t 22)⟩,
    ⟨none, .fa 24 (.t 23) 2⟩,
    ⟨none, .ld 25 (.t 24) 1 false⟩,
    ⟨none, .bi 26 .eql (.t 25) (.c (.int .i64 0))⟩,
    ⟨none, .mv 27 (.t 26)⟩,
    ⟨some (27, true), .mv 28 (.t 6)⟩,
    ⟨some (27, true), .mv 29 (.t 1)⟩,
    ⟨some (27, true), .bi 30 .gtr (.t 28) (.t 29)⟩,
    ⟨none, .pk 31 (.t 27) (.t 30) (.c (.bool false))⟩])
  (.cond (.t 31) (.seq (.ops [⟨none, .mv 32 (.t 0)⟩,
      ⟨none, .mv 33 (.t 5)⟩,
      ⟨none, .ca (some 34) 28 [(.t 32), (.c (.int .i64 3)), (.t 33)]⟩])
    (.seq (.ops [⟨none, .mv 4 (.c (.int .i64 0))⟩])
    (.ret)))
    (.skip)))
  (.seq (.ops [⟨none, .mv 35 (.t 6)⟩,
    ⟨none, .mv 4 (.t 35)⟩])
  (.ret))))))
theorem comp22 : compFn Try.prog [] Try.f22 = some ([.t 4], c22) := by kernel_rfl
/-- topiary/topiaryref03.Text: 2 parameters, 48 slots. -/
def c23 : C :=
  .seq (.ops [⟨none, .bxL 2 (.t 0)⟩,
    ⟨none, .alL 4 [.sl true .pub 0 [], .int .i64 0, .int .i64 0, .int .i64 0]⟩,
    ⟨none, .mv 5 (.c (.str []))⟩])
  (.seq (.ops [⟨none, .ld 10 (.t 2) 4 true⟩,
    ⟨none, .mv 11 (.t 1)⟩,
    ⟨none, .ca (some 12) 21 [(.t 10), (.t 11)]⟩,
    ⟨none, .mv 9 (.t 12)⟩,
    ⟨none, .ex 13 (.t 9) 0⟩,
    ⟨none, .ex 14 (.t 9) 1⟩,
    ⟨none, .alL 6 [.sl true .pub 0 [], .int .i64 0, .int .i64 0, .int .i64 0]⟩,
    ⟨none, .st (.t 6) (.t 13) 4⟩,
    ⟨none, .mv 7 (.t 14)⟩])
  (.seq (.seq (.ops [⟨none, .fa 15 (.t 6) 2⟩,
    ⟨none, .ld 16 (.t 15) 1 false⟩,
    ⟨none, .bi 17 .neq (.t 16) (.c (.int .i64 0))⟩])
  (.cond (.t 17) (.seq (.ops [⟨none, .ld 18 (.t 6) 4 true⟩,
      ⟨none, .st (.t 4) (.t 18) 4⟩,
      ⟨none, .mv 5 (.c (.str []))⟩])
    (.ret))
    (.skip)))
  (.seq (.seq (.ops [⟨none, .mv 19 (.t 7)⟩,
    ⟨none, .fa 20 (.t 6) 0⟩,
    ⟨none, .ld 21 (.t 20) 1 false⟩,
    ⟨none, .ln 22 .sl (.t 21)⟩,
    ⟨none, .fa 23 (.t 6) 1⟩,
    ⟨none, .ld 24 (.t 23) 1 false⟩,
    ⟨none, .bi 25 .sub (.t 22) (.t 24)⟩,
    ⟨none, .bi 26 .gtr (.t 19) (.t 25)⟩])
  (.cond (.t 26) (.seq (.ops [⟨none, .ld 27 (.t 2) 4 true⟩,
      ⟨none, .fa 28 (.t 2) 1⟩,
      ⟨none, .ld 29 (.t 28) 1 false⟩,
      ⟨none, .ca (some 30) 30 [(.t 27), (.c (.int .i64 2)), (.t 29)]⟩,
      ⟨none, .st (.t 4) (.t 30) 4⟩,
      ⟨none, .mv 5 (.c (.str []))⟩])
    (.ret))
    (.skip)))
  (.seq (.ops [⟨none, .fa 31 (.t 6) 0⟩,
    ⟨none, .ld 32 (.t 31) 1 false⟩,
    ⟨none, .fa 33 (.t 6) 1⟩,
    ⟨none, .ld 34 (.t 33) 1 false⟩,
    ⟨none, .fa 35 (.t 6) 1⟩,
    ⟨none, .ld 36 (.t 35) 1 false⟩,
    ⟨none, .mv 37 (.t 7)⟩,
    ⟨none, .bi 38 .add (.t 36) (.t 37)⟩,
    ⟨none, .sl 39 1 (.t 32) (some (.t 34)) (some (.t 38))⟩,
    ⟨none, .cS 40 (.t 39)⟩,
    ⟨none, .mv 8 (.t 40)⟩])
  (.seq (.ops [⟨none, .fa 41 (.t 6) 1⟩,
    ⟨none, .ld 42 (.t 41) 1 false⟩,
    ⟨none, .mv 43 (.t 7)⟩,
    ⟨none, .bi 44 .add (.t 42) (.t 43)⟩,
    ⟨none, .fa 45 (.t 6) 1⟩,
    ⟨none, .st (.t 45) (.t 44) 1⟩])
  (.seq (.ops [⟨none, .ld 46 (.t 6) 4 true⟩,
    ⟨none, .mv 47 (.t 8)⟩,
    ⟨none, .st (.t 4) (.t 46) 4⟩,
    ⟨none, .mv 5 (.t 47)⟩])
  (.ret)))))))
theorem comp23 : compFn Try.prog [2, 4, 6] Try.f23 = some ([.c 4 4 true, .t 5], c23) := by kernel_rfl
/-- (*topiary/octet.Reader).Why: 1 parameters, 14 slots. -/
def c24 : C :=
  .seq (.ops [⟨none, .mv 2 (.c (.int .i64 0))⟩,
    ⟨none, .mv 3 (.c (.int .i64 0))⟩])
  (.seq (.seq (.ops [⟨none, .mv 4 (.t 0)⟩,
    ⟨none, .bq 5 false .ptr (.t 4) (.c (.ptr none))⟩])
  (.cond (.t 5) (.seq (.ops [⟨none, .mv 2 (.c (.int .i64 0))⟩,
      ⟨none, .mv 3 (.c (.int .i64 0))⟩])
    (.ret))
    (.skip)))
  (.seq (.opsD [⟨none, .mv 6 (.t 0)⟩,
    ⟨none, .nc 7 (.t 6)⟩,
    ⟨none, .fa 8 (.t 7) 2⟩,
    ⟨none, .ld 9 (.t 8) 1 false⟩,
    ⟨none, .mv 10 (.t 0)⟩,
    ⟨none, .nc 11 (.t 10)⟩,
    ⟨none, .fa 12 (.t 11) 3⟩,
    ⟨none, .ld 13 (.t 12) 1 false⟩,
    ⟨none, .mv 2 (.t 9)⟩,
    ⟨none, .mv 3 (.t 13)⟩])
  (.ret)))
theorem comp24 : compFn Try.prog [] Try.f24 = some ([.t 2, .t 3], c24) := by kernel_rfl
/-- (*topiary/octet.Reader).At: 1 parameters, 9 slots. -/
def c25 : C :=
  .seq (.ops [⟨none, .mv 2 (.c (.int .i64 0))⟩])
  (.seq (.seq (.ops [⟨none, .mv 3 (.t 0)⟩,
    ⟨none, .bq 4 false .ptr (.t 3) (.c (.ptr none))⟩])
  (.cond (.t 4) (.seq (.ops [⟨none, .mv 2 (.c (.int .i64 0))⟩])
    (.ret))
    (.skip)))
  (.seq (.ops [⟨none, .mv 5 (.t 0)⟩,
    ⟨none, .nc 6 (.t 5)⟩,
    ⟨none, .fa 7 (.t 6) 1⟩,
    ⟨none, .ld 8 (.t 7) 1 false⟩,
    ⟨none, .mv 2 (.t 8)⟩])
  (.ret)))
theorem comp25 : compFn Try.prog [] Try.f25 = some ([.t 2], c25) := by kernel_rfl
/-- topiary/topiaryref03.Done: 1 parameters, 16 slots. -/
def c26 : C :=
  .seq (.ops [⟨none, .bxL 1 (.t 0)⟩,
    ⟨none, .mv 2 (.c (.int .i64 0))⟩])
  (.seq (.seq (.ops [⟨none, .fa 3 (.t 1) 2⟩,
    ⟨none, .ld 4 (.t 3) 1 false⟩,
    ⟨none, .bi 5 .eql (.t 4) (.c (.int .i64 0))⟩,
    ⟨none, .mv 6 (.t 5)⟩,
    ⟨some (6, true), .fa 7 (.t 1) 1⟩,
    ⟨some (6, true), .ld 8 (.t 7) 1 false⟩,
    ⟨some (6, true), .fa 9 (.t 1) 0⟩,
    ⟨some (6, true), .ld 10 (.t 9) 1 false⟩,
    ⟨some (6, true), .ln 11 .sl (.t 10)⟩,
    ⟨some (6, true), .bi 12 .lss (.t 8) (.t 11)⟩,
    ⟨none, .pk 13 (.t 6) (.t 12) (.c (.bool false))⟩])
  (.cond (.t 13) (.seq (.ops [⟨none, .mv 2 (.c (.int .i64 7))⟩])
    (.ret))
    (.skip)))
  (.seq (.ops [⟨none, .fa 14 (.t 1) 2⟩,
    ⟨none, .ld 15 (.t 14) 1 false⟩,
    ⟨none, .mv 2 (.t 15)⟩])
  (.ret)))
theorem comp26 : compFn Try.prog [1] Try.f26 = some ([.t 2], c26) := by kernel_rfl
/-- (*topiary/octet.Reader).number: 1 parameters, 59 slots. -/
def c27 : C :=
  .seq (.ops [⟨none, .mv 2 (.c (.int .i64 0))⟩,
    ⟨none, .mv 3 (.c (.int .i64 0))⟩,
    ⟨none, .mv 4 (.c (.bool false))⟩])
  (.seq (.ops [⟨none, .mv 5 (.c (.int .i64 0))⟩])
  (.seq (.ops [⟨none, .mv 6 (.c (.int .u8 0))⟩])
  (.seq (.ops [⟨none, .mv 9 (.t 0)⟩,
    ⟨none, .nc 10 (.t 9)⟩,
    ⟨none, .fa 11 (.t 10) 1⟩,
    ⟨none, .ld 12 (.t 11) 1 false⟩,
    ⟨none, .mv 7 (.t 12)⟩])
  (.seq (.skip)
  (.seq (.seq (.ops [⟨none, .mv 8 (.c (.int .i64 0))⟩])
  (.block 0 (.loop (.seq (.block 1 (.seq (.block 2 (.seq (.ops [⟨none, .mv 16 (.t 7)⟩,
    ⟨none, .mv 17 (.t 0)⟩,
    ⟨none, .nc 18 (.t 17)⟩,
    ⟨none, .fa 19 (.t 18) 0⟩,
    ⟨none, .ld 20 (.t 19) 1 false⟩,
    ⟨none, .ln 21 .sl (.t 20)⟩,
    ⟨none, .bi 22 .eql (.t 16) (.t 21)⟩,
    ⟨none, .mv 23 (.t 22)⟩,
    ⟨some (23, false), .mv 24 (.t 8)⟩,
    ⟨some (23, false), .bi 25 .eql (.t 24) (.c (.int .i64 9))⟩,
    ⟨none, .pk 26 (.t 23) (.c (.bool true)) (.t 25)⟩,
    ⟨none, .mv 15 (.t 26)⟩])
  (.cond (.t 15) (.seq (.ops [⟨none, .mv 2 (.c (.int .i64 0))⟩,
      ⟨none, .mv 3 (.c (.int .i64 0))⟩,
      ⟨none, .mv 4 (.c (.bool false))⟩])
    (.ret))
    (.skip))))
  (.seq (.ops [⟨none, .mv 27 (.t 0)⟩,
    ⟨none, .nc 28 (.t 27)⟩,
    ⟨none, .fa 29 (.t 28) 0⟩,
    ⟨none, .ld 30 (.t 29) 1 false⟩,
    ⟨none, .mv 31 (.t 7)⟩,
    ⟨none, .ia 32 (.t 30) (.t 31) 1⟩,
    ⟨none, .ld 33 (.t 32) 1 false⟩,
    ⟨none, .mv 6 (.t 33)⟩])
  (.seq (.ops [⟨none, .mv 34 (.t 5)⟩,
    ⟨none, .mv 35 (.t 6)⟩,
    ⟨none, .bi 36 .and (.t 35) (.c (.int .u8 127))⟩,
    ⟨none, .cI 37 .i64 (.t 36)⟩,
    ⟨none, .mv 38 (.t 8)⟩,
    ⟨none, .bi 39 .mul (.c (.int .i64 7)) (.t 38)⟩,
    ⟨none, .bi 40 .shl (.t 37) (.t 39)⟩,
    ⟨none, .bi 41 .or (.t 34) (.t 40)⟩,
    ⟨none, .mv 5 (.t 41)⟩])
  (.seq (.ops [⟨none, .mv 42 (.t 7)⟩,
    ⟨none, .bi 43 .add (.t 42) (.c (.int .i64 1))⟩,
    ⟨none, .mv 7 (.t 43)⟩])
  (.seq (.ops [⟨none, .mv 44 (.t 6)⟩,
    ⟨none, .bi 45 .lss (.t 44) (.c (.int .u8 128))⟩])
  (.cond (.t 45) (.exit 0)
    (.skip))))))))
  (.ops [⟨none, .mv 13 (.t 8)⟩,
    ⟨none, .bi 14 .add (.t 13) (.c (.int .i64 1))⟩,
    ⟨none, .mv 8 (.t 14)⟩])))))
  (.seq (.opsD [⟨none, .mv 46 (.t 5)⟩,
    ⟨none, .mv 47 (.t 7)⟩,
    ⟨none, .mv 48 (.t 6)⟩,
    ⟨none, .bi 49 .neq (.t 48) (.c (.int .u8 0))⟩,
    ⟨none, .mv 50 (.t 49)⟩,
    ⟨some (50, false), .mv 51 (.t 7)⟩,
    ⟨some (50, false), .mv 52 (.t 0)⟩,
    ⟨some (50, false), .nc 53 (.t 52)⟩,
    ⟨some (50, false), .fa 54 (.t 53) 1⟩,
    ⟨some (50, false), .ld 55 (.t 54) 1 false⟩,
    ⟨some (50, false), .bi 56 .add (.t 55) (.c (.int .i64 1))⟩,
    ⟨some (50, false), .bi 57 .eql (.t 51) (.t 56)⟩,
    ⟨none, .pk 58 (.t 50) (.c (.bool true)) (.t 57)⟩,
    ⟨none, .mv 2 (.t 46)⟩,
    ⟨none, .mv 3 (.t 47)⟩,
    ⟨none, .mv 4 (.t 58)⟩])
  (.ret)))))))
theorem comp27 : compFn Try.prog [] Try.f27 = some ([.t 2, .t 3, .t 4], c27) := by kernel_rfl
/-- (*topiary/octet.Reader).fail: 3 parameters, 18 slots. -/
def c28 : C :=
  .ops [⟨none, .mv 6 (.t 0)⟩,
    ⟨none, .mv 7 (.t 0)⟩,
    ⟨none, .mv 8 (.t 0)⟩,
    ⟨none, .mv 9 (.t 1)⟩,
    ⟨none, .mv 10 (.t 2)⟩,
    ⟨none, .mv 11 (.t 2)⟩,
    ⟨none, .nc 12 (.t 6)⟩,
    ⟨none, .fa 13 (.t 12) 2⟩,
    ⟨none, .st (.t 13) (.t 9) 1⟩,
    ⟨none, .nc 14 (.t 7)⟩,
    ⟨none, .fa 15 (.t 14) 3⟩,
    ⟨none, .st (.t 15) (.t 10) 1⟩,
    ⟨none, .nc 16 (.t 8)⟩,
    ⟨none, .fa 17 (.t 16) 1⟩,
    ⟨none, .st (.t 17) (.t 11) 1⟩]
theorem comp28 : compFn Try.prog [] Try.f28 = some ([], c28) := by kernel_rfl
/-- topiary/topiaryref03.Num: 1 parameters, 49 slots. -/
def c29 : C :=
  .seq (.ops [⟨none, .mv 2 (.c (.int .i64 0))⟩,
    ⟨none, .mv 3 (.c (.int .i64 0))⟩,
    ⟨none, .mv 4 (.c (.bool false))⟩])
  (.seq (.ops [⟨none, .mv 5 (.c (.int .i64 0))⟩])
  (.seq (.ops [⟨none, .mv 6 (.c (.int .i64 1))⟩])
  (.seq (.seq (.ops [⟨none, .mv 7 (.c (.int .i64 0))⟩])
  (.block 0 (.loop (.seq (.seq (.ops [⟨none, .mv 8 (.t 7)⟩,
    ⟨none, .mv 9 (.t 0)⟩,
    ⟨none, .ln 10 .sl (.t 9)⟩,
    ⟨none, .bi 11 .lss (.t 8) (.t 10)⟩,
    ⟨none, .mv 12 (.t 11)⟩,
    ⟨some (12, true), .mv 13 (.t 7)⟩,
    ⟨some (12, true), .bi 14 .lss (.t 13) (.c (.int .i64 9))⟩,
    ⟨none, .pk 15 (.t 12) (.t 14) (.c (.bool false))⟩])
  (.cond (.t 15) (.skip)
    (.exit 0)))
  (.cut (.block 1 (.seq (.ops [⟨none, .mv 18 (.t 5)⟩,
    ⟨none, .mv 19 (.t 0)⟩,
    ⟨none, .mv 20 (.t 7)⟩,
    ⟨none, .ia 21 (.t 19) (.t 20) 1⟩,
    ⟨none, .ld 22 (.t 21) 1 false⟩,
    ⟨none, .bi 23 .rem (.t 22) (.c (.int .u8 128))⟩,
    ⟨none, .cI 24 .i64 (.t 23)⟩,
    ⟨none, .mv 25 (.t 6)⟩,
    ⟨none, .bi 26 .mul (.t 24) (.t 25)⟩,
    ⟨none, .bi 27 .add (.t 18) (.t 26)⟩,
    ⟨none, .mv 5 (.t 27)⟩])
  (.seq (.seq (.ops [⟨none, .mv 28 (.t 0)⟩,
    ⟨none, .mv 29 (.t 7)⟩,
    ⟨none, .ia 30 (.t 28) (.t 29) 1⟩,
    ⟨none, .ld 31 (.t 30) 1 false⟩,
    ⟨none, .bi 32 .lss (.t 31) (.c (.int .u8 128))⟩])
  (.cond (.t 32) (.seq (.ops [⟨none, .mv 33 (.t 5)⟩,
      ⟨none, .mv 34 (.t 7)⟩,
      ⟨none, .bi 35 .add (.t 34) (.c (.int .i64 1))⟩,
      ⟨none, .mv 36 (.t 0)⟩,
      ⟨none, .mv 37 (.t 7)⟩,
      ⟨none, .ia 38 (.t 36) (.t 37) 1⟩,
      ⟨none, .ld 39 (.t 38) 1 false⟩,
      ⟨none, .bi 40 .neq (.t 39) (.c (.int .u8 0))⟩,
      ⟨none, .mv 41 (.t 40)⟩,
      ⟨some (41, false), .mv 42 (.t 7)⟩,
      ⟨some (41, false), .bi 43 .eql (.t 42) (.c (.int .i64 0))⟩,
      ⟨none, .pk 44 (.t 41) (.c (.bool true)) (.t 43)⟩,
      ⟨none, .mv 2 (.t 33)⟩,
      ⟨none, .mv 3 (.t 35)⟩,
      ⟨none, .mv 4 (.t 44)⟩])
    (.ret))
    (.skip)))
  (.seq (.ops [⟨none, .mv 45 (.t 7)⟩,
    ⟨none, .bi 46 .lss (.t 45) (.c (.int .i64 8))⟩])
  (.cond (.t 46) (.ops [⟨none, .mv 47 (.t 6)⟩,
      ⟨none, .bi 48 .mul (.t 47) (.c (.int .i64 128))⟩,
      ⟨none, .mv 6 (.t 48)⟩])
    (.skip))))))
  (.ops [⟨none, .mv 16 (.t 7)⟩,
    ⟨none, .bi 17 .add (.t 16) (.c (.int .i64 1))⟩,
    ⟨none, .mv 7 (.t 17)⟩]))))))
  (.seq (.ops [⟨none, .mv 2 (.c (.int .i64 0))⟩,
    ⟨none, .mv 3 (.c (.int .i64 0))⟩,
    ⟨none, .mv 4 (.c (.bool false))⟩])
  (.ret)))))
theorem comp29 : compFn Try.prog [] Try.f29 = some ([.t 2, .t 3, .t 4], c29) := by kernel_rfl
/-- topiary/topiaryref03.Fail: 3 parameters, 13 slots. -/
def c30 : C :=
  .seq (.ops [⟨none, .bxL 3 (.t 0)⟩,
    ⟨none, .alL 6 [.sl true .pub 0 [], .int .i64 0, .int .i64 0, .int .i64 0]⟩])
  (.seq (.ops [⟨none, .fa 7 (.t 3) 0⟩,
    ⟨none, .ld 8 (.t 7) 1 false⟩,
    ⟨none, .mv 9 (.t 2)⟩,
    ⟨none, .mv 10 (.t 1)⟩,
    ⟨none, .mv 11 (.t 2)⟩,
    ⟨none, .bld 12 [.sl true .pub 0 [], .int .i64 0, .int .i64 0, .int .i64 0] [(0, 1, (.t 8)), (1, 1, (.t 9)), (2, 1, (.t 10)), (3, 1, (.t 11))]⟩,
    ⟨none, .st (.t 6) (.t 12) 4⟩])
  (.ret))
theorem comp30 : compFn Try.prog [3, 6] Try.f30 = some ([.c 6 4 true], c30) := by kernel_rfl
end Go.VL
