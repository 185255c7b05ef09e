import Derived.Test.YtcojigpknididaaB4
import Derived.Test.YtcojigpknididaaProg
set_option linter.unusedVariables false
set_option linter.unusedSimpArgs false
namespace Go.VL.opl
open Go Go.VL Go.Proofs
/-- topiary/topiarylaw07.OplogGoes: 3 parameters, 117 slots. -/
def c3 : C :=
  .seq (.ops [⟨none, .bxH 5 (.t 2)⟩,
    ⟨none, .alH 6 [.bool false]⟩])
  (.seq (.ops [⟨none, .mv 19 (.t 0)⟩,
    ⟨none, .ca (some 20) 12 [(.c (.int .i64 50)), (.t 19)]⟩,
    ⟨none, .mv 18 (.t 20)⟩,
    ⟨none, .ex 21 (.t 18) 0⟩,
    ⟨none, .ex 22 (.t 18) 1⟩,
    ⟨none, .alL 8 [.int .i64 0, .sl true .pub 0 []]⟩,
    ⟨none, .mv 7 (.t 21)⟩,
    ⟨none, .st (.t 8) (.t 22) 2⟩])
  (.seq (.ops [⟨none, .lit 23 1 []⟩,
    ⟨none, .mv 24 (.t 1)⟩,
    ⟨none, .ap 25 1 (.t 23) (.t 24)⟩,
    ⟨none, .mv 9 (.t 25)⟩])
  (.seq (.ops [⟨none, .mv 26 (.t 7)⟩,
    ⟨none, .mv 27 (.t 9)⟩,
    ⟨none, .ca (some 28) 13 [(.t 26), (.t 27)]⟩,
    ⟨none, .mv 10 (.t 28)⟩])
  (.seq (.seq (.ops [⟨none, .mv 29 (.t 10)⟩,
    ⟨none, .bq 30 false .fn (.t 29) (.c (.nilf))⟩])
  (.cond (.t 30) (.seq (.ops [⟨none, .st (.t 6) (.c (.bool false)) 1⟩])
    (.ret))
    (.skip)))
  (.seq (.seq (.ops [⟨none, .mv 11 (.c (.int .i64 0))⟩])
  (.block 0 (.loop (.seq (.seq (.ops [⟨none, .mv 31 (.t 11)⟩,
    ⟨none, .mv 32 (.t 9)⟩,
    ⟨none, .ln 33 .sl (.t 32)⟩,
    ⟨none, .bi 34 .lss (.t 31) (.t 33)⟩])
  (.cond (.t 34) (.skip)
    (.exit 0)))
  (.seq (.block 1 (.ops [⟨none, .mv 37 (.t 9)⟩,
    ⟨none, .mv 38 (.t 11)⟩,
    ⟨none, .ia 39 (.t 37) (.t 38) 1⟩,
    ⟨none, .se (.t 39) (.c (.int .i64 1)) 1⟩]))
  (.ops [⟨none, .mv 35 (.t 11)⟩,
    ⟨none, .bi 36 .add (.t 35) (.c (.int .i64 1))⟩,
    ⟨none, .mv 11 (.t 36)⟩]))))))
  (.seq (.ops [⟨none, .mv 40 (.t 7)⟩,
    ⟨none, .ca (some 41) 15 []⟩,
    ⟨none, .ca (some 42) 14 [(.t 40), (.t 41)]⟩])
  (.seq (.ops [⟨none, .lit 43 13 []⟩,
    ⟨none, .alH 12 [.sl true .pub 0 []]⟩,
    ⟨none, .st (.t 12) (.t 43) 1⟩])
  (.cut (.seq (.ops [⟨none, .mv 44 (.t 1)⟩,
    ⟨none, .ca (some 45) 16 [(.t 44)]⟩,
    ⟨none, .bi 46 .eql (.t 45) (.c (.int .i64 0))⟩])
  (.cond (.t 46) (.ops [⟨none, .fa 47 (.t 8) 1⟩,
      ⟨none, .ld 48 (.t 47) 1 false⟩,
      ⟨none, .mv 49 (.t 1)⟩,
      ⟨none, .ca (some 50) 17 [(.t 48), (.t 49)]⟩,
      ⟨none, .st (.t 12) (.t 50) 1⟩])
    (.skip)))
  (.seq (.ops [⟨none, .alH 13 [.int .i64 0]⟩,
    ⟨none, .st (.t 13) (.c (.int .i64 0)) 1⟩])
  (.cut (.seq (.ops [⟨none, .mv 51 (.t 10)⟩])
  (.block 2 (.range (.t 51) [52] (.ops [⟨none, .alL 14 [.int .i64 0, .int .i64 0, .int .i64 0, .sl true .pub 0 [], .int .i64 0, .int .i64 0, .int .i64 0, .int .i64 0, .int .i64 0, .int .i64 0, .int .i64 0, .str [], .str []]⟩,
    ⟨none, .st (.t 14) (.t 52) 13⟩])
  (.block 3 (.seq (.seq (.ops [⟨none, .ld 53 (.t 13) 1 false⟩,
    ⟨none, .ld 54 (.t 5) 1 false⟩,
    ⟨none, .bi 55 .eql (.t 53) (.t 54)⟩])
  (.cond (.t 55) (.exit 2)
    (.skip)))
  (.seq (.seq (.opsD [⟨none, .ld 56 (.t 13) 1 false⟩,
    ⟨none, .ld 57 (.t 12) 1 false⟩,
    ⟨none, .ln 58 .sl (.t 57)⟩,
    ⟨none, .bi 59 .geq (.t 56) (.t 58)⟩,
    ⟨none, .mv 60 (.t 59)⟩,
    ⟨some (60, false), .ld 61 (.t 14) 13 true⟩,
    ⟨some (60, false), .ld 62 (.t 12) 1 false⟩,
    ⟨some (60, false), .ld 63 (.t 13) 1 false⟩,
    ⟨some (60, false), .ia 64 (.t 62) (.t 63) 13⟩,
    ⟨some (60, false), .ld 65 (.t 64) 13 true⟩,
    ⟨some (60, false), .ca (some 66) 18 [(.t 61), (.t 65)]⟩,
    ⟨some (60, false), .un 67 .not (.t 66)⟩,
    ⟨none, .pk 68 (.t 60) (.c (.bool true)) (.t 67)⟩])
  (.cond (.t 68) (.seq (.ops [⟨none, .st (.t 6) (.c (.bool false)) 1⟩])
    (.ret))
    (.skip)))
  (.seq (.ops [⟨none, .ld 69 (.t 13) 1 false⟩,
    ⟨none, .bi 70 .add (.t 69) (.c (.int .i64 1))⟩,
    ⟨none, .st (.t 13) (.t 70) 1⟩])
  (.seq (.ops [⟨none, .mv 15 (.c (.int .i64 0))⟩])
  (.block 4 (.loop (.seq (.seq (.ops [⟨none, .mv 71 (.t 15)⟩,
    ⟨none, .fa 72 (.t 14) 3⟩,
    ⟨none, .ld 73 (.t 72) 1 false⟩,
    ⟨none, .ln 74 .sl (.t 73)⟩,
    ⟨none, .bi 75 .lss (.t 71) (.t 74)⟩])
  (.cond (.t 75) (.skip)
    (.exit 4)))
  (.seq (.block 5 (.ops [⟨none, .fa 78 (.t 14) 3⟩,
    ⟨none, .ld 79 (.t 78) 1 false⟩,
    ⟨none, .mv 80 (.t 15)⟩,
    ⟨none, .ia 81 (.t 79) (.t 80) 1⟩,
    ⟨none, .se (.t 81) (.c (.int .i64 (-7))) 1⟩]))
  (.ops [⟨none, .mv 76 (.t 15)⟩,
    ⟨none, .bi 77 .add (.t 76) (.c (.int .i64 1))⟩,
    ⟨none, .mv 15 (.t 77)⟩])))))))))))))
  (.seq (.ops [⟨none, .alH 16 [.int .i64 0]⟩,
    ⟨none, .st (.t 16) (.c (.int .i64 0)) 1⟩])
  (.seq (.seq (.ops [⟨none, .mv 82 (.t 10)⟩])
  (.block 6 (.range (.t 82) [83] (.ops [⟨none, .alL 17 [.int .i64 0, .int .i64 0, .int .i64 0, .sl true .pub 0 [], .int .i64 0, .int .i64 0, .int .i64 0, .int .i64 0, .int .i64 0, .int .i64 0, .int .i64 0, .str [], .str []]⟩,
    ⟨none, .st (.t 17) (.t 83) 13⟩])
  (.block 7 (.seq (.seq (.opsD [⟨none, .ld 84 (.t 16) 1 false⟩,
    ⟨none, .ld 85 (.t 12) 1 false⟩,
    ⟨none, .ln 86 .sl (.t 85)⟩,
    ⟨none, .bi 87 .geq (.t 84) (.t 86)⟩,
    ⟨none, .mv 88 (.t 87)⟩,
    ⟨some (88, false), .ld 89 (.t 17) 13 true⟩,
    ⟨some (88, false), .ld 90 (.t 12) 1 false⟩,
    ⟨some (88, false), .ld 91 (.t 16) 1 false⟩,
    ⟨some (88, false), .ia 92 (.t 90) (.t 91) 13⟩,
    ⟨some (88, false), .ld 93 (.t 92) 13 true⟩,
    ⟨some (88, false), .ca (some 94) 18 [(.t 89), (.t 93)]⟩,
    ⟨some (88, false), .un 95 .not (.t 94)⟩,
    ⟨none, .pk 96 (.t 88) (.c (.bool true)) (.t 95)⟩])
  (.cond (.t 96) (.seq (.ops [⟨none, .st (.t 6) (.c (.bool false)) 1⟩])
    (.ret))
    (.skip)))
  (.ops [⟨none, .ld 97 (.t 16) 1 false⟩,
    ⟨none, .bi 98 .add (.t 97) (.c (.int .i64 1))⟩,
    ⟨none, .st (.t 16) (.t 98) 1⟩]))))))
  (.seq (.ops [⟨none, .ld 99 (.t 16) 1 false⟩,
    ⟨none, .ld 100 (.t 12) 1 false⟩,
    ⟨none, .ln 101 .sl (.t 100)⟩,
    ⟨none, .bi 102 .eql (.t 99) (.t 101)⟩,
    ⟨none, .mv 103 (.t 102)⟩,
    ⟨some (103, true), .ld 104 (.t 13) 1 false⟩,
    ⟨some (103, true), .ld 105 (.t 12) 1 false⟩,
    ⟨some (103, true), .ln 106 .sl (.t 105)⟩,
    ⟨some (103, true), .bi 107 .eql (.t 104) (.t 106)⟩,
    ⟨some (103, true), .mv 108 (.t 107)⟩,
    ⟨some (108, false), .ld 109 (.t 13) 1 false⟩,
    ⟨some (108, false), .ld 110 (.t 5) 1 false⟩,
    ⟨some (108, false), .bi 111 .eql (.t 109) (.t 110)⟩,
    ⟨some (103, true), .pk 112 (.t 108) (.c (.bool true)) (.t 111)⟩,
    ⟨none, .pk 113 (.t 103) (.t 112) (.c (.bool false))⟩,
    ⟨none, .mv 114 (.t 113)⟩,
    ⟨some (114, true), .ca (some 115) 19 []⟩,
    ⟨none, .pk 116 (.t 114) (.t 115) (.c (.bool false))⟩,
    ⟨none, .st (.t 6) (.t 116) 1⟩])
  (.ret))))))))))))))
theorem comp3 : compFn Try.prog [8, 14, 17, 1000039, 1000081] Try.f3 = some ([.c 6 1 false], c3) := by kernel_rfl
/-- topiary/topiarylaw07.OplogFinds: 2 parameters, 117 slots. -/
def c4 : C :=
  .seq (.ops [⟨none, .bxL 3 (.t 1)⟩,
    ⟨none, .mv 4 (.c (.bool false))⟩])
  (.seq (.ops [⟨none, .mv 14 (.t 0)⟩,
    ⟨none, .ca (some 15) 12 [(.c (.int .i64 50)), (.t 14)]⟩,
    ⟨none, .mv 13 (.t 15)⟩,
    ⟨none, .ex 16 (.t 13) 0⟩,
    ⟨none, .ex 17 (.t 13) 1⟩,
    ⟨none, .alL 6 [.int .i64 0, .sl true .pub 0 []]⟩,
    ⟨none, .mv 5 (.t 16)⟩,
    ⟨none, .st (.t 6) (.t 17) 2⟩])
  (.seq (.ops [⟨none, .mv 19 (.t 5)⟩,
    ⟨none, .fa 20 (.t 3) 0⟩,
    ⟨none, .ld 21 (.t 20) 2 true⟩,
    ⟨none, .ca (some 22) 20 [(.t 19), (.t 21)]⟩,
    ⟨none, .mv 18 (.t 22)⟩,
    ⟨none, .ex 23 (.t 18) 0⟩,
    ⟨none, .ex 24 (.t 18) 1⟩,
    ⟨none, .alL 7 [.int .i64 0, .int .i64 0, .int .i64 0, .sl true .pub 0 [], .int .i64 0, .int .i64 0, .int .i64 0, .int .i64 0, .int .i64 0, .int .i64 0, .int .i64 0, .str [], .str []]⟩,
    ⟨none, .st (.t 7) (.t 23) 13⟩,
    ⟨none, .mv 8 (.t 24)⟩])
  (.seq (.ops [⟨none, .fa 25 (.t 6) 1⟩,
    ⟨none, .ld 26 (.t 25) 1 false⟩,
    ⟨none, .fa 27 (.t 3) 0⟩,
    ⟨none, .ld 28 (.t 27) 2 true⟩,
    ⟨none, .ca (some 29) 21 [(.t 26), (.t 28)]⟩,
    ⟨none, .mv 9 (.t 29)⟩])
  (.seq (.seq (.opsD [⟨none, .mv 30 (.t 8)⟩,
    ⟨none, .mv 31 (.t 9)⟩,
    ⟨none, .bi 32 .geq (.t 31) (.c (.int .i64 0))⟩,
    ⟨none, .bq 33 true .bool (.t 30) (.t 32)⟩,
    ⟨none, .mv 34 (.t 33)⟩,
    ⟨some (34, false), .mv 35 (.t 8)⟩,
    ⟨some (34, false), .mv 36 (.t 35)⟩,
    ⟨some (36, true), .ld 37 (.t 7) 13 true⟩,
    ⟨some (36, true), .fa 38 (.t 6) 1⟩,
    ⟨some (36, true), .ld 39 (.t 38) 1 false⟩,
    ⟨some (36, true), .mv 40 (.t 9)⟩,
    ⟨some (36, true), .ia 41 (.t 39) (.t 40) 13⟩,
    ⟨some (36, true), .ld 42 (.t 41) 13 true⟩,
    ⟨some (36, true), .ca (some 43) 18 [(.t 37), (.t 42)]⟩,
    ⟨some (36, true), .un 44 .not (.t 43)⟩,
    ⟨some (34, false), .pk 45 (.t 36) (.t 44) (.c (.bool false))⟩,
    ⟨none, .pk 46 (.t 34) (.c (.bool true)) (.t 45)⟩,
    ⟨none, .mv 47 (.t 46)⟩,
    ⟨some (47, false), .mv 48 (.t 8)⟩,
    ⟨some (47, false), .un 49 .not (.t 48)⟩,
    ⟨some (47, false), .mv 50 (.t 49)⟩,
    ⟨some (50, true), .ld 51 (.t 7) 13 true⟩,
    ⟨some (50, true), .bld 52 [.int .i64 0, .int .i64 0, .int .i64 0, .sl true .pub 0 [], .int .i64 0, .int .i64 0, .int .i64 0, .int .i64 0, .int .i64 0, .int .i64 0, .int .i64 0, .str [], .str []] []⟩,
    ⟨some (50, true), .ca (some 53) 18 [(.t 51), (.t 52)]⟩,
    ⟨some (50, true), .un 54 .not (.t 53)⟩,
    ⟨some (47, false), .pk 55 (.t 50) (.t 54) (.c (.bool false))⟩,
    ⟨none, .pk 56 (.t 47) (.c (.bool true)) (.t 55)⟩])
  (.cond (.t 56) (.seq (.ops [⟨none, .mv 4 (.c (.bool false))⟩])
    (.ret))
    (.skip)))
  (.seq (.ops [⟨none, .mv 58 (.t 5)⟩,
    ⟨none, .fa 59 (.t 3) 2⟩,
    ⟨none, .ld 60 (.t 59) 1 false⟩,
    ⟨none, .fa 61 (.t 3) 3⟩,
    ⟨none, .ld 62 (.t 61) 1 false⟩,
    ⟨none, .ca (some 63) 22 [(.t 58), (.t 60), (.t 62)]⟩,
    ⟨none, .mv 57 (.t 63)⟩,
    ⟨none, .ex 64 (.t 57) 0⟩,
    ⟨none, .ex 65 (.t 57) 1⟩,
    ⟨none, .alL 10 [.int .i64 0, .int .i64 0, .int .i64 0, .sl true .pub 0 [], .int .i64 0, .int .i64 0, .int .i64 0, .int .i64 0, .int .i64 0, .int .i64 0, .int .i64 0, .str [], .str []]⟩,
    ⟨none, .st (.t 10) (.t 64) 13⟩,
    ⟨none, .mv 11 (.t 65)⟩])
  (.seq (.ops [⟨none, .fa 66 (.t 6) 1⟩,
    ⟨none, .ld 67 (.t 66) 1 false⟩,
    ⟨none, .fa 68 (.t 3) 2⟩,
    ⟨none, .ld 69 (.t 68) 1 false⟩,
    ⟨none, .fa 70 (.t 3) 3⟩,
    ⟨none, .ld 71 (.t 70) 1 false⟩,
    ⟨none, .ca (some 72) 23 [(.t 67), (.t 69), (.t 71)]⟩,
    ⟨none, .mv 12 (.t 72)⟩])
  (.seq (.seq (.ops [⟨none, .fa 73 (.t 3) 2⟩,
    ⟨none, .ld 74 (.t 73) 1 false⟩,
    ⟨none, .bi 75 .lss (.t 74) (.c (.int .i64 0))⟩,
    ⟨none, .mv 76 (.t 75)⟩,
    ⟨some (76, false), .fa 77 (.t 3) 2⟩,
    ⟨some (76, false), .ld 78 (.t 77) 1 false⟩,
    ⟨some (76, false), .bi 79 .geq (.t 78) (.c (.int .i64 64))⟩,
    ⟨none, .pk 80 (.t 76) (.c (.bool true)) (.t 79)⟩])
  (.cond (.t 80) (.seq (.ops [⟨none, .mv 81 (.t 11)⟩,
      ⟨none, .bi 82 .eql (.t 81) (.c (.int .i64 1))⟩,
      ⟨none, .mv 83 (.t 82)⟩,
      ⟨some (83, true), .ld 84 (.t 10) 13 true⟩,
      ⟨some (83, true), .bld 85 [.int .i64 0, .int .i64 0, .int .i64 0, .sl true .pub 0 [], .int .i64 0, .int .i64 0, .int .i64 0, .int .i64 0, .int .i64 0, .int .i64 0, .int .i64 0, .str [], .str []] []⟩,
      ⟨some (83, true), .ca (some 86) 18 [(.t 84), (.t 85)]⟩,
      ⟨none, .pk 87 (.t 83) (.t 86) (.c (.bool false))⟩,
      ⟨none, .mv 88 (.t 87)⟩,
      ⟨some (88, true), .ca (some 89) 19 []⟩,
      ⟨none, .pk 90 (.t 88) (.t 89) (.c (.bool false))⟩,
      ⟨none, .mv 4 (.t 90)⟩])
    (.ret))
    (.skip)))
  (.seq (.seq (.ops [⟨none, .mv 91 (.t 12)⟩,
    ⟨none, .bi 92 .lss (.t 91) (.c (.int .i64 0))⟩])
  (.cond (.t 92) (.seq (.ops [⟨none, .mv 93 (.t 11)⟩,
      ⟨none, .bi 94 .eql (.t 93) (.c (.int .i64 4))⟩,
      ⟨none, .mv 95 (.t 94)⟩,
      ⟨some (95, true), .ld 96 (.t 10) 13 true⟩,
      ⟨some (95, true), .bld 97 [.int .i64 0, .int .i64 0, .int .i64 0, .sl true .pub 0 [], .int .i64 0, .int .i64 0, .int .i64 0, .int .i64 0, .int .i64 0, .int .i64 0, .int .i64 0, .str [], .str []] []⟩,
      ⟨some (95, true), .ca (some 98) 18 [(.t 96), (.t 97)]⟩,
      ⟨none, .pk 99 (.t 95) (.t 98) (.c (.bool false))⟩,
      ⟨none, .mv 100 (.t 99)⟩,
      ⟨some (100, true), .ca (some 101) 19 []⟩,
      ⟨none, .pk 102 (.t 100) (.t 101) (.c (.bool false))⟩,
      ⟨none, .mv 4 (.t 102)⟩])
    (.ret))
    (.skip)))
  (.seq (.opsD [⟨none, .mv 103 (.t 11)⟩,
    ⟨none, .bi 104 .eql (.t 103) (.c (.int .i64 0))⟩,
    ⟨none, .mv 105 (.t 104)⟩,
    ⟨some (105, true), .ld 106 (.t 10) 13 true⟩,
    ⟨some (105, true), .fa 107 (.t 6) 1⟩,
    ⟨some (105, true), .ld 108 (.t 107) 1 false⟩,
    ⟨some (105, true), .mv 109 (.t 12)⟩,
    ⟨some (105, true), .ia 110 (.t 108) (.t 109) 13⟩,
    ⟨some (105, true), .ld 111 (.t 110) 13 true⟩,
    ⟨some (105, true), .ca (some 112) 18 [(.t 106), (.t 111)]⟩,
    ⟨none, .pk 113 (.t 105) (.t 112) (.c (.bool false))⟩,
    ⟨none, .mv 114 (.t 113)⟩,
    ⟨some (114, true), .ca (some 115) 19 []⟩,
    ⟨none, .pk 116 (.t 114) (.t 115) (.c (.bool false))⟩,
    ⟨none, .mv 4 (.t 116)⟩])
  (.ret))))))))))
theorem comp4 : compFn Try.prog [3, 6, 7, 10] Try.f4 = some ([.t 4], c4) := by kernel_rfl
/-- topiary/topiarylaw07.OplogClosed: 2 parameters, 110 slots. -/
def c5 : C :=
  .seq (.ops [⟨none, .mv 4 (.c (.bool false))⟩])
  (.seq (.ops [⟨none, .mv 15 (.t 0)⟩,
    ⟨none, .ca (some 16) 24 [(.t 15)]⟩,
    ⟨none, .mv 14 (.t 16)⟩,
    ⟨none, .ex 17 (.t 14) 0⟩,
    ⟨none, .ex 18 (.t 14) 1⟩,
    ⟨none, .mv 5 (.t 17)⟩,
    ⟨none, .mv 6 (.t 18)⟩])
  (.seq (.seq (.ops [⟨none, .mv 19 (.t 6)⟩,
    ⟨none, .bi 20 .neq (.t 19) (.c (.int .i64 0))⟩,
    ⟨none, .mv 21 (.t 20)⟩,
    ⟨some (21, false), .mv 22 (.t 5)⟩,
    ⟨some (21, false), .bq 23 false .ptr (.t 22) (.c (.ptr none))⟩,
    ⟨none, .pk 24 (.t 21) (.c (.bool true)) (.t 23)⟩])
  (.cond (.t 24) (.seq (.ops [⟨none, .mv 25 (.t 6)⟩,
      ⟨none, .bi 26 .eql (.t 25) (.c (.int .i64 1))⟩,
      ⟨none, .mv 27 (.t 26)⟩,
      ⟨some (27, true), .mv 28 (.t 5)⟩,
      ⟨some (27, true), .bq 29 false .ptr (.t 28) (.c (.ptr none))⟩,
      ⟨none, .pk 30 (.t 27) (.t 29) (.c (.bool false))⟩,
      ⟨none, .mv 31 (.t 30)⟩,
      ⟨some (31, true), .ca (some 32) 19 []⟩,
      ⟨none, .pk 33 (.t 31) (.t 32) (.c (.bool false))⟩,
      ⟨none, .mv 4 (.t 33)⟩])
    (.ret))
    (.skip)))
  (.seq (.seq (.ops [⟨none, .mv 7 (.c (.int .i64 0))⟩])
  (.block 0 (.loop (.seq (.seq (.ops [⟨none, .mv 34 (.t 7)⟩,
    ⟨none, .mv 35 (.t 1)⟩,
    ⟨none, .ln 36 .sl (.t 35)⟩,
    ⟨none, .bi 37 .lss (.t 34) (.t 36)⟩])
  (.cond (.t 37) (.skip)
    (.exit 0)))
  (.seq (.block 1 (.ops [⟨none, .mv 40 (.t 5)⟩,
    ⟨none, .mv 41 (.t 1)⟩,
    ⟨none, .mv 42 (.t 7)⟩,
    ⟨none, .ia 43 (.t 41) (.t 42) 13⟩,
    ⟨none, .ld 44 (.t 43) 13 true⟩,
    ⟨none, .ca (some 45) 14 [(.t 40), (.t 44)]⟩]))
  (.ops [⟨none, .mv 38 (.t 7)⟩,
    ⟨none, .bi 39 .add (.t 38) (.c (.int .i64 1))⟩,
    ⟨none, .mv 7 (.t 39)⟩]))))))
  (.seq (.ops [⟨none, .mv 46 (.t 5)⟩,
    ⟨none, .ca (some 47) 25 [(.t 46)]⟩,
    ⟨none, .mv 8 (.t 47)⟩])
  (.seq (.seq (.ops [⟨none, .mv 9 (.c (.int .i64 0))⟩])
  (.block 2 (.loop (.seq (.seq (.ops [⟨none, .mv 48 (.t 9)⟩,
    ⟨none, .mv 49 (.t 8)⟩,
    ⟨none, .ln 50 .sl (.t 49)⟩,
    ⟨none, .bi 51 .lss (.t 48) (.t 50)⟩])
  (.cond (.t 51) (.skip)
    (.exit 2)))
  (.seq (.block 3 (.seq (.ops [⟨none, .mv 54 (.t 8)⟩,
    ⟨none, .mv 55 (.t 9)⟩,
    ⟨none, .ia 56 (.t 54) (.t 55) 13⟩,
    ⟨none, .ld 57 (.t 56) 13 true⟩,
    ⟨none, .alL 10 [.int .i64 0, .int .i64 0, .int .i64 0, .sl true .pub 0 [], .int .i64 0, .int .i64 0, .int .i64 0, .int .i64 0, .int .i64 0, .int .i64 0, .int .i64 0, .str [], .str []]⟩,
    ⟨none, .st (.t 10) (.t 57) 13⟩])
  (.seq (.seq (.opsD [⟨none, .mv 58 (.t 9)⟩,
    ⟨none, .bi 59 .gtr (.t 58) (.c (.int .i64 0))⟩,
    ⟨none, .mv 60 (.t 59)⟩,
    ⟨some (60, true), .mv 61 (.t 8)⟩,
    ⟨some (60, true), .mv 62 (.t 9)⟩,
    ⟨some (60, true), .bi 63 .sub (.t 62) (.c (.int .i64 1))⟩,
    ⟨some (60, true), .ia 64 (.t 61) (.t 63) 13⟩,
    ⟨some (60, true), .fa 65 (.t 64) 0⟩,
    ⟨some (60, true), .ld 66 (.t 65) 2 true⟩,
    ⟨some (60, true), .fa 67 (.t 10) 0⟩,
    ⟨some (60, true), .ld 68 (.t 67) 2 true⟩,
    ⟨some (60, true), .ca (some 69) 26 [(.t 66), (.t 68)]⟩,
    ⟨some (60, true), .un 70 .not (.t 69)⟩,
    ⟨none, .pk 71 (.t 60) (.t 70) (.c (.bool false))⟩])
  (.cond (.t 71) (.seq (.ops [⟨none, .mv 4 (.c (.bool false))⟩])
    (.ret))
    (.skip)))
  (.seq (.ops [⟨none, .mv 72 (.t 8)⟩,
    ⟨none, .mv 73 (.t 9)⟩,
    ⟨none, .sl 74 13 (.t 72) none (some (.t 73))⟩,
    ⟨none, .ca (some 75) 27 [(.t 74)]⟩,
    ⟨none, .mv 11 (.t 75)⟩])
  (.seq (.seq (.opsD [⟨none, .fa 76 (.t 10) 3⟩,
    ⟨none, .ld 77 (.t 76) 1 false⟩,
    ⟨none, .mv 78 (.t 11)⟩,
    ⟨none, .ca (some 79) 28 [(.t 77), (.t 78)]⟩,
    ⟨none, .un 80 .not (.t 79)⟩,
    ⟨none, .mv 81 (.t 80)⟩,
    ⟨some (81, false), .mv 82 (.t 11)⟩,
    ⟨some (81, false), .fa 83 (.t 10) 0⟩,
    ⟨some (81, false), .fa 84 (.t 83) 1⟩,
    ⟨some (81, false), .ld 85 (.t 84) 1 false⟩,
    ⟨some (81, false), .fa 87 (.t 10) 2⟩,
    ⟨some (81, false), .ld 88 (.t 87) 1 false⟩,
    ⟨some (81, false), .bi 89 .sub (.t 88) (.c (.int .i64 1))⟩,
    ⟨some (81, false), .ca (some 86) 29 [(.t 82), (.t 85)]⟩,
    ⟨some (81, false), .bi 90 .neq (.t 86) (.t 89)⟩,
    ⟨none, .pk 91 (.t 81) (.c (.bool true)) (.t 90)⟩])
  (.cond (.t 91) (.seq (.ops [⟨none, .mv 4 (.c (.bool false))⟩])
    (.ret))
    (.skip)))
  (.seq (.ops [⟨none, .ld 92 (.t 10) 13 true⟩,
    ⟨none, .ca (some 93) 30 [(.t 92)]⟩,
    ⟨none, .mv 12 (.t 93)⟩])
  (.seq (.ops [⟨none, .mv 13 (.c (.int .i64 0))⟩])
  (.block 4 (.loop (.seq (.seq (.ops [⟨none, .mv 94 (.t 13)⟩,
    ⟨none, .mv 95 (.t 12)⟩,
    ⟨none, .ln 96 .sl (.t 95)⟩,
    ⟨none, .bi 97 .lss (.t 94) (.t 96)⟩])
  (.cond (.t 97) (.skip)
    (.exit 4)))
  (.seq (.block 5 (.seq (.opsD [⟨none, .mv 100 (.t 8)⟩,
    ⟨none, .mv 101 (.t 9)⟩,
    ⟨none, .sl 102 13 (.t 100) none (some (.t 101))⟩,
    ⟨none, .mv 103 (.t 12)⟩,
    ⟨none, .mv 104 (.t 13)⟩,
    ⟨none, .ia 105 (.t 103) (.t 104) 2⟩,
    ⟨none, .ld 106 (.t 105) 2 true⟩,
    ⟨none, .ca (some 107) 21 [(.t 102), (.t 106)]⟩,
    ⟨none, .bi 108 .lss (.t 107) (.c (.int .i64 0))⟩])
  (.cond (.t 108) (.seq (.ops [⟨none, .mv 4 (.c (.bool false))⟩])
    (.ret))
    (.skip))))
  (.ops [⟨none, .mv 98 (.t 13)⟩,
    ⟨none, .bi 99 .add (.t 98) (.c (.int .i64 1))⟩,
    ⟨none, .mv 13 (.t 99)⟩]))))))))))))
  (.ops [⟨none, .mv 52 (.t 9)⟩,
    ⟨none, .bi 53 .add (.t 52) (.c (.int .i64 1))⟩,
    ⟨none, .mv 9 (.t 53)⟩]))))))
  (.seq (.ops [⟨none, .ca (some 109) 19 []⟩,
    ⟨none, .mv 4 (.t 109)⟩])
  (.ret)))))))
theorem comp5 : compFn Try.prog [10] Try.f5 = some ([.t 4], c5) := by kernel_rfl
/-- topiary/topiarylaw07.OplogSince: 3 parameters, 53 slots. -/
def c6 : C :=
  .seq (.ops [⟨none, .mv 6 (.c (.bool false))⟩])
  (.seq (.ops [⟨none, .mv 16 (.t 0)⟩,
    ⟨none, .ca (some 17) 12 [(.c (.int .i64 50)), (.t 16)]⟩,
    ⟨none, .mv 15 (.t 17)⟩,
    ⟨none, .ex 18 (.t 15) 0⟩,
    ⟨none, .ex 19 (.t 15) 1⟩,
    ⟨none, .alL 8 [.int .i64 0, .sl true .pub 0 []]⟩,
    ⟨none, .mv 7 (.t 18)⟩,
    ⟨none, .st (.t 8) (.t 19) 2⟩])
  (.seq (.ops [⟨none, .mv 21 (.t 7)⟩,
    ⟨none, .mv 22 (.t 1)⟩,
    ⟨none, .mv 23 (.t 2)⟩,
    ⟨none, .ca (some 24) 31 [(.t 21), (.t 22), (.t 23)]⟩,
    ⟨none, .mv 20 (.t 24)⟩,
    ⟨none, .ex 25 (.t 20) 0⟩,
    ⟨none, .ex 26 (.t 20) 1⟩,
    ⟨none, .ex 27 (.t 20) 2⟩,
    ⟨none, .mv 9 (.t 25)⟩,
    ⟨none, .mv 10 (.t 26)⟩,
    ⟨none, .mv 11 (.t 27)⟩])
  (.seq (.ops [⟨none, .fa 29 (.t 8) 1⟩,
    ⟨none, .ld 30 (.t 29) 1 false⟩,
    ⟨none, .mv 31 (.t 1)⟩,
    ⟨none, .mv 32 (.t 2)⟩,
    ⟨none, .ca (some 33) 32 [(.t 30), (.t 31), (.t 32)]⟩,
    ⟨none, .mv 28 (.t 33)⟩,
    ⟨none, .ex 34 (.t 28) 0⟩,
    ⟨none, .ex 35 (.t 28) 1⟩,
    ⟨none, .ex 36 (.t 28) 2⟩,
    ⟨none, .mv 12 (.t 34)⟩,
    ⟨none, .mv 13 (.t 35)⟩,
    ⟨none, .mv 14 (.t 36)⟩])
  (.seq (.ops [⟨none, .mv 37 (.t 9)⟩,
    ⟨none, .mv 38 (.t 12)⟩,
    ⟨none, .ca (some 39) 33 [(.t 37), (.t 38)]⟩,
    ⟨none, .mv 40 (.t 39)⟩,
    ⟨some (40, true), .mv 41 (.t 10)⟩,
    ⟨some (40, true), .mv 42 (.t 13)⟩,
    ⟨some (40, true), .bq 43 false .bool (.t 41) (.t 42)⟩,
    ⟨none, .pk 44 (.t 40) (.t 43) (.c (.bool false))⟩,
    ⟨none, .mv 45 (.t 44)⟩,
    ⟨some (45, true), .mv 46 (.t 11)⟩,
    ⟨some (45, true), .mv 47 (.t 14)⟩,
    ⟨some (45, true), .bi 48 .eql (.t 46) (.t 47)⟩,
    ⟨none, .pk 49 (.t 45) (.t 48) (.c (.bool false))⟩,
    ⟨none, .mv 50 (.t 49)⟩,
    ⟨some (50, true), .ca (some 51) 19 []⟩,
    ⟨none, .pk 52 (.t 50) (.t 51) (.c (.bool false))⟩,
    ⟨none, .mv 6 (.t 52)⟩])
  (.ret)))))
theorem comp6 : compFn Try.prog [8] Try.f6 = some ([.t 6], c6) := by kernel_rfl
/-- topiary/topiarylaw07.OplogAdds: 2 parameters, 83 slots. -/
def c7 : C :=
  .seq (.ops [⟨none, .mv 4 (.c (.bool false))⟩])
  (.seq (.ops [⟨none, .mv 14 (.t 0)⟩,
    ⟨none, .ca (some 15) 24 [(.t 14)]⟩,
    ⟨none, .mv 13 (.t 15)⟩,
    ⟨none, .ex 16 (.t 13) 0⟩,
    ⟨none, .ex 17 (.t 13) 1⟩,
    ⟨none, .mv 5 (.t 16)⟩,
    ⟨none, .mv 6 (.t 17)⟩])
  (.seq (.seq (.ops [⟨none, .mv 18 (.t 0)⟩,
    ⟨none, .bi 19 .lss (.t 18) (.c (.int .i64 1))⟩,
    ⟨none, .mv 20 (.t 19)⟩,
    ⟨some (20, false), .mv 21 (.t 0)⟩,
    ⟨some (20, false), .bi 22 .gtr (.t 21) (.c (.int .i64 4096))⟩,
    ⟨none, .pk 23 (.t 20) (.c (.bool true)) (.t 22)⟩])
  (.cond (.t 23) (.seq (.ops [⟨none, .mv 24 (.t 5)⟩,
      ⟨none, .bq 25 false .ptr (.t 24) (.c (.ptr none))⟩,
      ⟨none, .mv 26 (.t 25)⟩,
      ⟨some (26, true), .mv 27 (.t 6)⟩,
      ⟨some (26, true), .bi 28 .eql (.t 27) (.c (.int .i64 1))⟩,
      ⟨none, .pk 29 (.t 26) (.t 28) (.c (.bool false))⟩,
      ⟨none, .mv 30 (.t 29)⟩,
      ⟨some (30, true), .ca (some 31) 19 []⟩,
      ⟨none, .pk 32 (.t 30) (.t 31) (.c (.bool false))⟩,
      ⟨none, .mv 4 (.t 32)⟩])
    (.ret))
    (.skip)))
  (.seq (.seq (.ops [⟨none, .mv 33 (.t 5)⟩,
    ⟨none, .bq 34 false .ptr (.t 33) (.c (.ptr none))⟩,
    ⟨none, .mv 35 (.t 34)⟩,
    ⟨some (35, false), .mv 36 (.t 6)⟩,
    ⟨some (35, false), .bi 37 .neq (.t 36) (.c (.int .i64 0))⟩,
    ⟨none, .pk 38 (.t 35) (.c (.bool true)) (.t 37)⟩])
  (.cond (.t 38) (.seq (.ops [⟨none, .mv 4 (.c (.bool false))⟩])
    (.ret))
    (.skip)))
  (.seq (.ops [⟨none, .mv 39 (.t 0)⟩,
    ⟨none, .bld 40 [.int .i64 0, .sl true .pub 0 []] [(0, 1, (.t 39))]⟩,
    ⟨none, .alL 7 [.int .i64 0, .sl true .pub 0 []]⟩,
    ⟨none, .st (.t 7) (.t 40) 2⟩])
  (.seq (.seq (.ops [⟨none, .mv 8 (.c (.int .i64 0))⟩])
  (.block 0 (.loop (.seq (.seq (.ops [⟨none, .mv 41 (.t 8)⟩,
    ⟨none, .mv 42 (.t 1)⟩,
    ⟨none, .ln 43 .sl (.t 42)⟩,
    ⟨none, .bi 44 .lss (.t 41) (.t 43)⟩])
  (.cond (.t 44) (.skip)
    (.exit 0)))
  (.seq (.block 1 (.seq (.ops [⟨none, .mv 47 (.t 1)⟩,
    ⟨none, .mv 48 (.t 8)⟩,
    ⟨none, .ia 49 (.t 47) (.t 48) 13⟩,
    ⟨none, .ld 50 (.t 49) 13 true⟩,
    ⟨none, .ca (some 51) 34 [(.t 50)]⟩,
    ⟨none, .alL 9 [.int .i64 0, .int .i64 0, .int .i64 0, .sl true .pub 0 [], .int .i64 0, .int .i64 0, .int .i64 0, .int .i64 0, .int .i64 0, .int .i64 0, .int .i64 0, .str [], .str []]⟩,
    ⟨none, .st (.t 9) (.t 51) 13⟩])
  (.cut (.opsE [⟨none, .ld 53 (.t 7) 2 true⟩,
    ⟨none, .mv 54 (.t 1)⟩,
    ⟨none, .mv 55 (.t 8)⟩,
    ⟨none, .ia 56 (.t 54) (.t 55) 13⟩,
    ⟨none, .ld 57 (.t 56) 13 true⟩,
    ⟨none, .ca (some 58) 35 [(.t 53), (.t 57)]⟩,
    ⟨none, .mv 52 (.t 58)⟩,
    ⟨none, .ex 59 (.t 52) 0⟩,
    ⟨none, .ex 60 (.t 52) 1⟩,
    ⟨none, .alH 10 [.int .i64 0, .sl true .pub 0 []]⟩,
    ⟨none, .st (.t 10) (.t 59) 2⟩,
    ⟨none, .mv 11 (.t 60)⟩]
  [⟨none, .ld 53 (.t 7) 2 true⟩,
    ⟨none, .mv 54 (.t 1)⟩,
    ⟨none, .mv 55 (.t 8)⟩,
    ⟨none, .ia 56 (.t 54) (.t 55) 13⟩,
    ⟨none, .ld 57 (.t 56) 13 true⟩,
    ⟨none, .alH 10 [.int .i64 0, .sl true .pub 0 []]⟩,
    ⟨none, .ca (some 58) 35 [(.t 53), (.t 57)]⟩,
    ⟨none, .mv 52 (.t 58)⟩,
    ⟨none, .ex 59 (.t 52) 0⟩,
    ⟨none, .ex 60 (.t 52) 1⟩,
    ⟨none, .st (.t 10) (.t 59) 2⟩,
    ⟨none, .mv 11 (.t 60)⟩])
  (.seq (.ops [⟨none, .ld 61 (.t 10) 2 true⟩,
    ⟨none, .st (.t 7) (.t 61) 2⟩])
  (.seq (.seq (.ops [⟨none, .mv 62 (.t 5)⟩,
    ⟨none, .ld 63 (.t 9) 13 true⟩,
    ⟨none, .ca (some 64) 14 [(.t 62), (.t 63)]⟩,
    ⟨none, .mv 65 (.t 11)⟩,
    ⟨none, .bi 66 .neq (.t 64) (.t 65)⟩])
  (.cond (.t 66) (.seq (.ops [⟨none, .mv 4 (.c (.bool false))⟩])
    (.ret))
    (.skip)))
  (.seq (.seq (.ops [⟨none, .mv 12 (.c (.int .i64 0))⟩])
  (.block 2 (.loop (.seq (.seq (.ops [⟨none, .mv 67 (.t 12)⟩,
    ⟨none, .fa 68 (.t 9) 3⟩,
    ⟨none, .ld 69 (.t 68) 1 false⟩,
    ⟨none, .ln 70 .sl (.t 69)⟩,
    ⟨none, .bi 71 .lss (.t 67) (.t 70)⟩])
  (.cond (.t 71) (.skip)
    (.exit 2)))
  (.seq (.block 3 (.ops [⟨none, .fa 74 (.t 9) 3⟩,
    ⟨none, .ld 75 (.t 74) 1 false⟩,
    ⟨none, .mv 76 (.t 12)⟩,
    ⟨none, .ia 77 (.t 75) (.t 76) 1⟩,
    ⟨none, .se (.t 77) (.c (.int .i64 (-7))) 1⟩]))
  (.ops [⟨none, .mv 72 (.t 12)⟩,
    ⟨none, .bi 73 .add (.t 72) (.c (.int .i64 1))⟩,
    ⟨none, .mv 12 (.t 73)⟩]))))))
  (.seq (.ops [⟨none, .mv 78 (.t 5)⟩,
    ⟨none, .ld 79 (.t 7) 2 true⟩,
    ⟨none, .ca (some 80) 36 [(.t 78), (.t 79)]⟩,
    ⟨none, .un 81 .not (.t 80)⟩])
  (.cond (.t 81) (.seq (.ops [⟨none, .mv 4 (.c (.bool false))⟩])
    (.ret))
    (.skip)))))))))
  (.ops [⟨none, .mv 45 (.t 8)⟩,
    ⟨none, .bi 46 .add (.t 45) (.c (.int .i64 1))⟩,
    ⟨none, .mv 8 (.t 46)⟩]))))))
  (.seq (.ops [⟨none, .ca (some 82) 19 []⟩,
    ⟨none, .mv 4 (.t 82)⟩])
  (.ret)))))))
theorem comp7 : compFn Try.prog [7, 9, 1000077] Try.f7 = some ([.t 4], c7) := by kernel_rfl
/-- topiary/topiarylaw07.OplogAny: 2 parameters, 112 slots. -/
def c8 : C :=
  .seq (.ops [⟨none, .mv 4 (.c (.bool false))⟩])
  (.seq (.ops [⟨none, .mv 18 (.t 0)⟩,
    ⟨none, .ca (some 19) 12 [(.c (.int .i64 4096)), (.t 18)]⟩,
    ⟨none, .mv 17 (.t 19)⟩,
    ⟨none, .ex 20 (.t 17) 0⟩,
    ⟨none, .ex 21 (.t 17) 1⟩,
    ⟨none, .alL 6 [.int .i64 0, .sl true .pub 0 []]⟩,
    ⟨none, .mv 5 (.t 20)⟩,
    ⟨none, .st (.t 6) (.t 21) 2⟩])
  (.seq (.ops [⟨none, .ca (some 23) 24 [(.c (.int .i64 4096))]⟩,
    ⟨none, .mv 22 (.t 23)⟩,
    ⟨none, .ex 24 (.t 22) 0⟩,
    ⟨none, .ex 25 (.t 22) 1⟩,
    ⟨none, .mv 7 (.t 24)⟩,
    ⟨none, .mv 8 (.t 25)⟩])
  (.seq (.seq (.ops [⟨none, .mv 26 (.t 8)⟩,
    ⟨none, .bi 27 .neq (.t 26) (.c (.int .i64 0))⟩,
    ⟨none, .mv 28 (.t 27)⟩,
    ⟨some (28, false), .mv 29 (.t 7)⟩,
    ⟨some (28, false), .bq 30 false .ptr (.t 29) (.c (.ptr none))⟩,
    ⟨none, .pk 31 (.t 28) (.c (.bool true)) (.t 30)⟩])
  (.cond (.t 31) (.seq (.ops [⟨none, .mv 4 (.c (.bool false))⟩])
    (.ret))
    (.skip)))
  (.seq (.ops [⟨none, .fa 32 (.t 6) 1⟩,
    ⟨none, .ld 33 (.t 32) 1 false⟩,
    ⟨none, .ca (some 34) 37 [(.t 33)]⟩,
    ⟨none, .mv 9 (.t 34)⟩])
  (.seq (.seq (.ops [⟨none, .mv 10 (.c (.int .i64 0))⟩])
  (.block 0 (.loop (.seq (.seq (.ops [⟨none, .mv 35 (.t 9)⟩,
    ⟨none, .ln 36 .sl (.t 35)⟩,
    ⟨none, .bi 37 .gtr (.t 36) (.c (.int .i64 0))⟩])
  (.cond (.t 37) (.skip)
    (.exit 0)))
  (.seq (.block 1 (.seq (.ops [⟨none, .mv 11 (.c (.int .i64 0))⟩])
  (.cut (.seq (.ops [⟨none, .mv 40 (.t 10)⟩,
    ⟨none, .mv 41 (.t 1)⟩,
    ⟨none, .ln 42 .sl (.t 41)⟩,
    ⟨none, .bi 43 .lss (.t 40) (.t 42)⟩])
  (.cond (.t 43) (.ops [⟨none, .mv 44 (.t 1)⟩,
      ⟨none, .mv 45 (.t 10)⟩,
      ⟨none, .ia 46 (.t 44) (.t 45) 1⟩,
      ⟨none, .ld 47 (.t 46) 1 false⟩,
      ⟨none, .cI 48 .u64 (.t 47)⟩,
      ⟨none, .mv 49 (.t 9)⟩,
      ⟨none, .ln 50 .sl (.t 49)⟩,
      ⟨none, .cI 51 .u64 (.t 50)⟩,
      ⟨none, .bi 52 .rem (.t 48) (.t 51)⟩,
      ⟨none, .cI 53 .i64 (.t 52)⟩,
      ⟨none, .mv 11 (.t 53)⟩])
    (.skip)))
  (.seq (.ops [⟨none, .mv 12 (.c (.bool false))⟩])
  (.seq (.seq (.ops [⟨none, .mv 13 (.c (.int .i64 0))⟩])
  (.block 2 (.loop (.seq (.seq (.ops [⟨none, .mv 54 (.t 13)⟩,
    ⟨none, .mv 55 (.t 9)⟩,
    ⟨none, .ln 56 .sl (.t 55)⟩,
    ⟨none, .bi 57 .lss (.t 54) (.t 56)⟩,
    ⟨none, .mv 58 (.t 57)⟩,
    ⟨some (58, true), .mv 59 (.t 12)⟩,
    ⟨some (58, true), .un 60 .not (.t 59)⟩,
    ⟨none, .pk 61 (.t 58) (.t 60) (.c (.bool false))⟩])
  (.cond (.t 61) (.skip)
    (.exit 2)))
  (.cut (.block 3 (.seq (.ops [⟨none, .mv 64 (.t 11)⟩,
    ⟨none, .mv 65 (.t 13)⟩,
    ⟨none, .bi 66 .add (.t 64) (.t 65)⟩,
    ⟨none, .mv 67 (.t 9)⟩,
    ⟨none, .ln 68 .sl (.t 67)⟩,
    ⟨none, .bi 69 .rem (.t 66) (.t 68)⟩,
    ⟨none, .mv 14 (.t 69)⟩])
  (.seq (.ops [⟨none, .mv 70 (.t 7)⟩,
    ⟨none, .mv 71 (.t 9)⟩,
    ⟨none, .mv 72 (.t 14)⟩,
    ⟨none, .ia 73 (.t 71) (.t 72) 13⟩,
    ⟨none, .ld 74 (.t 73) 13 true⟩,
    ⟨none, .ca (some 75) 14 [(.t 70), (.t 74)]⟩,
    ⟨none, .mv 15 (.t 75)⟩])
  (.seq (.seq (.ops [⟨none, .mv 76 (.t 15)⟩,
    ⟨none, .bi 77 .neq (.t 76) (.c (.int .i64 0))⟩,
    ⟨none, .mv 78 (.t 77)⟩,
    ⟨some (78, true), .mv 79 (.t 15)⟩,
    ⟨some (78, true), .bi 80 .neq (.t 79) (.c (.int .i64 4))⟩,
    ⟨none, .pk 81 (.t 78) (.t 80) (.c (.bool false))⟩])
  (.cond (.t 81) (.seq (.ops [⟨none, .mv 4 (.c (.bool false))⟩])
    (.ret))
    (.skip)))
  (.seq (.ops [⟨none, .mv 82 (.t 15)⟩,
    ⟨none, .bi 83 .eql (.t 82) (.c (.int .i64 0))⟩])
  (.cond (.t 83) (.seq (.ops [⟨none, .mv 12 (.c (.bool true))⟩])
    (.seq (.ops [⟨none, .lit 84 13 []⟩,
      ⟨none, .mv 85 (.t 9)⟩,
      ⟨none, .mv 86 (.t 14)⟩,
      ⟨none, .sl 87 13 (.t 85) none (some (.t 86))⟩,
      ⟨none, .ap 88 13 (.t 84) (.t 87)⟩,
      ⟨none, .mv 16 (.t 88)⟩])
    (.ops [⟨none, .mv 89 (.t 16)⟩,
      ⟨none, .mv 90 (.t 9)⟩,
      ⟨none, .mv 91 (.t 14)⟩,
      ⟨none, .bi 92 .add (.t 91) (.c (.int .i64 1))⟩,
      ⟨none, .sl 93 13 (.t 90) (some (.t 92)) none⟩,
      ⟨none, .ap 94 13 (.t 89) (.t 93)⟩,
      ⟨none, .mv 9 (.t 94)⟩])))
    (.skip)))))))
  (.ops [⟨none, .mv 62 (.t 13)⟩,
    ⟨none, .bi 63 .add (.t 62) (.c (.int .i64 1))⟩,
    ⟨none, .mv 13 (.t 63)⟩]))))))
  (.seq (.ops [⟨none, .mv 95 (.t 12)⟩,
    ⟨none, .un 96 .not (.t 95)⟩])
  (.cond (.t 96) (.seq (.ops [⟨none, .mv 4 (.c (.bool false))⟩])
    (.ret))
    (.skip))))))))
  (.ops [⟨none, .mv 38 (.t 10)⟩,
    ⟨none, .bi 39 .add (.t 38) (.c (.int .i64 1))⟩,
    ⟨none, .mv 10 (.t 39)⟩]))))))
  (.seq (.ops [⟨none, .mv 97 (.t 7)⟩,
    ⟨none, .ca (some 98) 25 [(.t 97)]⟩,
    ⟨none, .mv 99 (.t 5)⟩,
    ⟨none, .ca (some 100) 25 [(.t 99)]⟩,
    ⟨none, .ca (some 101) 33 [(.t 98), (.t 100)]⟩,
    ⟨none, .mv 102 (.t 101)⟩,
    ⟨some (102, true), .mv 103 (.t 7)⟩,
    ⟨some (102, true), .fa 104 (.t 6) 1⟩,
    ⟨some (102, true), .ld 105 (.t 104) 1 false⟩,
    ⟨some (102, true), .bld 106 [.int .i64 0, .sl true .pub 0 []] [(0, 1, (.c (.int .i64 4096))), (1, 1, (.t 105))]⟩,
    ⟨some (102, true), .ca (some 107) 36 [(.t 103), (.t 106)]⟩,
    ⟨none, .pk 108 (.t 102) (.t 107) (.c (.bool false))⟩,
    ⟨none, .mv 109 (.t 108)⟩,
    ⟨some (109, true), .ca (some 110) 19 []⟩,
    ⟨none, .pk 111 (.t 109) (.t 110) (.c (.bool false))⟩,
    ⟨none, .mv 4 (.t 111)⟩])
  (.ret)))))))
theorem comp8 : compFn Try.prog [6] Try.f8 = some ([.t 4], c8) := by kernel_rfl
/-- topiary/topiarylaw07.OplogUnion: 2 parameters, 191 slots. -/
def c9 : C :=
  .seq (.ops [⟨none, .bxL 2 (.t 0)⟩,
    ⟨none, .mv 4 (.c (.bool false))⟩])
  (.seq (.ops [⟨none, .ca (some 24) 24 [(.c (.int .i64 4096))]⟩,
    ⟨none, .mv 23 (.t 24)⟩,
    ⟨none, .ex 25 (.t 23) 0⟩,
    ⟨none, .ex 26 (.t 23) 1⟩,
    ⟨none, .mv 5 (.t 25)⟩,
    ⟨none, .mv 6 (.t 26)⟩])
  (.seq (.ops [⟨none, .ca (some 28) 24 [(.c (.int .i64 4096))]⟩,
    ⟨none, .mv 27 (.t 28)⟩,
    ⟨none, .ex 29 (.t 27) 0⟩,
    ⟨none, .ex 30 (.t 27) 1⟩,
    ⟨none, .mv 7 (.t 29)⟩,
    ⟨none, .mv 8 (.t 30)⟩])
  (.seq (.seq (.ops [⟨none, .mv 31 (.t 6)⟩,
    ⟨none, .bi 32 .neq (.t 31) (.c (.int .i64 0))⟩,
    ⟨none, .mv 33 (.t 32)⟩,
    ⟨some (33, false), .mv 34 (.t 8)⟩,
    ⟨some (33, false), .bi 35 .neq (.t 34) (.c (.int .i64 0))⟩,
    ⟨none, .pk 36 (.t 33) (.c (.bool true)) (.t 35)⟩,
    ⟨none, .mv 37 (.t 36)⟩,
    ⟨some (37, false), .mv 38 (.t 5)⟩,
    ⟨some (37, false), .bq 39 false .ptr (.t 38) (.c (.ptr none))⟩,
    ⟨none, .pk 40 (.t 37) (.c (.bool true)) (.t 39)⟩,
    ⟨none, .mv 41 (.t 40)⟩,
    ⟨some (41, false), .mv 42 (.t 7)⟩,
    ⟨some (41, false), .bq 43 false .ptr (.t 42) (.c (.ptr none))⟩,
    ⟨none, .pk 44 (.t 41) (.c (.bool true)) (.t 43)⟩])
  (.cond (.t 44) (.seq (.ops [⟨none, .mv 4 (.c (.bool false))⟩])
    (.ret))
    (.skip)))
  (.seq (.seq (.ops [⟨none, .fa 45 (.t 2) 0⟩,
    ⟨none, .ld 46 (.t 45) 1 false⟩,
    ⟨none, .ln 47 .sl (.t 46)⟩,
    ⟨none, .bi 48 .gtr (.t 47) (.c (.int .i64 500))⟩])
  (.cond (.t 48) (.seq (.ops [⟨none, .ca (some 49) 19 []⟩,
      ⟨none, .mv 4 (.t 49)⟩])
    (.ret))
    (.skip)))
  (.seq (.ops [⟨none, .bld 50 [.int .i64 0, .sl true .pub 0 []] [(0, 1, (.c (.int .i64 4096)))]⟩,
    ⟨none, .alL 9 [.int .i64 0, .sl true .pub 0 []]⟩,
    ⟨none, .st (.t 9) (.t 50) 2⟩])
  (.seq (.seq (.ops [⟨none, .mv 10 (.c (.int .i64 0))⟩])
  (.block 0 (.loop (.seq (.seq (.ops [⟨none, .mv 51 (.t 10)⟩,
    ⟨none, .fa 52 (.t 2) 0⟩,
    ⟨none, .ld 53 (.t 52) 1 false⟩,
    ⟨none, .ln 54 .sl (.t 53)⟩,
    ⟨none, .bi 55 .lss (.t 51) (.t 54)⟩])
  (.cond (.t 55) (.skip)
    (.exit 0)))
  (.cut (.block 1 (.cut (.opsE [⟨none, .ld 59 (.t 9) 2 true⟩,
    ⟨none, .fa 60 (.t 2) 0⟩,
    ⟨none, .ld 61 (.t 60) 1 false⟩,
    ⟨none, .mv 62 (.t 10)⟩,
    ⟨none, .ia 63 (.t 61) (.t 62) 13⟩,
    ⟨none, .ld 64 (.t 63) 13 true⟩,
    ⟨none, .ca (some 65) 35 [(.t 59), (.t 64)]⟩,
    ⟨none, .mv 58 (.t 65)⟩,
    ⟨none, .ex 66 (.t 58) 0⟩,
    ⟨none, .ex 67 (.t 58) 1⟩,
    ⟨none, .alH 11 [.int .i64 0, .sl true .pub 0 []]⟩,
    ⟨none, .st (.t 11) (.t 66) 2⟩,
    ⟨none, .mv 12 (.t 67)⟩]
  [⟨none, .ld 59 (.t 9) 2 true⟩,
    ⟨none, .fa 60 (.t 2) 0⟩,
    ⟨none, .ld 61 (.t 60) 1 false⟩,
    ⟨none, .mv 62 (.t 10)⟩,
    ⟨none, .ia 63 (.t 61) (.t 62) 13⟩,
    ⟨none, .ld 64 (.t 63) 13 true⟩,
    ⟨none, .alH 11 [.int .i64 0, .sl true .pub 0 []]⟩,
    ⟨none, .ca (some 65) 35 [(.t 59), (.t 64)]⟩,
    ⟨none, .mv 58 (.t 65)⟩,
    ⟨none, .ex 66 (.t 58) 0⟩,
    ⟨none, .ex 67 (.t 58) 1⟩,
    ⟨none, .st (.t 11) (.t 66) 2⟩,
    ⟨none, .mv 12 (.t 67)⟩])
  (.seq (.ops [⟨none, .ld 68 (.t 11) 2 true⟩,
    ⟨none, .st (.t 9) (.t 68) 2⟩])
  (.seq (.seq (.ops [⟨none, .mv 69 (.t 12)⟩,
    ⟨none, .bi 70 .neq (.t 69) (.c (.int .i64 0))⟩])
  (.cond (.t 70) (.exit 1)
    (.skip)))
  (.cut (.seq (.ops [⟨none, .mv 71 (.t 10)⟩,
    ⟨none, .fa 72 (.t 2) 1⟩,
    ⟨none, .ld 73 (.t 72) 1 false⟩,
    ⟨none, .ln 74 .sl (.t 73)⟩,
    ⟨none, .bi 75 .geq (.t 71) (.t 74)⟩,
    ⟨none, .mv 76 (.t 75)⟩,
    ⟨some (76, false), .fa 77 (.t 2) 1⟩,
    ⟨some (76, false), .ld 78 (.t 77) 1 false⟩,
    ⟨some (76, false), .mv 79 (.t 10)⟩,
    ⟨some (76, false), .ia 80 (.t 78) (.t 79) 1⟩,
    ⟨some (76, false), .ld 81 (.t 80) 1 false⟩,
    ⟨none, .pk 82 (.t 76) (.c (.bool true)) (.t 81)⟩])
  (.cond (.t 82) (.ops [⟨none, .mv 83 (.t 5)⟩,
      ⟨none, .fa 84 (.t 2) 0⟩,
      ⟨none, .ld 85 (.t 84) 1 false⟩,
      ⟨none, .mv 86 (.t 10)⟩,
      ⟨none, .ia 87 (.t 85) (.t 86) 13⟩,
      ⟨none, .ld 88 (.t 87) 13 true⟩,
      ⟨none, .ca (some 89) 14 [(.t 83), (.t 88)]⟩])
    (.skip)))
  (.seq (.ops [⟨none, .mv 90 (.t 10)⟩,
    ⟨none, .fa 91 (.t 2) 1⟩,
    ⟨none, .ld 92 (.t 91) 1 false⟩,
    ⟨none, .ln 93 .sl (.t 92)⟩,
    ⟨none, .bi 94 .geq (.t 90) (.t 93)⟩,
    ⟨none, .mv 95 (.t 94)⟩,
    ⟨some (95, false), .fa 96 (.t 2) 1⟩,
    ⟨some (95, false), .ld 97 (.t 96) 1 false⟩,
    ⟨some (95, false), .mv 98 (.t 10)⟩,
    ⟨some (95, false), .ia 99 (.t 97) (.t 98) 1⟩,
    ⟨some (95, false), .ld 100 (.t 99) 1 false⟩,
    ⟨some (95, false), .un 101 .not (.t 100)⟩,
    ⟨none, .pk 102 (.t 95) (.c (.bool true)) (.t 101)⟩])
  (.cond (.t 102) (.ops [⟨none, .mv 103 (.t 7)⟩,
      ⟨none, .fa 104 (.t 2) 0⟩,
      ⟨none, .ld 105 (.t 104) 1 false⟩,
      ⟨none, .mv 106 (.t 10)⟩,
      ⟨none, .ia 107 (.t 105) (.t 106) 13⟩,
      ⟨none, .ld 108 (.t 107) 13 true⟩,
      ⟨none, .ca (some 109) 14 [(.t 103), (.t 108)]⟩])
    (.skip))))))))
  (.ops [⟨none, .mv 56 (.t 10)⟩,
    ⟨none, .bi 57 .add (.t 56) (.c (.int .i64 1))⟩,
    ⟨none, .mv 10 (.t 57)⟩]))))))
  (.seq (.ops [⟨none, .mv 110 (.t 1)⟩,
    ⟨none, .cI 111 .u64 (.t 110)⟩,
    ⟨none, .bi 112 .rem (.t 111) (.c (.int .u64 9))⟩,
    ⟨none, .cI 113 .i64 (.t 112)⟩,
    ⟨none, .bi 114 .add (.c (.int .i64 1)) (.t 113)⟩,
    ⟨none, .mv 1 (.t 114)⟩])
  (.seq (.ops [⟨none, .mv 115 (.t 7)⟩,
    ⟨none, .ca (some 116) 25 [(.t 115)]⟩,
    ⟨none, .bld 117 [.int .i64 0, .sl true .pub 0 []] [(0, 1, (.c (.int .i64 4096))), (1, 1, (.t 116))]⟩,
    ⟨none, .alL 13 [.int .i64 0, .sl true .pub 0 []]⟩,
    ⟨none, .st (.t 13) (.t 117) 2⟩])
  (.seq (.ops [⟨none, .mv 118 (.t 5)⟩,
    ⟨none, .ca (some 119) 25 [(.t 118)]⟩,
    ⟨none, .mv 14 (.t 119)⟩])
  (.seq (.seq (.ops [⟨none, .mv 15 (.c (.int .i64 0))⟩])
  (.block 2 (.loop (.seq (.seq (.ops [⟨none, .mv 120 (.t 15)⟩,
    ⟨none, .mv 121 (.t 14)⟩,
    ⟨none, .ln 122 .sl (.t 121)⟩,
    ⟨none, .bi 123 .lss (.t 120) (.t 122)⟩])
  (.cond (.t 123) (.skip)
    (.exit 2)))
  (.seq (.block 3 (.opsD [⟨none, .ld 127 (.t 13) 2 true⟩,
    ⟨none, .mv 128 (.t 14)⟩,
    ⟨none, .mv 129 (.t 15)⟩,
    ⟨none, .ia 130 (.t 128) (.t 129) 13⟩,
    ⟨none, .ld 131 (.t 130) 13 true⟩,
    ⟨none, .ca (some 132) 35 [(.t 127), (.t 131)]⟩,
    ⟨none, .mv 126 (.t 132)⟩,
    ⟨none, .ex 133 (.t 126) 0⟩,
    ⟨none, .ex 134 (.t 126) 1⟩,
    ⟨none, .st (.t 13) (.t 133) 2⟩]))
  (.ops [⟨none, .mv 124 (.t 15)⟩,
    ⟨none, .bi 125 .add (.t 124) (.c (.int .i64 1))⟩,
    ⟨none, .mv 15 (.t 125)⟩]))))))
  (.seq (.ops [⟨none, .mv 136 (.t 5)⟩,
    ⟨none, .ca (some 137) 39 [(.t 136)]⟩,
    ⟨none, .mv 138 (.t 7)⟩,
    ⟨none, .ca (some 139) 39 [(.t 138)]⟩,
    ⟨none, .ca (some 140) 38 [(.t 137), (.t 139)]⟩,
    ⟨none, .mv 135 (.t 140)⟩,
    ⟨none, .ex 141 (.t 135) 0⟩,
    ⟨none, .ex 142 (.t 135) 1⟩,
    ⟨none, .mv 16 (.t 141)⟩,
    ⟨none, .mv 17 (.t 142)⟩])
  (.seq (.seq (.ops [⟨none, .mv 18 (.c (.bool true))⟩])
  (.block 4 (.loop (.seq (.seq (.ops [⟨none, .mv 143 (.t 18)⟩])
  (.cond (.t 143) (.skip)
    (.exit 4)))
  (.block 5 (.seq (.ops [⟨none, .mv 145 (.t 5)⟩,
    ⟨none, .mv 146 (.t 7)⟩,
    ⟨none, .ca (some 147) 39 [(.t 146)]⟩,
    ⟨none, .mv 148 (.t 1)⟩,
    ⟨none, .ca (some 149) 31 [(.t 145), (.t 147), (.t 148)]⟩,
    ⟨none, .mv 144 (.t 149)⟩,
    ⟨none, .ex 150 (.t 144) 0⟩,
    ⟨none, .ex 151 (.t 144) 1⟩,
    ⟨none, .ex 152 (.t 144) 2⟩,
    ⟨none, .mv 19 (.t 150)⟩,
    ⟨none, .mv 20 (.t 151)⟩,
    ⟨none, .mv 21 (.t 152)⟩])
  (.seq (.seq (.ops [⟨none, .mv 153 (.t 21)⟩,
    ⟨none, .bi 154 .neq (.t 153) (.c (.int .i64 0))⟩,
    ⟨none, .mv 155 (.t 154)⟩,
    ⟨some (155, false), .mv 156 (.t 20)⟩,
    ⟨some (155, false), .mv 157 (.t 156)⟩,
    ⟨some (157, true), .mv 158 (.t 19)⟩,
    ⟨some (157, true), .ln 159 .sl (.t 158)⟩,
    ⟨some (157, true), .bi 160 .eql (.t 159) (.c (.int .i64 0))⟩,
    ⟨some (155, false), .pk 161 (.t 157) (.t 160) (.c (.bool false))⟩,
    ⟨none, .pk 162 (.t 155) (.c (.bool true)) (.t 161)⟩])
  (.cond (.t 162) (.seq (.ops [⟨none, .mv 4 (.c (.bool false))⟩])
    (.ret))
    (.skip)))
  (.seq (.ops [⟨none, .mv 163 (.t 20)⟩,
    ⟨none, .mv 18 (.t 163)⟩])
  (.seq (.ops [⟨none, .mv 22 (.c (.int .i64 0))⟩])
  (.block 6 (.loop (.seq (.seq (.ops [⟨none, .mv 164 (.t 22)⟩,
    ⟨none, .mv 165 (.t 19)⟩,
    ⟨none, .ln 166 .sl (.t 165)⟩,
    ⟨none, .bi 167 .lss (.t 164) (.t 166)⟩])
  (.cond (.t 167) (.skip)
    (.exit 6)))
  (.seq (.block 7 (.seq (.ops [⟨none, .mv 170 (.t 7)⟩,
    ⟨none, .mv 171 (.t 19)⟩,
    ⟨none, .mv 172 (.t 22)⟩,
    ⟨none, .ia 173 (.t 171) (.t 172) 13⟩,
    ⟨none, .ld 174 (.t 173) 13 true⟩,
    ⟨none, .ca (some 175) 14 [(.t 170), (.t 174)]⟩,
    ⟨none, .bi 176 .neq (.t 175) (.c (.int .i64 0))⟩])
  (.cond (.t 176) (.seq (.ops [⟨none, .mv 4 (.c (.bool false))⟩])
    (.ret))
    (.skip))))
  (.ops [⟨none, .mv 168 (.t 22)⟩,
    ⟨none, .bi 169 .add (.t 168) (.c (.int .i64 1))⟩,
    ⟨none, .mv 22 (.t 169)⟩]))))))))))))))
  (.seq (.opsD [⟨none, .mv 177 (.t 7)⟩,
    ⟨none, .fa 179 (.t 13) 1⟩,
    ⟨none, .ld 180 (.t 179) 1 false⟩,
    ⟨none, .ca (some 178) 25 [(.t 177)]⟩,
    ⟨none, .ca (some 181) 33 [(.t 178), (.t 180)]⟩,
    ⟨none, .mv 182 (.t 181)⟩,
    ⟨some (182, true), .mv 183 (.t 7)⟩,
    ⟨some (182, true), .mv 185 (.t 16)⟩,
    ⟨some (182, true), .ca (some 184) 39 [(.t 183)]⟩,
    ⟨some (182, true), .ca (some 186) 40 [(.t 184), (.t 185)]⟩,
    ⟨none, .pk 187 (.t 182) (.t 186) (.c (.bool false))⟩,
    ⟨none, .mv 188 (.t 187)⟩,
    ⟨some (188, true), .ca (some 189) 19 []⟩,
    ⟨none, .pk 190 (.t 188) (.t 189) (.c (.bool false))⟩,
    ⟨none, .mv 4 (.t 190)⟩])
  (.ret))))))))))))))
theorem comp9 : compFn Try.prog [2, 9, 13] Try.f9 = some ([.t 4], c9) := by kernel_rfl
/-- topiary/topiarylaw07.OplogClones: 2 parameters, 87 slots. -/
def c10 : C :=
  .seq (.ops [⟨none, .mv 4 (.c (.bool false))⟩])
  (.seq (.ops [⟨none, .mv 15 (.t 0)⟩,
    ⟨none, .ca (some 16) 12 [(.c (.int .i64 50)), (.t 15)]⟩,
    ⟨none, .mv 14 (.t 16)⟩,
    ⟨none, .ex 17 (.t 14) 0⟩,
    ⟨none, .ex 18 (.t 14) 1⟩,
    ⟨none, .alL 6 [.int .i64 0, .sl true .pub 0 []]⟩,
    ⟨none, .mv 5 (.t 17)⟩,
    ⟨none, .st (.t 6) (.t 18) 2⟩])
  (.seq (.ops [⟨none, .mv 19 (.t 5)⟩,
    ⟨none, .ca (some 20) 41 [(.t 19)]⟩,
    ⟨none, .mv 7 (.t 20)⟩])
  (.seq (.seq (.ops [⟨none, .mv 21 (.t 7)⟩,
    ⟨none, .bq 22 false .ptr (.t 21) (.c (.ptr none))⟩,
    ⟨none, .mv 23 (.t 22)⟩,
    ⟨some (23, false), .mv 24 (.t 7)⟩,
    ⟨some (23, false), .ld 25 (.t 6) 2 true⟩,
    ⟨some (23, false), .ca (some 26) 36 [(.t 24), (.t 25)]⟩,
    ⟨some (23, false), .un 27 .not (.t 26)⟩,
    ⟨none, .pk 28 (.t 23) (.c (.bool true)) (.t 27)⟩])
  (.cond (.t 28) (.seq (.ops [⟨none, .mv 4 (.c (.bool false))⟩])
    (.ret))
    (.skip)))
  (.seq (.seq (.ops [⟨none, .mv 8 (.c (.int .i64 0))⟩])
  (.block 0 (.loop (.seq (.seq (.ops [⟨none, .mv 29 (.t 8)⟩,
    ⟨none, .mv 30 (.t 1)⟩,
    ⟨none, .ln 31 .sl (.t 30)⟩,
    ⟨none, .bi 32 .lss (.t 29) (.t 31)⟩])
  (.cond (.t 32) (.skip)
    (.exit 0)))
  (.seq (.block 1 (.ops [⟨none, .mv 35 (.t 5)⟩,
    ⟨none, .mv 36 (.t 1)⟩,
    ⟨none, .mv 37 (.t 8)⟩,
    ⟨none, .ia 38 (.t 36) (.t 37) 13⟩,
    ⟨none, .ld 39 (.t 38) 13 true⟩,
    ⟨none, .ca (some 40) 14 [(.t 35), (.t 39)]⟩]))
  (.ops [⟨none, .mv 33 (.t 8)⟩,
    ⟨none, .bi 34 .add (.t 33) (.c (.int .i64 1))⟩,
    ⟨none, .mv 8 (.t 34)⟩]))))))
  (.seq (.ops [⟨none, .mv 41 (.t 7)⟩,
    ⟨none, .ca (some 42) 25 [(.t 41)]⟩,
    ⟨none, .mv 9 (.t 42)⟩])
  (.seq (.seq (.ops [⟨none, .mv 10 (.c (.int .i64 0))⟩])
  (.block 2 (.loop (.seq (.seq (.ops [⟨none, .mv 43 (.t 10)⟩,
    ⟨none, .mv 44 (.t 9)⟩,
    ⟨none, .ln 45 .sl (.t 44)⟩,
    ⟨none, .bi 46 .lss (.t 43) (.t 45)⟩])
  (.cond (.t 46) (.skip)
    (.exit 2)))
  (.seq (.block 3 (.seq (.seq (.ops [⟨none, .mv 11 (.c (.int .i64 0))⟩])
  (.block 4 (.loop (.seq (.seq (.ops [⟨none, .mv 49 (.t 11)⟩,
    ⟨none, .mv 50 (.t 9)⟩,
    ⟨none, .mv 51 (.t 10)⟩,
    ⟨none, .ia 52 (.t 50) (.t 51) 13⟩,
    ⟨none, .fa 53 (.t 52) 3⟩,
    ⟨none, .ld 54 (.t 53) 1 false⟩,
    ⟨none, .ln 55 .sl (.t 54)⟩,
    ⟨none, .bi 56 .lss (.t 49) (.t 55)⟩])
  (.cond (.t 56) (.skip)
    (.exit 4)))
  (.seq (.block 5 (.ops [⟨none, .mv 59 (.t 9)⟩,
    ⟨none, .mv 60 (.t 10)⟩,
    ⟨none, .ia 61 (.t 59) (.t 60) 13⟩,
    ⟨none, .fa 62 (.t 61) 3⟩,
    ⟨none, .ld 63 (.t 62) 1 false⟩,
    ⟨none, .mv 64 (.t 11)⟩,
    ⟨none, .ia 65 (.t 63) (.t 64) 1⟩,
    ⟨none, .se (.t 65) (.c (.int .i64 (-7))) 1⟩]))
  (.ops [⟨none, .mv 57 (.t 11)⟩,
    ⟨none, .bi 58 .add (.t 57) (.c (.int .i64 1))⟩,
    ⟨none, .mv 11 (.t 58)⟩]))))))
  (.ops [⟨none, .mv 66 (.t 9)⟩,
    ⟨none, .mv 67 (.t 10)⟩,
    ⟨none, .bld 68 [.int .i64 0, .int .i64 0, .int .i64 0, .sl true .pub 0 [], .int .i64 0, .int .i64 0, .int .i64 0, .int .i64 0, .int .i64 0, .int .i64 0, .int .i64 0, .str [], .str []] []⟩,
    ⟨none, .ia 69 (.t 66) (.t 67) 13⟩,
    ⟨none, .se (.t 69) (.t 68) 13⟩])))
  (.ops [⟨none, .mv 47 (.t 10)⟩,
    ⟨none, .bi 48 .add (.t 47) (.c (.int .i64 1))⟩,
    ⟨none, .mv 10 (.t 48)⟩]))))))
  (.seq (.ops [⟨none, .mv 70 (.t 7)⟩,
    ⟨none, .ca (some 71) 39 [(.t 70)]⟩,
    ⟨none, .mv 12 (.t 71)⟩])
  (.seq (.seq (.ops [⟨none, .mv 13 (.c (.int .i64 0))⟩])
  (.block 6 (.loop (.seq (.seq (.ops [⟨none, .mv 72 (.t 13)⟩,
    ⟨none, .mv 73 (.t 12)⟩,
    ⟨none, .ln 74 .sl (.t 73)⟩,
    ⟨none, .bi 75 .lss (.t 72) (.t 74)⟩])
  (.cond (.t 75) (.skip)
    (.exit 6)))
  (.seq (.block 7 (.ops [⟨none, .mv 78 (.t 12)⟩,
    ⟨none, .mv 79 (.t 13)⟩,
    ⟨none, .ia 80 (.t 78) (.t 79) 1⟩,
    ⟨none, .se (.t 80) (.c (.int .i64 (-7))) 1⟩]))
  (.ops [⟨none, .mv 76 (.t 13)⟩,
    ⟨none, .bi 77 .add (.t 76) (.c (.int .i64 1))⟩,
    ⟨none, .mv 13 (.t 77)⟩]))))))
  (.seq (.ops [⟨none, .mv 81 (.t 7)⟩,
    ⟨none, .ld 82 (.t 6) 2 true⟩,
    ⟨none, .ca (some 83) 36 [(.t 81), (.t 82)]⟩,
    ⟨none, .mv 84 (.t 83)⟩,
    ⟨some (84, true), .ca (some 85) 19 []⟩,
    ⟨none, .pk 86 (.t 84) (.t 85) (.c (.bool false))⟩,
    ⟨none, .mv 4 (.t 86)⟩])
  (.ret))))))))))
theorem comp10 : compFn Try.prog [6, 1000065, 1000069, 1000080] Try.f10 = some ([.t 4], c10) := by kernel_rfl
/-- topiary/topiarylaw07.OplogNil: 2 parameters, 81 slots. -/
def c11 : C :=
  .seq (.ops [⟨none, .bxL 2 (.t 0)⟩,
    ⟨none, .mv 4 (.c (.bool false))⟩])
  (.seq (.ops [⟨none, .mv 5 (.c (.ptr none))⟩])
  (.seq (.ops [⟨none, .mv 15 (.t 5)⟩,
    ⟨none, .mv 16 (.t 1)⟩,
    ⟨none, .ca (some 17) 31 [(.t 15), (.t 16), (.c (.int .i64 1))]⟩,
    ⟨none, .mv 14 (.t 17)⟩,
    ⟨none, .ex 18 (.t 14) 0⟩,
    ⟨none, .ex 19 (.t 14) 1⟩,
    ⟨none, .ex 20 (.t 14) 2⟩,
    ⟨none, .mv 6 (.t 18)⟩,
    ⟨none, .mv 7 (.t 19)⟩,
    ⟨none, .mv 8 (.t 20)⟩])
  (.seq (.ops [⟨none, .mv 22 (.t 5)⟩,
    ⟨none, .fa 23 (.t 2) 0⟩,
    ⟨none, .ld 24 (.t 23) 2 true⟩,
    ⟨none, .ca (some 25) 20 [(.t 22), (.t 24)]⟩,
    ⟨none, .mv 21 (.t 25)⟩,
    ⟨none, .ex 26 (.t 21) 0⟩,
    ⟨none, .ex 27 (.t 21) 1⟩,
    ⟨none, .alL 9 [.int .i64 0, .int .i64 0, .int .i64 0, .sl true .pub 0 [], .int .i64 0, .int .i64 0, .int .i64 0, .int .i64 0, .int .i64 0, .int .i64 0, .int .i64 0, .str [], .str []]⟩,
    ⟨none, .st (.t 9) (.t 26) 13⟩,
    ⟨none, .mv 10 (.t 27)⟩])
  (.seq (.ops [⟨none, .mv 29 (.t 5)⟩,
    ⟨none, .ca (some 30) 22 [(.t 29), (.c (.int .i64 0)), (.c (.int .i64 1))]⟩,
    ⟨none, .mv 28 (.t 30)⟩,
    ⟨none, .ex 31 (.t 28) 0⟩,
    ⟨none, .ex 32 (.t 28) 1⟩,
    ⟨none, .alL 11 [.int .i64 0, .int .i64 0, .int .i64 0, .sl true .pub 0 [], .int .i64 0, .int .i64 0, .int .i64 0, .int .i64 0, .int .i64 0, .int .i64 0, .int .i64 0, .str [], .str []]⟩,
    ⟨none, .st (.t 11) (.t 31) 13⟩,
    ⟨none, .mv 12 (.t 32)⟩])
  (.seq (.ops [⟨none, .mv 33 (.t 1)⟩,
    ⟨none, .ca (some 34) 16 [(.t 33)]⟩,
    ⟨none, .mv 13 (.t 34)⟩])
  (.seq (.opsD [⟨none, .mv 35 (.t 5)⟩,
    ⟨none, .ld 36 (.t 2) 13 true⟩,
    ⟨none, .ld 38 (.t 2) 13 true⟩,
    ⟨none, .ca (some 37) 14 [(.t 35), (.t 36)]⟩,
    ⟨none, .ca (some 39) 42 [(.c (.sl true .pub 0 [])), (.c (.int .i64 0)), (.t 38)]⟩,
    ⟨none, .bi 40 .eql (.t 37) (.t 39)⟩,
    ⟨none, .mv 41 (.t 40)⟩,
    ⟨some (41, true), .mv 42 (.t 5)⟩,
    ⟨some (41, true), .bld 43 [.int .i64 0, .sl true .pub 0 []] []⟩,
    ⟨some (41, true), .ca (some 44) 36 [(.t 42), (.t 43)]⟩,
    ⟨none, .pk 45 (.t 41) (.t 44) (.c (.bool false))⟩,
    ⟨none, .mv 46 (.t 45)⟩,
    ⟨some (46, true), .mv 47 (.t 6)⟩,
    ⟨some (46, true), .ln 48 .sl (.t 47)⟩,
    ⟨some (46, true), .bi 49 .eql (.t 48) (.c (.int .i64 0))⟩,
    ⟨none, .pk 50 (.t 46) (.t 49) (.c (.bool false))⟩,
    ⟨none, .mv 51 (.t 50)⟩,
    ⟨some (51, true), .mv 52 (.t 7)⟩,
    ⟨some (51, true), .un 53 .not (.t 52)⟩,
    ⟨none, .pk 54 (.t 51) (.t 53) (.c (.bool false))⟩,
    ⟨none, .mv 55 (.t 54)⟩,
    ⟨some (55, true), .mv 56 (.t 8)⟩,
    ⟨some (55, true), .mv 57 (.t 13)⟩,
    ⟨some (55, true), .bi 58 .eql (.t 56) (.t 57)⟩,
    ⟨none, .pk 59 (.t 55) (.t 58) (.c (.bool false))⟩,
    ⟨none, .mv 60 (.t 59)⟩,
    ⟨some (60, true), .ld 61 (.t 9) 13 true⟩,
    ⟨some (60, true), .bld 62 [.int .i64 0, .int .i64 0, .int .i64 0, .sl true .pub 0 [], .int .i64 0, .int .i64 0, .int .i64 0, .int .i64 0, .int .i64 0, .int .i64 0, .int .i64 0, .str [], .str []] []⟩,
    ⟨some (60, true), .ca (some 63) 18 [(.t 61), (.t 62)]⟩,
    ⟨none, .pk 64 (.t 60) (.t 63) (.c (.bool false))⟩,
    ⟨none, .mv 65 (.t 64)⟩,
    ⟨some (65, true), .mv 66 (.t 10)⟩,
    ⟨some (65, true), .un 67 .not (.t 66)⟩,
    ⟨none, .pk 68 (.t 65) (.t 67) (.c (.bool false))⟩,
    ⟨none, .mv 69 (.t 68)⟩,
    ⟨some (69, true), .mv 70 (.t 12)⟩,
    ⟨some (69, true), .bi 71 .eql (.t 70) (.c (.int .i64 4))⟩,
    ⟨none, .pk 72 (.t 69) (.t 71) (.c (.bool false))⟩,
    ⟨none, .mv 73 (.t 72)⟩,
    ⟨some (73, true), .mv 74 (.t 5)⟩,
    ⟨some (73, true), .ca (some 75) 41 [(.t 74)]⟩,
    ⟨some (73, true), .bq 76 false .ptr (.t 75) (.c (.ptr none))⟩,
    ⟨none, .pk 77 (.t 73) (.t 76) (.c (.bool false))⟩,
    ⟨none, .mv 78 (.t 77)⟩,
    ⟨some (78, true), .ca (some 79) 19 []⟩,
    ⟨none, .pk 80 (.t 78) (.t 79) (.c (.bool false))⟩,
    ⟨none, .mv 4 (.t 80)⟩])
  (.ret)))))))
theorem comp11 : compFn Try.prog [2, 9, 11] Try.f11 = some ([.t 4], c11) := by kernel_rfl
end Go.VL.opl

namespace Go.VL.opl
open Go Go.VL Go.Proofs Go.IntWalk Go.VL.st Go.VL.row

section
variable {σ : St} {v d kv : V} {r n most : Int} {k : List Int} {gs : List Cg} {g : Cg} {x : Sp}
theorem fidx_some {α : Type} {p : α → Bool} {l : List α} {a : α} (h : l.find? p = some a) : ∃ (i : Nat) (hi : i < l.length), fidx p l = i ∧ l[i] = a := by
  obtain ⟨hp, i, hi, e, h2⟩ := List.find?_eq_some_iff_getElem.1 h
  refine ⟨i, hi, fidx_at hi ?_ (by rw [e]; exact hp), e⟩
  rw [List.any_eq_false]
  intro y hy
  obtain ⟨j, hj, rfl⟩ := List.getElem_of_mem hy
  rw [List.getElem_take]
  have := h2 j (by simp at hj; omega)
  simpa using this
theorem fidx_no {α : Type} {p : α → Bool} {l : List α} (h : l.find? p = none) : fidx p l = -1 := by
  refine fidx_none ?_
  rw [List.any_eq_false]
  exact List.find?_eq_none.1 h
/-- A change out of a list. -/
theorem rdC_get {σ : St} {b : Bool} {R : R} {z : Nat} {es : List (List V)} {L : List Cg} {i : Nat} (h : RdC σ (.sl b R z es) L) (hi : i < L.length) : ∃ d, es[i]?.getD [] = cgC d L[i] ∧ RdS σ d 1 (intsV .i64 L[i].deps) ∧ (i : Int) < es.length ∧ (b = true ∨ z = 13 → z = 13 ∨ b = true) ∧ rd σ.live R ∧ z = 13 ∧ es.length = L.length := by
  obtain ⟨l, rfl, ⟨_, _, _, e, h1, h2⟩, h3⟩ := h
  cases e
  have hi' : i < l.length := by simpa using hi
  refine ⟨l[i].1, ?_, ?_, ?_, fun h => h.symm, ?_, ?_, ?_⟩
  · have := cgsV_get hi'
    simpa using this
  · have := h3 _ (List.getElem_mem hi')
    simpa using this
  · rw [cgsV_len]; omega
  · rcases h2 with h2 | h2
    · have := h1 h2
      have hl := congrArg List.length this
      rw [cgsV_len] at hl
      simp only [List.length_nil] at hl
      omega
    · exact h2.1
  · rcases h2 with h2 | h2
    · have := h1 h2
      have hl := congrArg List.length this
      rw [cgsV_len] at hl
      simp only [List.length_nil] at hl
      omega
    · exact h2.2
  · rw [cgsV_len, List.length_map]
set_option maxRecDepth 100000 in
set_option maxHeartbeats 4000000 in
theorem finds_law (hv : ArgC v gs) : CallA Try.prog 4 [v, .agg [.int .i64 x.c, .int .i64 x.r, .int .i64 r, .int .i64 n]] ⟨[], []⟩ fun w _ => w = .bool true := by
  refine fn_at Try.func4 (by decide) comp4 rfl fun Q q1 q2 => ?_
  simp -implicitDefEqProofs only [go_sem, Nat.reduceBEq, Nat.reduceAdd, eq_self, true_and, and_true, and_self, List.getElem?_cons_zero, List.getElem?_cons_succ, Nat.reduceLeDiff, Nat.zero_add, Nat.reduceSub, Nat.le_refl, c4]
  refine call_at (filled_ok (room := 50) rfl (hv.1 _) hv.2.1 hv.2.2) ?_
  rintro w τ ⟨i, m, s, ov, P, u, rfl, hL, hP, hu, e1, -, -⟩
  refine ⟨kept_none, ?_⟩
  obtain ⟨b, R, z, es, rfl⟩ := hu.isSl
  have hgd := logR_good gs 50
  have hPl : P.length ≤ 50 := by
    have := logR_room gs 50
    rw [← hP, map2_len] at this
    exact this
  generalize logR gs 50 = L at hP hu hgd
  subst hP
  have hfi := find_ok (x := x) hL (by omega)
  simp only [spV, spC] at hfi
  simp -implicitDefEqProofs only [go_sem, Nat.reduceBEq, Nat.reduceAdd, eq_self, true_and, and_true, and_self, List.getElem?_cons_zero, List.getElem?_cons_succ, Nat.reduceLeDiff, Nat.zero_add, Nat.reduceSub, Nat.le_refl, flats, V.flat]
  refine call_at hfi ?_
  rintro w τ2 ⟨hw, e2, -⟩
  refine ⟨kept_none, ?_⟩
  have hu2 := hu.ext e2
  have hL2 := hL.ext e2
  have hrf := rfind_ok (x := x) hu2 (by rw [map2_len]; omega)
  simp only [spV, spC] at hrf
  have hn1 : (-1 : Int) < 0 := by decide
  have hge1 : decide ((-1 : Int) ≥ 0) = false := by decide
  have hlt1 : decide ((-1 : Int) < 0) = true := by decide
  have h11 : decide ((1 : Int) = 1) = true := by decide
  have h44 : decide ((4 : Int) = 4) = true := by decide
  have h00 : decide ((0 : Int) = 0) = true := by decide
  have hcc0 : ∀ t : St, CallA Try.prog 18 [cgV v0 cg0, cgV v0 cg0] t fun w σ' => σ' = t ∧ w = .bool true := fun t => by
    have := same_ok (g := cg0) (h := cg0) (v0_rd t) (v0_rd t) (by decide)
    rw [sameC_self] at this
    exact this
  have hcc : ∀ (y : V) (g : Cg) (d2 : V) (t : St), RdS t y 1 (intsV .i64 g.deps) → RdS t d2 1 (intsV .i64 g.deps) → g ∈ cgL P → CallA Try.prog 18 [cgV y g, cgV d2 g] t fun w σ' => σ' = t ∧ w = .bool true := fun y g d2 t h1 h2 h3 => by
    have := same_ok (g := g) (h := g) h1 h2 (by have := hgd.deps g h3; omega)
    rw [sameC_self] at this
    exact this
  have ht13 : ∀ (d2 : V) (g : Cg), List.take 13 (cgC d2 g) = cgC d2 g := fun d2 g => rfl
  have hl13 : ∀ (d2 : V) (g : Cg), (cgC d2 g).length = 13 := fun d2 g => rfl
  have hc0 := hcc0 τ2
  simp only [cgV, cgC, cg0, v0] at hc0
  have hro := rown_ok (r := r) (n := n) hu2 (by rw [map2_len]; omega)
  cases hf : (cgL P).find? (isA x)
  case' none =>
    rw [hf] at hw
    have hw' : w = .tup [cgV v0 cg0, .bool false] := hw
    subst hw'
    simp -implicitDefEqProofs only [go_sem, Nat.reduceBEq, Nat.reduceAdd, eq_self, true_and, and_true, and_self, List.getElem?_cons_zero, List.getElem?_cons_succ, Nat.reduceLeDiff, Nat.zero_add, Nat.reduceSub, Nat.le_refl, cgV, cgC, flats, V.flat, cg0, v0]
    refine call_at hrf ?_
    rintro w τ3 ⟨rfl, hτ⟩
    have hτ := hτ.symm
    subst hτ
    refine ⟨kept_none, ?_⟩
    rw [fidx_no hf]
    simp -implicitDefEqProofs only [go_sem, Nat.reduceBEq, Nat.reduceAdd, eq_self, true_and, and_true, and_self, List.getElem?_cons_zero, List.getElem?_cons_succ, Nat.reduceLeDiff, Nat.zero_add, Nat.reduceSub, Nat.le_refl, hge1, beq_self_eq_true]
    refine call_at hc0 ?_
    rintro w τ3 ⟨hτ, rfl⟩
    have hτ := hτ.symm
    subst hτ
    refine ⟨(Ext.refl _).kept, ?_⟩
  case' some =>
    rename_i g
    rw [hf] at hw
    obtain ⟨y, rfl, q, rfl, hq1, hq2⟩ := hw
    obtain ⟨j, hj, hj1, hj2⟩ := fidx_some hf
    have hsm := hcc (.sl false (.own q) 1 (intsV .i64 g.deps)) g
    simp only [cgV, cgC] at hsm
    simp -implicitDefEqProofs only [go_sem, Nat.reduceBEq, Nat.reduceAdd, eq_self, true_and, and_true, and_self, List.getElem?_cons_zero, List.getElem?_cons_succ, Nat.reduceLeDiff, Nat.zero_add, Nat.reduceSub, Nat.le_refl, cgV, cgC, flats, V.flat]
    refine call_at hrf ?_
    rintro w τ3 ⟨rfl, hτ⟩
    have hτ := hτ.symm
    subst hτ
    refine ⟨kept_none, ?_⟩
    rw [hj1]
    have hgej : decide ((j : Int) ≥ 0) = true := by simp
    obtain ⟨d2, hd1, hd2, hd3, -, hd5, hd6, hd7⟩ := rdC_get hu2 hj
    rw [hj2] at hd1 hd2
    subst hd6
    simp -implicitDefEqProofs only [go_sem, Nat.reduceBEq, Nat.reduceAdd, eq_self, true_and, and_true, and_self, List.getElem?_cons_zero, List.getElem?_cons_succ, Nat.reduceLeDiff, Nat.zero_add, Nat.reduceSub, Nat.le_refl, hgej, beq_self_eq_true, Int.toNat_natCast, hd1, ht13, hl13, cgC]
    refine ⟨⟨by omega, hd3⟩, hd5, ?_⟩
    refine call_at (hsm d2 τ2 ⟨_, _, _, rfl, by simp, .inr ⟨hq1, rfl⟩⟩ hd2 (List.mem_of_find?_eq_some hf)) ?_
    rintro w τ3 ⟨hτ, rfl⟩
    have hτ := hτ.symm
    subst hτ
    refine ⟨(Ext.refl _).kept, ?_⟩
  all_goals
    simp -implicitDefEqProofs only [go_sem, Nat.reduceBEq, Nat.reduceAdd, eq_self, true_and, and_true, and_self, List.getElem?_cons_zero, List.getElem?_cons_succ, Nat.reduceLeDiff, Nat.zero_add, Nat.reduceSub, Nat.le_refl, Nat.lt_irrefl]
    clear hro hrf hfi hc0
    by_cases hr : 0 ≤ r ∧ r < 64
    · have hr1 : decide (r < 0) = false := by rw [decide_eq_false_iff_not]; omega
      have hr2 : decide (r ≥ 64) = false := by rw [decide_eq_false_iff_not]; omega
      refine call_at (own_ok hL2 (by omega) hr) ?_
      rintro w τ4 ⟨hw4, e4, -⟩
      refine ⟨kept_none, ?_⟩
      have hu4 := hu2.ext e4
      have hro := rown_ok (r := r) (n := n) hu4 (by rw [map2_len]; omega)
      cases hfo : (cgL P).find? (isO r n) with
      | none =>
        rw [hfo] at hw4
        have hw5 : w = .tup [cgV v0 cg0, .int .i64 4] := hw4
        subst hw5
        have hc0 := hcc0 τ4
        simp only [cgV, cgC, cg0, v0] at hc0
        simp -implicitDefEqProofs only [go_sem, Nat.reduceBEq, Nat.reduceAdd, eq_self, true_and, and_true, and_self, List.getElem?_cons_zero, List.getElem?_cons_succ, Nat.reduceLeDiff, Nat.zero_add, Nat.reduceSub, Nat.le_refl, cgV, cgC, flats, V.flat, cg0, v0]
        refine call_at hro ?_
        rintro w τ5 ⟨rfl, hτ⟩
        have hτ := hτ.symm
        subst hτ
        refine ⟨kept_none, ?_⟩
        rw [fidx_no hfo]
        simp -implicitDefEqProofs only [go_sem, Nat.reduceBEq, Nat.reduceAdd, eq_self, true_and, and_true, and_self, List.getElem?_cons_zero, List.getElem?_cons_succ, Nat.reduceLeDiff, Nat.zero_add, Nat.reduceSub, Nat.le_refl, hr1, hr2, hlt1, h44]
        refine call_at hc0 ?_
        rintro w τ5 ⟨hτ, rfl⟩
        have hτ := hτ.symm
        subst hτ
        refine ⟨kept_none, ?_⟩
        simp -implicitDefEqProofs only [go_sem, Nat.reduceBEq, Nat.reduceAdd, eq_self, true_and, and_true, and_self, List.getElem?_cons_zero, List.getElem?_cons_succ, Nat.reduceLeDiff, Nat.zero_add, Nat.reduceSub, Nat.le_refl, Nat.lt_irrefl]
        refine call_at awake_ok ?_
        rintro w τ5 ⟨rfl, -⟩
        refine ⟨kept_none, ?_⟩
        simp -implicitDefEqProofs only [go_sem, Nat.reduceBEq, Nat.reduceAdd, eq_self, true_and, and_true, and_self, List.getElem?_cons_zero, List.getElem?_cons_succ, Nat.reduceLeDiff, Nat.zero_add, Nat.reduceSub, Nat.le_refl, Nat.lt_irrefl]
        refine q2 _ _ ?_
        simp -implicitDefEqProofs only [go_sem, Nat.reduceBEq, Nat.reduceAdd, eq_self, true_and, and_true, and_self, List.getElem?_cons_zero, List.getElem?_cons_succ, Nat.reduceLeDiff, Nat.zero_add, Nat.reduceSub, Nat.le_refl, Nat.lt_irrefl]
      | some g2 =>
        rw [hfo] at hw4
        obtain ⟨y2, rfl, q', rfl, hq1', hq2'⟩ := hw4
        obtain ⟨j2, hj2', hj3, hj4⟩ := fidx_some hfo
        have hsm2 := hcc (.sl false (.own q') 1 (intsV .i64 g2.deps)) g2
        simp only [cgV, cgC] at hsm2
        simp -implicitDefEqProofs only [go_sem, Nat.reduceBEq, Nat.reduceAdd, eq_self, true_and, and_true, and_self, List.getElem?_cons_zero, List.getElem?_cons_succ, Nat.reduceLeDiff, Nat.zero_add, Nat.reduceSub, Nat.le_refl, cgV, cgC, flats, V.flat]
        refine call_at hro ?_
        rintro w τ5 ⟨rfl, hτ⟩
        have hτ := hτ.symm
        subst hτ
        refine ⟨kept_none, ?_⟩
        rw [hj3]
        have hltj : decide ((j2 : Int) < 0) = false := by rw [decide_eq_false_iff_not]; omega
        obtain ⟨d3, hd1', hd2', hd3', -, hd5', hd6', hd7'⟩ := rdC_get hu4 hj2'
        rw [hj4] at hd1' hd2'
        try subst hd6'
        simp -implicitDefEqProofs only [go_sem, Nat.reduceBEq, Nat.reduceAdd, eq_self, true_and, and_true, and_self, List.getElem?_cons_zero, List.getElem?_cons_succ, Nat.reduceLeDiff, Nat.zero_add, Nat.reduceSub, Nat.le_refl, hr1, hr2, hltj, h00, Int.toNat_natCast, hd1', ht13, hl13, cgC]
        refine ⟨⟨by omega, hd3'⟩, hd5', ?_⟩
        refine call_at (hsm2 d3 τ4 ⟨_, _, _, rfl, by simp, .inr ⟨hq1', rfl⟩⟩ hd2' (List.mem_of_find?_eq_some hfo)) ?_
        rintro w τ5 ⟨hτ, rfl⟩
        have hτ := hτ.symm
        subst hτ
        refine ⟨(Ext.refl _).kept, ?_⟩
        simp -implicitDefEqProofs only [go_sem, Nat.reduceBEq, Nat.reduceAdd, eq_self, true_and, and_true, and_self, List.getElem?_cons_zero, List.getElem?_cons_succ, Nat.reduceLeDiff, Nat.zero_add, Nat.reduceSub, Nat.le_refl, Nat.lt_irrefl]
        refine call_at awake_ok ?_
        rintro w τ5 ⟨rfl, e9⟩
        refine ⟨e9.kept, ?_⟩
        simp -implicitDefEqProofs only [go_sem, Nat.reduceBEq, Nat.reduceAdd, eq_self, true_and, and_true, and_self, List.getElem?_cons_zero, List.getElem?_cons_succ, Nat.reduceLeDiff, Nat.zero_add, Nat.reduceSub, Nat.le_refl, Nat.lt_irrefl]
        refine q2 _ _ ?_
        simp -implicitDefEqProofs only [go_sem, Nat.reduceBEq, Nat.reduceAdd, eq_self, true_and, and_true, and_self, List.getElem?_cons_zero, List.getElem?_cons_succ, Nat.reduceLeDiff, Nat.zero_add, Nat.reduceSub, Nat.le_refl, Nat.lt_irrefl]
    · have hro := rown_ok (r := r) (n := n) hu2 (by rw [map2_len]; omega)
      have hc0 := hcc0 τ2
      simp only [cgV, cgC, cg0, v0] at hc0
      refine call_at (own_bad hr) ?_
      rintro w τ4 ⟨rfl, hτ⟩
      have hτ := hτ.symm
      subst hτ
      refine ⟨kept_none, ?_⟩
      simp -implicitDefEqProofs only [go_sem, Nat.reduceBEq, Nat.reduceAdd, eq_self, true_and, and_true, and_self, List.getElem?_cons_zero, List.getElem?_cons_succ, Nat.reduceLeDiff, Nat.zero_add, Nat.reduceSub, Nat.le_refl, cgV, cgC, flats, V.flat, cg0, v0]
      refine call_at hro ?_
      rintro w τ5 ⟨rfl, hτ⟩
      have hτ := hτ.symm
      subst hτ
      refine ⟨kept_none, ?_⟩
      cases hr1 : decide (r < 0)
      case' false =>
        have hr2 : decide (r ≥ 64) = true := by rw [decide_eq_true_eq]; have := of_decide_eq_false hr1; omega
        simp -implicitDefEqProofs only [go_sem, Nat.reduceBEq, Nat.reduceAdd, eq_self, true_and, and_true, and_self, List.getElem?_cons_zero, List.getElem?_cons_succ, Nat.reduceLeDiff, Nat.zero_add, Nat.reduceSub, Nat.le_refl, hr1, hr2, h11]
      case' true => simp -implicitDefEqProofs only [go_sem, Nat.reduceBEq, Nat.reduceAdd, eq_self, true_and, and_true, and_self, List.getElem?_cons_zero, List.getElem?_cons_succ, Nat.reduceLeDiff, Nat.zero_add, Nat.reduceSub, Nat.le_refl, hr1, h11]
      all_goals
        refine call_at hc0 ?_
        rintro w τ5 ⟨hτ, rfl⟩
        have hτ := hτ.symm
        subst hτ
        refine ⟨kept_none, ?_⟩
        simp -implicitDefEqProofs only [go_sem, Nat.reduceBEq, Nat.reduceAdd, eq_self, true_and, and_true, and_self, List.getElem?_cons_zero, List.getElem?_cons_succ, Nat.reduceLeDiff, Nat.zero_add, Nat.reduceSub, Nat.le_refl, Nat.lt_irrefl]
        refine call_at awake_ok ?_
        rintro w τ5 ⟨rfl, -⟩
        refine ⟨kept_none, ?_⟩
        simp -implicitDefEqProofs only [go_sem, Nat.reduceBEq, Nat.reduceAdd, eq_self, true_and, and_true, and_self, List.getElem?_cons_zero, List.getElem?_cons_succ, Nat.reduceLeDiff, Nat.zero_add, Nat.reduceSub, Nat.le_refl, Nat.lt_irrefl]
        refine q2 _ _ ?_
        simp -implicitDefEqProofs only [go_sem, Nat.reduceBEq, Nat.reduceAdd, eq_self, true_and, and_true, and_self, List.getElem?_cons_zero, List.getElem?_cons_succ, Nat.reduceLeDiff, Nat.zero_add, Nat.reduceSub, Nat.le_refl, Nat.lt_irrefl]
end
end Go.VL.opl

namespace Go.VL.opl
open Go Go.VL Go.Proofs Go.IntWalk Go.VL.st Go.VL.row

theorem sinceI_ok {k : List Int} {most : Int} (h : sinceI k most = 0) : clockI k = 0 := by
  unfold sinceI at h
  cases hc : decide (clockI k = 0) <;> rw [hc] at h
  · exact h
  · exact of_decide_eq_true hc
section
variable {σ : St} {v d kv : V} {n most : Int} {k : List Int} {gs : List Cg} {g : Cg}
set_option maxRecDepth 100000 in
set_option maxHeartbeats 4000000 in
theorem since_law (hv : ArgC v gs) (hk : RdS ⟨[], []⟩ kv 1 (intsV .i64 k)) : CallA Try.prog 6 [v, kv, .int .i64 most] ⟨[], []⟩ fun w _ => w = .bool true := by
  refine fn_at Try.func6 (by decide) comp6 rfl fun Q q1 q2 => ?_
  simp -implicitDefEqProofs only [go_sem, Nat.reduceBEq, Nat.reduceAdd, eq_self, true_and, and_true, and_self, List.getElem?_cons_zero, List.getElem?_cons_succ, Nat.reduceLeDiff, Nat.zero_add, Nat.reduceSub, Nat.le_refl, c6]
  refine call_at (filled_ok (room := 50) rfl (hv.1 _) hv.2.1 hv.2.2) ?_
  rintro w τ ⟨i, m, s, ov, P, u, rfl, hL, hP, hu, e1, -, -⟩
  refine ⟨kept_none, ?_⟩
  obtain ⟨b, R, z, es, rfl⟩ := hu.isSl
  have hgd := logR_good gs 50
  have hPl : P.length ≤ 50 := by
    have := logR_room gs 50
    rw [← hP, map2_len] at this
    exact this
  generalize logR gs 50 = L at hP hu hgd
  subst hP
  simp -implicitDefEqProofs only [go_sem, Nat.reduceBEq, Nat.reduceAdd, eq_self, true_and, and_true, and_self, List.getElem?_cons_zero, List.getElem?_cons_succ, Nat.reduceLeDiff, Nat.zero_add, Nat.reduceSub, Nat.le_refl, flats, V.flat]
  refine call_at (psince_ok (L := allR (cgL P) k) (fun hc τ' he => ?_) ?_ (fun g hg => ?_) (hk.ext e1)) ?_
  · have := each_ok (hL.ext he) (by omega) ((hk.ext e1).ext he)
    unfold eachL at this
    rw [hc] at this
    exact this
  · have := allR_len (cgL P) k
    rw [map2_len] at this
    omega
  · have := hgd.deps g (List.mem_filter.1 hg).1
    omega
  rintro w τ2 ⟨⟨a, rfl, ha⟩, e2⟩
  refine ⟨kept_none, ?_⟩
  simp -implicitDefEqProofs only [go_sem, Nat.reduceBEq, Nat.reduceAdd, eq_self, true_and, and_true, and_self, List.getElem?_cons_zero, List.getElem?_cons_succ, Nat.reduceLeDiff, Nat.zero_add, Nat.reduceSub, Nat.le_refl, Nat.lt_irrefl]
  refine call_at (rsince_ok (hu.ext e2) (by rw [map2_len]; omega) (hk.ext (e1.trans e2))) ?_
  rintro w τ3 ⟨⟨c, rfl, hc⟩, e3, -⟩
  refine ⟨kept_none, ?_⟩
  have hsL : sinceP (allR (cgL P) k) k most = sinceL (cgL P) k most := rfl
  have hsM : sinceQ (allR (cgL P) k) k most = sinceM (cgL P) k most := rfl
  rw [hsL] at ha
  rw [hsM]
  have hll : (sinceL (cgL P) k most).length ≤ 2000000 := by
    have := allR_len (cgL P) k
    rw [map2_len] at this
    unfold sinceL
    cases decide (sinceI k most = 0)
    · simp
    · simp only [cond_true, List.length_take]; omega
  have hld : ∀ g ∈ sinceL (cgL P) k most, g.deps.length ≤ 1073741823 := fun g hg => by
    unfold sinceL at hg
    cases hx : decide (sinceI k most = 0) <;> rw [hx] at hg
    · cases hg
    · have := hgd.deps g (List.mem_filter.1 (List.mem_of_mem_take hg)).1
      omega
  simp -implicitDefEqProofs only [go_sem, Nat.reduceBEq, Nat.reduceAdd, eq_self, true_and, and_true, and_self, List.getElem?_cons_zero, List.getElem?_cons_succ, Nat.reduceLeDiff, Nat.zero_add, Nat.reduceSub, Nat.le_refl, Nat.lt_irrefl]
  refine call_at (sameAll_ok (ha.rd.ext e3) hc hll hld) ?_
  rintro w τ4 ⟨hτ, rfl⟩
  have hτ := hτ.symm
  subst hτ
  refine ⟨kept_none, ?_⟩
  have h1 : decide (sinceL (cgL P) k most = sinceL (cgL P) k most) = true := decide_eq_true rfl
  have h2 : decide (sinceI k most = sinceI k most) = true := decide_eq_true rfl
  generalize sinceM (cgL P) k most = M
  simp -implicitDefEqProofs only [go_sem, Nat.reduceBEq, Nat.reduceAdd, eq_self, true_and, and_true, and_self, List.getElem?_cons_zero, List.getElem?_cons_succ, Nat.reduceLeDiff, Nat.zero_add, Nat.reduceSub, Nat.le_refl, h1, h2, beq_self_eq_true]
  refine call_at awake_ok ?_
  rintro w τ5 ⟨rfl, -⟩
  refine ⟨kept_none, ?_⟩
  simp -implicitDefEqProofs only [go_sem, Nat.reduceBEq, Nat.reduceAdd, eq_self, true_and, and_true, and_self, List.getElem?_cons_zero, List.getElem?_cons_succ, Nat.reduceLeDiff, Nat.zero_add, Nat.reduceSub, Nat.le_refl, Nat.lt_irrefl]
  refine q2 _ _ ?_
  simp -implicitDefEqProofs only [go_sem, Nat.reduceBEq, Nat.reduceAdd, eq_self, true_and, and_true, and_self, List.getElem?_cons_zero, List.getElem?_cons_succ, Nat.reduceLeDiff, Nat.zero_add, Nat.reduceSub, Nat.le_refl, Nat.lt_irrefl]
end
end Go.VL.opl
