/- Proved here: the code of the functions, written out, is what the compiler makes of the program. No condition. -/
import Derived.Test.YtkfobkfhbkicaaaGreatMc
import Derived.Test.YtkfobkfhbkicaaaGreatRows
set_option linter.unusedSimpArgs false
set_option linter.unusedVariables false
namespace Go.Proofs.YtkfobkfhbkicaaaGreat
open Go.RowKit
def c4l0 : ICode :=
 .seq (.seq (.region [(rO 99 (.mv (.t 14))),
  (rO 100 (.bin .int true .lss (.t 99) (.c (.i .i64 16))))])
  (.live [7, 11, 12, 10, 14, 13, 100] (.cond (.t 100) (.skip)
  (.exit 0))))
  (.live [7, 11, 12, 10, 14, 13] (.seq (.block 1 (.seq (.region [(rO 104 (.mv (.t 7))),
  (rO 105 (.mv (.t 14))),
  ⟨(some 106), none, (.call 23 [(.t 104), (.t 105)])⟩,
  (rO 103 (.mv (.t 106))),
  (rO 107 (.ext (.t 103) 0)),
  (rO 108 (.ext (.t 103) 1)),
  (rO 15 (.fresh [(.i .u8 0), (.i .u8 0), (.i .u8 0), (.i .u8 0), (.i .u8 0), (.i .u8 0), (.i .u8 0), (.i .u8 0), (.i .u8 0), (.i .u8 0), (.i .u8 0), (.i .u8 0), (.i .u8 0), (.i .u8 0), (.i .u8 0), (.i .u8 0), (.i .u8 0), (.i .u8 0), (.i .u8 0), (.i .u8 0), (.i .u8 0), (.i .u8 0), (.i .u8 0), (.i .u8 0), (.i .u8 0), (.i .u8 0), (.i .u8 0), (.i .u8 0), (.i .u8 0), (.i .u8 0), (.i .u8 0), (.i .u8 0), (.i .u8 0), (.i .u8 0), (.i .u8 0), (.i .u8 0), (.i .u8 0), (.i .u8 0), (.i .u8 0), (.i .u8 0), (.i .u8 0), (.i .u8 0), (.i .u8 0), (.i .u8 0), (.i .u8 0), (.i .u8 0), (.i .u8 0), (.i .u8 0), (.i .u8 0), (.i .u8 0), (.i .u8 0), (.i .u8 0), (.i .u8 0), (.i .u8 0), (.i .u8 0), (.i .u8 0), (.i .u8 0), (.i .u8 0), (.i .u8 0), (.i .u8 0), (.i .u8 0), (.i .u8 0), (.i .u8 0), (.i .u8 0)])),
  ⟨none, none, (.op (.store 64 (.t 15) (.t 107)))⟩,
  (rO 16 (.mv (.t 108)))])
  (.live [7, 11, 12, 10, 14, 15, 13] (.region [(rO 109 (.mv (.t 13))),
  (rO 110 (.load (some 64) (.t 15))),
  (rO 111 (.bslice [(.i .u8 0), (.i .u8 0), (.i .u8 0), (.i .u8 0), (.i .u8 0), (.i .u8 0), (.i .u8 0), (.i .u8 0), (.i .u8 0), (.i .u8 0), (.i .u8 0), (.i .u8 0), (.i .u8 0), (.i .u8 0), (.i .u8 0), (.i .u8 0), (.i .u8 0), (.i .u8 0), (.i .u8 0), (.i .u8 0), (.i .u8 0), (.i .u8 0), (.i .u8 0), (.i .u8 0), (.i .u8 0), (.i .u8 0), (.i .u8 0), (.i .u8 0), (.i .u8 0), (.i .u8 0), (.i .u8 0), (.i .u8 0), (.i .u8 0), (.i .u8 0), (.i .u8 0), (.i .u8 0), (.i .u8 0), (.i .u8 0), (.i .u8 0), (.i .u8 0), (.i .u8 0), (.i .u8 0), (.i .u8 0), (.i .u8 0), (.i .u8 0), (.i .u8 0), (.i .u8 0), (.i .u8 0), (.i .u8 0), (.i .u8 0), (.i .u8 0), (.i .u8 0), (.i .u8 0), (.i .u8 0), (.i .u8 0), (.i .u8 0), (.i .u8 0), (.i .u8 0), (.i .u8 0), (.i .u8 0), (.i .u8 0), (.i .u8 0), (.i .u8 0), (.i .u8 0)] 1 [(0, 64, (.t 110))])),
  (rO 112 (.app 64 64 (.t 109) (.t 111))),
  (rO 13 (.mv (.t 112)))]))))
  (.live [7, 11, 12, 10, 13, 14] (.region [(rO 101 (.mv (.t 14))),
  (rO 102 (.bin .int true .add (.t 101) (.c (.i .i64 1)))),
  (rO 14 (.mv (.t 102)))]))))
def c4 : IFunc := ⟨3, [.tmp 6],
 .seq (.region [(rO 3 (.box (.t 0))),
  (rO 4 (.box (.t 1))),
  (rO 5 (.box (.t 2))),
  (rO 6 (.mv (.c (.b false))))])
  (.live [4, 3, 5] (.seq (.seq (.region [⟨(some 20), none, (.call 5 [])⟩,
  (rO 21 (.un .not (.t 20)))])
  (.live [4, 3, 5, 21] (.cond (.t 21) (.seq (.region [(rO 6 (.mv (.c (.b false))))])
  (.ret))
  (.skip))))
  (.live [4, 3, 5] (.seq (.seq (.region [(rO 22 (.load (some 6) (.t 3))),
  ⟨(some 23), none, (.call 8 [(.t 22)])⟩,
  (rO 24 (.mv (.t 23))),
  ⟨(some 25), some (24, false), (.op (.load (some 6) (.t 4)))⟩,
  ⟨(some 26), some (24, false), (.call 8 [(.t 25)])⟩,
  (rO 27 (.pick (.t 24) (.c (.b true)) (.t 26))),
  (rO 28 (.mv (.t 27))),
  ⟨(some 29), some (28, false), (.op (.iaddr (some 2) 1 (.t 5) (.c (.i .i64 0))))⟩,
  ⟨(some 30), some (28, false), (.op (.load none (.t 29)))⟩,
  ⟨(some 31), some (28, false), (.op (.len .slice (.t 30)))⟩,
  ⟨(some 32), some (28, false), (.op (.bin .int true .gtr (.t 31) (.c (.i .i64 40))))⟩,
  (rO 33 (.pick (.t 28) (.c (.b true)) (.t 32))),
  (rO 34 (.mv (.t 33))),
  ⟨(some 35), some (34, false), (.op (.iaddr (some 2) 1 (.t 5) (.c (.i .i64 1))))⟩,
  ⟨(some 36), some (34, false), (.op (.load none (.t 35)))⟩,
  ⟨(some 37), some (34, false), (.op (.len .slice (.t 36)))⟩,
  ⟨(some 38), some (34, false), (.op (.bin .int true .gtr (.t 37) (.c (.i .i64 40))))⟩,
  (rO 39 (.pick (.t 34) (.c (.b true)) (.t 38)))])
  (.live [4, 3, 5, 39] (.cond (.t 39) (.seq (.region [(rO 6 (.mv (.c (.b true))))])
  (.ret))
  (.skip))))
  (.live [4, 3, 5] (.seq (.region [⟨(some 40), none, (.call 6 [(.c (.i .i64 100))])⟩,
  (rO 7 (.mv (.t 40)))])
  (.live [4, 7, 3, 5] (.seq (.region [(rO 41 (.faddr 0 (.t 3))),
  ⟨none, none, (.op (.store 1 (.t 41) (.c (.i .u64 7))))⟩,
  (rO 42 (.faddr 0 (.t 4))),
  ⟨none, none, (.op (.store 1 (.t 42) (.c (.i .u64 8))))⟩])
  (.live [4, 7, 3, 5] (.seq (.seq (.region [(rO 43 (.mv (.t 7))),
  (rO 44 (.load (some 6) (.t 3))),
  ⟨(some 45), none, (.call 20 [(.t 43), (.t 44)])⟩,
  (rO 46 (.un .not (.t 45))),
  (rO 47 (.mv (.t 46))),
  ⟨(some 48), some (47, false), (.op (.mv (.t 7)))⟩,
  ⟨(some 49), some (47, false), (.op (.load (some 6) (.t 4)))⟩,
  ⟨(some 50), some (47, false), (.call 20 [(.t 48), (.t 49)])⟩,
  ⟨(some 51), some (47, false), (.op (.un .not (.t 50)))⟩,
  (rO 52 (.pick (.t 47) (.c (.b true)) (.t 51)))])
  (.live [4, 7, 3, 5, 52] (.cond (.t 52) (.seq (.region [(rO 6 (.mv (.c (.b true))))])
  (.ret))
  (.skip))))
  (.live [4, 7, 3, 5] (.seq (.seq (.region [(rO 53 (.mv (.t 7))),
  (rO 54 (.load (some 6) (.t 3))),
  ⟨(some 55), none, (.call 9 [(.t 53), (.t 54)])⟩,
  (rO 56 (.bin .int true .neq (.t 55) (.c (.i .i64 0))))])
  (.live [4, 7, 3, 5, 56] (.cond (.t 56) (.seq (.region [(rO 6 (.mv (.c (.b false))))])
  (.ret))
  (.skip))))
  (.live [4, 7, 3, 5] (.seq (.region [(rO 57 (.mv (.t 7))),
  (rO 58 (.iaddr (some 2) 1 (.t 5) (.c (.i .i64 0)))),
  (rO 59 (.load none (.t 58))),
  (rO 60 (.len .slice (.t 59))),
  ⟨(some 61), none, (.call 13 [(.t 57), (.t 60)])⟩])
  (.live [4, 7, 3, 5] (.seq (.region [(rO 62 (.mv (.t 7))),
  (rO 63 (.load (some 6) (.t 4))),
  ⟨(some 64), none, (.call 9 [(.t 62), (.t 63)])⟩,
  (rO 65 (.bin .int true .eql (.t 64) (.c (.i .i64 0)))),
  (rO 8 (.mv (.t 65)))])
  (.live [4, 7, 3, 8, 5] (.seq (.region [(rO 66 (.mv (.t 7))),
  (rO 67 (.iaddr (some 2) 1 (.t 5) (.c (.i .i64 1)))),
  (rO 68 (.load none (.t 67))),
  ⟨(some 69), none, (.call 15 [(.t 66), (.t 68)])⟩])
  (.live [4, 7, 3, 8] (.seq (.region [(rO 71 (.mv (.t 7))),
  ⟨(some 72), none, (.call 17 [(.t 71)])⟩,
  (rO 70 (.mv (.t 72))),
  (rO 73 (.ext (.t 70) 0)),
  (rO 74 (.ext (.t 70) 1)),
  (rO 9 (.fresh [(.i .u64 0), (.i .u32 0), (.i .u64 0), (.i .i64 0), (.i .u64 0), .sn])),
  ⟨none, none, (.op (.store 6 (.t 9) (.t 73)))⟩,
  (rO 10 (.mv (.t 74)))])
  (.live [4, 9, 10, 7, 3, 8] (.seq (.seq (.region [(rO 75 (.mv (.t 8)))])
  (.live [4, 9, 10, 7, 3, 75] (.cond (.t 75) (.seq (.region [(rO 76 (.mv (.t 10))),
  (rO 77 (.mv (.t 76))),
  ⟨(some 78), some (77, true), (.op (.load (some 6) (.t 9)))⟩,
  ⟨(some 79), some (77, true), (.op (.load (some 6) (.t 4)))⟩,
  ⟨(some 80), some (77, true), (.call 21 [(.t 78), (.t 79)])⟩,
  (rO 81 (.pick (.t 77) (.t 80) (.c (.b false)))),
  (rO 6 (.mv (.t 81)))])
  (.ret))
  (.skip))))
  (.live [7, 10, 9, 4, 3] (.seq (.seq (.region [(rO 82 (.mv (.t 10))),
  (rO 83 (.mv (.t 82))),
  ⟨(some 84), some (83, true), (.op (.load (some 6) (.t 9)))⟩,
  ⟨(some 85), some (83, true), (.op (.load (some 6) (.t 3)))⟩,
  ⟨(some 86), some (83, true), (.call 21 [(.t 84), (.t 85)])⟩,
  ⟨(some 87), some (83, true), (.op (.mv (.t 86)))⟩,
  ⟨(some 88), some (87, false), (.op (.load (some 6) (.t 9)))⟩,
  ⟨(some 89), some (87, false), (.op (.load (some 6) (.t 4)))⟩,
  ⟨(some 90), some (87, false), (.call 21 [(.t 88), (.t 89)])⟩,
  ⟨(some 91), some (83, true), (.op (.pick (.t 87) (.c (.b true)) (.t 90)))⟩,
  (rO 92 (.pick (.t 83) (.t 91) (.c (.b false))))])
  (.live [7, 10, 9, 92] (.cond (.t 92) (.seq (.region [(rO 6 (.mv (.c (.b true))))])
  (.ret))
  (.skip))))
  (.live [7, 10, 9] (.seq (.region [(rO 94 (.load (some 6) (.t 9))),
  ⟨(some 95), none, (.call 22 [(.c (.i .i64 100)), (.t 94)])⟩,
  (rO 93 (.mv (.t 95))),
  (rO 96 (.ext (.t 93) 0)),
  (rO 97 (.ext (.t 93) 1)),
  (rO 11 (.fresh [(.i .u64 0), (.i .u32 0), .sn])),
  ⟨none, none, (.op (.store 3 (.t 11) (.t 96)))⟩,
  (rO 12 (.mv (.t 97)))])
  (.live [7, 11, 12, 10] (.seq (.region [(rO 98 (.bslice [(.i .u8 0), (.i .u8 0), (.i .u8 0), (.i .u8 0), (.i .u8 0), (.i .u8 0), (.i .u8 0), (.i .u8 0), (.i .u8 0), (.i .u8 0), (.i .u8 0), (.i .u8 0), (.i .u8 0), (.i .u8 0), (.i .u8 0), (.i .u8 0), (.i .u8 0), (.i .u8 0), (.i .u8 0), (.i .u8 0), (.i .u8 0), (.i .u8 0), (.i .u8 0), (.i .u8 0), (.i .u8 0), (.i .u8 0), (.i .u8 0), (.i .u8 0), (.i .u8 0), (.i .u8 0), (.i .u8 0), (.i .u8 0), (.i .u8 0), (.i .u8 0), (.i .u8 0), (.i .u8 0), (.i .u8 0), (.i .u8 0), (.i .u8 0), (.i .u8 0), (.i .u8 0), (.i .u8 0), (.i .u8 0), (.i .u8 0), (.i .u8 0), (.i .u8 0), (.i .u8 0), (.i .u8 0), (.i .u8 0), (.i .u8 0), (.i .u8 0), (.i .u8 0), (.i .u8 0), (.i .u8 0), (.i .u8 0), (.i .u8 0), (.i .u8 0), (.i .u8 0), (.i .u8 0), (.i .u8 0), (.i .u8 0), (.i .u8 0), (.i .u8 0), (.i .u8 0)] 0 [])),
  (rO 13 (.mv (.t 98)))])
  (.live [7, 11, 12, 10, 13] (.seq (.seq (.region [(rO 14 (.mv (.c (.i .i64 0))))])
  (.live [7, 11, 12, 10, 14, 13] (.block 0 (.loop [7, 11, 12, 10, 14, 13] c4l0))))
  (.live [11, 12, 10, 13] (.seq (.region [(rO 114 (.mv (.t 13))),
  ⟨(some 115), none, (.call 24 [(.t 114)])⟩,
  (rO 113 (.mv (.t 115))),
  (rO 116 (.ext (.t 113) 0)),
  (rO 117 (.ext (.t 113) 1)),
  (rO 118 (.ext (.t 113) 2)),
  (rO 17 (.fresh [(.i .u64 0), (.i .u32 0), .sn])),
  ⟨none, none, (.op (.store 3 (.t 17) (.t 116)))⟩,
  (rO 18 (.mv (.t 117))),
  (rO 19 (.mv (.t 118)))])
  (.live [17, 11, 19, 12, 10] (.seq (.region [(rO 119 (.mv (.t 10))),
  (rO 120 (.mv (.t 119))),
  ⟨(some 121), some (120, true), (.op (.mv (.t 12)))⟩,
  ⟨(some 122), some (120, true), (.op (.bin .int true .eql (.t 121) (.c (.i .i64 0))))⟩,
  (rO 123 (.pick (.t 120) (.t 122) (.c (.b false)))),
  (rO 124 (.mv (.t 123))),
  ⟨(some 125), some (124, true), (.op (.mv (.t 19)))⟩,
  (rO 126 (.pick (.t 124) (.t 125) (.c (.b false)))),
  (rO 127 (.mv (.t 126))),
  ⟨(some 128), some (127, true), (.op (.load (some 3) (.t 11)))⟩,
  ⟨(some 129), some (127, true), (.op (.load (some 3) (.t 17)))⟩,
  ⟨(some 130), some (127, true), (.call 25 [(.t 128), (.t 129)])⟩,
  (rO 131 (.pick (.t 127) (.t 130) (.c (.b false)))),
  (rO 6 (.mv (.t 131)))])
  (.ret))))))))))))))))))))))))))))))))))),
 []⟩
def c5d0 : List Stage :=
 [⟨[(⟨(some 39), none, (.op (.mv (.t 3)))⟩, 0), (⟨(some 40), none, (.op (.mv (.t 39)))⟩, 0), (⟨(some 41), some (40, true), (.op (.load (some 6) (.t 2)))⟩, 1)], none, some ⟨(some 42), some (40, true), (.call 26 [(.c (.i .u64 2))])⟩⟩,
  ⟨[], none, some ⟨(some 43), some (40, true), (.call 21 [(.t 41), (.t 42)])⟩⟩,
  ⟨[(⟨(some 44), none, (.op (.pick (.t 40) (.t 43) (.c (.b false))))⟩, 2), (⟨(some 45), none, (.op (.mv (.t 44)))⟩, 2), (⟨(some 46), some (45, true), (.op (.mv (.t 4)))⟩, 2), (⟨(some 47), some (45, true), (.op (.bin .int true .eql (.t 46) (.c (.i .i64 72))))⟩, 2), (⟨(some 48), none, (.op (.pick (.t 45) (.t 47) (.c (.b false))))⟩, 2), (⟨(some 49), none, (.op (.mv (.t 48)))⟩, 2), (⟨(some 50), some (49, true), (.op (.mv (.t 6)))⟩, 2), (⟨(some 51), none, (.op (.pick (.t 49) (.t 50) (.c (.b false))))⟩, 2), (⟨(some 52), none, (.op (.mv (.t 51)))⟩, 2), (⟨(some 53), some (52, true), (.op (.load (some 6) (.t 5)))⟩, 3)], none, some ⟨(some 54), some (52, true), (.call 26 [(.c (.i .u64 2))])⟩⟩,
  ⟨[], none, some ⟨(some 55), some (52, true), (.call 21 [(.t 53), (.t 54)])⟩⟩,
  ⟨[(⟨(some 56), none, (.op (.pick (.t 52) (.t 55) (.c (.b false))))⟩, 4), (⟨(some 0), none, (.op (.mv (.t 56)))⟩, 4)], none, none⟩]
def c5d0w : List (ROp × Bool) :=
 [((rO 39 (.mv (.t 3))), false), ((rO 40 (.mv (.t 39))), false), (⟨(some 41), some (40, true), (.op (.load (some 6) (.t 2)))⟩, false), (⟨(some 42), some (40, true), (.call 26 [(.c (.i .u64 2))])⟩, true), (⟨(some 43), some (40, true), (.call 21 [(.t 41), (.t 42)])⟩, false), ((rO 44 (.pick (.t 40) (.t 43) (.c (.b false)))), false), ((rO 45 (.mv (.t 44))), false), (⟨(some 46), some (45, true), (.op (.mv (.t 4)))⟩, false), (⟨(some 47), some (45, true), (.op (.bin .int true .eql (.t 46) (.c (.i .i64 72))))⟩, false), ((rO 48 (.pick (.t 45) (.t 47) (.c (.b false)))), false), ((rO 49 (.mv (.t 48))), false), (⟨(some 50), some (49, true), (.op (.mv (.t 6)))⟩, false), ((rO 51 (.pick (.t 49) (.t 50) (.c (.b false)))), false), ((rO 52 (.mv (.t 51))), false), (⟨(some 53), some (52, true), (.op (.load (some 6) (.t 5)))⟩, false), (⟨(some 54), some (52, true), (.call 26 [(.c (.i .u64 2))])⟩, true), (⟨(some 55), some (52, true), (.call 21 [(.t 53), (.t 54)])⟩, false), ((rO 56 (.pick (.t 52) (.t 55) (.c (.b false)))), false), ((rO 0 (.mv (.t 56))), false)]
theorem c5d0_w {P : Program} {O : Orc} {S0 : Mem} {rd : Bool} {e : Env} {S : Mem} {d : List Nat} {Q : Kont} : W P O S0 rd (.draw c5d0 []) e S d Q = wFl O c5d0w e S (normK Q d) := W_draw' (by kernel_rfl) (by kernel_rfl)
attribute [go_sem] c5d0_w c5d0w
def c5 : IFunc := ⟨0, [.tmp 0],
 .seq (.region [(rO 0 (.mv (.c (.b false))))])
  (.live [] (.seq (.region [⟨(some 7), none, (.call 6 [(.c (.i .i64 64))])⟩,
  (rO 1 (.mv (.t 7)))])
  (.live [1] (.seq (.seq (.region [(rO 8 (.mv (.t 1))),
  (rO 9 (.bin .ptr true .eql (.t 8) (.c .pn))),
  (rO 10 (.mv (.t 9))),
  ⟨(some 11), some (10, false), (.op (.mv (.t 1)))⟩,
  ⟨(some 12), some (10, false), (.call 26 [(.c (.i .u64 1))])⟩,
  ⟨(some 13), some (10, false), (.call 9 [(.t 11), (.t 12)])⟩,
  ⟨(some 14), some (10, false), (.op (.bin .int true .neq (.t 13) (.c (.i .i64 0))))⟩,
  (rO 15 (.pick (.t 10) (.c (.b true)) (.t 14))),
  (rO 16 (.mv (.t 15))),
  ⟨(some 17), some (16, false), (.op (.mv (.t 1)))⟩,
  ⟨(some 18), some (16, false), (.call 26 [(.c (.i .u64 2))])⟩,
  ⟨(some 19), some (16, false), (.call 9 [(.t 17), (.t 18)])⟩,
  ⟨(some 20), some (16, false), (.op (.bin .int true .neq (.t 19) (.c (.i .i64 0))))⟩,
  (rO 21 (.pick (.t 16) (.c (.b true)) (.t 20)))])
  (.live [1, 21] (.cond (.t 21) (.seq (.region [(rO 0 (.mv (.c (.b false))))])
  (.ret))
  (.skip))))
  (.live [1] (.seq (.region [(rO 23 (.mv (.t 1))),
  ⟨(some 24), none, (.call 17 [(.t 23)])⟩,
  (rO 22 (.mv (.t 24))),
  (rO 25 (.ext (.t 22) 0)),
  (rO 26 (.ext (.t 22) 1)),
  (rO 2 (.fresh [(.i .u64 0), (.i .u32 0), (.i .u64 0), (.i .i64 0), (.i .u64 0), .sn])),
  ⟨none, none, (.op (.store 6 (.t 2) (.t 25)))⟩,
  (rO 3 (.mv (.t 26)))])
  (.live [3, 2, 1] (.seq (.region [(rO 27 (.mv (.t 1))),
  ⟨(some 28), none, (.call 13 [(.t 27), (.c (.i .i64 0))])⟩])
  (.live [3, 2, 1] (.seq (.region [(rO 29 (.mv (.t 1))),
  ⟨(some 30), none, (.call 26 [(.c (.i .u64 3))])⟩,
  ⟨(some 31), none, (.call 9 [(.t 29), (.t 30)])⟩,
  (rO 4 (.mv (.t 31)))])
  (.live [3, 2, 4, 1] (.seq (.region [(rO 32 (.mv (.t 1))),
  ⟨(some 33), none, (.call 15 [(.t 32), (.c .sn)])⟩])
  (.live [3, 2, 4, 1] (.seq (.region [(rO 35 (.mv (.t 1))),
  ⟨(some 36), none, (.call 17 [(.t 35)])⟩,
  (rO 34 (.mv (.t 36))),
  (rO 37 (.ext (.t 34) 0)),
  (rO 38 (.ext (.t 34) 1)),
  (rO 5 (.fresh [(.i .u64 0), (.i .u32 0), (.i .u64 0), (.i .i64 0), (.i .u64 0), .sn])),
  ⟨none, none, (.op (.store 6 (.t 5) (.t 37)))⟩,
  (rO 6 (.mv (.t 38)))])
  (.live [3, 2, 4, 6, 5] (.seq (.draw c5d0 [])
  (.ret))))))))))))))))),
 []⟩
def c6 : IFunc := ⟨1, [.tmp 2],
 .seq (.region [(rO 2 (.mv (.c .pn)))])
  (.live [0] (.seq (.region [(rO 3 (.mv (.t 0))),
  (rO 4 (.mm false [(.t 3), (.c (.i .i64 512))])),
  (rO 5 (.mm true [(.c (.i .i64 0)), (.t 4)])),
  (rO 6 (.mks [(.i .u8 0), (.i .u8 0), (.i .u8 0), (.i .u8 0), (.i .u8 0), (.i .u8 0), (.i .u8 0), (.i .u8 0), (.i .u8 0), (.i .u8 0), (.i .u8 0), (.i .u8 0), (.i .u8 0), (.i .u8 0), (.i .u8 0), (.i .u8 0), (.i .u8 0), (.i .u8 0), (.i .u8 0), (.i .u8 0), (.i .u8 0), (.i .u8 0), (.i .u8 0), (.i .u8 0), (.i .u8 0), (.i .u8 0), (.i .u8 0), (.i .u8 0), (.i .u8 0), (.i .u8 0), (.i .u8 0), (.i .u8 0), (.i .u8 0), (.i .u8 0), (.i .u8 0), (.i .u8 0), (.i .u8 0), (.i .u8 0), (.i .u8 0), (.i .u8 0), (.i .u8 0), (.i .u8 0), (.i .u8 0), (.i .u8 0), (.i .u8 0), (.i .u8 0), (.i .u8 0), (.i .u8 0), (.i .u8 0), (.i .u8 0), (.i .u8 0), (.i .u8 0), (.i .u8 0), (.i .u8 0), (.i .u8 0), (.i .u8 0), (.i .u8 0), (.i .u8 0), (.i .u8 0), (.i .u8 0), (.i .u8 0), (.i .u8 0), (.i .u8 0), (.i .u8 0)] 64 (.t 5) (.t 5))),
  (rO 7 (.build [.sn, .sn, (.i .i64 0), (.b false)] [(0, 1, (.t 6)), (2, 1, (.c (.i .i64 (-1))))])),
  (rO 8 (.box (.t 7))),
  (rO 2 (.mv (.t 8)))])
  (.ret))),
 []⟩
def c8 : IFunc := ⟨1, [.tmp 2],
 .seq (.region [(rO 1 (.box (.t 0))),
  (rO 2 (.mv (.c (.b false))))])
  (.live [1] (.seq (.region [(rO 3 (.faddr 4 (.t 1))),
  (rO 4 (.faddr 1 (.t 3))),
  (rO 5 (.load none (.t 4))),
  (rO 6 (.len .slice (.t 5))),
  (rO 7 (.bin .int true .gtr (.t 6) (.c (.i .i64 30)))),
  (rO 2 (.mv (.t 7)))])
  (.ret))),
 []⟩
def c9l0 : ICode :=
 .seq (.region [(rO 34 (.bin .int false .lss (.t 33) (.t 32)))])
  (.live [8, 0, 31, 32, 33, 34] (.seq (.cond (.t 34) (.skip)
  (.exit 0))
  (.live [8, 0, 31, 32, 33] (.seq (.block 1 (.seq (.region [(rO 35 (.mv (.t 33))),
  (rO 36 (.iaddr none 64 (.t 31) (.t 33))),
  (rO 37 (.load (some 64) (.t 36))),
  (rO 10 (.fresh [(.i .u8 0), (.i .u8 0), (.i .u8 0), (.i .u8 0), (.i .u8 0), (.i .u8 0), (.i .u8 0), (.i .u8 0), (.i .u8 0), (.i .u8 0), (.i .u8 0), (.i .u8 0), (.i .u8 0), (.i .u8 0), (.i .u8 0), (.i .u8 0), (.i .u8 0), (.i .u8 0), (.i .u8 0), (.i .u8 0), (.i .u8 0), (.i .u8 0), (.i .u8 0), (.i .u8 0), (.i .u8 0), (.i .u8 0), (.i .u8 0), (.i .u8 0), (.i .u8 0), (.i .u8 0), (.i .u8 0), (.i .u8 0), (.i .u8 0), (.i .u8 0), (.i .u8 0), (.i .u8 0), (.i .u8 0), (.i .u8 0), (.i .u8 0), (.i .u8 0), (.i .u8 0), (.i .u8 0), (.i .u8 0), (.i .u8 0), (.i .u8 0), (.i .u8 0), (.i .u8 0), (.i .u8 0), (.i .u8 0), (.i .u8 0), (.i .u8 0), (.i .u8 0), (.i .u8 0), (.i .u8 0), (.i .u8 0), (.i .u8 0), (.i .u8 0), (.i .u8 0), (.i .u8 0), (.i .u8 0), (.i .u8 0), (.i .u8 0), (.i .u8 0), (.i .u8 0)])),
  (rO 9 (.mv (.t 35))),
  ⟨none, none, (.op (.store 64 (.t 10) (.t 37)))⟩])
  (.live [8, 0, 31, 32, 33, 10, 9] (.seq (.region [(rO 38 (.mv (.t 0))),
  (rO 39 (.mv (.t 8))),
  (rO 40 (.mv (.t 9))),
  (rO 41 (.bin .int false .add (.t 39) (.t 40))),
  (rO 42 (.load (some 64) (.t 10))),
  ⟨(some 43), none, (.call 11 [(.t 38), (.t 41), (.t 42)])⟩,
  (rO 11 (.mv (.t 43)))])
  (.live [11, 8, 0, 31, 32, 33] (.seq (.region [(rO 44 (.mv (.t 11))),
  (rO 45 (.bin .int true .neq (.t 44) (.c (.i .i64 0))))])
  (.live [11, 8, 0, 31, 32, 33, 45] (.cond (.t 45) (.seq (.region [(rO 46 (.mv (.t 11))),
  (rO 4 (.mv (.t 46)))])
  (.ret))
  (.skip)))))))))
  (.live [8, 0, 31, 32, 33] (.region [(rO 47 (.bin .int true .add (.t 33) (.c (.i .i64 1)))),
  (rO 33 (.mv (.t 47)))]))))))
def c9 : IFunc := ⟨2, [.tmp 4],
 .seq (.region [(rO 3 (.box (.t 1))),
  (rO 4 (.mv (.c (.i .i64 0))))])
  (.live [0, 3] (.seq (.region [(rO 13 (.mv (.t 0))),
  (rO 14 (.load (some 6) (.t 3))),
  ⟨(some 15), none, (.call 27 [(.t 13), (.t 14)])⟩,
  (rO 12 (.mv (.t 15))),
  (rO 16 (.ext (.t 12) 0)),
  (rO 17 (.ext (.t 12) 1)),
  (rO 5 (.fresh [(.i .u64 0), (.i .u32 0), .sn])),
  ⟨none, none, (.op (.store 3 (.t 5) (.t 16)))⟩,
  (rO 6 (.mv (.t 17)))])
  (.live [6, 0, 3, 5] (.seq (.seq (.region [(rO 18 (.mv (.t 6))),
  (rO 19 (.bin .int true .neq (.t 18) (.c (.i .i64 0))))])
  (.live [6, 0, 3, 5, 19] (.cond (.t 19) (.seq (.region [(rO 20 (.mv (.t 6))),
  (rO 4 (.mv (.t 20)))])
  (.ret))
  (.skip))))
  (.live [0, 3, 5] (.seq (.region [(rO 22 (.load (some 3) (.t 5))),
  ⟨(some 23), none, (.call 28 [(.t 22)])⟩,
  (rO 21 (.mv (.t 23))),
  (rO 24 (.ext (.t 21) 0)),
  (rO 25 (.ext (.t 21) 1)),
  (rO 7 (.mv (.t 24))),
  (rO 6 (.mv (.t 25)))])
  (.live [0, 7, 3, 6] (.seq (.seq (.region [(rO 26 (.mv (.t 6))),
  (rO 27 (.bin .int true .neq (.t 26) (.c (.i .i64 0))))])
  (.live [0, 7, 3, 27] (.cond (.t 27) (.seq (.region [(rO 4 (.mv (.c (.i .i64 141))))])
  (.ret))
  (.skip))))
  (.live [0, 7, 3] (.seq (.region [(rO 28 (.faddr 0 (.t 3))),
  (rO 29 (.load none (.t 28))),
  ⟨(some 30), none, (.call 29 [(.t 29)])⟩,
  (rO 8 (.mv (.t 30)))])
  (.live [8, 0, 7] (.seq (.seq (.region [(rO 31 (.mv (.t 7))),
  (rO 32 (.len .slice (.t 31))),
  (rO 33 (.mv (.c (.i .i64 0))))])
  (.live [8, 0, 31, 32, 33] (.block 0 (.loop [8, 0, 31, 32, 33] c9l0))))
  (.live [0] (.seq (.region [(rO 48 (.mv (.t 0))),
  ⟨(some 49), none, (.call 30 [(.t 48)])⟩,
  (rO 4 (.mv (.t 49)))])
  (.ret))))))))))))))),
 []⟩
def c11d0 : List Stage :=
 [⟨[(⟨(some 16), none, (.op (.mv (.t 0)))⟩, 2), (⟨(some 17), none, (.op (.mv (.t 0)))⟩, 1), (⟨(some 18), none, (.op (.nilck (.t 17)))⟩, 1), (⟨(some 19), none, (.op (.faddr 1 (.t 18)))⟩, 1), (⟨(some 20), none, (.op (.load none (.t 19)))⟩, 1), (⟨(some 21), none, (.op (.mv (.t 1)))⟩, 0), (⟨(some 22), none, (.op (.load (some 64) (.t 5)))⟩, 0), (⟨(some 23), none, (.op (.build [(.i .i64 0), (.i .u8 0), (.i .u8 0), (.i .u8 0), (.i .u8 0), (.i .u8 0), (.i .u8 0), (.i .u8 0), (.i .u8 0), (.i .u8 0), (.i .u8 0), (.i .u8 0), (.i .u8 0), (.i .u8 0), (.i .u8 0), (.i .u8 0), (.i .u8 0), (.i .u8 0), (.i .u8 0), (.i .u8 0), (.i .u8 0), (.i .u8 0), (.i .u8 0), (.i .u8 0), (.i .u8 0), (.i .u8 0), (.i .u8 0), (.i .u8 0), (.i .u8 0), (.i .u8 0), (.i .u8 0), (.i .u8 0), (.i .u8 0), (.i .u8 0), (.i .u8 0), (.i .u8 0), (.i .u8 0), (.i .u8 0), (.i .u8 0), (.i .u8 0), (.i .u8 0), (.i .u8 0), (.i .u8 0), (.i .u8 0), (.i .u8 0), (.i .u8 0), (.i .u8 0), (.i .u8 0), (.i .u8 0), (.i .u8 0), (.i .u8 0), (.i .u8 0), (.i .u8 0), (.i .u8 0), (.i .u8 0), (.i .u8 0), (.i .u8 0), (.i .u8 0), (.i .u8 0), (.i .u8 0), (.i .u8 0), (.i .u8 0), (.i .u8 0), (.i .u8 0), (.i .u8 0)] [(0, 1, (.t 21)), (1, 64, (.t 22))]))⟩, 0)], none, some ⟨(some 24), none, (.op (.bslice [(.i .i64 0), (.i .u8 0), (.i .u8 0), (.i .u8 0), (.i .u8 0), (.i .u8 0), (.i .u8 0), (.i .u8 0), (.i .u8 0), (.i .u8 0), (.i .u8 0), (.i .u8 0), (.i .u8 0), (.i .u8 0), (.i .u8 0), (.i .u8 0), (.i .u8 0), (.i .u8 0), (.i .u8 0), (.i .u8 0), (.i .u8 0), (.i .u8 0), (.i .u8 0), (.i .u8 0), (.i .u8 0), (.i .u8 0), (.i .u8 0), (.i .u8 0), (.i .u8 0), (.i .u8 0), (.i .u8 0), (.i .u8 0), (.i .u8 0), (.i .u8 0), (.i .u8 0), (.i .u8 0), (.i .u8 0), (.i .u8 0), (.i .u8 0), (.i .u8 0), (.i .u8 0), (.i .u8 0), (.i .u8 0), (.i .u8 0), (.i .u8 0), (.i .u8 0), (.i .u8 0), (.i .u8 0), (.i .u8 0), (.i .u8 0), (.i .u8 0), (.i .u8 0), (.i .u8 0), (.i .u8 0), (.i .u8 0), (.i .u8 0), (.i .u8 0), (.i .u8 0), (.i .u8 0), (.i .u8 0), (.i .u8 0), (.i .u8 0), (.i .u8 0), (.i .u8 0), (.i .u8 0)] 1 [(0, 65, (.t 23))]))⟩⟩,
  ⟨[], none, some ⟨(some 25), none, (.op (.app 65 72 (.t 20) (.t 24)))⟩⟩,
  ⟨[(⟨(some 26), none, (.op (.nilck (.t 16)))⟩, 2), (⟨(some 27), none, (.op (.faddr 1 (.t 26)))⟩, 2)], none, some ⟨none, none, (.op (.store 1 (.t 27) (.t 25)))⟩⟩,
  ⟨[], none, none⟩]
def c11d0w : List (ROp × Bool) :=
 [((rO 16 (.mv (.t 0))), false), ((rO 17 (.mv (.t 0))), false), ((rO 18 (.nilck (.t 17))), false), ((rO 19 (.faddr 1 (.t 18))), false), ((rO 20 (.load none (.t 19))), false), ((rO 21 (.mv (.t 1))), false), ((rO 22 (.load (some 64) (.t 5))), false), ((rO 23 (.build [(.i .i64 0), (.i .u8 0), (.i .u8 0), (.i .u8 0), (.i .u8 0), (.i .u8 0), (.i .u8 0), (.i .u8 0), (.i .u8 0), (.i .u8 0), (.i .u8 0), (.i .u8 0), (.i .u8 0), (.i .u8 0), (.i .u8 0), (.i .u8 0), (.i .u8 0), (.i .u8 0), (.i .u8 0), (.i .u8 0), (.i .u8 0), (.i .u8 0), (.i .u8 0), (.i .u8 0), (.i .u8 0), (.i .u8 0), (.i .u8 0), (.i .u8 0), (.i .u8 0), (.i .u8 0), (.i .u8 0), (.i .u8 0), (.i .u8 0), (.i .u8 0), (.i .u8 0), (.i .u8 0), (.i .u8 0), (.i .u8 0), (.i .u8 0), (.i .u8 0), (.i .u8 0), (.i .u8 0), (.i .u8 0), (.i .u8 0), (.i .u8 0), (.i .u8 0), (.i .u8 0), (.i .u8 0), (.i .u8 0), (.i .u8 0), (.i .u8 0), (.i .u8 0), (.i .u8 0), (.i .u8 0), (.i .u8 0), (.i .u8 0), (.i .u8 0), (.i .u8 0), (.i .u8 0), (.i .u8 0), (.i .u8 0), (.i .u8 0), (.i .u8 0), (.i .u8 0), (.i .u8 0)] [(0, 1, (.t 21)), (1, 64, (.t 22))])), false), ((rO 24 (.bslice [(.i .i64 0), (.i .u8 0), (.i .u8 0), (.i .u8 0), (.i .u8 0), (.i .u8 0), (.i .u8 0), (.i .u8 0), (.i .u8 0), (.i .u8 0), (.i .u8 0), (.i .u8 0), (.i .u8 0), (.i .u8 0), (.i .u8 0), (.i .u8 0), (.i .u8 0), (.i .u8 0), (.i .u8 0), (.i .u8 0), (.i .u8 0), (.i .u8 0), (.i .u8 0), (.i .u8 0), (.i .u8 0), (.i .u8 0), (.i .u8 0), (.i .u8 0), (.i .u8 0), (.i .u8 0), (.i .u8 0), (.i .u8 0), (.i .u8 0), (.i .u8 0), (.i .u8 0), (.i .u8 0), (.i .u8 0), (.i .u8 0), (.i .u8 0), (.i .u8 0), (.i .u8 0), (.i .u8 0), (.i .u8 0), (.i .u8 0), (.i .u8 0), (.i .u8 0), (.i .u8 0), (.i .u8 0), (.i .u8 0), (.i .u8 0), (.i .u8 0), (.i .u8 0), (.i .u8 0), (.i .u8 0), (.i .u8 0), (.i .u8 0), (.i .u8 0), (.i .u8 0), (.i .u8 0), (.i .u8 0), (.i .u8 0), (.i .u8 0), (.i .u8 0), (.i .u8 0), (.i .u8 0)] 1 [(0, 65, (.t 23))])), true), ((rO 25 (.app 65 72 (.t 20) (.t 24))), false), ((rO 26 (.nilck (.t 16))), false), ((rO 27 (.faddr 1 (.t 26))), false), (⟨none, none, (.op (.store 1 (.t 27) (.t 25)))⟩, false)]
theorem c11d0_w {P : Program} {O : Orc} {S0 : Mem} {rd : Bool} {e : Env} {S : Mem} {d : List Nat} {Q : Kont} : W P O S0 rd (.draw c11d0 []) e S d Q = wFl O c11d0w e S (normK Q d) := W_draw' (by kernel_rfl) (by kernel_rfl)
attribute [go_sem] c11d0_w c11d0w
def c11 : IFunc := ⟨3, [.tmp 6],
 .seq (.region [(rO 5 (.box (.t 2))),
  (rO 6 (.mv (.c (.i .i64 0))))])
  (.live [0, 1, 5] (.seq (.seq (.region [(rO 8 (.mv (.t 0))),
  (rO 9 (.mv (.t 1))),
  ⟨(some 10), none, (.call 34 [(.t 8), (.t 9)])⟩,
  (rO 11 (.un .not (.t 10)))])
  (.live [0, 1, 5, 11] (.cond (.t 11) (.seq (.region [(rO 6 (.mv (.c (.i .i64 71))))])
  (.ret))
  (.skip))))
  (.live [0, 1, 5] (.seq (.region [(rO 12 (.mv (.t 0))),
  ⟨(some 13), none, (.call 35 [(.t 12)])⟩,
  (rO 7 (.mv (.t 13)))])
  (.live [7, 0, 1, 5] (.seq (.seq (.region [(rO 14 (.mv (.t 7))),
  (rO 15 (.bin .int true .eql (.t 14) (.c (.i .i64 0))))])
  (.live [7, 0, 1, 5, 15] (.cond (.t 15) (.draw c11d0 [])
  (.skip))))
  (.live [7] (.seq (.region [(rO 28 (.mv (.t 7))),
  (rO 6 (.mv (.t 28)))])
  (.ret))))))))),
 []⟩
def c13 : IFunc := ⟨2, [],
 .region [(rO 4 (.mv (.t 0))),
  (rO 5 (.mv (.t 1))),
  (rO 6 (.mm true [(.t 5), (.c (.i .i64 (-1)))])),
  (rO 7 (.nilck (.t 4))),
  (rO 8 (.faddr 2 (.t 7))),
  ⟨none, none, (.op (.store 1 (.t 8) (.t 6)))⟩],
 []⟩
def c15 : IFunc := ⟨2, [],
 .seq (.region [(rO 3 (.box (.t 1)))])
  (.live [0, 3] (.seq (.region [(rO 4 (.mv (.t 0))),
  (rO 5 (.mkf (.func 38) [] [(.t 3)])),
  ⟨(some 6), none, (.call 37 [(.t 4), (.t 5)])⟩])
  (.live [0] (.region [(rO 7 (.mv (.t 0))),
  (rO 8 (.mv (.t 0))),
  (rO 9 (.nilck (.t 7))),
  (rO 10 (.faddr 2 (.t 9))),
  ⟨none, none, (.op (.store 1 (.t 10) (.c (.i .i64 (-1)))))⟩,
  (rO 11 (.nilck (.t 8))),
  (rO 12 (.faddr 3 (.t 11))),
  ⟨none, none, (.op (.store 1 (.t 12) (.c (.b false))))⟩])))),
 []⟩
def c17l0 : ICode :=
 .seq (.region [(rO 10 (.bin .int true .lss (.t 9) (.c (.i .u64 2))))])
  (.live [4, 0, 2, 9, 5, 10] (.seq (.cond (.t 10) (.skip)
  (.exit 0))
  (.live [4, 0, 2, 9, 5] (.seq (.block 1 (.seq (.region [(rO 11 (.mv (.t 9))),
  (rO 6 (.mv (.t 11)))])
  (.live [4, 0, 2, 9, 5, 6] (.seq (.region [(rO 13 (.mv (.t 0))),
  (rO 14 (.mv (.t 6))),
  ⟨(some 15), none, (.call 29 [(.t 14)])⟩,
  ⟨(some 16), none, (.call 40 [(.t 13), (.t 15)])⟩,
  (rO 12 (.mv (.t 16))),
  (rO 17 (.ext (.t 12) 0)),
  (rO 18 (.ext (.t 12) 1)),
  (rO 7 (.fresh [(.i .u64 0), (.i .u32 0), (.i .u64 0), (.i .i64 0), (.i .u64 0), .sn])),
  ⟨none, none, (.op (.store 6 (.t 7) (.t 17)))⟩,
  (rO 8 (.mv (.t 18)))])
  (.live [4, 0, 2, 9, 7, 5, 8] (.seq (.region [(rO 19 (.mv (.t 8))),
  (rO 20 (.mv (.t 19))),
  ⟨(some 21), some (20, true), (.op (.faddr 0 (.t 7)))⟩,
  ⟨(some 22), some (20, true), (.op (.load none (.t 21)))⟩,
  ⟨(some 23), some (20, true), (.op (.faddr 0 (.t 4)))⟩,
  ⟨(some 24), some (20, true), (.op (.load none (.t 23)))⟩,
  ⟨(some 25), some (20, true), (.op (.bin .int false .gtr (.t 22) (.t 24)))⟩,
  (rO 26 (.pick (.t 20) (.t 25) (.c (.b false))))])
  (.live [4, 0, 2, 9, 7, 5, 26] (.cond (.t 26) (.region [(rO 27 (.load (some 6) (.t 7))),
  ⟨none, none, (.op (.store 6 (.t 4) (.t 27)))⟩,
  (rO 5 (.mv (.c (.b true))))])
  (.skip)))))))))
  (.live [4, 0, 2, 5, 9] (.region [(rO 28 (.bin .int true .add (.t 9) (.c (.i .u64 1)))),
  (rO 9 (.mv (.t 28)))]))))))
def c17 : IFunc := ⟨1, [.cell 2 (some 6), .tmp 3],
 .seq (.region [(rO 2 (.fresh [(.i .u64 0), (.i .u32 0), (.i .u64 0), (.i .i64 0), (.i .u64 0), .sn])),
  (rO 3 (.mv (.c (.b false))))])
  (.live [0, 2] (.seq (.region [(rO 4 (.fresh [(.i .u64 0), (.i .u32 0), (.i .u64 0), (.i .i64 0), (.i .u64 0), .sn]))])
  (.live [4, 0, 2] (.seq (.region [(rO 5 (.mv (.c (.b false))))])
  (.live [4, 0, 2, 5] (.seq (.seq (.region [(rO 9 (.mv (.c (.i .u64 0))))])
  (.live [4, 0, 2, 9, 5] (.block 0 (.loop [4, 0, 2, 9, 5] c17l0))))
  (.live [2, 5, 4] (.seq (.region [(rO 29 (.load (some 6) (.t 4))),
  (rO 30 (.mv (.t 5))),
  ⟨none, none, (.op (.store 6 (.t 2) (.t 29)))⟩,
  (rO 3 (.mv (.t 30)))])
  (.ret))))))))),
 []⟩
def c20d0 : List Stage :=
 [⟨[(⟨(some 8), none, (.op (.mv (.t 0)))⟩, 0), (⟨(some 10), none, (.op (.faddr 3 (.t 3)))⟩, 1), (⟨(some 11), none, (.op (.load none (.t 10)))⟩, 1)], none, some ⟨(some 9), none, (.call 44 [(.t 8)])⟩⟩,
  ⟨[], none, some ⟨(some 12), none, (.call 43 [(.t 9), (.t 11)])⟩⟩,
  ⟨[(⟨(some 7), none, (.op (.mv (.t 12)))⟩, 2), (⟨(some 13), none, (.op (.ext (.t 7) 0))⟩, 2), (⟨(some 14), none, (.op (.ext (.t 7) 1))⟩, 2), (⟨(some 5), none, (.op (.mv (.t 13)))⟩, 2), (⟨(some 6), none, (.op (.mv (.t 14)))⟩, 2)], none, none⟩]
def c20d0w : List (ROp × Bool) :=
 [((rO 8 (.mv (.t 0))), false), ((rO 10 (.faddr 3 (.t 3))), false), ((rO 11 (.load none (.t 10))), false), (⟨(some 9), none, (.call 44 [(.t 8)])⟩, true), (⟨(some 12), none, (.call 43 [(.t 9), (.t 11)])⟩, false), ((rO 7 (.mv (.t 12))), false), ((rO 13 (.ext (.t 7) 0)), false), ((rO 14 (.ext (.t 7) 1)), false), ((rO 5 (.mv (.t 13))), false), ((rO 6 (.mv (.t 14))), false)]
theorem c20d0_w {P : Program} {O : Orc} {S0 : Mem} {rd : Bool} {e : Env} {S : Mem} {d : List Nat} {Q : Kont} : W P O S0 rd (.draw c20d0 []) e S d Q = wFl O c20d0w e S (normK Q d) := W_draw' (by kernel_rfl) (by kernel_rfl)
attribute [go_sem] c20d0_w c20d0w
def c20 : IFunc := ⟨2, [.tmp 4],
 .seq (.region [(rO 3 (.box (.t 1))),
  (rO 4 (.mv (.c (.b false))))])
  (.live [3, 0] (.seq (.draw c20d0 [])
  (.live [3, 6] (.seq (.region [(rO 15 (.mv (.t 6))),
  (rO 16 (.bin .int true .eql (.t 15) (.c (.i .i64 0)))),
  (rO 17 (.mv (.t 16))),
  ⟨(some 18), some (17, true), (.op (.faddr 0 (.t 3)))⟩,
  ⟨(some 19), some (17, true), (.op (.load none (.t 18)))⟩,
  ⟨(some 20), some (17, true), (.call 45 [(.t 19)])⟩,
  (rO 21 (.pick (.t 17) (.t 20) (.c (.b false)))),
  (rO 22 (.mv (.t 21))),
  ⟨(some 23), some (22, true), (.op (.faddr 2 (.t 3)))⟩,
  ⟨(some 24), some (22, true), (.op (.load none (.t 23)))⟩,
  ⟨(some 25), some (22, true), (.call 45 [(.t 24)])⟩,
  (rO 26 (.pick (.t 22) (.t 25) (.c (.b false)))),
  (rO 27 (.mv (.t 26))),
  ⟨(some 28), some (27, true), (.op (.faddr 1 (.t 3)))⟩,
  ⟨(some 29), some (27, true), (.op (.load none (.t 28)))⟩,
  ⟨(some 30), some (27, true), (.op (.bin .int true .leq (.t 29) (.c (.i .u32 2147483648))))⟩,
  (rO 31 (.pick (.t 27) (.t 30) (.c (.b false)))),
  (rO 32 (.mv (.t 31))),
  ⟨(some 33), some (32, true), (.op (.faddr 4 (.t 3)))⟩,
  ⟨(some 34), some (32, true), (.op (.load (some 2) (.t 33)))⟩,
  ⟨(some 35), some (32, true), (.call 46 [(.t 34)])⟩,
  (rO 36 (.pick (.t 32) (.t 35) (.c (.b false)))),
  (rO 4 (.mv (.t 36)))])
  (.ret))))),
 []⟩
def c21 : IFunc := ⟨2, [.tmp 4],
 .seq (.region [(rO 2 (.box (.t 0))),
  (rO 3 (.box (.t 1))),
  (rO 4 (.mv (.c (.b false))))])
  (.live [3, 2] (.seq (.region [(rO 5 (.faddr 0 (.t 2))),
  (rO 6 (.load none (.t 5))),
  (rO 7 (.faddr 0 (.t 3))),
  (rO 8 (.load none (.t 7))),
  (rO 9 (.bin .int false .eql (.t 6) (.t 8))),
  (rO 10 (.mv (.t 9))),
  ⟨(some 11), some (10, true), (.op (.faddr 1 (.t 2)))⟩,
  ⟨(some 12), some (10, true), (.op (.load none (.t 11)))⟩,
  ⟨(some 13), some (10, true), (.op (.faddr 1 (.t 3)))⟩,
  ⟨(some 14), some (10, true), (.op (.load none (.t 13)))⟩,
  ⟨(some 15), some (10, true), (.op (.bin .int false .eql (.t 12) (.t 14)))⟩,
  (rO 16 (.pick (.t 10) (.t 15) (.c (.b false)))),
  (rO 17 (.mv (.t 16))),
  ⟨(some 18), some (17, true), (.op (.faddr 2 (.t 2)))⟩,
  ⟨(some 19), some (17, true), (.op (.load none (.t 18)))⟩,
  ⟨(some 20), some (17, true), (.op (.faddr 2 (.t 3)))⟩,
  ⟨(some 21), some (17, true), (.op (.load none (.t 20)))⟩,
  ⟨(some 22), some (17, true), (.op (.bin .int false .eql (.t 19) (.t 21)))⟩,
  (rO 23 (.pick (.t 17) (.t 22) (.c (.b false)))),
  (rO 24 (.mv (.t 23))),
  ⟨(some 25), some (24, true), (.op (.faddr 3 (.t 2)))⟩,
  ⟨(some 26), some (24, true), (.op (.load none (.t 25)))⟩,
  ⟨(some 27), some (24, true), (.op (.faddr 3 (.t 3)))⟩,
  ⟨(some 28), some (24, true), (.op (.load none (.t 27)))⟩,
  ⟨(some 29), some (24, true), (.op (.bin .int false .eql (.t 26) (.t 28)))⟩,
  (rO 30 (.pick (.t 24) (.t 29) (.c (.b false)))),
  (rO 31 (.mv (.t 30))),
  ⟨(some 32), some (31, true), (.op (.faddr 4 (.t 2)))⟩,
  ⟨(some 33), some (31, true), (.op (.load (some 2) (.t 32)))⟩,
  ⟨(some 34), some (31, true), (.op (.faddr 4 (.t 3)))⟩,
  ⟨(some 35), some (31, true), (.op (.load (some 2) (.t 34)))⟩,
  ⟨(some 36), some (31, true), (.call 47 [(.t 33), (.t 35)])⟩,
  (rO 37 (.pick (.t 31) (.t 36) (.c (.b false)))),
  (rO 4 (.mv (.t 37)))])
  (.ret))),
 []⟩
def c22d0 : List Stage :=
 [⟨[(⟨(some 27), none, (.op (.faddr 0 (.t 3)))⟩, 1), (⟨(some 28), none, (.op (.load none (.t 27)))⟩, 1), (⟨(some 29), none, (.op (.faddr 1 (.t 3)))⟩, 1), (⟨(some 30), none, (.op (.load none (.t 29)))⟩, 1), (⟨(some 31), none, (.op (.mv (.t 8)))⟩, 0), (⟨(some 32), none, (.op (.mv (.t 6)))⟩, 0)], none, some ⟨(some 33), none, (.op (.app 1 1 (.t 31) (.t 32)))⟩⟩,
  ⟨[(⟨(some 34), none, (.op (.build [(.i .u64 0), (.i .u32 0), .sn] [(0, 1, (.t 28)), (1, 1, (.t 30)), (2, 1, (.t 33))]))⟩, 1)], none, some ⟨none, none, (.op (.store 3 (.t 4) (.t 34)))⟩⟩,
  ⟨[(⟨(some 5), none, (.op (.mv (.c (.i .i64 0))))⟩, 2)], none, none⟩]
theorem c22d0_e {P : Program} {O : Orc} {S0 : Mem} {rd : Bool} {e : Env} {S : Mem} {d : List Nat} {Q : Kont} : W P O S0 rd (.draw c22d0 []) e S d Q = drawK (evDraw O c22d0 [] e S) (normK Q d) := W_drawE (by kernel_rfl)
attribute [go_sem] c22d0_e
def c22 : IFunc := ⟨2, [.cell 4 (some 3), .tmp 5],
 .seq (.region [(rO 3 (.box (.t 1))),
  (rO 4 (.fresh [(.i .u64 0), (.i .u32 0), .sn])),
  (rO 5 (.mv (.c (.i .i64 0))))])
  (.live [4, 3, 0] (.seq (.seq (.region [(rO 9 (.mv (.t 0))),
  (rO 10 (.load (some 6) (.t 3))),
  ⟨(some 11), none, (.call 48 [(.t 9), (.t 10)])⟩,
  (rO 12 (.un .not (.t 11)))])
  (.live [4, 3, 12] (.cond (.t 12) (.seq (.region [(rO 13 (.build [(.i .u64 0), (.i .u32 0), .sn] [])),
  ⟨none, none, (.op (.store 3 (.t 4) (.t 13)))⟩,
  (rO 5 (.mv (.c (.i .i64 141))))])
  (.ret))
  (.skip))))
  (.live [4, 3] (.seq (.region [(rO 15 (.faddr 4 (.t 3))),
  (rO 16 (.load (some 2) (.t 15))),
  ⟨(some 17), none, (.call 49 [(.t 16)])⟩,
  (rO 14 (.mv (.t 17))),
  (rO 18 (.ext (.t 14) 0)),
  (rO 19 (.ext (.t 14) 1)),
  (rO 6 (.mv (.t 18))),
  (rO 7 (.mv (.t 19)))])
  (.live [4, 3, 6] (.seq (.region [(rO 20 (.faddr 2 (.t 3))),
  (rO 21 (.load none (.t 20))),
  (rO 22 (.faddr 3 (.t 3))),
  (rO 23 (.load none (.t 22))),
  (rO 24 (.toInt .u64 (.t 23))),
  (rO 25 (.bslice [(.i .u64 0)] 2 [(0, 1, (.t 21)), (1, 1, (.t 24))])),
  ⟨(some 26), none, (.call 50 [(.t 25)])⟩,
  (rO 8 (.mv (.t 26)))])
  (.live [4, 3, 8, 6] (.seq (.draw c22d0 [])
  (.ret))))))))),
 []⟩
def c23l0 : ICode :=
 .seq (.region [(rO 22 (.bin .int false .lss (.t 21) (.t 20)))])
  (.live [6, 1, 7, 19, 4, 20, 21, 22] (.seq (.cond (.t 22) (.skip)
  (.exit 0))
  (.live [6, 1, 7, 19, 4, 20, 21] (.seq (.block 1 (.seq (.region [(rO 23 (.iaddr none 65 (.t 19) (.t 21))),
  (rO 24 (.load (some 65) (.t 23))),
  (rO 9 (.fresh [(.i .i64 0), (.i .u8 0), (.i .u8 0), (.i .u8 0), (.i .u8 0), (.i .u8 0), (.i .u8 0), (.i .u8 0), (.i .u8 0), (.i .u8 0), (.i .u8 0), (.i .u8 0), (.i .u8 0), (.i .u8 0), (.i .u8 0), (.i .u8 0), (.i .u8 0), (.i .u8 0), (.i .u8 0), (.i .u8 0), (.i .u8 0), (.i .u8 0), (.i .u8 0), (.i .u8 0), (.i .u8 0), (.i .u8 0), (.i .u8 0), (.i .u8 0), (.i .u8 0), (.i .u8 0), (.i .u8 0), (.i .u8 0), (.i .u8 0), (.i .u8 0), (.i .u8 0), (.i .u8 0), (.i .u8 0), (.i .u8 0), (.i .u8 0), (.i .u8 0), (.i .u8 0), (.i .u8 0), (.i .u8 0), (.i .u8 0), (.i .u8 0), (.i .u8 0), (.i .u8 0), (.i .u8 0), (.i .u8 0), (.i .u8 0), (.i .u8 0), (.i .u8 0), (.i .u8 0), (.i .u8 0), (.i .u8 0), (.i .u8 0), (.i .u8 0), (.i .u8 0), (.i .u8 0), (.i .u8 0), (.i .u8 0), (.i .u8 0), (.i .u8 0), (.i .u8 0), (.i .u8 0)])),
  ⟨none, none, (.op (.store 65 (.t 9) (.t 24)))⟩])
  (.live [6, 1, 7, 19, 4, 20, 21, 9] (.seq (.region [(rO 25 (.mv (.t 7))),
  (rO 26 (.bin .int true .eql (.t 25) (.c (.i .i64 0)))),
  (rO 27 (.mv (.t 26))),
  ⟨(some 28), some (27, true), (.op (.faddr 0 (.t 9)))⟩,
  ⟨(some 29), some (27, true), (.op (.load none (.t 28)))⟩,
  ⟨(some 30), some (27, true), (.op (.mv (.t 1)))⟩,
  ⟨(some 31), some (27, true), (.op (.bin .int false .eql (.t 29) (.t 30)))⟩,
  (rO 32 (.pick (.t 27) (.t 31) (.c (.b false))))])
  (.live [6, 1, 7, 19, 4, 20, 21, 9, 32] (.cond (.t 32) (.region [(rO 33 (.faddr 1 (.t 9))),
  (rO 34 (.load (some 64) (.t 33))),
  ⟨none, none, (.op (.store 64 (.t 6) (.t 34)))⟩])
  (.skip)))))))
  (.live [6, 1, 7, 19, 4, 20, 21] (.region [(rO 35 (.bin .int true .add (.t 21) (.c (.i .i64 1)))),
  (rO 21 (.mv (.t 35)))]))))))
def c23 : IFunc := ⟨2, [.cell 4 (some 64), .tmp 5],
 .seq (.region [(rO 4 (.fresh [(.i .u8 0), (.i .u8 0), (.i .u8 0), (.i .u8 0), (.i .u8 0), (.i .u8 0), (.i .u8 0), (.i .u8 0), (.i .u8 0), (.i .u8 0), (.i .u8 0), (.i .u8 0), (.i .u8 0), (.i .u8 0), (.i .u8 0), (.i .u8 0), (.i .u8 0), (.i .u8 0), (.i .u8 0), (.i .u8 0), (.i .u8 0), (.i .u8 0), (.i .u8 0), (.i .u8 0), (.i .u8 0), (.i .u8 0), (.i .u8 0), (.i .u8 0), (.i .u8 0), (.i .u8 0), (.i .u8 0), (.i .u8 0), (.i .u8 0), (.i .u8 0), (.i .u8 0), (.i .u8 0), (.i .u8 0), (.i .u8 0), (.i .u8 0), (.i .u8 0), (.i .u8 0), (.i .u8 0), (.i .u8 0), (.i .u8 0), (.i .u8 0), (.i .u8 0), (.i .u8 0), (.i .u8 0), (.i .u8 0), (.i .u8 0), (.i .u8 0), (.i .u8 0), (.i .u8 0), (.i .u8 0), (.i .u8 0), (.i .u8 0), (.i .u8 0), (.i .u8 0), (.i .u8 0), (.i .u8 0), (.i .u8 0), (.i .u8 0), (.i .u8 0), (.i .u8 0)])),
  (rO 5 (.mv (.c (.i .i64 0))))])
  (.live [1, 4, 0] (.seq (.region [(rO 11 (.mv (.t 0))),
  (rO 12 (.mv (.t 1))),
  ⟨(some 13), none, (.call 51 [(.t 11), (.t 12)])⟩,
  (rO 10 (.mv (.t 13))),
  (rO 14 (.ext (.t 10) 0)),
  (rO 15 (.ext (.t 10) 1)),
  (rO 6 (.fresh [(.i .u8 0), (.i .u8 0), (.i .u8 0), (.i .u8 0), (.i .u8 0), (.i .u8 0), (.i .u8 0), (.i .u8 0), (.i .u8 0), (.i .u8 0), (.i .u8 0), (.i .u8 0), (.i .u8 0), (.i .u8 0), (.i .u8 0), (.i .u8 0), (.i .u8 0), (.i .u8 0), (.i .u8 0), (.i .u8 0), (.i .u8 0), (.i .u8 0), (.i .u8 0), (.i .u8 0), (.i .u8 0), (.i .u8 0), (.i .u8 0), (.i .u8 0), (.i .u8 0), (.i .u8 0), (.i .u8 0), (.i .u8 0), (.i .u8 0), (.i .u8 0), (.i .u8 0), (.i .u8 0), (.i .u8 0), (.i .u8 0), (.i .u8 0), (.i .u8 0), (.i .u8 0), (.i .u8 0), (.i .u8 0), (.i .u8 0), (.i .u8 0), (.i .u8 0), (.i .u8 0), (.i .u8 0), (.i .u8 0), (.i .u8 0), (.i .u8 0), (.i .u8 0), (.i .u8 0), (.i .u8 0), (.i .u8 0), (.i .u8 0), (.i .u8 0), (.i .u8 0), (.i .u8 0), (.i .u8 0), (.i .u8 0), (.i .u8 0), (.i .u8 0), (.i .u8 0)])),
  ⟨none, none, (.op (.store 64 (.t 6) (.t 14)))⟩,
  (rO 7 (.mv (.t 15)))])
  (.live [6, 1, 7, 4, 0] (.seq (.seq (.region [(rO 16 (.mv (.t 0))),
  (rO 17 (.nilck (.t 16))),
  (rO 18 (.faddr 1 (.t 17))),
  (rO 19 (.load none (.t 18))),
  (rO 20 (.len .slice (.t 19))),
  (rO 21 (.mv (.c (.i .i64 0))))])
  (.live [6, 1, 7, 19, 4, 20, 21] (.block 0 (.loop [6, 1, 7, 19, 4, 20, 21] c23l0))))
  (.live [4, 7, 6] (.seq (.region [(rO 36 (.load (some 64) (.t 6))),
  (rO 37 (.mv (.t 7))),
  ⟨none, none, (.op (.store 64 (.t 4) (.t 36)))⟩,
  (rO 5 (.mv (.t 37)))])
  (.ret))))))),
 []⟩
def c24l0 : ICode :=
 .seq (.region [(rO 21 (.bin .int false .lss (.t 20) (.t 19)))])
  (.live [18, 2, 0, 19, 20, 5, 21] (.seq (.cond (.t 21) (.skip)
  (.exit 0))
  (.live [18, 2, 0, 19, 20, 5] (.seq (.block 1 (.seq (.region [(rO 22 (.iaddr none 64 (.t 18) (.t 20))),
  (rO 23 (.load (some 64) (.t 22))),
  (rO 7 (.fresh [(.i .u8 0), (.i .u8 0), (.i .u8 0), (.i .u8 0), (.i .u8 0), (.i .u8 0), (.i .u8 0), (.i .u8 0), (.i .u8 0), (.i .u8 0), (.i .u8 0), (.i .u8 0), (.i .u8 0), (.i .u8 0), (.i .u8 0), (.i .u8 0), (.i .u8 0), (.i .u8 0), (.i .u8 0), (.i .u8 0), (.i .u8 0), (.i .u8 0), (.i .u8 0), (.i .u8 0), (.i .u8 0), (.i .u8 0), (.i .u8 0), (.i .u8 0), (.i .u8 0), (.i .u8 0), (.i .u8 0), (.i .u8 0), (.i .u8 0), (.i .u8 0), (.i .u8 0), (.i .u8 0), (.i .u8 0), (.i .u8 0), (.i .u8 0), (.i .u8 0), (.i .u8 0), (.i .u8 0), (.i .u8 0), (.i .u8 0), (.i .u8 0), (.i .u8 0), (.i .u8 0), (.i .u8 0), (.i .u8 0), (.i .u8 0), (.i .u8 0), (.i .u8 0), (.i .u8 0), (.i .u8 0), (.i .u8 0), (.i .u8 0), (.i .u8 0), (.i .u8 0), (.i .u8 0), (.i .u8 0), (.i .u8 0), (.i .u8 0), (.i .u8 0), (.i .u8 0)])),
  ⟨none, none, (.op (.store 64 (.t 7) (.t 23)))⟩])
  (.live [18, 2, 0, 19, 20, 7, 5] (.region [(rO 24 (.mv (.t 5))),
  (rO 25 (.sla 64 1 (.t 7) none none none)),
  (rO 26 (.app 1 1 (.t 24) (.t 25))),
  (rO 5 (.mv (.t 26)))]))))
  (.live [18, 2, 0, 19, 5, 20] (.region [(rO 27 (.bin .int true .add (.t 20) (.c (.i .i64 1)))),
  (rO 20 (.mv (.t 27)))]))))))
def c24d1 : List Stage :=
 [⟨[(⟨(some 32), none, (.op (.mv (.t 5)))⟩, 0), (⟨(some 33), none, (.op (.iaddr none 1 (.t 32) (.c (.i .i64 0))))⟩, 0), (⟨(some 34), none, (.op (.load none (.t 33)))⟩, 0), (⟨(some 35), none, (.op (.toInt .i64 (.t 34)))⟩, 0), (⟨(some 36), none, (.op (.bin .int true .mul (.c (.i .i64 256)) (.t 35)))⟩, 0), (⟨(some 37), none, (.op (.mv (.t 5)))⟩, 0), (⟨(some 38), none, (.op (.iaddr none 1 (.t 37) (.c (.i .i64 1))))⟩, 0), (⟨(some 39), none, (.op (.load none (.t 38)))⟩, 0), (⟨(some 40), none, (.op (.toInt .i64 (.t 39)))⟩, 0), (⟨(some 41), none, (.op (.bin .int false .add (.t 36) (.t 40)))⟩, 0), (⟨(some 8), none, (.op (.mv (.t 41)))⟩, 0)], none, none⟩]
def c24d1w : List (ROp × Bool) :=
 [((rO 32 (.mv (.t 5))), false), ((rO 33 (.iaddr none 1 (.t 32) (.c (.i .i64 0)))), false), ((rO 34 (.load none (.t 33))), false), ((rO 35 (.toInt .i64 (.t 34))), false), ((rO 36 (.bin .int true .mul (.c (.i .i64 256)) (.t 35))), false), ((rO 37 (.mv (.t 5))), false), ((rO 38 (.iaddr none 1 (.t 37) (.c (.i .i64 1)))), false), ((rO 39 (.load none (.t 38))), false), ((rO 40 (.toInt .i64 (.t 39))), false), ((rO 41 (.bin .int false .add (.t 36) (.t 40))), false), ((rO 8 (.mv (.t 41))), false)]
theorem c24d1_w {P : Program} {O : Orc} {S0 : Mem} {rd : Bool} {e : Env} {S : Mem} {d : List Nat} {Q : Kont} : W P O S0 rd (.draw c24d1 []) e S d Q = wFl O c24d1w e S (normK Q d) := W_draw' (by kernel_rfl) (by kernel_rfl)
attribute [go_sem] c24d1_w c24d1w
def c24l2 : ICode :=
 .seq (.region [(rO 64 (.bin .int false .lss (.t 63) (.t 62)))])
  (.live [10, 61, 2, 9, 0, 5, 62, 63, 64] (.seq (.cond (.t 64) (.skip)
  (.exit 2))
  (.live [10, 61, 2, 9, 0, 5, 62, 63] (.seq (.block 3 (.seq (.region [(rO 65 (.iaddr none 1 (.t 61) (.t 63))),
  (rO 66 (.load none (.t 65))),
  (rO 12 (.mv (.t 66)))])
  (.live [10, 61, 2, 9, 0, 5, 62, 63, 12] (.region [(rO 67 (.faddr 0 (.t 10))),
  (rO 68 (.load none (.t 67))),
  (rO 69 (.bin .int true .mul (.t 68) (.c (.i .u64 256)))),
  (rO 70 (.mv (.t 12))),
  (rO 71 (.toInt .u64 (.t 70))),
  (rO 72 (.bin .int false .add (.t 69) (.t 71))),
  (rO 73 (.faddr 0 (.t 10))),
  ⟨none, none, (.op (.store 1 (.t 73) (.t 72)))⟩]))))
  (.live [10, 61, 2, 9, 0, 5, 62, 63] (.region [(rO 74 (.bin .int true .add (.t 63) (.c (.i .i64 1)))),
  (rO 63 (.mv (.t 74)))]))))))
def c24l3 : ICode :=
 .seq (.region [(rO 79 (.bin .int false .lss (.t 78) (.t 77)))])
  (.live [10, 76, 2, 9, 0, 77, 78, 79] (.seq (.cond (.t 79) (.skip)
  (.exit 4))
  (.live [10, 76, 2, 9, 0, 77, 78] (.seq (.block 5 (.seq (.region [(rO 80 (.iaddr none 1 (.t 76) (.t 78))),
  (rO 81 (.load none (.t 80))),
  (rO 14 (.mv (.t 81)))])
  (.live [10, 76, 2, 9, 0, 77, 78, 14] (.region [(rO 82 (.faddr 1 (.t 10))),
  (rO 83 (.load none (.t 82))),
  (rO 84 (.bin .int true .mul (.t 83) (.c (.i .u32 256)))),
  (rO 85 (.mv (.t 14))),
  (rO 86 (.toInt .u32 (.t 85))),
  (rO 87 (.bin .int false .add (.t 84) (.t 86))),
  (rO 88 (.faddr 1 (.t 10))),
  ⟨none, none, (.op (.store 1 (.t 88) (.t 87)))⟩]))))
  (.live [10, 76, 2, 9, 0, 77, 78] (.region [(rO 89 (.bin .int true .add (.t 78) (.c (.i .i64 1)))),
  (rO 78 (.mv (.t 89)))]))))))
def c24 : IFunc := ⟨1, [.cell 2 (some 3), .tmp 3, .tmp 4],
 .seq (.region [(rO 2 (.fresh [(.i .u64 0), (.i .u32 0), .sn])),
  (rO 3 (.mv (.c (.i .i64 0)))),
  (rO 4 (.mv (.c (.b false))))])
  (.live [2, 0] (.seq (.region [(rO 17 (.bslice [(.i .u8 0)] 0 [])),
  (rO 5 (.mv (.t 17)))])
  (.live [2, 0, 5] (.seq (.seq (.region [(rO 18 (.mv (.t 0))),
  (rO 19 (.len .slice (.t 18))),
  (rO 20 (.mv (.c (.i .i64 0))))])
  (.live [18, 2, 0, 19, 20, 5] (.block 0 (.loop [18, 2, 0, 19, 20, 5] c24l0))))
  (.live [2, 0, 5] (.seq (.seq (.region [(rO 28 (.mv (.t 5))),
  (rO 29 (.len .slice (.t 28))),
  (rO 30 (.bin .int true .lss (.t 29) (.c (.i .i64 64))))])
  (.live [2, 0, 5, 30] (.cond (.t 30) (.seq (.region [(rO 31 (.build [(.i .u64 0), (.i .u32 0), .sn] [])),
  ⟨none, none, (.op (.store 3 (.t 2) (.t 31)))⟩,
  (rO 3 (.mv (.c (.i .i64 0)))),
  (rO 4 (.mv (.c (.b false))))])
  (.ret))
  (.skip))))
  (.live [2, 0, 5] (.seq (.draw c24d1 [])
  (.live [2, 0, 5, 8] (.seq (.region [(rO 42 (.mv (.t 8))),
  ⟨(some 43), none, (.call 52 [(.t 42)])⟩,
  (rO 9 (.mv (.t 43)))])
  (.live [2, 9, 0, 5, 8] (.seq (.seq (.region [(rO 44 (.mv (.t 9))),
  (rO 45 (.bin .int true .eql (.t 44) (.c (.i .i64 0)))),
  (rO 46 (.mv (.t 45))),
  ⟨(some 47), some (46, false), (.op (.mv (.t 9)))⟩,
  ⟨(some 48), some (46, false), (.op (.mv (.t 0)))⟩,
  ⟨(some 49), some (46, false), (.op (.len .slice (.t 48)))⟩,
  ⟨(some 50), some (46, false), (.op (.bin .int false .gtr (.t 47) (.t 49)))⟩,
  (rO 51 (.pick (.t 46) (.c (.b true)) (.t 50)))])
  (.live [2, 9, 0, 5, 8, 51] (.cond (.t 51) (.seq (.region [(rO 52 (.build [(.i .u64 0), (.i .u32 0), .sn] [])),
  ⟨none, none, (.op (.store 3 (.t 2) (.t 52)))⟩,
  (rO 3 (.mv (.c (.i .i64 0)))),
  (rO 4 (.mv (.c (.b false))))])
  (.ret))
  (.skip))))
  (.live [2, 9, 0, 5, 8] (.seq (.region [(rO 53 (.bslice [(.i .u8 0)] 0 [])),
  (rO 54 (.mv (.t 5))),
  (rO 55 (.mv (.t 8))),
  (rO 56 (.bin .int true .add (.c (.i .i64 14)) (.t 55))),
  (rO 57 (.slice 1 (.t 54) (some (.c (.i .i64 14))) (some (.t 56)) none)),
  (rO 58 (.app 1 1 (.t 53) (.t 57))),
  (rO 59 (.build [(.i .u64 0), (.i .u32 0), .sn] [(2, 1, (.t 58))])),
  (rO 10 (.fresh [(.i .u64 0), (.i .u32 0), .sn])),
  ⟨none, none, (.op (.store 3 (.t 10) (.t 59)))⟩])
  (.live [10, 2, 9, 0, 5] (.seq (.seq (.region [(rO 60 (.mv (.t 5))),
  (rO 61 (.slice 1 (.t 60) (some (.c (.i .i64 2))) (some (.c (.i .i64 10))) none)),
  (rO 62 (.len .slice (.t 61))),
  (rO 63 (.mv (.c (.i .i64 0))))])
  (.live [10, 61, 2, 9, 0, 5, 62, 63] (.block 2 (.loop [10, 61, 2, 9, 0, 5, 62, 63] c24l2))))
  (.live [10, 2, 9, 0, 5] (.seq (.seq (.region [(rO 75 (.mv (.t 5))),
  (rO 76 (.slice 1 (.t 75) (some (.c (.i .i64 10))) (some (.c (.i .i64 14))) none)),
  (rO 77 (.len .slice (.t 76))),
  (rO 78 (.mv (.c (.i .i64 0))))])
  (.live [10, 76, 2, 9, 0, 77, 78] (.block 4 (.loop [10, 76, 2, 9, 0, 77, 78] c24l3))))
  (.live [2, 9, 10, 0] (.seq (.region [(rO 91 (.load (some 3) (.t 10))),
  ⟨(some 92), none, (.call 31 [(.t 91)])⟩,
  (rO 90 (.mv (.t 92))),
  (rO 93 (.ext (.t 90) 0)),
  (rO 94 (.ext (.t 90) 1)),
  (rO 15 (.mv (.t 93))),
  (rO 16 (.mv (.t 94)))])
  (.live [2, 9, 10, 0, 15, 16] (.seq (.seq (.region [(rO 95 (.mv (.t 16))),
  (rO 96 (.bin .int true .neq (.t 95) (.c (.i .i64 0)))),
  (rO 97 (.mv (.t 96))),
  ⟨(some 98), some (97, false), (.op (.mv (.t 15)))⟩,
  ⟨(some 99), some (97, false), (.op (.mv (.t 0)))⟩,
  ⟨(some 100), some (97, false), (.op (.mv (.t 9)))⟩,
  ⟨(some 101), some (97, false), (.op (.slice 64 (.t 99) none (some (.t 100)) none))⟩,
  ⟨(some 102), some (97, false), (.call 53 [(.t 98), (.t 101)])⟩,
  ⟨(some 103), some (97, false), (.op (.un .not (.t 102)))⟩,
  (rO 104 (.pick (.t 97) (.c (.b true)) (.t 103)))])
  (.live [2, 9, 10, 104] (.cond (.t 104) (.seq (.region [(rO 105 (.build [(.i .u64 0), (.i .u32 0), .sn] [])),
  ⟨none, none, (.op (.store 3 (.t 2) (.t 105)))⟩,
  (rO 3 (.mv (.c (.i .i64 0)))),
  (rO 4 (.mv (.c (.b false))))])
  (.ret))
  (.skip))))
  (.live [2, 9, 10] (.seq (.region [(rO 106 (.load (some 3) (.t 10))),
  (rO 107 (.mv (.t 9))),
  ⟨none, none, (.op (.store 3 (.t 2) (.t 106)))⟩,
  (rO 3 (.mv (.t 107))),
  (rO 4 (.mv (.c (.b true))))])
  (.ret))))))))))))))))))))))))),
 []⟩
def c25 : IFunc := ⟨2, [.tmp 4],
 .seq (.region [(rO 2 (.box (.t 0))),
  (rO 3 (.box (.t 1))),
  (rO 4 (.mv (.c (.b false))))])
  (.live [3, 2] (.seq (.region [(rO 5 (.faddr 0 (.t 2))),
  (rO 6 (.load none (.t 5))),
  (rO 7 (.faddr 0 (.t 3))),
  (rO 8 (.load none (.t 7))),
  (rO 9 (.bin .int false .eql (.t 6) (.t 8))),
  (rO 10 (.mv (.t 9))),
  ⟨(some 11), some (10, true), (.op (.faddr 1 (.t 2)))⟩,
  ⟨(some 12), some (10, true), (.op (.load none (.t 11)))⟩,
  ⟨(some 13), some (10, true), (.op (.faddr 1 (.t 3)))⟩,
  ⟨(some 14), some (10, true), (.op (.load none (.t 13)))⟩,
  ⟨(some 15), some (10, true), (.op (.bin .int false .eql (.t 12) (.t 14)))⟩,
  (rO 16 (.pick (.t 10) (.t 15) (.c (.b false)))),
  (rO 17 (.mv (.t 16))),
  ⟨(some 18), some (17, true), (.op (.faddr 2 (.t 2)))⟩,
  ⟨(some 19), some (17, true), (.op (.load none (.t 18)))⟩,
  ⟨(some 20), some (17, true), (.op (.toStr (.t 19)))⟩,
  ⟨(some 21), some (17, true), (.op (.faddr 2 (.t 3)))⟩,
  ⟨(some 22), some (17, true), (.op (.load none (.t 21)))⟩,
  ⟨(some 23), some (17, true), (.op (.toStr (.t 22)))⟩,
  ⟨(some 24), some (17, true), (.op (.bin .str false .eql (.t 20) (.t 23)))⟩,
  (rO 25 (.pick (.t 17) (.t 24) (.c (.b false)))),
  (rO 4 (.mv (.t 25)))])
  (.ret))),
 []⟩
def c26 : IFunc := ⟨1, [.cell 2 (some 6)],
 .seq (.region [(rO 2 (.fresh [(.i .u64 0), (.i .u32 0), (.i .u64 0), (.i .i64 0), (.i .u64 0), .sn]))])
  (.live [2, 0] (.seq (.region [(rO 3 (.mv (.t 0))),
  (rO 4 (.build [(.i .u64 0), .sn] [(0, 1, (.c (.i .u64 1)))])),
  (rO 5 (.build [(.i .u64 0), (.i .u32 0), (.i .u64 0), (.i .i64 0), (.i .u64 0), .sn] [(0, 1, (.t 3)), (1, 1, (.c (.i .u32 1))), (2, 1, (.c (.i .u64 1))), (4, 2, (.t 4))])),
  ⟨none, none, (.op (.store 6 (.t 2) (.t 5)))⟩])
  (.ret))),
 []⟩
def c27d0 : List Stage :=
 [⟨[(⟨(some 22), none, (.op (.faddr 0 (.t 3)))⟩, 4), (⟨(some 23), none, (.op (.load none (.t 22)))⟩, 4), (⟨(some 24), none, (.op (.faddr 1 (.t 3)))⟩, 4), (⟨(some 25), none, (.op (.load none (.t 24)))⟩, 4), (⟨(some 26), none, (.op (.faddr 2 (.t 3)))⟩, 0), (⟨(some 27), none, (.op (.load none (.t 26)))⟩, 0), (⟨(some 28), none, (.op (.faddr 3 (.t 3)))⟩, 0), (⟨(some 29), none, (.op (.load none (.t 28)))⟩, 0), (⟨(some 30), none, (.op (.toInt .u64 (.t 29)))⟩, 0), (⟨(some 33), none, (.op (.mv (.t 6)))⟩, 2)], none, some ⟨(some 31), none, (.op (.bslice [(.i .u64 0)] 2 [(0, 1, (.t 27)), (1, 1, (.t 30))]))⟩⟩,
  ⟨[], none, some ⟨(some 32), none, (.call 56 [(.t 31)])⟩⟩,
  ⟨[], none, some ⟨(some 34), none, (.op (.bslice [.sn] 2 [(0, 1, (.t 32)), (1, 1, (.t 33))]))⟩⟩,
  ⟨[], none, some ⟨(some 35), none, (.call 55 [(.t 34)])⟩⟩,
  ⟨[(⟨(some 36), none, (.op (.build [(.i .u64 0), (.i .u32 0), .sn] [(0, 1, (.t 23)), (1, 1, (.t 25)), (2, 1, (.t 35))]))⟩, 4)], none, some ⟨none, none, (.op (.store 3 (.t 4) (.t 36)))⟩⟩,
  ⟨[(⟨(some 5), none, (.op (.mv (.c (.i .i64 0))))⟩, 5)], none, none⟩]
def c27d0w : List (ROp × Bool) :=
 [((rO 22 (.faddr 0 (.t 3))), false), ((rO 23 (.load none (.t 22))), false), ((rO 24 (.faddr 1 (.t 3))), false), ((rO 25 (.load none (.t 24))), false), ((rO 26 (.faddr 2 (.t 3))), false), ((rO 27 (.load none (.t 26))), false), ((rO 28 (.faddr 3 (.t 3))), false), ((rO 29 (.load none (.t 28))), false), ((rO 30 (.toInt .u64 (.t 29))), false), ((rO 33 (.mv (.t 6))), false), ((rO 31 (.bslice [(.i .u64 0)] 2 [(0, 1, (.t 27)), (1, 1, (.t 30))])), true), (⟨(some 32), none, (.call 56 [(.t 31)])⟩, true), ((rO 34 (.bslice [.sn] 2 [(0, 1, (.t 32)), (1, 1, (.t 33))])), true), (⟨(some 35), none, (.call 55 [(.t 34)])⟩, true), ((rO 36 (.build [(.i .u64 0), (.i .u32 0), .sn] [(0, 1, (.t 23)), (1, 1, (.t 25)), (2, 1, (.t 35))])), false), (⟨none, none, (.op (.store 3 (.t 4) (.t 36)))⟩, false), ((rO 5 (.mv (.c (.i .i64 0)))), false)]
theorem c27d0_w {P : Program} {O : Orc} {S0 : Mem} {rd : Bool} {e : Env} {S : Mem} {d : List Nat} {Q : Kont} : W P O S0 rd (.draw c27d0 []) e S d Q = wFl O c27d0w e S (normK Q d) := W_draw' (by kernel_rfl) (by kernel_rfl)
attribute [go_sem] c27d0_w c27d0w
def c27 : IFunc := ⟨2, [.cell 4 (some 3), .tmp 5],
 .seq (.region [(rO 3 (.box (.t 1))),
  (rO 4 (.fresh [(.i .u64 0), (.i .u32 0), .sn])),
  (rO 5 (.mv (.c (.i .i64 0))))])
  (.live [4, 3, 0] (.seq (.seq (.region [(rO 8 (.mv (.t 0))),
  (rO 9 (.load (some 6) (.t 3))),
  ⟨(some 10), none, (.call 20 [(.t 8), (.t 9)])⟩,
  (rO 11 (.un .not (.t 10)))])
  (.live [4, 3, 11] (.cond (.t 11) (.seq (.region [(rO 12 (.build [(.i .u64 0), (.i .u32 0), .sn] [])),
  ⟨none, none, (.op (.store 3 (.t 4) (.t 12)))⟩,
  (rO 5 (.mv (.c (.i .i64 141))))])
  (.ret))
  (.skip))))
  (.live [4, 3] (.seq (.region [(rO 14 (.faddr 4 (.t 3))),
  (rO 15 (.load (some 2) (.t 14))),
  ⟨(some 16), none, (.call 54 [(.t 15)])⟩,
  (rO 13 (.mv (.t 16))),
  (rO 17 (.ext (.t 13) 0)),
  (rO 18 (.ext (.t 13) 1)),
  (rO 6 (.mv (.t 17))),
  (rO 7 (.mv (.t 18)))])
  (.live [4, 3, 6, 7] (.seq (.seq (.region [(rO 19 (.mv (.t 7))),
  (rO 20 (.bin .int true .neq (.t 19) (.c (.i .i64 0))))])
  (.live [4, 3, 6, 20] (.cond (.t 20) (.seq (.region [(rO 21 (.build [(.i .u64 0), (.i .u32 0), .sn] [])),
  ⟨none, none, (.op (.store 3 (.t 4) (.t 21)))⟩,
  (rO 5 (.mv (.c (.i .i64 141))))])
  (.ret))
  (.skip))))
  (.live [4, 3, 6] (.seq (.draw c27d0 [])
  (.ret))))))))),
 []⟩
def c28d0 : List Stage :=
 [⟨[(⟨(some 19), none, (.op (.faddr 2 (.t 1)))⟩, 0), (⟨(some 20), none, (.op (.load none (.t 19)))⟩, 0), (⟨(some 21), none, (.op (.len .slice (.t 20)))⟩, 0), (⟨(some 22), none, (.op (.toInt .u64 (.t 21)))⟩, 0), (⟨(some 24), none, (.op (.faddr 0 (.t 1)))⟩, 1), (⟨(some 25), none, (.op (.load none (.t 24)))⟩, 1), (⟨(some 27), none, (.op (.faddr 1 (.t 1)))⟩, 2), (⟨(some 28), none, (.op (.load none (.t 27)))⟩, 2), (⟨(some 29), none, (.op (.toInt .u64 (.t 28)))⟩, 2), (⟨(some 31), none, (.op (.faddr 2 (.t 1)))⟩, 3), (⟨(some 32), none, (.op (.load none (.t 31)))⟩, 3)], none, some ⟨(some 23), none, (.call 59 [(.t 22), (.c (.i .i64 2))])⟩⟩,
  ⟨[], none, some ⟨(some 26), none, (.call 59 [(.t 25), (.c (.i .i64 8))])⟩⟩,
  ⟨[], none, some ⟨(some 30), none, (.call 59 [(.t 29), (.c (.i .i64 4))])⟩⟩,
  ⟨[], none, some ⟨(some 33), none, (.op (.bslice [.sn] 4 [(0, 1, (.t 23)), (1, 1, (.t 26)), (2, 1, (.t 30)), (3, 1, (.t 32))]))⟩⟩,
  ⟨[], none, some ⟨(some 34), none, (.call 55 [(.t 33)])⟩⟩,
  ⟨[], none, some ⟨(some 35), none, (.call 58 [(.t 34)])⟩⟩,
  ⟨[(⟨(some 5), none, (.op (.mv (.t 35)))⟩, 6)], none, none⟩]
def c28d0w : List (ROp × Bool) :=
 [((rO 19 (.faddr 2 (.t 1))), false), ((rO 20 (.load none (.t 19))), false), ((rO 21 (.len .slice (.t 20))), false), ((rO 22 (.toInt .u64 (.t 21))), false), ((rO 24 (.faddr 0 (.t 1))), false), ((rO 25 (.load none (.t 24))), false), ((rO 27 (.faddr 1 (.t 1))), false), ((rO 28 (.load none (.t 27))), false), ((rO 29 (.toInt .u64 (.t 28))), false), ((rO 31 (.faddr 2 (.t 1))), false), ((rO 32 (.load none (.t 31))), false), (⟨(some 23), none, (.call 59 [(.t 22), (.c (.i .i64 2))])⟩, true), (⟨(some 26), none, (.call 59 [(.t 25), (.c (.i .i64 8))])⟩, true), (⟨(some 30), none, (.call 59 [(.t 29), (.c (.i .i64 4))])⟩, true), ((rO 33 (.bslice [.sn] 4 [(0, 1, (.t 23)), (1, 1, (.t 26)), (2, 1, (.t 30)), (3, 1, (.t 32))])), false), (⟨(some 34), none, (.call 55 [(.t 33)])⟩, false), (⟨(some 35), none, (.call 58 [(.t 34)])⟩, false), ((rO 5 (.mv (.t 35))), false)]
theorem c28d0_w {P : Program} {O : Orc} {S0 : Mem} {rd : Bool} {e : Env} {S : Mem} {d : List Nat} {Q : Kont} : W P O S0 rd (.draw c28d0 []) e S d Q = wFl O c28d0w e S (normK Q d) := W_draw' (by kernel_rfl) (by kernel_rfl)
attribute [go_sem] c28d0_w c28d0w
def c28d1 : List Stage :=
 [⟨[(⟨(some 43), none, (.op (.mv (.t 6)))⟩, 0), (⟨(some 44), none, (.op (.mv (.t 7)))⟩, 0), (⟨(some 45), none, (.op (.iaddr none 64 (.t 43) (.t 44)))⟩, 0), (⟨(some 46), none, (.op (.sla 64 1 (.t 45) none none none))⟩, 0), (⟨(some 47), none, (.op (.mv (.t 5)))⟩, 0), (⟨(some 48), none, (.op (.mv (.t 7)))⟩, 0), (⟨(some 49), none, (.op (.bin .int true .mul (.t 48) (.c (.i .i64 64))))⟩, 0), (⟨(some 50), none, (.op (.slice 1 (.t 47) (some (.t 49)) none none))⟩, 0)], none, some ⟨(some 51), none, (.op (.copy 1 (.t 46) (.t 50)))⟩⟩,
  ⟨[], none, none⟩]
def c28d1w : List (ROp × Bool) :=
 [((rO 43 (.mv (.t 6))), false), ((rO 44 (.mv (.t 7))), false), ((rO 45 (.iaddr none 64 (.t 43) (.t 44))), false), ((rO 46 (.sla 64 1 (.t 45) none none none)), false), ((rO 47 (.mv (.t 5))), false), ((rO 48 (.mv (.t 7))), false), ((rO 49 (.bin .int true .mul (.t 48) (.c (.i .i64 64)))), false), ((rO 50 (.slice 1 (.t 47) (some (.t 49)) none none)), false), ((rO 51 (.copy 1 (.t 46) (.t 50))), false)]
theorem c28d1_w {P : Program} {O : Orc} {S0 : Mem} {rd : Bool} {e : Env} {S : Mem} {d : List Nat} {Q : Kont} : W P O S0 rd (.draw c28d1 []) e S d Q = wFl O c28d1w e S (normK Q d) := W_draw' (by kernel_rfl) (by kernel_rfl)
attribute [go_sem] c28d1_w c28d1w
def c28l2 : ICode :=
 .seq (.region [(rO 41 (.bin .int false .lss (.t 40) (.t 39)))])
  (.live [6, 5, 39, 40, 41] (.seq (.cond (.t 41) (.skip)
  (.exit 0))
  (.live [6, 5, 39, 40] (.seq (.block 1 (.seq (.region [(rO 42 (.mv (.t 40))),
  (rO 7 (.mv (.t 42)))])
  (.live [6, 5, 39, 40, 7] (.draw c28d1 []))))
  (.live [6, 5, 39, 40] (.region [(rO 52 (.bin .int true .add (.t 40) (.c (.i .i64 1)))),
  (rO 40 (.mv (.t 52)))]))))))
def c28 : IFunc := ⟨1, [.tmp 2, .tmp 3],
 .seq (.region [(rO 1 (.box (.t 0))),
  (rO 2 (.mv (.c .sn))),
  (rO 3 (.mv (.c (.i .i64 0))))])
  (.live [1] (.seq (.region [(rO 8 (.faddr 2 (.t 1))),
  (rO 9 (.load none (.t 8))),
  (rO 10 (.len .slice (.t 9))),
  ⟨(some 11), none, (.call 57 [(.t 10)])⟩,
  (rO 4 (.mv (.t 11)))])
  (.live [4, 1] (.seq (.seq (.region [(rO 12 (.mv (.t 4))),
  (rO 13 (.bin .int true .eql (.t 12) (.c (.i .i64 0)))),
  (rO 14 (.mv (.t 13))),
  ⟨(some 15), some (14, false), (.op (.faddr 0 (.t 1)))⟩,
  ⟨(some 16), some (14, false), (.op (.load none (.t 15)))⟩,
  ⟨(some 17), some (14, false), (.op (.bin .int true .eql (.t 16) (.c (.i .u64 0))))⟩,
  (rO 18 (.pick (.t 14) (.c (.b true)) (.t 17)))])
  (.live [4, 1, 18] (.cond (.t 18) (.seq (.region [(rO 2 (.mv (.c .sn))),
  (rO 3 (.mv (.c (.i .i64 81))))])
  (.ret))
  (.skip))))
  (.live [4, 1] (.seq (.draw c28d0 [])
  (.live [5, 4] (.seq (.region [(rO 36 (.mv (.t 4))),
  (rO 37 (.mks [(.i .u8 0), (.i .u8 0), (.i .u8 0), (.i .u8 0), (.i .u8 0), (.i .u8 0), (.i .u8 0), (.i .u8 0), (.i .u8 0), (.i .u8 0), (.i .u8 0), (.i .u8 0), (.i .u8 0), (.i .u8 0), (.i .u8 0), (.i .u8 0), (.i .u8 0), (.i .u8 0), (.i .u8 0), (.i .u8 0), (.i .u8 0), (.i .u8 0), (.i .u8 0), (.i .u8 0), (.i .u8 0), (.i .u8 0), (.i .u8 0), (.i .u8 0), (.i .u8 0), (.i .u8 0), (.i .u8 0), (.i .u8 0), (.i .u8 0), (.i .u8 0), (.i .u8 0), (.i .u8 0), (.i .u8 0), (.i .u8 0), (.i .u8 0), (.i .u8 0), (.i .u8 0), (.i .u8 0), (.i .u8 0), (.i .u8 0), (.i .u8 0), (.i .u8 0), (.i .u8 0), (.i .u8 0), (.i .u8 0), (.i .u8 0), (.i .u8 0), (.i .u8 0), (.i .u8 0), (.i .u8 0), (.i .u8 0), (.i .u8 0), (.i .u8 0), (.i .u8 0), (.i .u8 0), (.i .u8 0), (.i .u8 0), (.i .u8 0), (.i .u8 0), (.i .u8 0)] 64 (.t 36) (.t 36))),
  (rO 6 (.mv (.t 37)))])
  (.live [6, 5] (.seq (.seq (.region [(rO 38 (.mv (.t 6))),
  (rO 39 (.len .slice (.t 38))),
  (rO 40 (.mv (.c (.i .i64 0))))])
  (.live [6, 5, 39, 40] (.block 0 (.loop [6, 5, 39, 40] c28l2))))
  (.live [6] (.seq (.region [(rO 53 (.mv (.t 6))),
  (rO 2 (.mv (.t 53))),
  (rO 3 (.mv (.c (.i .i64 0))))])
  (.ret))))))))))))),
 []⟩
def c29 : IFunc := ⟨1, [.tmp 2],
 .seq (.region [(rO 2 (.mv (.c (.i .i64 0))))])
  (.live [0] (.seq (.region [(rO 3 (.mv (.t 0))),
  (rO 4 (.bin .int true .rem (.t 3) (.c (.i .u64 2)))),
  (rO 5 (.toInt .i64 (.t 4))),
  (rO 6 (.bin .int true .mul (.t 5) (.c (.i .i64 16)))),
  (rO 2 (.mv (.t 6)))])
  (.ret))),
 []⟩
def c30 : IFunc := ⟨1, [.tmp 2],
 .seq (.region [(rO 2 (.mv (.c (.i .i64 0))))])
  (.live [0] (.seq (.region [(rO 4 (.mv (.t 0))),
  ⟨(some 5), none, (.call 35 [(.t 4)])⟩,
  (rO 3 (.mv (.t 5)))])
  (.live [3, 0] (.seq (.seq (.region [(rO 6 (.mv (.t 3))),
  (rO 7 (.bin .int true .eql (.t 6) (.c (.i .i64 0))))])
  (.live [3, 0, 7] (.cond (.t 7) (.region [(rO 8 (.mv (.t 0))),
  ⟨(some 9), none, (.call 37 [(.t 8), (.c (.f (.func 60) [] []))])⟩])
  (.skip))))
  (.live [3] (.seq (.region [(rO 10 (.mv (.t 3))),
  (rO 2 (.mv (.t 10)))])
  (.ret))))))),
 []⟩
def c31d0 : List Stage :=
 [⟨[(⟨(some 17), none, (.op (.faddr 2 (.t 1)))⟩, 0), (⟨(some 18), none, (.op (.load none (.t 17)))⟩, 0), (⟨(some 19), none, (.op (.len .slice (.t 18)))⟩, 0), (⟨(some 20), none, (.op (.toInt .u64 (.t 19)))⟩, 0), (⟨(some 22), none, (.op (.faddr 0 (.t 1)))⟩, 1), (⟨(some 23), none, (.op (.load none (.t 22)))⟩, 1), (⟨(some 26), none, (.op (.faddr 1 (.t 1)))⟩, 3), (⟨(some 27), none, (.op (.load none (.t 26)))⟩, 3), (⟨(some 28), none, (.op (.toInt .u64 (.t 27)))⟩, 3)], none, some ⟨(some 21), none, (.call 61 [(.t 20), (.c (.i .i64 2))])⟩⟩,
  ⟨[], none, some ⟨(some 24), none, (.call 61 [(.t 23), (.c (.i .i64 8))])⟩⟩,
  ⟨[], none, some ⟨(some 25), none, (.op (.app 1 1 (.t 21) (.t 24)))⟩⟩,
  ⟨[], none, some ⟨(some 29), none, (.call 61 [(.t 28), (.c (.i .i64 4))])⟩⟩,
  ⟨[], none, some ⟨(some 30), none, (.op (.app 1 1 (.t 25) (.t 29)))⟩⟩,
  ⟨[(⟨(some 4), none, (.op (.mv (.t 30)))⟩, 5)], none, none⟩]
theorem c31d0_e {P : Program} {O : Orc} {S0 : Mem} {rd : Bool} {e : Env} {S : Mem} {d : List Nat} {Q : Kont} : W P O S0 rd (.draw c31d0 []) e S d Q = drawK (evDraw O c31d0 [] e S) (normK Q d) := W_drawE (by kernel_rfl)
attribute [go_sem] c31d0_e
def c31l1 : ICode :=
 .seq (.region [(rO 40 (.bin .int false .lss (.t 39) (.t 38)))])
  (.live [37, 38, 39, 5, 40] (.seq (.cond (.t 40) (.skip)
  (.exit 0))
  (.live [37, 38, 39, 5] (.seq (.block 1 (.seq (.region [(rO 41 (.mv (.t 39))),
  (rO 42 (.iaddr none 1 (.t 37) (.t 39))),
  (rO 43 (.load none (.t 42))),
  (rO 6 (.mv (.t 41))),
  (rO 7 (.mv (.t 43)))])
  (.live [37, 38, 39, 7, 6, 5] (.seq (.seq (.region [(rO 44 (.mv (.t 6))),
  (rO 45 (.bin .int true .rem (.t 44) (.c (.i .i64 64)))),
  (rO 46 (.bin .int true .eql (.t 45) (.c (.i .i64 0))))])
  (.live [37, 38, 39, 7, 6, 5, 46] (.cond (.t 46) (.region [(rO 47 (.mv (.t 5))),
  (rO 48 (.build [(.i .u8 0), (.i .u8 0), (.i .u8 0), (.i .u8 0), (.i .u8 0), (.i .u8 0), (.i .u8 0), (.i .u8 0), (.i .u8 0), (.i .u8 0), (.i .u8 0), (.i .u8 0), (.i .u8 0), (.i .u8 0), (.i .u8 0), (.i .u8 0), (.i .u8 0), (.i .u8 0), (.i .u8 0), (.i .u8 0), (.i .u8 0), (.i .u8 0), (.i .u8 0), (.i .u8 0), (.i .u8 0), (.i .u8 0), (.i .u8 0), (.i .u8 0), (.i .u8 0), (.i .u8 0), (.i .u8 0), (.i .u8 0), (.i .u8 0), (.i .u8 0), (.i .u8 0), (.i .u8 0), (.i .u8 0), (.i .u8 0), (.i .u8 0), (.i .u8 0), (.i .u8 0), (.i .u8 0), (.i .u8 0), (.i .u8 0), (.i .u8 0), (.i .u8 0), (.i .u8 0), (.i .u8 0), (.i .u8 0), (.i .u8 0), (.i .u8 0), (.i .u8 0), (.i .u8 0), (.i .u8 0), (.i .u8 0), (.i .u8 0), (.i .u8 0), (.i .u8 0), (.i .u8 0), (.i .u8 0), (.i .u8 0), (.i .u8 0), (.i .u8 0), (.i .u8 0)] [])),
  (rO 49 (.bslice [(.i .u8 0), (.i .u8 0), (.i .u8 0), (.i .u8 0), (.i .u8 0), (.i .u8 0), (.i .u8 0), (.i .u8 0), (.i .u8 0), (.i .u8 0), (.i .u8 0), (.i .u8 0), (.i .u8 0), (.i .u8 0), (.i .u8 0), (.i .u8 0), (.i .u8 0), (.i .u8 0), (.i .u8 0), (.i .u8 0), (.i .u8 0), (.i .u8 0), (.i .u8 0), (.i .u8 0), (.i .u8 0), (.i .u8 0), (.i .u8 0), (.i .u8 0), (.i .u8 0), (.i .u8 0), (.i .u8 0), (.i .u8 0), (.i .u8 0), (.i .u8 0), (.i .u8 0), (.i .u8 0), (.i .u8 0), (.i .u8 0), (.i .u8 0), (.i .u8 0), (.i .u8 0), (.i .u8 0), (.i .u8 0), (.i .u8 0), (.i .u8 0), (.i .u8 0), (.i .u8 0), (.i .u8 0), (.i .u8 0), (.i .u8 0), (.i .u8 0), (.i .u8 0), (.i .u8 0), (.i .u8 0), (.i .u8 0), (.i .u8 0), (.i .u8 0), (.i .u8 0), (.i .u8 0), (.i .u8 0), (.i .u8 0), (.i .u8 0), (.i .u8 0), (.i .u8 0)] 1 [(0, 64, (.t 48))])),
  (rO 50 (.app 64 64 (.t 47) (.t 49))),
  (rO 5 (.mv (.t 50)))])
  (.skip))))
  (.live [37, 38, 5, 39, 7, 6] (.region [(rO 51 (.mv (.t 5))),
  (rO 52 (.mv (.t 5))),
  (rO 53 (.len .slice (.t 52))),
  (rO 54 (.bin .int true .sub (.t 53) (.c (.i .i64 1)))),
  (rO 55 (.mv (.t 6))),
  (rO 56 (.bin .int true .rem (.t 55) (.c (.i .i64 64)))),
  (rO 57 (.mv (.t 7))),
  (rO 58 (.iaddr none 64 (.t 51) (.t 54))),
  (rO 59 (.iaddr (some 64) 1 (.t 58) (.t 56))),
  ⟨none, none, (.op (.store 1 (.t 59) (.t 57)))⟩]))))))
  (.live [37, 38, 5, 39] (.region [(rO 60 (.bin .int true .add (.t 39) (.c (.i .i64 1)))),
  (rO 39 (.mv (.t 60)))]))))))
def c31 : IFunc := ⟨1, [.tmp 2, .tmp 3],
 .seq (.region [(rO 1 (.box (.t 0))),
  (rO 2 (.mv (.c .sn))),
  (rO 3 (.mv (.c (.i .i64 0))))])
  (.live [1] (.seq (.seq (.region [(rO 8 (.faddr 2 (.t 1))),
  (rO 9 (.load none (.t 8))),
  (rO 10 (.len .slice (.t 9))),
  (rO 11 (.bin .int true .gtr (.t 10) (.c (.i .i64 700)))),
  (rO 12 (.mv (.t 11))),
  ⟨(some 13), some (12, false), (.op (.faddr 0 (.t 1)))⟩,
  ⟨(some 14), some (12, false), (.op (.load none (.t 13)))⟩,
  ⟨(some 15), some (12, false), (.op (.bin .int true .eql (.t 14) (.c (.i .u64 0))))⟩,
  (rO 16 (.pick (.t 12) (.c (.b true)) (.t 15)))])
  (.live [1, 16] (.cond (.t 16) (.seq (.region [(rO 2 (.mv (.c .sn))),
  (rO 3 (.mv (.c (.i .i64 81))))])
  (.ret))
  (.skip))))
  (.live [1] (.seq (.draw c31d0 [])
  (.live [1, 4] (.seq (.region [(rO 31 (.mv (.t 4))),
  (rO 32 (.faddr 2 (.t 1))),
  (rO 33 (.load none (.t 32))),
  (rO 34 (.app 1 1 (.t 31) (.t 33))),
  ⟨(some 35), none, (.call 62 [(.t 34)])⟩,
  (rO 4 (.mv (.t 35)))])
  (.live [4] (.seq (.region [(rO 36 (.bslice [(.i .u8 0), (.i .u8 0), (.i .u8 0), (.i .u8 0), (.i .u8 0), (.i .u8 0), (.i .u8 0), (.i .u8 0), (.i .u8 0), (.i .u8 0), (.i .u8 0), (.i .u8 0), (.i .u8 0), (.i .u8 0), (.i .u8 0), (.i .u8 0), (.i .u8 0), (.i .u8 0), (.i .u8 0), (.i .u8 0), (.i .u8 0), (.i .u8 0), (.i .u8 0), (.i .u8 0), (.i .u8 0), (.i .u8 0), (.i .u8 0), (.i .u8 0), (.i .u8 0), (.i .u8 0), (.i .u8 0), (.i .u8 0), (.i .u8 0), (.i .u8 0), (.i .u8 0), (.i .u8 0), (.i .u8 0), (.i .u8 0), (.i .u8 0), (.i .u8 0), (.i .u8 0), (.i .u8 0), (.i .u8 0), (.i .u8 0), (.i .u8 0), (.i .u8 0), (.i .u8 0), (.i .u8 0), (.i .u8 0), (.i .u8 0), (.i .u8 0), (.i .u8 0), (.i .u8 0), (.i .u8 0), (.i .u8 0), (.i .u8 0), (.i .u8 0), (.i .u8 0), (.i .u8 0), (.i .u8 0), (.i .u8 0), (.i .u8 0), (.i .u8 0), (.i .u8 0)] 0 [])),
  (rO 5 (.mv (.t 36)))])
  (.live [5, 4] (.seq (.seq (.region [(rO 37 (.mv (.t 4))),
  (rO 38 (.len .slice (.t 37))),
  (rO 39 (.mv (.c (.i .i64 0))))])
  (.live [37, 38, 39, 5] (.block 0 (.loop [37, 38, 39, 5] c31l1))))
  (.live [5] (.seq (.region [(rO 61 (.mv (.t 5))),
  (rO 2 (.mv (.t 61))),
  (rO 3 (.mv (.c (.i .i64 0))))])
  (.ret))))))))))))),
 []⟩
def c34 : IFunc := ⟨2, [.tmp 4],
 .seq (.region [(rO 4 (.mv (.c (.b false))))])
  (.live [0, 1] (.seq (.region [(rO 5 (.mv (.t 1))),
  (rO 6 (.bin .int true .geq (.t 5) (.c (.i .i64 0)))),
  (rO 7 (.mv (.t 6))),
  ⟨(some 8), some (7, true), (.op (.mv (.t 1)))⟩,
  ⟨(some 9), some (7, true), (.op (.mv (.t 0)))⟩,
  ⟨(some 10), some (7, true), (.op (.nilck (.t 9)))⟩,
  ⟨(some 11), some (7, true), (.op (.faddr 0 (.t 10)))⟩,
  ⟨(some 12), some (7, true), (.op (.load none (.t 11)))⟩,
  ⟨(some 13), some (7, true), (.op (.len .slice (.t 12)))⟩,
  ⟨(some 14), some (7, true), (.op (.bin .int false .lss (.t 8) (.t 13)))⟩,
  (rO 15 (.pick (.t 7) (.t 14) (.c (.b false)))),
  (rO 4 (.mv (.t 15)))])
  (.ret))),
 []⟩
def c35 : IFunc := ⟨1, [.tmp 2],
 .seq (.region [(rO 2 (.mv (.c (.i .i64 0))))])
  (.live [0] (.seq (.block 0 (.seq (.region [(rO 4 (.mv (.t 0))),
  (rO 5 (.nilck (.t 4))),
  (rO 6 (.faddr 3 (.t 5))),
  (rO 7 (.load none (.t 6))),
  (rO 3 (.mv (.t 7)))])
  (.live [0, 3] (.cond (.t 3) (.skip)
  (.seq (.region [(rO 9 (.mv (.t 0))),
  (rO 10 (.nilck (.t 9))),
  (rO 11 (.faddr 2 (.t 10))),
  (rO 12 (.load none (.t 11))),
  (rO 13 (.bin .int true .eql (.t 12) (.c (.i .i64 (-1))))),
  (rO 8 (.mv (.t 13)))])
  (.live [0, 8] (.cond (.t 8) (.seq (.region [(rO 2 (.mv (.c (.i .i64 0))))])
  (.ret))
  (.seq (.region [(rO 15 (.mv (.t 0))),
  (rO 16 (.nilck (.t 15))),
  (rO 17 (.faddr 2 (.t 16))),
  (rO 18 (.load none (.t 17))),
  (rO 19 (.bin .int true .gtr (.t 18) (.c (.i .i64 0)))),
  (rO 14 (.mv (.t 19)))])
  (.live [0, 14] (.cond (.t 14) (.seq (.region [(rO 20 (.mv (.t 0))),
  (rO 21 (.nilck (.t 20))),
  (rO 22 (.faddr 2 (.t 21))),
  (rO 23 (.load none (.t 22))),
  (rO 24 (.bin .int true .sub (.t 23) (.c (.i .i64 1)))),
  (rO 25 (.nilck (.t 20))),
  (rO 26 (.faddr 2 (.t 25))),
  ⟨none, none, (.op (.store 1 (.t 26) (.t 24)))⟩])
  (.live [] (.seq (.region [(rO 2 (.mv (.c (.i .i64 0))))])
  (.ret))))
  (.skip)))))))))))
  (.live [0] (.seq (.region [(rO 27 (.mv (.t 0))),
  (rO 28 (.nilck (.t 27))),
  (rO 29 (.faddr 3 (.t 28))),
  ⟨none, none, (.op (.store 1 (.t 29) (.c (.b true))))⟩])
  (.live [] (.seq (.region [(rO 2 (.mv (.c (.i .i64 72))))])
  (.ret))))))),
 []⟩
def c37d0 : List Stage :=
 [⟨[(⟨(some 19), none, (.op (.mv (.t 0)))⟩, 0), (⟨(some 20), none, (.op (.nilck (.t 19)))⟩, 0), (⟨(some 21), none, (.op (.faddr 0 (.t 20)))⟩, 0), (⟨(some 22), none, (.op (.load none (.t 21)))⟩, 0), (⟨(some 23), none, (.op (.faddr 0 (.t 5)))⟩, 0), (⟨(some 24), none, (.op (.load none (.t 23)))⟩, 0), (⟨(some 25), none, (.op (.faddr 1 (.t 5)))⟩, 0), (⟨(some 26), none, (.op (.load (some 64) (.t 25)))⟩, 0), (⟨(some 27), none, (.op (.iaddr none 64 (.t 22) (.t 24)))⟩, 0)], none, some ⟨none, none, (.op (.store 64 (.t 27) (.t 26)))⟩⟩,
  ⟨[], none, none⟩]
def c37d0w : List (ROp × Bool) :=
 [((rO 19 (.mv (.t 0))), false), ((rO 20 (.nilck (.t 19))), false), ((rO 21 (.faddr 0 (.t 20))), false), ((rO 22 (.load none (.t 21))), false), ((rO 23 (.faddr 0 (.t 5))), false), ((rO 24 (.load none (.t 23))), false), ((rO 25 (.faddr 1 (.t 5))), false), ((rO 26 (.load (some 64) (.t 25))), false), ((rO 27 (.iaddr none 64 (.t 22) (.t 24))), false), (⟨none, none, (.op (.store 64 (.t 27) (.t 26)))⟩, false)]
theorem c37d0_w {P : Program} {O : Orc} {S0 : Mem} {rd : Bool} {e : Env} {S : Mem} {d : List Nat} {Q : Kont} : W P O S0 rd (.draw c37d0 []) e S d Q = wFl O c37d0w e S (normK Q d) := W_draw' (by kernel_rfl) (by kernel_rfl)
attribute [go_sem] c37d0_w c37d0w
def c37l1 : ICode :=
 .seq (.region [(rO 12 (.bin .int false .lss (.t 11) (.t 10)))])
  (.live [0, 1, 9, 10, 11, 12] (.seq (.cond (.t 12) (.skip)
  (.exit 0))
  (.live [0, 1, 9, 10, 11] (.seq (.block 1 (.seq (.region [(rO 13 (.mv (.t 11))),
  (rO 14 (.iaddr none 65 (.t 9) (.t 11))),
  (rO 15 (.load (some 65) (.t 14))),
  (rO 5 (.fresh [(.i .i64 0), (.i .u8 0), (.i .u8 0), (.i .u8 0), (.i .u8 0), (.i .u8 0), (.i .u8 0), (.i .u8 0), (.i .u8 0), (.i .u8 0), (.i .u8 0), (.i .u8 0), (.i .u8 0), (.i .u8 0), (.i .u8 0), (.i .u8 0), (.i .u8 0), (.i .u8 0), (.i .u8 0), (.i .u8 0), (.i .u8 0), (.i .u8 0), (.i .u8 0), (.i .u8 0), (.i .u8 0), (.i .u8 0), (.i .u8 0), (.i .u8 0), (.i .u8 0), (.i .u8 0), (.i .u8 0), (.i .u8 0), (.i .u8 0), (.i .u8 0), (.i .u8 0), (.i .u8 0), (.i .u8 0), (.i .u8 0), (.i .u8 0), (.i .u8 0), (.i .u8 0), (.i .u8 0), (.i .u8 0), (.i .u8 0), (.i .u8 0), (.i .u8 0), (.i .u8 0), (.i .u8 0), (.i .u8 0), (.i .u8 0), (.i .u8 0), (.i .u8 0), (.i .u8 0), (.i .u8 0), (.i .u8 0), (.i .u8 0), (.i .u8 0), (.i .u8 0), (.i .u8 0), (.i .u8 0), (.i .u8 0), (.i .u8 0), (.i .u8 0), (.i .u8 0), (.i .u8 0)])),
  (rO 4 (.mv (.t 13))),
  ⟨none, none, (.op (.store 65 (.t 5) (.t 15)))⟩])
  (.live [0, 1, 9, 10, 11, 5, 4] (.seq (.region [(rO 16 (.mv (.t 1))),
  (rO 17 (.mv (.t 4))),
  ⟨(some 18), none, (.callv (.t 16) [(.t 17)])⟩])
  (.live [0, 1, 9, 10, 11, 5, 18] (.cond (.t 18) (.draw c37d0 [])
  (.skip)))))))
  (.live [0, 1, 9, 10, 11] (.region [(rO 28 (.bin .int true .add (.t 11) (.c (.i .i64 1)))),
  (rO 11 (.mv (.t 28)))]))))))
def c37 : IFunc := ⟨2, [],
 .seq (.seq (.region [(rO 6 (.mv (.t 0))),
  (rO 7 (.nilck (.t 6))),
  (rO 8 (.faddr 1 (.t 7))),
  (rO 9 (.load none (.t 8))),
  (rO 10 (.len .slice (.t 9))),
  (rO 11 (.mv (.c (.i .i64 0))))])
  (.live [0, 1, 9, 10, 11] (.block 0 (.loop [0, 1, 9, 10, 11] c37l1))))
  (.live [0] (.region [(rO 29 (.mv (.t 0))),
  (rO 30 (.nilck (.t 29))),
  (rO 31 (.faddr 1 (.t 30))),
  ⟨none, none, (.op (.store 1 (.t 31) (.c .sn)))⟩])),
 []⟩
def c38 : IFunc := ⟨2, [.tmp 3],
 .seq (.region [(rO 3 (.mv (.c (.b false))))])
  (.live [0, 1] (.seq (.region [(rO 4 (.mv (.t 0))),
  (rO 5 (.load none (.t 1))),
  (rO 6 (.len .slice (.t 5))),
  (rO 7 (.bin .int false .lss (.t 4) (.t 6))),
  (rO 8 (.mv (.t 7))),
  ⟨(some 9), some (8, true), (.op (.load none (.t 1)))⟩,
  ⟨(some 10), some (8, true), (.op (.mv (.t 0)))⟩,
  ⟨(some 11), some (8, true), (.op (.iaddr none 1 (.t 9) (.t 10)))⟩,
  ⟨(some 12), some (8, true), (.op (.load none (.t 11)))⟩,
  (rO 13 (.pick (.t 8) (.t 12) (.c (.b false)))),
  (rO 3 (.mv (.t 13)))])
  (.ret))),
 []⟩
def c40l0 : ICode :=
 .seq (.region [(rO 14 (.bin .int true .lss (.t 13) (.c (.i .i64 16))))])
  (.live [4, 1, 0, 13, 6, 14] (.seq (.cond (.t 14) (.skip)
  (.exit 0))
  (.live [4, 1, 0, 13, 6] (.seq (.block 1 (.seq (.region [(rO 15 (.mv (.t 13))),
  (rO 7 (.mv (.t 15)))])
  (.live [4, 1, 0, 13, 6, 7] (.seq (.region [(rO 17 (.mv (.t 0))),
  (rO 18 (.mv (.t 1))),
  (rO 19 (.mv (.t 7))),
  (rO 20 (.bin .int false .add (.t 18) (.t 19))),
  ⟨(some 21), none, (.call 23 [(.t 17), (.t 20)])⟩,
  (rO 16 (.mv (.t 21))),
  (rO 22 (.ext (.t 16) 0)),
  (rO 23 (.ext (.t 16) 1)),
  (rO 8 (.fresh [(.i .u8 0), (.i .u8 0), (.i .u8 0), (.i .u8 0), (.i .u8 0), (.i .u8 0), (.i .u8 0), (.i .u8 0), (.i .u8 0), (.i .u8 0), (.i .u8 0), (.i .u8 0), (.i .u8 0), (.i .u8 0), (.i .u8 0), (.i .u8 0), (.i .u8 0), (.i .u8 0), (.i .u8 0), (.i .u8 0), (.i .u8 0), (.i .u8 0), (.i .u8 0), (.i .u8 0), (.i .u8 0), (.i .u8 0), (.i .u8 0), (.i .u8 0), (.i .u8 0), (.i .u8 0), (.i .u8 0), (.i .u8 0), (.i .u8 0), (.i .u8 0), (.i .u8 0), (.i .u8 0), (.i .u8 0), (.i .u8 0), (.i .u8 0), (.i .u8 0), (.i .u8 0), (.i .u8 0), (.i .u8 0), (.i .u8 0), (.i .u8 0), (.i .u8 0), (.i .u8 0), (.i .u8 0), (.i .u8 0), (.i .u8 0), (.i .u8 0), (.i .u8 0), (.i .u8 0), (.i .u8 0), (.i .u8 0), (.i .u8 0), (.i .u8 0), (.i .u8 0), (.i .u8 0), (.i .u8 0), (.i .u8 0), (.i .u8 0), (.i .u8 0), (.i .u8 0)])),
  ⟨none, none, (.op (.store 64 (.t 8) (.t 22)))⟩,
  (rO 9 (.mv (.t 23)))])
  (.live [4, 1, 0, 13, 8, 6, 9] (.seq (.seq (.region [(rO 24 (.mv (.t 9))),
  (rO 25 (.bin .int true .neq (.t 24) (.c (.i .i64 0))))])
  (.live [4, 1, 0, 13, 8, 6, 25] (.cond (.t 25) (.seq (.region [(rO 26 (.build [(.i .u64 0), (.i .u32 0), (.i .u64 0), (.i .i64 0), (.i .u64 0), .sn] [])),
  ⟨none, none, (.op (.store 6 (.t 4) (.t 26)))⟩,
  (rO 5 (.mv (.c (.b false))))])
  (.ret))
  (.skip))))
  (.live [4, 1, 0, 13, 8, 6] (.region [(rO 27 (.mv (.t 6))),
  (rO 28 (.load (some 64) (.t 8))),
  (rO 29 (.bslice [(.i .u8 0), (.i .u8 0), (.i .u8 0), (.i .u8 0), (.i .u8 0), (.i .u8 0), (.i .u8 0), (.i .u8 0), (.i .u8 0), (.i .u8 0), (.i .u8 0), (.i .u8 0), (.i .u8 0), (.i .u8 0), (.i .u8 0), (.i .u8 0), (.i .u8 0), (.i .u8 0), (.i .u8 0), (.i .u8 0), (.i .u8 0), (.i .u8 0), (.i .u8 0), (.i .u8 0), (.i .u8 0), (.i .u8 0), (.i .u8 0), (.i .u8 0), (.i .u8 0), (.i .u8 0), (.i .u8 0), (.i .u8 0), (.i .u8 0), (.i .u8 0), (.i .u8 0), (.i .u8 0), (.i .u8 0), (.i .u8 0), (.i .u8 0), (.i .u8 0), (.i .u8 0), (.i .u8 0), (.i .u8 0), (.i .u8 0), (.i .u8 0), (.i .u8 0), (.i .u8 0), (.i .u8 0), (.i .u8 0), (.i .u8 0), (.i .u8 0), (.i .u8 0), (.i .u8 0), (.i .u8 0), (.i .u8 0), (.i .u8 0), (.i .u8 0), (.i .u8 0), (.i .u8 0), (.i .u8 0), (.i .u8 0), (.i .u8 0), (.i .u8 0), (.i .u8 0)] 1 [(0, 64, (.t 28))])),
  (rO 30 (.app 64 64 (.t 27) (.t 29))),
  (rO 6 (.mv (.t 30)))]))))))))
  (.live [4, 1, 0, 6, 13] (.region [(rO 31 (.bin .int true .add (.t 13) (.c (.i .i64 1)))),
  (rO 13 (.mv (.t 31)))]))))))
def c40 : IFunc := ⟨2, [.cell 4 (some 6), .tmp 5],
 .seq (.region [(rO 4 (.fresh [(.i .u64 0), (.i .u32 0), (.i .u64 0), (.i .i64 0), (.i .u64 0), .sn])),
  (rO 5 (.mv (.c (.b false))))])
  (.live [4, 1, 0] (.seq (.region [(rO 6 (.mv (.c .sn)))])
  (.live [4, 1, 0, 6] (.seq (.seq (.region [(rO 13 (.mv (.c (.i .i64 0))))])
  (.live [4, 1, 0, 13, 6] (.block 0 (.loop [4, 1, 0, 13, 6] c40l0))))
  (.live [4, 0, 1, 6] (.seq (.region [(rO 33 (.mv (.t 6))),
  ⟨(some 34), none, (.call 63 [(.t 33)])⟩,
  (rO 32 (.mv (.t 34))),
  (rO 35 (.ext (.t 32) 0)),
  (rO 36 (.ext (.t 32) 1)),
  (rO 37 (.ext (.t 32) 2)),
  (rO 10 (.fresh [(.i .u64 0), (.i .u32 0), .sn])),
  ⟨none, none, (.op (.store 3 (.t 10) (.t 35)))⟩,
  (rO 11 (.mv (.t 36))),
  (rO 12 (.mv (.t 37)))])
  (.live [4, 10, 0, 1, 12] (.seq (.seq (.region [(rO 38 (.mv (.t 12))),
  (rO 39 (.un .not (.t 38))),
  (rO 40 (.mv (.t 39))),
  ⟨(some 41), some (40, false), (.op (.faddr 0 (.t 10)))⟩,
  ⟨(some 42), some (40, false), (.op (.load none (.t 41)))⟩,
  ⟨(some 43), some (40, false), (.call 29 [(.t 42)])⟩,
  ⟨(some 44), some (40, false), (.op (.mv (.t 1)))⟩,
  ⟨(some 45), some (40, false), (.op (.bin .int false .neq (.t 43) (.t 44)))⟩,
  (rO 46 (.pick (.t 40) (.c (.b true)) (.t 45)))])
  (.live [4, 10, 0, 46] (.cond (.t 46) (.seq (.region [(rO 47 (.build [(.i .u64 0), (.i .u32 0), (.i .u64 0), (.i .i64 0), (.i .u64 0), .sn] [])),
  ⟨none, none, (.op (.store 6 (.t 4) (.t 47)))⟩,
  (rO 5 (.mv (.c (.b false))))])
  (.ret))
  (.skip))))
  (.live [4, 10, 0] (.seq (.region [(rO 48 (.mv (.t 0))),
  (rO 49 (.load (some 3) (.t 10))),
  ⟨(some 50), none, (.call 64 [(.t 48), (.t 49)])⟩,
  (rO 51 (.ext (.t 50) 0)),
  (rO 52 (.ext (.t 50) 1)),
  ⟨none, none, (.op (.store 6 (.t 4) (.t 51)))⟩,
  (rO 5 (.mv (.t 52)))])
  (.ret))))))))))),
 []⟩
def c43 : IFunc := ⟨2, [.tmp 4, .tmp 5],
 .seq (.region [(rO 4 (.mv (.c (.i .i64 0)))),
  (rO 5 (.mv (.c (.i .i64 0))))])
  (.live [1, 0] (.seq (.seq (.region [(rO 9 (.mv (.t 0))),
  (rO 10 (.mv (.t 1))),
  (rO 11 (.bslice [(.i .i64 0)] 1 [(0, 1, (.t 10))])),
  ⟨(some 12), none, (.call 68 [(.t 9), (.t 11)])⟩,
  (rO 8 (.mv (.t 12))),
  (rO 13 (.ext (.t 8) 0)),
  (rO 14 (.ext (.t 8) 1)),
  (rO 6 (.mv (.t 13))),
  (rO 7 (.mv (.t 14)))])
  (.live [7, 1] (.seq (.region [(rO 15 (.mv (.t 7))),
  (rO 16 (.bin .int true .neq (.t 15) (.c (.i .i64 0))))])
  (.live [7, 1, 16] (.cond (.t 16) (.seq (.region [(rO 17 (.mv (.t 7))),
  (rO 4 (.mv (.c (.i .i64 0)))),
  (rO 5 (.mv (.t 17)))])
  (.ret))
  (.skip))))))
  (.live [1] (.seq (.region [(rO 18 (.mv (.t 1))),
  (rO 19 (.bin .int true .mul (.t 18) (.c (.i .i64 16)))),
  (rO 20 (.bin .int true .add (.c (.i .i64 32)) (.t 19))),
  (rO 4 (.mv (.t 20))),
  (rO 5 (.mv (.c (.i .i64 0))))])
  (.ret))))),
 []⟩
def c44 : IFunc := ⟨1, [.tmp 2],
 .seq (.region [(rO 2 (.mv (.c (.i .i64 0))))])
  (.live [0] (.seq (.region [(rO 3 (.mv (.t 0))),
  (rO 4 (.nilck (.t 3))),
  (rO 5 (.faddr 0 (.t 4))),
  (rO 6 (.load none (.t 5))),
  (rO 7 (.len .slice (.t 6))),
  (rO 2 (.mv (.t 7)))])
  (.ret))),
 []⟩
def c45 : IFunc := ⟨1, [.tmp 2],
 .seq (.region [(rO 2 (.mv (.c (.b false))))])
  (.live [0] (.seq (.region [(rO 3 (.mv (.t 0))),
  (rO 4 (.bin .int true .geq (.t 3) (.c (.i .u64 1)))),
  (rO 5 (.mv (.t 4))),
  ⟨(some 6), some (5, true), (.op (.mv (.t 0)))⟩,
  ⟨(some 7), some (5, true), (.op (.bin .int true .leq (.t 6) (.c (.i .u64 281474976710656))))⟩,
  (rO 8 (.pick (.t 5) (.t 7) (.c (.b false)))),
  (rO 2 (.mv (.t 8)))])
  (.ret))),
 []⟩
def c46 : IFunc := ⟨1, [.tmp 2],
 .seq (.region [(rO 1 (.box (.t 0))),
  (rO 2 (.mv (.c (.b false))))])
  (.live [1] (.seq (.seq (.region [(rO 3 (.faddr 0 (.t 1))),
  (rO 4 (.load none (.t 3))),
  (rO 5 (.bin .int true .lss (.t 4) (.c (.i .u64 1)))),
  (rO 6 (.mv (.t 5))),
  ⟨(some 7), some (6, false), (.op (.faddr 0 (.t 1)))⟩,
  ⟨(some 8), some (6, false), (.op (.load none (.t 7)))⟩,
  ⟨(some 9), some (6, false), (.op (.bin .int true .gtr (.t 8) (.c (.i .u64 281474976710656))))⟩,
  (rO 10 (.pick (.t 6) (.c (.b true)) (.t 9))),
  (rO 11 (.mv (.t 10))),
  ⟨(some 12), some (11, false), (.op (.faddr 1 (.t 1)))⟩,
  ⟨(some 13), some (11, false), (.op (.load none (.t 12)))⟩,
  ⟨(some 14), some (11, false), (.op (.len .slice (.t 13)))⟩,
  ⟨(some 15), some (11, false), (.op (.bin .int true .gtr (.t 14) (.c (.i .i64 8))))⟩,
  (rO 16 (.pick (.t 11) (.c (.b true)) (.t 15))),
  (rO 17 (.mv (.t 16))),
  ⟨(some 18), some (17, false), (.op (.faddr 1 (.t 1)))⟩,
  ⟨(some 19), some (17, false), (.op (.load none (.t 18)))⟩,
  ⟨(some 20), some (17, false), (.call 70 [(.t 19)])⟩,
  ⟨(some 21), some (17, false), (.call 69 [(.t 20)])⟩,
  ⟨(some 22), some (17, false), (.op (.bin .int true .neq (.t 21) (.c (.i .i64 0))))⟩,
  (rO 23 (.pick (.t 17) (.c (.b true)) (.t 22)))])
  (.live [1, 23] (.cond (.t 23) (.seq (.region [(rO 2 (.mv (.c (.b false))))])
  (.ret))
  (.skip))))
  (.live [1] (.seq (.region [(rO 24 (.faddr 1 (.t 1))),
  (rO 25 (.load none (.t 24))),
  ⟨(some 26), none, (.call 71 [(.t 25), (.c (.f (.func 72) [] []))])⟩,
  (rO 27 (.un .not (.t 26))),
  (rO 2 (.mv (.t 27)))])
  (.ret))))),
 []⟩
def c47 : IFunc := ⟨2, [.tmp 4],
 .seq (.region [(rO 2 (.box (.t 0))),
  (rO 3 (.box (.t 1))),
  (rO 4 (.mv (.c (.b false))))])
  (.live [3, 2] (.seq (.region [(rO 5 (.faddr 0 (.t 2))),
  (rO 6 (.load none (.t 5))),
  (rO 7 (.faddr 0 (.t 3))),
  (rO 8 (.load none (.t 7))),
  (rO 9 (.bin .int false .eql (.t 6) (.t 8))),
  (rO 10 (.mv (.t 9))),
  ⟨(some 11), some (10, true), (.op (.faddr 1 (.t 2)))⟩,
  ⟨(some 12), some (10, true), (.op (.load none (.t 11)))⟩,
  ⟨(some 13), some (10, true), (.op (.faddr 1 (.t 3)))⟩,
  ⟨(some 14), some (10, true), (.op (.load none (.t 13)))⟩,
  ⟨(some 15), some (10, true), (.call 73 [(.t 12), (.t 14)])⟩,
  (rO 16 (.pick (.t 10) (.t 15) (.c (.b false)))),
  (rO 4 (.mv (.t 16)))])
  (.ret))),
 []⟩
def c48 : IFunc := ⟨2, [.tmp 4],
 .seq (.region [(rO 3 (.box (.t 1))),
  (rO 4 (.mv (.c (.b false))))])
  (.live [3, 0] (.seq (.region [(rO 8 (.mv (.t 0))),
  (rO 9 (.faddr 3 (.t 3))),
  (rO 10 (.load none (.t 9))),
  ⟨(some 11), none, (.call 74 [(.t 8), (.t 10)])⟩,
  (rO 7 (.mv (.t 11))),
  (rO 12 (.ext (.t 7) 0)),
  (rO 13 (.ext (.t 7) 1)),
  (rO 5 (.mv (.t 12))),
  (rO 6 (.mv (.t 13)))])
  (.live [3, 6] (.seq (.seq (.region [(rO 14 (.mv (.t 6))),
  (rO 15 (.bin .int true .neq (.t 14) (.c (.i .i64 0)))),
  (rO 16 (.mv (.t 15))),
  ⟨(some 17), some (16, false), (.op (.faddr 0 (.t 3)))⟩,
  ⟨(some 18), some (16, false), (.op (.load none (.t 17)))⟩,
  ⟨(some 19), some (16, false), (.op (.bin .int true .lss (.t 18) (.c (.i .u64 1))))⟩,
  (rO 20 (.pick (.t 16) (.c (.b true)) (.t 19))),
  (rO 21 (.mv (.t 20))),
  ⟨(some 22), some (21, false), (.op (.faddr 0 (.t 3)))⟩,
  ⟨(some 23), some (21, false), (.op (.load none (.t 22)))⟩,
  ⟨(some 24), some (21, false), (.op (.bin .int true .gtr (.t 23) (.c (.i .u64 281474976710656))))⟩,
  (rO 25 (.pick (.t 21) (.c (.b true)) (.t 24))),
  (rO 26 (.mv (.t 25))),
  ⟨(some 27), some (26, false), (.op (.faddr 2 (.t 3)))⟩,
  ⟨(some 28), some (26, false), (.op (.load none (.t 27)))⟩,
  ⟨(some 29), some (26, false), (.op (.bin .int true .lss (.t 28) (.c (.i .u64 1))))⟩,
  (rO 30 (.pick (.t 26) (.c (.b true)) (.t 29))),
  (rO 31 (.mv (.t 30))),
  ⟨(some 32), some (31, false), (.op (.faddr 2 (.t 3)))⟩,
  ⟨(some 33), some (31, false), (.op (.load none (.t 32)))⟩,
  ⟨(some 34), some (31, false), (.op (.bin .int true .gtr (.t 33) (.c (.i .u64 281474976710656))))⟩,
  (rO 35 (.pick (.t 31) (.c (.b true)) (.t 34)))])
  (.live [3, 35] (.cond (.t 35) (.seq (.region [(rO 4 (.mv (.c (.b false))))])
  (.ret))
  (.skip))))
  (.live [3] (.seq (.region [(rO 36 (.faddr 1 (.t 3))),
  (rO 37 (.load none (.t 36))),
  (rO 38 (.bin .int true .leq (.t 37) (.c (.i .u32 2147483648)))),
  (rO 39 (.mv (.t 38))),
  ⟨(some 40), some (39, true), (.op (.faddr 4 (.t 3)))⟩,
  ⟨(some 41), some (39, true), (.op (.load (some 2) (.t 40)))⟩,
  ⟨(some 42), some (39, true), (.call 75 [(.t 41)])⟩,
  (rO 43 (.pick (.t 39) (.t 42) (.c (.b false)))),
  (rO 4 (.mv (.t 43)))])
  (.ret))))))),
 []⟩
def c49l0 : ICode :=
 .seq (.region [(rO 17 (.bin .int false .lss (.t 16) (.t 15)))])
  (.live [14, 15, 16, 4, 17] (.seq (.cond (.t 17) (.skip)
  (.exit 0))
  (.live [14, 15, 16, 4] (.seq (.block 1 (.seq (.region [(rO 18 (.iaddr none 14 (.t 14) (.t 16))),
  (rO 19 (.load (some 14) (.t 18))),
  (rO 6 (.fresh [(.i .i64 0), (.i .u8 0), (.i .u8 0), (.i .u8 0), (.i .u8 0), (.i .i64 0), (.i .u64 0), (.i .u64 0), (.i .u64 0), (.i .u64 0), (.i .u64 0), (.i .u64 0), (.i .u64 0), (.i .u64 0)])),
  ⟨none, none, (.op (.store 14 (.t 6) (.t 19)))⟩])
  (.live [14, 15, 16, 6, 4] (.seq (.region [(rO 20 (.mv (.t 4))),
  (rO 21 (.faddr 0 (.t 6))),
  (rO 22 (.load (some 13) (.t 21))),
  ⟨(some 23), none, (.call 76 [(.t 22)])⟩,
  (rO 24 (.app 1 8 (.t 20) (.t 23))),
  (rO 4 (.mv (.t 24)))])
  (.live [14, 15, 16, 6, 4] (.region [(rO 25 (.mv (.t 4))),
  (rO 26 (.faddr 13 (.t 6))),
  (rO 27 (.load none (.t 26))),
  (rO 28 (.bslice [(.i .u64 0)] 1 [(0, 1, (.t 27))])),
  (rO 29 (.app 1 8 (.t 25) (.t 28))),
  (rO 4 (.mv (.t 29)))]))))))
  (.live [14, 15, 4, 16] (.region [(rO 30 (.bin .int true .add (.t 16) (.c (.i .i64 1)))),
  (rO 16 (.mv (.t 30)))]))))))
def c49 : IFunc := ⟨1, [.tmp 2, .tmp 3],
 .seq (.region [(rO 1 (.box (.t 0))),
  (rO 2 (.mv (.c .sn))),
  (rO 3 (.mv (.c (.i .i64 0))))])
  (.live [1] (.seq (.seq (.region [(rO 7 (.load (some 2) (.t 1))),
  ⟨(some 8), none, (.call 75 [(.t 7)])⟩,
  (rO 9 (.un .not (.t 8)))])
  (.live [1, 9] (.cond (.t 9) (.seq (.region [(rO 2 (.mv (.c .sn))),
  (rO 3 (.mv (.c (.i .i64 131))))])
  (.ret))
  (.skip))))
  (.live [1] (.seq (.region [(rO 10 (.faddr 0 (.t 1))),
  (rO 11 (.load none (.t 10))),
  (rO 12 (.bslice [(.i .u64 0)] 1 [(0, 1, (.t 11))])),
  (rO 4 (.mv (.t 12)))])
  (.live [4, 1] (.seq (.seq (.region [(rO 13 (.faddr 1 (.t 1))),
  (rO 14 (.load none (.t 13))),
  (rO 15 (.len .slice (.t 14))),
  (rO 16 (.mv (.c (.i .i64 0))))])
  (.live [14, 15, 16, 4] (.block 0 (.loop [14, 15, 16, 4] c49l0))))
  (.live [4] (.seq (.region [(rO 31 (.mv (.t 4))),
  ⟨(some 32), none, (.call 50 [(.t 31)])⟩,
  (rO 2 (.mv (.t 32))),
  (rO 3 (.mv (.c (.i .i64 0))))])
  (.ret))))))))),
 []⟩
def c50l0 : ICode :=
 .seq (.region [(rO 10 (.bin .int false .lss (.t 9) (.t 8)))])
  (.live [7, 8, 9, 3, 10] (.seq (.cond (.t 10) (.skip)
  (.exit 0))
  (.live [7, 8, 9, 3] (.seq (.block 1 (.seq (.region [(rO 11 (.iaddr none 1 (.t 7) (.t 9))),
  (rO 12 (.load none (.t 11))),
  (rO 5 (.mv (.t 12)))])
  (.live [7, 8, 9, 5, 3] (.region [(rO 13 (.mv (.t 3))),
  (rO 14 (.mv (.t 5))),
  ⟨(some 15), none, (.call 77 [(.t 14)])⟩,
  (rO 16 (.app 1 1 (.t 13) (.t 15))),
  (rO 3 (.mv (.t 16)))]))))
  (.live [7, 8, 3, 9] (.region [(rO 17 (.bin .int true .add (.t 9) (.c (.i .i64 1)))),
  (rO 9 (.mv (.t 17)))]))))))
def c50 : IFunc := ⟨1, [.tmp 2],
 .seq (.region [(rO 2 (.mv (.c .sn)))])
  (.live [0] (.seq (.region [(rO 6 (.bslice [(.i .u8 0)] 0 [])),
  (rO 3 (.mv (.t 6)))])
  (.live [3, 0] (.seq (.seq (.region [(rO 7 (.mv (.t 0))),
  (rO 8 (.len .slice (.t 7))),
  (rO 9 (.mv (.c (.i .i64 0))))])
  (.live [7, 8, 9, 3] (.block 0 (.loop [7, 8, 9, 3] c50l0))))
  (.live [3] (.seq (.region [(rO 18 (.mv (.t 3))),
  (rO 2 (.mv (.t 18)))])
  (.ret))))))),
 []⟩
def c51 : IFunc := ⟨2, [.cell 4 (some 64), .tmp 5],
 .seq (.region [(rO 4 (.fresh [(.i .u8 0), (.i .u8 0), (.i .u8 0), (.i .u8 0), (.i .u8 0), (.i .u8 0), (.i .u8 0), (.i .u8 0), (.i .u8 0), (.i .u8 0), (.i .u8 0), (.i .u8 0), (.i .u8 0), (.i .u8 0), (.i .u8 0), (.i .u8 0), (.i .u8 0), (.i .u8 0), (.i .u8 0), (.i .u8 0), (.i .u8 0), (.i .u8 0), (.i .u8 0), (.i .u8 0), (.i .u8 0), (.i .u8 0), (.i .u8 0), (.i .u8 0), (.i .u8 0), (.i .u8 0), (.i .u8 0), (.i .u8 0), (.i .u8 0), (.i .u8 0), (.i .u8 0), (.i .u8 0), (.i .u8 0), (.i .u8 0), (.i .u8 0), (.i .u8 0), (.i .u8 0), (.i .u8 0), (.i .u8 0), (.i .u8 0), (.i .u8 0), (.i .u8 0), (.i .u8 0), (.i .u8 0), (.i .u8 0), (.i .u8 0), (.i .u8 0), (.i .u8 0), (.i .u8 0), (.i .u8 0), (.i .u8 0), (.i .u8 0), (.i .u8 0), (.i .u8 0), (.i .u8 0), (.i .u8 0), (.i .u8 0), (.i .u8 0), (.i .u8 0), (.i .u8 0)])),
  (rO 5 (.mv (.c (.i .i64 0))))])
  (.live [4, 1, 0] (.seq (.seq (.region [(rO 6 (.mv (.t 0))),
  (rO 7 (.mv (.t 1))),
  ⟨(some 8), none, (.call 34 [(.t 6), (.t 7)])⟩,
  (rO 9 (.un .not (.t 8)))])
  (.live [4, 1, 0, 9] (.cond (.t 9) (.seq (.region [(rO 10 (.build [(.i .u8 0), (.i .u8 0), (.i .u8 0), (.i .u8 0), (.i .u8 0), (.i .u8 0), (.i .u8 0), (.i .u8 0), (.i .u8 0), (.i .u8 0), (.i .u8 0), (.i .u8 0), (.i .u8 0), (.i .u8 0), (.i .u8 0), (.i .u8 0), (.i .u8 0), (.i .u8 0), (.i .u8 0), (.i .u8 0), (.i .u8 0), (.i .u8 0), (.i .u8 0), (.i .u8 0), (.i .u8 0), (.i .u8 0), (.i .u8 0), (.i .u8 0), (.i .u8 0), (.i .u8 0), (.i .u8 0), (.i .u8 0), (.i .u8 0), (.i .u8 0), (.i .u8 0), (.i .u8 0), (.i .u8 0), (.i .u8 0), (.i .u8 0), (.i .u8 0), (.i .u8 0), (.i .u8 0), (.i .u8 0), (.i .u8 0), (.i .u8 0), (.i .u8 0), (.i .u8 0), (.i .u8 0), (.i .u8 0), (.i .u8 0), (.i .u8 0), (.i .u8 0), (.i .u8 0), (.i .u8 0), (.i .u8 0), (.i .u8 0), (.i .u8 0), (.i .u8 0), (.i .u8 0), (.i .u8 0), (.i .u8 0), (.i .u8 0), (.i .u8 0), (.i .u8 0)] [])),
  ⟨none, none, (.op (.store 64 (.t 4) (.t 10)))⟩,
  (rO 5 (.mv (.c (.i .i64 71))))])
  (.ret))
  (.skip))))
  (.live [4, 1, 0] (.seq (.region [(rO 11 (.mv (.t 0))),
  (rO 12 (.nilck (.t 11))),
  (rO 13 (.faddr 0 (.t 12))),
  (rO 14 (.load none (.t 13))),
  (rO 15 (.mv (.t 1))),
  (rO 16 (.iaddr none 64 (.t 14) (.t 15))),
  (rO 17 (.load (some 64) (.t 16))),
  ⟨none, none, (.op (.store 64 (.t 4) (.t 17)))⟩,
  (rO 5 (.mv (.c (.i .i64 0))))])
  (.ret))))),
 []⟩
def c52l0 : ICode :=
 .seq (.seq (.region [(rO 10 (.mv (.t 3))),
  (rO 11 (.bin .int true .mul (.c (.i .i64 64)) (.t 10))),
  (rO 12 (.mv (.t 0))),
  (rO 13 (.bin .int true .add (.t 12) (.c (.i .i64 18)))),
  (rO 14 (.bin .int false .lss (.t 11) (.t 13)))])
  (.live [0, 3, 14] (.cond (.t 14) (.skip)
  (.exit 0))))
  (.live [0, 3] (.block 1 (.region [(rO 15 (.mv (.t 3))),
  (rO 16 (.bin .int true .add (.t 15) (.c (.i .i64 1)))),
  (rO 3 (.mv (.t 16)))])))
def c52 : IFunc := ⟨1, [.tmp 2],
 .seq (.region [(rO 2 (.mv (.c (.i .i64 0))))])
  (.live [0] (.seq (.seq (.region [(rO 4 (.mv (.t 0))),
  (rO 5 (.bin .int true .lss (.t 4) (.c (.i .i64 0)))),
  (rO 6 (.mv (.t 5))),
  ⟨(some 7), some (6, false), (.op (.mv (.t 0)))⟩,
  ⟨(some 8), some (6, false), (.op (.bin .int true .gtr (.t 7) (.c (.i .i64 700))))⟩,
  (rO 9 (.pick (.t 6) (.c (.b true)) (.t 8)))])
  (.live [0, 9] (.cond (.t 9) (.seq (.region [(rO 2 (.mv (.c (.i .i64 0))))])
  (.ret))
  (.skip))))
  (.live [0] (.seq (.region [(rO 3 (.mv (.c (.i .i64 0))))])
  (.live [0, 3] (.seq (.block 0 (.loop [0, 3] c52l0))
  (.live [3] (.seq (.region [(rO 17 (.mv (.t 3))),
  (rO 2 (.mv (.t 17)))])
  (.ret))))))))),
 []⟩
def c53d0 : List Stage :=
 [⟨[(⟨(some 16), none, (.op (.mv (.t 0)))⟩, 0), (⟨(some 17), none, (.op (.mv (.t 5)))⟩, 0), (⟨(some 18), none, (.op (.iaddr none 64 (.t 16) (.t 17)))⟩, 0), (⟨(some 19), none, (.op (.load (some 64) (.t 18)))⟩, 0), (⟨(some 20), none, (.op (.mv (.t 1)))⟩, 0), (⟨(some 21), none, (.op (.mv (.t 5)))⟩, 0), (⟨(some 22), none, (.op (.iaddr none 64 (.t 20) (.t 21)))⟩, 0), (⟨(some 23), none, (.op (.load (some 64) (.t 22)))⟩, 0), (⟨(some 24), none, (.op (.eqag true [.int, .int, .int, .int, .int, .int, .int, .int, .int, .int, .int, .int, .int, .int, .int, .int, .int, .int, .int, .int, .int, .int, .int, .int, .int, .int, .int, .int, .int, .int, .int, .int, .int, .int, .int, .int, .int, .int, .int, .int, .int, .int, .int, .int, .int, .int, .int, .int, .int, .int, .int, .int, .int, .int, .int, .int, .int, .int, .int, .int, .int, .int, .int, .int] (.t 19) (.t 23)))⟩, 0)], none, none⟩]
def c53d0w : List (ROp × Bool) :=
 [((rO 16 (.mv (.t 0))), false), ((rO 17 (.mv (.t 5))), false), ((rO 18 (.iaddr none 64 (.t 16) (.t 17))), false), ((rO 19 (.load (some 64) (.t 18))), false), ((rO 20 (.mv (.t 1))), false), ((rO 21 (.mv (.t 5))), false), ((rO 22 (.iaddr none 64 (.t 20) (.t 21))), false), ((rO 23 (.load (some 64) (.t 22))), false), ((rO 24 (.eqag true [.int, .int, .int, .int, .int, .int, .int, .int, .int, .int, .int, .int, .int, .int, .int, .int, .int, .int, .int, .int, .int, .int, .int, .int, .int, .int, .int, .int, .int, .int, .int, .int, .int, .int, .int, .int, .int, .int, .int, .int, .int, .int, .int, .int, .int, .int, .int, .int, .int, .int, .int, .int, .int, .int, .int, .int, .int, .int, .int, .int, .int, .int, .int, .int] (.t 19) (.t 23))), false)]
theorem c53d0_w {P : Program} {O : Orc} {S0 : Mem} {rd : Bool} {e : Env} {S : Mem} {d : List Nat} {Q : Kont} : W P O S0 rd (.draw c53d0 []) e S d Q = wFl O c53d0w e S (normK Q d) := W_draw' (by kernel_rfl) (by kernel_rfl)
attribute [go_sem] c53d0_w c53d0w
def c53l1 : ICode :=
 .seq (.region [(rO 14 (.bin .int false .lss (.t 13) (.t 12)))])
  (.live [0, 1, 12, 13, 14] (.seq (.cond (.t 14) (.skip)
  (.exit 0))
  (.live [0, 1, 12, 13] (.seq (.block 1 (.seq (.region [(rO 15 (.mv (.t 13))),
  (rO 5 (.mv (.t 15)))])
  (.live [0, 1, 12, 13, 5] (.seq (.draw c53d0 [])
  (.live [0, 1, 12, 13, 24] (.cond (.t 24) (.seq (.region [(rO 4 (.mv (.c (.b false))))])
  (.ret))
  (.skip)))))))
  (.live [0, 1, 12, 13] (.region [(rO 25 (.bin .int true .add (.t 13) (.c (.i .i64 1)))),
  (rO 13 (.mv (.t 25)))]))))))
def c53 : IFunc := ⟨2, [.tmp 4],
 .seq (.region [(rO 4 (.mv (.c (.b false))))])
  (.live [0, 1] (.seq (.seq (.region [(rO 6 (.mv (.t 0))),
  (rO 7 (.len .slice (.t 6))),
  (rO 8 (.mv (.t 1))),
  (rO 9 (.len .slice (.t 8))),
  (rO 10 (.bin .int false .neq (.t 7) (.t 9)))])
  (.live [0, 1, 10] (.cond (.t 10) (.seq (.region [(rO 4 (.mv (.c (.b false))))])
  (.ret))
  (.skip))))
  (.live [0, 1] (.seq (.seq (.region [(rO 11 (.mv (.t 0))),
  (rO 12 (.len .slice (.t 11))),
  (rO 13 (.mv (.c (.i .i64 0))))])
  (.live [0, 1, 12, 13] (.block 0 (.loop [0, 1, 12, 13] c53l1))))
  (.live [] (.seq (.region [(rO 4 (.mv (.c (.b true))))])
  (.ret))))))),
 []⟩
def c54d0 : List Stage :=
 [⟨[(⟨(some 20), none, (.op (.mv (.t 4)))⟩, 1), (⟨(some 21), none, (.op (.faddr 0 (.t 6)))⟩, 0), (⟨(some 22), none, (.op (.load (some 13) (.t 21)))⟩, 0), (⟨(some 25), none, (.op (.faddr 13 (.t 6)))⟩, 2), (⟨(some 26), none, (.op (.load none (.t 25)))⟩, 2)], none, some ⟨(some 23), none, (.call 78 [(.t 22)])⟩⟩,
  ⟨[], none, some ⟨(some 24), none, (.op (.app 1 8 (.t 20) (.t 23)))⟩⟩,
  ⟨[], some ⟨(some 27), none, (.op (.bslice [(.i .u64 0)] 1 [(0, 1, (.t 26))]))⟩, some ⟨(some 28), none, (.op (.app 1 8 (.t 24) (.t 27)))⟩⟩,
  ⟨[(⟨(some 4), none, (.op (.mv (.t 28)))⟩, 3)], none, none⟩]
theorem c54d0_e {P : Program} {O : Orc} {S0 : Mem} {rd : Bool} {e : Env} {S : Mem} {d : List Nat} {Q : Kont} : W P O S0 rd (.draw c54d0 [4]) e S d Q = drawK (evDraw O c54d0 [4] e S) (normK Q d) := W_drawE (by kernel_rfl)
attribute [go_sem] c54d0_e
def c54l1 : ICode :=
 .seq (.region [(rO 17 (.bin .int false .lss (.t 16) (.t 15)))])
  (.live [14, 15, 16, 4, 17] (.seq (.cond (.t 17) (.skip)
  (.exit 0))
  (.live [14, 15, 16, 4] (.seq (.block 1 (.seq (.region [(rO 18 (.iaddr none 14 (.t 14) (.t 16))),
  (rO 19 (.load (some 14) (.t 18))),
  (rO 6 (.fresh [(.i .i64 0), (.i .u8 0), (.i .u8 0), (.i .u8 0), (.i .u8 0), (.i .i64 0), (.i .u64 0), (.i .u64 0), (.i .u64 0), (.i .u64 0), (.i .u64 0), (.i .u64 0), (.i .u64 0), (.i .u64 0)])),
  ⟨none, none, (.op (.store 14 (.t 6) (.t 19)))⟩])
  (.live [14, 15, 16, 6, 4] (.draw c54d0 [4]))))
  (.live [14, 15, 4, 16] (.region [(rO 29 (.bin .int true .add (.t 16) (.c (.i .i64 1)))),
  (rO 16 (.mv (.t 29)))]))))))
def c54 : IFunc := ⟨1, [.tmp 2, .tmp 3],
 .seq (.region [(rO 1 (.box (.t 0))),
  (rO 2 (.mv (.c .sn))),
  (rO 3 (.mv (.c (.i .i64 0))))])
  (.live [1] (.seq (.seq (.region [(rO 7 (.load (some 2) (.t 1))),
  ⟨(some 8), none, (.call 46 [(.t 7)])⟩,
  (rO 9 (.un .not (.t 8)))])
  (.live [1, 9] (.cond (.t 9) (.seq (.region [(rO 2 (.mv (.c .sn))),
  (rO 3 (.mv (.c (.i .i64 131))))])
  (.ret))
  (.skip))))
  (.live [1] (.seq (.region [(rO 10 (.faddr 0 (.t 1))),
  (rO 11 (.load none (.t 10))),
  (rO 12 (.bslice [(.i .u64 0)] 1 [(0, 1, (.t 11))])),
  (rO 4 (.mv (.t 12)))])
  (.live [4, 1] (.seq (.seq (.region [(rO 13 (.faddr 1 (.t 1))),
  (rO 14 (.load none (.t 13))),
  (rO 15 (.len .slice (.t 14))),
  (rO 16 (.mv (.c (.i .i64 0))))])
  (.live [14, 15, 16, 4] (.block 0 (.loop [14, 15, 16, 4] c54l1))))
  (.live [4] (.seq (.region [(rO 30 (.mv (.t 4))),
  ⟨(some 31), none, (.call 56 [(.t 30)])⟩,
  (rO 2 (.mv (.t 31))),
  (rO 3 (.mv (.c (.i .i64 0))))])
  (.ret))))))))),
 []⟩
def c55l0 : ICode :=
 .seq (.region [(rO 12 (.bin .int false .lss (.t 11) (.t 10)))])
  (.live [9, 0, 10, 11, 3, 12] (.seq (.cond (.t 12) (.skip)
  (.exit 0))
  (.live [9, 0, 10, 11, 3] (.seq (.block 1 (.seq (.region [(rO 13 (.iaddr none 1 (.t 9) (.t 11))),
  (rO 14 (.load none (.t 13))),
  (rO 5 (.mv (.t 14)))])
  (.live [9, 0, 10, 11, 5, 3] (.seq (.region [(rO 15 (.mv (.t 3))),
  (rO 16 (.mv (.t 5))),
  (rO 17 (.len .slice (.t 16))),
  (rO 18 (.bin .int false .add (.t 15) (.t 17))),
  (rO 3 (.mv (.t 18)))])
  (.live [9, 0, 10, 3, 11] (.seq (.region [(rO 19 (.mv (.t 3))),
  (rO 20 (.bin .int true .lss (.t 19) (.c (.i .i64 0))))])
  (.live [9, 0, 10, 3, 11, 20] (.cond (.t 20) (.region [(rO 21 (.bad)),
  ⟨none, none, (.op (.bad))⟩])
  (.skip)))))))))
  (.live [9, 0, 10, 3, 11] (.region [(rO 22 (.bin .int true .add (.t 11) (.c (.i .i64 1)))),
  (rO 11 (.mv (.t 22)))]))))))
def c55l1 : ICode :=
 .seq (.region [(rO 28 (.bin .int false .lss (.t 27) (.t 26)))])
  (.live [25, 26, 27, 6, 28] (.seq (.cond (.t 28) (.skip)
  (.exit 2))
  (.live [25, 26, 27, 6] (.seq (.block 3 (.seq (.region [(rO 29 (.iaddr none 1 (.t 25) (.t 27))),
  (rO 30 (.load none (.t 29))),
  (rO 8 (.mv (.t 30)))])
  (.live [25, 26, 27, 8, 6] (.region [(rO 31 (.mv (.t 6))),
  (rO 32 (.mv (.t 8))),
  (rO 33 (.app 1 1 (.t 31) (.t 32))),
  (rO 6 (.mv (.t 33)))]))))
  (.live [25, 26, 6, 27] (.region [(rO 34 (.bin .int true .add (.t 27) (.c (.i .i64 1)))),
  (rO 27 (.mv (.t 34)))]))))))
def c55 : IFunc := ⟨1, [.tmp 2],
 .seq (.region [(rO 2 (.mv (.c .sn)))])
  (.live [0] (.seq (.region [(rO 3 (.mv (.c (.i .i64 0))))])
  (.live [0, 3] (.seq (.seq (.region [(rO 9 (.mv (.t 0))),
  (rO 10 (.len .slice (.t 9))),
  (rO 11 (.mv (.c (.i .i64 0))))])
  (.live [9, 0, 10, 11, 3] (.block 0 (.loop [9, 0, 10, 11, 3] c55l0))))
  (.live [0, 3] (.seq (.region [(rO 23 (.mv (.t 3))),
  ⟨(some 24), none, (.call 79 [(.c .sn), (.t 23)])⟩,
  (rO 6 (.mv (.t 24)))])
  (.live [6, 0] (.seq (.seq (.region [(rO 25 (.mv (.t 0))),
  (rO 26 (.len .slice (.t 25))),
  (rO 27 (.mv (.c (.i .i64 0))))])
  (.live [25, 26, 27, 6] (.block 2 (.loop [25, 26, 27, 6] c55l1))))
  (.live [6] (.seq (.region [(rO 35 (.mv (.t 6))),
  (rO 2 (.mv (.t 35)))])
  (.ret))))))))))),
 []⟩
def c56l0 : ICode :=
 .seq (.region [(rO 9 (.bin .int false .lss (.t 8) (.t 7)))])
  (.live [6, 7, 8, 3, 9] (.seq (.cond (.t 9) (.skip)
  (.exit 0))
  (.live [6, 7, 8, 3] (.seq (.block 1 (.seq (.region [(rO 10 (.iaddr none 1 (.t 6) (.t 8))),
  (rO 11 (.load none (.t 10))),
  (rO 5 (.mv (.t 11)))])
  (.live [6, 7, 8, 5, 3] (.region [(rO 12 (.mv (.t 3))),
  (rO 13 (.mv (.t 5))),
  ⟨(some 14), none, (.call 80 [(.t 13)])⟩,
  (rO 15 (.app 1 1 (.t 12) (.t 14))),
  (rO 3 (.mv (.t 15)))]))))
  (.live [6, 7, 3, 8] (.region [(rO 16 (.bin .int true .add (.t 8) (.c (.i .i64 1)))),
  (rO 8 (.mv (.t 16)))]))))))
def c56 : IFunc := ⟨1, [.tmp 2],
 .seq (.region [(rO 2 (.mv (.c .sn)))])
  (.live [0] (.seq (.region [(rO 3 (.mv (.c .sn)))])
  (.live [3, 0] (.seq (.seq (.region [(rO 6 (.mv (.t 0))),
  (rO 7 (.len .slice (.t 6))),
  (rO 8 (.mv (.c (.i .i64 0))))])
  (.live [6, 7, 8, 3] (.block 0 (.loop [6, 7, 8, 3] c56l0))))
  (.live [3] (.seq (.region [(rO 17 (.mv (.t 3))),
  (rO 2 (.mv (.t 17)))])
  (.ret))))))),
 []⟩
def c57 : IFunc := ⟨1, [.tmp 2],
 .seq (.region [(rO 2 (.mv (.c (.i .i64 0))))])
  (.live [0] (.seq (.seq (.region [(rO 3 (.mv (.t 0))),
  (rO 4 (.bin .int true .lss (.t 3) (.c (.i .i64 0)))),
  (rO 5 (.mv (.t 4))),
  ⟨(some 6), some (5, false), (.op (.mv (.t 0)))⟩,
  ⟨(some 7), some (5, false), (.op (.bin .int true .gtr (.t 6) (.c (.i .i64 700))))⟩,
  (rO 8 (.pick (.t 5) (.c (.b true)) (.t 7)))])
  (.live [0, 8] (.cond (.t 8) (.seq (.region [(rO 2 (.mv (.c (.i .i64 0))))])
  (.ret))
  (.skip))))
  (.live [0] (.seq (.region [(rO 9 (.mv (.t 0))),
  (rO 10 (.bin .int true .add (.c (.i .i64 14)) (.t 9))),
  (rO 11 (.bin .int true .add (.t 10) (.c (.i .i64 4)))),
  (rO 12 (.bin .int true .add (.t 11) (.c (.i .i64 64)))),
  (rO 13 (.bin .int true .sub (.t 12) (.c (.i .i64 1)))),
  (rO 14 (.bin .int true .quo (.t 13) (.c (.i .i64 64)))),
  (rO 2 (.mv (.t 14)))])
  (.ret))))),
 []⟩
def c58 : IFunc := ⟨1, [.tmp 2],
 .seq (.region [(rO 2 (.mv (.c .sn)))])
  (.live [0] (.seq (.region [(rO 3 (.mv (.t 0))),
  (rO 4 (.mv (.t 0))),
  (rO 5 (.bslice [.sn] 1 [(0, 1, (.t 4))])),
  ⟨(some 6), none, (.call 82 [(.t 5)])⟩,
  ⟨(some 7), none, (.call 81 [(.t 6)])⟩,
  (rO 8 (.bslice [.sn] 2 [(0, 1, (.t 3)), (1, 1, (.t 7))])),
  ⟨(some 9), none, (.call 55 [(.t 8)])⟩,
  (rO 2 (.mv (.t 9)))])
  (.ret))),
 []⟩
def c59ra0 : ICode :=
 .region [(rO 6 (.mv (.t 11)))]
def c59rb0 : ICode :=
 .block 1 (.seq (.region [(rO 13 (.load none (.t 5))),
  (rO 14 (.mv (.t 6))),
  (rO 15 (.load none (.t 2))),
  (rO 16 (.toInt .u8 (.t 15))),
  (rO 17 (.iaddr none 1 (.t 13) (.t 14))),
  ⟨none, none, (.op (.store 1 (.t 17) (.t 16)))⟩])
  (.live [2] (.region [(rO 18 (.load none (.t 2))),
  (rO 19 (.bin .int true .shr (.t 18) (.c (.i .u64 8)))),
  ⟨none, none, (.op (.store 1 (.t 2) (.t 19)))⟩])))
def c59 : IFunc := ⟨2, [.tmp 4],
 .seq (.region [(rO 2 (.box (.t 0))),
  (rO 4 (.mv (.c .sn)))])
  (.live [11, 6, 15, 13, 14, 17, 16, 18, 2, 19, 1] (.seq (.region [(rO 7 (.mv (.t 1))),
  (rO 8 (.mks [(.i .u8 0)] 1 (.t 7) (.t 7))),
  (rO 5 (.fresh [.sn])),
  ⟨none, none, (.op (.store 1 (.t 5) (.t 8)))⟩])
  (.live [5, 11, 6, 15, 13, 14, 17, 16, 18, 2, 19] (.seq (.seq (.region [(rO 9 (.load none (.t 5))),
  ⟨(some 10), none, (.call 83 [(.t 9)])⟩])
  (.live [5, 11, 6, 15, 13, 14, 17, 16, 18, 2, 19, 10] (.block 0 (.rf (.t 10) 59 [true, true, false, true, false] [11, 5, 6, 2, 15, 13, 14, 17, 16, 2, 18, 2, 19]))))
  (.live [5] (.seq (.region [(rO 20 (.load none (.t 5))),
  (rO 4 (.mv (.t 20)))])
  (.ret))))))),
 [([true, true, false, true, false], [11, 12], c59ra0, c59rb0)]⟩
def c60 : IFunc := ⟨1, [.tmp 2],
 .seq (.region [(rO 2 (.mv (.c (.b false))))])
  (.live [] (.seq (.region [(rO 2 (.mv (.c (.b true))))])
  (.ret))),
 []⟩
def c61 : IFunc := ⟨2, [.tmp 4],
 .seq (.region [(rO 4 (.mv (.c .sn)))])
  (.live [0, 1] (.seq (.seq (.region [(rO 5 (.mv (.t 1))),
  (rO 6 (.bin .int true .eql (.t 5) (.c (.i .i64 0))))])
  (.live [0, 1, 6] (.cond (.t 6) (.seq (.region [(rO 7 (.bslice [(.i .u8 0)] 0 [])),
  (rO 4 (.mv (.t 7)))])
  (.ret))
  (.skip))))
  (.live [0, 1] (.seq (.region [(rO 8 (.mv (.t 0))),
  (rO 9 (.bin .int true .quo (.t 8) (.c (.i .u64 256)))),
  (rO 10 (.mv (.t 1))),
  (rO 11 (.bin .int true .sub (.t 10) (.c (.i .i64 1)))),
  ⟨(some 12), none, (.call 61 [(.t 9), (.t 11)])⟩,
  (rO 13 (.mv (.t 0))),
  (rO 14 (.bin .int true .rem (.t 13) (.c (.i .u64 256)))),
  (rO 15 (.toInt .u8 (.t 14))),
  (rO 16 (.bslice [(.i .u8 0)] 1 [(0, 1, (.t 15))])),
  (rO 17 (.app 1 1 (.t 12) (.t 16))),
  (rO 4 (.mv (.t 17)))])
  (.ret))))),
 []⟩
def c62 : IFunc := ⟨1, [.tmp 2],
 .seq (.region [(rO 2 (.mv (.c .sn)))])
  (.live [0] (.seq (.region [(rO 5 (.mv (.t 0))),
  ⟨(some 6), none, (.call 84 [(.t 5)])⟩,
  (rO 3 (.mv (.t 6)))])
  (.live [3, 0] (.seq (.region [(rO 7 (.bslice [(.i .u8 0)] 0 [])),
  (rO 8 (.mv (.t 0))),
  (rO 9 (.app 1 1 (.t 7) (.t 8))),
  (rO 4 (.mv (.t 9)))])
  (.live [3, 4] (.seq (.region [(rO 10 (.mv (.t 4))),
  (rO 11 (.mv (.t 3))),
  (rO 12 (.bin .int true .quo (.t 11) (.c (.i .u32 16777216)))),
  (rO 13 (.toInt .u8 (.t 12))),
  (rO 14 (.mv (.t 3))),
  (rO 15 (.bin .int true .quo (.t 14) (.c (.i .u32 65536)))),
  (rO 16 (.bin .int true .rem (.t 15) (.c (.i .u32 256)))),
  (rO 17 (.toInt .u8 (.t 16))),
  (rO 18 (.mv (.t 3))),
  (rO 19 (.bin .int true .quo (.t 18) (.c (.i .u32 256)))),
  (rO 20 (.bin .int true .rem (.t 19) (.c (.i .u32 256)))),
  (rO 21 (.toInt .u8 (.t 20))),
  (rO 22 (.mv (.t 3))),
  (rO 23 (.bin .int true .rem (.t 22) (.c (.i .u32 256)))),
  (rO 24 (.toInt .u8 (.t 23))),
  (rO 25 (.bslice [(.i .u8 0)] 4 [(0, 1, (.t 13)), (1, 1, (.t 17)), (2, 1, (.t 21)), (3, 1, (.t 24))])),
  (rO 26 (.app 1 1 (.t 10) (.t 25))),
  (rO 2 (.mv (.t 26)))])
  (.ret))))))),
 []⟩
def c63l0 : ICode :=
 .seq (.region [(rO 40 (.bin .int false .lss (.t 39) (.t 38)))])
  (.live [37, 2, 6, 5, 38, 39, 7, 40] (.seq (.cond (.t 40) (.skip)
  (.exit 0))
  (.live [37, 2, 6, 5, 38, 39, 7] (.seq (.block 1 (.seq (.region [(rO 41 (.iaddr none 64 (.t 37) (.t 39))),
  (rO 42 (.load (some 64) (.t 41))),
  (rO 9 (.fresh [(.i .u8 0), (.i .u8 0), (.i .u8 0), (.i .u8 0), (.i .u8 0), (.i .u8 0), (.i .u8 0), (.i .u8 0), (.i .u8 0), (.i .u8 0), (.i .u8 0), (.i .u8 0), (.i .u8 0), (.i .u8 0), (.i .u8 0), (.i .u8 0), (.i .u8 0), (.i .u8 0), (.i .u8 0), (.i .u8 0), (.i .u8 0), (.i .u8 0), (.i .u8 0), (.i .u8 0), (.i .u8 0), (.i .u8 0), (.i .u8 0), (.i .u8 0), (.i .u8 0), (.i .u8 0), (.i .u8 0), (.i .u8 0), (.i .u8 0), (.i .u8 0), (.i .u8 0), (.i .u8 0), (.i .u8 0), (.i .u8 0), (.i .u8 0), (.i .u8 0), (.i .u8 0), (.i .u8 0), (.i .u8 0), (.i .u8 0), (.i .u8 0), (.i .u8 0), (.i .u8 0), (.i .u8 0), (.i .u8 0), (.i .u8 0), (.i .u8 0), (.i .u8 0), (.i .u8 0), (.i .u8 0), (.i .u8 0), (.i .u8 0), (.i .u8 0), (.i .u8 0), (.i .u8 0), (.i .u8 0), (.i .u8 0), (.i .u8 0), (.i .u8 0), (.i .u8 0)])),
  ⟨none, none, (.op (.store 64 (.t 9) (.t 42)))⟩])
  (.live [37, 2, 6, 5, 38, 39, 9, 7] (.region [(rO 43 (.mv (.t 7))),
  (rO 44 (.sla 64 1 (.t 9) none none none)),
  (rO 45 (.app 1 1 (.t 43) (.t 44))),
  (rO 7 (.mv (.t 45)))]))))
  (.live [37, 2, 6, 5, 38, 7, 39] (.region [(rO 46 (.bin .int true .add (.t 39) (.c (.i .i64 1)))),
  (rO 39 (.mv (.t 46)))]))))))
def c63d1 : List Stage :=
 [⟨[(⟨(some 67), none, (.op (.mv (.t 11)))⟩, 0), (⟨(some 68), none, (.op (.slice 1 (.t 67) (some (.c (.i .i64 2))) (some (.c (.i .i64 10))) none))⟩, 0), (⟨(some 70), none, (.op (.mv (.t 11)))⟩, 1), (⟨(some 71), none, (.op (.slice 1 (.t 70) (some (.c (.i .i64 10))) (some (.c (.i .i64 14))) none))⟩, 1), (⟨(some 74), none, (.op (.mv (.t 11)))⟩, 2), (⟨(some 75), none, (.op (.slice 1 (.t 74) (some (.c (.i .i64 14))) none none))⟩, 2)], none, some ⟨(some 69), none, (.call 85 [(.t 68)])⟩⟩,
  ⟨[], none, some ⟨(some 72), none, (.call 85 [(.t 71)])⟩⟩,
  ⟨[(⟨(some 73), none, (.op (.toInt .u32 (.t 72)))⟩, 2), (⟨(some 76), none, (.op (.build [(.i .u64 0), (.i .u32 0), .sn] [(0, 1, (.t 69)), (1, 1, (.t 73)), (2, 1, (.t 75))]))⟩, 2)], some ⟨(some 14), none, (.op (.fresh [(.i .u64 0), (.i .u32 0), .sn]))⟩, some ⟨none, none, (.op (.store 3 (.t 14) (.t 76)))⟩⟩,
  ⟨[], none, none⟩]
def c63d1w : List (ROp × Bool) :=
 [((rO 67 (.mv (.t 11))), false), ((rO 68 (.slice 1 (.t 67) (some (.c (.i .i64 2))) (some (.c (.i .i64 10))) none)), false), ((rO 70 (.mv (.t 11))), false), ((rO 71 (.slice 1 (.t 70) (some (.c (.i .i64 10))) (some (.c (.i .i64 14))) none)), false), ((rO 74 (.mv (.t 11))), false), ((rO 75 (.slice 1 (.t 74) (some (.c (.i .i64 14))) none none)), false), (⟨(some 69), none, (.call 85 [(.t 68)])⟩, true), (⟨(some 72), none, (.call 85 [(.t 71)])⟩, true), ((rO 73 (.toInt .u32 (.t 72))), false), ((rO 76 (.build [(.i .u64 0), (.i .u32 0), .sn] [(0, 1, (.t 69)), (1, 1, (.t 73)), (2, 1, (.t 75))])), false), ((rO 14 (.fresh [(.i .u64 0), (.i .u32 0), .sn])), true), (⟨none, none, (.op (.store 3 (.t 14) (.t 76)))⟩, false)]
theorem c63d1_w {P : Program} {O : Orc} {S0 : Mem} {rd : Bool} {e : Env} {S : Mem} {d : List Nat} {Q : Kont} : W P O S0 rd (.draw c63d1 []) e S d Q = wFl O c63d1w e S (normK Q d) := W_draw' (by kernel_rfl) (by kernel_rfl)
attribute [go_sem] c63d1_w c63d1w
def c63 : IFunc := ⟨1, [.cell 2 (some 3), .tmp 3, .tmp 4],
 .seq (.region [(rO 2 (.fresh [(.i .u64 0), (.i .u32 0), .sn])),
  (rO 3 (.mv (.c (.i .i64 0)))),
  (rO 4 (.mv (.c (.b false))))])
  (.live [2, 0] (.seq (.seq (.region [(rO 15 (.mv (.t 0))),
  (rO 16 (.len .slice (.t 15))),
  (rO 17 (.bin .int true .eql (.t 16) (.c (.i .i64 0))))])
  (.live [2, 0, 17] (.cond (.t 17) (.seq (.region [(rO 18 (.build [(.i .u64 0), (.i .u32 0), .sn] [])),
  ⟨none, none, (.op (.store 3 (.t 2) (.t 18)))⟩,
  (rO 3 (.mv (.c (.i .i64 0)))),
  (rO 4 (.mv (.c (.b false))))])
  (.ret))
  (.skip))))
  (.live [2, 0] (.seq (.region [(rO 19 (.mv (.t 0))),
  (rO 20 (.iaddr none 64 (.t 19) (.c (.i .i64 0)))),
  (rO 21 (.sla 64 1 (.t 20) none (some (.c (.i .i64 2))) none)),
  ⟨(some 22), none, (.call 85 [(.t 21)])⟩,
  (rO 23 (.toInt .i64 (.t 22))),
  (rO 5 (.mv (.t 23)))])
  (.live [2, 5, 0] (.seq (.region [(rO 24 (.mv (.t 5))),
  ⟨(some 25), none, (.call 57 [(.t 24)])⟩,
  (rO 6 (.mv (.t 25)))])
  (.live [2, 6, 5, 0] (.seq (.seq (.region [(rO 26 (.mv (.t 6))),
  (rO 27 (.bin .int true .eql (.t 26) (.c (.i .i64 0)))),
  (rO 28 (.mv (.t 27))),
  ⟨(some 29), some (28, false), (.op (.mv (.t 6)))⟩,
  ⟨(some 30), some (28, false), (.op (.mv (.t 0)))⟩,
  ⟨(some 31), some (28, false), (.op (.len .slice (.t 30)))⟩,
  ⟨(some 32), some (28, false), (.op (.bin .int false .gtr (.t 29) (.t 31)))⟩,
  (rO 33 (.pick (.t 28) (.c (.b true)) (.t 32)))])
  (.live [2, 6, 5, 0, 33] (.cond (.t 33) (.seq (.region [(rO 34 (.build [(.i .u64 0), (.i .u32 0), .sn] [])),
  ⟨none, none, (.op (.store 3 (.t 2) (.t 34)))⟩,
  (rO 3 (.mv (.c (.i .i64 0)))),
  (rO 4 (.mv (.c (.b false))))])
  (.ret))
  (.skip))))
  (.live [2, 6, 5, 0] (.seq (.region [(rO 7 (.mv (.c .sn)))])
  (.live [2, 6, 5, 7, 0] (.seq (.seq (.region [(rO 35 (.mv (.t 0))),
  (rO 36 (.mv (.t 6))),
  (rO 37 (.slice 64 (.t 35) none (some (.t 36)) none)),
  (rO 38 (.len .slice (.t 37))),
  (rO 39 (.mv (.c (.i .i64 0))))])
  (.live [37, 2, 6, 5, 38, 39, 7] (.block 0 (.loop [37, 2, 6, 5, 38, 39, 7] c63l0))))
  (.live [2, 6, 7, 5] (.seq (.region [(rO 47 (.mv (.t 5))),
  (rO 48 (.bin .int true .add (.c (.i .i64 14)) (.t 47))),
  (rO 49 (.bin .int true .add (.t 48) (.c (.i .i64 4)))),
  (rO 10 (.mv (.t 49)))])
  (.live [2, 6, 10, 7] (.seq (.region [(rO 51 (.mv (.t 7))),
  (rO 52 (.mv (.t 10))),
  (rO 53 (.slice 1 (.t 51) none (some (.t 52)) none)),
  ⟨(some 54), none, (.call 86 [(.t 53)])⟩,
  (rO 50 (.mv (.t 54))),
  (rO 55 (.ext (.t 50) 0)),
  (rO 56 (.ext (.t 50) 1)),
  (rO 11 (.mv (.t 55))),
  (rO 12 (.mv (.t 56)))])
  (.live [2, 6, 11, 12, 10, 7] (.seq (.region [(rO 57 (.mv (.t 7))),
  (rO 58 (.mv (.t 10))),
  (rO 59 (.slice 1 (.t 57) (some (.t 58)) none none)),
  ⟨(some 60), none, (.call 87 [(.t 59), (.c (.f (.func 88) [] []))])⟩,
  (rO 13 (.mv (.t 60)))])
  (.live [2, 6, 11, 13, 12] (.seq (.seq (.region [(rO 61 (.mv (.t 12))),
  (rO 62 (.un .not (.t 61))),
  (rO 63 (.mv (.t 62))),
  ⟨(some 64), some (63, false), (.op (.mv (.t 13)))⟩,
  (rO 65 (.pick (.t 63) (.c (.b true)) (.t 64)))])
  (.live [2, 6, 11, 65] (.cond (.t 65) (.seq (.region [(rO 66 (.build [(.i .u64 0), (.i .u32 0), .sn] [])),
  ⟨none, none, (.op (.store 3 (.t 2) (.t 66)))⟩,
  (rO 3 (.mv (.c (.i .i64 0)))),
  (rO 4 (.mv (.c (.b false))))])
  (.ret))
  (.skip))))
  (.live [2, 6, 11] (.seq (.draw c63d1 [])
  (.live [2, 6, 14] (.seq (.seq (.region [(rO 77 (.faddr 0 (.t 14))),
  (rO 78 (.load none (.t 77))),
  (rO 79 (.bin .int true .eql (.t 78) (.c (.i .u64 0))))])
  (.live [2, 6, 14, 79] (.cond (.t 79) (.seq (.region [(rO 80 (.build [(.i .u64 0), (.i .u32 0), .sn] [])),
  ⟨none, none, (.op (.store 3 (.t 2) (.t 80)))⟩,
  (rO 3 (.mv (.c (.i .i64 0)))),
  (rO 4 (.mv (.c (.b false))))])
  (.ret))
  (.skip))))
  (.live [2, 6, 14] (.seq (.region [(rO 81 (.load (some 3) (.t 14))),
  (rO 82 (.mv (.t 6))),
  ⟨none, none, (.op (.store 3 (.t 2) (.t 81)))⟩,
  (rO 3 (.mv (.t 82))),
  (rO 4 (.mv (.c (.b true))))])
  (.ret))))))))))))))))))))))))))),
 []⟩
def c64d0 : List Stage :=
 [⟨[(⟨(some 60), none, (.op (.load (some 6) (.t 14)))⟩, 1), (⟨(some 61), none, (.op (.mv (.t 12)))⟩, 0), (⟨(some 62), none, (.op (.mv (.t 61)))⟩, 0), (⟨(some 63), some (62, true), (.op (.mv (.t 8)))⟩, 0), (⟨(some 64), some (62, true), (.op (.bin .int true .eql (.t 63) (.c (.i .i64 0))))⟩, 0), (⟨(some 65), none, (.op (.pick (.t 62) (.t 64) (.c (.b false))))⟩, 0), (⟨(some 66), none, (.op (.mv (.t 65)))⟩, 0), (⟨(some 67), some (66, true), (.op (.mv (.t 0)))⟩, 0), (⟨(some 68), some (66, true), (.op (.load (some 6) (.t 14)))⟩, 0)], none, some ⟨(some 69), some (66, true), (.call 20 [(.t 67), (.t 68)])⟩⟩,
  ⟨[(⟨(some 70), none, (.op (.pick (.t 66) (.t 69) (.c (.b false))))⟩, 2)], none, some ⟨none, none, (.op (.store 6 (.t 4) (.t 60)))⟩⟩,
  ⟨[(⟨(some 5), none, (.op (.mv (.t 70)))⟩, 2)], none, none⟩]
def c64d0w : List (ROp × Bool) :=
 [((rO 60 (.load (some 6) (.t 14))), false), ((rO 61 (.mv (.t 12))), false), ((rO 62 (.mv (.t 61))), false), (⟨(some 63), some (62, true), (.op (.mv (.t 8)))⟩, false), (⟨(some 64), some (62, true), (.op (.bin .int true .eql (.t 63) (.c (.i .i64 0))))⟩, false), ((rO 65 (.pick (.t 62) (.t 64) (.c (.b false)))), false), ((rO 66 (.mv (.t 65))), false), (⟨(some 67), some (66, true), (.op (.mv (.t 0)))⟩, false), (⟨(some 68), some (66, true), (.op (.load (some 6) (.t 14)))⟩, false), (⟨(some 69), some (66, true), (.call 20 [(.t 67), (.t 68)])⟩, true), ((rO 70 (.pick (.t 66) (.t 69) (.c (.b false)))), false), (⟨none, none, (.op (.store 6 (.t 4) (.t 60)))⟩, false), ((rO 5 (.mv (.t 70))), false)]
theorem c64d0_w {P : Program} {O : Orc} {S0 : Mem} {rd : Bool} {e : Env} {S : Mem} {d : List Nat} {Q : Kont} : W P O S0 rd (.draw c64d0 []) e S d Q = wFl O c64d0w e S (normK Q d) := W_draw' (by kernel_rfl) (by kernel_rfl)
attribute [go_sem] c64d0_w c64d0w
def c64 : IFunc := ⟨2, [.cell 4 (some 6), .tmp 5],
 .seq (.region [(rO 3 (.box (.t 1))),
  (rO 4 (.fresh [(.i .u64 0), (.i .u32 0), (.i .u64 0), (.i .i64 0), (.i .u64 0), .sn])),
  (rO 5 (.mv (.c (.b false))))])
  (.live [4, 0, 3] (.seq (.region [(rO 16 (.faddr 2 (.t 3))),
  (rO 17 (.load none (.t 16))),
  ⟨(some 18), none, (.call 89 [(.t 17)])⟩,
  (rO 15 (.mv (.t 18))),
  (rO 19 (.ext (.t 15) 0)),
  (rO 20 (.ext (.t 15) 1)),
  (rO 21 (.ext (.t 15) 2)),
  (rO 6 (.mv (.t 19))),
  (rO 7 (.mv (.t 20))),
  (rO 8 (.mv (.t 21)))])
  (.live [4, 0, 6, 3, 7, 8] (.seq (.seq (.region [(rO 22 (.mv (.t 8))),
  (rO 23 (.bin .int true .neq (.t 22) (.c (.i .i64 0))))])
  (.live [4, 0, 6, 3, 7, 23] (.cond (.t 23) (.seq (.region [(rO 24 (.build [(.i .u64 0), (.i .u32 0), (.i .u64 0), (.i .i64 0), (.i .u64 0), .sn] [])),
  ⟨none, none, (.op (.store 6 (.t 4) (.t 24)))⟩,
  (rO 5 (.mv (.c (.b false))))])
  (.ret))
  (.skip))))
  (.live [4, 0, 6, 3, 7] (.seq (.region [(rO 26 (.faddr 2 (.t 3))),
  (rO 27 (.load none (.t 26))),
  (rO 28 (.mv (.t 7))),
  (rO 29 (.slice 1 (.t 27) (some (.t 28)) none none)),
  ⟨(some 30), none, (.call 89 [(.t 29)])⟩,
  (rO 25 (.mv (.t 30))),
  (rO 31 (.ext (.t 25) 0)),
  (rO 32 (.ext (.t 25) 1)),
  (rO 33 (.ext (.t 25) 2)),
  (rO 9 (.mv (.t 31))),
  (rO 10 (.mv (.t 32))),
  (rO 8 (.mv (.t 33)))])
  (.live [4, 0, 6, 3, 10, 7, 9, 8] (.seq (.seq (.region [(rO 34 (.mv (.t 8))),
  (rO 35 (.bin .int true .neq (.t 34) (.c (.i .i64 0))))])
  (.live [4, 0, 6, 3, 10, 7, 9, 35] (.cond (.t 35) (.seq (.region [(rO 36 (.build [(.i .u64 0), (.i .u32 0), (.i .u64 0), (.i .i64 0), (.i .u64 0), .sn] [])),
  ⟨none, none, (.op (.store 6 (.t 4) (.t 36)))⟩,
  (rO 5 (.mv (.c (.b false))))])
  (.ret))
  (.skip))))
  (.live [4, 0, 6, 3, 10, 7, 9] (.seq (.region [(rO 38 (.mv (.t 9))),
  ⟨(some 39), none, (.call 90 [(.t 38)])⟩,
  (rO 37 (.mv (.t 39))),
  (rO 40 (.ext (.t 37) 0)),
  (rO 41 (.ext (.t 37) 1)),
  (rO 11 (.mv (.t 40))),
  (rO 12 (.mv (.t 41)))])
  (.live [4, 12, 0, 11, 6, 3, 10, 7] (.seq (.region [(rO 43 (.faddr 2 (.t 3))),
  (rO 44 (.load none (.t 43))),
  (rO 45 (.mv (.t 7))),
  (rO 46 (.mv (.t 10))),
  (rO 47 (.bin .int false .add (.t 45) (.t 46))),
  (rO 48 (.slice 1 (.t 44) (some (.t 47)) none none)),
  ⟨(some 49), none, (.call 91 [(.t 48)])⟩,
  (rO 42 (.mv (.t 49))),
  (rO 50 (.ext (.t 42) 0)),
  (rO 51 (.ext (.t 42) 1)),
  (rO 13 (.fresh [(.i .u64 0), .sn])),
  ⟨none, none, (.op (.store 2 (.t 13) (.t 50)))⟩,
  (rO 8 (.mv (.t 51)))])
  (.live [4, 12, 8, 0, 13, 11, 6, 3] (.seq (.region [(rO 52 (.faddr 0 (.t 3))),
  (rO 53 (.load none (.t 52))),
  (rO 54 (.faddr 1 (.t 3))),
  (rO 55 (.load none (.t 54))),
  (rO 56 (.mv (.t 6))),
  (rO 57 (.mv (.t 11))),
  (rO 58 (.load (some 2) (.t 13))),
  (rO 59 (.build [(.i .u64 0), (.i .u32 0), (.i .u64 0), (.i .i64 0), (.i .u64 0), .sn] [(0, 1, (.t 53)), (1, 1, (.t 55)), (2, 1, (.t 56)), (3, 1, (.t 57)), (4, 2, (.t 58))])),
  (rO 14 (.fresh [(.i .u64 0), (.i .u32 0), (.i .u64 0), (.i .i64 0), (.i .u64 0), .sn])),
  ⟨none, none, (.op (.store 6 (.t 14) (.t 59)))⟩])
  (.live [4, 12, 8, 0, 14] (.seq (.draw c64d0 [])
  (.ret))))))))))))))))),
 []⟩
def c68l0 : ICode :=
 .seq (.region [(rO 18 (.bin .int false .lss (.t 17) (.t 16)))])
  (.live [6, 15, 16, 17, 7, 18] (.seq (.cond (.t 18) (.skip)
  (.exit 0))
  (.live [6, 15, 16, 17, 7] (.seq (.block 1 (.seq (.region [(rO 19 (.iaddr none 1 (.t 15) (.t 17))),
  (rO 20 (.load none (.t 19))),
  (rO 9 (.mv (.t 20)))])
  (.live [6, 15, 16, 17, 7, 9] (.seq (.region [(rO 21 (.mv (.t 9))),
  (rO 22 (.bin .int true .lss (.t 21) (.c (.i .i64 0)))),
  (rO 23 (.mv (.t 22))),
  ⟨(some 24), some (23, false), (.op (.mv (.t 9)))⟩,
  ⟨(some 25), some (23, false), (.op (.mv (.t 6)))⟩,
  ⟨(some 26), some (23, false), (.op (.bin .int false .geq (.t 24) (.t 25)))⟩,
  (rO 27 (.pick (.t 23) (.c (.b true)) (.t 26)))])
  (.live [6, 15, 16, 17, 7, 27] (.cond (.t 27) (.region [(rO 7 (.mv (.c (.i .i64 91))))])
  (.skip)))))))
  (.live [6, 15, 16, 7, 17] (.region [(rO 28 (.bin .int true .add (.t 17) (.c (.i .i64 1)))),
  (rO 17 (.mv (.t 28)))]))))))
def c68 : IFunc := ⟨2, [.tmp 4, .tmp 5],
 .seq (.region [(rO 4 (.mv (.c (.i .i64 0)))),
  (rO 5 (.mv (.c (.i .i64 0))))])
  (.live [1, 0] (.seq (.region [(rO 11 (.mv (.t 0))),
  ⟨(some 12), none, (.call 94 [(.t 11)])⟩,
  (rO 10 (.mv (.t 12))),
  (rO 13 (.ext (.t 10) 0)),
  (rO 14 (.ext (.t 10) 1)),
  (rO 6 (.mv (.t 13))),
  (rO 7 (.mv (.t 14)))])
  (.live [6, 7, 1] (.seq (.seq (.region [(rO 15 (.mv (.t 1))),
  (rO 16 (.len .slice (.t 15))),
  (rO 17 (.mv (.c (.i .i64 0))))])
  (.live [6, 15, 16, 17, 7] (.block 0 (.loop [6, 15, 16, 17, 7] c68l0))))
  (.live [7, 6] (.seq (.region [(rO 29 (.mv (.t 6))),
  (rO 30 (.mv (.t 7))),
  (rO 4 (.mv (.t 29))),
  (rO 5 (.mv (.t 30)))])
  (.ret))))))),
 []⟩
def c69d0 : List Stage :=
 [⟨[(⟨(some 17), none, (.op (.mv (.t 3)))⟩, 0), (⟨(some 18), none, (.op (.faddr 1 (.t 5)))⟩, 0), (⟨(some 19), none, (.op (.load (some 5) (.t 18)))⟩, 0), (⟨(some 20), none, (.op (.mlook true [.int, .int, .int, .int, .int] (.i .i64 0) false (.t 17) (.t 19)))⟩, 1), (⟨(some 21), none, (.op (.bin .int true .add (.t 20) (.c (.i .i64 1))))⟩, 1)], none, some ⟨(some 22), none, (.op (.mentry true [.int, .int, .int, .int, .int] (.i .i64 0) (.t 17) (.t 19)))⟩⟩,
  ⟨[(⟨(some 23), none, (.op (.ext (.t 22) 1))⟩, 1)], none, some ⟨none, none, (.op (.mstore (.t 17) (.t 23) (.t 21)))⟩⟩,
  ⟨[], none, none⟩]
theorem c69d0_e {P : Program} {O : Orc} {S0 : Mem} {rd : Bool} {e : Env} {S : Mem} {d : List Nat} {Q : Kont} : W P O S0 rd (.draw c69d0 []) e S d Q = drawK (evDraw O c69d0 [] e S) (normK Q d) := W_drawE (by kernel_rfl)
attribute [go_sem] c69d0_e
def c69d1 : List Stage :=
 [⟨[(⟨(some 24), none, (.op (.load (some 13) (.t 5)))⟩, 0)], none, some ⟨(some 25), none, (.call 95 [(.t 24)])⟩⟩,
  ⟨[(⟨(some 26), none, (.op (.un .not (.t 25)))⟩, 1), (⟨(some 27), none, (.op (.mv (.t 26)))⟩, 1), (⟨(some 28), some (27, false), (.op (.mv (.t 3)))⟩, 1), (⟨(some 29), some (27, false), (.op (.faddr 1 (.t 5)))⟩, 1), (⟨(some 30), some (27, false), (.op (.load (some 5) (.t 29)))⟩, 1), (⟨(some 31), some (27, false), (.op (.mlook true [.int, .int, .int, .int, .int] (.i .i64 0) false (.t 28) (.t 30)))⟩, 1), (⟨(some 32), some (27, false), (.op (.bin .int true .gtr (.t 31) (.c (.i .i64 1))))⟩, 1), (⟨(some 33), none, (.op (.pick (.t 27) (.c (.b true)) (.t 32)))⟩, 1), (⟨(some 34), none, (.op (.mv (.t 33)))⟩, 1), (⟨(some 35), some (34, false), (.op (.mv (.t 4)))⟩, 1), (⟨(some 36), some (34, false), (.op (.bin .int true .gtr (.t 35) (.c (.i .i64 0))))⟩, 1), (⟨(some 37), some (34, false), (.op (.mv (.t 36)))⟩, 1), (⟨(some 38), some (37, true), (.op (.faddr 0 (.t 5)))⟩, 1), (⟨(some 39), some (37, true), (.op (.load none (.t 38)))⟩, 1), (⟨(some 40), some (37, true), (.op (.mv (.t 0)))⟩, 1), (⟨(some 41), some (37, true), (.op (.mv (.t 4)))⟩, 1), (⟨(some 42), some (37, true), (.op (.bin .int true .sub (.t 41) (.c (.i .i64 1))))⟩, 1), (⟨(some 43), some (37, true), (.op (.iaddr none 13 (.t 40) (.t 42)))⟩, 1), (⟨(some 44), some (37, true), (.op (.faddr 0 (.t 43)))⟩, 1), (⟨(some 45), some (37, true), (.op (.load none (.t 44)))⟩, 1), (⟨(some 46), some (37, true), (.op (.bin .int false .leq (.t 39) (.t 45)))⟩, 1), (⟨(some 47), some (34, false), (.op (.pick (.t 37) (.t 46) (.c (.b false))))⟩, 1), (⟨(some 48), none, (.op (.pick (.t 34) (.c (.b true)) (.t 47)))⟩, 1)], none, none⟩]
def c69d1w : List (ROp × Bool) :=
 [((rO 24 (.load (some 13) (.t 5))), false), (⟨(some 25), none, (.call 95 [(.t 24)])⟩, false), ((rO 26 (.un .not (.t 25))), false), ((rO 27 (.mv (.t 26))), false), (⟨(some 28), some (27, false), (.op (.mv (.t 3)))⟩, false), (⟨(some 29), some (27, false), (.op (.faddr 1 (.t 5)))⟩, false), (⟨(some 30), some (27, false), (.op (.load (some 5) (.t 29)))⟩, false), (⟨(some 31), some (27, false), (.op (.mlook true [.int, .int, .int, .int, .int] (.i .i64 0) false (.t 28) (.t 30)))⟩, false), (⟨(some 32), some (27, false), (.op (.bin .int true .gtr (.t 31) (.c (.i .i64 1))))⟩, false), ((rO 33 (.pick (.t 27) (.c (.b true)) (.t 32))), false), ((rO 34 (.mv (.t 33))), false), (⟨(some 35), some (34, false), (.op (.mv (.t 4)))⟩, false), (⟨(some 36), some (34, false), (.op (.bin .int true .gtr (.t 35) (.c (.i .i64 0))))⟩, false), (⟨(some 37), some (34, false), (.op (.mv (.t 36)))⟩, false), (⟨(some 38), some (37, true), (.op (.faddr 0 (.t 5)))⟩, false), (⟨(some 39), some (37, true), (.op (.load none (.t 38)))⟩, false), (⟨(some 40), some (37, true), (.op (.mv (.t 0)))⟩, false), (⟨(some 41), some (37, true), (.op (.mv (.t 4)))⟩, false), (⟨(some 42), some (37, true), (.op (.bin .int true .sub (.t 41) (.c (.i .i64 1))))⟩, false), (⟨(some 43), some (37, true), (.op (.iaddr none 13 (.t 40) (.t 42)))⟩, false), (⟨(some 44), some (37, true), (.op (.faddr 0 (.t 43)))⟩, false), (⟨(some 45), some (37, true), (.op (.load none (.t 44)))⟩, false), (⟨(some 46), some (37, true), (.op (.bin .int false .leq (.t 39) (.t 45)))⟩, false), (⟨(some 47), some (34, false), (.op (.pick (.t 37) (.t 46) (.c (.b false))))⟩, false), ((rO 48 (.pick (.t 34) (.c (.b true)) (.t 47))), false)]
theorem c69d1_w {P : Program} {O : Orc} {S0 : Mem} {rd : Bool} {e : Env} {S : Mem} {d : List Nat} {Q : Kont} : W P O S0 rd (.draw c69d1 []) e S d Q = wFl O c69d1w e S (normK Q d) := W_draw' (by kernel_rfl) (by kernel_rfl)
attribute [go_sem] c69d1_w c69d1w
def c69l2 : ICode :=
 .seq (.region [(rO 13 (.bin .int false .lss (.t 12) (.t 11)))])
  (.live [3, 0, 10, 11, 12, 13] (.seq (.cond (.t 13) (.skip)
  (.exit 0))
  (.live [3, 0, 10, 11, 12] (.seq (.block 1 (.seq (.region [(rO 14 (.mv (.t 12))),
  (rO 15 (.iaddr none 13 (.t 10) (.t 12))),
  (rO 16 (.load (some 13) (.t 15))),
  (rO 5 (.fresh [(.i .i64 0), (.i .u8 0), (.i .u8 0), (.i .u8 0), (.i .u8 0), (.i .i64 0), (.i .u64 0), (.i .u64 0), (.i .u64 0), (.i .u64 0), (.i .u64 0), (.i .u64 0), (.i .u64 0)])),
  (rO 4 (.mv (.t 14))),
  ⟨none, none, (.op (.store 13 (.t 5) (.t 16)))⟩])
  (.live [3, 0, 10, 11, 12, 5, 4] (.seq (.draw c69d0 [])
  (.live [3, 0, 10, 11, 12, 5, 4] (.seq (.draw c69d1 [])
  (.live [3, 0, 10, 11, 12, 48] (.cond (.t 48) (.seq (.region [(rO 2 (.mv (.c (.i .i64 111))))])
  (.ret))
  (.skip)))))))))
  (.live [3, 0, 10, 11, 12] (.region [(rO 49 (.bin .int true .add (.t 12) (.c (.i .i64 1)))),
  (rO 12 (.mv (.t 49)))]))))))
def c69 : IFunc := ⟨1, [.tmp 2],
 .seq (.region [(rO 2 (.mv (.c (.i .i64 0))))])
  (.live [0] (.seq (.seq (.region [(rO 6 (.mv (.t 0))),
  (rO 7 (.len .slice (.t 6))),
  (rO 8 (.bin .int true .gtr (.t 7) (.c (.i .i64 8))))])
  (.live [0, 8] (.cond (.t 8) (.seq (.region [(rO 2 (.mv (.c (.i .i64 111))))])
  (.ret))
  (.skip))))
  (.live [0] (.seq (.region [(rO 9 (.mkmap none)),
  (rO 3 (.mv (.t 9)))])
  (.live [3, 0] (.seq (.seq (.region [(rO 10 (.mv (.t 0))),
  (rO 11 (.len .slice (.t 10))),
  (rO 12 (.mv (.c (.i .i64 0))))])
  (.live [3, 0, 10, 11, 12] (.block 0 (.loop [3, 0, 10, 11, 12] c69l2))))
  (.live [] (.seq (.region [(rO 2 (.mv (.c (.i .i64 0))))])
  (.ret))))))))),
 []⟩
def c70l0 : ICode :=
 .seq (.region [(rO 9 (.bin .int false .lss (.t 8) (.t 7)))])
  (.live [6, 7, 8, 3, 9] (.seq (.cond (.t 9) (.skip)
  (.exit 0))
  (.live [6, 7, 8, 3] (.seq (.block 1 (.seq (.region [(rO 10 (.iaddr none 14 (.t 6) (.t 8))),
  (rO 11 (.load (some 14) (.t 10))),
  (rO 5 (.fresh [(.i .i64 0), (.i .u8 0), (.i .u8 0), (.i .u8 0), (.i .u8 0), (.i .i64 0), (.i .u64 0), (.i .u64 0), (.i .u64 0), (.i .u64 0), (.i .u64 0), (.i .u64 0), (.i .u64 0), (.i .u64 0)])),
  ⟨none, none, (.op (.store 14 (.t 5) (.t 11)))⟩])
  (.live [6, 7, 8, 5, 3] (.region [(rO 12 (.mv (.t 3))),
  (rO 13 (.faddr 0 (.t 5))),
  (rO 14 (.load (some 13) (.t 13))),
  (rO 15 (.bslice [(.i .i64 0), (.i .u8 0), (.i .u8 0), (.i .u8 0), (.i .u8 0), (.i .i64 0), (.i .u64 0), (.i .u64 0), (.i .u64 0), (.i .u64 0), (.i .u64 0), (.i .u64 0), (.i .u64 0)] 1 [(0, 13, (.t 14))])),
  (rO 16 (.app 13 80 (.t 12) (.t 15))),
  (rO 3 (.mv (.t 16)))]))))
  (.live [6, 7, 3, 8] (.region [(rO 17 (.bin .int true .add (.t 8) (.c (.i .i64 1)))),
  (rO 8 (.mv (.t 17)))]))))))
def c70 : IFunc := ⟨1, [.tmp 2],
 .seq (.region [(rO 2 (.mv (.c .sn)))])
  (.live [0] (.seq (.region [(rO 3 (.mv (.c .sn)))])
  (.live [3, 0] (.seq (.seq (.region [(rO 6 (.mv (.t 0))),
  (rO 7 (.len .slice (.t 6))),
  (rO 8 (.mv (.c (.i .i64 0))))])
  (.live [6, 7, 8, 3] (.block 0 (.loop [6, 7, 8, 3] c70l0))))
  (.live [3] (.seq (.region [(rO 18 (.mv (.t 3))),
  (rO 2 (.mv (.t 18)))])
  (.ret))))))),
 []⟩
def c71 : IFunc := ⟨2, [.tmp 4],
 .seq (.region [(rO 4 (.mv (.c (.b false))))])
  (.live [1, 0] (.seq (.region [(rO 5 (.mv (.t 0))),
  (rO 6 (.mv (.t 1))),
  ⟨(some 7), none, (.call 96 [(.t 5), (.t 6)])⟩,
  (rO 8 (.bin .int true .geq (.t 7) (.c (.i .i64 0)))),
  (rO 4 (.mv (.t 8)))])
  (.ret))),
 []⟩
def c72 : IFunc := ⟨1, [.tmp 2],
 .seq (.region [(rO 1 (.box (.t 0))),
  (rO 2 (.mv (.c (.b false))))])
  (.live [1] (.seq (.region [(rO 3 (.faddr 13 (.t 1))),
  (rO 4 (.load none (.t 3))),
  (rO 5 (.bin .int true .gtr (.t 4) (.c (.i .u64 281474976710656)))),
  (rO 2 (.mv (.t 5)))])
  (.ret))),
 []⟩
def c73d0 : List Stage :=
 [⟨[(⟨(some 16), none, (.op (.mv (.t 0)))⟩, 0), (⟨(some 17), none, (.op (.mv (.t 5)))⟩, 0), (⟨(some 18), none, (.op (.iaddr none 14 (.t 16) (.t 17)))⟩, 0), (⟨(some 19), none, (.op (.load (some 14) (.t 18)))⟩, 0), (⟨(some 20), none, (.op (.mv (.t 1)))⟩, 0), (⟨(some 21), none, (.op (.mv (.t 5)))⟩, 0), (⟨(some 22), none, (.op (.iaddr none 14 (.t 20) (.t 21)))⟩, 0), (⟨(some 23), none, (.op (.load (some 14) (.t 22)))⟩, 0), (⟨(some 24), none, (.op (.eqag true [.int, .int, .int, .int, .int, .int, .int, .int, .int, .int, .int, .int, .int, .int] (.t 19) (.t 23)))⟩, 0)], none, none⟩]
def c73d0w : List (ROp × Bool) :=
 [((rO 16 (.mv (.t 0))), false), ((rO 17 (.mv (.t 5))), false), ((rO 18 (.iaddr none 14 (.t 16) (.t 17))), false), ((rO 19 (.load (some 14) (.t 18))), false), ((rO 20 (.mv (.t 1))), false), ((rO 21 (.mv (.t 5))), false), ((rO 22 (.iaddr none 14 (.t 20) (.t 21))), false), ((rO 23 (.load (some 14) (.t 22))), false), ((rO 24 (.eqag true [.int, .int, .int, .int, .int, .int, .int, .int, .int, .int, .int, .int, .int, .int] (.t 19) (.t 23))), false)]
theorem c73d0_w {P : Program} {O : Orc} {S0 : Mem} {rd : Bool} {e : Env} {S : Mem} {d : List Nat} {Q : Kont} : W P O S0 rd (.draw c73d0 []) e S d Q = wFl O c73d0w e S (normK Q d) := W_draw' (by kernel_rfl) (by kernel_rfl)
attribute [go_sem] c73d0_w c73d0w
def c73l1 : ICode :=
 .seq (.region [(rO 14 (.bin .int false .lss (.t 13) (.t 12)))])
  (.live [0, 1, 12, 13, 14] (.seq (.cond (.t 14) (.skip)
  (.exit 0))
  (.live [0, 1, 12, 13] (.seq (.block 1 (.seq (.region [(rO 15 (.mv (.t 13))),
  (rO 5 (.mv (.t 15)))])
  (.live [0, 1, 12, 13, 5] (.seq (.draw c73d0 [])
  (.live [0, 1, 12, 13, 24] (.cond (.t 24) (.seq (.region [(rO 4 (.mv (.c (.b false))))])
  (.ret))
  (.skip)))))))
  (.live [0, 1, 12, 13] (.region [(rO 25 (.bin .int true .add (.t 13) (.c (.i .i64 1)))),
  (rO 13 (.mv (.t 25)))]))))))
def c73 : IFunc := ⟨2, [.tmp 4],
 .seq (.region [(rO 4 (.mv (.c (.b false))))])
  (.live [0, 1] (.seq (.seq (.region [(rO 6 (.mv (.t 0))),
  (rO 7 (.len .slice (.t 6))),
  (rO 8 (.mv (.t 1))),
  (rO 9 (.len .slice (.t 8))),
  (rO 10 (.bin .int false .neq (.t 7) (.t 9)))])
  (.live [0, 1, 10] (.cond (.t 10) (.seq (.region [(rO 4 (.mv (.c (.b false))))])
  (.ret))
  (.skip))))
  (.live [0, 1] (.seq (.seq (.region [(rO 11 (.mv (.t 0))),
  (rO 12 (.len .slice (.t 11))),
  (rO 13 (.mv (.c (.i .i64 0))))])
  (.live [0, 1, 12, 13] (.block 0 (.loop [0, 1, 12, 13] c73l1))))
  (.live [] (.seq (.region [(rO 4 (.mv (.c (.b true))))])
  (.ret))))))),
 []⟩
def c74 : IFunc := ⟨2, [.tmp 4, .tmp 5],
 .seq (.region [(rO 4 (.mv (.c (.i .i64 0)))),
  (rO 5 (.mv (.c (.i .i64 0))))])
  (.live [1, 0] (.seq (.region [(rO 9 (.mv (.t 0))),
  ⟨(some 10), none, (.call 97 [(.t 9)])⟩,
  (rO 8 (.mv (.t 10))),
  (rO 11 (.ext (.t 8) 0)),
  (rO 12 (.ext (.t 8) 1)),
  (rO 6 (.mv (.t 11))),
  (rO 7 (.mv (.t 12)))])
  (.live [1, 6, 7] (.seq (.seq (.region [(rO 13 (.mv (.t 7))),
  (rO 14 (.bin .int true .neq (.t 13) (.c (.i .i64 0)))),
  (rO 15 (.mv (.t 14))),
  ⟨(some 16), some (15, false), (.op (.mv (.t 1)))⟩,
  ⟨(some 17), some (15, false), (.op (.bin .int true .lss (.t 16) (.c (.i .i64 0))))⟩,
  (rO 18 (.pick (.t 15) (.c (.b true)) (.t 17))),
  (rO 19 (.mv (.t 18))),
  ⟨(some 20), some (19, false), (.op (.mv (.t 1)))⟩,
  ⟨(some 21), some (19, false), (.op (.mv (.t 6)))⟩,
  ⟨(some 22), some (19, false), (.op (.bin .int false .geq (.t 20) (.t 21)))⟩,
  (rO 23 (.pick (.t 19) (.c (.b true)) (.t 22)))])
  (.live [1, 23] (.cond (.t 23) (.seq (.region [(rO 4 (.mv (.c (.i .i64 0)))),
  (rO 5 (.mv (.c (.i .i64 91))))])
  (.ret))
  (.skip))))
  (.live [1] (.seq (.region [(rO 24 (.mv (.t 1))),
  (rO 25 (.bin .int true .mul (.c (.i .i64 16)) (.t 24))),
  (rO 26 (.bin .int true .add (.c (.i .i64 32)) (.t 25))),
  (rO 4 (.mv (.t 26))),
  (rO 5 (.mv (.c (.i .i64 0))))])
  (.ret))))))),
 []⟩
def c75l0 : ICode :=
 .seq (.region [(rO 25 (.bin .int false .lss (.t 24) (.t 23)))])
  (.live [22, 23, 24, 3, 25] (.seq (.cond (.t 25) (.skip)
  (.exit 0))
  (.live [22, 23, 24, 3] (.seq (.block 1 (.seq (.region [(rO 26 (.iaddr none 14 (.t 22) (.t 24))),
  (rO 27 (.load (some 14) (.t 26))),
  (rO 5 (.fresh [(.i .i64 0), (.i .u8 0), (.i .u8 0), (.i .u8 0), (.i .u8 0), (.i .i64 0), (.i .u64 0), (.i .u64 0), (.i .u64 0), (.i .u64 0), (.i .u64 0), (.i .u64 0), (.i .u64 0), (.i .u64 0)])),
  ⟨none, none, (.op (.store 14 (.t 5) (.t 27)))⟩])
  (.live [22, 23, 24, 5, 3] (.seq (.seq (.region [(rO 28 (.faddr 13 (.t 5))),
  (rO 29 (.load none (.t 28))),
  (rO 30 (.bin .int true .gtr (.t 29) (.c (.i .u64 281474976710656))))])
  (.live [22, 23, 24, 5, 3, 30] (.cond (.t 30) (.seq (.region [(rO 2 (.mv (.c (.b false))))])
  (.ret))
  (.skip))))
  (.live [22, 23, 24, 5, 3] (.region [(rO 31 (.mv (.t 3))),
  (rO 32 (.faddr 0 (.t 5))),
  (rO 33 (.load (some 13) (.t 32))),
  (rO 34 (.bslice [(.i .i64 0), (.i .u8 0), (.i .u8 0), (.i .u8 0), (.i .u8 0), (.i .i64 0), (.i .u64 0), (.i .u64 0), (.i .u64 0), (.i .u64 0), (.i .u64 0), (.i .u64 0), (.i .u64 0)] 1 [(0, 13, (.t 33))])),
  (rO 35 (.app 13 80 (.t 31) (.t 34))),
  (rO 3 (.mv (.t 35)))]))))))
  (.live [22, 23, 3, 24] (.region [(rO 36 (.bin .int true .add (.t 24) (.c (.i .i64 1)))),
  (rO 24 (.mv (.t 36)))]))))))
def c75 : IFunc := ⟨1, [.tmp 2],
 .seq (.region [(rO 1 (.box (.t 0))),
  (rO 2 (.mv (.c (.b false))))])
  (.live [1] (.seq (.seq (.region [(rO 6 (.faddr 0 (.t 1))),
  (rO 7 (.load none (.t 6))),
  (rO 8 (.bin .int true .lss (.t 7) (.c (.i .u64 1)))),
  (rO 9 (.mv (.t 8))),
  ⟨(some 10), some (9, false), (.op (.faddr 0 (.t 1)))⟩,
  ⟨(some 11), some (9, false), (.op (.load none (.t 10)))⟩,
  ⟨(some 12), some (9, false), (.op (.bin .int true .gtr (.t 11) (.c (.i .u64 281474976710656))))⟩,
  (rO 13 (.pick (.t 9) (.c (.b true)) (.t 12))),
  (rO 14 (.mv (.t 13))),
  ⟨(some 15), some (14, false), (.op (.faddr 1 (.t 1)))⟩,
  ⟨(some 16), some (14, false), (.op (.load none (.t 15)))⟩,
  ⟨(some 17), some (14, false), (.op (.len .slice (.t 16)))⟩,
  ⟨(some 18), some (14, false), (.op (.bin .int true .gtr (.t 17) (.c (.i .i64 8))))⟩,
  (rO 19 (.pick (.t 14) (.c (.b true)) (.t 18)))])
  (.live [1, 19] (.cond (.t 19) (.seq (.region [(rO 2 (.mv (.c (.b false))))])
  (.ret))
  (.skip))))
  (.live [1] (.seq (.region [(rO 20 (.bslice [(.i .i64 0), (.i .u8 0), (.i .u8 0), (.i .u8 0), (.i .u8 0), (.i .i64 0), (.i .u64 0), (.i .u64 0), (.i .u64 0), (.i .u64 0), (.i .u64 0), (.i .u64 0), (.i .u64 0)] 0 [])),
  (rO 3 (.mv (.t 20)))])
  (.live [3, 1] (.seq (.seq (.region [(rO 21 (.faddr 1 (.t 1))),
  (rO 22 (.load none (.t 21))),
  (rO 23 (.len .slice (.t 22))),
  (rO 24 (.mv (.c (.i .i64 0))))])
  (.live [22, 23, 24, 3] (.block 0 (.loop [22, 23, 24, 3] c75l0))))
  (.live [3] (.seq (.region [(rO 37 (.mv (.t 3))),
  ⟨(some 38), none, (.call 98 [(.t 37)])⟩,
  (rO 39 (.bin .int true .eql (.t 38) (.c (.i .i64 0)))),
  (rO 2 (.mv (.t 39)))])
  (.ret))))))))),
 []⟩
def c76d0 : List Stage :=
 [⟨[(⟨(some 7), none, (.op (.faddr 0 (.t 1)))⟩, 1), (⟨(some 8), none, (.op (.load none (.t 7)))⟩, 1), (⟨(some 9), none, (.op (.toInt .u64 (.t 8)))⟩, 1), (⟨(some 10), none, (.op (.faddr 1 (.t 1)))⟩, 0), (⟨(some 11), none, (.op (.faddr 0 (.t 10)))⟩, 0), (⟨(some 12), none, (.op (.load (some 4) (.t 11)))⟩, 0), (⟨(some 15), none, (.op (.faddr 1 (.t 1)))⟩, 1), (⟨(some 16), none, (.op (.faddr 4 (.t 15)))⟩, 1), (⟨(some 17), none, (.op (.load none (.t 16)))⟩, 1), (⟨(some 18), none, (.op (.toInt .u64 (.t 17)))⟩, 1)], none, some ⟨(some 13), none, (.call 100 [(.t 12)])⟩⟩,
  ⟨[(⟨(some 14), none, (.op (.toInt .u64 (.t 13)))⟩, 1)], none, some ⟨(some 19), none, (.op (.bslice [(.i .u64 0)] 3 [(0, 1, (.t 9)), (1, 1, (.t 14)), (2, 1, (.t 18))]))⟩⟩,
  ⟨[(⟨(some 3), none, (.op (.mv (.t 19)))⟩, 2)], none, none⟩]
def c76d0w : List (ROp × Bool) :=
 [((rO 7 (.faddr 0 (.t 1))), false), ((rO 8 (.load none (.t 7))), false), ((rO 9 (.toInt .u64 (.t 8))), false), ((rO 10 (.faddr 1 (.t 1))), false), ((rO 11 (.faddr 0 (.t 10))), false), ((rO 12 (.load (some 4) (.t 11))), false), ((rO 15 (.faddr 1 (.t 1))), false), ((rO 16 (.faddr 4 (.t 15))), false), ((rO 17 (.load none (.t 16))), false), ((rO 18 (.toInt .u64 (.t 17))), false), (⟨(some 13), none, (.call 100 [(.t 12)])⟩, true), ((rO 14 (.toInt .u64 (.t 13))), false), ((rO 19 (.bslice [(.i .u64 0)] 3 [(0, 1, (.t 9)), (1, 1, (.t 14)), (2, 1, (.t 18))])), false), ((rO 3 (.mv (.t 19))), false)]
theorem c76d0_w {P : Program} {O : Orc} {S0 : Mem} {rd : Bool} {e : Env} {S : Mem} {d : List Nat} {Q : Kont} : W P O S0 rd (.draw c76d0 []) e S d Q = wFl O c76d0w e S (normK Q d) := W_draw' (by kernel_rfl) (by kernel_rfl)
attribute [go_sem] c76d0_w c76d0w
def c76 : IFunc := ⟨1, [.tmp 2],
 .seq (.region [(rO 1 (.box (.t 0))),
  (rO 2 (.mv (.c .sn)))])
  (.live [1] (.seq (.seq (.region [(rO 4 (.load (some 13) (.t 1))),
  ⟨(some 5), none, (.call 99 [(.t 4)])⟩,
  (rO 6 (.un .not (.t 5)))])
  (.live [1, 6] (.cond (.t 6) (.seq (.region [(rO 2 (.mv (.c .sn)))])
  (.ret))
  (.skip))))
  (.live [1] (.seq (.draw c76d0 [])
  (.live [1, 3] (.seq (.region [(rO 20 (.mv (.t 3))),
  (rO 21 (.faddr 6 (.t 1))),
  (rO 22 (.load none (.t 21))),
  (rO 23 (.faddr 7 (.t 1))),
  (rO 24 (.load none (.t 23))),
  (rO 25 (.faddr 8 (.t 1))),
  (rO 26 (.load none (.t 25))),
  (rO 27 (.faddr 9 (.t 1))),
  (rO 28 (.load none (.t 27))),
  (rO 29 (.faddr 10 (.t 1))),
  (rO 30 (.load none (.t 29))),
  (rO 31 (.faddr 11 (.t 1))),
  (rO 32 (.load none (.t 31))),
  (rO 33 (.faddr 12 (.t 1))),
  (rO 34 (.load none (.t 33))),
  (rO 35 (.bslice [(.i .u64 0)] 7 [(0, 1, (.t 22)), (1, 1, (.t 24)), (2, 1, (.t 26)), (3, 1, (.t 28)), (4, 1, (.t 30)), (5, 1, (.t 32)), (6, 1, (.t 34))])),
  (rO 36 (.app 1 8 (.t 20) (.t 35))),
  (rO 2 (.mv (.t 36)))])
  (.ret))))))),
 []⟩
def c77 : IFunc := ⟨1, [.tmp 2],
 .seq (.region [(rO 2 (.mv (.c .sn)))])
  (.live [0] (.seq (.seq (.region [(rO 3 (.mv (.t 0))),
  (rO 4 (.bin .int true .lss (.t 3) (.c (.i .u64 128))))])
  (.live [0, 4] (.cond (.t 4) (.seq (.region [(rO 5 (.mv (.t 0))),
  (rO 6 (.toInt .u8 (.t 5))),
  (rO 7 (.bslice [(.i .u8 0)] 1 [(0, 1, (.t 6))])),
  (rO 2 (.mv (.t 7)))])
  (.ret))
  (.skip))))
  (.live [0] (.seq (.region [(rO 8 (.mv (.t 0))),
  (rO 9 (.bin .int true .rem (.t 8) (.c (.i .u64 128)))),
  (rO 10 (.bin .int true .add (.c (.i .u64 128)) (.t 9))),
  (rO 11 (.toInt .u8 (.t 10))),
  (rO 12 (.bslice [(.i .u8 0)] 1 [(0, 1, (.t 11))])),
  (rO 13 (.mv (.t 0))),
  (rO 14 (.bin .int true .quo (.t 13) (.c (.i .u64 128)))),
  ⟨(some 15), none, (.call 77 [(.t 14)])⟩,
  (rO 16 (.app 1 1 (.t 12) (.t 15))),
  (rO 2 (.mv (.t 16)))])
  (.ret))))),
 []⟩
def c78d0 : List Stage :=
 [⟨[(⟨(some 6), none, (.op (.faddr 0 (.t 1)))⟩, 1), (⟨(some 7), none, (.op (.load none (.t 6)))⟩, 1), (⟨(some 8), none, (.op (.toInt .u64 (.t 7)))⟩, 1), (⟨(some 9), none, (.op (.faddr 1 (.t 1)))⟩, 0), (⟨(some 10), none, (.op (.faddr 0 (.t 9)))⟩, 0), (⟨(some 11), none, (.op (.load (some 4) (.t 10)))⟩, 0), (⟨(some 14), none, (.op (.faddr 1 (.t 1)))⟩, 1), (⟨(some 15), none, (.op (.faddr 4 (.t 14)))⟩, 1), (⟨(some 16), none, (.op (.load none (.t 15)))⟩, 1), (⟨(some 17), none, (.op (.toInt .u64 (.t 16)))⟩, 1), (⟨(some 18), none, (.op (.faddr 6 (.t 1)))⟩, 1), (⟨(some 19), none, (.op (.load none (.t 18)))⟩, 1), (⟨(some 20), none, (.op (.faddr 7 (.t 1)))⟩, 1), (⟨(some 21), none, (.op (.load none (.t 20)))⟩, 1), (⟨(some 22), none, (.op (.faddr 8 (.t 1)))⟩, 1), (⟨(some 23), none, (.op (.load none (.t 22)))⟩, 1), (⟨(some 24), none, (.op (.faddr 9 (.t 1)))⟩, 1), (⟨(some 25), none, (.op (.load none (.t 24)))⟩, 1), (⟨(some 26), none, (.op (.faddr 10 (.t 1)))⟩, 1), (⟨(some 27), none, (.op (.load none (.t 26)))⟩, 1), (⟨(some 28), none, (.op (.faddr 11 (.t 1)))⟩, 1), (⟨(some 29), none, (.op (.load none (.t 28)))⟩, 1), (⟨(some 30), none, (.op (.faddr 12 (.t 1)))⟩, 1), (⟨(some 31), none, (.op (.load none (.t 30)))⟩, 1)], none, some ⟨(some 12), none, (.call 101 [(.t 11)])⟩⟩,
  ⟨[(⟨(some 13), none, (.op (.toInt .u64 (.t 12)))⟩, 1)], none, some ⟨(some 32), none, (.op (.bslice [(.i .u64 0)] 10 [(0, 1, (.t 8)), (1, 1, (.t 13)), (2, 1, (.t 17)), (3, 1, (.t 19)), (4, 1, (.t 21)), (5, 1, (.t 23)), (6, 1, (.t 25)), (7, 1, (.t 27)), (8, 1, (.t 29)), (9, 1, (.t 31))]))⟩⟩,
  ⟨[(⟨(some 2), none, (.op (.mv (.t 32)))⟩, 2)], none, none⟩]
def c78d0w : List (ROp × Bool) :=
 [((rO 6 (.faddr 0 (.t 1))), false), ((rO 7 (.load none (.t 6))), false), ((rO 8 (.toInt .u64 (.t 7))), false), ((rO 9 (.faddr 1 (.t 1))), false), ((rO 10 (.faddr 0 (.t 9))), false), ((rO 11 (.load (some 4) (.t 10))), false), ((rO 14 (.faddr 1 (.t 1))), false), ((rO 15 (.faddr 4 (.t 14))), false), ((rO 16 (.load none (.t 15))), false), ((rO 17 (.toInt .u64 (.t 16))), false), ((rO 18 (.faddr 6 (.t 1))), false), ((rO 19 (.load none (.t 18))), false), ((rO 20 (.faddr 7 (.t 1))), false), ((rO 21 (.load none (.t 20))), false), ((rO 22 (.faddr 8 (.t 1))), false), ((rO 23 (.load none (.t 22))), false), ((rO 24 (.faddr 9 (.t 1))), false), ((rO 25 (.load none (.t 24))), false), ((rO 26 (.faddr 10 (.t 1))), false), ((rO 27 (.load none (.t 26))), false), ((rO 28 (.faddr 11 (.t 1))), false), ((rO 29 (.load none (.t 28))), false), ((rO 30 (.faddr 12 (.t 1))), false), ((rO 31 (.load none (.t 30))), false), (⟨(some 12), none, (.call 101 [(.t 11)])⟩, true), ((rO 13 (.toInt .u64 (.t 12))), false), ((rO 32 (.bslice [(.i .u64 0)] 10 [(0, 1, (.t 8)), (1, 1, (.t 13)), (2, 1, (.t 17)), (3, 1, (.t 19)), (4, 1, (.t 21)), (5, 1, (.t 23)), (6, 1, (.t 25)), (7, 1, (.t 27)), (8, 1, (.t 29)), (9, 1, (.t 31))])), false), ((rO 2 (.mv (.t 32))), false)]
theorem c78d0_w {P : Program} {O : Orc} {S0 : Mem} {rd : Bool} {e : Env} {S : Mem} {d : List Nat} {Q : Kont} : W P O S0 rd (.draw c78d0 []) e S d Q = wFl O c78d0w e S (normK Q d) := W_draw' (by kernel_rfl) (by kernel_rfl)
attribute [go_sem] c78d0_w c78d0w
def c78 : IFunc := ⟨1, [.tmp 2],
 .seq (.region [(rO 1 (.box (.t 0))),
  (rO 2 (.mv (.c .sn)))])
  (.live [1] (.seq (.seq (.region [(rO 3 (.load (some 13) (.t 1))),
  ⟨(some 4), none, (.call 95 [(.t 3)])⟩,
  (rO 5 (.un .not (.t 4)))])
  (.live [1, 5] (.cond (.t 5) (.seq (.region [(rO 2 (.mv (.c .sn)))])
  (.ret))
  (.skip))))
  (.live [1] (.seq (.draw c78d0 [])
  (.ret))))),
 []⟩
def c79 : IFunc := ⟨2, [.tmp 4],
 .seq (.region [(rO 4 (.mv (.c .sn)))])
  (.live [0, 1] (.seq (.seq (.region [(rO 5 (.mv (.t 1))),
  (rO 6 (.bin .int true .lss (.t 5) (.c (.i .i64 0))))])
  (.live [0, 1, 6] (.cond (.t 6) (.region [(rO 7 (.bad)),
  ⟨none, none, (.op (.bad))⟩])
  (.skip))))
  (.live [0, 1] (.seq (.seq (.region [(rO 8 (.mv (.t 1))),
  (rO 9 (.mv (.t 0))),
  (rO 10 (.cap (.t 9))),
  (rO 11 (.mv (.t 0))),
  (rO 12 (.len .slice (.t 11))),
  (rO 13 (.bin .int false .sub (.t 10) (.t 12))),
  (rO 14 (.bin .int false .sub (.t 8) (.t 13))),
  (rO 1 (.mv (.t 14)))])
  (.live [0, 1] (.seq (.region [(rO 15 (.mv (.t 1))),
  (rO 16 (.bin .int true .gtr (.t 15) (.c (.i .i64 0))))])
  (.live [0, 1, 16] (.cond (.t 16) (.region [(rO 17 (.mv (.t 0))),
  (rO 18 (.mv (.t 0))),
  (rO 19 (.cap (.t 18))),
  (rO 20 (.slice 1 (.t 17) none (some (.t 19)) none)),
  (rO 21 (.mv (.t 1))),
  (rO 22 (.appz [(.i .u8 0)] 1 (.t 20) (.t 21))),
  (rO 23 (.mv (.t 0))),
  (rO 24 (.len .slice (.t 23))),
  (rO 25 (.slice 1 (.t 22) none (some (.t 24)) none)),
  (rO 0 (.mv (.t 25)))])
  (.skip))))))
  (.live [0] (.seq (.region [(rO 26 (.mv (.t 0))),
  (rO 4 (.mv (.t 26)))])
  (.ret))))))),
 []⟩
def c80l0 : ICode :=
 .seq (.seq (.region [(rO 5 (.mv (.t 0))),
  (rO 6 (.bin .int true .geq (.t 5) (.c (.i .u64 128))))])
  (.live [0, 3, 6] (.cond (.t 6) (.skip)
  (.exit 0))))
  (.live [0, 3] (.block 1 (.seq (.region [(rO 7 (.mv (.t 3))),
  (rO 8 (.mv (.t 0))),
  (rO 9 (.toInt .u8 (.t 8))),
  (rO 10 (.bin .int true .or (.t 9) (.c (.i .u8 128)))),
  (rO 11 (.bslice [(.i .u8 0)] 1 [(0, 1, (.t 10))])),
  (rO 12 (.app 1 1 (.t 7) (.t 11))),
  (rO 3 (.mv (.t 12)))])
  (.live [3, 0] (.region [(rO 13 (.mv (.t 0))),
  (rO 14 (.bin .int true .shr (.t 13) (.c (.i .u64 7)))),
  (rO 0 (.mv (.t 14)))])))))
def c80 : IFunc := ⟨1, [.tmp 2],
 .seq (.region [(rO 2 (.mv (.c .sn)))])
  (.live [0] (.seq (.region [(rO 4 (.mks [(.i .u8 0)] 1 (.c (.i .i64 0)) (.c (.i .i64 10)))),
  (rO 3 (.mv (.t 4)))])
  (.live [0, 3] (.seq (.block 0 (.loop [0, 3] c80l0))
  (.live [0, 3] (.seq (.region [(rO 15 (.mv (.t 3))),
  (rO 16 (.mv (.t 0))),
  (rO 17 (.toInt .u8 (.t 16))),
  (rO 18 (.bslice [(.i .u8 0)] 1 [(0, 1, (.t 17))])),
  (rO 19 (.app 1 1 (.t 15) (.t 18))),
  (rO 2 (.mv (.t 19)))])
  (.ret))))))),
 []⟩
def c81 : IFunc := ⟨1, [.tmp 2],
 .seq (.region [(rO 2 (.mv (.c .sn)))])
  (.live [0] (.seq (.region [(rO 3 (.mv (.t 0))),
  (rO 4 (.bin .int true .shr (.t 3) (.c (.i .u64 24)))),
  (rO 5 (.toInt .u8 (.t 4))),
  (rO 6 (.mv (.t 0))),
  (rO 7 (.bin .int true .shr (.t 6) (.c (.i .u64 16)))),
  (rO 8 (.toInt .u8 (.t 7))),
  (rO 9 (.mv (.t 0))),
  (rO 10 (.bin .int true .shr (.t 9) (.c (.i .u64 8)))),
  (rO 11 (.toInt .u8 (.t 10))),
  (rO 12 (.mv (.t 0))),
  (rO 13 (.toInt .u8 (.t 12))),
  (rO 14 (.bslice [(.i .u8 0)] 4 [(0, 1, (.t 5)), (1, 1, (.t 8)), (2, 1, (.t 11)), (3, 1, (.t 13))])),
  (rO 2 (.mv (.t 14)))])
  (.ret))),
 []⟩
def c82l0 : ICode :=
 .seq (.region [(rO 9 (.bin .int false .lss (.t 8) (.t 7)))])
  (.live [6, 7, 8, 3, 9] (.seq (.cond (.t 9) (.skip)
  (.exit 0))
  (.live [6, 7, 8, 3] (.seq (.block 1 (.seq (.region [(rO 10 (.iaddr none 1 (.t 6) (.t 8))),
  (rO 11 (.load none (.t 10))),
  (rO 5 (.mv (.t 11)))])
  (.live [6, 7, 8, 5, 3] (.region [(rO 12 (.mv (.t 3))),
  (rO 13 (.mv (.t 5))),
  ⟨(some 14), none, (.call 102 [(.t 12), (.t 13)])⟩,
  (rO 3 (.mv (.t 14)))]))))
  (.live [6, 7, 3, 8] (.region [(rO 15 (.bin .int true .add (.t 8) (.c (.i .i64 1)))),
  (rO 8 (.mv (.t 15)))]))))))
def c82 : IFunc := ⟨1, [.tmp 2],
 .seq (.region [(rO 2 (.mv (.c (.i .u32 0))))])
  (.live [0] (.seq (.region [(rO 3 (.mv (.c (.i .u32 0))))])
  (.live [3, 0] (.seq (.seq (.region [(rO 6 (.mv (.t 0))),
  (rO 7 (.len .slice (.t 6))),
  (rO 8 (.mv (.c (.i .i64 0))))])
  (.live [6, 7, 8, 3] (.block 0 (.loop [6, 7, 8, 3] c82l0))))
  (.live [3] (.seq (.region [(rO 16 (.mv (.t 3))),
  (rO 2 (.mv (.t 16)))])
  (.ret))))))),
 []⟩
def c83 : IFunc := ⟨1, [.tmp 2],
 .seq (.region [(rO 1 (.box (.t 0))),
  (rO 2 (.mv (.c .nf)))])
  (.live [1] (.seq (.region [(rO 3 (.mkf (.func 103) [] [(.t 1)])),
  (rO 2 (.mv (.t 3)))])
  (.ret))),
 []⟩
def c84l0 : ICode :=
 .seq (.seq (.region [(rO 6 (.mv (.t 4))),
  (rO 7 (.mv (.t 0))),
  (rO 8 (.len .slice (.t 7))),
  (rO 9 (.bin .int true .mul (.c (.i .i64 8)) (.t 8))),
  (rO 10 (.bin .int false .lss (.t 6) (.t 9)))])
  (.live [0, 4, 3, 10] (.cond (.t 10) (.skip)
  (.exit 0))))
  (.live [0, 4, 3] (.seq (.block 1 (.seq (.region [(rO 13 (.mv (.t 3))),
  (rO 14 (.bin .int true .geq (.t 13) (.c (.i .u64 2147483648)))),
  (rO 5 (.mv (.t 14)))])
  (.live [0, 4, 3, 5] (.seq (.seq (.region [(rO 15 (.mv (.t 0))),
  (rO 16 (.mv (.t 4))),
  ⟨(some 17), none, (.call 104 [(.t 15), (.t 16)])⟩])
  (.live [0, 4, 3, 5, 17] (.cond (.t 17) (.region [(rO 18 (.mv (.t 5))),
  (rO 19 (.un .not (.t 18))),
  (rO 5 (.mv (.t 19)))])
  (.skip))))
  (.live [0, 4, 5, 3] (.seq (.region [(rO 20 (.mv (.t 3))),
  (rO 21 (.bin .int true .mul (.t 20) (.c (.i .u64 2)))),
  (rO 22 (.bin .int true .rem (.t 21) (.c (.i .u64 4294967296)))),
  (rO 3 (.mv (.t 22)))])
  (.live [0, 4, 3, 5] (.seq (.region [(rO 23 (.mv (.t 5)))])
  (.live [0, 4, 3, 23] (.cond (.t 23) (.region [(rO 24 (.mv (.t 3))),
  ⟨(some 25), none, (.call 105 [(.t 24), (.c (.i .u64 79764919))])⟩,
  (rO 3 (.mv (.t 25)))])
  (.skip)))))))))))
  (.live [0, 3, 4] (.region [(rO 11 (.mv (.t 4))),
  (rO 12 (.bin .int true .add (.t 11) (.c (.i .i64 1)))),
  (rO 4 (.mv (.t 12)))]))))
def c84 : IFunc := ⟨1, [.tmp 2],
 .seq (.region [(rO 2 (.mv (.c (.i .u32 0))))])
  (.live [0] (.seq (.region [(rO 3 (.mv (.c (.i .u64 4294967295))))])
  (.live [0, 3] (.seq (.seq (.region [(rO 4 (.mv (.c (.i .i64 0))))])
  (.live [0, 4, 3] (.block 0 (.loop [0, 4, 3] c84l0))))
  (.live [3] (.seq (.region [(rO 26 (.mv (.t 3))),
  (rO 27 (.bin .int true .sub (.c (.i .u64 4294967295)) (.t 26))),
  (rO 28 (.toInt .u32 (.t 27))),
  (rO 2 (.mv (.t 28)))])
  (.ret))))))),
 []⟩
def c85l0 : ICode :=
 .seq (.region [(rO 9 (.bin .int false .lss (.t 8) (.t 7)))])
  (.live [6, 7, 8, 3, 9] (.seq (.cond (.t 9) (.skip)
  (.exit 0))
  (.live [6, 7, 8, 3] (.seq (.block 1 (.seq (.region [(rO 10 (.iaddr none 1 (.t 6) (.t 8))),
  (rO 11 (.load none (.t 10))),
  (rO 5 (.mv (.t 11)))])
  (.live [6, 7, 8, 5, 3] (.region [(rO 12 (.mv (.t 3))),
  (rO 13 (.bin .int true .shl (.t 12) (.c (.i .u64 8)))),
  (rO 14 (.mv (.t 5))),
  (rO 15 (.toInt .u64 (.t 14))),
  (rO 16 (.bin .int false .or (.t 13) (.t 15))),
  (rO 3 (.mv (.t 16)))]))))
  (.live [6, 7, 3, 8] (.region [(rO 17 (.bin .int true .add (.t 8) (.c (.i .i64 1)))),
  (rO 8 (.mv (.t 17)))]))))))
def c85 : IFunc := ⟨1, [.tmp 2],
 .seq (.region [(rO 2 (.mv (.c (.i .u64 0))))])
  (.live [0] (.seq (.region [(rO 3 (.mv (.c (.i .u64 0))))])
  (.live [3, 0] (.seq (.seq (.region [(rO 6 (.mv (.t 0))),
  (rO 7 (.len .slice (.t 6))),
  (rO 8 (.mv (.c (.i .i64 0))))])
  (.live [6, 7, 8, 3] (.block 0 (.loop [6, 7, 8, 3] c85l0))))
  (.live [3] (.seq (.region [(rO 18 (.mv (.t 3))),
  (rO 2 (.mv (.t 18)))])
  (.ret))))))),
 []⟩
def c86d0 : List Stage :=
 [⟨[(⟨(some 8), none, (.op (.mv (.t 4)))⟩, 0), (⟨(some 9), none, (.op (.bin .int true .lss (.t 8) (.c (.i .i64 0))))⟩, 0), (⟨(some 10), none, (.op (.mv (.t 9)))⟩, 0), (⟨(some 11), some (10, false), (.op (.mv (.t 0)))⟩, 0), (⟨(some 12), some (10, false), (.op (.mv (.t 4)))⟩, 0), (⟨(some 13), some (10, false), (.op (.slice 1 (.t 11) none (some (.t 12)) none))⟩, 0), (⟨(some 17), some (10, false), (.op (.mv (.t 0)))⟩, 3), (⟨(some 18), some (10, false), (.op (.mv (.t 4)))⟩, 3), (⟨(some 19), some (10, false), (.op (.slice 1 (.t 17) (some (.t 18)) none none))⟩, 3)], none, some ⟨(some 14), some (10, false), (.op (.bslice [.sn] 1 [(0, 1, (.t 13))]))⟩⟩,
  ⟨[], none, some ⟨(some 15), some (10, false), (.call 82 [(.t 14)])⟩⟩,
  ⟨[], none, some ⟨(some 16), some (10, false), (.call 81 [(.t 15)])⟩⟩,
  ⟨[], none, some ⟨(some 20), some (10, false), (.call 106 [(.t 16), (.t 19)])⟩⟩,
  ⟨[(⟨(some 21), some (10, false), (.op (.un .not (.t 20)))⟩, 4), (⟨(some 22), none, (.op (.pick (.t 10) (.c (.b true)) (.t 21)))⟩, 4)], none, none⟩]
def c86d0w : List (ROp × Bool) :=
 [((rO 8 (.mv (.t 4))), false), ((rO 9 (.bin .int true .lss (.t 8) (.c (.i .i64 0)))), false), ((rO 10 (.mv (.t 9))), false), (⟨(some 11), some (10, false), (.op (.mv (.t 0)))⟩, false), (⟨(some 12), some (10, false), (.op (.mv (.t 4)))⟩, false), (⟨(some 13), some (10, false), (.op (.slice 1 (.t 11) none (some (.t 12)) none))⟩, false), (⟨(some 17), some (10, false), (.op (.mv (.t 0)))⟩, false), (⟨(some 18), some (10, false), (.op (.mv (.t 4)))⟩, false), (⟨(some 19), some (10, false), (.op (.slice 1 (.t 17) (some (.t 18)) none none))⟩, false), (⟨(some 14), some (10, false), (.op (.bslice [.sn] 1 [(0, 1, (.t 13))]))⟩, true), (⟨(some 15), some (10, false), (.call 82 [(.t 14)])⟩, true), (⟨(some 16), some (10, false), (.call 81 [(.t 15)])⟩, true), (⟨(some 20), some (10, false), (.call 106 [(.t 16), (.t 19)])⟩, false), (⟨(some 21), some (10, false), (.op (.un .not (.t 20)))⟩, false), ((rO 22 (.pick (.t 10) (.c (.b true)) (.t 21))), false)]
theorem c86d0_w {P : Program} {O : Orc} {S0 : Mem} {rd : Bool} {e : Env} {S : Mem} {d : List Nat} {Q : Kont} : W P O S0 rd (.draw c86d0 []) e S d Q = wFl O c86d0w e S (normK Q d) := W_draw' (by kernel_rfl) (by kernel_rfl)
attribute [go_sem] c86d0_w c86d0w
def c86 : IFunc := ⟨1, [.tmp 2, .tmp 3],
 .seq (.region [(rO 2 (.mv (.c .sn))),
  (rO 3 (.mv (.c (.b false))))])
  (.live [0] (.seq (.region [(rO 5 (.mv (.t 0))),
  (rO 6 (.len .slice (.t 5))),
  (rO 7 (.bin .int true .sub (.t 6) (.c (.i .i64 4)))),
  (rO 4 (.mv (.t 7)))])
  (.live [4, 0] (.seq (.seq (.draw c86d0 [])
  (.live [4, 0, 22] (.cond (.t 22) (.seq (.region [(rO 2 (.mv (.c .sn))),
  (rO 3 (.mv (.c (.b false))))])
  (.ret))
  (.skip))))
  (.live [4, 0] (.seq (.region [(rO 23 (.mv (.t 0))),
  (rO 24 (.mv (.t 4))),
  (rO 25 (.slice 1 (.t 23) none (some (.t 24)) none)),
  ⟨(some 26), none, (.call 107 [(.t 25)])⟩,
  (rO 2 (.mv (.t 26))),
  (rO 3 (.mv (.c (.b true))))])
  (.ret))))))),
 []⟩
def c87 : IFunc := ⟨2, [.tmp 4],
 .seq (.region [(rO 4 (.mv (.c (.b false))))])
  (.live [1, 0] (.seq (.region [(rO 5 (.mv (.t 0))),
  (rO 6 (.mv (.t 1))),
  ⟨(some 7), none, (.call 108 [(.t 5), (.t 6)])⟩,
  (rO 8 (.bin .int true .geq (.t 7) (.c (.i .i64 0)))),
  (rO 4 (.mv (.t 8)))])
  (.ret))),
 []⟩
def c88 : IFunc := ⟨1, [.tmp 2],
 .seq (.region [(rO 2 (.mv (.c (.b false))))])
  (.live [0] (.seq (.region [(rO 3 (.mv (.t 0))),
  (rO 4 (.bin .int true .neq (.t 3) (.c (.i .u8 0)))),
  (rO 2 (.mv (.t 4)))])
  (.ret))),
 []⟩
def c89l0 : ICode :=
 .seq (.region [(rO 16 (.bin .int false .lss (.t 15) (.t 14)))])
  (.live [13, 14, 15, 5, 16] (.seq (.cond (.t 16) (.skip)
  (.exit 0))
  (.live [13, 14, 15, 5] (.seq (.block 1 (.seq (.region [(rO 17 (.mv (.t 15))),
  (rO 18 (.iaddr none 1 (.t 13) (.t 15))),
  (rO 19 (.load none (.t 18))),
  (rO 6 (.mv (.t 17))),
  (rO 7 (.mv (.t 19)))])
  (.live [13, 14, 15, 6, 7, 5] (.seq (.region [(rO 20 (.mv (.t 7))),
  (rO 21 (.bin .int true .and (.t 20) (.c (.i .u8 127)))),
  (rO 22 (.toInt .u64 (.t 21))),
  (rO 8 (.mv (.t 22)))])
  (.live [13, 14, 15, 6, 7, 8, 5] (.seq (.seq (.region [(rO 23 (.mv (.t 8))),
  (rO 24 (.mv (.t 6))),
  (rO 25 (.bin .int true .mul (.c (.i .i64 7)) (.t 24))),
  (rO 26 (.bin .int false .shl (.t 23) (.t 25))),
  (rO 27 (.mv (.t 6))),
  (rO 28 (.bin .int true .mul (.c (.i .i64 7)) (.t 27))),
  (rO 29 (.bin .int false .shr (.t 26) (.t 28))),
  (rO 30 (.mv (.t 8))),
  (rO 31 (.bin .int false .neq (.t 29) (.t 30)))])
  (.live [13, 14, 15, 6, 7, 8, 5, 31] (.cond (.t 31) (.exit 0)
  (.skip))))
  (.live [13, 14, 15, 6, 7, 8, 5] (.seq (.region [(rO 32 (.mv (.t 5))),
  (rO 33 (.mv (.t 8))),
  (rO 34 (.mv (.t 6))),
  (rO 35 (.bin .int true .mul (.c (.i .i64 7)) (.t 34))),
  (rO 36 (.bin .int false .shl (.t 33) (.t 35))),
  (rO 37 (.bin .int false .or (.t 32) (.t 36))),
  (rO 5 (.mv (.t 37)))])
  (.live [13, 14, 5, 15, 6, 7] (.seq (.seq (.region [(rO 38 (.mv (.t 7))),
  (rO 39 (.bin .int true .and (.t 38) (.c (.i .u8 128)))),
  (rO 40 (.bin .int true .neq (.t 39) (.c (.i .u8 0))))])
  (.live [13, 14, 5, 15, 6, 40] (.cond (.t 40) (.exit 1)
  (.skip))))
  (.live [6, 5] (.seq (.seq (.region [(rO 41 (.mv (.t 5))),
  ⟨(some 42), none, (.call 109 [(.t 41)])⟩,
  (rO 43 (.mv (.t 6))),
  (rO 44 (.bin .int true .add (.t 43) (.c (.i .i64 1)))),
  (rO 45 (.bin .int false .neq (.t 42) (.t 44)))])
  (.live [6, 5, 45] (.cond (.t 45) (.exit 0)
  (.skip))))
  (.live [6, 5] (.seq (.region [(rO 46 (.mv (.t 5))),
  (rO 47 (.mv (.t 6))),
  (rO 48 (.bin .int true .add (.t 47) (.c (.i .i64 1)))),
  (rO 2 (.mv (.t 46))),
  (rO 3 (.mv (.t 48))),
  (rO 4 (.mv (.c (.i .i64 0))))])
  (.ret)))))))))))))))
  (.live [13, 14, 5, 15] (.region [(rO 49 (.bin .int true .add (.t 15) (.c (.i .i64 1)))),
  (rO 15 (.mv (.t 49)))]))))))
def c89 : IFunc := ⟨1, [.tmp 2, .tmp 3, .tmp 4],
 .seq (.region [(rO 2 (.mv (.c (.i .u64 0)))),
  (rO 3 (.mv (.c (.i .i64 0)))),
  (rO 4 (.mv (.c (.i .i64 0))))])
  (.live [0] (.seq (.region [(rO 5 (.mv (.c (.i .u64 0))))])
  (.live [5, 0] (.seq (.seq (.region [(rO 9 (.mv (.t 0))),
  (rO 10 (.mv (.t 0))),
  (rO 11 (.len .slice (.t 10))),
  (rO 12 (.mm false [(.t 11), (.c (.i .i64 10))])),
  (rO 13 (.slice 1 (.t 9) none (some (.t 12)) none)),
  (rO 14 (.len .slice (.t 13))),
  (rO 15 (.mv (.c (.i .i64 0))))])
  (.live [13, 14, 15, 5] (.block 0 (.loop [13, 14, 15, 5] c89l0))))
  (.live [] (.seq (.region [(rO 2 (.mv (.c (.i .u64 0)))),
  (rO 3 (.mv (.c (.i .i64 0)))),
  (rO 4 (.mv (.c (.i .i64 21))))])
  (.ret))))))),
 []⟩
def c90 : IFunc := ⟨1, [.tmp 2, .tmp 3],
 .seq (.region [(rO 2 (.mv (.c (.i .i64 0)))),
  (rO 3 (.mv (.c (.b false))))])
  (.live [0] (.seq (.seq (.region [(rO 4 (.mv (.t 0))),
  (rO 5 (.bin .int true .gtr (.t 4) (.c (.i .u64 9223372036854775807))))])
  (.live [0, 5] (.cond (.t 5) (.seq (.region [(rO 2 (.mv (.c (.i .i64 0)))),
  (rO 3 (.mv (.c (.b false))))])
  (.ret))
  (.skip))))
  (.live [0] (.seq (.region [(rO 6 (.mv (.t 0))),
  (rO 7 (.toInt .i64 (.t 6))),
  (rO 2 (.mv (.t 7))),
  (rO 3 (.mv (.c (.b true))))])
  (.ret))))),
 []⟩
def c91d0 : List Stage :=
 [⟨[(⟨(some 41), none, (.op (.faddr 1 (.t 6)))⟩, 1), (⟨(some 42), none, (.op (.load none (.t 41)))⟩, 1), (⟨(some 43), none, (.op (.load (some 13) (.t 8)))⟩, 0), (⟨(some 44), none, (.op (.mv (.t 7)))⟩, 0), (⟨(some 45), none, (.op (.iaddr none 1 (.t 44) (.c (.i .i64 10))))⟩, 0), (⟨(some 46), none, (.op (.load none (.t 45)))⟩, 0), (⟨(some 47), none, (.op (.build [(.i .i64 0), (.i .u8 0), (.i .u8 0), (.i .u8 0), (.i .u8 0), (.i .i64 0), (.i .u64 0), (.i .u64 0), (.i .u64 0), (.i .u64 0), (.i .u64 0), (.i .u64 0), (.i .u64 0), (.i .u64 0)] [(0, 13, (.t 43)), (13, 1, (.t 46))]))⟩, 0)], none, some ⟨(some 48), none, (.op (.bslice [(.i .i64 0), (.i .u8 0), (.i .u8 0), (.i .u8 0), (.i .u8 0), (.i .i64 0), (.i .u64 0), (.i .u64 0), (.i .u64 0), (.i .u64 0), (.i .u64 0), (.i .u64 0), (.i .u64 0), (.i .u64 0)] 1 [(0, 14, (.t 47))]))⟩⟩,
  ⟨[], none, some ⟨(some 49), none, (.op (.app 14 88 (.t 42) (.t 48)))⟩⟩,
  ⟨[(⟨(some 50), none, (.op (.faddr 1 (.t 6)))⟩, 2)], none, some ⟨none, none, (.op (.store 1 (.t 50) (.t 49)))⟩⟩,
  ⟨[], none, none⟩]
def c91d0w : List (ROp × Bool) :=
 [((rO 41 (.faddr 1 (.t 6))), false), ((rO 42 (.load none (.t 41))), false), ((rO 43 (.load (some 13) (.t 8))), false), ((rO 44 (.mv (.t 7))), false), ((rO 45 (.iaddr none 1 (.t 44) (.c (.i .i64 10)))), false), ((rO 46 (.load none (.t 45))), false), ((rO 47 (.build [(.i .i64 0), (.i .u8 0), (.i .u8 0), (.i .u8 0), (.i .u8 0), (.i .i64 0), (.i .u64 0), (.i .u64 0), (.i .u64 0), (.i .u64 0), (.i .u64 0), (.i .u64 0), (.i .u64 0), (.i .u64 0)] [(0, 13, (.t 43)), (13, 1, (.t 46))])), false), ((rO 48 (.bslice [(.i .i64 0), (.i .u8 0), (.i .u8 0), (.i .u8 0), (.i .u8 0), (.i .i64 0), (.i .u64 0), (.i .u64 0), (.i .u64 0), (.i .u64 0), (.i .u64 0), (.i .u64 0), (.i .u64 0), (.i .u64 0)] 1 [(0, 14, (.t 47))])), true), ((rO 49 (.app 14 88 (.t 42) (.t 48))), false), ((rO 50 (.faddr 1 (.t 6))), false), (⟨none, none, (.op (.store 1 (.t 50) (.t 49)))⟩, false)]
theorem c91d0_w {P : Program} {O : Orc} {S0 : Mem} {rd : Bool} {e : Env} {S : Mem} {d : List Nat} {Q : Kont} : W P O S0 rd (.draw c91d0 []) e S d Q = wFl O c91d0w e S (normK Q d) := W_draw' (by kernel_rfl) (by kernel_rfl)
attribute [go_sem] c91d0_w c91d0w
def c91ra0 : ICode :=
 .region [(rO 7 (.mv (.t 31)))]
def c91rb0 : ICode :=
 .block 1 (.seq (.region [(rO 33 (.mv (.t 7))),
  (rO 34 (.slice 1 (.t 33) none (some (.c (.i .i64 10))) none)),
  ⟨(some 35), none, (.call 112 [(.t 34)])⟩,
  (rO 32 (.mv (.t 35))),
  (rO 36 (.ext (.t 32) 0)),
  (rO 37 (.ext (.t 32) 1)),
  (rO 8 (.fresh [(.i .i64 0), (.i .u8 0), (.i .u8 0), (.i .u8 0), (.i .u8 0), (.i .i64 0), (.i .u64 0), (.i .u64 0), (.i .u64 0), (.i .u64 0), (.i .u64 0), (.i .u64 0), (.i .u64 0)])),
  ⟨none, none, (.op (.store 13 (.t 8) (.t 36)))⟩,
  (rO 9 (.mv (.t 37)))])
  (.live [2, 3, 8, 7, 6, 9] (.seq (.seq (.region [(rO 38 (.mv (.t 9))),
  (rO 39 (.bin .int true .neq (.t 38) (.c (.i .i64 0))))])
  (.live [2, 3, 8, 7, 6, 39] (.cond (.t 39) (.seq (.region [(rO 40 (.build [(.i .u64 0), .sn] [])),
  ⟨none, none, (.op (.store 2 (.t 2) (.t 40)))⟩,
  ⟨none, none, (.op (.store 1 (.t 3) (.c (.i .i64 131))))⟩])
  (.ret))
  (.skip))))
  (.live [8, 7, 6] (.draw c91d0 [])))))
def c91 : IFunc := ⟨1, [.cell 2 (some 2), .cell 3 none],
 .seq (.region [(rO 2 (.fresh [(.i .u64 0), .sn])),
  (rO 3 (.fresh [(.i .i64 0)]))])
  (.live [2, 3, 31, 33, 34, 35, 32, 36, 37, 9, 38, 39, 40, 41, 8, 7, 44, 45, 43, 46, 47, 42, 48, 50, 49, 0] (.seq (.region [(rO 11 (.mv (.t 0))),
  ⟨(some 12), none, (.call 110 [(.t 11)])⟩,
  (rO 10 (.mv (.t 12))),
  (rO 13 (.ext (.t 10) 0)),
  (rO 14 (.ext (.t 10) 1)),
  (rO 4 (.mv (.t 13))),
  (rO 5 (.mv (.t 14)))])
  (.live [2, 3, 31, 33, 34, 35, 32, 36, 37, 9, 38, 39, 40, 41, 8, 7, 44, 45, 43, 46, 47, 42, 48, 50, 49, 4, 5] (.seq (.seq (.region [(rO 15 (.mv (.t 5))),
  (rO 16 (.bin .int true .neq (.t 15) (.c (.i .i64 0)))),
  (rO 17 (.mv (.t 16))),
  ⟨(some 18), some (17, false), (.op (.mv (.t 4)))⟩,
  ⟨(some 19), some (17, false), (.op (.len .slice (.t 18)))⟩,
  ⟨(some 20), some (17, false), (.op (.bin .int true .rem (.t 19) (.c (.i .i64 11))))⟩,
  ⟨(some 21), some (17, false), (.op (.bin .int true .neq (.t 20) (.c (.i .i64 1))))⟩,
  (rO 22 (.pick (.t 17) (.c (.b true)) (.t 21)))])
  (.live [2, 3, 31, 33, 34, 35, 32, 36, 37, 9, 38, 39, 40, 41, 8, 7, 44, 45, 43, 46, 47, 42, 48, 50, 49, 4, 22] (.cond (.t 22) (.seq (.region [(rO 23 (.build [(.i .u64 0), .sn] [])),
  ⟨none, none, (.op (.store 2 (.t 2) (.t 23)))⟩,
  ⟨none, none, (.op (.store 1 (.t 3) (.c (.i .i64 131))))⟩])
  (.ret))
  (.skip))))
  (.live [2, 3, 31, 33, 34, 35, 32, 36, 37, 9, 38, 39, 40, 41, 8, 7, 44, 45, 43, 46, 47, 42, 48, 50, 49, 4] (.seq (.region [(rO 24 (.mv (.t 4))),
  (rO 25 (.iaddr none 1 (.t 24) (.c (.i .i64 0)))),
  (rO 26 (.load none (.t 25))),
  (rO 27 (.build [(.i .u64 0), .sn] [(0, 1, (.t 26))])),
  (rO 6 (.fresh [(.i .u64 0), .sn])),
  ⟨none, none, (.op (.store 2 (.t 6) (.t 27)))⟩])
  (.live [2, 3, 6, 31, 33, 34, 35, 32, 36, 37, 9, 38, 39, 40, 41, 8, 7, 44, 45, 43, 46, 47, 42, 48, 50, 49, 4] (.seq (.seq (.region [(rO 28 (.mv (.t 4))),
  (rO 29 (.slice 1 (.t 28) (some (.c (.i .i64 1))) none none)),
  ⟨(some 30), none, (.call 111 [(.t 29), (.c (.i .i64 11))])⟩])
  (.live [2, 3, 6, 31, 33, 34, 35, 32, 36, 37, 9, 38, 39, 40, 41, 8, 7, 44, 45, 43, 46, 47, 42, 48, 50, 49, 30] (.block 0 (.rf (.t 30) 91 [true, true, true, true, false, true, false] [31, 7, 33, 34, 35, 32, 32, 8, 36, 37, 9, 38, 39, 2, 40, 3, 6, 41, 8, 7, 44, 45, 43, 46, 47, 42, 48, 6, 50, 49]))))
  (.live [2, 3, 6] (.seq (.seq (.region [(rO 51 (.load (some 2) (.t 6))),
  ⟨(some 52), none, (.call 46 [(.t 51)])⟩,
  (rO 53 (.un .not (.t 52)))])
  (.live [2, 3, 6, 53] (.cond (.t 53) (.seq (.region [(rO 54 (.build [(.i .u64 0), .sn] [])),
  ⟨none, none, (.op (.store 2 (.t 2) (.t 54)))⟩,
  ⟨none, none, (.op (.store 1 (.t 3) (.c (.i .i64 131))))⟩])
  (.ret))
  (.skip))))
  (.live [2, 3, 6] (.seq (.region [(rO 55 (.load (some 2) (.t 6))),
  ⟨none, none, (.op (.store 2 (.t 2) (.t 55)))⟩,
  ⟨none, none, (.op (.store 1 (.t 3) (.c (.i .i64 0))))⟩])
  (.ret))))))))))))),
 [([true, true, true, true, false, true, false], [31], c91ra0, c91rb0)]⟩
def c94 : IFunc := ⟨1, [.tmp 2, .tmp 3],
 .seq (.region [(rO 2 (.mv (.c (.i .i64 0)))),
  (rO 3 (.mv (.c (.i .i64 0))))])
  (.live [0] (.seq (.seq (.region [(rO 4 (.mv (.t 0))),
  (rO 5 (.bin .int true .lss (.t 4) (.c (.i .i64 64)))),
  (rO 6 (.mv (.t 5))),
  ⟨(some 7), some (6, false), (.op (.mv (.t 0)))⟩,
  ⟨(some 8), some (6, false), (.op (.bin .int true .gtr (.t 7) (.c (.i .i64 512))))⟩,
  (rO 9 (.pick (.t 6) (.c (.b true)) (.t 8)))])
  (.live [0, 9] (.cond (.t 9) (.seq (.region [(rO 2 (.mv (.c (.i .i64 0)))),
  (rO 3 (.mv (.c (.i .i64 91))))])
  (.ret))
  (.skip))))
  (.live [0] (.seq (.region [(rO 10 (.mv (.t 0))),
  (rO 11 (.bin .int true .sub (.t 10) (.c (.i .i64 32)))),
  (rO 12 (.bin .int true .quo (.t 11) (.c (.i .i64 16)))),
  (rO 2 (.mv (.t 12))),
  (rO 3 (.mv (.c (.i .i64 0))))])
  (.ret))))),
 []⟩
def c95 : IFunc := ⟨1, [.tmp 2],
 .seq (.region [(rO 1 (.box (.t 0))),
  (rO 2 (.mv (.c (.b false))))])
  (.live [1] (.seq (.region [(rO 3 (.mv (.c (.f (.func 114) [] []))))])
  (.live [3, 1] (.seq (.region [(rO 4 (.mv (.c (.f (.func 115) [] []))))])
  (.live [4, 3, 1] (.seq (.region [(rO 6 (.faddr 11 (.t 1))),
  (rO 7 (.load none (.t 6))),
  (rO 8 (.faddr 12 (.t 1))),
  (rO 9 (.load none (.t 8))),
  (rO 10 (.bslice [(.i .u64 0)] 2 [(0, 1, (.t 7)), (1, 1, (.t 9))])),
  (rO 5 (.mv (.t 10)))])
  (.live [4, 5, 3, 1] (.seq (.block 0 (.seq (.region [(rO 12 (.faddr 0 (.t 1))),
  (rO 13 (.load none (.t 12))),
  (rO 14 (.bin .int true .lss (.t 13) (.c (.i .i64 1)))),
  (rO 15 (.mv (.t 14))),
  ⟨(some 16), some (15, false), (.op (.faddr 0 (.t 1)))⟩,
  ⟨(some 17), some (15, false), (.op (.load none (.t 16)))⟩,
  ⟨(some 18), some (15, false), (.op (.bin .int true .gtr (.t 17) (.c (.i .i64 255))))⟩,
  (rO 19 (.pick (.t 15) (.c (.b true)) (.t 18))),
  (rO 20 (.mv (.t 19))),
  ⟨(some 21), some (20, false), (.op (.faddr 1 (.t 1)))⟩,
  ⟨(some 22), some (20, false), (.op (.load (some 5) (.t 21)))⟩,
  ⟨(some 23), some (20, false), (.call 116 [(.t 22)])⟩,
  ⟨(some 24), some (20, false), (.op (.un .not (.t 23)))⟩,
  (rO 25 (.pick (.t 20) (.c (.b true)) (.t 24))),
  (rO 11 (.mv (.t 25)))])
  (.live [4, 5, 3, 1, 11] (.cond (.t 11) (.seq (.region [(rO 2 (.mv (.c (.b false))))])
  (.ret))
  (.seq (.region [(rO 27 (.mv (.t 5))),
  (rO 28 (.faddr 6 (.t 1))),
  (rO 29 (.load none (.t 28))),
  (rO 30 (.faddr 7 (.t 1))),
  (rO 31 (.load none (.t 30))),
  (rO 32 (.faddr 8 (.t 1))),
  (rO 33 (.load none (.t 32))),
  (rO 34 (.faddr 9 (.t 1))),
  (rO 35 (.load none (.t 34))),
  (rO 36 (.faddr 10 (.t 1))),
  (rO 37 (.load none (.t 36))),
  (rO 38 (.bslice [(.i .u64 0)] 5 [(0, 1, (.t 29)), (1, 1, (.t 31)), (2, 1, (.t 33)), (3, 1, (.t 35)), (4, 1, (.t 37))])),
  (rO 39 (.app 1 8 (.t 27) (.t 38))),
  (rO 40 (.mv (.t 3))),
  ⟨(some 41), none, (.call 117 [(.t 39), (.t 40)])⟩,
  (rO 26 (.mv (.t 41)))])
  (.live [4, 5, 26] (.cond (.t 26) (.seq (.region [(rO 2 (.mv (.c (.b false))))])
  (.ret))
  (.skip))))))))
  (.live [4, 5] (.seq (.region [(rO 42 (.mv (.t 5))),
  (rO 43 (.mv (.t 4))),
  ⟨(some 44), none, (.call 117 [(.t 42), (.t 43)])⟩,
  (rO 45 (.un .not (.t 44))),
  (rO 2 (.mv (.t 45)))])
  (.ret))))))))))),
 []⟩
def c96l0 : ICode :=
 .seq (.region [(rO 9 (.bin .int false .lss (.t 8) (.t 7)))])
  (.live [0, 1, 7, 8, 9] (.seq (.cond (.t 9) (.skip)
  (.exit 0))
  (.live [0, 1, 7, 8] (.seq (.block 1 (.seq (.region [(rO 10 (.mv (.t 8))),
  (rO 5 (.mv (.t 10)))])
  (.live [5, 0, 1, 7, 8] (.seq (.region [(rO 11 (.mv (.t 1))),
  (rO 12 (.mv (.t 0))),
  (rO 13 (.mv (.t 5))),
  (rO 14 (.iaddr none 14 (.t 12) (.t 13))),
  (rO 15 (.load (some 14) (.t 14))),
  ⟨(some 16), none, (.callv (.t 11) [(.t 15)])⟩])
  (.live [5, 0, 1, 7, 8, 16] (.cond (.t 16) (.seq (.region [(rO 17 (.mv (.t 5))),
  (rO 4 (.mv (.t 17)))])
  (.ret))
  (.skip)))))))
  (.live [0, 1, 7, 8] (.region [(rO 18 (.bin .int true .add (.t 8) (.c (.i .i64 1)))),
  (rO 8 (.mv (.t 18)))]))))))
def c96 : IFunc := ⟨2, [.tmp 4],
 .seq (.region [(rO 4 (.mv (.c (.i .i64 0))))])
  (.live [0, 1] (.seq (.seq (.region [(rO 6 (.mv (.t 0))),
  (rO 7 (.len .slice (.t 6))),
  (rO 8 (.mv (.c (.i .i64 0))))])
  (.live [0, 1, 7, 8] (.block 0 (.loop [0, 1, 7, 8] c96l0))))
  (.live [] (.seq (.region [(rO 4 (.mv (.c (.i .i64 (-1)))))])
  (.ret))))),
 []⟩
def c97l0 : ICode :=
 .seq (.seq (.region [(rO 11 (.mv (.t 4))),
  (rO 12 (.bin .int true .add (.t 11) (.c (.i .i64 1)))),
  (rO 13 (.bin .int true .mul (.c (.i .i64 16)) (.t 12))),
  (rO 14 (.bin .int true .add (.c (.i .i64 32)) (.t 13))),
  (rO 15 (.mv (.t 0))),
  (rO 16 (.bin .int false .leq (.t 14) (.t 15)))])
  (.live [0, 4, 16] (.cond (.t 16) (.skip)
  (.exit 0))))
  (.live [0, 4] (.block 1 (.region [(rO 17 (.mv (.t 4))),
  (rO 18 (.bin .int true .add (.t 17) (.c (.i .i64 1)))),
  (rO 4 (.mv (.t 18)))])))
def c97 : IFunc := ⟨1, [.tmp 2, .tmp 3],
 .seq (.region [(rO 2 (.mv (.c (.i .i64 0)))),
  (rO 3 (.mv (.c (.i .i64 0))))])
  (.live [0] (.seq (.seq (.region [(rO 5 (.mv (.t 0))),
  (rO 6 (.bin .int true .lss (.t 5) (.c (.i .i64 64)))),
  (rO 7 (.mv (.t 6))),
  ⟨(some 8), some (7, false), (.op (.mv (.t 0)))⟩,
  ⟨(some 9), some (7, false), (.op (.bin .int true .gtr (.t 8) (.c (.i .i64 512))))⟩,
  (rO 10 (.pick (.t 7) (.c (.b true)) (.t 9)))])
  (.live [0, 10] (.cond (.t 10) (.seq (.region [(rO 2 (.mv (.c (.i .i64 0)))),
  (rO 3 (.mv (.c (.i .i64 91))))])
  (.ret))
  (.skip))))
  (.live [0] (.seq (.region [(rO 4 (.mv (.c (.i .i64 0))))])
  (.live [0, 4] (.seq (.block 0 (.loop [0, 4] c97l0))
  (.live [4] (.seq (.region [(rO 19 (.mv (.t 4))),
  (rO 2 (.mv (.t 19))),
  (rO 3 (.mv (.c (.i .i64 0))))])
  (.ret))))))))),
 []⟩
def c98d0 : List Stage :=
 [⟨[(⟨(some 26), none, (.op (.mv (.t 0)))⟩, 0), (⟨(some 27), none, (.op (.mv (.t 4)))⟩, 0), (⟨(some 28), none, (.op (.iaddr none 13 (.t 26) (.t 27)))⟩, 0), (⟨(some 29), none, (.op (.faddr 0 (.t 28)))⟩, 0), (⟨(some 30), none, (.op (.load none (.t 29)))⟩, 0), (⟨(some 31), none, (.op (.mv (.t 0)))⟩, 0), (⟨(some 32), none, (.op (.mv (.t 3)))⟩, 0), (⟨(some 33), none, (.op (.iaddr none 13 (.t 31) (.t 32)))⟩, 0), (⟨(some 34), none, (.op (.faddr 0 (.t 33)))⟩, 0), (⟨(some 35), none, (.op (.load none (.t 34)))⟩, 0), (⟨(some 36), none, (.op (.bin .int false .geq (.t 30) (.t 35)))⟩, 0), (⟨(some 37), none, (.op (.mv (.t 36)))⟩, 0), (⟨(some 38), some (37, false), (.op (.mv (.t 0)))⟩, 0), (⟨(some 39), some (37, false), (.op (.mv (.t 4)))⟩, 0), (⟨(some 40), some (37, false), (.op (.iaddr none 13 (.t 38) (.t 39)))⟩, 0), (⟨(some 41), some (37, false), (.op (.faddr 1 (.t 40)))⟩, 0), (⟨(some 42), some (37, false), (.op (.load (some 5) (.t 41)))⟩, 0), (⟨(some 43), some (37, false), (.op (.mv (.t 0)))⟩, 0), (⟨(some 44), some (37, false), (.op (.mv (.t 3)))⟩, 0), (⟨(some 45), some (37, false), (.op (.iaddr none 13 (.t 43) (.t 44)))⟩, 0), (⟨(some 46), some (37, false), (.op (.faddr 1 (.t 45)))⟩, 0), (⟨(some 47), some (37, false), (.op (.load (some 5) (.t 46)))⟩, 0), (⟨(some 48), some (37, false), (.op (.eqag false [.int, .int, .int, .int, .int] (.t 42) (.t 47)))⟩, 0), (⟨(some 49), none, (.op (.pick (.t 37) (.c (.b true)) (.t 48)))⟩, 0)], none, none⟩]
def c98d0w : List (ROp × Bool) :=
 [((rO 26 (.mv (.t 0))), false), ((rO 27 (.mv (.t 4))), false), ((rO 28 (.iaddr none 13 (.t 26) (.t 27))), false), ((rO 29 (.faddr 0 (.t 28))), false), ((rO 30 (.load none (.t 29))), false), ((rO 31 (.mv (.t 0))), false), ((rO 32 (.mv (.t 3))), false), ((rO 33 (.iaddr none 13 (.t 31) (.t 32))), false), ((rO 34 (.faddr 0 (.t 33))), false), ((rO 35 (.load none (.t 34))), false), ((rO 36 (.bin .int false .geq (.t 30) (.t 35))), false), ((rO 37 (.mv (.t 36))), false), (⟨(some 38), some (37, false), (.op (.mv (.t 0)))⟩, false), (⟨(some 39), some (37, false), (.op (.mv (.t 4)))⟩, false), (⟨(some 40), some (37, false), (.op (.iaddr none 13 (.t 38) (.t 39)))⟩, false), (⟨(some 41), some (37, false), (.op (.faddr 1 (.t 40)))⟩, false), (⟨(some 42), some (37, false), (.op (.load (some 5) (.t 41)))⟩, false), (⟨(some 43), some (37, false), (.op (.mv (.t 0)))⟩, false), (⟨(some 44), some (37, false), (.op (.mv (.t 3)))⟩, false), (⟨(some 45), some (37, false), (.op (.iaddr none 13 (.t 43) (.t 44)))⟩, false), (⟨(some 46), some (37, false), (.op (.faddr 1 (.t 45)))⟩, false), (⟨(some 47), some (37, false), (.op (.load (some 5) (.t 46)))⟩, false), (⟨(some 48), some (37, false), (.op (.eqag false [.int, .int, .int, .int, .int] (.t 42) (.t 47)))⟩, false), ((rO 49 (.pick (.t 37) (.c (.b true)) (.t 48))), false)]
theorem c98d0_w {P : Program} {O : Orc} {S0 : Mem} {rd : Bool} {e : Env} {S : Mem} {d : List Nat} {Q : Kont} : W P O S0 rd (.draw c98d0 []) e S d Q = wFl O c98d0w e S (normK Q d) := W_draw' (by kernel_rfl) (by kernel_rfl)
attribute [go_sem] c98d0_w c98d0w
def c98l1 : ICode :=
 .seq (.region [(rO 24 (.bin .int false .lss (.t 23) (.t 22)))])
  (.live [0, 3, 9, 10, 22, 23, 24] (.seq (.cond (.t 24) (.skip)
  (.exit 2))
  (.live [0, 3, 9, 10, 22, 23] (.seq (.block 3 (.seq (.region [(rO 25 (.mv (.t 23))),
  (rO 4 (.mv (.t 25)))])
  (.live [0, 3, 9, 10, 22, 23, 4] (.seq (.draw c98d0 [])
  (.live [0, 3, 9, 10, 22, 23, 49] (.cond (.t 49) (.seq (.region [(rO 2 (.mv (.c (.i .i64 111))))])
  (.ret))
  (.skip)))))))
  (.live [0, 3, 9, 10, 22, 23] (.region [(rO 50 (.bin .int true .add (.t 23) (.c (.i .i64 1)))),
  (rO 23 (.mv (.t 50)))]))))))
def c98l2 : ICode :=
 .seq (.region [(rO 11 (.bin .int false .lss (.t 10) (.t 9)))])
  (.live [0, 9, 10, 11] (.seq (.cond (.t 11) (.skip)
  (.exit 0))
  (.live [0, 9, 10] (.seq (.block 1 (.seq (.region [(rO 12 (.mv (.t 10))),
  (rO 3 (.mv (.t 12)))])
  (.live [0, 3, 9, 10] (.seq (.seq (.region [(rO 13 (.mv (.t 0))),
  (rO 14 (.mv (.t 3))),
  (rO 15 (.iaddr none 13 (.t 13) (.t 14))),
  (rO 16 (.load (some 13) (.t 15))),
  ⟨(some 17), none, (.call 99 [(.t 16)])⟩,
  (rO 18 (.un .not (.t 17)))])
  (.live [0, 3, 9, 10, 18] (.cond (.t 18) (.seq (.region [(rO 2 (.mv (.c (.i .i64 111))))])
  (.ret))
  (.skip))))
  (.live [0, 3, 9, 10] (.seq (.region [(rO 19 (.mv (.t 0))),
  (rO 20 (.mv (.t 3))),
  (rO 21 (.slice 13 (.t 19) none (some (.t 20)) none)),
  (rO 22 (.len .slice (.t 21))),
  (rO 23 (.mv (.c (.i .i64 0))))])
  (.live [0, 3, 9, 10, 22, 23] (.block 2 (.loop [0, 3, 9, 10, 22, 23] c98l1)))))))))
  (.live [0, 9, 10] (.region [(rO 51 (.bin .int true .add (.t 10) (.c (.i .i64 1)))),
  (rO 10 (.mv (.t 51)))]))))))
def c98 : IFunc := ⟨1, [.tmp 2],
 .seq (.region [(rO 2 (.mv (.c (.i .i64 0))))])
  (.live [0] (.seq (.seq (.region [(rO 5 (.mv (.t 0))),
  (rO 6 (.len .slice (.t 5))),
  (rO 7 (.bin .int true .gtr (.t 6) (.c (.i .i64 8))))])
  (.live [0, 7] (.cond (.t 7) (.seq (.region [(rO 2 (.mv (.c (.i .i64 111))))])
  (.ret))
  (.skip))))
  (.live [0] (.seq (.seq (.region [(rO 8 (.mv (.t 0))),
  (rO 9 (.len .slice (.t 8))),
  (rO 10 (.mv (.c (.i .i64 0))))])
  (.live [0, 9, 10] (.block 0 (.loop [0, 9, 10] c98l2))))
  (.live [] (.seq (.region [(rO 2 (.mv (.c (.i .i64 0))))])
  (.ret))))))),
 []⟩
def c99l0 : ICode :=
 .seq (.region [(rO 35 (.bin .int true .lss (.t 34) (.c (.i .i64 7))))])
  (.live [33, 1, 34, 35] (.seq (.cond (.t 35) (.skip)
  (.exit 0))
  (.live [33, 1, 34] (.seq (.block 1 (.seq (.region [(rO 36 (.ixa 7 1 none (.t 33) (.t 34))),
  (rO 4 (.mv (.t 36)))])
  (.live [33, 1, 34, 4] (.seq (.region [(rO 37 (.mv (.t 4))),
  (rO 38 (.bin .int true .gtr (.t 37) (.c (.i .u64 281474976710656))))])
  (.live [33, 1, 34, 38] (.cond (.t 38) (.seq (.region [(rO 2 (.mv (.c (.b false))))])
  (.ret))
  (.skip)))))))
  (.live [33, 1, 34] (.region [(rO 39 (.bin .int true .add (.t 34) (.c (.i .i64 1)))),
  (rO 34 (.mv (.t 39)))]))))))
def c99 : IFunc := ⟨1, [.tmp 2],
 .seq (.region [(rO 1 (.box (.t 0))),
  (rO 2 (.mv (.c (.b false))))])
  (.live [1] (.seq (.seq (.region [(rO 5 (.faddr 0 (.t 1))),
  (rO 6 (.load none (.t 5))),
  (rO 7 (.bin .int true .lss (.t 6) (.c (.i .i64 1)))),
  (rO 8 (.mv (.t 7))),
  ⟨(some 9), some (8, false), (.op (.faddr 0 (.t 1)))⟩,
  ⟨(some 10), some (8, false), (.op (.load none (.t 9)))⟩,
  ⟨(some 11), some (8, false), (.op (.bin .int true .gtr (.t 10) (.c (.i .i64 255))))⟩,
  (rO 12 (.pick (.t 8) (.c (.b true)) (.t 11))),
  (rO 13 (.mv (.t 12))),
  ⟨(some 14), some (13, false), (.op (.faddr 1 (.t 1)))⟩,
  ⟨(some 15), some (13, false), (.op (.load (some 5) (.t 14)))⟩,
  ⟨(some 16), some (13, false), (.call 118 [(.t 15)])⟩,
  ⟨(some 17), some (13, false), (.op (.un .not (.t 16)))⟩,
  (rO 18 (.pick (.t 13) (.c (.b true)) (.t 17)))])
  (.live [1, 18] (.cond (.t 18) (.seq (.region [(rO 2 (.mv (.c (.b false))))])
  (.ret))
  (.skip))))
  (.live [1] (.seq (.seq (.region [(rO 19 (.faddr 6 (.t 1))),
  (rO 20 (.load none (.t 19))),
  (rO 21 (.faddr 7 (.t 1))),
  (rO 22 (.load none (.t 21))),
  (rO 23 (.faddr 8 (.t 1))),
  (rO 24 (.load none (.t 23))),
  (rO 25 (.faddr 9 (.t 1))),
  (rO 26 (.load none (.t 25))),
  (rO 27 (.faddr 10 (.t 1))),
  (rO 28 (.load none (.t 27))),
  (rO 29 (.faddr 11 (.t 1))),
  (rO 30 (.load none (.t 29))),
  (rO 31 (.faddr 12 (.t 1))),
  (rO 32 (.load none (.t 31))),
  (rO 33 (.build [(.i .u64 0), (.i .u64 0), (.i .u64 0), (.i .u64 0), (.i .u64 0), (.i .u64 0), (.i .u64 0)] [(0, 1, (.t 20)), (1, 1, (.t 22)), (2, 1, (.t 24)), (3, 1, (.t 26)), (4, 1, (.t 28)), (5, 1, (.t 30)), (6, 1, (.t 32))])),
  (rO 34 (.mv (.c (.i .i64 0))))])
  (.live [33, 1, 34] (.block 0 (.loop [33, 1, 34] c99l0))))
  (.live [1] (.seq (.region [(rO 40 (.faddr 11 (.t 1))),
  (rO 41 (.load none (.t 40))),
  (rO 42 (.bin .int true .geq (.t 41) (.c (.i .u64 1500)))),
  (rO 43 (.mv (.t 42))),
  ⟨(some 44), some (43, true), (.op (.faddr 12 (.t 1)))⟩,
  ⟨(some 45), some (43, true), (.op (.load none (.t 44)))⟩,
  ⟨(some 46), some (43, true), (.op (.bin .int true .geq (.t 45) (.c (.i .u64 1500))))⟩,
  (rO 47 (.pick (.t 43) (.t 46) (.c (.b false)))),
  (rO 2 (.mv (.t 47)))])
  (.ret))))))),
 []⟩
def c100 : IFunc := ⟨1, [.tmp 2],
 .seq (.region [(rO 1 (.box (.t 0))),
  (rO 2 (.mv (.c (.i .u32 0))))])
  (.live [1] (.seq (.region [(rO 3 (.iaddr (some 4) 1 (.t 1) (.c (.i .i64 0)))),
  (rO 4 (.load none (.t 3))),
  (rO 5 (.toInt .u32 (.t 4))),
  (rO 6 (.bin .int true .mul (.t 5) (.c (.i .u32 16777216)))),
  (rO 7 (.iaddr (some 4) 1 (.t 1) (.c (.i .i64 1)))),
  (rO 8 (.load none (.t 7))),
  (rO 9 (.toInt .u32 (.t 8))),
  (rO 10 (.bin .int true .mul (.t 9) (.c (.i .u32 65536)))),
  (rO 11 (.bin .int false .add (.t 6) (.t 10))),
  (rO 12 (.iaddr (some 4) 1 (.t 1) (.c (.i .i64 2)))),
  (rO 13 (.load none (.t 12))),
  (rO 14 (.toInt .u32 (.t 13))),
  (rO 15 (.bin .int true .mul (.t 14) (.c (.i .u32 256)))),
  (rO 16 (.bin .int false .add (.t 11) (.t 15))),
  (rO 17 (.iaddr (some 4) 1 (.t 1) (.c (.i .i64 3)))),
  (rO 18 (.load none (.t 17))),
  (rO 19 (.toInt .u32 (.t 18))),
  (rO 20 (.bin .int false .add (.t 16) (.t 19))),
  (rO 2 (.mv (.t 20)))])
  (.ret))),
 []⟩
def c101l0 : ICode :=
 .seq (.region [(rO 8 (.bin .int true .lss (.t 7) (.c (.i .i64 4))))])
  (.live [6, 7, 3, 8] (.seq (.cond (.t 8) (.skip)
  (.exit 0))
  (.live [6, 7, 3] (.seq (.block 1 (.seq (.region [(rO 9 (.ixa 4 1 none (.t 6) (.t 7))),
  (rO 5 (.mv (.t 9)))])
  (.live [6, 7, 5, 3] (.region [(rO 10 (.mv (.t 3))),
  (rO 11 (.bin .int true .shl (.t 10) (.c (.i .u64 8)))),
  (rO 12 (.mv (.t 5))),
  (rO 13 (.toInt .u32 (.t 12))),
  (rO 14 (.bin .int false .or (.t 11) (.t 13))),
  (rO 3 (.mv (.t 14)))]))))
  (.live [6, 3, 7] (.region [(rO 15 (.bin .int true .add (.t 7) (.c (.i .i64 1)))),
  (rO 7 (.mv (.t 15)))]))))))
def c101 : IFunc := ⟨1, [.tmp 2],
 .seq (.region [(rO 1 (.box (.t 0))),
  (rO 2 (.mv (.c (.i .u32 0))))])
  (.live [1] (.seq (.region [(rO 3 (.mv (.c (.i .u32 0))))])
  (.live [3, 1] (.seq (.seq (.region [(rO 6 (.load (some 4) (.t 1))),
  (rO 7 (.mv (.c (.i .i64 0))))])
  (.live [6, 7, 3] (.block 0 (.loop [6, 7, 3] c101l0))))
  (.live [3] (.seq (.region [(rO 16 (.mv (.t 3))),
  (rO 2 (.mv (.t 16)))])
  (.ret))))))),
 []⟩
def c102l0 : ICode :=
 .seq (.region [(rO 13 (.bin .int false .lss (.t 12) (.t 11)))])
  (.live [10, 11, 12, 5, 13] (.seq (.cond (.t 13) (.skip)
  (.exit 0))
  (.live [10, 11, 12, 5] (.seq (.block 1 (.seq (.region [(rO 14 (.iaddr none 1 (.t 10) (.t 12))),
  (rO 15 (.load none (.t 14))),
  (rO 7 (.mv (.t 15)))])
  (.live [10, 11, 12, 7, 5] (.region [(rO 16 (.mv (.t 5))),
  (rO 17 (.mv (.t 7))),
  ⟨(some 18), none, (.call 119 [(.t 16), (.t 17)])⟩,
  (rO 5 (.mv (.t 18)))]))))
  (.live [10, 11, 5, 12] (.region [(rO 19 (.bin .int true .add (.t 12) (.c (.i .i64 1)))),
  (rO 12 (.mv (.t 19)))]))))))
def c102 : IFunc := ⟨2, [.tmp 4],
 .seq (.region [(rO 4 (.mv (.c (.i .u32 0))))])
  (.live [1, 0] (.seq (.region [(rO 8 (.mv (.t 0))),
  (rO 9 (.un .xor (.t 8))),
  (rO 5 (.mv (.t 9)))])
  (.live [5, 1] (.seq (.seq (.region [(rO 10 (.mv (.t 1))),
  (rO 11 (.len .slice (.t 10))),
  (rO 12 (.mv (.c (.i .i64 0))))])
  (.live [10, 11, 12, 5] (.block 0 (.loop [10, 11, 12, 5] c102l0))))
  (.live [5] (.seq (.region [(rO 20 (.mv (.t 5))),
  (rO 21 (.un .xor (.t 20))),
  (rO 4 (.mv (.t 21)))])
  (.ret))))))),
 []⟩
set_option maxRecDepth 1000000
theorem f4 : compFunc Tryz.prog 4 = some (stripF c4) := by kernel_rfl
theorem f5 : compFunc Tryz.prog 5 = some (stripF c5) := by kernel_rfl
theorem f6 : compFunc Tryz.prog 6 = some (stripF c6) := by kernel_rfl
theorem f8 : compFunc Tryz.prog 8 = some (stripF c8) := by kernel_rfl
theorem f9 : compFunc Tryz.prog 9 = some (stripF c9) := by kernel_rfl
theorem f11 : compFunc Tryz.prog 11 = some (stripF c11) := by kernel_rfl
theorem f13 : compFunc Tryz.prog 13 = some (stripF c13) := by kernel_rfl
theorem f15 : compFunc Tryz.prog 15 = some (stripF c15) := by kernel_rfl
theorem f17 : compFunc Tryz.prog 17 = some (stripF c17) := by kernel_rfl
theorem f20 : compFunc Tryz.prog 20 = some (stripF c20) := by kernel_rfl
theorem f21 : compFunc Tryz.prog 21 = some (stripF c21) := by kernel_rfl
theorem f22 : compFunc Tryz.prog 22 = some (stripF c22) := by kernel_rfl
theorem f23 : compFunc Tryz.prog 23 = some (stripF c23) := by kernel_rfl
theorem f24 : compFunc Tryz.prog 24 = some (stripF c24) := by kernel_rfl
theorem f25 : compFunc Tryz.prog 25 = some (stripF c25) := by kernel_rfl
theorem f26 : compFunc Tryz.prog 26 = some (stripF c26) := by kernel_rfl
theorem f27 : compFunc Tryz.prog 27 = some (stripF c27) := by kernel_rfl
theorem f28 : compFunc Tryz.prog 28 = some (stripF c28) := by kernel_rfl
theorem f29 : compFunc Tryz.prog 29 = some (stripF c29) := by kernel_rfl
theorem f30 : compFunc Tryz.prog 30 = some (stripF c30) := by kernel_rfl
theorem f31 : compFunc Tryz.prog 31 = some (stripF c31) := by kernel_rfl
theorem f34 : compFunc Tryz.prog 34 = some (stripF c34) := by kernel_rfl
theorem f35 : compFunc Tryz.prog 35 = some (stripF c35) := by kernel_rfl
theorem f37 : compFunc Tryz.prog 37 = some (stripF c37) := by kernel_rfl
theorem f38 : compFunc Tryz.prog 38 = some (stripF c38) := by kernel_rfl
theorem f40 : compFunc Tryz.prog 40 = some (stripF c40) := by kernel_rfl
theorem f43 : compFunc Tryz.prog 43 = some (stripF c43) := by kernel_rfl
theorem f44 : compFunc Tryz.prog 44 = some (stripF c44) := by kernel_rfl
theorem f45 : compFunc Tryz.prog 45 = some (stripF c45) := by kernel_rfl
theorem f46 : compFunc Tryz.prog 46 = some (stripF c46) := by kernel_rfl
theorem f47 : compFunc Tryz.prog 47 = some (stripF c47) := by kernel_rfl
theorem f48 : compFunc Tryz.prog 48 = some (stripF c48) := by kernel_rfl
theorem f49 : compFunc Tryz.prog 49 = some (stripF c49) := by kernel_rfl
theorem f50 : compFunc Tryz.prog 50 = some (stripF c50) := by kernel_rfl
theorem f51 : compFunc Tryz.prog 51 = some (stripF c51) := by kernel_rfl
theorem f52 : compFunc Tryz.prog 52 = some (stripF c52) := by kernel_rfl
theorem f53 : compFunc Tryz.prog 53 = some (stripF c53) := by kernel_rfl
theorem f54 : compFunc Tryz.prog 54 = some (stripF c54) := by kernel_rfl
theorem f55 : compFunc Tryz.prog 55 = some (stripF c55) := by kernel_rfl
theorem f56 : compFunc Tryz.prog 56 = some (stripF c56) := by kernel_rfl
theorem f57 : compFunc Tryz.prog 57 = some (stripF c57) := by kernel_rfl
theorem f58 : compFunc Tryz.prog 58 = some (stripF c58) := by kernel_rfl
theorem f59 : compFunc Tryz.prog 59 = some (stripF c59) := by kernel_rfl
theorem f60 : compFunc Tryz.prog 60 = some (stripF c60) := by kernel_rfl
theorem f61 : compFunc Tryz.prog 61 = some (stripF c61) := by kernel_rfl
theorem f62 : compFunc Tryz.prog 62 = some (stripF c62) := by kernel_rfl
theorem f63 : compFunc Tryz.prog 63 = some (stripF c63) := by kernel_rfl
theorem f64 : compFunc Tryz.prog 64 = some (stripF c64) := by kernel_rfl
theorem f68 : compFunc Tryz.prog 68 = some (stripF c68) := by kernel_rfl
theorem f69 : compFunc Tryz.prog 69 = some (stripF c69) := by kernel_rfl
theorem f70 : compFunc Tryz.prog 70 = some (stripF c70) := by kernel_rfl
theorem f71 : compFunc Tryz.prog 71 = some (stripF c71) := by kernel_rfl
theorem f72 : compFunc Tryz.prog 72 = some (stripF c72) := by kernel_rfl
theorem f73 : compFunc Tryz.prog 73 = some (stripF c73) := by kernel_rfl
theorem f74 : compFunc Tryz.prog 74 = some (stripF c74) := by kernel_rfl
theorem f75 : compFunc Tryz.prog 75 = some (stripF c75) := by kernel_rfl
theorem f76 : compFunc Tryz.prog 76 = some (stripF c76) := by kernel_rfl
theorem f77 : compFunc Tryz.prog 77 = some (stripF c77) := by kernel_rfl
theorem f78 : compFunc Tryz.prog 78 = some (stripF c78) := by kernel_rfl
theorem f79 : compFunc Tryz.prog 79 = some (stripF c79) := by kernel_rfl
theorem f80 : compFunc Tryz.prog 80 = some (stripF c80) := by kernel_rfl
theorem f81 : compFunc Tryz.prog 81 = some (stripF c81) := by kernel_rfl
theorem f82 : compFunc Tryz.prog 82 = some (stripF c82) := by kernel_rfl
theorem f83 : compFunc Tryz.prog 83 = some (stripF c83) := by kernel_rfl
theorem f84 : compFunc Tryz.prog 84 = some (stripF c84) := by kernel_rfl
theorem f85 : compFunc Tryz.prog 85 = some (stripF c85) := by kernel_rfl
theorem f86 : compFunc Tryz.prog 86 = some (stripF c86) := by kernel_rfl
theorem f87 : compFunc Tryz.prog 87 = some (stripF c87) := by kernel_rfl
theorem f88 : compFunc Tryz.prog 88 = some (stripF c88) := by kernel_rfl
theorem f89 : compFunc Tryz.prog 89 = some (stripF c89) := by kernel_rfl
theorem f90 : compFunc Tryz.prog 90 = some (stripF c90) := by kernel_rfl
theorem f91 : compFunc Tryz.prog 91 = some (stripF c91) := by kernel_rfl
theorem f94 : compFunc Tryz.prog 94 = some (stripF c94) := by kernel_rfl
theorem f95 : compFunc Tryz.prog 95 = some (stripF c95) := by kernel_rfl
theorem f96 : compFunc Tryz.prog 96 = some (stripF c96) := by kernel_rfl
theorem f97 : compFunc Tryz.prog 97 = some (stripF c97) := by kernel_rfl
theorem f98 : compFunc Tryz.prog 98 = some (stripF c98) := by kernel_rfl
theorem f99 : compFunc Tryz.prog 99 = some (stripF c99) := by kernel_rfl
theorem f100 : compFunc Tryz.prog 100 = some (stripF c100) := by kernel_rfl
theorem f101 : compFunc Tryz.prog 101 = some (stripF c101) := by kernel_rfl
theorem f102 : compFunc Tryz.prog 102 = some (stripF c102) := by kernel_rfl
end Go.Proofs.YtkfobkfhbkicaaaGreat
