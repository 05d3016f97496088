/- Proved here: the code of the functions, written out, is what the compiler makes of the program. No condition. -/
import Derived.Test.YtkfobkfhbkicaaaGreatMc
import Derived.Test.YtkfobkfhbkicaaaGreatRows
set_option linter.unusedSimpArgs false
set_option linter.unusedVariables false
namespace Go.Proofs.YtkfobkfhbkicaaaGreat
open Go.RowKit
def c103l0 : ICode :=
 .seq (.seq (.region [(rO 7 (.mv (.t 3))),
  (rO 8 (.bin .int true .geq (.t 7) (.c (.i .i64 0))))])
  (.live [1, 0, 3, 8] (.cond (.t 8) (.skip)
  (.exit 0))))
  (.live [1, 0, 3] (.seq (.block 1 (.seq (.region [(rO 11 (.mv (.t 0))),
  (rO 12 (.mv (.t 3))),
  (rO 13 (.load none (.t 1))),
  (rO 14 (.mv (.t 3))),
  (rO 15 (.iaddr none 1 (.t 13) (.t 14))),
  (rO 16 (.load none (.t 15))),
  ⟨(some 17), none, (.callv (.t 11) [(.t 12), (.t 16)])⟩,
  (rO 18 (.un .not (.t 17)))])
  (.live [1, 0, 3, 18] (.cond (.t 18) (.ret)
  (.skip)))))
  (.live [1, 0, 3] (.region [(rO 9 (.mv (.t 3))),
  (rO 10 (.bin .int true .sub (.t 9) (.c (.i .i64 1)))),
  (rO 3 (.mv (.t 10)))]))))
def c103 : IFunc := ⟨2, [],
 .seq (.region [(rO 4 (.load none (.t 1))),
  (rO 5 (.len .slice (.t 4))),
  (rO 6 (.bin .int true .sub (.t 5) (.c (.i .i64 1)))),
  (rO 3 (.mv (.t 6)))])
  (.live [1, 0, 3] (.block 0 (.loop [1, 0, 3] c103l0))),
 []⟩
def c104 : IFunc := ⟨2, [.tmp 4],
 .seq (.region [(rO 4 (.mv (.c (.b false))))])
  (.live [1, 0] (.seq (.region [(rO 5 (.mv (.t 0))),
  (rO 6 (.mv (.t 1))),
  (rO 7 (.bin .int true .quo (.t 6) (.c (.i .i64 8)))),
  (rO 8 (.iaddr none 1 (.t 5) (.t 7))),
  (rO 9 (.load none (.t 8))),
  (rO 10 (.mv (.t 1))),
  (rO 11 (.bin .int true .rem (.t 10) (.c (.i .i64 8)))),
  (rO 12 (.bin .int true .sub (.c (.i .i64 7)) (.t 11))),
  (rO 13 (.bin .int false .shr (.t 9) (.t 12))),
  (rO 14 (.bin .int true .rem (.t 13) (.c (.i .u8 2)))),
  (rO 15 (.bin .int true .eql (.t 14) (.c (.i .u8 1)))),
  (rO 4 (.mv (.t 15)))])
  (.ret))),
 []⟩
def c105l0 : ICode :=
 .seq (.seq (.region [(rO 8 (.mv (.t 7))),
  (rO 9 (.bin .int true .lss (.t 8) (.c (.i .i64 32))))])
  (.live [7, 6, 1, 0, 5, 9] (.cond (.t 9) (.skip)
  (.exit 0))))
  (.live [7, 6, 1, 0, 5] (.seq (.block 1 (.seq (.seq (.region [(rO 12 (.mv (.t 0))),
  (rO 13 (.bin .int true .rem (.t 12) (.c (.i .u64 2)))),
  (rO 14 (.mv (.t 1))),
  (rO 15 (.bin .int true .rem (.t 14) (.c (.i .u64 2)))),
  (rO 16 (.bin .int false .neq (.t 13) (.t 15)))])
  (.live [7, 6, 1, 0, 5, 16] (.cond (.t 16) (.region [(rO 17 (.mv (.t 5))),
  (rO 18 (.mv (.t 6))),
  (rO 19 (.bin .int false .add (.t 17) (.t 18))),
  (rO 5 (.mv (.t 19)))])
  (.skip))))
  (.live [5, 7, 6, 1, 0] (.seq (.region [(rO 20 (.mv (.t 0))),
  (rO 21 (.bin .int true .quo (.t 20) (.c (.i .u64 2)))),
  (rO 0 (.mv (.t 21)))])
  (.live [0, 5, 7, 6, 1] (.seq (.region [(rO 22 (.mv (.t 1))),
  (rO 23 (.bin .int true .quo (.t 22) (.c (.i .u64 2)))),
  (rO 1 (.mv (.t 23)))])
  (.live [1, 0, 5, 7, 6] (.region [(rO 24 (.mv (.t 6))),
  (rO 25 (.bin .int true .mul (.t 24) (.c (.i .u64 2)))),
  (rO 6 (.mv (.t 25)))]))))))))
  (.live [6, 1, 0, 5, 7] (.region [(rO 10 (.mv (.t 7))),
  (rO 11 (.bin .int true .add (.t 10) (.c (.i .i64 1)))),
  (rO 7 (.mv (.t 11)))]))))
def c105 : IFunc := ⟨2, [.tmp 4],
 .seq (.region [(rO 4 (.mv (.c (.i .u64 0))))])
  (.live [1, 0] (.seq (.region [(rO 5 (.mv (.c (.i .u64 0))))])
  (.live [1, 0, 5] (.seq (.region [(rO 6 (.mv (.c (.i .u64 1))))])
  (.live [6, 1, 0, 5] (.seq (.seq (.region [(rO 7 (.mv (.c (.i .i64 0))))])
  (.live [7, 6, 1, 0, 5] (.block 0 (.loop [7, 6, 1, 0, 5] c105l0))))
  (.live [5] (.seq (.region [(rO 26 (.mv (.t 5))),
  (rO 4 (.mv (.t 26)))])
  (.ret))))))))),
 []⟩
def c106d0 : List Stage :=
 [⟨[(⟨(some 16), none, (.op (.mv (.t 0)))⟩, 0), (⟨(some 17), none, (.op (.mv (.t 5)))⟩, 0), (⟨(some 18), none, (.op (.iaddr none 1 (.t 16) (.t 17)))⟩, 0), (⟨(some 19), none, (.op (.load none (.t 18)))⟩, 0), (⟨(some 20), none, (.op (.mv (.t 1)))⟩, 0), (⟨(some 21), none, (.op (.mv (.t 5)))⟩, 0), (⟨(some 22), none, (.op (.iaddr none 1 (.t 20) (.t 21)))⟩, 0), (⟨(some 23), none, (.op (.load none (.t 22)))⟩, 0), (⟨(some 24), none, (.op (.bin .int false .neq (.t 19) (.t 23)))⟩, 0)], none, none⟩]
def c106d0w : List (ROp × Bool) :=
 [((rO 16 (.mv (.t 0))), false), ((rO 17 (.mv (.t 5))), false), ((rO 18 (.iaddr none 1 (.t 16) (.t 17))), false), ((rO 19 (.load none (.t 18))), false), ((rO 20 (.mv (.t 1))), false), ((rO 21 (.mv (.t 5))), false), ((rO 22 (.iaddr none 1 (.t 20) (.t 21))), false), ((rO 23 (.load none (.t 22))), false), ((rO 24 (.bin .int false .neq (.t 19) (.t 23))), false)]
theorem c106d0_w {P : Program} {O : Orc} {S0 : Mem} {rd : Bool} {e : Env} {S : Mem} {d : List Nat} {Q : Kont} : W P O S0 rd (.draw c106d0 []) e S d Q = wFl O c106d0w e S (normK Q d) := W_draw' (by kernel_rfl) (by kernel_rfl)
attribute [go_sem] c106d0_w c106d0w
def c106l1 : ICode :=
 .seq (.region [(rO 14 (.bin .int false .lss (.t 13) (.t 12)))])
  (.live [0, 1, 12, 13, 14] (.seq (.cond (.t 14) (.skip)
  (.exit 0))
  (.live [0, 1, 12, 13] (.seq (.block 1 (.seq (.region [(rO 15 (.mv (.t 13))),
  (rO 5 (.mv (.t 15)))])
  (.live [0, 1, 12, 13, 5] (.seq (.draw c106d0 [])
  (.live [0, 1, 12, 13, 24] (.cond (.t 24) (.seq (.region [(rO 4 (.mv (.c (.b false))))])
  (.ret))
  (.skip)))))))
  (.live [0, 1, 12, 13] (.region [(rO 25 (.bin .int true .add (.t 13) (.c (.i .i64 1)))),
  (rO 13 (.mv (.t 25)))]))))))
def c106 : IFunc := ⟨2, [.tmp 4],
 .seq (.region [(rO 4 (.mv (.c (.b false))))])
  (.live [0, 1] (.seq (.seq (.region [(rO 6 (.mv (.t 0))),
  (rO 7 (.len .slice (.t 6))),
  (rO 8 (.mv (.t 1))),
  (rO 9 (.len .slice (.t 8))),
  (rO 10 (.bin .int false .neq (.t 7) (.t 9)))])
  (.live [0, 1, 10] (.cond (.t 10) (.seq (.region [(rO 4 (.mv (.c (.b false))))])
  (.ret))
  (.skip))))
  (.live [0, 1] (.seq (.seq (.region [(rO 11 (.mv (.t 0))),
  (rO 12 (.len .slice (.t 11))),
  (rO 13 (.mv (.c (.i .i64 0))))])
  (.live [0, 1, 12, 13] (.block 0 (.loop [0, 1, 12, 13] c106l1))))
  (.live [] (.seq (.region [(rO 4 (.mv (.c (.b true))))])
  (.ret))))))),
 []⟩
def c107 : IFunc := ⟨1, [.tmp 2],
 .seq (.region [(rO 2 (.mv (.c .sn)))])
  (.live [0] (.seq (.seq (.region [(rO 3 (.mv (.t 0))),
  (rO 4 (.bin .slice true .eql (.t 3) (.c .sn)))])
  (.live [0, 4] (.cond (.t 4) (.seq (.region [(rO 2 (.mv (.c .sn)))])
  (.ret))
  (.skip))))
  (.live [0] (.seq (.region [(rO 5 (.bslice [(.i .u8 0)] 0 [])),
  (rO 6 (.mv (.t 0))),
  (rO 7 (.app 1 1 (.t 5) (.t 6))),
  (rO 2 (.mv (.t 7)))])
  (.ret))))),
 []⟩
def c108l0 : ICode :=
 .seq (.region [(rO 9 (.bin .int false .lss (.t 8) (.t 7)))])
  (.live [0, 1, 7, 8, 9] (.seq (.cond (.t 9) (.skip)
  (.exit 0))
  (.live [0, 1, 7, 8] (.seq (.block 1 (.seq (.region [(rO 10 (.mv (.t 8))),
  (rO 5 (.mv (.t 10)))])
  (.live [5, 0, 1, 7, 8] (.seq (.region [(rO 11 (.mv (.t 1))),
  (rO 12 (.mv (.t 0))),
  (rO 13 (.mv (.t 5))),
  (rO 14 (.iaddr none 1 (.t 12) (.t 13))),
  (rO 15 (.load none (.t 14))),
  ⟨(some 16), none, (.callv (.t 11) [(.t 15)])⟩])
  (.live [5, 0, 1, 7, 8, 16] (.cond (.t 16) (.seq (.region [(rO 17 (.mv (.t 5))),
  (rO 4 (.mv (.t 17)))])
  (.ret))
  (.skip)))))))
  (.live [0, 1, 7, 8] (.region [(rO 18 (.bin .int true .add (.t 8) (.c (.i .i64 1)))),
  (rO 8 (.mv (.t 18)))]))))))
def c108 : IFunc := ⟨2, [.tmp 4],
 .seq (.region [(rO 4 (.mv (.c (.i .i64 0))))])
  (.live [0, 1] (.seq (.seq (.region [(rO 6 (.mv (.t 0))),
  (rO 7 (.len .slice (.t 6))),
  (rO 8 (.mv (.c (.i .i64 0))))])
  (.live [0, 1, 7, 8] (.block 0 (.loop [0, 1, 7, 8] c108l0))))
  (.live [] (.seq (.region [(rO 4 (.mv (.c (.i .i64 (-1)))))])
  (.ret))))),
 []⟩
def c109 : IFunc := ⟨1, [.tmp 2],
 .seq (.region [(rO 2 (.mv (.c (.i .i64 0))))])
  (.live [0] (.seq (.region [(rO 3 (.mv (.t 0))),
  ⟨(some 4), none, (.call 120 [(.t 3)])⟩,
  (rO 5 (.bin .int true .add (.t 4) (.c (.i .i64 7)))),
  (rO 6 (.bin .int true .sub (.t 5) (.c (.i .i64 1)))),
  (rO 7 (.bin .int true .quo (.t 6) (.c (.i .i64 7)))),
  (rO 8 (.mm true [(.c (.i .i64 1)), (.t 7)])),
  (rO 2 (.mv (.t 8)))])
  (.ret))),
 []⟩
def c110l0 : ICode :=
 .seq (.seq (.region [(rO 8 (.mv (.t 0))),
  (rO 9 (.len .slice (.t 8))),
  (rO 10 (.bin .int true .gtr (.t 9) (.c (.i .i64 0))))])
  (.live [0, 4, 10] (.cond (.t 10) (.skip)
  (.exit 0))))
  (.live [0, 4] (.block 1 (.seq (.region [(rO 12 (.mv (.t 0))),
  ⟨(some 13), none, (.call 89 [(.t 12)])⟩,
  (rO 11 (.mv (.t 13))),
  (rO 14 (.ext (.t 11) 0)),
  (rO 15 (.ext (.t 11) 1)),
  (rO 16 (.ext (.t 11) 2)),
  (rO 5 (.mv (.t 14))),
  (rO 6 (.mv (.t 15))),
  (rO 7 (.mv (.t 16)))])
  (.live [6, 0, 5, 4, 7] (.seq (.seq (.region [(rO 17 (.mv (.t 7))),
  (rO 18 (.bin .int true .neq (.t 17) (.c (.i .i64 0)))),
  (rO 19 (.mv (.t 18))),
  ⟨(some 20), some (19, false), (.op (.mv (.t 4)))⟩,
  ⟨(some 21), some (19, false), (.op (.len .slice (.t 20)))⟩,
  ⟨(some 22), some (19, false), (.op (.bin .int true .geq (.t 21) (.c (.i .i64 128))))⟩,
  (rO 23 (.pick (.t 19) (.c (.b true)) (.t 22)))])
  (.live [6, 0, 5, 4, 23] (.cond (.t 23) (.seq (.region [(rO 2 (.mv (.c .sn))),
  (rO 3 (.mv (.c (.i .i64 21))))])
  (.ret))
  (.skip))))
  (.live [6, 0, 5, 4] (.seq (.region [(rO 24 (.mv (.t 4))),
  (rO 25 (.mv (.t 5))),
  (rO 26 (.bslice [(.i .u64 0)] 1 [(0, 1, (.t 25))])),
  (rO 27 (.app 1 8 (.t 24) (.t 26))),
  (rO 4 (.mv (.t 27)))])
  (.live [4, 6, 0] (.region [(rO 28 (.mv (.t 0))),
  (rO 29 (.mv (.t 6))),
  (rO 30 (.slice 1 (.t 28) (some (.t 29)) none none)),
  (rO 0 (.mv (.t 30)))])))))))))
def c110 : IFunc := ⟨1, [.tmp 2, .tmp 3],
 .seq (.region [(rO 2 (.mv (.c .sn))),
  (rO 3 (.mv (.c (.i .i64 0))))])
  (.live [0] (.seq (.region [(rO 4 (.mv (.c .sn)))])
  (.live [0, 4] (.seq (.block 0 (.loop [0, 4] c110l0))
  (.live [4] (.seq (.region [(rO 31 (.mv (.t 4))),
  (rO 2 (.mv (.t 31))),
  (rO 3 (.mv (.c (.i .i64 0))))])
  (.ret))))))),
 []⟩
def c111 : IFunc := ⟨2, [.tmp 4],
 .seq (.region [(rO 2 (.box (.t 0))),
  (rO 3 (.box (.t 1))),
  (rO 4 (.mv (.c .nf)))])
  (.live [2, 3] (.seq (.seq (.region [(rO 5 (.load none (.t 3))),
  (rO 6 (.bin .int true .lss (.t 5) (.c (.i .i64 1))))])
  (.live [2, 3, 6] (.cond (.t 6) (.region [(rO 7 (.bad)),
  ⟨none, none, (.op (.bad))⟩])
  (.skip))))
  (.live [2, 3] (.seq (.region [(rO 8 (.mkf (.func 121) [] [(.t 2), (.t 3)])),
  (rO 4 (.mv (.t 8)))])
  (.ret))))),
 []⟩
def c112d0 : List Stage :=
 [⟨[(⟨(some 33), none, (.op (.mv (.t 4)))⟩, 1), (⟨(some 34), none, (.op (.mv (.t 0)))⟩, 0), (⟨(some 35), none, (.op (.iaddr none 1 (.t 34) (.c (.i .i64 1))))⟩, 0), (⟨(some 36), none, (.op (.load none (.t 35)))⟩, 0), (⟨(some 37), none, (.op (.toInt .u32 (.t 36)))⟩, 0), (⟨(some 39), none, (.op (.mv (.t 6)))⟩, 1), (⟨(some 41), none, (.op (.mv (.t 0)))⟩, 1), (⟨(some 42), none, (.op (.iaddr none 1 (.t 41) (.c (.i .i64 3))))⟩, 1), (⟨(some 43), none, (.op (.load none (.t 42)))⟩, 1), (⟨(some 44), none, (.op (.mv (.t 0)))⟩, 1), (⟨(some 45), none, (.op (.iaddr none 1 (.t 44) (.c (.i .i64 4))))⟩, 1), (⟨(some 46), none, (.op (.load none (.t 45)))⟩, 1), (⟨(some 47), none, (.op (.mv (.t 0)))⟩, 1), (⟨(some 48), none, (.op (.iaddr none 1 (.t 47) (.c (.i .i64 5))))⟩, 1), (⟨(some 49), none, (.op (.load none (.t 48)))⟩, 1), (⟨(some 50), none, (.op (.mv (.t 0)))⟩, 1), (⟨(some 51), none, (.op (.iaddr none 1 (.t 50) (.c (.i .i64 6))))⟩, 1), (⟨(some 52), none, (.op (.load none (.t 51)))⟩, 1), (⟨(some 53), none, (.op (.mv (.t 0)))⟩, 1), (⟨(some 54), none, (.op (.iaddr none 1 (.t 53) (.c (.i .i64 7))))⟩, 1), (⟨(some 55), none, (.op (.load none (.t 54)))⟩, 1), (⟨(some 56), none, (.op (.mv (.t 0)))⟩, 1), (⟨(some 57), none, (.op (.iaddr none 1 (.t 56) (.c (.i .i64 8))))⟩, 1), (⟨(some 58), none, (.op (.load none (.t 57)))⟩, 1), (⟨(some 59), none, (.op (.mv (.t 0)))⟩, 1), (⟨(some 60), none, (.op (.iaddr none 1 (.t 59) (.c (.i .i64 9))))⟩, 1), (⟨(some 61), none, (.op (.load none (.t 60)))⟩, 1)], none, some ⟨(some 38), none, (.call 122 [(.t 37)])⟩⟩,
  ⟨[(⟨(some 40), none, (.op (.build [(.i .u8 0), (.i .u8 0), (.i .u8 0), (.i .u8 0), (.i .i64 0)] [(0, 4, (.t 38)), (4, 1, (.t 39))]))⟩, 1), (⟨(some 62), none, (.op (.build [(.i .i64 0), (.i .u8 0), (.i .u8 0), (.i .u8 0), (.i .u8 0), (.i .i64 0), (.i .u64 0), (.i .u64 0), (.i .u64 0), (.i .u64 0), (.i .u64 0), (.i .u64 0), (.i .u64 0)] [(0, 1, (.t 33)), (1, 5, (.t 40)), (6, 1, (.t 43)), (7, 1, (.t 46)), (8, 1, (.t 49)), (9, 1, (.t 52)), (10, 1, (.t 55)), (11, 1, (.t 58)), (12, 1, (.t 61))]))⟩, 1)], some ⟨(some 8), none, (.op (.fresh [(.i .i64 0), (.i .u8 0), (.i .u8 0), (.i .u8 0), (.i .u8 0), (.i .i64 0), (.i .u64 0), (.i .u64 0), (.i .u64 0), (.i .u64 0), (.i .u64 0), (.i .u64 0), (.i .u64 0)]))⟩, some ⟨none, none, (.op (.store 13 (.t 8) (.t 62)))⟩⟩,
  ⟨[], none, none⟩]
def c112d0w : List (ROp × Bool) :=
 [((rO 33 (.mv (.t 4))), false), ((rO 34 (.mv (.t 0))), false), ((rO 35 (.iaddr none 1 (.t 34) (.c (.i .i64 1)))), false), ((rO 36 (.load none (.t 35))), false), ((rO 37 (.toInt .u32 (.t 36))), false), ((rO 39 (.mv (.t 6))), false), ((rO 41 (.mv (.t 0))), false), ((rO 42 (.iaddr none 1 (.t 41) (.c (.i .i64 3)))), false), ((rO 43 (.load none (.t 42))), false), ((rO 44 (.mv (.t 0))), false), ((rO 45 (.iaddr none 1 (.t 44) (.c (.i .i64 4)))), false), ((rO 46 (.load none (.t 45))), false), ((rO 47 (.mv (.t 0))), false), ((rO 48 (.iaddr none 1 (.t 47) (.c (.i .i64 5)))), false), ((rO 49 (.load none (.t 48))), false), ((rO 50 (.mv (.t 0))), false), ((rO 51 (.iaddr none 1 (.t 50) (.c (.i .i64 6)))), false), ((rO 52 (.load none (.t 51))), false), ((rO 53 (.mv (.t 0))), false), ((rO 54 (.iaddr none 1 (.t 53) (.c (.i .i64 7)))), false), ((rO 55 (.load none (.t 54))), false), ((rO 56 (.mv (.t 0))), false), ((rO 57 (.iaddr none 1 (.t 56) (.c (.i .i64 8)))), false), ((rO 58 (.load none (.t 57))), false), ((rO 59 (.mv (.t 0))), false), ((rO 60 (.iaddr none 1 (.t 59) (.c (.i .i64 9)))), false), ((rO 61 (.load none (.t 60))), false), (⟨(some 38), none, (.call 122 [(.t 37)])⟩, true), ((rO 40 (.build [(.i .u8 0), (.i .u8 0), (.i .u8 0), (.i .u8 0), (.i .i64 0)] [(0, 4, (.t 38)), (4, 1, (.t 39))])), false), ((rO 62 (.build [(.i .i64 0), (.i .u8 0), (.i .u8 0), (.i .u8 0), (.i .u8 0), (.i .i64 0), (.i .u64 0), (.i .u64 0), (.i .u64 0), (.i .u64 0), (.i .u64 0), (.i .u64 0), (.i .u64 0)] [(0, 1, (.t 33)), (1, 5, (.t 40)), (6, 1, (.t 43)), (7, 1, (.t 46)), (8, 1, (.t 49)), (9, 1, (.t 52)), (10, 1, (.t 55)), (11, 1, (.t 58)), (12, 1, (.t 61))])), false), ((rO 8 (.fresh [(.i .i64 0), (.i .u8 0), (.i .u8 0), (.i .u8 0), (.i .u8 0), (.i .i64 0), (.i .u64 0), (.i .u64 0), (.i .u64 0), (.i .u64 0), (.i .u64 0), (.i .u64 0), (.i .u64 0)])), true), (⟨none, none, (.op (.store 13 (.t 8) (.t 62)))⟩, false)]
theorem c112d0_w {P : Program} {O : Orc} {S0 : Mem} {rd : Bool} {e : Env} {S : Mem} {d : List Nat} {Q : Kont} : W P O S0 rd (.draw c112d0 []) e S d Q = wFl O c112d0w e S (normK Q d) := W_draw' (by kernel_rfl) (by kernel_rfl)
attribute [go_sem] c112d0_w c112d0w
def c112 : IFunc := ⟨1, [.cell 2 (some 13), .tmp 3],
 .seq (.region [(rO 2 (.fresh [(.i .i64 0), (.i .u8 0), (.i .u8 0), (.i .u8 0), (.i .u8 0), (.i .i64 0), (.i .u64 0), (.i .u64 0), (.i .u64 0), (.i .u64 0), (.i .u64 0), (.i .u64 0), (.i .u64 0)])),
  (rO 3 (.mv (.c (.i .i64 0))))])
  (.live [2, 0] (.seq (.seq (.region [(rO 9 (.mv (.t 0))),
  (rO 10 (.len .slice (.t 9))),
  (rO 11 (.bin .int true .neq (.t 10) (.c (.i .i64 10)))),
  (rO 12 (.mv (.t 11))),
  ⟨(some 13), some (12, false), (.op (.mv (.t 0)))⟩,
  ⟨(some 14), some (12, false), (.op (.iaddr none 1 (.t 13) (.c (.i .i64 1))))⟩,
  ⟨(some 15), some (12, false), (.op (.load none (.t 14)))⟩,
  ⟨(some 16), some (12, false), (.op (.bin .int true .gtr (.t 15) (.c (.i .u64 4294967295))))⟩,
  (rO 17 (.pick (.t 12) (.c (.b true)) (.t 16)))])
  (.live [2, 0, 17] (.cond (.t 17) (.seq (.region [(rO 18 (.build [(.i .i64 0), (.i .u8 0), (.i .u8 0), (.i .u8 0), (.i .u8 0), (.i .i64 0), (.i .u64 0), (.i .u64 0), (.i .u64 0), (.i .u64 0), (.i .u64 0), (.i .u64 0), (.i .u64 0)] [])),
  ⟨none, none, (.op (.store 13 (.t 2) (.t 18)))⟩,
  (rO 3 (.mv (.c (.i .i64 111))))])
  (.ret))
  (.skip))))
  (.live [2, 0] (.seq (.region [(rO 20 (.mv (.t 0))),
  (rO 21 (.iaddr none 1 (.t 20) (.c (.i .i64 0)))),
  (rO 22 (.load none (.t 21))),
  ⟨(some 23), none, (.call 90 [(.t 22)])⟩,
  (rO 19 (.mv (.t 23))),
  (rO 24 (.ext (.t 19) 0)),
  (rO 25 (.ext (.t 19) 1)),
  (rO 4 (.mv (.t 24))),
  (rO 5 (.mv (.t 25)))])
  (.live [2, 5, 4, 0] (.seq (.region [(rO 27 (.mv (.t 0))),
  (rO 28 (.iaddr none 1 (.t 27) (.c (.i .i64 2)))),
  (rO 29 (.load none (.t 28))),
  ⟨(some 30), none, (.call 90 [(.t 29)])⟩,
  (rO 26 (.mv (.t 30))),
  (rO 31 (.ext (.t 26) 0)),
  (rO 32 (.ext (.t 26) 1)),
  (rO 6 (.mv (.t 31))),
  (rO 7 (.mv (.t 32)))])
  (.live [2, 7, 5, 4, 6, 0] (.seq (.draw c112d0 [])
  (.live [2, 8, 7, 5] (.seq (.seq (.region [(rO 63 (.mv (.t 5))),
  (rO 64 (.un .not (.t 63))),
  (rO 65 (.mv (.t 64))),
  ⟨(some 66), some (65, false), (.op (.mv (.t 7)))⟩,
  ⟨(some 67), some (65, false), (.op (.un .not (.t 66)))⟩,
  (rO 68 (.pick (.t 65) (.c (.b true)) (.t 67))),
  (rO 69 (.mv (.t 68))),
  ⟨(some 70), some (69, false), (.op (.load (some 13) (.t 8)))⟩,
  ⟨(some 71), some (69, false), (.call 95 [(.t 70)])⟩,
  ⟨(some 72), some (69, false), (.op (.un .not (.t 71)))⟩,
  (rO 73 (.pick (.t 69) (.c (.b true)) (.t 72)))])
  (.live [2, 8, 73] (.cond (.t 73) (.seq (.region [(rO 74 (.build [(.i .i64 0), (.i .u8 0), (.i .u8 0), (.i .u8 0), (.i .u8 0), (.i .i64 0), (.i .u64 0), (.i .u64 0), (.i .u64 0), (.i .u64 0), (.i .u64 0), (.i .u64 0), (.i .u64 0)] [])),
  ⟨none, none, (.op (.store 13 (.t 2) (.t 74)))⟩,
  (rO 3 (.mv (.c (.i .i64 111))))])
  (.ret))
  (.skip))))
  (.live [2, 8] (.seq (.region [(rO 75 (.load (some 13) (.t 8))),
  ⟨none, none, (.op (.store 13 (.t 2) (.t 75)))⟩,
  (rO 3 (.mv (.c (.i .i64 0))))])
  (.ret))))))))))))),
 []⟩
def c113 : IFunc := ⟨1, [.cell 2 (some 4)],
 .seq (.region [(rO 2 (.fresh [(.i .u8 0), (.i .u8 0), (.i .u8 0), (.i .u8 0)]))])
  (.live [2, 0] (.seq (.region [(rO 3 (.mv (.t 0))),
  (rO 4 (.bin .int true .quo (.t 3) (.c (.i .u32 16777216)))),
  (rO 5 (.toInt .u8 (.t 4))),
  (rO 6 (.mv (.t 0))),
  (rO 7 (.bin .int true .quo (.t 6) (.c (.i .u32 65536)))),
  (rO 8 (.bin .int true .rem (.t 7) (.c (.i .u32 256)))),
  (rO 9 (.toInt .u8 (.t 8))),
  (rO 10 (.mv (.t 0))),
  (rO 11 (.bin .int true .quo (.t 10) (.c (.i .u32 256)))),
  (rO 12 (.bin .int true .rem (.t 11) (.c (.i .u32 256)))),
  (rO 13 (.toInt .u8 (.t 12))),
  (rO 14 (.mv (.t 0))),
  (rO 15 (.bin .int true .rem (.t 14) (.c (.i .u32 256)))),
  (rO 16 (.toInt .u8 (.t 15))),
  (rO 17 (.build [(.i .u8 0), (.i .u8 0), (.i .u8 0), (.i .u8 0)] [(0, 1, (.t 5)), (1, 1, (.t 9)), (2, 1, (.t 13)), (3, 1, (.t 16))])),
  ⟨none, none, (.op (.store 4 (.t 2) (.t 17)))⟩])
  (.ret))),
 []⟩
def c114 : IFunc := ⟨1, [.tmp 2],
 .seq (.region [(rO 2 (.mv (.c (.b false))))])
  (.live [0] (.seq (.region [(rO 3 (.mv (.t 0))),
  (rO 4 (.bin .int true .gtr (.t 3) (.c (.i .u64 281474976710656)))),
  (rO 2 (.mv (.t 4)))])
  (.ret))),
 []⟩
def c115 : IFunc := ⟨1, [.tmp 2],
 .seq (.region [(rO 2 (.mv (.c (.b false))))])
  (.live [0] (.seq (.region [(rO 3 (.mv (.t 0))),
  (rO 4 (.bin .int true .lss (.t 3) (.c (.i .u64 1500)))),
  (rO 2 (.mv (.t 4)))])
  (.ret))),
 []⟩
def c116d0 : List Stage :=
 [⟨[(⟨(some 3), none, (.op (.faddr 4 (.t 1)))⟩, 0), (⟨(some 4), none, (.op (.load none (.t 3)))⟩, 0), (⟨(some 5), none, (.op (.bin .int true .geq (.t 4) (.c (.i .i64 0))))⟩, 0), (⟨(some 6), none, (.op (.mv (.t 5)))⟩, 0), (⟨(some 7), some (6, true), (.op (.faddr 4 (.t 1)))⟩, 0), (⟨(some 8), some (6, true), (.op (.load none (.t 7)))⟩, 0), (⟨(some 9), some (6, true), (.op (.bin .int true .leq (.t 8) (.c (.i .i64 32))))⟩, 0), (⟨(some 10), none, (.op (.pick (.t 6) (.t 9) (.c (.b false))))⟩, 0), (⟨(some 11), none, (.op (.mv (.t 10)))⟩, 0), (⟨(some 12), some (11, true), (.op (.faddr 0 (.t 1)))⟩, 0), (⟨(some 13), some (11, true), (.op (.load (some 4) (.t 12)))⟩, 0), (⟨(some 14), some (11, true), (.op (.faddr 4 (.t 1)))⟩, 0), (⟨(some 15), some (11, true), (.op (.load none (.t 14)))⟩, 0), (⟨(some 17), some (11, true), (.op (.load (some 5) (.t 1)))⟩, 1)], none, some ⟨(some 16), some (11, true), (.call 123 [(.t 13), (.t 15)])⟩⟩,
  ⟨[(⟨(some 18), some (11, true), (.op (.eqag false [.int, .int, .int, .int, .int] (.t 16) (.t 17)))⟩, 1), (⟨(some 19), none, (.op (.pick (.t 11) (.t 18) (.c (.b false))))⟩, 1), (⟨(some 2), none, (.op (.mv (.t 19)))⟩, 1)], none, none⟩]
def c116d0w : List (ROp × Bool) :=
 [((rO 3 (.faddr 4 (.t 1))), false), ((rO 4 (.load none (.t 3))), false), ((rO 5 (.bin .int true .geq (.t 4) (.c (.i .i64 0)))), false), ((rO 6 (.mv (.t 5))), false), (⟨(some 7), some (6, true), (.op (.faddr 4 (.t 1)))⟩, false), (⟨(some 8), some (6, true), (.op (.load none (.t 7)))⟩, false), (⟨(some 9), some (6, true), (.op (.bin .int true .leq (.t 8) (.c (.i .i64 32))))⟩, false), ((rO 10 (.pick (.t 6) (.t 9) (.c (.b false)))), false), ((rO 11 (.mv (.t 10))), false), (⟨(some 12), some (11, true), (.op (.faddr 0 (.t 1)))⟩, false), (⟨(some 13), some (11, true), (.op (.load (some 4) (.t 12)))⟩, false), (⟨(some 14), some (11, true), (.op (.faddr 4 (.t 1)))⟩, false), (⟨(some 15), some (11, true), (.op (.load none (.t 14)))⟩, false), (⟨(some 17), some (11, true), (.op (.load (some 5) (.t 1)))⟩, false), (⟨(some 16), some (11, true), (.call 123 [(.t 13), (.t 15)])⟩, true), (⟨(some 18), some (11, true), (.op (.eqag false [.int, .int, .int, .int, .int] (.t 16) (.t 17)))⟩, false), ((rO 19 (.pick (.t 11) (.t 18) (.c (.b false)))), false), ((rO 2 (.mv (.t 19))), false)]
theorem c116d0_w {P : Program} {O : Orc} {S0 : Mem} {rd : Bool} {e : Env} {S : Mem} {d : List Nat} {Q : Kont} : W P O S0 rd (.draw c116d0 []) e S d Q = wFl O c116d0w e S (normK Q d) := W_draw' (by kernel_rfl) (by kernel_rfl)
attribute [go_sem] c116d0_w c116d0w
def c116 : IFunc := ⟨1, [.tmp 2],
 .seq (.region [(rO 1 (.box (.t 0))),
  (rO 2 (.mv (.c (.b false))))])
  (.live [1] (.seq (.draw c116d0 [])
  (.ret))),
 []⟩
def c117 : IFunc := ⟨2, [.tmp 4],
 .seq (.region [(rO 4 (.mv (.c (.b false))))])
  (.live [1, 0] (.seq (.region [(rO 5 (.mv (.t 0))),
  (rO 6 (.mv (.t 1))),
  ⟨(some 7), none, (.call 124 [(.t 5), (.t 6)])⟩,
  (rO 8 (.bin .int true .geq (.t 7) (.c (.i .i64 0)))),
  (rO 4 (.mv (.t 8)))])
  (.ret))),
 []⟩
def c118d0 : List Stage :=
 [⟨[(⟨(some 3), none, (.op (.faddr 4 (.t 1)))⟩, 0), (⟨(some 4), none, (.op (.load none (.t 3)))⟩, 0), (⟨(some 6), none, (.op (.faddr 4 (.t 1)))⟩, 1), (⟨(some 7), none, (.op (.load none (.t 6)))⟩, 1)], none, some ⟨(some 5), none, (.call 125 [(.t 4)])⟩⟩,
  ⟨[(⟨(some 8), none, (.op (.bin .int false .eql (.t 5) (.t 7)))⟩, 1), (⟨(some 9), none, (.op (.mv (.t 8)))⟩, 1), (⟨(some 10), some (9, true), (.op (.faddr 0 (.t 1)))⟩, 1), (⟨(some 11), some (9, true), (.op (.load (some 4) (.t 10)))⟩, 1), (⟨(some 12), some (9, true), (.op (.faddr 4 (.t 1)))⟩, 1), (⟨(some 13), some (9, true), (.op (.load none (.t 12)))⟩, 1), (⟨(some 15), some (9, true), (.op (.load (some 5) (.t 1)))⟩, 2)], none, some ⟨(some 14), some (9, true), (.call 126 [(.t 11), (.t 13)])⟩⟩,
  ⟨[(⟨(some 16), some (9, true), (.op (.eqag false [.int, .int, .int, .int, .int] (.t 14) (.t 15)))⟩, 2), (⟨(some 17), none, (.op (.pick (.t 9) (.t 16) (.c (.b false))))⟩, 2), (⟨(some 2), none, (.op (.mv (.t 17)))⟩, 2)], none, none⟩]
def c118d0w : List (ROp × Bool) :=
 [((rO 3 (.faddr 4 (.t 1))), false), ((rO 4 (.load none (.t 3))), false), ((rO 6 (.faddr 4 (.t 1))), false), ((rO 7 (.load none (.t 6))), false), (⟨(some 5), none, (.call 125 [(.t 4)])⟩, true), ((rO 8 (.bin .int false .eql (.t 5) (.t 7))), false), ((rO 9 (.mv (.t 8))), false), (⟨(some 10), some (9, true), (.op (.faddr 0 (.t 1)))⟩, false), (⟨(some 11), some (9, true), (.op (.load (some 4) (.t 10)))⟩, false), (⟨(some 12), some (9, true), (.op (.faddr 4 (.t 1)))⟩, false), (⟨(some 13), some (9, true), (.op (.load none (.t 12)))⟩, false), (⟨(some 15), some (9, true), (.op (.load (some 5) (.t 1)))⟩, false), (⟨(some 14), some (9, true), (.call 126 [(.t 11), (.t 13)])⟩, true), (⟨(some 16), some (9, true), (.op (.eqag false [.int, .int, .int, .int, .int] (.t 14) (.t 15)))⟩, false), ((rO 17 (.pick (.t 9) (.t 16) (.c (.b false)))), false), ((rO 2 (.mv (.t 17))), false)]
theorem c118d0_w {P : Program} {O : Orc} {S0 : Mem} {rd : Bool} {e : Env} {S : Mem} {d : List Nat} {Q : Kont} : W P O S0 rd (.draw c118d0 []) e S d Q = wFl O c118d0w e S (normK Q d) := W_draw' (by kernel_rfl) (by kernel_rfl)
attribute [go_sem] c118d0_w c118d0w
def c118 : IFunc := ⟨1, [.tmp 2],
 .seq (.region [(rO 1 (.box (.t 0))),
  (rO 2 (.mv (.c (.b false))))])
  (.live [1] (.seq (.draw c118d0 [])
  (.ret))),
 []⟩
def c119k0 : ICode :=
 .seq (.skip)
  (.live [5, 0] (.seq (.region [(rO 12 (.mv (.t 0))),
  (rO 13 (.bin .int true .shr (.t 12) (.c (.i .u64 31)))),
  (rO 6 (.mv (.t 13)))])
  (.live [5, 6, 0] (.seq (.region [(rO 14 (.mv (.t 0))),
  (rO 15 (.bin .int true .shl (.t 14) (.c (.i .u64 1)))),
  (rO 16 (.mv (.t 6))),
  (rO 17 (.bin .int true .mul (.c (.i .u32 79764919)) (.t 16))),
  (rO 18 (.bin .int false .xor (.t 15) (.t 17))),
  (rO 0 (.mv (.t 18)))])
  (.live [0, 5] (.seq (.seq (.region [(rO 19 (.mv (.t 5))),
  (rO 20 (.bin .int true .add (.t 19) (.c (.i .i64 1)))),
  (rO 5 (.mv (.t 20)))])
  (.live [5, 0] (.seq (.region [(rO 21 (.mv (.t 5))),
  (rO 22 (.bin .int true .lss (.t 21) (.c (.i .i64 8))))])
  (.live [5, 0, 22] (.cond (.t 22) (.goto 0)
  (.skip))))))
  (.live [0] (.seq (.region [(rO 23 (.mv (.t 0))),
  (rO 4 (.mv (.t 23)))])
  (.ret)))))))))
def c119 : IFunc := ⟨2, [.tmp 4],
 .seq (.region [(rO 4 (.mv (.c (.i .u32 0))))])
  (.live [1, 0] (.scope [5, 0] (.seq (.region [(rO 7 (.mv (.t 0))),
  (rO 8 (.mv (.t 1))),
  (rO 9 (.toInt .u32 (.t 8))),
  (rO 10 (.bin .int true .shl (.t 9) (.c (.i .u64 24)))),
  (rO 11 (.bin .int false .xor (.t 7) (.t 10))),
  (rO 0 (.mv (.t 11)))])
  (.live [0] (.seq (.region [(rO 5 (.mv (.c (.i .i64 0))))])
  (.live [5, 0] (.seq (.skip)
  (.live [5, 0] (.seq (.region [(rO 12 (.mv (.t 0))),
  (rO 13 (.bin .int true .shr (.t 12) (.c (.i .u64 31)))),
  (rO 6 (.mv (.t 13)))])
  (.live [5, 6, 0] (.seq (.region [(rO 14 (.mv (.t 0))),
  (rO 15 (.bin .int true .shl (.t 14) (.c (.i .u64 1)))),
  (rO 16 (.mv (.t 6))),
  (rO 17 (.bin .int true .mul (.c (.i .u32 79764919)) (.t 16))),
  (rO 18 (.bin .int false .xor (.t 15) (.t 17))),
  (rO 0 (.mv (.t 18)))])
  (.live [0, 5] (.seq (.seq (.region [(rO 19 (.mv (.t 5))),
  (rO 20 (.bin .int true .add (.t 19) (.c (.i .i64 1)))),
  (rO 5 (.mv (.t 20)))])
  (.live [5, 0] (.seq (.region [(rO 21 (.mv (.t 5))),
  (rO 22 (.bin .int true .lss (.t 21) (.c (.i .i64 8))))])
  (.live [5, 0, 22] (.cond (.t 22) (.goto 0)
  (.skip))))))
  (.live [0] (.seq (.region [(rO 23 (.mv (.t 0))),
  (rO 4 (.mv (.t 23)))])
  (.ret)))))))))))))) 0 c119k0)),
 []⟩
def c120 : IFunc := ⟨1, [.tmp 2],
 .seq (.region [(rO 2 (.mv (.c (.i .i64 0))))])
  (.live [0] (.seq (.region [(rO 3 (.mv (.t 0))),
  ⟨(some 4), none, (.call 127 [(.t 3)])⟩,
  (rO 2 (.mv (.t 4)))])
  (.ret))),
 []⟩
def c121d0 : List Stage :=
 [⟨[(⟨(some 13), none, (.op (.load none (.t 2)))⟩, 0), (⟨(some 14), none, (.op (.load none (.t 1)))⟩, 0), (⟨(some 15), none, (.op (.mv (.t 4)))⟩, 0), (⟨(some 16), none, (.op (.slice 1 (.t 14) (some (.t 15)) none none))⟩, 0), (⟨(some 17), none, (.op (.len .slice (.t 16)))⟩, 0), (⟨(some 18), none, (.op (.mm false [(.t 13), (.t 17)]))⟩, 0), (⟨(some 5), none, (.op (.mv (.t 18)))⟩, 0)], none, none⟩]
def c121d0w : List (ROp × Bool) :=
 [((rO 13 (.load none (.t 2))), false), ((rO 14 (.load none (.t 1))), false), ((rO 15 (.mv (.t 4))), false), ((rO 16 (.slice 1 (.t 14) (some (.t 15)) none none)), false), ((rO 17 (.len .slice (.t 16))), false), ((rO 18 (.mm false [(.t 13), (.t 17)])), false), ((rO 5 (.mv (.t 18))), false)]
theorem c121d0_w {P : Program} {O : Orc} {S0 : Mem} {rd : Bool} {e : Env} {S : Mem} {d : List Nat} {Q : Kont} : W P O S0 rd (.draw c121d0 []) e S d Q = wFl O c121d0w e S (normK Q d) := W_draw' (by kernel_rfl) (by kernel_rfl)
attribute [go_sem] c121d0_w c121d0w
def c121l1 : ICode :=
 .seq (.seq (.region [(rO 6 (.mv (.t 4))),
  (rO 7 (.load none (.t 1))),
  (rO 8 (.len .slice (.t 7))),
  (rO 9 (.bin .int false .lss (.t 6) (.t 8)))])
  (.live [2, 1, 0, 4, 9] (.cond (.t 9) (.skip)
  (.exit 0))))
  (.live [2, 1, 0, 4] (.seq (.block 1 (.seq (.draw c121d0 [])
  (.live [2, 1, 0, 4, 5] (.seq (.region [(rO 19 (.mv (.t 0))),
  (rO 20 (.load none (.t 1))),
  (rO 21 (.mv (.t 4))),
  (rO 22 (.mv (.t 4))),
  (rO 23 (.mv (.t 5))),
  (rO 24 (.bin .int false .add (.t 22) (.t 23))),
  (rO 25 (.mv (.t 4))),
  (rO 26 (.mv (.t 5))),
  (rO 27 (.bin .int false .add (.t 25) (.t 26))),
  (rO 28 (.slice 1 (.t 20) (some (.t 21)) (some (.t 24)) (some (.t 27)))),
  ⟨(some 29), none, (.callv (.t 19) [(.t 28)])⟩,
  (rO 30 (.un .not (.t 29)))])
  (.live [2, 1, 0, 4, 30] (.cond (.t 30) (.ret)
  (.skip)))))))
  (.live [2, 1, 0, 4] (.region [(rO 10 (.mv (.t 4))),
  (rO 11 (.load none (.t 2))),
  (rO 12 (.bin .int false .add (.t 10) (.t 11))),
  (rO 4 (.mv (.t 12)))]))))
def c121 : IFunc := ⟨3, [],
 .seq (.region [(rO 4 (.mv (.c (.i .i64 0))))])
  (.live [2, 1, 0, 4] (.block 0 (.loop [2, 1, 0, 4] c121l1))),
 []⟩
def c122 : IFunc := ⟨1, [.cell 2 (some 4)],
 .seq (.region [(rO 2 (.fresh [(.i .u8 0), (.i .u8 0), (.i .u8 0), (.i .u8 0)]))])
  (.live [2, 0] (.seq (.region [(rO 3 (.mv (.t 0))),
  (rO 4 (.bin .int true .shr (.t 3) (.c (.i .u64 24)))),
  (rO 5 (.toInt .u8 (.t 4))),
  (rO 6 (.mv (.t 0))),
  (rO 7 (.bin .int true .shr (.t 6) (.c (.i .u64 16)))),
  (rO 8 (.toInt .u8 (.t 7))),
  (rO 9 (.mv (.t 0))),
  (rO 10 (.bin .int true .shr (.t 9) (.c (.i .u64 8)))),
  (rO 11 (.toInt .u8 (.t 10))),
  (rO 12 (.mv (.t 0))),
  (rO 13 (.toInt .u8 (.t 12))),
  (rO 14 (.build [(.i .u8 0), (.i .u8 0), (.i .u8 0), (.i .u8 0)] [(0, 1, (.t 5)), (1, 1, (.t 8)), (2, 1, (.t 11)), (3, 1, (.t 13))])),
  ⟨none, none, (.op (.store 4 (.t 2) (.t 14)))⟩])
  (.ret))),
 []⟩
def c123 : IFunc := ⟨2, [.cell 4 (some 5)],
 .seq (.region [(rO 2 (.box (.t 0))),
  (rO 4 (.fresh [(.i .u8 0), (.i .u8 0), (.i .u8 0), (.i .u8 0), (.i .i64 0)]))])
  (.live [4, 1, 2] (.seq (.region [(rO 5 (.load (some 4) (.t 2))),
  ⟨(some 6), none, (.call 101 [(.t 5)])⟩,
  (rO 7 (.mv (.t 1))),
  ⟨(some 8), none, (.call 128 [(.t 7)])⟩,
  (rO 9 (.bin .int false .and (.t 6) (.t 8))),
  ⟨(some 10), none, (.call 122 [(.t 9)])⟩,
  (rO 11 (.mv (.t 1))),
  (rO 12 (.mm false [(.t 11), (.c (.i .i64 32))])),
  (rO 13 (.mm true [(.c (.i .i64 0)), (.t 12)])),
  (rO 14 (.build [(.i .u8 0), (.i .u8 0), (.i .u8 0), (.i .u8 0), (.i .i64 0)] [(0, 4, (.t 10)), (4, 1, (.t 13))])),
  ⟨none, none, (.op (.store 5 (.t 4) (.t 14)))⟩])
  (.ret))),
 []⟩
def c124l0 : ICode :=
 .seq (.region [(rO 9 (.bin .int false .lss (.t 8) (.t 7)))])
  (.live [0, 1, 7, 8, 9] (.seq (.cond (.t 9) (.skip)
  (.exit 0))
  (.live [0, 1, 7, 8] (.seq (.block 1 (.seq (.region [(rO 10 (.mv (.t 8))),
  (rO 5 (.mv (.t 10)))])
  (.live [5, 0, 1, 7, 8] (.seq (.region [(rO 11 (.mv (.t 1))),
  (rO 12 (.mv (.t 0))),
  (rO 13 (.mv (.t 5))),
  (rO 14 (.iaddr none 1 (.t 12) (.t 13))),
  (rO 15 (.load none (.t 14))),
  ⟨(some 16), none, (.callv (.t 11) [(.t 15)])⟩])
  (.live [5, 0, 1, 7, 8, 16] (.cond (.t 16) (.seq (.region [(rO 17 (.mv (.t 5))),
  (rO 4 (.mv (.t 17)))])
  (.ret))
  (.skip)))))))
  (.live [0, 1, 7, 8] (.region [(rO 18 (.bin .int true .add (.t 8) (.c (.i .i64 1)))),
  (rO 8 (.mv (.t 18)))]))))))
def c124 : IFunc := ⟨2, [.tmp 4],
 .seq (.region [(rO 4 (.mv (.c (.i .i64 0))))])
  (.live [0, 1] (.seq (.seq (.region [(rO 6 (.mv (.t 0))),
  (rO 7 (.len .slice (.t 6))),
  (rO 8 (.mv (.c (.i .i64 0))))])
  (.live [0, 1, 7, 8] (.block 0 (.loop [0, 1, 7, 8] c124l0))))
  (.live [] (.seq (.region [(rO 4 (.mv (.c (.i .i64 (-1)))))])
  (.ret))))),
 []⟩
def c125 : IFunc := ⟨1, [.tmp 2],
 .seq (.region [(rO 2 (.mv (.c (.i .i64 0))))])
  (.live [0] (.seq (.seq (.region [(rO 3 (.mv (.t 0))),
  (rO 4 (.bin .int true .lss (.t 3) (.c (.i .i64 0))))])
  (.live [0, 4] (.cond (.t 4) (.seq (.region [(rO 2 (.mv (.c (.i .i64 0))))])
  (.ret))
  (.skip))))
  (.live [0] (.seq (.seq (.region [(rO 5 (.mv (.t 0))),
  (rO 6 (.bin .int true .gtr (.t 5) (.c (.i .i64 32))))])
  (.live [0, 6] (.cond (.t 6) (.seq (.region [(rO 2 (.mv (.c (.i .i64 32))))])
  (.ret))
  (.skip))))
  (.live [0] (.seq (.region [(rO 7 (.mv (.t 0))),
  (rO 2 (.mv (.t 7)))])
  (.ret))))))),
 []⟩
def c126l0 : ICode :=
 .seq (.seq (.region [(rO 14 (.mv (.t 7))),
  (rO 15 (.bin .int true .lss (.t 14) (.c (.i .i64 32))))])
  (.live [4, 6, 7, 5, 15] (.cond (.t 15) (.skip)
  (.exit 0))))
  (.live [4, 6, 7, 5] (.seq (.block 1 (.region [(rO 18 (.mv (.t 5))),
  (rO 19 (.bin .int true .quo (.t 18) (.c (.i .u32 2)))),
  (rO 5 (.mv (.t 19)))]))
  (.live [4, 6, 5, 7] (.region [(rO 16 (.mv (.t 7))),
  (rO 17 (.bin .int true .add (.t 16) (.c (.i .i64 1)))),
  (rO 7 (.mv (.t 17)))]))))
def c126l1 : ICode :=
 .seq (.seq (.region [(rO 21 (.mv (.t 8))),
  (rO 22 (.bin .int true .lss (.t 21) (.c (.i .i64 32))))])
  (.live [4, 6, 8, 5, 22] (.cond (.t 22) (.skip)
  (.exit 2))))
  (.live [4, 6, 8, 5] (.seq (.block 3 (.region [(rO 25 (.mv (.t 5))),
  (rO 26 (.bin .int true .mul (.t 25) (.c (.i .u32 2)))),
  (rO 5 (.mv (.t 26)))]))
  (.live [4, 6, 5, 8] (.region [(rO 23 (.mv (.t 8))),
  (rO 24 (.bin .int true .add (.t 23) (.c (.i .i64 1)))),
  (rO 8 (.mv (.t 24)))]))))
def c126 : IFunc := ⟨2, [.cell 4 (some 5)],
 .seq (.region [(rO 2 (.box (.t 0))),
  (rO 4 (.fresh [(.i .u8 0), (.i .u8 0), (.i .u8 0), (.i .u8 0), (.i .i64 0)]))])
  (.live [4, 1, 2] (.seq (.region [(rO 9 (.load (some 4) (.t 2))),
  ⟨(some 10), none, (.call 100 [(.t 9)])⟩,
  (rO 5 (.mv (.t 10)))])
  (.live [4, 5, 1] (.seq (.region [(rO 11 (.mv (.t 1))),
  ⟨(some 12), none, (.call 125 [(.t 11)])⟩,
  (rO 6 (.mv (.t 12)))])
  (.live [4, 6, 5] (.seq (.seq (.region [(rO 13 (.mv (.t 6))),
  (rO 7 (.mv (.t 13)))])
  (.live [4, 6, 7, 5] (.block 0 (.loop [4, 6, 7, 5] c126l0))))
  (.live [4, 6, 5] (.seq (.seq (.region [(rO 20 (.mv (.t 6))),
  (rO 8 (.mv (.t 20)))])
  (.live [4, 6, 8, 5] (.block 2 (.loop [4, 6, 8, 5] c126l1))))
  (.live [4, 6, 5] (.seq (.region [(rO 27 (.mv (.t 5))),
  ⟨(some 28), none, (.call 113 [(.t 27)])⟩,
  (rO 29 (.mv (.t 6))),
  (rO 30 (.build [(.i .u8 0), (.i .u8 0), (.i .u8 0), (.i .u8 0), (.i .i64 0)] [(0, 4, (.t 28)), (4, 1, (.t 29))])),
  ⟨none, none, (.op (.store 5 (.t 4) (.t 30)))⟩])
  (.ret))))))))))),
 []⟩
def c127 : IFunc := ⟨1, [.tmp 2],
 .seq (.region [(rO 2 (.mv (.c (.i .i64 0))))])
  (.live [0, 2] (.seq (.seq (.region [(rO 3 (.mv (.t 0))),
  (rO 4 (.bin .int true .geq (.t 3) (.c (.i .u64 4294967296))))])
  (.live [0, 2, 4] (.cond (.t 4) (.seq (.region [(rO 5 (.mv (.t 0))),
  (rO 6 (.bin .int true .shr (.t 5) (.c (.i .u64 32)))),
  (rO 0 (.mv (.t 6)))])
  (.region [(rO 2 (.mv (.c (.i .i64 32))))]))
  (.skip))))
  (.live [2, 0] (.seq (.seq (.region [(rO 7 (.mv (.t 0))),
  (rO 8 (.bin .int true .geq (.t 7) (.c (.i .u64 65536))))])
  (.live [2, 0, 8] (.cond (.t 8) (.seq (.region [(rO 9 (.mv (.t 0))),
  (rO 10 (.bin .int true .shr (.t 9) (.c (.i .u64 16)))),
  (rO 0 (.mv (.t 10)))])
  (.live [0, 2] (.region [(rO 11 (.mv (.t 2))),
  (rO 12 (.bin .int true .add (.t 11) (.c (.i .i64 16)))),
  (rO 2 (.mv (.t 12)))])))
  (.skip))))
  (.live [2, 0] (.seq (.seq (.region [(rO 13 (.mv (.t 0))),
  (rO 14 (.bin .int true .geq (.t 13) (.c (.i .u64 256))))])
  (.live [2, 0, 14] (.cond (.t 14) (.seq (.region [(rO 15 (.mv (.t 0))),
  (rO 16 (.bin .int true .shr (.t 15) (.c (.i .u64 8)))),
  (rO 0 (.mv (.t 16)))])
  (.live [0, 2] (.region [(rO 17 (.mv (.t 2))),
  (rO 18 (.bin .int true .add (.t 17) (.c (.i .i64 8)))),
  (rO 2 (.mv (.t 18)))])))
  (.skip))))
  (.live [0, 2] (.seq (.region [(rO 19 (.mv (.t 2))),
  (rO 20 (.mv (.t 0))),
  (rO 21 (.toInt .u8 (.t 20))),
  (rO 22 (.ixs (.c (.s [0, 1, 2, 2, 3, 3, 3, 3, 4, 4, 4, 4, 4, 4, 4, 4, 5, 5, 5, 5, 5, 5, 5, 5, 5, 5, 5, 5, 5, 5, 5, 5, 6, 6, 6, 6, 6, 6, 6, 6, 6, 6, 6, 6, 6, 6, 6, 6, 6, 6, 6, 6, 6, 6, 6, 6, 6, 6, 6, 6, 6, 6, 6, 6, 7, 7, 7, 7, 7, 7, 7, 7, 7, 7, 7, 7, 7, 7, 7, 7, 7, 7, 7, 7, 7, 7, 7, 7, 7, 7, 7, 7, 7, 7, 7, 7, 7, 7, 7, 7, 7, 7, 7, 7, 7, 7, 7, 7, 7, 7, 7, 7, 7, 7, 7, 7, 7, 7, 7, 7, 7, 7, 7, 7, 7, 7, 7, 7, 8, 8, 8, 8, 8, 8, 8, 8, 8, 8, 8, 8, 8, 8, 8, 8, 8, 8, 8, 8, 8, 8, 8, 8, 8, 8, 8, 8, 8, 8, 8, 8, 8, 8, 8, 8, 8, 8, 8, 8, 8, 8, 8, 8, 8, 8, 8, 8, 8, 8, 8, 8, 8, 8, 8, 8, 8, 8, 8, 8, 8, 8, 8, 8, 8, 8, 8, 8, 8, 8, 8, 8, 8, 8, 8, 8, 8, 8, 8, 8, 8, 8, 8, 8, 8, 8, 8, 8, 8, 8, 8, 8, 8, 8, 8, 8, 8, 8, 8, 8, 8, 8, 8, 8, 8, 8, 8, 8, 8, 8, 8, 8, 8, 8, 8, 8, 8, 8, 8, 8, 8, 8, 8, 8, 8, 8, 8, 8])) (.t 21))),
  (rO 23 (.toInt .i64 (.t 22))),
  (rO 24 (.bin .int false .add (.t 19) (.t 23))),
  (rO 2 (.mv (.t 24)))])
  (.ret))))))))),
 []⟩
def c128 : IFunc := ⟨1, [.tmp 2],
 .seq (.region [(rO 2 (.mv (.c (.i .u32 0))))])
  (.live [0] (.seq (.region [(rO 3 (.mv (.t 0))),
  (rO 4 (.mm false [(.t 3), (.c (.i .i64 32))])),
  (rO 5 (.mm true [(.c (.i .i64 0)), (.t 4)])),
  (rO 6 (.bin .int true .sub (.c (.i .i64 32)) (.t 5))),
  (rO 7 (.bin .int true .shl (.c (.i .u32 4294967295)) (.t 6))),
  (rO 2 (.mv (.t 7)))])
  (.ret))),
 []⟩
set_option maxRecDepth 1000000
theorem f103 : compFunc Tryz.prog 103 = some (stripF c103) := by kernel_rfl
theorem f104 : compFunc Tryz.prog 104 = some (stripF c104) := by kernel_rfl
theorem f105 : compFunc Tryz.prog 105 = some (stripF c105) := by kernel_rfl
theorem f106 : compFunc Tryz.prog 106 = some (stripF c106) := by kernel_rfl
theorem f107 : compFunc Tryz.prog 107 = some (stripF c107) := by kernel_rfl
theorem f108 : compFunc Tryz.prog 108 = some (stripF c108) := by kernel_rfl
theorem f109 : compFunc Tryz.prog 109 = some (stripF c109) := by kernel_rfl
theorem f110 : compFunc Tryz.prog 110 = some (stripF c110) := by kernel_rfl
theorem f111 : compFunc Tryz.prog 111 = some (stripF c111) := by kernel_rfl
theorem f112 : compFunc Tryz.prog 112 = some (stripF c112) := by kernel_rfl
theorem f113 : compFunc Tryz.prog 113 = some (stripF c113) := by kernel_rfl
theorem f114 : compFunc Tryz.prog 114 = some (stripF c114) := by kernel_rfl
theorem f115 : compFunc Tryz.prog 115 = some (stripF c115) := by kernel_rfl
theorem f116 : compFunc Tryz.prog 116 = some (stripF c116) := by kernel_rfl
theorem f117 : compFunc Tryz.prog 117 = some (stripF c117) := by kernel_rfl
theorem f118 : compFunc Tryz.prog 118 = some (stripF c118) := by kernel_rfl
theorem f119 : compFunc Tryz.prog 119 = some (stripF c119) := by kernel_rfl
theorem f120 : compFunc Tryz.prog 120 = some (stripF c120) := by kernel_rfl
theorem f121 : compFunc Tryz.prog 121 = some (stripF c121) := by kernel_rfl
theorem f122 : compFunc Tryz.prog 122 = some (stripF c122) := by kernel_rfl
theorem f123 : compFunc Tryz.prog 123 = some (stripF c123) := by kernel_rfl
theorem f124 : compFunc Tryz.prog 124 = some (stripF c124) := by kernel_rfl
theorem f125 : compFunc Tryz.prog 125 = some (stripF c125) := by kernel_rfl
theorem f126 : compFunc Tryz.prog 126 = some (stripF c126) := by kernel_rfl
theorem f127 : compFunc Tryz.prog 127 = some (stripF c127) := by kernel_rfl
theorem f128 : compFunc Tryz.prog 128 = some (stripF c128) := by kernel_rfl
end Go.Proofs.YtkfobkfhbkicaaaGreat
