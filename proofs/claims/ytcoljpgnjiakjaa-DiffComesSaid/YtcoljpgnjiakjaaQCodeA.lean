/- Proved here: the code of the functions, written out, is what the compiler makes of the program. No condition. -/
import Derived.Test.YtcoljpgnjiakjaaMc
import Derived.Test.YtcoljpgnjiakjaaRows
namespace Go.Proofs.Ytcoljpgnjiakjaa
open Go.RowKit

/- floodgate/floodgatelaw25.DiffComes -/
def c6l0 : ICode :=
  .seq (.region [⟨(some 52), none, (.op (.bin .int false .lss (.t 51) (.t 50)))⟩])
   (.live [49, 1, 0, 2, 50, 51, 9, 52] (.seq (.cond (.t 52) (.skip)
   (.exit 0))
   (.live [49, 1, 0, 2, 50, 51, 9] (.seq (.block 1 (.seq (.region [⟨(some 53), none, (.op (.iaddr none 19 (.t 49) (.t 51)))⟩,
    ⟨(some 54), none, (.op (.load (some 19) (.t 53)))⟩,
    ⟨(some 11), none, (.op (.fresh [(.i .i64 0), (.i .i64 0), (.i .i64 0), (.i .u64 0), .sn, (.i .i64 0), (.i .u8 0), (.i .u8 0), (.i .u8 0), (.i .u8 0), (.i .i64 0), (.i .u64 0), (.i .u64 0), (.i .u64 0), (.i .u64 0), (.i .u64 0), (.i .u64 0), (.i .u64 0), .sn]))⟩,
    ⟨none, none, (.op (.store 19 (.t 11) (.t 54)))⟩])
   (.live [49, 1, 0, 2, 50, 51, 9, 11] (.seq (.seq (.region [⟨(some 55), none, (.op (.faddr 0 (.t 11)))⟩,
    ⟨(some 56), none, (.op (.load none (.t 55)))⟩,
    ⟨(some 57), none, (.op (.bin .int true .eql (.t 56) (.c (.i .i64 4))))⟩,
    ⟨(some 58), none, (.op (.mv (.t 57)))⟩,
    ⟨(some 59), some (58, true), (.op (.faddr 5 (.t 11)))⟩,
    ⟨(some 60), some (58, true), (.op (.faddr 0 (.t 59)))⟩,
    ⟨(some 61), some (58, true), (.op (.load none (.t 60)))⟩,
    ⟨(some 62), some (58, true), (.op (.bin .int true .lss (.t 61) (.c (.i .i64 1))))⟩,
    ⟨(some 63), none, (.op (.pick (.t 58) (.t 62) (.c (.b false))))⟩,
    ⟨(some 64), none, (.op (.mv (.t 63)))⟩,
    ⟨(some 65), some (64, false), (.op (.faddr 0 (.t 11)))⟩,
    ⟨(some 66), some (64, false), (.op (.load none (.t 65)))⟩,
    ⟨(some 67), some (64, false), (.op (.bin .int true .eql (.t 66) (.c (.i .i64 5))))⟩,
    ⟨(some 68), some (64, false), (.op (.mv (.t 67)))⟩,
    ⟨(some 69), some (68, true), (.op (.faddr 1 (.t 11)))⟩,
    ⟨(some 70), some (68, true), (.op (.load none (.t 69)))⟩,
    ⟨(some 71), some (68, true), (.op (.bin .int true .lss (.t 70) (.c (.i .i64 1))))⟩,
    ⟨(some 72), some (64, false), (.op (.pick (.t 68) (.t 71) (.c (.b false))))⟩,
    ⟨(some 73), none, (.op (.pick (.t 64) (.c (.b true)) (.t 72)))⟩])
   (.live [49, 1, 0, 2, 50, 51, 9, 11, 73] (.cond (.t 73) (.seq (.region [⟨(some 6), none, (.op (.mv (.c (.b true))))⟩])
   (.ret))
   (.skip))))
   (.live [49, 1, 0, 2, 50, 51, 9, 11] (.seq (.region [⟨(some 74), none, (.op (.faddr 0 (.t 11)))⟩,
    ⟨(some 75), none, (.op (.load none (.t 74)))⟩,
    ⟨(some 76), none, (.op (.bin .int true .eql (.t 75) (.c (.i .i64 4))))⟩,
    ⟨(some 77), none, (.op (.mv (.t 76)))⟩,
    ⟨(some 78), some (77, false), (.op (.faddr 0 (.t 11)))⟩,
    ⟨(some 79), some (77, false), (.op (.load none (.t 78)))⟩,
    ⟨(some 80), some (77, false), (.op (.bin .int true .eql (.t 79) (.c (.i .i64 5))))⟩,
    ⟨(some 81), none, (.op (.pick (.t 77) (.c (.b true)) (.t 80)))⟩])
   (.live [49, 1, 0, 2, 50, 51, 9, 81] (.cond (.t 81) (.region [⟨(some 82), none, (.op (.mv (.t 9)))⟩,
    ⟨(some 83), none, (.op (.bin .int true .add (.t 82) (.c (.i .i64 1))))⟩,
    ⟨(some 9), none, (.op (.mv (.t 83)))⟩])
   (.skip)))))))))
   (.live [49, 1, 0, 2, 50, 9, 51] (.region [⟨(some 84), none, (.op (.bin .int true .add (.t 51) (.c (.i .i64 1))))⟩,
    ⟨(some 51), none, (.op (.mv (.t 84)))⟩]))))))
def c6 : IFunc := ⟨3, [.tmp 6],
  .seq (.region [⟨(some 6), none, (.op (.mv (.c (.b false))))⟩])
   (.live [1, 0, 2] (.seq (.seq (.region [⟨(some 12), none, (.call 8 [])⟩,
    ⟨(some 13), none, (.op (.un .not (.t 12)))⟩])
   (.live [1, 0, 2, 13] (.cond (.t 13) (.seq (.region [⟨(some 6), none, (.op (.mv (.c (.b false))))⟩])
   (.ret))
   (.skip))))
   (.live [1, 0, 2] (.seq (.seq (.region [⟨(some 14), none, (.op (.mv (.t 0)))⟩,
    ⟨(some 15), none, (.op (.mv (.t 1)))⟩,
    ⟨(some 16), none, (.call 12 [(.t 14), (.t 15)])⟩,
    ⟨(some 17), none, (.op (.mv (.t 16)))⟩,
    ⟨(some 18), some (17, false), (.op (.mv (.t 2)))⟩,
    ⟨(some 19), some (17, false), (.op (.len .slice (.t 18)))⟩,
    ⟨(some 20), some (17, false), (.op (.bin .int true .gtr (.t 19) (.c (.i .i64 60))))⟩,
    ⟨(some 21), none, (.op (.pick (.t 17) (.c (.b true)) (.t 20)))⟩])
   (.live [1, 0, 2, 21] (.cond (.t 21) (.seq (.region [⟨(some 6), none, (.op (.mv (.c (.b true))))⟩])
   (.ret))
   (.skip))))
   (.live [1, 0, 2] (.seq (.region [⟨(some 22), none, (.op (.mv (.t 0)))⟩,
    ⟨(some 23), none, (.op (.mv (.t 1)))⟩,
    ⟨(some 24), none, (.call 9 [(.t 22), (.t 23)])⟩,
    ⟨(some 7), none, (.op (.mv (.t 24)))⟩])
   (.live [1, 0, 2, 7] (.seq (.region [⟨(some 25), none, (.op (.mv (.t 0)))⟩,
    ⟨(some 26), none, (.op (.mv (.t 7)))⟩,
    ⟨(some 27), none, (.call 11 [(.t 25), (.t 26)])⟩,
    ⟨(some 8), none, (.op (.mv (.t 27)))⟩])
   (.live [1, 0, 2, 7, 8] (.seq (.seq (.region [⟨(some 28), none, (.op (.mv (.t 8)))⟩,
    ⟨(some 29), none, (.op (.mv (.t 1)))⟩,
    ⟨(some 30), none, (.call 15 [(.t 28), (.t 29)])⟩,
    ⟨(some 31), none, (.op (.un .not (.t 30)))⟩,
    ⟨(some 32), none, (.op (.mv (.t 31)))⟩,
    ⟨(some 33), some (32, false), (.op (.mv (.t 8)))⟩,
    ⟨(some 34), some (32, false), (.op (.mv (.t 1)))⟩,
    ⟨(some 35), some (32, false), (.call 9 [(.t 33), (.t 34)])⟩,
    ⟨(some 36), some (32, false), (.op (.len .slice (.t 35)))⟩,
    ⟨(some 37), some (32, false), (.op (.bin .int true .neq (.t 36) (.c (.i .i64 0))))⟩,
    ⟨(some 38), none, (.op (.pick (.t 32) (.c (.b true)) (.t 37)))⟩,
    ⟨(some 39), none, (.op (.mv (.t 38)))⟩,
    ⟨(some 40), some (39, false), (.op (.mv (.t 0)))⟩,
    ⟨(some 41), some (39, false), (.op (.mv (.t 1)))⟩,
    ⟨(some 42), some (39, false), (.call 10 [(.t 40), (.t 41)])⟩,
    ⟨(some 43), some (39, false), (.op (.mv (.t 7)))⟩,
    ⟨(some 44), some (39, false), (.op (.len .slice (.t 43)))⟩,
    ⟨(some 45), some (39, false), (.op (.bin .int true .sub (.t 44) (.c (.i .i64 2))))⟩,
    ⟨(some 46), some (39, false), (.op (.mm true [(.c (.i .i64 0)), (.t 45)]))⟩,
    ⟨(some 47), some (39, false), (.op (.bin .int false .neq (.t 42) (.t 46)))⟩,
    ⟨(some 48), none, (.op (.pick (.t 39) (.c (.b true)) (.t 47)))⟩])
   (.live [1, 0, 2, 48] (.cond (.t 48) (.seq (.region [⟨(some 6), none, (.op (.mv (.c (.b false))))⟩])
   (.ret))
   (.skip))))
   (.live [1, 0, 2] (.seq (.region [⟨(some 9), none, (.op (.mv (.c (.i .i64 0))))⟩])
   (.live [1, 0, 2, 9] (.seq (.seq (.region [⟨(some 49), none, (.op (.mv (.t 2)))⟩,
    ⟨(some 50), none, (.op (.len .slice (.t 49)))⟩,
    ⟨(some 51), none, (.op (.mv (.c (.i .i64 0))))⟩])
   (.live [49, 1, 0, 2, 50, 51, 9] (.block 0 (.loop [49, 1, 0, 2, 50, 51, 9] c6l0))))
   (.live [1, 0, 9, 2] (.seq (.region [⟨(some 85), none, (.op (.mv (.t 0)))⟩,
    ⟨(some 86), none, (.op (.mv (.t 2)))⟩,
    ⟨(some 87), none, (.call 11 [(.t 85), (.t 86)])⟩,
    ⟨(some 88), none, (.op (.mv (.t 1)))⟩,
    ⟨(some 89), none, (.call 15 [(.t 87), (.t 88)])⟩,
    ⟨(some 90), none, (.op (.un .not (.t 89)))⟩,
    ⟨(some 91), none, (.op (.mv (.t 90)))⟩,
    ⟨(some 92), some (91, false), (.op (.mv (.t 9)))⟩,
    ⟨(some 93), some (91, false), (.op (.mv (.t 0)))⟩,
    ⟨(some 94), some (91, false), (.op (.mv (.t 1)))⟩,
    ⟨(some 95), some (91, false), (.call 10 [(.t 93), (.t 94)])⟩,
    ⟨(some 96), some (91, false), (.op (.bin .int false .geq (.t 92) (.t 95)))⟩,
    ⟨(some 97), none, (.op (.pick (.t 91) (.c (.b true)) (.t 96)))⟩,
    ⟨(some 6), none, (.op (.mv (.t 97)))⟩])
   (.ret))))))))))))))))),
  []⟩


/- floodgate/floodgatelaw25.diffAlive -/
def c8d0 : List Stage :=
  [⟨[(⟨(some 7), none, (.op (.mv (.t 2)))⟩, 0), (⟨(some 8), none, (.op (.len .slice (.t 7)))⟩, 0), (⟨(some 9), none, (.op (.bin .int true .eql (.t 8) (.c (.i .i64 3))))⟩, 0), (⟨(some 10), none, (.op (.mv (.t 9)))⟩, 0), (⟨(some 11), some (10, true), (.op (.mv (.t 2)))⟩, 0), (⟨(some 12), some (10, true), (.op (.iaddr none 19 (.t 11) (.c (.i .i64 0))))⟩, 0), (⟨(some 13), some (10, true), (.op (.faddr 0 (.t 12)))⟩, 0), (⟨(some 14), some (10, true), (.op (.load none (.t 13)))⟩, 0), (⟨(some 15), some (10, true), (.op (.bin .int true .eql (.t 14) (.c (.i .i64 3))))⟩, 0), (⟨(some 16), none, (.op (.pick (.t 10) (.t 15) (.c (.b false))))⟩, 0), (⟨(some 17), none, (.op (.mv (.t 16)))⟩, 0), (⟨(some 18), some (17, true), (.op (.mv (.t 2)))⟩, 0), (⟨(some 19), some (17, true), (.op (.iaddr none 19 (.t 18) (.c (.i .i64 1))))⟩, 0), (⟨(some 20), some (17, true), (.op (.faddr 0 (.t 19)))⟩, 0), (⟨(some 21), some (17, true), (.op (.load none (.t 20)))⟩, 0), (⟨(some 22), some (17, true), (.op (.bin .int true .eql (.t 21) (.c (.i .i64 4))))⟩, 0), (⟨(some 23), none, (.op (.pick (.t 17) (.t 22) (.c (.b false))))⟩, 0), (⟨(some 24), none, (.op (.mv (.t 23)))⟩, 0), (⟨(some 25), some (24, true), (.op (.mv (.t 2)))⟩, 0), (⟨(some 26), some (24, true), (.op (.iaddr none 19 (.t 25) (.c (.i .i64 1))))⟩, 0), (⟨(some 27), some (24, true), (.op (.faddr 5 (.t 26)))⟩, 0), (⟨(some 28), some (24, true), (.op (.load (some 13) (.t 27)))⟩, 0), (⟨(some 29), some (24, true), (.op (.load (some 13) (.t 1)))⟩, 0), (⟨(some 30), some (24, true), (.op (.eqag false [.int, .int, .int, .int, .int, .int, .int, .int, .int, .int, .int, .int, .int] (.t 28) (.t 29)))⟩, 0), (⟨(some 31), none, (.op (.pick (.t 24) (.t 30) (.c (.b false))))⟩, 0), (⟨(some 32), none, (.op (.mv (.t 31)))⟩, 0), (⟨(some 33), some (32, true), (.op (.mv (.t 2)))⟩, 0), (⟨(some 34), some (32, true), (.op (.iaddr none 19 (.t 33) (.c (.i .i64 2))))⟩, 0), (⟨(some 35), some (32, true), (.op (.faddr 0 (.t 34)))⟩, 0), (⟨(some 36), some (32, true), (.op (.load none (.t 35)))⟩, 0), (⟨(some 37), some (32, true), (.op (.bin .int true .eql (.t 36) (.c (.i .i64 6))))⟩, 0), (⟨(some 38), none, (.op (.pick (.t 32) (.t 37) (.c (.b false))))⟩, 0), (⟨(some 39), none, (.op (.mv (.t 38)))⟩, 0), (⟨(some 40), some (39, true), (.op (.load (some 13) (.t 1)))⟩, 0)], none, some ⟨(some 41), some (39, true), (.op (.bslice [(.i .i64 0), (.i .u8 0), (.i .u8 0), (.i .u8 0), (.i .u8 0), (.i .i64 0), (.i .u64 0), (.i .u64 0), (.i .u64 0), (.i .u64 0), (.i .u64 0), (.i .u64 0), (.i .u64 0)] 1 [(0, 13, (.t 40))]))⟩⟩,
    ⟨[], none, some ⟨(some 42), some (39, true), (.call 10 [(.c .sn), (.t 41)])⟩⟩,
    ⟨[(⟨(some 43), some (39, true), (.op (.bin .int true .eql (.t 42) (.c (.i .i64 1))))⟩, 2), (⟨(some 44), none, (.op (.pick (.t 39) (.t 43) (.c (.b false))))⟩, 2), (⟨(some 45), none, (.op (.mv (.t 44)))⟩, 2), (⟨(some 46), some (45, true), (.op (.mv (.t 2)))⟩, 2)], none, some ⟨(some 47), some (45, true), (.call 11 [(.c .sn), (.t 46)])⟩⟩,
    ⟨[(⟨(some 48), some (45, true), (.op (.len .slice (.t 47)))⟩, 3), (⟨(some 49), some (45, true), (.op (.bin .int true .eql (.t 48) (.c (.i .i64 1))))⟩, 3), (⟨(some 50), none, (.op (.pick (.t 45) (.t 49) (.c (.b false))))⟩, 3), (⟨(some 0), none, (.op (.mv (.t 50)))⟩, 3)], none, none⟩]
def c8d0w : List (ROp × Bool) :=
  [(⟨(some 7), none, (.op (.mv (.t 2)))⟩, false), (⟨(some 8), none, (.op (.len .slice (.t 7)))⟩, false), (⟨(some 9), none, (.op (.bin .int true .eql (.t 8) (.c (.i .i64 3))))⟩, false), (⟨(some 10), none, (.op (.mv (.t 9)))⟩, false), (⟨(some 11), some (10, true), (.op (.mv (.t 2)))⟩, false), (⟨(some 12), some (10, true), (.op (.iaddr none 19 (.t 11) (.c (.i .i64 0))))⟩, false), (⟨(some 13), some (10, true), (.op (.faddr 0 (.t 12)))⟩, false), (⟨(some 14), some (10, true), (.op (.load none (.t 13)))⟩, false), (⟨(some 15), some (10, true), (.op (.bin .int true .eql (.t 14) (.c (.i .i64 3))))⟩, false), (⟨(some 16), none, (.op (.pick (.t 10) (.t 15) (.c (.b false))))⟩, false), (⟨(some 17), none, (.op (.mv (.t 16)))⟩, false), (⟨(some 18), some (17, true), (.op (.mv (.t 2)))⟩, false), (⟨(some 19), some (17, true), (.op (.iaddr none 19 (.t 18) (.c (.i .i64 1))))⟩, false), (⟨(some 20), some (17, true), (.op (.faddr 0 (.t 19)))⟩, false), (⟨(some 21), some (17, true), (.op (.load none (.t 20)))⟩, false), (⟨(some 22), some (17, true), (.op (.bin .int true .eql (.t 21) (.c (.i .i64 4))))⟩, false), (⟨(some 23), none, (.op (.pick (.t 17) (.t 22) (.c (.b false))))⟩, false), (⟨(some 24), none, (.op (.mv (.t 23)))⟩, false), (⟨(some 25), some (24, true), (.op (.mv (.t 2)))⟩, false), (⟨(some 26), some (24, true), (.op (.iaddr none 19 (.t 25) (.c (.i .i64 1))))⟩, false), (⟨(some 27), some (24, true), (.op (.faddr 5 (.t 26)))⟩, false), (⟨(some 28), some (24, true), (.op (.load (some 13) (.t 27)))⟩, false), (⟨(some 29), some (24, true), (.op (.load (some 13) (.t 1)))⟩, false), (⟨(some 30), some (24, true), (.op (.eqag false [.int, .int, .int, .int, .int, .int, .int, .int, .int, .int, .int, .int, .int] (.t 28) (.t 29)))⟩, false), (⟨(some 31), none, (.op (.pick (.t 24) (.t 30) (.c (.b false))))⟩, false), (⟨(some 32), none, (.op (.mv (.t 31)))⟩, false), (⟨(some 33), some (32, true), (.op (.mv (.t 2)))⟩, false), (⟨(some 34), some (32, true), (.op (.iaddr none 19 (.t 33) (.c (.i .i64 2))))⟩, false), (⟨(some 35), some (32, true), (.op (.faddr 0 (.t 34)))⟩, false), (⟨(some 36), some (32, true), (.op (.load none (.t 35)))⟩, false), (⟨(some 37), some (32, true), (.op (.bin .int true .eql (.t 36) (.c (.i .i64 6))))⟩, false), (⟨(some 38), none, (.op (.pick (.t 32) (.t 37) (.c (.b false))))⟩, false), (⟨(some 39), none, (.op (.mv (.t 38)))⟩, false), (⟨(some 40), some (39, true), (.op (.load (some 13) (.t 1)))⟩, false), (⟨(some 41), some (39, true), (.op (.bslice [(.i .i64 0), (.i .u8 0), (.i .u8 0), (.i .u8 0), (.i .u8 0), (.i .i64 0), (.i .u64 0), (.i .u64 0), (.i .u64 0), (.i .u64 0), (.i .u64 0), (.i .u64 0), (.i .u64 0)] 1 [(0, 13, (.t 40))]))⟩, false), (⟨(some 42), some (39, true), (.call 10 [(.c .sn), (.t 41)])⟩, false), (⟨(some 43), some (39, true), (.op (.bin .int true .eql (.t 42) (.c (.i .i64 1))))⟩, false), (⟨(some 44), none, (.op (.pick (.t 39) (.t 43) (.c (.b false))))⟩, false), (⟨(some 45), none, (.op (.mv (.t 44)))⟩, false), (⟨(some 46), some (45, true), (.op (.mv (.t 2)))⟩, false), (⟨(some 47), some (45, true), (.call 11 [(.c .sn), (.t 46)])⟩, false), (⟨(some 48), some (45, true), (.op (.len .slice (.t 47)))⟩, false), (⟨(some 49), some (45, true), (.op (.bin .int true .eql (.t 48) (.c (.i .i64 1))))⟩, false), (⟨(some 50), none, (.op (.pick (.t 45) (.t 49) (.c (.b false))))⟩, false), (⟨(some 0), none, (.op (.mv (.t 50)))⟩, false)]
theorem c8d0_w {P : Program} {O : Orc} {S0 : Mem} {rd : Bool} {e : Env} {S : Mem} {d : List Nat} {Q : Kont} : W P O S0 rd (.draw c8d0 []) e S d Q = wFl O c8d0w e S (normK Q d) := W_draw' (by kernel_rfl) (by kernel_rfl)
attribute [go_sem] c8d0_w c8d0w
def c8 : IFunc := ⟨0, [.tmp 0],
  .seq (.region [⟨(some 0), none, (.op (.mv (.c (.b false))))⟩])
   (.live [] (.seq (.region [⟨(some 3), none, (.op (.build [(.i .i64 0), (.i .u8 0), (.i .u8 0), (.i .u8 0), (.i .u8 0), (.i .i64 0), (.i .u64 0), (.i .u64 0), (.i .u64 0), (.i .u64 0), (.i .u64 0), (.i .u64 0), (.i .u64 0)] [(0, 1, (.c (.i .i64 3))), (6, 1, (.c (.i .u64 1)))]))⟩,
    ⟨(some 1), none, (.op (.fresh [(.i .i64 0), (.i .u8 0), (.i .u8 0), (.i .u8 0), (.i .u8 0), (.i .i64 0), (.i .u64 0), (.i .u64 0), (.i .u64 0), (.i .u64 0), (.i .u64 0), (.i .u64 0), (.i .u64 0)]))⟩,
    ⟨none, none, (.op (.store 13 (.t 1) (.t 3)))⟩])
   (.live [1] (.seq (.region [⟨(some 4), none, (.op (.load (some 13) (.t 1)))⟩,
    ⟨(some 5), none, (.op (.bslice [(.i .i64 0), (.i .u8 0), (.i .u8 0), (.i .u8 0), (.i .u8 0), (.i .i64 0), (.i .u64 0), (.i .u64 0), (.i .u64 0), (.i .u64 0), (.i .u64 0), (.i .u64 0), (.i .u64 0)] 1 [(0, 13, (.t 4))]))⟩,
    ⟨(some 6), none, (.call 9 [(.c .sn), (.t 5)])⟩,
    ⟨(some 2), none, (.op (.mv (.t 6)))⟩])
   (.live [1, 2] (.seq (.draw c8d0 [])
   (.ret))))))),
  []⟩


/- floodgate/diff.Ops -/
def c9ra0 : ICode :=
  .region [⟨(some 6), none, (.op (.fresh [(.i .i64 0), (.i .i64 0), (.i .i64 0), (.i .u64 0), .sn, (.i .i64 0), (.i .u8 0), (.i .u8 0), (.i .u8 0), (.i .u8 0), (.i .i64 0), (.i .u64 0), (.i .u64 0), (.i .u64 0), (.i .u64 0), (.i .u64 0), (.i .u64 0), (.i .u64 0), .sn]))⟩,
    ⟨none, none, (.op (.store 19 (.t 6) (.t 12)))⟩]
def c9rb0 : ICode :=
  .block 1 (.region [⟨(some 13), none, (.op (.load none (.t 5)))⟩,
    ⟨(some 14), none, (.op (.load (some 19) (.t 6)))⟩,
    ⟨(some 15), none, (.op (.bslice [(.i .i64 0), (.i .i64 0), (.i .i64 0), (.i .u64 0), .sn, (.i .i64 0), (.i .u8 0), (.i .u8 0), (.i .u8 0), (.i .u8 0), (.i .i64 0), (.i .u64 0), (.i .u64 0), (.i .u64 0), (.i .u64 0), (.i .u64 0), (.i .u64 0), (.i .u64 0), .sn] 1 [(0, 19, (.t 14))]))⟩,
    ⟨(some 16), none, (.op (.app 19 160 (.t 13) (.t 15)))⟩,
    ⟨none, none, (.op (.store 1 (.t 5) (.t 16)))⟩])
def c9 : IFunc := ⟨2, [.tmp 4],
  .seq (.region [⟨(some 4), none, (.op (.mv (.c .sn)))⟩])
   (.live [12, 6, 14, 13, 15, 16, 1, 0] (.seq (.region [⟨(some 7), none, (.op (.build [(.i .i64 0), (.i .i64 0), (.i .i64 0), (.i .u64 0), .sn, (.i .i64 0), (.i .u8 0), (.i .u8 0), (.i .u8 0), (.i .u8 0), (.i .i64 0), (.i .u64 0), (.i .u64 0), (.i .u64 0), (.i .u64 0), (.i .u64 0), (.i .u64 0), (.i .u64 0), .sn] [(0, 1, (.c (.i .i64 3)))]))⟩,
    ⟨(some 8), none, (.op (.bslice [(.i .i64 0), (.i .i64 0), (.i .i64 0), (.i .u64 0), .sn, (.i .i64 0), (.i .u8 0), (.i .u8 0), (.i .u8 0), (.i .u8 0), (.i .i64 0), (.i .u64 0), (.i .u64 0), (.i .u64 0), (.i .u64 0), (.i .u64 0), (.i .u64 0), (.i .u64 0), .sn] 1 [(0, 19, (.t 7))]))⟩,
    ⟨(some 5), none, (.op (.fresh [.sn]))⟩,
    ⟨none, none, (.op (.store 1 (.t 5) (.t 8)))⟩])
   (.live [5, 12, 6, 14, 13, 15, 16, 1, 0] (.seq (.seq (.region [⟨(some 9), none, (.op (.mv (.t 0)))⟩,
    ⟨(some 10), none, (.op (.mv (.t 1)))⟩,
    ⟨(some 11), none, (.call 17 [(.t 9), (.t 10)])⟩])
   (.live [5, 12, 6, 14, 13, 15, 16, 11] (.block 0 (.rf (.t 11) 9 [true, true, false, true, false] [6, 12, 5, 6, 14, 13, 15, 5, 16]))))
   (.live [5] (.seq (.seq (.region [⟨(some 17), none, (.op (.load none (.t 5)))⟩,
    ⟨(some 18), none, (.op (.len .slice (.t 17)))⟩,
    ⟨(some 19), none, (.op (.bin .int true .eql (.t 18) (.c (.i .i64 1))))⟩])
   (.live [5, 19] (.cond (.t 19) (.seq (.region [⟨(some 4), none, (.op (.mv (.c .sn)))⟩])
   (.ret))
   (.skip))))
   (.live [5] (.seq (.region [⟨(some 20), none, (.op (.load none (.t 5)))⟩,
    ⟨(some 21), none, (.op (.build [(.i .i64 0), (.i .i64 0), (.i .i64 0), (.i .u64 0), .sn, (.i .i64 0), (.i .u8 0), (.i .u8 0), (.i .u8 0), (.i .u8 0), (.i .i64 0), (.i .u64 0), (.i .u64 0), (.i .u64 0), (.i .u64 0), (.i .u64 0), (.i .u64 0), (.i .u64 0), .sn] [(0, 1, (.c (.i .i64 6)))]))⟩,
    ⟨(some 22), none, (.op (.bslice [(.i .i64 0), (.i .i64 0), (.i .i64 0), (.i .u64 0), .sn, (.i .i64 0), (.i .u8 0), (.i .u8 0), (.i .u8 0), (.i .u8 0), (.i .i64 0), (.i .u64 0), (.i .u64 0), (.i .u64 0), (.i .u64 0), (.i .u64 0), (.i .u64 0), (.i .u64 0), .sn] 1 [(0, 19, (.t 21))]))⟩,
    ⟨(some 23), none, (.op (.app 19 160 (.t 20) (.t 22)))⟩,
    ⟨(some 4), none, (.op (.mv (.t 23)))⟩])
   (.ret))))))))),
  [([true, true, false, true, false], [12], c9ra0, c9rb0)]⟩


/- floodgate/diff.Cost -/
def c10ra0 : ICode :=
  .skip
def c10rb0 : ICode :=
  .block 1 (.region [⟨(some 10), none, (.op (.load none (.t 5)))⟩,
    ⟨(some 11), none, (.op (.bin .int true .add (.t 10) (.c (.i .i64 1))))⟩,
    ⟨none, none, (.op (.store 1 (.t 5) (.t 11)))⟩])
def c10 : IFunc := ⟨2, [.tmp 4],
  .seq (.region [⟨(some 4), none, (.op (.mv (.c (.i .i64 0))))⟩])
   (.live [10, 11, 1, 0] (.seq (.region [⟨(some 5), none, (.op (.fresh [(.i .i64 0)]))⟩,
    ⟨none, none, (.op (.store 1 (.t 5) (.c (.i .i64 0))))⟩])
   (.live [5, 10, 11, 1, 0] (.seq (.seq (.region [⟨(some 6), none, (.op (.mv (.t 0)))⟩,
    ⟨(some 7), none, (.op (.mv (.t 1)))⟩,
    ⟨(some 8), none, (.call 17 [(.t 6), (.t 7)])⟩])
   (.live [5, 10, 11, 8] (.block 0 (.rf (.t 8) 10 [true, true, false, true, false] [5, 10, 5, 11]))))
   (.live [5] (.seq (.region [⟨(some 12), none, (.op (.load none (.t 5)))⟩,
    ⟨(some 4), none, (.op (.mv (.t 12)))⟩])
   (.ret))))))),
  [([true, true, false, true, false], [9], c10ra0, c10rb0)]⟩


/- floodgate/diff.Apply -/
def c11l0 : ICode :=
  .seq (.region [⟨(some 16), none, (.op (.bin .int false .lss (.t 15) (.t 14)))⟩])
   (.live [5, 13, 14, 15, 16] (.seq (.cond (.t 16) (.skip)
   (.exit 0))
   (.live [5, 13, 14, 15] (.seq (.block 1 (.seq (.region [⟨(some 17), none, (.op (.iaddr none 19 (.t 13) (.t 15)))⟩,
    ⟨(some 18), none, (.op (.load (some 19) (.t 17)))⟩,
    ⟨(some 7), none, (.op (.fresh [(.i .i64 0), (.i .i64 0), (.i .i64 0), (.i .u64 0), .sn, (.i .i64 0), (.i .u8 0), (.i .u8 0), (.i .u8 0), (.i .u8 0), (.i .i64 0), (.i .u64 0), (.i .u64 0), (.i .u64 0), (.i .u64 0), (.i .u64 0), (.i .u64 0), (.i .u64 0), .sn]))⟩,
    ⟨none, none, (.op (.store 19 (.t 7) (.t 18)))⟩])
   (.live [5, 13, 14, 15, 7] (.seq (.region [⟨(some 19), none, (.op (.faddr 1 (.t 7)))⟩,
    ⟨(some 20), none, (.op (.load none (.t 19)))⟩,
    ⟨(some 8), none, (.op (.mv (.t 20)))⟩])
   (.live [5, 13, 14, 15, 7, 8] (.seq (.seq (.region [⟨(some 21), none, (.op (.faddr 0 (.t 7)))⟩,
    ⟨(some 22), none, (.op (.load none (.t 21)))⟩,
    ⟨(some 23), none, (.op (.bin .int true .eql (.t 22) (.c (.i .i64 4))))⟩])
   (.live [5, 13, 14, 15, 7, 8, 23] (.cond (.t 23) (.region [⟨(some 24), none, (.op (.faddr 5 (.t 7)))⟩,
    ⟨(some 25), none, (.op (.faddr 0 (.t 24)))⟩,
    ⟨(some 26), none, (.op (.load none (.t 25)))⟩,
    ⟨(some 8), none, (.op (.mv (.t 26)))⟩])
   (.skip))))
   (.live [5, 13, 14, 15, 7, 8] (.seq (.region [⟨(some 28), none, (.op (.mv (.t 5)))⟩,
    ⟨(some 29), none, (.op (.mv (.t 8)))⟩,
    ⟨(some 30), none, (.call 19 [(.t 28), (.t 29), (.c (.f (.func 20) [] []))])⟩,
    ⟨(some 27), none, (.op (.mv (.t 30)))⟩,
    ⟨(some 31), none, (.op (.ext (.t 27) 0))⟩,
    ⟨(some 32), none, (.op (.ext (.t 27) 1))⟩,
    ⟨(some 9), none, (.op (.mv (.t 31)))⟩,
    ⟨(some 10), none, (.op (.mv (.t 32)))⟩])
   (.live [5, 13, 14, 15, 7, 9, 10] (.block 2 (.seq (.region [⟨(some 34), none, (.op (.faddr 0 (.t 7)))⟩,
    ⟨(some 35), none, (.op (.load none (.t 34)))⟩,
    ⟨(some 36), none, (.op (.bin .int true .eql (.t 35) (.c (.i .i64 4))))⟩,
    ⟨(some 37), none, (.op (.mv (.t 36)))⟩,
    ⟨(some 38), some (37, true), (.op (.mv (.t 10)))⟩,
    ⟨(some 39), none, (.op (.pick (.t 37) (.t 38) (.c (.b false))))⟩,
    ⟨(some 33), none, (.op (.mv (.t 39)))⟩])
   (.live [5, 13, 14, 15, 7, 9, 10, 33] (.cond (.t 33) (.region [⟨(some 40), none, (.op (.mv (.t 5)))⟩,
    ⟨(some 41), none, (.op (.mv (.t 9)))⟩,
    ⟨(some 42), none, (.op (.faddr 5 (.t 7)))⟩,
    ⟨(some 43), none, (.op (.load (some 13) (.t 42)))⟩,
    ⟨(some 44), none, (.op (.iaddr none 13 (.t 40) (.t 41)))⟩,
    ⟨none, none, (.op (.store 13 (.t 44) (.t 43)))⟩])
   (.seq (.region [⟨(some 46), none, (.op (.faddr 0 (.t 7)))⟩,
    ⟨(some 47), none, (.op (.load none (.t 46)))⟩,
    ⟨(some 48), none, (.op (.bin .int true .eql (.t 47) (.c (.i .i64 4))))⟩,
    ⟨(some 45), none, (.op (.mv (.t 48)))⟩])
   (.live [13, 14, 15, 7, 9, 5, 10, 45] (.cond (.t 45) (.region [⟨(some 49), none, (.op (.mv (.t 5)))⟩,
    ⟨(some 50), none, (.op (.mv (.t 9)))⟩,
    ⟨(some 51), none, (.op (.faddr 5 (.t 7)))⟩,
    ⟨(some 52), none, (.op (.load (some 13) (.t 51)))⟩,
    ⟨(some 53), none, (.op (.bslice [(.i .i64 0), (.i .u8 0), (.i .u8 0), (.i .u8 0), (.i .u8 0), (.i .i64 0), (.i .u64 0), (.i .u64 0), (.i .u64 0), (.i .u64 0), (.i .u64 0), (.i .u64 0), (.i .u64 0)] 1 [(0, 13, (.t 52))]))⟩,
    ⟨(some 54), none, (.call 22 [(.t 49), (.t 50), (.t 53)])⟩,
    ⟨(some 5), none, (.op (.mv (.t 54)))⟩])
   (.seq (.region [⟨(some 56), none, (.op (.faddr 0 (.t 7)))⟩,
    ⟨(some 57), none, (.op (.load none (.t 56)))⟩,
    ⟨(some 58), none, (.op (.bin .int true .eql (.t 57) (.c (.i .i64 5))))⟩,
    ⟨(some 59), none, (.op (.mv (.t 58)))⟩,
    ⟨(some 60), some (59, true), (.op (.mv (.t 10)))⟩,
    ⟨(some 61), none, (.op (.pick (.t 59) (.t 60) (.c (.b false))))⟩,
    ⟨(some 55), none, (.op (.mv (.t 61)))⟩])
   (.live [13, 14, 15, 9, 5, 55] (.cond (.t 55) (.region [⟨(some 62), none, (.op (.mv (.t 5)))⟩,
    ⟨(some 63), none, (.op (.mv (.t 9)))⟩,
    ⟨(some 64), none, (.op (.mv (.t 9)))⟩,
    ⟨(some 65), none, (.op (.bin .int true .add (.t 64) (.c (.i .i64 1))))⟩,
    ⟨(some 66), none, (.call 23 [(.t 62), (.t 63), (.t 65)])⟩,
    ⟨(some 5), none, (.op (.mv (.t 66)))⟩])
   (.skip))))))))))))))))))))
   (.live [5, 13, 14, 15] (.region [⟨(some 67), none, (.op (.bin .int true .add (.t 15) (.c (.i .i64 1))))⟩,
    ⟨(some 15), none, (.op (.mv (.t 67)))⟩]))))))
def c11 : IFunc := ⟨2, [.tmp 4],
  .seq (.region [⟨(some 4), none, (.op (.mv (.c .sn)))⟩])
   (.live [1, 0] (.seq (.region [⟨(some 11), none, (.op (.mv (.t 0)))⟩,
    ⟨(some 12), none, (.call 18 [(.t 11)])⟩,
    ⟨(some 5), none, (.op (.mv (.t 12)))⟩])
   (.live [5, 1] (.seq (.seq (.region [⟨(some 13), none, (.op (.mv (.t 1)))⟩,
    ⟨(some 14), none, (.op (.len .slice (.t 13)))⟩,
    ⟨(some 15), none, (.op (.mv (.c (.i .i64 0))))⟩])
   (.live [5, 13, 14, 15] (.block 0 (.loop [5, 13, 14, 15] c11l0))))
   (.live [5] (.seq (.region [⟨(some 68), none, (.op (.mv (.t 5)))⟩,
    ⟨(some 69), none, (.call 24 [(.t 68), (.c (.f (.func 25) [] []))])⟩])
   (.live [5] (.seq (.region [⟨(some 70), none, (.op (.mv (.t 5)))⟩,
    ⟨(some 4), none, (.op (.mv (.t 70)))⟩])
   (.ret))))))))),
  []⟩


/- floodgate/floodgatelaw25.great -/

def c12 : IFunc := ⟨2, [.tmp 4],
  .seq (.region [⟨(some 4), none, (.op (.mv (.c (.b false))))⟩])
   (.live [1, 0] (.seq (.region [⟨(some 5), none, (.op (.mv (.t 0)))⟩,
    ⟨(some 6), none, (.op (.len .slice (.t 5)))⟩,
    ⟨(some 7), none, (.op (.bin .int true .gtr (.t 6) (.c (.i .i64 30))))⟩,
    ⟨(some 8), none, (.op (.mv (.t 7)))⟩,
    ⟨(some 9), some (8, false), (.op (.mv (.t 1)))⟩,
    ⟨(some 10), some (8, false), (.op (.len .slice (.t 9)))⟩,
    ⟨(some 11), some (8, false), (.op (.bin .int true .gtr (.t 10) (.c (.i .i64 30))))⟩,
    ⟨(some 12), none, (.op (.pick (.t 8) (.c (.b true)) (.t 11)))⟩,
    ⟨(some 13), none, (.op (.mv (.t 12)))⟩,
    ⟨(some 14), some (13, false), (.op (.mv (.t 0)))⟩,
    ⟨(some 15), some (13, false), (.call 26 [(.t 14)])⟩,
    ⟨(some 16), some (13, false), (.op (.un .not (.t 15)))⟩,
    ⟨(some 17), none, (.op (.pick (.t 13) (.c (.b true)) (.t 16)))⟩,
    ⟨(some 18), none, (.op (.mv (.t 17)))⟩,
    ⟨(some 19), some (18, false), (.op (.mv (.t 1)))⟩,
    ⟨(some 20), some (18, false), (.call 26 [(.t 19)])⟩,
    ⟨(some 21), some (18, false), (.op (.un .not (.t 20)))⟩,
    ⟨(some 22), none, (.op (.pick (.t 18) (.c (.b true)) (.t 21)))⟩,
    ⟨(some 4), none, (.op (.mv (.t 22)))⟩])
   (.ret))),
  []⟩


/- floodgate/floodgateref24.SamePolicies -/
def c15d0 : List Stage :=
  [⟨[(⟨(some 16), none, (.op (.mv (.t 0)))⟩, 0), (⟨(some 17), none, (.op (.mv (.t 5)))⟩, 0), (⟨(some 18), none, (.op (.iaddr none 13 (.t 16) (.t 17)))⟩, 0), (⟨(some 19), none, (.op (.load (some 13) (.t 18)))⟩, 0), (⟨(some 20), none, (.op (.mv (.t 1)))⟩, 0), (⟨(some 21), none, (.op (.mv (.t 5)))⟩, 0), (⟨(some 22), none, (.op (.iaddr none 13 (.t 20) (.t 21)))⟩, 0), (⟨(some 23), none, (.op (.load (some 13) (.t 22)))⟩, 0), (⟨(some 24), none, (.op (.eqag true [.int, .int, .int, .int, .int, .int, .int, .int, .int, .int, .int, .int, .int] (.t 19) (.t 23)))⟩, 0)], none, none⟩]
def c15d0w : List (ROp × Bool) :=
  [(⟨(some 16), none, (.op (.mv (.t 0)))⟩, false), (⟨(some 17), none, (.op (.mv (.t 5)))⟩, false), (⟨(some 18), none, (.op (.iaddr none 13 (.t 16) (.t 17)))⟩, false), (⟨(some 19), none, (.op (.load (some 13) (.t 18)))⟩, false), (⟨(some 20), none, (.op (.mv (.t 1)))⟩, false), (⟨(some 21), none, (.op (.mv (.t 5)))⟩, false), (⟨(some 22), none, (.op (.iaddr none 13 (.t 20) (.t 21)))⟩, false), (⟨(some 23), none, (.op (.load (some 13) (.t 22)))⟩, false), (⟨(some 24), none, (.op (.eqag true [.int, .int, .int, .int, .int, .int, .int, .int, .int, .int, .int, .int, .int] (.t 19) (.t 23)))⟩, false)]
theorem c15d0_w {P : Program} {O : Orc} {S0 : Mem} {rd : Bool} {e : Env} {S : Mem} {d : List Nat} {Q : Kont} : W P O S0 rd (.draw c15d0 []) e S d Q = wFl O c15d0w e S (normK Q d) := W_draw' (by kernel_rfl) (by kernel_rfl)
attribute [go_sem] c15d0_w c15d0w
def c15l1 : ICode :=
  .seq (.region [⟨(some 14), none, (.op (.bin .int false .lss (.t 13) (.t 12)))⟩])
   (.live [0, 1, 12, 13, 14] (.seq (.cond (.t 14) (.skip)
   (.exit 0))
   (.live [0, 1, 12, 13] (.seq (.block 1 (.seq (.region [⟨(some 15), none, (.op (.mv (.t 13)))⟩,
    ⟨(some 5), none, (.op (.mv (.t 15)))⟩])
   (.live [0, 1, 12, 13, 5] (.seq (.draw c15d0 [])
   (.live [0, 1, 12, 13, 24] (.cond (.t 24) (.seq (.region [⟨(some 4), none, (.op (.mv (.c (.b false))))⟩])
   (.ret))
   (.skip)))))))
   (.live [0, 1, 12, 13] (.region [⟨(some 25), none, (.op (.bin .int true .add (.t 13) (.c (.i .i64 1))))⟩,
    ⟨(some 13), none, (.op (.mv (.t 25)))⟩]))))))
def c15 : IFunc := ⟨2, [.tmp 4],
  .seq (.region [⟨(some 4), none, (.op (.mv (.c (.b false))))⟩])
   (.live [0, 1] (.seq (.seq (.region [⟨(some 6), none, (.op (.mv (.t 0)))⟩,
    ⟨(some 7), none, (.op (.len .slice (.t 6)))⟩,
    ⟨(some 8), none, (.op (.mv (.t 1)))⟩,
    ⟨(some 9), none, (.op (.len .slice (.t 8)))⟩,
    ⟨(some 10), none, (.op (.bin .int false .neq (.t 7) (.t 9)))⟩])
   (.live [0, 1, 10] (.cond (.t 10) (.seq (.region [⟨(some 4), none, (.op (.mv (.c (.b false))))⟩])
   (.ret))
   (.skip))))
   (.live [0, 1] (.seq (.seq (.region [⟨(some 11), none, (.op (.mv (.t 0)))⟩,
    ⟨(some 12), none, (.op (.len .slice (.t 11)))⟩,
    ⟨(some 13), none, (.op (.mv (.c (.i .i64 0))))⟩])
   (.live [0, 1, 12, 13] (.block 0 (.loop [0, 1, 12, 13] c15l1))))
   (.live [] (.seq (.region [⟨(some 4), none, (.op (.mv (.c (.b true))))⟩])
   (.ret))))))),
  []⟩


/- floodgate/diff.changes -/

def c17 : IFunc := ⟨2, [.tmp 4],
  .seq (.region [⟨(some 2), none, (.op (.box (.t 0)))⟩,
    ⟨(some 3), none, (.op (.box (.t 1)))⟩,
    ⟨(some 4), none, (.op (.mv (.c .nf)))⟩])
   (.live [2, 3] (.seq (.region [⟨(some 5), none, (.op (.mkf (.func 30) [] [(.t 2), (.t 3)]))⟩,
    ⟨(some 4), none, (.op (.mv (.t 5)))⟩])
   (.ret))),
  []⟩


/- slices.Clone[[]floodgate/api.Policy,floodgate/api.Policy] -/

def c18 : IFunc := ⟨1, [.tmp 2],
  .seq (.region [⟨(some 2), none, (.op (.mv (.c .sn)))⟩])
   (.live [0] (.seq (.seq (.region [⟨(some 3), none, (.op (.mv (.t 0)))⟩,
    ⟨(some 4), none, (.op (.bin .slice true .eql (.t 3) (.c .sn)))⟩])
   (.live [0, 4] (.cond (.t 4) (.seq (.region [⟨(some 2), none, (.op (.mv (.c .sn)))⟩])
   (.ret))
   (.skip))))
   (.live [0] (.seq (.region [⟨(some 5), none, (.op (.bslice [(.i .i64 0), (.i .u8 0), (.i .u8 0), (.i .u8 0), (.i .u8 0), (.i .i64 0), (.i .u64 0), (.i .u64 0), (.i .u64 0), (.i .u64 0), (.i .u64 0), (.i .u64 0), (.i .u64 0)] 0 []))⟩,
    ⟨(some 6), none, (.op (.mv (.t 0)))⟩,
    ⟨(some 7), none, (.op (.app 13 80 (.t 5) (.t 6)))⟩,
    ⟨(some 2), none, (.op (.mv (.t 7)))⟩])
   (.ret))))),
  []⟩


/- slices.BinarySearchFunc[[]floodgate/api.Policy,floodgate/api.Policy,int] -/
def c19l0 : ICode :=
  .seq (.seq (.region [⟨(some 15), none, (.op (.mv (.t 9)))⟩,
    ⟨(some 16), none, (.op (.mv (.t 10)))⟩,
    ⟨(some 17), none, (.op (.bin .int false .lss (.t 15) (.t 16)))⟩])
   (.live [1, 0, 2, 10, 8, 9, 17] (.cond (.t 17) (.skip)
   (.exit 0))))
   (.live [1, 0, 2, 10, 8, 9] (.block 1 (.seq (.region [⟨(some 18), none, (.op (.mv (.t 9)))⟩,
    ⟨(some 19), none, (.op (.mv (.t 10)))⟩,
    ⟨(some 20), none, (.op (.bin .int false .add (.t 18) (.t 19)))⟩,
    ⟨(some 21), none, (.op (.toInt .u64 (.t 20)))⟩,
    ⟨(some 22), none, (.op (.bin .int true .shr (.t 21) (.c (.i .u64 1))))⟩,
    ⟨(some 23), none, (.op (.toInt .i64 (.t 22)))⟩,
    ⟨(some 11), none, (.op (.mv (.t 23)))⟩])
   (.live [1, 0, 2, 10, 8, 11, 9] (.seq (.region [⟨(some 24), none, (.op (.mv (.t 2)))⟩,
    ⟨(some 25), none, (.op (.mv (.t 0)))⟩,
    ⟨(some 26), none, (.op (.mv (.t 11)))⟩,
    ⟨(some 27), none, (.op (.iaddr none 13 (.t 25) (.t 26)))⟩,
    ⟨(some 28), none, (.op (.load (some 13) (.t 27)))⟩,
    ⟨(some 29), none, (.op (.mv (.t 1)))⟩,
    ⟨(some 30), none, (.callv (.t 24) [(.t 28), (.t 29)])⟩,
    ⟨(some 31), none, (.op (.bin .int true .lss (.t 30) (.c (.i .i64 0))))⟩])
   (.live [1, 0, 2, 10, 8, 11, 9, 31] (.cond (.t 31) (.region [⟨(some 32), none, (.op (.mv (.t 11)))⟩,
    ⟨(some 33), none, (.op (.bin .int true .add (.t 32) (.c (.i .i64 1))))⟩,
    ⟨(some 9), none, (.op (.mv (.t 33)))⟩])
   (.region [⟨(some 34), none, (.op (.mv (.t 11)))⟩,
    ⟨(some 10), none, (.op (.mv (.t 34)))⟩]))))))))
def c19 : IFunc := ⟨3, [.tmp 6, .tmp 7],
  .seq (.region [⟨(some 6), none, (.op (.mv (.c (.i .i64 0))))⟩,
    ⟨(some 7), none, (.op (.mv (.c (.b false))))⟩])
   (.live [1, 0, 2] (.seq (.region [⟨(some 12), none, (.op (.mv (.t 0)))⟩,
    ⟨(some 13), none, (.op (.len .slice (.t 12)))⟩,
    ⟨(some 8), none, (.op (.mv (.t 13)))⟩])
   (.live [1, 0, 2, 8] (.seq (.region [⟨(some 14), none, (.op (.mv (.t 8)))⟩,
    ⟨(some 9), none, (.op (.mv (.c (.i .i64 0))))⟩,
    ⟨(some 10), none, (.op (.mv (.t 14)))⟩])
   (.live [1, 0, 2, 10, 8, 9] (.seq (.block 0 (.loop [1, 0, 2, 10, 8, 9] c19l0))
   (.live [1, 9, 0, 2, 8] (.seq (.region [⟨(some 35), none, (.op (.mv (.t 9)))⟩,
    ⟨(some 36), none, (.op (.mv (.t 9)))⟩,
    ⟨(some 37), none, (.op (.mv (.t 8)))⟩,
    ⟨(some 38), none, (.op (.bin .int false .lss (.t 36) (.t 37)))⟩,
    ⟨(some 39), none, (.op (.mv (.t 38)))⟩,
    ⟨(some 40), some (39, true), (.op (.mv (.t 2)))⟩,
    ⟨(some 41), some (39, true), (.op (.mv (.t 0)))⟩,
    ⟨(some 42), some (39, true), (.op (.mv (.t 9)))⟩,
    ⟨(some 43), some (39, true), (.op (.iaddr none 13 (.t 41) (.t 42)))⟩,
    ⟨(some 44), some (39, true), (.op (.load (some 13) (.t 43)))⟩,
    ⟨(some 45), some (39, true), (.op (.mv (.t 1)))⟩,
    ⟨(some 46), some (39, true), (.callv (.t 40) [(.t 44), (.t 45)])⟩,
    ⟨(some 47), some (39, true), (.op (.bin .int true .eql (.t 46) (.c (.i .i64 0))))⟩,
    ⟨(some 48), none, (.op (.pick (.t 39) (.t 47) (.c (.b false))))⟩,
    ⟨(some 6), none, (.op (.mv (.t 35)))⟩,
    ⟨(some 7), none, (.op (.mv (.t 48)))⟩])
   (.ret))))))))),
  []⟩


/- floodgate/diff.Apply$1 -/

def c20 : IFunc := ⟨2, [.tmp 4],
  .seq (.region [⟨(some 2), none, (.op (.box (.t 0)))⟩,
    ⟨(some 4), none, (.op (.mv (.c (.i .i64 0))))⟩])
   (.live [1, 2] (.seq (.region [⟨(some 5), none, (.op (.faddr 0 (.t 2)))⟩,
    ⟨(some 6), none, (.op (.load none (.t 5)))⟩,
    ⟨(some 7), none, (.op (.mv (.t 1)))⟩,
    ⟨(some 8), none, (.call 21 [(.t 6), (.t 7)])⟩,
    ⟨(some 4), none, (.op (.mv (.t 8)))⟩])
   (.ret))),
  []⟩


/- cmp.Compare[int] -/

def c21 : IFunc := ⟨2, [.tmp 4],
  .seq (.region [⟨(some 4), none, (.op (.mv (.c (.i .i64 0))))⟩])
   (.live [1, 0] (.seq (.region [⟨(some 7), none, (.op (.mv (.t 0)))⟩,
    ⟨(some 8), none, (.call 31 [(.t 7)])⟩,
    ⟨(some 5), none, (.op (.mv (.t 8)))⟩])
   (.live [1, 0, 5] (.seq (.region [⟨(some 9), none, (.op (.mv (.t 1)))⟩,
    ⟨(some 10), none, (.call 31 [(.t 9)])⟩,
    ⟨(some 6), none, (.op (.mv (.t 10)))⟩])
   (.live [6, 1, 0, 5] (.seq (.seq (.region [⟨(some 11), none, (.op (.mv (.t 5)))⟩])
   (.live [6, 1, 0, 11] (.cond (.t 11) (.seq (.seq (.region [⟨(some 12), none, (.op (.mv (.t 6)))⟩])
   (.live [12] (.cond (.t 12) (.seq (.region [⟨(some 4), none, (.op (.mv (.c (.i .i64 0))))⟩])
   (.ret))
   (.skip))))
   (.live [] (.seq (.region [⟨(some 4), none, (.op (.mv (.c (.i .i64 (-1)))))⟩])
   (.ret))))
   (.skip))))
   (.live [1, 0, 6] (.seq (.seq (.region [⟨(some 13), none, (.op (.mv (.t 6)))⟩])
   (.live [1, 0, 13] (.cond (.t 13) (.seq (.region [⟨(some 4), none, (.op (.mv (.c (.i .i64 1))))⟩])
   (.ret))
   (.skip))))
   (.live [1, 0] (.seq (.seq (.region [⟨(some 14), none, (.op (.mv (.t 0)))⟩,
    ⟨(some 15), none, (.op (.mv (.t 1)))⟩,
    ⟨(some 16), none, (.op (.bin .int false .lss (.t 14) (.t 15)))⟩])
   (.live [1, 0, 16] (.cond (.t 16) (.seq (.region [⟨(some 4), none, (.op (.mv (.c (.i .i64 (-1)))))⟩])
   (.ret))
   (.skip))))
   (.live [1, 0] (.seq (.seq (.region [⟨(some 17), none, (.op (.mv (.t 0)))⟩,
    ⟨(some 18), none, (.op (.mv (.t 1)))⟩,
    ⟨(some 19), none, (.op (.bin .int false .gtr (.t 17) (.t 18)))⟩])
   (.live [19] (.cond (.t 19) (.seq (.region [⟨(some 4), none, (.op (.mv (.c (.i .i64 1))))⟩])
   (.ret))
   (.skip))))
   (.live [] (.seq (.region [⟨(some 4), none, (.op (.mv (.c (.i .i64 0))))⟩])
   (.ret))))))))))))))),
  []⟩


/- slices.Insert[[]floodgate/api.Policy,floodgate/api.Policy] -/
def c22d0 : List Stage :=
  [⟨[(⟨(some 46), none, (.op (.mv (.t 9)))⟩, 0), (⟨(some 47), none, (.op (.mv (.t 1)))⟩, 0), (⟨(some 48), none, (.op (.mv (.t 7)))⟩, 0), (⟨(some 49), none, (.op (.bin .int false .add (.t 47) (.t 48)))⟩, 0), (⟨(some 50), none, (.op (.slice 13 (.t 46) (some (.t 49)) none none))⟩, 0), (⟨(some 51), none, (.op (.mv (.t 0)))⟩, 0), (⟨(some 52), none, (.op (.mv (.t 1)))⟩, 0), (⟨(some 53), none, (.op (.slice 13 (.t 51) (some (.t 52)) none none))⟩, 0)], none, some ⟨(some 54), none, (.op (.copy 13 (.t 50) (.t 53)))⟩⟩,
    ⟨[], none, none⟩]
def c22d0w : List (ROp × Bool) :=
  [(⟨(some 46), none, (.op (.mv (.t 9)))⟩, false), (⟨(some 47), none, (.op (.mv (.t 1)))⟩, false), (⟨(some 48), none, (.op (.mv (.t 7)))⟩, false), (⟨(some 49), none, (.op (.bin .int false .add (.t 47) (.t 48)))⟩, false), (⟨(some 50), none, (.op (.slice 13 (.t 46) (some (.t 49)) none none))⟩, false), (⟨(some 51), none, (.op (.mv (.t 0)))⟩, false), (⟨(some 52), none, (.op (.mv (.t 1)))⟩, false), (⟨(some 53), none, (.op (.slice 13 (.t 51) (some (.t 52)) none none))⟩, false), (⟨(some 54), none, (.op (.copy 13 (.t 50) (.t 53)))⟩, false)]
theorem c22d0_w {P : Program} {O : Orc} {S0 : Mem} {rd : Bool} {e : Env} {S : Mem} {d : List Nat} {Q : Kont} : W P O S0 rd (.draw c22d0 []) e S d Q = wFl O c22d0w e S (normK Q d) := W_draw' (by kernel_rfl) (by kernel_rfl)
attribute [go_sem] c22d0_w c22d0w
def c22d1 : List Stage :=
  [⟨[(⟨(some 69), none, (.op (.mv (.t 0)))⟩, 0), (⟨(some 70), none, (.op (.mv (.t 1)))⟩, 0), (⟨(some 71), none, (.op (.mv (.t 7)))⟩, 0), (⟨(some 72), none, (.op (.bin .int false .add (.t 70) (.t 71)))⟩, 0), (⟨(some 73), none, (.op (.slice 13 (.t 69) (some (.t 72)) none none))⟩, 0), (⟨(some 74), none, (.op (.mv (.t 0)))⟩, 0), (⟨(some 75), none, (.op (.mv (.t 1)))⟩, 0), (⟨(some 76), none, (.op (.slice 13 (.t 74) (some (.t 75)) none none))⟩, 0)], none, some ⟨(some 77), none, (.op (.copy 13 (.t 73) (.t 76)))⟩⟩,
    ⟨[], none, none⟩]
def c22d1w : List (ROp × Bool) :=
  [(⟨(some 69), none, (.op (.mv (.t 0)))⟩, false), (⟨(some 70), none, (.op (.mv (.t 1)))⟩, false), (⟨(some 71), none, (.op (.mv (.t 7)))⟩, false), (⟨(some 72), none, (.op (.bin .int false .add (.t 70) (.t 71)))⟩, false), (⟨(some 73), none, (.op (.slice 13 (.t 69) (some (.t 72)) none none))⟩, false), (⟨(some 74), none, (.op (.mv (.t 0)))⟩, false), (⟨(some 75), none, (.op (.mv (.t 1)))⟩, false), (⟨(some 76), none, (.op (.slice 13 (.t 74) (some (.t 75)) none none))⟩, false), (⟨(some 77), none, (.op (.copy 13 (.t 73) (.t 76)))⟩, false)]
theorem c22d1_w {P : Program} {O : Orc} {S0 : Mem} {rd : Bool} {e : Env} {S : Mem} {d : List Nat} {Q : Kont} : W P O S0 rd (.draw c22d1 []) e S d Q = wFl O c22d1w e S (normK Q d) := W_draw' (by kernel_rfl) (by kernel_rfl)
attribute [go_sem] c22d1_w c22d1w
def c22 : IFunc := ⟨3, [.tmp 6],
  .seq (.region [⟨(some 6), none, (.op (.mv (.c .sn)))⟩])
   (.live [0, 2, 1] (.seq (.region [⟨(some 10), none, (.op (.mv (.t 0)))⟩,
    ⟨(some 11), none, (.op (.mv (.t 1)))⟩,
    ⟨(some 12), none, (.op (.slice 13 (.t 10) (some (.t 11)) none none))⟩])
   (.live [0, 2, 1] (.seq (.region [⟨(some 13), none, (.op (.mv (.t 2)))⟩,
    ⟨(some 14), none, (.op (.len .slice (.t 13)))⟩,
    ⟨(some 7), none, (.op (.mv (.t 14)))⟩])
   (.live [0, 2, 7, 1] (.seq (.seq (.region [⟨(some 15), none, (.op (.mv (.t 7)))⟩,
    ⟨(some 16), none, (.op (.bin .int true .eql (.t 15) (.c (.i .i64 0))))⟩])
   (.live [0, 2, 7, 1, 16] (.cond (.t 16) (.seq (.region [⟨(some 17), none, (.op (.mv (.t 0)))⟩,
    ⟨(some 6), none, (.op (.mv (.t 17)))⟩])
   (.ret))
   (.skip))))
   (.live [2, 0, 7, 1] (.seq (.region [⟨(some 18), none, (.op (.mv (.t 0)))⟩,
    ⟨(some 19), none, (.op (.len .slice (.t 18)))⟩,
    ⟨(some 8), none, (.op (.mv (.t 19)))⟩])
   (.live [2, 0, 7, 1, 8] (.seq (.seq (.region [⟨(some 20), none, (.op (.mv (.t 1)))⟩,
    ⟨(some 21), none, (.op (.mv (.t 8)))⟩,
    ⟨(some 22), none, (.op (.bin .int false .eql (.t 20) (.t 21)))⟩])
   (.live [2, 0, 7, 1, 8, 22] (.cond (.t 22) (.seq (.region [⟨(some 23), none, (.op (.mv (.t 0)))⟩,
    ⟨(some 24), none, (.op (.mv (.t 2)))⟩,
    ⟨(some 25), none, (.op (.app 13 80 (.t 23) (.t 24)))⟩,
    ⟨(some 6), none, (.op (.mv (.t 25)))⟩])
   (.ret))
   (.skip))))
   (.live [7, 0, 1, 2, 8] (.seq (.seq (.region [⟨(some 26), none, (.op (.mv (.t 8)))⟩,
    ⟨(some 27), none, (.op (.mv (.t 7)))⟩,
    ⟨(some 28), none, (.op (.bin .int false .add (.t 26) (.t 27)))⟩,
    ⟨(some 29), none, (.op (.mv (.t 0)))⟩,
    ⟨(some 30), none, (.op (.cap (.t 29)))⟩,
    ⟨(some 31), none, (.op (.bin .int false .gtr (.t 28) (.t 30)))⟩])
   (.live [7, 0, 1, 2, 8, 31] (.cond (.t 31) (.seq (.region [⟨(some 32), none, (.op (.mv (.t 0)))⟩,
    ⟨(some 33), none, (.op (.mv (.t 1)))⟩,
    ⟨(some 34), none, (.op (.slice 13 (.t 32) none (some (.t 33)) none))⟩,
    ⟨(some 35), none, (.op (.mv (.t 8)))⟩,
    ⟨(some 36), none, (.op (.mv (.t 7)))⟩,
    ⟨(some 37), none, (.op (.bin .int false .add (.t 35) (.t 36)))⟩,
    ⟨(some 38), none, (.op (.mv (.t 1)))⟩,
    ⟨(some 39), none, (.op (.bin .int false .sub (.t 37) (.t 38)))⟩,
    ⟨(some 40), none, (.op (.appz [(.i .i64 0), (.i .u8 0), (.i .u8 0), (.i .u8 0), (.i .u8 0), (.i .i64 0), (.i .u64 0), (.i .u64 0), (.i .u64 0), (.i .u64 0), (.i .u64 0), (.i .u64 0), (.i .u64 0)] 80 (.t 34) (.t 39)))⟩,
    ⟨(some 9), none, (.op (.mv (.t 40)))⟩])
   (.live [9, 7, 0, 1, 2] (.seq (.region [⟨(some 41), none, (.op (.mv (.t 9)))⟩,
    ⟨(some 42), none, (.op (.mv (.t 1)))⟩,
    ⟨(some 43), none, (.op (.slice 13 (.t 41) (some (.t 42)) none none))⟩,
    ⟨(some 44), none, (.op (.mv (.t 2)))⟩,
    ⟨(some 45), none, (.op (.copy 13 (.t 43) (.t 44)))⟩])
   (.live [9, 7, 0, 1] (.seq (.draw c22d0 [])
   (.live [9] (.seq (.region [⟨(some 55), none, (.op (.mv (.t 9)))⟩,
    ⟨(some 6), none, (.op (.mv (.t 55)))⟩])
   (.ret))))))))
   (.skip))))
   (.live [2, 1, 7, 8, 0] (.seq (.region [⟨(some 56), none, (.op (.mv (.t 0)))⟩,
    ⟨(some 57), none, (.op (.mv (.t 8)))⟩,
    ⟨(some 58), none, (.op (.mv (.t 7)))⟩,
    ⟨(some 59), none, (.op (.bin .int false .add (.t 57) (.t 58)))⟩,
    ⟨(some 60), none, (.op (.slice 13 (.t 56) none (some (.t 59)) none))⟩,
    ⟨(some 0), none, (.op (.mv (.t 60)))⟩])
   (.live [0, 2, 1, 7, 8] (.seq (.seq (.region [⟨(some 61), none, (.op (.mv (.t 2)))⟩,
    ⟨(some 62), none, (.op (.mv (.t 0)))⟩,
    ⟨(some 63), none, (.op (.mv (.t 1)))⟩,
    ⟨(some 64), none, (.op (.mv (.t 7)))⟩,
    ⟨(some 65), none, (.op (.bin .int false .add (.t 63) (.t 64)))⟩,
    ⟨(some 66), none, (.op (.slice 13 (.t 62) (some (.t 65)) none none))⟩,
    ⟨(some 67), none, (.op (.ovl (.t 61) (.t 66)))⟩,
    ⟨(some 68), none, (.op (.un .not (.t 67)))⟩])
   (.live [0, 2, 1, 7, 8, 68] (.cond (.t 68) (.seq (.draw c22d1 [])
   (.live [0, 2, 1] (.seq (.region [⟨(some 78), none, (.op (.mv (.t 0)))⟩,
    ⟨(some 79), none, (.op (.mv (.t 1)))⟩,
    ⟨(some 80), none, (.op (.slice 13 (.t 78) (some (.t 79)) none none))⟩,
    ⟨(some 81), none, (.op (.mv (.t 2)))⟩,
    ⟨(some 82), none, (.op (.copy 13 (.t 80) (.t 81)))⟩])
   (.live [0] (.seq (.region [⟨(some 83), none, (.op (.mv (.t 0)))⟩,
    ⟨(some 6), none, (.op (.mv (.t 83)))⟩])
   (.ret))))))
   (.skip))))
   (.live [0, 7, 1, 2, 8] (.seq (.region [⟨(some 84), none, (.op (.mv (.t 0)))⟩,
    ⟨(some 85), none, (.op (.mv (.t 8)))⟩,
    ⟨(some 86), none, (.op (.slice 13 (.t 84) (some (.t 85)) none none))⟩,
    ⟨(some 87), none, (.op (.mv (.t 2)))⟩,
    ⟨(some 88), none, (.op (.copy 13 (.t 86) (.t 87)))⟩])
   (.live [0, 7, 1] (.seq (.region [⟨(some 89), none, (.op (.mv (.t 0)))⟩,
    ⟨(some 90), none, (.op (.mv (.t 1)))⟩,
    ⟨(some 91), none, (.op (.slice 13 (.t 89) (some (.t 90)) none none))⟩,
    ⟨(some 92), none, (.op (.mv (.t 7)))⟩,
    ⟨(some 93), none, (.call 33 [(.t 91), (.t 92)])⟩])
   (.live [0] (.seq (.region [⟨(some 94), none, (.op (.mv (.t 0)))⟩,
    ⟨(some 6), none, (.op (.mv (.t 94)))⟩])
   (.ret))))))))))))))))))))))),
  []⟩


/- slices.Delete[[]floodgate/api.Policy,floodgate/api.Policy] -/
def c23d0 : List Stage :=
  [⟨[(⟨(some 20), none, (.op (.mv (.t 0)))⟩, 0), (⟨(some 21), none, (.op (.mv (.t 1)))⟩, 0), (⟨(some 22), none, (.op (.slice 13 (.t 20) none (some (.t 21)) none))⟩, 0), (⟨(some 23), none, (.op (.mv (.t 0)))⟩, 0), (⟨(some 24), none, (.op (.mv (.t 2)))⟩, 0), (⟨(some 25), none, (.op (.slice 13 (.t 23) (some (.t 24)) none none))⟩, 0)], none, some ⟨(some 26), none, (.op (.app 13 80 (.t 22) (.t 25)))⟩⟩,
    ⟨[(⟨(some 0), none, (.op (.mv (.t 26)))⟩, 1)], none, none⟩]
def c23d0w : List (ROp × Bool) :=
  [(⟨(some 20), none, (.op (.mv (.t 0)))⟩, false), (⟨(some 21), none, (.op (.mv (.t 1)))⟩, false), (⟨(some 22), none, (.op (.slice 13 (.t 20) none (some (.t 21)) none))⟩, false), (⟨(some 23), none, (.op (.mv (.t 0)))⟩, false), (⟨(some 24), none, (.op (.mv (.t 2)))⟩, false), (⟨(some 25), none, (.op (.slice 13 (.t 23) (some (.t 24)) none none))⟩, false), (⟨(some 26), none, (.op (.app 13 80 (.t 22) (.t 25)))⟩, false), (⟨(some 0), none, (.op (.mv (.t 26)))⟩, false)]
theorem c23d0_w {P : Program} {O : Orc} {S0 : Mem} {rd : Bool} {e : Env} {S : Mem} {d : List Nat} {Q : Kont} : W P O S0 rd (.draw c23d0 [0]) e S d Q = wFl O c23d0w e S (normK Q d) := W_draw' (by kernel_rfl) (by kernel_rfl)
attribute [go_sem] c23d0_w c23d0w
def c23 : IFunc := ⟨3, [.tmp 6],
  .seq (.region [⟨(some 6), none, (.op (.mv (.c .sn)))⟩])
   (.live [0, 1, 2] (.seq (.region [⟨(some 8), none, (.op (.mv (.t 0)))⟩,
    ⟨(some 9), none, (.op (.mv (.t 1)))⟩,
    ⟨(some 10), none, (.op (.mv (.t 2)))⟩,
    ⟨(some 11), none, (.op (.mv (.t 0)))⟩,
    ⟨(some 12), none, (.op (.len .slice (.t 11)))⟩,
    ⟨(some 13), none, (.op (.slice 13 (.t 8) (some (.t 9)) (some (.t 10)) (some (.t 12))))⟩])
   (.live [0, 1, 2] (.seq (.seq (.region [⟨(some 14), none, (.op (.mv (.t 1)))⟩,
    ⟨(some 15), none, (.op (.mv (.t 2)))⟩,
    ⟨(some 16), none, (.op (.bin .int false .eql (.t 14) (.t 15)))⟩])
   (.live [0, 1, 2, 16] (.cond (.t 16) (.seq (.region [⟨(some 17), none, (.op (.mv (.t 0)))⟩,
    ⟨(some 6), none, (.op (.mv (.t 17)))⟩])
   (.ret))
   (.skip))))
   (.live [1, 2, 0] (.seq (.region [⟨(some 18), none, (.op (.mv (.t 0)))⟩,
    ⟨(some 19), none, (.op (.len .slice (.t 18)))⟩,
    ⟨(some 7), none, (.op (.mv (.t 19)))⟩])
   (.live [7, 1, 2, 0] (.seq (.draw c23d0 [0])
   (.live [0, 7] (.seq (.region [⟨(some 27), none, (.op (.mv (.t 0)))⟩,
    ⟨(some 28), none, (.op (.mv (.t 0)))⟩,
    ⟨(some 29), none, (.op (.len .slice (.t 28)))⟩,
    ⟨(some 30), none, (.op (.mv (.t 7)))⟩,
    ⟨(some 31), none, (.op (.slice 13 (.t 27) (some (.t 29)) (some (.t 30)) none))⟩,
    ⟨none, none, (.op (.clear [(.i .i64 0), (.i .u8 0), (.i .u8 0), (.i .u8 0), (.i .u8 0), (.i .i64 0), (.i .u64 0), (.i .u64 0), (.i .u64 0), (.i .u64 0), (.i .u64 0), (.i .u64 0), (.i .u64 0)] (.t 31)))⟩])
   (.live [0] (.seq (.region [⟨(some 32), none, (.op (.mv (.t 0)))⟩,
    ⟨(some 6), none, (.op (.mv (.t 32)))⟩])
   (.ret))))))))))))),
  []⟩


/- slices.SortStableFunc[[]floodgate/api.Policy,floodgate/api.Policy] -/

def c24 : IFunc := ⟨2, [],
  .region [⟨(some 4), none, (.op (.mv (.t 0)))⟩,
    ⟨(some 5), none, (.op (.mv (.t 0)))⟩,
    ⟨(some 6), none, (.op (.len .slice (.t 5)))⟩,
    ⟨(some 7), none, (.op (.mv (.t 1)))⟩,
    ⟨(some 8), none, (.call 34 [(.t 4), (.t 6), (.t 7)])⟩],
  []⟩


/- floodgate/diff.bySub -/

def c25 : IFunc := ⟨2, [.tmp 4],
  .seq (.region [⟨(some 2), none, (.op (.box (.t 0)))⟩,
    ⟨(some 3), none, (.op (.box (.t 1)))⟩,
    ⟨(some 4), none, (.op (.mv (.c (.i .i64 0))))⟩])
   (.live [3, 2] (.seq (.region [⟨(some 5), none, (.op (.faddr 0 (.t 2)))⟩,
    ⟨(some 6), none, (.op (.load none (.t 5)))⟩,
    ⟨(some 7), none, (.op (.faddr 0 (.t 3)))⟩,
    ⟨(some 8), none, (.op (.load none (.t 7)))⟩,
    ⟨(some 9), none, (.call 21 [(.t 6), (.t 8)])⟩,
    ⟨(some 4), none, (.op (.mv (.t 9)))⟩])
   (.ret))),
  []⟩


/- floodgate/floodgateref25.Rising -/
def c26l0 : ICode :=
  .seq (.region [⟨(some 9), none, (.op (.bin .int false .lss (.t 8) (.t 7)))⟩])
   (.live [6, 7, 8, 3, 9] (.seq (.cond (.t 9) (.skip)
   (.exit 0))
   (.live [6, 7, 8, 3] (.seq (.block 1 (.seq (.region [⟨(some 10), none, (.op (.iaddr none 13 (.t 6) (.t 8)))⟩,
    ⟨(some 11), none, (.op (.load (some 13) (.t 10)))⟩,
    ⟨(some 5), none, (.op (.fresh [(.i .i64 0), (.i .u8 0), (.i .u8 0), (.i .u8 0), (.i .u8 0), (.i .i64 0), (.i .u64 0), (.i .u64 0), (.i .u64 0), (.i .u64 0), (.i .u64 0), (.i .u64 0), (.i .u64 0)]))⟩,
    ⟨none, none, (.op (.store 13 (.t 5) (.t 11)))⟩])
   (.live [6, 7, 8, 5, 3] (.seq (.seq (.region [⟨(some 12), none, (.op (.faddr 0 (.t 5)))⟩,
    ⟨(some 13), none, (.op (.load none (.t 12)))⟩,
    ⟨(some 14), none, (.op (.mv (.t 3)))⟩,
    ⟨(some 15), none, (.op (.bin .int false .leq (.t 13) (.t 14)))⟩])
   (.live [6, 7, 8, 5, 15] (.cond (.t 15) (.seq (.region [⟨(some 2), none, (.op (.mv (.c (.b false))))⟩])
   (.ret))
   (.skip))))
   (.live [6, 7, 8, 5] (.region [⟨(some 16), none, (.op (.faddr 0 (.t 5)))⟩,
    ⟨(some 17), none, (.op (.load none (.t 16)))⟩,
    ⟨(some 3), none, (.op (.mv (.t 17)))⟩]))))))
   (.live [6, 7, 3, 8] (.region [⟨(some 18), none, (.op (.bin .int true .add (.t 8) (.c (.i .i64 1))))⟩,
    ⟨(some 8), none, (.op (.mv (.t 18)))⟩]))))))
def c26 : IFunc := ⟨1, [.tmp 2],
  .seq (.region [⟨(some 2), none, (.op (.mv (.c (.b false))))⟩])
   (.live [0] (.seq (.region [⟨(some 3), none, (.op (.mv (.c (.i .i64 0))))⟩])
   (.live [3, 0] (.seq (.seq (.region [⟨(some 6), none, (.op (.mv (.t 0)))⟩,
    ⟨(some 7), none, (.op (.len .slice (.t 6)))⟩,
    ⟨(some 8), none, (.op (.mv (.c (.i .i64 0))))⟩])
   (.live [6, 7, 8, 3] (.block 0 (.loop [6, 7, 8, 3] c26l0))))
   (.live [] (.seq (.region [⟨(some 2), none, (.op (.mv (.c (.b true))))⟩])
   (.ret))))))),
  []⟩


/- floodgate/diff.changes$1 -/
def c30d0 : List Stage :=
  [⟨[(⟨(some 27), none, (.op (.mv (.t 5)))⟩, 0), (⟨(some 28), none, (.op (.load none (.t 2)))⟩, 0), (⟨(some 29), none, (.op (.len .slice (.t 28)))⟩, 0), (⟨(some 30), none, (.op (.bin .int false .geq (.t 27) (.t 29)))⟩, 0), (⟨(some 31), none, (.op (.mv (.t 30)))⟩, 0), (⟨(some 32), some (31, false), (.op (.mv (.t 4)))⟩, 0), (⟨(some 33), some (31, false), (.op (.load none (.t 1)))⟩, 0), (⟨(some 34), some (31, false), (.op (.len .slice (.t 33)))⟩, 0), (⟨(some 35), some (31, false), (.op (.bin .int false .lss (.t 32) (.t 34)))⟩, 0), (⟨(some 36), some (31, false), (.op (.mv (.t 35)))⟩, 0), (⟨(some 37), some (36, true), (.op (.load none (.t 1)))⟩, 0), (⟨(some 38), some (36, true), (.op (.mv (.t 4)))⟩, 0), (⟨(some 39), some (36, true), (.op (.iaddr none 13 (.t 37) (.t 38)))⟩, 0), (⟨(some 40), some (36, true), (.op (.faddr 0 (.t 39)))⟩, 0), (⟨(some 41), some (36, true), (.op (.load none (.t 40)))⟩, 0), (⟨(some 42), some (36, true), (.op (.load none (.t 2)))⟩, 0), (⟨(some 43), some (36, true), (.op (.mv (.t 5)))⟩, 0), (⟨(some 44), some (36, true), (.op (.iaddr none 13 (.t 42) (.t 43)))⟩, 0), (⟨(some 45), some (36, true), (.op (.faddr 0 (.t 44)))⟩, 0), (⟨(some 46), some (36, true), (.op (.load none (.t 45)))⟩, 0), (⟨(some 47), some (36, true), (.op (.bin .int false .lss (.t 41) (.t 46)))⟩, 0), (⟨(some 48), some (31, false), (.op (.pick (.t 36) (.t 47) (.c (.b false))))⟩, 0), (⟨(some 49), none, (.op (.pick (.t 31) (.c (.b true)) (.t 48)))⟩, 0), (⟨(some 26), none, (.op (.mv (.t 49)))⟩, 0)], none, none⟩]
def c30d0w : List (ROp × Bool) :=
  [(⟨(some 27), none, (.op (.mv (.t 5)))⟩, false), (⟨(some 28), none, (.op (.load none (.t 2)))⟩, false), (⟨(some 29), none, (.op (.len .slice (.t 28)))⟩, false), (⟨(some 30), none, (.op (.bin .int false .geq (.t 27) (.t 29)))⟩, false), (⟨(some 31), none, (.op (.mv (.t 30)))⟩, false), (⟨(some 32), some (31, false), (.op (.mv (.t 4)))⟩, false), (⟨(some 33), some (31, false), (.op (.load none (.t 1)))⟩, false), (⟨(some 34), some (31, false), (.op (.len .slice (.t 33)))⟩, false), (⟨(some 35), some (31, false), (.op (.bin .int false .lss (.t 32) (.t 34)))⟩, false), (⟨(some 36), some (31, false), (.op (.mv (.t 35)))⟩, false), (⟨(some 37), some (36, true), (.op (.load none (.t 1)))⟩, false), (⟨(some 38), some (36, true), (.op (.mv (.t 4)))⟩, false), (⟨(some 39), some (36, true), (.op (.iaddr none 13 (.t 37) (.t 38)))⟩, false), (⟨(some 40), some (36, true), (.op (.faddr 0 (.t 39)))⟩, false), (⟨(some 41), some (36, true), (.op (.load none (.t 40)))⟩, false), (⟨(some 42), some (36, true), (.op (.load none (.t 2)))⟩, false), (⟨(some 43), some (36, true), (.op (.mv (.t 5)))⟩, false), (⟨(some 44), some (36, true), (.op (.iaddr none 13 (.t 42) (.t 43)))⟩, false), (⟨(some 45), some (36, true), (.op (.faddr 0 (.t 44)))⟩, false), (⟨(some 46), some (36, true), (.op (.load none (.t 45)))⟩, false), (⟨(some 47), some (36, true), (.op (.bin .int false .lss (.t 41) (.t 46)))⟩, false), (⟨(some 48), some (31, false), (.op (.pick (.t 36) (.t 47) (.c (.b false))))⟩, false), (⟨(some 49), none, (.op (.pick (.t 31) (.c (.b true)) (.t 48)))⟩, false), (⟨(some 26), none, (.op (.mv (.t 49)))⟩, false)]
theorem c30d0_w {P : Program} {O : Orc} {S0 : Mem} {rd : Bool} {e : Env} {S : Mem} {d : List Nat} {Q : Kont} : W P O S0 rd (.draw c30d0 []) e S d Q = wFl O c30d0w e S (normK Q d) := W_draw' (by kernel_rfl) (by kernel_rfl)
attribute [go_sem] c30d0_w c30d0w
def c30d1 : List Stage :=
  [⟨[(⟨(some 59), none, (.op (.mv (.t 4)))⟩, 0), (⟨(some 60), none, (.op (.load none (.t 1)))⟩, 0), (⟨(some 61), none, (.op (.len .slice (.t 60)))⟩, 0), (⟨(some 62), none, (.op (.bin .int false .geq (.t 59) (.t 61)))⟩, 0), (⟨(some 63), none, (.op (.mv (.t 62)))⟩, 0), (⟨(some 64), some (63, false), (.op (.load none (.t 2)))⟩, 0), (⟨(some 65), some (63, false), (.op (.mv (.t 5)))⟩, 0), (⟨(some 66), some (63, false), (.op (.iaddr none 13 (.t 64) (.t 65)))⟩, 0), (⟨(some 67), some (63, false), (.op (.faddr 0 (.t 66)))⟩, 0), (⟨(some 68), some (63, false), (.op (.load none (.t 67)))⟩, 0), (⟨(some 69), some (63, false), (.op (.load none (.t 1)))⟩, 0), (⟨(some 70), some (63, false), (.op (.mv (.t 4)))⟩, 0), (⟨(some 71), some (63, false), (.op (.iaddr none 13 (.t 69) (.t 70)))⟩, 0), (⟨(some 72), some (63, false), (.op (.faddr 0 (.t 71)))⟩, 0), (⟨(some 73), some (63, false), (.op (.load none (.t 72)))⟩, 0), (⟨(some 74), some (63, false), (.op (.bin .int false .lss (.t 68) (.t 73)))⟩, 0), (⟨(some 75), none, (.op (.pick (.t 63) (.c (.b true)) (.t 74)))⟩, 0), (⟨(some 58), none, (.op (.mv (.t 75)))⟩, 0)], none, none⟩]
def c30d1w : List (ROp × Bool) :=
  [(⟨(some 59), none, (.op (.mv (.t 4)))⟩, false), (⟨(some 60), none, (.op (.load none (.t 1)))⟩, false), (⟨(some 61), none, (.op (.len .slice (.t 60)))⟩, false), (⟨(some 62), none, (.op (.bin .int false .geq (.t 59) (.t 61)))⟩, false), (⟨(some 63), none, (.op (.mv (.t 62)))⟩, false), (⟨(some 64), some (63, false), (.op (.load none (.t 2)))⟩, false), (⟨(some 65), some (63, false), (.op (.mv (.t 5)))⟩, false), (⟨(some 66), some (63, false), (.op (.iaddr none 13 (.t 64) (.t 65)))⟩, false), (⟨(some 67), some (63, false), (.op (.faddr 0 (.t 66)))⟩, false), (⟨(some 68), some (63, false), (.op (.load none (.t 67)))⟩, false), (⟨(some 69), some (63, false), (.op (.load none (.t 1)))⟩, false), (⟨(some 70), some (63, false), (.op (.mv (.t 4)))⟩, false), (⟨(some 71), some (63, false), (.op (.iaddr none 13 (.t 69) (.t 70)))⟩, false), (⟨(some 72), some (63, false), (.op (.faddr 0 (.t 71)))⟩, false), (⟨(some 73), some (63, false), (.op (.load none (.t 72)))⟩, false), (⟨(some 74), some (63, false), (.op (.bin .int false .lss (.t 68) (.t 73)))⟩, false), (⟨(some 75), none, (.op (.pick (.t 63) (.c (.b true)) (.t 74)))⟩, false), (⟨(some 58), none, (.op (.mv (.t 75)))⟩, false)]
theorem c30d1_w {P : Program} {O : Orc} {S0 : Mem} {rd : Bool} {e : Env} {S : Mem} {d : List Nat} {Q : Kont} : W P O S0 rd (.draw c30d1 []) e S d Q = wFl O c30d1w e S (normK Q d) := W_draw' (by kernel_rfl) (by kernel_rfl)
attribute [go_sem] c30d1_w c30d1w
def c30d2 : List Stage :=
  [⟨[(⟨(some 84), none, (.op (.load none (.t 1)))⟩, 0), (⟨(some 85), none, (.op (.mv (.t 4)))⟩, 0), (⟨(some 86), none, (.op (.iaddr none 13 (.t 84) (.t 85)))⟩, 0), (⟨(some 87), none, (.op (.load (some 13) (.t 86)))⟩, 0), (⟨(some 88), none, (.op (.load none (.t 2)))⟩, 0), (⟨(some 89), none, (.op (.mv (.t 5)))⟩, 0), (⟨(some 90), none, (.op (.iaddr none 13 (.t 88) (.t 89)))⟩, 0), (⟨(some 91), none, (.op (.load (some 13) (.t 90)))⟩, 0), (⟨(some 92), none, (.op (.eqag false [.int, .int, .int, .int, .int, .int, .int, .int, .int, .int, .int, .int, .int] (.t 87) (.t 91)))⟩, 0), (⟨(some 83), none, (.op (.mv (.t 92)))⟩, 0)], none, none⟩]
def c30d2w : List (ROp × Bool) :=
  [(⟨(some 84), none, (.op (.load none (.t 1)))⟩, false), (⟨(some 85), none, (.op (.mv (.t 4)))⟩, false), (⟨(some 86), none, (.op (.iaddr none 13 (.t 84) (.t 85)))⟩, false), (⟨(some 87), none, (.op (.load (some 13) (.t 86)))⟩, false), (⟨(some 88), none, (.op (.load none (.t 2)))⟩, false), (⟨(some 89), none, (.op (.mv (.t 5)))⟩, false), (⟨(some 90), none, (.op (.iaddr none 13 (.t 88) (.t 89)))⟩, false), (⟨(some 91), none, (.op (.load (some 13) (.t 90)))⟩, false), (⟨(some 92), none, (.op (.eqag false [.int, .int, .int, .int, .int, .int, .int, .int, .int, .int, .int, .int, .int] (.t 87) (.t 91)))⟩, false), (⟨(some 83), none, (.op (.mv (.t 92)))⟩, false)]
theorem c30d2_w {P : Program} {O : Orc} {S0 : Mem} {rd : Bool} {e : Env} {S : Mem} {d : List Nat} {Q : Kont} : W P O S0 rd (.draw c30d2 []) e S d Q = wFl O c30d2w e S (normK Q d) := W_draw' (by kernel_rfl) (by kernel_rfl)
attribute [go_sem] c30d2_w c30d2w
def c30l3 : ICode :=
  .seq (.seq (.region [⟨(some 7), none, (.op (.mv (.t 4)))⟩,
    ⟨(some 8), none, (.op (.load none (.t 1)))⟩,
    ⟨(some 9), none, (.op (.len .slice (.t 8)))⟩,
    ⟨(some 10), none, (.op (.bin .int false .lss (.t 7) (.t 9)))⟩,
    ⟨(some 11), none, (.op (.mv (.t 10)))⟩,
    ⟨(some 12), some (11, false), (.op (.mv (.t 5)))⟩,
    ⟨(some 13), some (11, false), (.op (.load none (.t 2)))⟩,
    ⟨(some 14), some (11, false), (.op (.len .slice (.t 13)))⟩,
    ⟨(some 15), some (11, false), (.op (.bin .int false .lss (.t 12) (.t 14)))⟩,
    ⟨(some 16), none, (.op (.pick (.t 11) (.c (.b true)) (.t 15)))⟩])
   (.live [0, 1, 5, 2, 4, 16] (.cond (.t 16) (.skip)
   (.exit 0))))
   (.live [0, 1, 5, 2, 4] (.block 1 (.seq (.region [⟨(some 6), none, (.op (.fresh [(.i .i64 0), (.i .i64 0), (.i .i64 0), (.i .u64 0), .sn, (.i .i64 0), (.i .u8 0), (.i .u8 0), (.i .u8 0), (.i .u8 0), (.i .i64 0), (.i .u64 0), (.i .u64 0), (.i .u64 0), (.i .u64 0), (.i .u64 0), (.i .u64 0), (.i .u64 0), .sn]))⟩])
   (.live [0, 1, 5, 2, 6, 4] (.seq (.block 2 (.seq (.draw c30d0 [])
   (.live [0, 1, 5, 2, 6, 4, 26] (.cond (.t 26) (.seq (.region [⟨(some 50), none, (.op (.load none (.t 1)))⟩,
    ⟨(some 51), none, (.op (.mv (.t 4)))⟩,
    ⟨(some 52), none, (.op (.iaddr none 13 (.t 50) (.t 51)))⟩,
    ⟨(some 53), none, (.op (.faddr 0 (.t 52)))⟩,
    ⟨(some 54), none, (.op (.load none (.t 53)))⟩,
    ⟨(some 55), none, (.op (.build [(.i .i64 0), (.i .i64 0), (.i .i64 0), (.i .u64 0), .sn, (.i .i64 0), (.i .u8 0), (.i .u8 0), (.i .u8 0), (.i .u8 0), (.i .i64 0), (.i .u64 0), (.i .u64 0), (.i .u64 0), (.i .u64 0), (.i .u64 0), (.i .u64 0), (.i .u64 0), .sn] [(0, 1, (.c (.i .i64 5))), (1, 1, (.t 54))]))⟩,
    ⟨none, none, (.op (.store 19 (.t 6) (.t 55)))⟩])
   (.live [0, 1, 5, 2, 6, 4] (.region [⟨(some 56), none, (.op (.mv (.t 4)))⟩,
    ⟨(some 57), none, (.op (.bin .int true .add (.t 56) (.c (.i .i64 1))))⟩,
    ⟨(some 4), none, (.op (.mv (.t 57)))⟩])))
   (.seq (.draw c30d1 [])
   (.live [0, 1, 2, 4, 6, 5, 58] (.cond (.t 58) (.seq (.region [⟨(some 76), none, (.op (.load none (.t 2)))⟩,
    ⟨(some 77), none, (.op (.mv (.t 5)))⟩,
    ⟨(some 78), none, (.op (.iaddr none 13 (.t 76) (.t 77)))⟩,
    ⟨(some 79), none, (.op (.load (some 13) (.t 78)))⟩,
    ⟨(some 80), none, (.op (.build [(.i .i64 0), (.i .i64 0), (.i .i64 0), (.i .u64 0), .sn, (.i .i64 0), (.i .u8 0), (.i .u8 0), (.i .u8 0), (.i .u8 0), (.i .i64 0), (.i .u64 0), (.i .u64 0), (.i .u64 0), (.i .u64 0), (.i .u64 0), (.i .u64 0), (.i .u64 0), .sn] [(0, 1, (.c (.i .i64 4))), (5, 13, (.t 79))]))⟩,
    ⟨none, none, (.op (.store 19 (.t 6) (.t 80)))⟩])
   (.live [0, 1, 2, 4, 6, 5] (.region [⟨(some 81), none, (.op (.mv (.t 5)))⟩,
    ⟨(some 82), none, (.op (.bin .int true .add (.t 81) (.c (.i .i64 1))))⟩,
    ⟨(some 5), none, (.op (.mv (.t 82)))⟩])))
   (.seq (.draw c30d2 [])
   (.live [0, 1, 2, 5, 4, 6, 83] (.cond (.t 83) (.seq (.region [⟨(some 93), none, (.op (.mv (.t 4)))⟩,
    ⟨(some 94), none, (.op (.bin .int true .add (.t 93) (.c (.i .i64 1))))⟩,
    ⟨(some 95), none, (.op (.mv (.t 5)))⟩,
    ⟨(some 96), none, (.op (.bin .int true .add (.t 95) (.c (.i .i64 1))))⟩,
    ⟨(some 4), none, (.op (.mv (.t 94)))⟩,
    ⟨(some 5), none, (.op (.mv (.t 96)))⟩])
   (.exit 1))
   (.seq (.region [⟨(some 17), none, (.op (.load none (.t 2)))⟩,
    ⟨(some 18), none, (.op (.mv (.t 5)))⟩,
    ⟨(some 19), none, (.op (.iaddr none 13 (.t 17) (.t 18)))⟩,
    ⟨(some 20), none, (.op (.load (some 13) (.t 19)))⟩,
    ⟨(some 21), none, (.op (.build [(.i .i64 0), (.i .i64 0), (.i .i64 0), (.i .u64 0), .sn, (.i .i64 0), (.i .u8 0), (.i .u8 0), (.i .u8 0), (.i .u8 0), (.i .i64 0), (.i .u64 0), (.i .u64 0), (.i .u64 0), (.i .u64 0), (.i .u64 0), (.i .u64 0), (.i .u64 0), .sn] [(0, 1, (.c (.i .i64 4))), (5, 13, (.t 20))]))⟩,
    ⟨none, none, (.op (.store 19 (.t 6) (.t 21)))⟩])
   (.live [0, 1, 2, 6, 5, 4] (.region [⟨(some 22), none, (.op (.mv (.t 4)))⟩,
    ⟨(some 23), none, (.op (.bin .int true .add (.t 22) (.c (.i .i64 1))))⟩,
    ⟨(some 24), none, (.op (.mv (.t 5)))⟩,
    ⟨(some 25), none, (.op (.bin .int true .add (.t 24) (.c (.i .i64 1))))⟩,
    ⟨(some 4), none, (.op (.mv (.t 23)))⟩,
    ⟨(some 5), none, (.op (.mv (.t 25)))⟩])))))))))))))
   (.live [0, 1, 5, 2, 4, 6] (.seq (.region [⟨(some 97), none, (.op (.mv (.t 0)))⟩,
    ⟨(some 98), none, (.op (.load (some 19) (.t 6)))⟩,
    ⟨(some 99), none, (.callv (.t 97) [(.t 98)])⟩,
    ⟨(some 100), none, (.op (.un .not (.t 99)))⟩])
   (.live [0, 1, 5, 2, 4, 100] (.cond (.t 100) (.ret)
   (.skip))))))))))
def c30 : IFunc := ⟨3, [],
  .seq (.region [⟨(some 4), none, (.op (.mv (.c (.i .i64 0))))⟩,
    ⟨(some 5), none, (.op (.mv (.c (.i .i64 0))))⟩])
   (.live [0, 1, 5, 2, 4] (.block 0 (.loop [0, 1, 5, 2, 4] c30l3))),
  []⟩


/- cmp.isNaN[int] -/

def c31 : IFunc := ⟨1, [.tmp 2],
  .seq (.region [⟨(some 2), none, (.op (.mv (.c (.b false))))⟩])
   (.live [0] (.seq (.region [⟨(some 3), none, (.op (.mv (.t 0)))⟩,
    ⟨(some 4), none, (.op (.mv (.t 0)))⟩,
    ⟨(some 5), none, (.op (.bin .int false .neq (.t 3) (.t 4)))⟩,
    ⟨(some 2), none, (.op (.mv (.t 5)))⟩])
   (.ret))),
  []⟩


/- slices.rotateRight[floodgate/api.Policy] -/

def c33 : IFunc := ⟨2, [],
  .region [⟨(some 4), none, (.op (.mv (.t 0)))⟩,
    ⟨(some 5), none, (.op (.mv (.t 0)))⟩,
    ⟨(some 6), none, (.op (.len .slice (.t 5)))⟩,
    ⟨(some 7), none, (.op (.mv (.t 1)))⟩,
    ⟨(some 8), none, (.op (.bin .int false .sub (.t 6) (.t 7)))⟩,
    ⟨(some 9), none, (.call 35 [(.t 4), (.t 8)])⟩],
  []⟩


/- slices.stableCmpFunc[floodgate/api.Policy] -/
def c34l0 : ICode :=
  .seq (.seq (.region [⟨(some 11), none, (.op (.mv (.t 8)))⟩,
    ⟨(some 12), none, (.op (.mv (.t 1)))⟩,
    ⟨(some 13), none, (.op (.bin .int false .leq (.t 11) (.t 12)))⟩])
   (.live [6, 2, 0, 1, 8, 7, 13] (.cond (.t 13) (.skip)
   (.exit 0))))
   (.live [6, 2, 0, 1, 8, 7] (.block 1 (.seq (.region [⟨(some 14), none, (.op (.mv (.t 0)))⟩,
    ⟨(some 15), none, (.op (.mv (.t 7)))⟩,
    ⟨(some 16), none, (.op (.mv (.t 8)))⟩,
    ⟨(some 17), none, (.op (.mv (.t 2)))⟩,
    ⟨(some 18), none, (.call 36 [(.t 14), (.t 15), (.t 16), (.t 17)])⟩])
   (.live [6, 2, 0, 1, 8] (.seq (.region [⟨(some 19), none, (.op (.mv (.t 8)))⟩,
    ⟨(some 7), none, (.op (.mv (.t 19)))⟩])
   (.live [6, 2, 0, 1, 7, 8] (.region [⟨(some 20), none, (.op (.mv (.t 8)))⟩,
    ⟨(some 21), none, (.op (.mv (.t 6)))⟩,
    ⟨(some 22), none, (.op (.bin .int false .add (.t 20) (.t 21)))⟩,
    ⟨(some 8), none, (.op (.mv (.t 22)))⟩])))))))
def c34l1 : ICode :=
  .seq (.seq (.region [⟨(some 33), none, (.op (.mv (.t 8)))⟩,
    ⟨(some 34), none, (.op (.mv (.t 1)))⟩,
    ⟨(some 35), none, (.op (.bin .int false .leq (.t 33) (.t 34)))⟩])
   (.live [6, 2, 0, 1, 8, 7, 35] (.cond (.t 35) (.skip)
   (.exit 4))))
   (.live [6, 2, 0, 1, 8, 7] (.block 5 (.seq (.region [⟨(some 36), none, (.op (.mv (.t 0)))⟩,
    ⟨(some 37), none, (.op (.mv (.t 7)))⟩,
    ⟨(some 38), none, (.op (.mv (.t 7)))⟩,
    ⟨(some 39), none, (.op (.mv (.t 6)))⟩,
    ⟨(some 40), none, (.op (.bin .int false .add (.t 38) (.t 39)))⟩,
    ⟨(some 41), none, (.op (.mv (.t 8)))⟩,
    ⟨(some 42), none, (.op (.mv (.t 2)))⟩,
    ⟨(some 43), none, (.call 37 [(.t 36), (.t 37), (.t 40), (.t 41), (.t 42)])⟩])
   (.live [6, 2, 0, 1, 8] (.seq (.region [⟨(some 44), none, (.op (.mv (.t 8)))⟩,
    ⟨(some 7), none, (.op (.mv (.t 44)))⟩])
   (.live [6, 2, 0, 1, 7, 8] (.region [⟨(some 45), none, (.op (.mv (.t 8)))⟩,
    ⟨(some 46), none, (.op (.mv (.t 6)))⟩,
    ⟨(some 47), none, (.op (.bin .int true .mul (.c (.i .i64 2)) (.t 46)))⟩,
    ⟨(some 48), none, (.op (.bin .int false .add (.t 45) (.t 47)))⟩,
    ⟨(some 8), none, (.op (.mv (.t 48)))⟩])))))))
def c34l2 : ICode :=
  .seq (.seq (.region [⟨(some 28), none, (.op (.mv (.t 6)))⟩,
    ⟨(some 29), none, (.op (.mv (.t 1)))⟩,
    ⟨(some 30), none, (.op (.bin .int false .lss (.t 28) (.t 29)))⟩])
   (.live [6, 2, 0, 1, 30] (.cond (.t 30) (.skip)
   (.exit 2))))
   (.live [6, 2, 0, 1] (.block 3 (.seq (.region [⟨(some 31), none, (.op (.mv (.t 6)))⟩,
    ⟨(some 32), none, (.op (.bin .int true .mul (.c (.i .i64 2)) (.t 31)))⟩,
    ⟨(some 7), none, (.op (.mv (.c (.i .i64 0))))⟩,
    ⟨(some 8), none, (.op (.mv (.t 32)))⟩])
   (.live [6, 2, 0, 1, 8, 7] (.seq (.block 4 (.loop [6, 2, 0, 1, 8, 7] c34l1))
   (.live [2, 0, 1, 6, 7] (.seq (.seq (.region [⟨(some 49), none, (.op (.mv (.t 7)))⟩,
    ⟨(some 50), none, (.op (.mv (.t 6)))⟩,
    ⟨(some 51), none, (.op (.bin .int false .add (.t 49) (.t 50)))⟩,
    ⟨(some 9), none, (.op (.mv (.t 51)))⟩])
   (.live [2, 0, 1, 6, 9, 7] (.seq (.region [⟨(some 52), none, (.op (.mv (.t 9)))⟩,
    ⟨(some 53), none, (.op (.mv (.t 1)))⟩,
    ⟨(some 54), none, (.op (.bin .int false .lss (.t 52) (.t 53)))⟩])
   (.live [2, 0, 1, 6, 9, 7, 54] (.cond (.t 54) (.region [⟨(some 55), none, (.op (.mv (.t 0)))⟩,
    ⟨(some 56), none, (.op (.mv (.t 7)))⟩,
    ⟨(some 57), none, (.op (.mv (.t 9)))⟩,
    ⟨(some 58), none, (.op (.mv (.t 1)))⟩,
    ⟨(some 59), none, (.op (.mv (.t 2)))⟩,
    ⟨(some 60), none, (.call 37 [(.t 55), (.t 56), (.t 57), (.t 58), (.t 59)])⟩])
   (.skip))))))
   (.live [2, 0, 1, 6] (.region [⟨(some 61), none, (.op (.mv (.t 6)))⟩,
    ⟨(some 62), none, (.op (.bin .int true .mul (.t 61) (.c (.i .i64 2))))⟩,
    ⟨(some 6), none, (.op (.mv (.t 62)))⟩])))))))))
def c34 : IFunc := ⟨3, [],
  .seq (.region [⟨(some 6), none, (.op (.mv (.c (.i .i64 20))))⟩])
   (.live [6, 2, 0, 1] (.seq (.region [⟨(some 10), none, (.op (.mv (.t 6)))⟩,
    ⟨(some 7), none, (.op (.mv (.c (.i .i64 0))))⟩,
    ⟨(some 8), none, (.op (.mv (.t 10)))⟩])
   (.live [6, 2, 0, 1, 8, 7] (.seq (.block 0 (.loop [6, 2, 0, 1, 8, 7] c34l0))
   (.live [6, 2, 0, 1, 7] (.seq (.region [⟨(some 23), none, (.op (.mv (.t 0)))⟩,
    ⟨(some 24), none, (.op (.mv (.t 7)))⟩,
    ⟨(some 25), none, (.op (.mv (.t 1)))⟩,
    ⟨(some 26), none, (.op (.mv (.t 2)))⟩,
    ⟨(some 27), none, (.call 36 [(.t 23), (.t 24), (.t 25), (.t 26)])⟩])
   (.live [6, 2, 0, 1] (.block 2 (.loop [6, 2, 0, 1] c34l2))))))))),
  []⟩


/- slices.rotateLeft[floodgate/api.Policy] -/

def c35 : IFunc := ⟨2, [],
  .seq (.region [⟨(some 4), none, (.op (.mv (.t 0)))⟩,
    ⟨(some 5), none, (.op (.mv (.t 1)))⟩,
    ⟨(some 6), none, (.op (.slice 13 (.t 4) none (some (.t 5)) none))⟩,
    ⟨(some 7), none, (.call 38 [(.t 6)])⟩])
   (.live [0, 1] (.seq (.region [⟨(some 8), none, (.op (.mv (.t 0)))⟩,
    ⟨(some 9), none, (.op (.mv (.t 1)))⟩,
    ⟨(some 10), none, (.op (.slice 13 (.t 8) (some (.t 9)) none none))⟩,
    ⟨(some 11), none, (.call 38 [(.t 10)])⟩])
   (.live [0] (.region [⟨(some 12), none, (.op (.mv (.t 0)))⟩,
    ⟨(some 13), none, (.call 38 [(.t 12)])⟩])))),
  []⟩


/- slices.insertionSortCmpFunc[floodgate/api.Policy] -/
def c36d0 : List Stage :=
  [⟨[(⟨(some 18), none, (.op (.mv (.t 9)))⟩, 0), (⟨(some 19), none, (.op (.mv (.t 1)))⟩, 0), (⟨(some 20), none, (.op (.bin .int false .gtr (.t 18) (.t 19)))⟩, 0), (⟨(some 21), none, (.op (.mv (.t 20)))⟩, 0), (⟨(some 22), some (21, true), (.op (.mv (.t 3)))⟩, 0), (⟨(some 23), some (21, true), (.op (.mv (.t 0)))⟩, 0), (⟨(some 24), some (21, true), (.op (.mv (.t 9)))⟩, 0), (⟨(some 25), some (21, true), (.op (.iaddr none 13 (.t 23) (.t 24)))⟩, 0), (⟨(some 26), some (21, true), (.op (.load (some 13) (.t 25)))⟩, 0), (⟨(some 27), some (21, true), (.op (.mv (.t 0)))⟩, 0), (⟨(some 28), some (21, true), (.op (.mv (.t 9)))⟩, 0), (⟨(some 29), some (21, true), (.op (.bin .int true .sub (.t 28) (.c (.i .i64 1))))⟩, 0), (⟨(some 30), some (21, true), (.op (.iaddr none 13 (.t 27) (.t 29)))⟩, 0), (⟨(some 31), some (21, true), (.op (.load (some 13) (.t 30)))⟩, 0)], none, some ⟨(some 32), some (21, true), (.callv (.t 22) [(.t 26), (.t 31)])⟩⟩,
    ⟨[(⟨(some 33), some (21, true), (.op (.bin .int true .lss (.t 32) (.c (.i .i64 0))))⟩, 1), (⟨(some 34), none, (.op (.pick (.t 21) (.t 33) (.c (.b false))))⟩, 1)], none, none⟩]
def c36d0w : List (ROp × Bool) :=
  [(⟨(some 18), none, (.op (.mv (.t 9)))⟩, false), (⟨(some 19), none, (.op (.mv (.t 1)))⟩, false), (⟨(some 20), none, (.op (.bin .int false .gtr (.t 18) (.t 19)))⟩, false), (⟨(some 21), none, (.op (.mv (.t 20)))⟩, false), (⟨(some 22), some (21, true), (.op (.mv (.t 3)))⟩, false), (⟨(some 23), some (21, true), (.op (.mv (.t 0)))⟩, false), (⟨(some 24), some (21, true), (.op (.mv (.t 9)))⟩, false), (⟨(some 25), some (21, true), (.op (.iaddr none 13 (.t 23) (.t 24)))⟩, false), (⟨(some 26), some (21, true), (.op (.load (some 13) (.t 25)))⟩, false), (⟨(some 27), some (21, true), (.op (.mv (.t 0)))⟩, false), (⟨(some 28), some (21, true), (.op (.mv (.t 9)))⟩, false), (⟨(some 29), some (21, true), (.op (.bin .int true .sub (.t 28) (.c (.i .i64 1))))⟩, false), (⟨(some 30), some (21, true), (.op (.iaddr none 13 (.t 27) (.t 29)))⟩, false), (⟨(some 31), some (21, true), (.op (.load (some 13) (.t 30)))⟩, false), (⟨(some 32), some (21, true), (.callv (.t 22) [(.t 26), (.t 31)])⟩, false), (⟨(some 33), some (21, true), (.op (.bin .int true .lss (.t 32) (.c (.i .i64 0))))⟩, false), (⟨(some 34), none, (.op (.pick (.t 21) (.t 33) (.c (.b false))))⟩, false)]
theorem c36d0_w {P : Program} {O : Orc} {S0 : Mem} {rd : Bool} {e : Env} {S : Mem} {d : List Nat} {Q : Kont} : W P O S0 rd (.draw c36d0 []) e S d Q = wFl O c36d0w e S (normK Q d) := W_draw' (by kernel_rfl) (by kernel_rfl)
attribute [go_sem] c36d0_w c36d0w
def c36d1 : List Stage :=
  [⟨[(⟨(some 37), none, (.op (.mv (.t 0)))⟩, 0), (⟨(some 38), none, (.op (.mv (.t 9)))⟩, 0), (⟨(some 39), none, (.op (.mv (.t 0)))⟩, 1), (⟨(some 40), none, (.op (.mv (.t 9)))⟩, 1), (⟨(some 41), none, (.op (.bin .int true .sub (.t 40) (.c (.i .i64 1))))⟩, 1), (⟨(some 42), none, (.op (.mv (.t 0)))⟩, 0), (⟨(some 43), none, (.op (.mv (.t 9)))⟩, 0), (⟨(some 44), none, (.op (.bin .int true .sub (.t 43) (.c (.i .i64 1))))⟩, 0), (⟨(some 45), none, (.op (.iaddr none 13 (.t 42) (.t 44)))⟩, 0), (⟨(some 46), none, (.op (.load (some 13) (.t 45)))⟩, 0), (⟨(some 47), none, (.op (.mv (.t 0)))⟩, 0), (⟨(some 48), none, (.op (.mv (.t 9)))⟩, 0), (⟨(some 49), none, (.op (.iaddr none 13 (.t 47) (.t 48)))⟩, 0), (⟨(some 50), none, (.op (.load (some 13) (.t 49)))⟩, 0), (⟨(some 51), none, (.op (.iaddr none 13 (.t 37) (.t 38)))⟩, 0)], none, some ⟨none, none, (.op (.store 13 (.t 51) (.t 46)))⟩⟩,
    ⟨[(⟨(some 52), none, (.op (.iaddr none 13 (.t 39) (.t 41)))⟩, 1)], none, some ⟨none, none, (.op (.store 13 (.t 52) (.t 50)))⟩⟩,
    ⟨[], none, none⟩]
def c36d1w : List (ROp × Bool) :=
  [(⟨(some 37), none, (.op (.mv (.t 0)))⟩, false), (⟨(some 38), none, (.op (.mv (.t 9)))⟩, false), (⟨(some 39), none, (.op (.mv (.t 0)))⟩, false), (⟨(some 40), none, (.op (.mv (.t 9)))⟩, false), (⟨(some 41), none, (.op (.bin .int true .sub (.t 40) (.c (.i .i64 1))))⟩, false), (⟨(some 42), none, (.op (.mv (.t 0)))⟩, false), (⟨(some 43), none, (.op (.mv (.t 9)))⟩, false), (⟨(some 44), none, (.op (.bin .int true .sub (.t 43) (.c (.i .i64 1))))⟩, false), (⟨(some 45), none, (.op (.iaddr none 13 (.t 42) (.t 44)))⟩, false), (⟨(some 46), none, (.op (.load (some 13) (.t 45)))⟩, false), (⟨(some 47), none, (.op (.mv (.t 0)))⟩, false), (⟨(some 48), none, (.op (.mv (.t 9)))⟩, false), (⟨(some 49), none, (.op (.iaddr none 13 (.t 47) (.t 48)))⟩, false), (⟨(some 50), none, (.op (.load (some 13) (.t 49)))⟩, false), (⟨(some 51), none, (.op (.iaddr none 13 (.t 37) (.t 38)))⟩, false), (⟨none, none, (.op (.store 13 (.t 51) (.t 46)))⟩, false), (⟨(some 52), none, (.op (.iaddr none 13 (.t 39) (.t 41)))⟩, false), (⟨none, none, (.op (.store 13 (.t 52) (.t 50)))⟩, false)]
theorem c36d1_w {P : Program} {O : Orc} {S0 : Mem} {rd : Bool} {e : Env} {S : Mem} {d : List Nat} {Q : Kont} : W P O S0 rd (.draw c36d1 []) e S d Q = wFl O c36d1w e S (normK Q d) := W_draw' (by kernel_rfl) (by kernel_rfl)
attribute [go_sem] c36d1_w c36d1w
def c36l2 : ICode :=
  .seq (.seq (.draw c36d0 [])
   (.live [0, 1, 3, 2, 8, 9, 34] (.cond (.t 34) (.skip)
   (.exit 2))))
   (.live [0, 1, 3, 2, 8, 9] (.seq (.block 3 (.draw c36d1 []))
   (.live [0, 1, 3, 2, 8, 9] (.region [⟨(some 35), none, (.op (.mv (.t 9)))⟩,
    ⟨(some 36), none, (.op (.bin .int true .sub (.t 35) (.c (.i .i64 1))))⟩,
    ⟨(some 9), none, (.op (.mv (.t 36)))⟩]))))
def c36l3 : ICode :=
  .seq (.seq (.region [⟨(some 12), none, (.op (.mv (.t 8)))⟩,
    ⟨(some 13), none, (.op (.mv (.t 2)))⟩,
    ⟨(some 14), none, (.op (.bin .int false .lss (.t 12) (.t 13)))⟩])
   (.live [0, 1, 3, 2, 8, 14] (.cond (.t 14) (.skip)
   (.exit 0))))
   (.live [0, 1, 3, 2, 8] (.seq (.block 1 (.seq (.region [⟨(some 17), none, (.op (.mv (.t 8)))⟩,
    ⟨(some 9), none, (.op (.mv (.t 17)))⟩])
   (.live [0, 1, 3, 2, 8, 9] (.block 2 (.loop [0, 1, 3, 2, 8, 9] c36l2)))))
   (.live [0, 1, 3, 2, 8] (.region [⟨(some 15), none, (.op (.mv (.t 8)))⟩,
    ⟨(some 16), none, (.op (.bin .int true .add (.t 15) (.c (.i .i64 1))))⟩,
    ⟨(some 8), none, (.op (.mv (.t 16)))⟩]))))
def c36 : IFunc := ⟨4, [],
  .seq (.region [⟨(some 10), none, (.op (.mv (.t 1)))⟩,
    ⟨(some 11), none, (.op (.bin .int true .add (.t 10) (.c (.i .i64 1))))⟩,
    ⟨(some 8), none, (.op (.mv (.t 11)))⟩])
   (.live [0, 1, 3, 2, 8] (.block 0 (.loop [0, 1, 3, 2, 8] c36l3))),
  []⟩


/- slices.symMergeCmpFunc[floodgate/api.Policy] -/
def c37d0 : List Stage :=
  [⟨[(⟨(some 40), none, (.op (.mv (.t 4)))⟩, 0), (⟨(some 41), none, (.op (.mv (.t 0)))⟩, 0), (⟨(some 42), none, (.op (.mv (.t 12)))⟩, 0), (⟨(some 43), none, (.op (.iaddr none 13 (.t 41) (.t 42)))⟩, 0), (⟨(some 44), none, (.op (.load (some 13) (.t 43)))⟩, 0), (⟨(some 45), none, (.op (.mv (.t 0)))⟩, 0), (⟨(some 46), none, (.op (.mv (.t 1)))⟩, 0), (⟨(some 47), none, (.op (.iaddr none 13 (.t 45) (.t 46)))⟩, 0), (⟨(some 48), none, (.op (.load (some 13) (.t 47)))⟩, 0)], none, some ⟨(some 49), none, (.callv (.t 40) [(.t 44), (.t 48)])⟩⟩,
    ⟨[(⟨(some 50), none, (.op (.bin .int true .lss (.t 49) (.c (.i .i64 0))))⟩, 1)], none, none⟩]
def c37d0w : List (ROp × Bool) :=
  [(⟨(some 40), none, (.op (.mv (.t 4)))⟩, false), (⟨(some 41), none, (.op (.mv (.t 0)))⟩, false), (⟨(some 42), none, (.op (.mv (.t 12)))⟩, false), (⟨(some 43), none, (.op (.iaddr none 13 (.t 41) (.t 42)))⟩, false), (⟨(some 44), none, (.op (.load (some 13) (.t 43)))⟩, false), (⟨(some 45), none, (.op (.mv (.t 0)))⟩, false), (⟨(some 46), none, (.op (.mv (.t 1)))⟩, false), (⟨(some 47), none, (.op (.iaddr none 13 (.t 45) (.t 46)))⟩, false), (⟨(some 48), none, (.op (.load (some 13) (.t 47)))⟩, false), (⟨(some 49), none, (.callv (.t 40) [(.t 44), (.t 48)])⟩, false), (⟨(some 50), none, (.op (.bin .int true .lss (.t 49) (.c (.i .i64 0))))⟩, false)]
theorem c37d0_w {P : Program} {O : Orc} {S0 : Mem} {rd : Bool} {e : Env} {S : Mem} {d : List Nat} {Q : Kont} : W P O S0 rd (.draw c37d0 []) e S d Q = wFl O c37d0w e S (normK Q d) := W_draw' (by kernel_rfl) (by kernel_rfl)
attribute [go_sem] c37d0_w c37d0w
def c37l1 : ICode :=
  .seq (.seq (.region [⟨(some 31), none, (.op (.mv (.t 10)))⟩,
    ⟨(some 32), none, (.op (.mv (.t 11)))⟩,
    ⟨(some 33), none, (.op (.bin .int false .lss (.t 31) (.t 32)))⟩])
   (.live [4, 0, 1, 11, 10, 33] (.cond (.t 33) (.skip)
   (.exit 0))))
   (.live [4, 0, 1, 11, 10] (.block 1 (.seq (.region [⟨(some 34), none, (.op (.mv (.t 10)))⟩,
    ⟨(some 35), none, (.op (.mv (.t 11)))⟩,
    ⟨(some 36), none, (.op (.bin .int false .add (.t 34) (.t 35)))⟩,
    ⟨(some 37), none, (.op (.toInt .u64 (.t 36)))⟩,
    ⟨(some 38), none, (.op (.bin .int true .shr (.t 37) (.c (.i .u64 1))))⟩,
    ⟨(some 39), none, (.op (.toInt .i64 (.t 38)))⟩,
    ⟨(some 12), none, (.op (.mv (.t 39)))⟩])
   (.live [4, 0, 1, 11, 12, 10] (.seq (.draw c37d0 [])
   (.live [4, 0, 1, 11, 12, 10, 50] (.cond (.t 50) (.region [⟨(some 51), none, (.op (.mv (.t 12)))⟩,
    ⟨(some 52), none, (.op (.bin .int true .add (.t 51) (.c (.i .i64 1))))⟩,
    ⟨(some 10), none, (.op (.mv (.t 52)))⟩])
   (.region [⟨(some 53), none, (.op (.mv (.t 12)))⟩,
    ⟨(some 11), none, (.op (.mv (.t 53)))⟩]))))))))
def c37d2 : List Stage :=
  [⟨[(⟨(some 61), none, (.op (.mv (.t 0)))⟩, 0), (⟨(some 62), none, (.op (.mv (.t 13)))⟩, 0), (⟨(some 63), none, (.op (.mv (.t 0)))⟩, 1), (⟨(some 64), none, (.op (.mv (.t 13)))⟩, 1), (⟨(some 65), none, (.op (.bin .int true .add (.t 64) (.c (.i .i64 1))))⟩, 1), (⟨(some 66), none, (.op (.mv (.t 0)))⟩, 0), (⟨(some 67), none, (.op (.mv (.t 13)))⟩, 0), (⟨(some 68), none, (.op (.bin .int true .add (.t 67) (.c (.i .i64 1))))⟩, 0), (⟨(some 69), none, (.op (.iaddr none 13 (.t 66) (.t 68)))⟩, 0), (⟨(some 70), none, (.op (.load (some 13) (.t 69)))⟩, 0), (⟨(some 71), none, (.op (.mv (.t 0)))⟩, 0), (⟨(some 72), none, (.op (.mv (.t 13)))⟩, 0), (⟨(some 73), none, (.op (.iaddr none 13 (.t 71) (.t 72)))⟩, 0), (⟨(some 74), none, (.op (.load (some 13) (.t 73)))⟩, 0), (⟨(some 75), none, (.op (.iaddr none 13 (.t 61) (.t 62)))⟩, 0)], none, some ⟨none, none, (.op (.store 13 (.t 75) (.t 70)))⟩⟩,
    ⟨[(⟨(some 76), none, (.op (.iaddr none 13 (.t 63) (.t 65)))⟩, 1)], none, some ⟨none, none, (.op (.store 13 (.t 76) (.t 74)))⟩⟩,
    ⟨[], none, none⟩]
def c37d2w : List (ROp × Bool) :=
  [(⟨(some 61), none, (.op (.mv (.t 0)))⟩, false), (⟨(some 62), none, (.op (.mv (.t 13)))⟩, false), (⟨(some 63), none, (.op (.mv (.t 0)))⟩, false), (⟨(some 64), none, (.op (.mv (.t 13)))⟩, false), (⟨(some 65), none, (.op (.bin .int true .add (.t 64) (.c (.i .i64 1))))⟩, false), (⟨(some 66), none, (.op (.mv (.t 0)))⟩, false), (⟨(some 67), none, (.op (.mv (.t 13)))⟩, false), (⟨(some 68), none, (.op (.bin .int true .add (.t 67) (.c (.i .i64 1))))⟩, false), (⟨(some 69), none, (.op (.iaddr none 13 (.t 66) (.t 68)))⟩, false), (⟨(some 70), none, (.op (.load (some 13) (.t 69)))⟩, false), (⟨(some 71), none, (.op (.mv (.t 0)))⟩, false), (⟨(some 72), none, (.op (.mv (.t 13)))⟩, false), (⟨(some 73), none, (.op (.iaddr none 13 (.t 71) (.t 72)))⟩, false), (⟨(some 74), none, (.op (.load (some 13) (.t 73)))⟩, false), (⟨(some 75), none, (.op (.iaddr none 13 (.t 61) (.t 62)))⟩, false), (⟨none, none, (.op (.store 13 (.t 75) (.t 70)))⟩, false), (⟨(some 76), none, (.op (.iaddr none 13 (.t 63) (.t 65)))⟩, false), (⟨none, none, (.op (.store 13 (.t 76) (.t 74)))⟩, false)]
theorem c37d2_w {P : Program} {O : Orc} {S0 : Mem} {rd : Bool} {e : Env} {S : Mem} {d : List Nat} {Q : Kont} : W P O S0 rd (.draw c37d2 []) e S d Q = wFl O c37d2w e S (normK Q d) := W_draw' (by kernel_rfl) (by kernel_rfl)
attribute [go_sem] c37d2_w c37d2w
def c37l3 : ICode :=
  .seq (.seq (.region [⟨(some 55), none, (.op (.mv (.t 13)))⟩,
    ⟨(some 56), none, (.op (.mv (.t 10)))⟩,
    ⟨(some 57), none, (.op (.bin .int true .sub (.t 56) (.c (.i .i64 1))))⟩,
    ⟨(some 58), none, (.op (.bin .int false .lss (.t 55) (.t 57)))⟩])
   (.live [0, 10, 13, 58] (.cond (.t 58) (.skip)
   (.exit 2))))
   (.live [0, 10, 13] (.seq (.block 3 (.draw c37d2 []))
   (.live [0, 10, 13] (.region [⟨(some 59), none, (.op (.mv (.t 13)))⟩,
    ⟨(some 60), none, (.op (.bin .int true .add (.t 59) (.c (.i .i64 1))))⟩,
    ⟨(some 13), none, (.op (.mv (.t 60)))⟩]))))
def c37d4 : List Stage :=
  [⟨[(⟨(some 92), none, (.op (.mv (.t 4)))⟩, 0), (⟨(some 93), none, (.op (.mv (.t 0)))⟩, 0), (⟨(some 94), none, (.op (.mv (.t 2)))⟩, 0), (⟨(some 95), none, (.op (.iaddr none 13 (.t 93) (.t 94)))⟩, 0), (⟨(some 96), none, (.op (.load (some 13) (.t 95)))⟩, 0), (⟨(some 97), none, (.op (.mv (.t 0)))⟩, 0), (⟨(some 98), none, (.op (.mv (.t 16)))⟩, 0), (⟨(some 99), none, (.op (.iaddr none 13 (.t 97) (.t 98)))⟩, 0), (⟨(some 100), none, (.op (.load (some 13) (.t 99)))⟩, 0)], none, some ⟨(some 101), none, (.callv (.t 92) [(.t 96), (.t 100)])⟩⟩,
    ⟨[(⟨(some 102), none, (.op (.bin .int true .lss (.t 101) (.c (.i .i64 0))))⟩, 1), (⟨(some 103), none, (.op (.un .not (.t 102)))⟩, 1)], none, none⟩]
def c37d4w : List (ROp × Bool) :=
  [(⟨(some 92), none, (.op (.mv (.t 4)))⟩, false), (⟨(some 93), none, (.op (.mv (.t 0)))⟩, false), (⟨(some 94), none, (.op (.mv (.t 2)))⟩, false), (⟨(some 95), none, (.op (.iaddr none 13 (.t 93) (.t 94)))⟩, false), (⟨(some 96), none, (.op (.load (some 13) (.t 95)))⟩, false), (⟨(some 97), none, (.op (.mv (.t 0)))⟩, false), (⟨(some 98), none, (.op (.mv (.t 16)))⟩, false), (⟨(some 99), none, (.op (.iaddr none 13 (.t 97) (.t 98)))⟩, false), (⟨(some 100), none, (.op (.load (some 13) (.t 99)))⟩, false), (⟨(some 101), none, (.callv (.t 92) [(.t 96), (.t 100)])⟩, false), (⟨(some 102), none, (.op (.bin .int true .lss (.t 101) (.c (.i .i64 0))))⟩, false), (⟨(some 103), none, (.op (.un .not (.t 102)))⟩, false)]
theorem c37d4_w {P : Program} {O : Orc} {S0 : Mem} {rd : Bool} {e : Env} {S : Mem} {d : List Nat} {Q : Kont} : W P O S0 rd (.draw c37d4 []) e S d Q = wFl O c37d4w e S (normK Q d) := W_draw' (by kernel_rfl) (by kernel_rfl)
attribute [go_sem] c37d4_w c37d4w
def c37l5 : ICode :=
  .seq (.seq (.region [⟨(some 83), none, (.op (.mv (.t 14)))⟩,
    ⟨(some 84), none, (.op (.mv (.t 15)))⟩,
    ⟨(some 85), none, (.op (.bin .int false .lss (.t 83) (.t 84)))⟩])
   (.live [4, 2, 0, 15, 14, 85] (.cond (.t 85) (.skip)
   (.exit 4))))
   (.live [4, 2, 0, 15, 14] (.block 5 (.seq (.region [⟨(some 86), none, (.op (.mv (.t 14)))⟩,
    ⟨(some 87), none, (.op (.mv (.t 15)))⟩,
    ⟨(some 88), none, (.op (.bin .int false .add (.t 86) (.t 87)))⟩,
    ⟨(some 89), none, (.op (.toInt .u64 (.t 88)))⟩,
    ⟨(some 90), none, (.op (.bin .int true .shr (.t 89) (.c (.i .u64 1))))⟩,
    ⟨(some 91), none, (.op (.toInt .i64 (.t 90)))⟩,
    ⟨(some 16), none, (.op (.mv (.t 91)))⟩])
   (.live [4, 2, 0, 15, 16, 14] (.seq (.draw c37d4 [])
   (.live [4, 2, 0, 15, 16, 14, 103] (.cond (.t 103) (.region [⟨(some 104), none, (.op (.mv (.t 16)))⟩,
    ⟨(some 105), none, (.op (.bin .int true .add (.t 104) (.c (.i .i64 1))))⟩,
    ⟨(some 14), none, (.op (.mv (.t 105)))⟩])
   (.region [⟨(some 106), none, (.op (.mv (.t 16)))⟩,
    ⟨(some 15), none, (.op (.mv (.t 106)))⟩]))))))))
def c37d6 : List Stage :=
  [⟨[(⟨(some 113), none, (.op (.mv (.t 0)))⟩, 0), (⟨(some 114), none, (.op (.mv (.t 17)))⟩, 0), (⟨(some 115), none, (.op (.mv (.t 0)))⟩, 1), (⟨(some 116), none, (.op (.mv (.t 17)))⟩, 1), (⟨(some 117), none, (.op (.bin .int true .sub (.t 116) (.c (.i .i64 1))))⟩, 1), (⟨(some 118), none, (.op (.mv (.t 0)))⟩, 0), (⟨(some 119), none, (.op (.mv (.t 17)))⟩, 0), (⟨(some 120), none, (.op (.bin .int true .sub (.t 119) (.c (.i .i64 1))))⟩, 0), (⟨(some 121), none, (.op (.iaddr none 13 (.t 118) (.t 120)))⟩, 0), (⟨(some 122), none, (.op (.load (some 13) (.t 121)))⟩, 0), (⟨(some 123), none, (.op (.mv (.t 0)))⟩, 0), (⟨(some 124), none, (.op (.mv (.t 17)))⟩, 0), (⟨(some 125), none, (.op (.iaddr none 13 (.t 123) (.t 124)))⟩, 0), (⟨(some 126), none, (.op (.load (some 13) (.t 125)))⟩, 0), (⟨(some 127), none, (.op (.iaddr none 13 (.t 113) (.t 114)))⟩, 0)], none, some ⟨none, none, (.op (.store 13 (.t 127) (.t 122)))⟩⟩,
    ⟨[(⟨(some 128), none, (.op (.iaddr none 13 (.t 115) (.t 117)))⟩, 1)], none, some ⟨none, none, (.op (.store 13 (.t 128) (.t 126)))⟩⟩,
    ⟨[], none, none⟩]
def c37d6w : List (ROp × Bool) :=
  [(⟨(some 113), none, (.op (.mv (.t 0)))⟩, false), (⟨(some 114), none, (.op (.mv (.t 17)))⟩, false), (⟨(some 115), none, (.op (.mv (.t 0)))⟩, false), (⟨(some 116), none, (.op (.mv (.t 17)))⟩, false), (⟨(some 117), none, (.op (.bin .int true .sub (.t 116) (.c (.i .i64 1))))⟩, false), (⟨(some 118), none, (.op (.mv (.t 0)))⟩, false), (⟨(some 119), none, (.op (.mv (.t 17)))⟩, false), (⟨(some 120), none, (.op (.bin .int true .sub (.t 119) (.c (.i .i64 1))))⟩, false), (⟨(some 121), none, (.op (.iaddr none 13 (.t 118) (.t 120)))⟩, false), (⟨(some 122), none, (.op (.load (some 13) (.t 121)))⟩, false), (⟨(some 123), none, (.op (.mv (.t 0)))⟩, false), (⟨(some 124), none, (.op (.mv (.t 17)))⟩, false), (⟨(some 125), none, (.op (.iaddr none 13 (.t 123) (.t 124)))⟩, false), (⟨(some 126), none, (.op (.load (some 13) (.t 125)))⟩, false), (⟨(some 127), none, (.op (.iaddr none 13 (.t 113) (.t 114)))⟩, false), (⟨none, none, (.op (.store 13 (.t 127) (.t 122)))⟩, false), (⟨(some 128), none, (.op (.iaddr none 13 (.t 115) (.t 117)))⟩, false), (⟨none, none, (.op (.store 13 (.t 128) (.t 126)))⟩, false)]
theorem c37d6_w {P : Program} {O : Orc} {S0 : Mem} {rd : Bool} {e : Env} {S : Mem} {d : List Nat} {Q : Kont} : W P O S0 rd (.draw c37d6 []) e S d Q = wFl O c37d6w e S (normK Q d) := W_draw' (by kernel_rfl) (by kernel_rfl)
attribute [go_sem] c37d6_w c37d6w
def c37l7 : ICode :=
  .seq (.seq (.region [⟨(some 108), none, (.op (.mv (.t 17)))⟩,
    ⟨(some 109), none, (.op (.mv (.t 14)))⟩,
    ⟨(some 110), none, (.op (.bin .int false .gtr (.t 108) (.t 109)))⟩])
   (.live [0, 14, 17, 110] (.cond (.t 110) (.skip)
   (.exit 6))))
   (.live [0, 14, 17] (.seq (.block 7 (.draw c37d6 []))
   (.live [0, 14, 17] (.region [⟨(some 111), none, (.op (.mv (.t 17)))⟩,
    ⟨(some 112), none, (.op (.bin .int true .sub (.t 111) (.c (.i .i64 1))))⟩,
    ⟨(some 17), none, (.op (.mv (.t 112)))⟩]))))
def c37d8 : List Stage :=
  [⟨[(⟨(some 158), none, (.op (.mv (.t 4)))⟩, 0), (⟨(some 159), none, (.op (.mv (.t 0)))⟩, 0), (⟨(some 160), none, (.op (.mv (.t 22)))⟩, 0), (⟨(some 161), none, (.op (.mv (.t 23)))⟩, 0), (⟨(some 162), none, (.op (.bin .int false .sub (.t 160) (.t 161)))⟩, 0), (⟨(some 163), none, (.op (.iaddr none 13 (.t 159) (.t 162)))⟩, 0), (⟨(some 164), none, (.op (.load (some 13) (.t 163)))⟩, 0), (⟨(some 165), none, (.op (.mv (.t 0)))⟩, 0), (⟨(some 166), none, (.op (.mv (.t 23)))⟩, 0), (⟨(some 167), none, (.op (.iaddr none 13 (.t 165) (.t 166)))⟩, 0), (⟨(some 168), none, (.op (.load (some 13) (.t 167)))⟩, 0)], none, some ⟨(some 169), none, (.callv (.t 158) [(.t 164), (.t 168)])⟩⟩,
    ⟨[(⟨(some 170), none, (.op (.bin .int true .lss (.t 169) (.c (.i .i64 0))))⟩, 1), (⟨(some 171), none, (.op (.un .not (.t 170)))⟩, 1)], none, none⟩]
def c37d8w : List (ROp × Bool) :=
  [(⟨(some 158), none, (.op (.mv (.t 4)))⟩, false), (⟨(some 159), none, (.op (.mv (.t 0)))⟩, false), (⟨(some 160), none, (.op (.mv (.t 22)))⟩, false), (⟨(some 161), none, (.op (.mv (.t 23)))⟩, false), (⟨(some 162), none, (.op (.bin .int false .sub (.t 160) (.t 161)))⟩, false), (⟨(some 163), none, (.op (.iaddr none 13 (.t 159) (.t 162)))⟩, false), (⟨(some 164), none, (.op (.load (some 13) (.t 163)))⟩, false), (⟨(some 165), none, (.op (.mv (.t 0)))⟩, false), (⟨(some 166), none, (.op (.mv (.t 23)))⟩, false), (⟨(some 167), none, (.op (.iaddr none 13 (.t 165) (.t 166)))⟩, false), (⟨(some 168), none, (.op (.load (some 13) (.t 167)))⟩, false), (⟨(some 169), none, (.callv (.t 158) [(.t 164), (.t 168)])⟩, false), (⟨(some 170), none, (.op (.bin .int true .lss (.t 169) (.c (.i .i64 0))))⟩, false), (⟨(some 171), none, (.op (.un .not (.t 170)))⟩, false)]
theorem c37d8_w {P : Program} {O : Orc} {S0 : Mem} {rd : Bool} {e : Env} {S : Mem} {d : List Nat} {Q : Kont} : W P O S0 rd (.draw c37d8 []) e S d Q = wFl O c37d8w e S (normK Q d) := W_draw' (by kernel_rfl) (by kernel_rfl)
attribute [go_sem] c37d8_w c37d8w
def c37l9 : ICode :=
  .seq (.seq (.region [⟨(some 149), none, (.op (.mv (.t 20)))⟩,
    ⟨(some 150), none, (.op (.mv (.t 21)))⟩,
    ⟨(some 151), none, (.op (.bin .int false .lss (.t 149) (.t 150)))⟩])
   (.live [4, 22, 0, 21, 3, 18, 1, 2, 19, 20, 151] (.cond (.t 151) (.skip)
   (.exit 8))))
   (.live [4, 22, 0, 21, 3, 18, 1, 2, 19, 20] (.block 9 (.seq (.region [⟨(some 152), none, (.op (.mv (.t 20)))⟩,
    ⟨(some 153), none, (.op (.mv (.t 21)))⟩,
    ⟨(some 154), none, (.op (.bin .int false .add (.t 152) (.t 153)))⟩,
    ⟨(some 155), none, (.op (.toInt .u64 (.t 154)))⟩,
    ⟨(some 156), none, (.op (.bin .int true .shr (.t 155) (.c (.i .u64 1))))⟩,
    ⟨(some 157), none, (.op (.toInt .i64 (.t 156)))⟩,
    ⟨(some 23), none, (.op (.mv (.t 157)))⟩])
   (.live [4, 22, 0, 21, 3, 18, 1, 2, 19, 23, 20] (.seq (.draw c37d8 [])
   (.live [4, 22, 0, 21, 3, 18, 1, 2, 19, 23, 20, 171] (.cond (.t 171) (.region [⟨(some 172), none, (.op (.mv (.t 23)))⟩,
    ⟨(some 173), none, (.op (.bin .int true .add (.t 172) (.c (.i .i64 1))))⟩,
    ⟨(some 20), none, (.op (.mv (.t 173)))⟩])
   (.region [⟨(some 174), none, (.op (.mv (.t 23)))⟩,
    ⟨(some 21), none, (.op (.mv (.t 174)))⟩]))))))))
def c37 : IFunc := ⟨5, [],
  .seq (.seq (.region [⟨(some 25), none, (.op (.mv (.t 2)))⟩,
    ⟨(some 26), none, (.op (.mv (.t 1)))⟩,
    ⟨(some 27), none, (.op (.bin .int false .sub (.t 25) (.t 26)))⟩,
    ⟨(some 28), none, (.op (.bin .int true .eql (.t 27) (.c (.i .i64 1))))⟩])
   (.live [4, 0, 1, 3, 2, 28] (.cond (.t 28) (.seq (.region [⟨(some 29), none, (.op (.mv (.t 2)))⟩,
    ⟨(some 10), none, (.op (.mv (.t 29)))⟩])
   (.live [4, 0, 1, 10, 3] (.seq (.region [⟨(some 30), none, (.op (.mv (.t 3)))⟩,
    ⟨(some 11), none, (.op (.mv (.t 30)))⟩])
   (.live [4, 0, 1, 11, 10] (.seq (.block 0 (.loop [4, 0, 1, 11, 10] c37l1))
   (.live [0, 10, 1] (.seq (.seq (.region [⟨(some 54), none, (.op (.mv (.t 1)))⟩,
    ⟨(some 13), none, (.op (.mv (.t 54)))⟩])
   (.live [0, 10, 13] (.block 2 (.loop [0, 10, 13] c37l3))))
   (.ret))))))))
   (.skip))))
   (.live [4, 2, 0, 1, 3] (.seq (.seq (.region [⟨(some 77), none, (.op (.mv (.t 3)))⟩,
    ⟨(some 78), none, (.op (.mv (.t 2)))⟩,
    ⟨(some 79), none, (.op (.bin .int false .sub (.t 77) (.t 78)))⟩,
    ⟨(some 80), none, (.op (.bin .int true .eql (.t 79) (.c (.i .i64 1))))⟩])
   (.live [4, 2, 0, 1, 3, 80] (.cond (.t 80) (.seq (.region [⟨(some 81), none, (.op (.mv (.t 1)))⟩,
    ⟨(some 14), none, (.op (.mv (.t 81)))⟩])
   (.live [4, 2, 0, 14] (.seq (.region [⟨(some 82), none, (.op (.mv (.t 2)))⟩,
    ⟨(some 15), none, (.op (.mv (.t 82)))⟩])
   (.live [4, 2, 0, 15, 14] (.seq (.block 4 (.loop [4, 2, 0, 15, 14] c37l5))
   (.live [0, 14, 2] (.seq (.seq (.region [⟨(some 107), none, (.op (.mv (.t 2)))⟩,
    ⟨(some 17), none, (.op (.mv (.t 107)))⟩])
   (.live [0, 14, 17] (.block 6 (.loop [0, 14, 17] c37l7))))
   (.ret))))))))
   (.skip))))
   (.live [4, 0, 3, 1, 2] (.seq (.region [⟨(some 129), none, (.op (.mv (.t 1)))⟩,
    ⟨(some 130), none, (.op (.mv (.t 3)))⟩,
    ⟨(some 131), none, (.op (.bin .int false .add (.t 129) (.t 130)))⟩,
    ⟨(some 132), none, (.op (.toInt .u64 (.t 131)))⟩,
    ⟨(some 133), none, (.op (.bin .int true .shr (.t 132) (.c (.i .u64 1))))⟩,
    ⟨(some 134), none, (.op (.toInt .i64 (.t 133)))⟩,
    ⟨(some 18), none, (.op (.mv (.t 134)))⟩])
   (.live [4, 0, 3, 18, 1, 2] (.seq (.region [⟨(some 135), none, (.op (.mv (.t 18)))⟩,
    ⟨(some 136), none, (.op (.mv (.t 2)))⟩,
    ⟨(some 137), none, (.op (.bin .int false .add (.t 135) (.t 136)))⟩,
    ⟨(some 19), none, (.op (.mv (.t 137)))⟩])
   (.live [4, 0, 3, 18, 1, 2, 19] (.seq (.region [⟨(some 20), none, (.op (.mv (.c (.i .i64 0))))⟩,
    ⟨(some 21), none, (.op (.mv (.c (.i .i64 0))))⟩])
   (.live [4, 0, 3, 18, 1, 2, 19] (.seq (.seq (.region [⟨(some 138), none, (.op (.mv (.t 2)))⟩,
    ⟨(some 139), none, (.op (.mv (.t 18)))⟩,
    ⟨(some 140), none, (.op (.bin .int false .gtr (.t 138) (.t 139)))⟩])
   (.live [4, 0, 3, 18, 1, 2, 19, 140] (.cond (.t 140) (.seq (.region [⟨(some 141), none, (.op (.mv (.t 19)))⟩,
    ⟨(some 142), none, (.op (.mv (.t 3)))⟩,
    ⟨(some 143), none, (.op (.bin .int false .sub (.t 141) (.t 142)))⟩,
    ⟨(some 20), none, (.op (.mv (.t 143)))⟩])
   (.live [4, 0, 3, 18, 1, 2, 19, 20] (.region [⟨(some 144), none, (.op (.mv (.t 18)))⟩,
    ⟨(some 21), none, (.op (.mv (.t 144)))⟩])))
   (.seq (.region [⟨(some 145), none, (.op (.mv (.t 1)))⟩,
    ⟨(some 20), none, (.op (.mv (.t 145)))⟩])
   (.live [4, 0, 3, 18, 1, 2, 19, 20] (.region [⟨(some 146), none, (.op (.mv (.t 2)))⟩,
    ⟨(some 21), none, (.op (.mv (.t 146)))⟩]))))))
   (.live [4, 0, 21, 3, 18, 1, 2, 19, 20] (.seq (.region [⟨(some 147), none, (.op (.mv (.t 19)))⟩,
    ⟨(some 148), none, (.op (.bin .int true .sub (.t 147) (.c (.i .i64 1))))⟩,
    ⟨(some 22), none, (.op (.mv (.t 148)))⟩])
   (.live [4, 22, 0, 21, 3, 18, 1, 2, 19, 20] (.seq (.block 8 (.loop [4, 22, 0, 21, 3, 18, 1, 2, 19, 20] c37l9))
   (.live [4, 3, 18, 0, 20, 1, 2, 19] (.seq (.region [⟨(some 175), none, (.op (.mv (.t 19)))⟩,
    ⟨(some 176), none, (.op (.mv (.t 20)))⟩,
    ⟨(some 177), none, (.op (.bin .int false .sub (.t 175) (.t 176)))⟩,
    ⟨(some 24), none, (.op (.mv (.t 177)))⟩])
   (.live [4, 3, 24, 18, 0, 20, 1, 2] (.seq (.seq (.region [⟨(some 178), none, (.op (.mv (.t 20)))⟩,
    ⟨(some 179), none, (.op (.mv (.t 2)))⟩,
    ⟨(some 180), none, (.op (.bin .int false .lss (.t 178) (.t 179)))⟩,
    ⟨(some 181), none, (.op (.mv (.t 180)))⟩,
    ⟨(some 182), some (181, true), (.op (.mv (.t 2)))⟩,
    ⟨(some 183), some (181, true), (.op (.mv (.t 24)))⟩,
    ⟨(some 184), some (181, true), (.op (.bin .int false .lss (.t 182) (.t 183)))⟩,
    ⟨(some 185), none, (.op (.pick (.t 181) (.t 184) (.c (.b false))))⟩])
   (.live [4, 3, 24, 18, 0, 20, 1, 2, 185] (.cond (.t 185) (.region [⟨(some 186), none, (.op (.mv (.t 0)))⟩,
    ⟨(some 187), none, (.op (.mv (.t 20)))⟩,
    ⟨(some 188), none, (.op (.mv (.t 2)))⟩,
    ⟨(some 189), none, (.op (.mv (.t 24)))⟩,
    ⟨(some 190), none, (.op (.mv (.t 4)))⟩,
    ⟨(some 191), none, (.call 39 [(.t 186), (.t 187), (.t 188), (.t 189), (.t 190)])⟩])
   (.skip))))
   (.live [4, 3, 24, 18, 0, 20, 1] (.seq (.seq (.region [⟨(some 192), none, (.op (.mv (.t 1)))⟩,
    ⟨(some 193), none, (.op (.mv (.t 20)))⟩,
    ⟨(some 194), none, (.op (.bin .int false .lss (.t 192) (.t 193)))⟩,
    ⟨(some 195), none, (.op (.mv (.t 194)))⟩,
    ⟨(some 196), some (195, true), (.op (.mv (.t 20)))⟩,
    ⟨(some 197), some (195, true), (.op (.mv (.t 18)))⟩,
    ⟨(some 198), some (195, true), (.op (.bin .int false .lss (.t 196) (.t 197)))⟩,
    ⟨(some 199), none, (.op (.pick (.t 195) (.t 198) (.c (.b false))))⟩])
   (.live [4, 3, 24, 18, 0, 20, 1, 199] (.cond (.t 199) (.region [⟨(some 200), none, (.op (.mv (.t 0)))⟩,
    ⟨(some 201), none, (.op (.mv (.t 1)))⟩,
    ⟨(some 202), none, (.op (.mv (.t 20)))⟩,
    ⟨(some 203), none, (.op (.mv (.t 18)))⟩,
    ⟨(some 204), none, (.op (.mv (.t 4)))⟩,
    ⟨(some 205), none, (.call 37 [(.t 200), (.t 201), (.t 202), (.t 203), (.t 204)])⟩])
   (.skip))))
   (.live [4, 3, 24, 18, 0] (.seq (.region [⟨(some 206), none, (.op (.mv (.t 18)))⟩,
    ⟨(some 207), none, (.op (.mv (.t 24)))⟩,
    ⟨(some 208), none, (.op (.bin .int false .lss (.t 206) (.t 207)))⟩,
    ⟨(some 209), none, (.op (.mv (.t 208)))⟩,
    ⟨(some 210), some (209, true), (.op (.mv (.t 24)))⟩,
    ⟨(some 211), some (209, true), (.op (.mv (.t 3)))⟩,
    ⟨(some 212), some (209, true), (.op (.bin .int false .lss (.t 210) (.t 211)))⟩,
    ⟨(some 213), none, (.op (.pick (.t 209) (.t 212) (.c (.b false))))⟩])
   (.live [4, 3, 24, 18, 0, 213] (.cond (.t 213) (.region [⟨(some 214), none, (.op (.mv (.t 0)))⟩,
    ⟨(some 215), none, (.op (.mv (.t 18)))⟩,
    ⟨(some 216), none, (.op (.mv (.t 24)))⟩,
    ⟨(some 217), none, (.op (.mv (.t 3)))⟩,
    ⟨(some 218), none, (.op (.mv (.t 4)))⟩,
    ⟨(some 219), none, (.call 37 [(.t 214), (.t 215), (.t 216), (.t 217), (.t 218)])⟩])
   (.skip))))))))))))))))))))))))),
  []⟩


/- slices.Reverse[[]floodgate/api.Policy,floodgate/api.Policy] -/
def c38d0 : List Stage :=
  [⟨[(⟨(some 14), none, (.op (.mv (.t 0)))⟩, 0), (⟨(some 15), none, (.op (.mv (.t 2)))⟩, 0), (⟨(some 16), none, (.op (.mv (.t 0)))⟩, 1), (⟨(some 17), none, (.op (.mv (.t 3)))⟩, 1), (⟨(some 18), none, (.op (.mv (.t 0)))⟩, 0), (⟨(some 19), none, (.op (.mv (.t 3)))⟩, 0), (⟨(some 20), none, (.op (.iaddr none 13 (.t 18) (.t 19)))⟩, 0), (⟨(some 21), none, (.op (.load (some 13) (.t 20)))⟩, 0), (⟨(some 22), none, (.op (.mv (.t 0)))⟩, 0), (⟨(some 23), none, (.op (.mv (.t 2)))⟩, 0), (⟨(some 24), none, (.op (.iaddr none 13 (.t 22) (.t 23)))⟩, 0), (⟨(some 25), none, (.op (.load (some 13) (.t 24)))⟩, 0), (⟨(some 26), none, (.op (.iaddr none 13 (.t 14) (.t 15)))⟩, 0)], none, some ⟨none, none, (.op (.store 13 (.t 26) (.t 21)))⟩⟩,
    ⟨[(⟨(some 27), none, (.op (.iaddr none 13 (.t 16) (.t 17)))⟩, 1)], none, some ⟨none, none, (.op (.store 13 (.t 27) (.t 25)))⟩⟩,
    ⟨[], none, none⟩]
def c38d0w : List (ROp × Bool) :=
  [(⟨(some 14), none, (.op (.mv (.t 0)))⟩, false), (⟨(some 15), none, (.op (.mv (.t 2)))⟩, false), (⟨(some 16), none, (.op (.mv (.t 0)))⟩, false), (⟨(some 17), none, (.op (.mv (.t 3)))⟩, false), (⟨(some 18), none, (.op (.mv (.t 0)))⟩, false), (⟨(some 19), none, (.op (.mv (.t 3)))⟩, false), (⟨(some 20), none, (.op (.iaddr none 13 (.t 18) (.t 19)))⟩, false), (⟨(some 21), none, (.op (.load (some 13) (.t 20)))⟩, false), (⟨(some 22), none, (.op (.mv (.t 0)))⟩, false), (⟨(some 23), none, (.op (.mv (.t 2)))⟩, false), (⟨(some 24), none, (.op (.iaddr none 13 (.t 22) (.t 23)))⟩, false), (⟨(some 25), none, (.op (.load (some 13) (.t 24)))⟩, false), (⟨(some 26), none, (.op (.iaddr none 13 (.t 14) (.t 15)))⟩, false), (⟨none, none, (.op (.store 13 (.t 26) (.t 21)))⟩, false), (⟨(some 27), none, (.op (.iaddr none 13 (.t 16) (.t 17)))⟩, false), (⟨none, none, (.op (.store 13 (.t 27) (.t 25)))⟩, false)]
theorem c38d0_w {P : Program} {O : Orc} {S0 : Mem} {rd : Bool} {e : Env} {S : Mem} {d : List Nat} {Q : Kont} : W P O S0 rd (.draw c38d0 []) e S d Q = wFl O c38d0w e S (normK Q d) := W_draw' (by kernel_rfl) (by kernel_rfl)
attribute [go_sem] c38d0_w c38d0w
def c38l1 : ICode :=
  .seq (.seq (.region [⟨(some 7), none, (.op (.mv (.t 2)))⟩,
    ⟨(some 8), none, (.op (.mv (.t 3)))⟩,
    ⟨(some 9), none, (.op (.bin .int false .lss (.t 7) (.t 8)))⟩])
   (.live [0, 3, 2, 9] (.cond (.t 9) (.skip)
   (.exit 0))))
   (.live [0, 3, 2] (.seq (.block 1 (.draw c38d0 []))
   (.live [0, 3, 2] (.region [⟨(some 10), none, (.op (.mv (.t 2)))⟩,
    ⟨(some 11), none, (.op (.bin .int true .add (.t 10) (.c (.i .i64 1))))⟩,
    ⟨(some 12), none, (.op (.mv (.t 3)))⟩,
    ⟨(some 13), none, (.op (.bin .int true .sub (.t 12) (.c (.i .i64 1))))⟩,
    ⟨(some 2), none, (.op (.mv (.t 11)))⟩,
    ⟨(some 3), none, (.op (.mv (.t 13)))⟩]))))
def c38 : IFunc := ⟨1, [],
  .seq (.region [⟨(some 4), none, (.op (.mv (.t 0)))⟩,
    ⟨(some 5), none, (.op (.len .slice (.t 4)))⟩,
    ⟨(some 6), none, (.op (.bin .int true .sub (.t 5) (.c (.i .i64 1))))⟩,
    ⟨(some 2), none, (.op (.mv (.c (.i .i64 0))))⟩,
    ⟨(some 3), none, (.op (.mv (.t 6)))⟩])
   (.live [0, 3, 2] (.block 0 (.loop [0, 3, 2] c38l1))),
  []⟩


/- slices.rotateCmpFunc[floodgate/api.Policy] -/
def c39l0 : ICode :=
  .seq (.seq (.region [⟨(some 18), none, (.op (.mv (.t 10)))⟩,
    ⟨(some 19), none, (.op (.mv (.t 11)))⟩,
    ⟨(some 20), none, (.op (.bin .int false .neq (.t 18) (.t 19)))⟩])
   (.live [11, 4, 2, 0, 10, 20] (.cond (.t 20) (.skip)
   (.exit 0))))
   (.live [11, 4, 2, 0, 10] (.block 1 (.seq (.region [⟨(some 21), none, (.op (.mv (.t 10)))⟩,
    ⟨(some 22), none, (.op (.mv (.t 11)))⟩,
    ⟨(some 23), none, (.op (.bin .int false .gtr (.t 21) (.t 22)))⟩])
   (.live [11, 4, 2, 0, 10, 23] (.cond (.t 23) (.seq (.region [⟨(some 24), none, (.op (.mv (.t 0)))⟩,
    ⟨(some 25), none, (.op (.mv (.t 2)))⟩,
    ⟨(some 26), none, (.op (.mv (.t 10)))⟩,
    ⟨(some 27), none, (.op (.bin .int false .sub (.t 25) (.t 26)))⟩,
    ⟨(some 28), none, (.op (.mv (.t 2)))⟩,
    ⟨(some 29), none, (.op (.mv (.t 11)))⟩,
    ⟨(some 30), none, (.op (.mv (.t 4)))⟩,
    ⟨(some 31), none, (.call 40 [(.t 24), (.t 27), (.t 28), (.t 29), (.t 30)])⟩])
   (.live [11, 4, 2, 0, 10] (.region [⟨(some 32), none, (.op (.mv (.t 10)))⟩,
    ⟨(some 33), none, (.op (.mv (.t 11)))⟩,
    ⟨(some 34), none, (.op (.bin .int false .sub (.t 32) (.t 33)))⟩,
    ⟨(some 10), none, (.op (.mv (.t 34)))⟩])))
   (.seq (.region [⟨(some 35), none, (.op (.mv (.t 0)))⟩,
    ⟨(some 36), none, (.op (.mv (.t 2)))⟩,
    ⟨(some 37), none, (.op (.mv (.t 10)))⟩,
    ⟨(some 38), none, (.op (.bin .int false .sub (.t 36) (.t 37)))⟩,
    ⟨(some 39), none, (.op (.mv (.t 2)))⟩,
    ⟨(some 40), none, (.op (.mv (.t 11)))⟩,
    ⟨(some 41), none, (.op (.bin .int false .add (.t 39) (.t 40)))⟩,
    ⟨(some 42), none, (.op (.mv (.t 10)))⟩,
    ⟨(some 43), none, (.op (.bin .int false .sub (.t 41) (.t 42)))⟩,
    ⟨(some 44), none, (.op (.mv (.t 10)))⟩,
    ⟨(some 45), none, (.op (.mv (.t 4)))⟩,
    ⟨(some 46), none, (.call 40 [(.t 35), (.t 38), (.t 43), (.t 44), (.t 45)])⟩])
   (.live [4, 2, 0, 10, 11] (.region [⟨(some 47), none, (.op (.mv (.t 11)))⟩,
    ⟨(some 48), none, (.op (.mv (.t 10)))⟩,
    ⟨(some 49), none, (.op (.bin .int false .sub (.t 47) (.t 48)))⟩,
    ⟨(some 11), none, (.op (.mv (.t 49)))⟩]))))))))
def c39 : IFunc := ⟨5, [],
  .seq (.region [⟨(some 12), none, (.op (.mv (.t 2)))⟩,
    ⟨(some 13), none, (.op (.mv (.t 1)))⟩,
    ⟨(some 14), none, (.op (.bin .int false .sub (.t 12) (.t 13)))⟩,
    ⟨(some 10), none, (.op (.mv (.t 14)))⟩])
   (.live [4, 2, 0, 10, 3] (.seq (.region [⟨(some 15), none, (.op (.mv (.t 3)))⟩,
    ⟨(some 16), none, (.op (.mv (.t 2)))⟩,
    ⟨(some 17), none, (.op (.bin .int false .sub (.t 15) (.t 16)))⟩,
    ⟨(some 11), none, (.op (.mv (.t 17)))⟩])
   (.live [11, 4, 2, 0, 10] (.seq (.block 0 (.loop [11, 4, 2, 0, 10] c39l0))
   (.live [4, 10, 2, 0] (.region [⟨(some 50), none, (.op (.mv (.t 0)))⟩,
    ⟨(some 51), none, (.op (.mv (.t 2)))⟩,
    ⟨(some 52), none, (.op (.mv (.t 10)))⟩,
    ⟨(some 53), none, (.op (.bin .int false .sub (.t 51) (.t 52)))⟩,
    ⟨(some 54), none, (.op (.mv (.t 2)))⟩,
    ⟨(some 55), none, (.op (.mv (.t 10)))⟩,
    ⟨(some 56), none, (.op (.mv (.t 4)))⟩,
    ⟨(some 57), none, (.call 40 [(.t 50), (.t 53), (.t 54), (.t 55), (.t 56)])⟩])))))),
  []⟩


/- slices.swapRangeCmpFunc[floodgate/api.Policy] -/
def c40d0 : List Stage :=
  [⟨[(⟨(some 16), none, (.op (.mv (.t 0)))⟩, 0), (⟨(some 17), none, (.op (.mv (.t 1)))⟩, 0), (⟨(some 18), none, (.op (.mv (.t 10)))⟩, 0), (⟨(some 19), none, (.op (.bin .int false .add (.t 17) (.t 18)))⟩, 0), (⟨(some 20), none, (.op (.mv (.t 0)))⟩, 1), (⟨(some 21), none, (.op (.mv (.t 2)))⟩, 1), (⟨(some 22), none, (.op (.mv (.t 10)))⟩, 1), (⟨(some 23), none, (.op (.bin .int false .add (.t 21) (.t 22)))⟩, 1), (⟨(some 24), none, (.op (.mv (.t 0)))⟩, 0), (⟨(some 25), none, (.op (.mv (.t 2)))⟩, 0), (⟨(some 26), none, (.op (.mv (.t 10)))⟩, 0), (⟨(some 27), none, (.op (.bin .int false .add (.t 25) (.t 26)))⟩, 0), (⟨(some 28), none, (.op (.iaddr none 13 (.t 24) (.t 27)))⟩, 0), (⟨(some 29), none, (.op (.load (some 13) (.t 28)))⟩, 0), (⟨(some 30), none, (.op (.mv (.t 0)))⟩, 0), (⟨(some 31), none, (.op (.mv (.t 1)))⟩, 0), (⟨(some 32), none, (.op (.mv (.t 10)))⟩, 0), (⟨(some 33), none, (.op (.bin .int false .add (.t 31) (.t 32)))⟩, 0), (⟨(some 34), none, (.op (.iaddr none 13 (.t 30) (.t 33)))⟩, 0), (⟨(some 35), none, (.op (.load (some 13) (.t 34)))⟩, 0), (⟨(some 36), none, (.op (.iaddr none 13 (.t 16) (.t 19)))⟩, 0)], none, some ⟨none, none, (.op (.store 13 (.t 36) (.t 29)))⟩⟩,
    ⟨[(⟨(some 37), none, (.op (.iaddr none 13 (.t 20) (.t 23)))⟩, 1)], none, some ⟨none, none, (.op (.store 13 (.t 37) (.t 35)))⟩⟩,
    ⟨[], none, none⟩]
def c40d0w : List (ROp × Bool) :=
  [(⟨(some 16), none, (.op (.mv (.t 0)))⟩, false), (⟨(some 17), none, (.op (.mv (.t 1)))⟩, false), (⟨(some 18), none, (.op (.mv (.t 10)))⟩, false), (⟨(some 19), none, (.op (.bin .int false .add (.t 17) (.t 18)))⟩, false), (⟨(some 20), none, (.op (.mv (.t 0)))⟩, false), (⟨(some 21), none, (.op (.mv (.t 2)))⟩, false), (⟨(some 22), none, (.op (.mv (.t 10)))⟩, false), (⟨(some 23), none, (.op (.bin .int false .add (.t 21) (.t 22)))⟩, false), (⟨(some 24), none, (.op (.mv (.t 0)))⟩, false), (⟨(some 25), none, (.op (.mv (.t 2)))⟩, false), (⟨(some 26), none, (.op (.mv (.t 10)))⟩, false), (⟨(some 27), none, (.op (.bin .int false .add (.t 25) (.t 26)))⟩, false), (⟨(some 28), none, (.op (.iaddr none 13 (.t 24) (.t 27)))⟩, false), (⟨(some 29), none, (.op (.load (some 13) (.t 28)))⟩, false), (⟨(some 30), none, (.op (.mv (.t 0)))⟩, false), (⟨(some 31), none, (.op (.mv (.t 1)))⟩, false), (⟨(some 32), none, (.op (.mv (.t 10)))⟩, false), (⟨(some 33), none, (.op (.bin .int false .add (.t 31) (.t 32)))⟩, false), (⟨(some 34), none, (.op (.iaddr none 13 (.t 30) (.t 33)))⟩, false), (⟨(some 35), none, (.op (.load (some 13) (.t 34)))⟩, false), (⟨(some 36), none, (.op (.iaddr none 13 (.t 16) (.t 19)))⟩, false), (⟨none, none, (.op (.store 13 (.t 36) (.t 29)))⟩, false), (⟨(some 37), none, (.op (.iaddr none 13 (.t 20) (.t 23)))⟩, false), (⟨none, none, (.op (.store 13 (.t 37) (.t 35)))⟩, false)]
theorem c40d0_w {P : Program} {O : Orc} {S0 : Mem} {rd : Bool} {e : Env} {S : Mem} {d : List Nat} {Q : Kont} : W P O S0 rd (.draw c40d0 []) e S d Q = wFl O c40d0w e S (normK Q d) := W_draw' (by kernel_rfl) (by kernel_rfl)
attribute [go_sem] c40d0_w c40d0w
def c40l1 : ICode :=
  .seq (.seq (.region [⟨(some 11), none, (.op (.mv (.t 10)))⟩,
    ⟨(some 12), none, (.op (.mv (.t 3)))⟩,
    ⟨(some 13), none, (.op (.bin .int false .lss (.t 11) (.t 12)))⟩])
   (.live [2, 0, 1, 3, 10, 13] (.cond (.t 13) (.skip)
   (.exit 0))))
   (.live [2, 0, 1, 3, 10] (.seq (.block 1 (.draw c40d0 []))
   (.live [2, 0, 1, 3, 10] (.region [⟨(some 14), none, (.op (.mv (.t 10)))⟩,
    ⟨(some 15), none, (.op (.bin .int true .add (.t 14) (.c (.i .i64 1))))⟩,
    ⟨(some 10), none, (.op (.mv (.t 15)))⟩]))))
def c40 : IFunc := ⟨5, [],
  .seq (.region [⟨(some 10), none, (.op (.mv (.c (.i .i64 0))))⟩])
   (.live [2, 0, 1, 3, 10] (.block 0 (.loop [2, 0, 1, 3, 10] c40l1))),
  []⟩


set_option maxRecDepth 1000000
theorem f6 : compFunc Try.prog 6 = some (stripF c6) := by kernel_rfl
theorem f8 : compFunc Try.prog 8 = some (stripF c8) := by kernel_rfl
theorem f9 : compFunc Try.prog 9 = some (stripF c9) := by kernel_rfl
theorem f10 : compFunc Try.prog 10 = some (stripF c10) := by kernel_rfl
theorem f11 : compFunc Try.prog 11 = some (stripF c11) := by kernel_rfl
theorem f12 : compFunc Try.prog 12 = some (stripF c12) := by kernel_rfl
theorem f15 : compFunc Try.prog 15 = some (stripF c15) := by kernel_rfl
theorem f17 : compFunc Try.prog 17 = some (stripF c17) := by kernel_rfl
theorem f18 : compFunc Try.prog 18 = some (stripF c18) := by kernel_rfl
theorem f19 : compFunc Try.prog 19 = some (stripF c19) := by kernel_rfl
theorem f20 : compFunc Try.prog 20 = some (stripF c20) := by kernel_rfl
theorem f21 : compFunc Try.prog 21 = some (stripF c21) := by kernel_rfl
theorem f22 : compFunc Try.prog 22 = some (stripF c22) := by kernel_rfl
theorem f23 : compFunc Try.prog 23 = some (stripF c23) := by kernel_rfl
theorem f24 : compFunc Try.prog 24 = some (stripF c24) := by kernel_rfl
theorem f25 : compFunc Try.prog 25 = some (stripF c25) := by kernel_rfl
theorem f26 : compFunc Try.prog 26 = some (stripF c26) := by kernel_rfl
theorem f30 : compFunc Try.prog 30 = some (stripF c30) := by kernel_rfl
theorem f31 : compFunc Try.prog 31 = some (stripF c31) := by kernel_rfl
theorem f33 : compFunc Try.prog 33 = some (stripF c33) := by kernel_rfl
theorem f34 : compFunc Try.prog 34 = some (stripF c34) := by kernel_rfl
theorem f35 : compFunc Try.prog 35 = some (stripF c35) := by kernel_rfl
theorem f36 : compFunc Try.prog 36 = some (stripF c36) := by kernel_rfl
theorem f37 : compFunc Try.prog 37 = some (stripF c37) := by kernel_rfl
theorem f38 : compFunc Try.prog 38 = some (stripF c38) := by kernel_rfl
theorem f39 : compFunc Try.prog 39 = some (stripF c39) := by kernel_rfl
theorem f40 : compFunc Try.prog 40 = some (stripF c40) := by kernel_rfl
end Go.Proofs.Ytcoljpgnjiakjaa
