/- Proved here: the code of the functions, written out, is what the compiler makes of the program. No condition. -/
import Derived.Test.YtbggleijjoleiaaEvV
import Derived.Test.YtbggleijjoleiaaRows
namespace Go.Proofs.Ytbggleijjoleiaa
open Go.RowKit

/- 0 main.main: none -/
/- 1 gosem.cut: none -/
/- gosem.cut.init -/

def c2 : IFunc := ⟨0, [],
  .region [⟨(some 0), none, (.op (.bad))⟩],
  []⟩

/- floodgate/floodgatelaw18.LedgerBound -/
def c3l0 : ICode :=
  .seq (.region [⟨(some 37), none, (.op (.bin .int false .lss (.t 36) (.t 35)))⟩])
   (.live [0, 7, 1, 9, 34, 35, 36, 37] (.seq (.cond (.t 37) (.skip)
   (.exit 0))
   (.live [0, 7, 1, 9, 34, 35, 36] (.seq (.block 1 (.seq (.region [⟨(some 38), none, (.op (.iaddr none 1 (.t 34) (.t 36)))⟩,
    ⟨(some 39), none, (.op (.load none (.t 38)))⟩,
    ⟨(some 11), none, (.op (.mv (.t 39)))⟩])
   (.live [0, 7, 1, 9, 34, 35, 36, 11] (.seq (.seq (.region [⟨(some 40), none, (.op (.mv (.t 11)))⟩,
    ⟨(some 41), none, (.op (.mv (.t 1)))⟩,
    ⟨(some 42), none, (.op (.bin .int false .gtr (.t 40) (.t 41)))⟩])
   (.live [0, 7, 1, 9, 34, 35, 36, 11, 42] (.cond (.t 42) (.exit 1)
   (.skip))))
   (.live [0, 7, 1, 34, 35, 36, 11, 9] (.seq (.region [⟨(some 43), none, (.op (.mv (.t 9)))⟩,
    ⟨(some 44), none, (.op (.mv (.t 11)))⟩,
    ⟨(some 45), none, (.op (.bin .int false .add (.t 43) (.t 44)))⟩,
    ⟨(some 46), none, (.op (.mv (.t 0)))⟩,
    ⟨(some 47), none, (.op (.bin .int false .leq (.t 45) (.t 46)))⟩,
    ⟨(some 12), none, (.op (.mv (.t 47)))⟩])
   (.live [0, 7, 1, 34, 35, 36, 11, 9, 12] (.seq (.region [⟨(some 48), none, (.op (.mv (.t 7)))⟩,
    ⟨(some 49), none, (.op (.mv (.t 11)))⟩,
    ⟨(some 50), none, (.call 9 [(.t 48), (.t 49)])⟩,
    ⟨(some 13), none, (.op (.mv (.t 50)))⟩])
   (.live [0, 7, 1, 34, 35, 36, 11, 9, 12, 13] (.seq (.region [⟨(some 51), none, (.op (.mv (.t 13)))⟩,
    ⟨(some 52), none, (.op (.bin .int true .neq (.t 51) (.c (.i .u64 0))))⟩,
    ⟨(some 53), none, (.op (.mv (.t 52)))⟩,
    ⟨(some 54), some (53, false), (.op (.mv (.t 7)))⟩,
    ⟨(some 55), some (53, false), (.op (.mv (.t 11)))⟩,
    ⟨(some 56), some (53, false), (.call 10 [(.t 54), (.t 55)])⟩,
    ⟨(some 57), none, (.op (.pick (.t 53) (.c (.b true)) (.t 56)))⟩,
    ⟨(some 58), none, (.op (.mv (.t 57)))⟩,
    ⟨(some 59), some (58, true), (.op (.mv (.t 7)))⟩,
    ⟨(some 60), some (58, true), (.op (.mv (.t 13)))⟩,
    ⟨(some 61), some (58, true), (.op (.mv (.t 7)))⟩,
    ⟨(some 62), some (58, true), (.call 12 [(.t 61)])⟩,
    ⟨(some 63), some (58, true), (.op (.mm true [(.t 60), (.t 62)]))⟩,
    ⟨(some 64), some (58, true), (.call 11 [(.t 59), (.t 63)])⟩,
    ⟨(some 65), some (58, true), (.op (.bin .int true .eql (.t 64) (.c (.i .i64 0))))⟩,
    ⟨(some 66), none, (.op (.pick (.t 58) (.t 65) (.c (.b false))))⟩,
    ⟨(some 67), none, (.op (.mv (.t 66)))⟩,
    ⟨(some 68), some (67, true), (.op (.mv (.t 7)))⟩,
    ⟨(some 69), some (67, true), (.op (.mv (.t 11)))⟩,
    ⟨(some 70), some (67, true), (.call 13 [(.t 68), (.t 69)])⟩,
    ⟨(some 71), none, (.op (.pick (.t 67) (.t 70) (.c (.b false))))⟩,
    ⟨(some 14), none, (.op (.mv (.t 71)))⟩])
   (.live [0, 7, 1, 34, 35, 36, 11, 9, 14, 12] (.seq (.seq (.region [⟨(some 72), none, (.op (.mv (.t 14)))⟩,
    ⟨(some 73), none, (.op (.mv (.t 12)))⟩,
    ⟨(some 74), none, (.op (.bin .bool false .neq (.t 72) (.t 73)))⟩])
   (.live [0, 7, 1, 34, 35, 36, 11, 9, 14, 74] (.cond (.t 74) (.seq (.region [⟨(some 6), none, (.op (.mv (.c (.b false))))⟩])
   (.ret))
   (.skip))))
   (.live [0, 7, 1, 34, 35, 36, 11, 9, 14] (.seq (.seq (.region [⟨(some 75), none, (.op (.mv (.t 14)))⟩])
   (.live [0, 7, 1, 34, 35, 36, 11, 9, 75] (.cond (.t 75) (.region [⟨(some 76), none, (.op (.mv (.t 9)))⟩,
    ⟨(some 77), none, (.op (.mv (.t 11)))⟩,
    ⟨(some 78), none, (.op (.bin .int false .add (.t 76) (.t 77)))⟩,
    ⟨(some 9), none, (.op (.mv (.t 78)))⟩])
   (.skip))))
   (.live [0, 7, 1, 9, 34, 35, 36] (.seq (.region [⟨(some 79), none, (.op (.mv (.t 7)))⟩,
    ⟨(some 80), none, (.call 14 [(.t 79)])⟩,
    ⟨(some 81), none, (.op (.mv (.t 9)))⟩,
    ⟨(some 82), none, (.op (.bin .int false .neq (.t 80) (.t 81)))⟩,
    ⟨(some 83), none, (.op (.mv (.t 82)))⟩,
    ⟨(some 84), some (83, false), (.op (.mv (.t 9)))⟩,
    ⟨(some 85), some (83, false), (.op (.mv (.t 0)))⟩,
    ⟨(some 86), some (83, false), (.op (.bin .int false .gtr (.t 84) (.t 85)))⟩,
    ⟨(some 87), none, (.op (.pick (.t 83) (.c (.b true)) (.t 86)))⟩,
    ⟨(some 88), none, (.op (.mv (.t 87)))⟩,
    ⟨(some 89), some (88, false), (.op (.mv (.t 7)))⟩,
    ⟨(some 90), some (88, false), (.call 12 [(.t 89)])⟩,
    ⟨(some 91), some (88, false), (.op (.mv (.t 9)))⟩,
    ⟨(some 92), some (88, false), (.op (.bin .int false .lss (.t 90) (.t 91)))⟩,
    ⟨(some 93), none, (.op (.pick (.t 88) (.c (.b true)) (.t 92)))⟩,
    ⟨(some 94), none, (.op (.mv (.t 93)))⟩,
    ⟨(some 95), some (94, false), (.op (.mv (.t 7)))⟩,
    ⟨(some 96), some (94, false), (.call 12 [(.t 95)])⟩,
    ⟨(some 97), some (94, false), (.op (.mv (.t 9)))⟩,
    ⟨(some 98), some (94, false), (.op (.bin .int false .sub (.t 96) (.t 97)))⟩,
    ⟨(some 99), some (94, false), (.op (.mv (.t 1)))⟩,
    ⟨(some 100), some (94, false), (.op (.bin .int false .gtr (.t 98) (.t 99)))⟩,
    ⟨(some 101), none, (.op (.pick (.t 94) (.c (.b true)) (.t 100)))⟩,
    ⟨(some 102), none, (.op (.mv (.t 101)))⟩,
    ⟨(some 103), some (102, false), (.op (.mv (.t 7)))⟩,
    ⟨(some 104), some (102, false), (.call 12 [(.t 103)])⟩,
    ⟨(some 105), some (102, false), (.op (.mv (.t 0)))⟩,
    ⟨(some 106), some (102, false), (.op (.bin .int false .gtr (.t 104) (.t 105)))⟩,
    ⟨(some 107), none, (.op (.pick (.t 102) (.c (.b true)) (.t 106)))⟩])
   (.live [0, 7, 1, 9, 34, 35, 36, 107] (.cond (.t 107) (.seq (.region [⟨(some 6), none, (.op (.mv (.c (.b false))))⟩])
   (.ret))
   (.skip)))))))))))))))))))
   (.live [0, 7, 1, 9, 34, 35, 36] (.region [⟨(some 108), none, (.op (.bin .int true .add (.t 36) (.c (.i .i64 1))))⟩,
    ⟨(some 36), none, (.op (.mv (.t 108)))⟩]))))))
def c3 : IFunc := ⟨3, [.tmp 6],
  .seq (.region [⟨(some 6), none, (.op (.mv (.c (.b false))))⟩])
   (.live [1, 0, 2] (.seq (.seq (.region [⟨(some 15), none, (.call 7 [])⟩,
    ⟨(some 16), none, (.op (.un .not (.t 15)))⟩])
   (.live [1, 0, 2, 16] (.cond (.t 16) (.seq (.region [⟨(some 6), none, (.op (.mv (.c (.b false))))⟩])
   (.ret))
   (.skip))))
   (.live [1, 0, 2] (.seq (.region [⟨(some 18), none, (.op (.mv (.t 0)))⟩,
    ⟨(some 19), none, (.op (.mv (.t 1)))⟩,
    ⟨(some 20), none, (.call 8 [(.t 18), (.t 19), (.c (.i .u64 0))])⟩,
    ⟨(some 17), none, (.op (.mv (.t 20)))⟩,
    ⟨(some 21), none, (.op (.ext (.t 17) 0))⟩,
    ⟨(some 22), none, (.op (.ext (.t 17) 1))⟩,
    ⟨(some 7), none, (.op (.mv (.t 21)))⟩,
    ⟨(some 8), none, (.op (.mv (.t 22)))⟩])
   (.live [1, 0, 7, 2, 8] (.seq (.seq (.region [⟨(some 23), none, (.op (.mv (.t 8)))⟩,
    ⟨(some 24), none, (.op (.bin .int true .neq (.t 23) (.c (.i .i64 0))))⟩])
   (.live [1, 0, 7, 2, 24] (.cond (.t 24) (.seq (.region [⟨(some 25), none, (.op (.mv (.t 0)))⟩,
    ⟨(some 26), none, (.op (.bin .int true .gtr (.t 25) (.c (.i .u64 281474976710656))))⟩,
    ⟨(some 27), none, (.op (.mv (.t 26)))⟩,
    ⟨(some 28), some (27, false), (.op (.mv (.t 1)))⟩,
    ⟨(some 29), some (27, false), (.op (.bin .int true .gtr (.t 28) (.c (.i .u64 281474976710656))))⟩,
    ⟨(some 30), none, (.op (.pick (.t 27) (.c (.b true)) (.t 29)))⟩,
    ⟨(some 6), none, (.op (.mv (.t 30)))⟩])
   (.ret))
   (.skip))))
   (.live [0, 7, 1, 2] (.seq (.seq (.region [⟨(some 31), none, (.op (.mv (.t 2)))⟩,
    ⟨(some 32), none, (.op (.len .slice (.t 31)))⟩,
    ⟨(some 33), none, (.op (.bin .int true .gtr (.t 32) (.c (.i .i64 200))))⟩])
   (.live [0, 7, 1, 2, 33] (.cond (.t 33) (.seq (.region [⟨(some 6), none, (.op (.mv (.c (.b true))))⟩])
   (.ret))
   (.skip))))
   (.live [0, 7, 1, 2] (.seq (.region [⟨(some 9), none, (.op (.mv (.c (.i .u64 0))))⟩])
   (.live [0, 7, 1, 9, 2] (.seq (.seq (.region [⟨(some 34), none, (.op (.mv (.t 2)))⟩,
    ⟨(some 35), none, (.op (.len .slice (.t 34)))⟩,
    ⟨(some 36), none, (.op (.mv (.c (.i .i64 0))))⟩])
   (.live [0, 7, 1, 9, 34, 35, 36] (.block 0 (.loop [0, 7, 1, 9, 34, 35, 36] c3l0))))
   (.live [] (.seq (.region [⟨(some 6), none, (.op (.mv (.c (.b true))))⟩])
   (.ret))))))))))))))),
  []⟩

/- floodgate/floodgatelaw18.LedgerCrash -/
def c4l0 : ICode :=
  .seq (.region [⟨(some 44), none, (.op (.bin .int false .lss (.t 43) (.t 42)))⟩])
   (.live [1, 0, 9, 41, 42, 43, 10, 7, 44] (.seq (.cond (.t 44) (.skip)
   (.exit 0))
   (.live [1, 0, 9, 41, 42, 43, 10, 7] (.seq (.block 1 (.seq (.region [⟨(some 45), none, (.op (.iaddr none 1 (.t 41) (.t 43)))⟩,
    ⟨(some 46), none, (.op (.load none (.t 45)))⟩,
    ⟨(some 12), none, (.op (.mv (.t 46)))⟩])
   (.live [1, 0, 9, 41, 42, 43, 10, 7, 12] (.seq (.seq (.region [⟨(some 47), none, (.op (.mv (.t 12)))⟩,
    ⟨(some 48), none, (.op (.mv (.t 1)))⟩,
    ⟨(some 49), none, (.op (.bin .int false .gtr (.t 47) (.t 48)))⟩])
   (.live [1, 0, 9, 41, 42, 43, 10, 7, 12, 49] (.cond (.t 49) (.seq (.region [⟨(some 51), none, (.op (.mv (.t 0)))⟩,
    ⟨(some 52), none, (.op (.mv (.t 1)))⟩,
    ⟨(some 53), none, (.op (.mv (.t 7)))⟩,
    ⟨(some 54), none, (.call 12 [(.t 53)])⟩,
    ⟨(some 55), none, (.call 8 [(.t 51), (.t 52), (.t 54)])⟩,
    ⟨(some 50), none, (.op (.mv (.t 55)))⟩,
    ⟨(some 56), none, (.op (.ext (.t 50) 0))⟩,
    ⟨(some 57), none, (.op (.ext (.t 50) 1))⟩,
    ⟨(some 13), none, (.op (.mv (.t 56)))⟩,
    ⟨(some 14), none, (.op (.mv (.t 57)))⟩])
   (.live [1, 0, 9, 41, 42, 43, 10, 13, 14] (.seq (.seq (.region [⟨(some 58), none, (.op (.mv (.t 14)))⟩,
    ⟨(some 59), none, (.op (.bin .int true .neq (.t 58) (.c (.i .i64 0))))⟩])
   (.live [1, 0, 9, 41, 42, 43, 10, 13, 59] (.cond (.t 59) (.seq (.region [⟨(some 6), none, (.op (.mv (.c (.b false))))⟩])
   (.ret))
   (.skip))))
   (.live [1, 0, 9, 41, 42, 43, 10, 13] (.seq (.region [⟨(some 60), none, (.op (.mv (.t 13)))⟩,
    ⟨(some 7), none, (.op (.mv (.t 60)))⟩])
   (.live [1, 0, 9, 41, 42, 7, 43, 10] (.seq (.region [⟨(some 61), none, (.op (.mv (.t 10)))⟩,
    ⟨(some 62), none, (.op (.bin .int true .add (.t 61) (.c (.i .u64 1))))⟩,
    ⟨(some 10), none, (.op (.mv (.t 62)))⟩])
   (.exit 1))))))))
   (.skip))))
   (.live [1, 0, 9, 41, 42, 10, 7, 43, 12] (.seq (.region [⟨(some 63), none, (.op (.mv (.t 7)))⟩,
    ⟨(some 64), none, (.op (.mv (.t 12)))⟩,
    ⟨(some 65), none, (.call 9 [(.t 63), (.t 64)])⟩,
    ⟨(some 15), none, (.op (.mv (.t 65)))⟩])
   (.live [1, 0, 9, 41, 42, 10, 7, 43, 12, 15] (.seq (.seq (.region [⟨(some 66), none, (.op (.mv (.t 15)))⟩,
    ⟨(some 67), none, (.op (.bin .int true .eql (.t 66) (.c (.i .u64 0))))⟩,
    ⟨(some 68), none, (.op (.mv (.t 67)))⟩,
    ⟨(some 69), some (68, true), (.op (.mv (.t 7)))⟩,
    ⟨(some 70), some (68, true), (.op (.mv (.t 12)))⟩,
    ⟨(some 71), some (68, true), (.call 10 [(.t 69), (.t 70)])⟩,
    ⟨(some 72), some (68, true), (.op (.un .not (.t 71)))⟩,
    ⟨(some 73), none, (.op (.pick (.t 68) (.t 72) (.c (.b false))))⟩])
   (.live [1, 0, 9, 41, 42, 10, 7, 43, 12, 15, 73] (.cond (.t 73) (.seq (.seq (.region [⟨(some 74), none, (.op (.mv (.t 9)))⟩,
    ⟨(some 75), none, (.op (.mv (.t 1)))⟩,
    ⟨(some 76), none, (.op (.mv (.t 10)))⟩,
    ⟨(some 77), none, (.op (.bin .int false .mul (.t 75) (.t 76)))⟩,
    ⟨(some 78), none, (.op (.bin .int false .add (.t 74) (.t 77)))⟩,
    ⟨(some 79), none, (.op (.mv (.t 12)))⟩,
    ⟨(some 80), none, (.op (.bin .int false .add (.t 78) (.t 79)))⟩,
    ⟨(some 81), none, (.op (.mv (.t 0)))⟩,
    ⟨(some 82), none, (.op (.bin .int false .leq (.t 80) (.t 81)))⟩])
   (.live [1, 0, 9, 41, 42, 10, 7, 43, 82] (.cond (.t 82) (.seq (.region [⟨(some 6), none, (.op (.mv (.c (.b false))))⟩])
   (.ret))
   (.skip))))
   (.exit 1))
   (.skip))))
   (.live [1, 0, 41, 42, 10, 7, 43, 12, 9, 15] (.seq (.seq (.region [⟨(some 83), none, (.op (.mv (.t 7)))⟩,
    ⟨(some 84), none, (.op (.mv (.t 15)))⟩,
    ⟨(some 85), none, (.call 11 [(.t 83), (.t 84)])⟩,
    ⟨(some 86), none, (.op (.bin .int true .neq (.t 85) (.c (.i .i64 0))))⟩,
    ⟨(some 87), none, (.op (.mv (.t 86)))⟩,
    ⟨(some 88), some (87, false), (.op (.mv (.t 7)))⟩,
    ⟨(some 89), some (87, false), (.op (.mv (.t 12)))⟩,
    ⟨(some 90), some (87, false), (.call 13 [(.t 88), (.t 89)])⟩,
    ⟨(some 91), some (87, false), (.op (.un .not (.t 90)))⟩,
    ⟨(some 92), none, (.op (.pick (.t 87) (.c (.b true)) (.t 91)))⟩])
   (.live [1, 0, 41, 42, 10, 7, 43, 12, 9, 92] (.cond (.t 92) (.seq (.region [⟨(some 6), none, (.op (.mv (.c (.b false))))⟩])
   (.ret))
   (.skip))))
   (.live [1, 0, 41, 42, 10, 7, 43, 12, 9] (.seq (.region [⟨(some 93), none, (.op (.mv (.t 9)))⟩,
    ⟨(some 94), none, (.op (.mv (.t 12)))⟩,
    ⟨(some 95), none, (.op (.bin .int false .add (.t 93) (.t 94)))⟩,
    ⟨(some 9), none, (.op (.mv (.t 95)))⟩])
   (.live [1, 0, 9, 41, 42, 10, 7, 43] (.seq (.region [⟨(some 96), none, (.op (.mv (.t 7)))⟩,
    ⟨(some 97), none, (.call 14 [(.t 96)])⟩,
    ⟨(some 98), none, (.op (.mv (.t 0)))⟩,
    ⟨(some 99), none, (.op (.bin .int false .gtr (.t 97) (.t 98)))⟩,
    ⟨(some 100), none, (.op (.mv (.t 99)))⟩,
    ⟨(some 101), some (100, false), (.op (.mv (.t 7)))⟩,
    ⟨(some 102), some (100, false), (.call 14 [(.t 101)])⟩,
    ⟨(some 103), some (100, false), (.op (.mv (.t 9)))⟩,
    ⟨(some 104), some (100, false), (.op (.mv (.t 1)))⟩,
    ⟨(some 105), some (100, false), (.op (.mv (.t 10)))⟩,
    ⟨(some 106), some (100, false), (.op (.bin .int false .mul (.t 104) (.t 105)))⟩,
    ⟨(some 107), some (100, false), (.op (.bin .int false .add (.t 103) (.t 106)))⟩,
    ⟨(some 108), some (100, false), (.op (.bin .int false .gtr (.t 102) (.t 107)))⟩,
    ⟨(some 109), none, (.op (.pick (.t 100) (.c (.b true)) (.t 108)))⟩,
    ⟨(some 110), none, (.op (.mv (.t 109)))⟩,
    ⟨(some 111), some (110, false), (.op (.mv (.t 9)))⟩,
    ⟨(some 112), some (110, false), (.op (.mv (.t 0)))⟩,
    ⟨(some 113), some (110, false), (.op (.bin .int false .gtr (.t 111) (.t 112)))⟩,
    ⟨(some 114), none, (.op (.pick (.t 110) (.c (.b true)) (.t 113)))⟩])
   (.live [1, 0, 9, 41, 42, 10, 7, 43, 114] (.cond (.t 114) (.seq (.region [⟨(some 6), none, (.op (.mv (.c (.b false))))⟩])
   (.ret))
   (.skip)))))))))))))))))
   (.live [1, 0, 9, 41, 42, 10, 7, 43] (.region [⟨(some 115), none, (.op (.bin .int true .add (.t 43) (.c (.i .i64 1))))⟩,
    ⟨(some 43), none, (.op (.mv (.t 115)))⟩]))))))
def c4 : IFunc := ⟨3, [.tmp 6],
  .seq (.region [⟨(some 6), none, (.op (.mv (.c (.b false))))⟩])
   (.live [1, 0, 2] (.seq (.seq (.region [⟨(some 16), none, (.call 7 [])⟩,
    ⟨(some 17), none, (.op (.un .not (.t 16)))⟩])
   (.live [1, 0, 2, 17] (.cond (.t 17) (.seq (.region [⟨(some 6), none, (.op (.mv (.c (.b false))))⟩])
   (.ret))
   (.skip))))
   (.live [1, 0, 2] (.seq (.region [⟨(some 19), none, (.op (.mv (.t 0)))⟩,
    ⟨(some 20), none, (.op (.mv (.t 1)))⟩,
    ⟨(some 21), none, (.call 8 [(.t 19), (.t 20), (.c (.i .u64 0))])⟩,
    ⟨(some 18), none, (.op (.mv (.t 21)))⟩,
    ⟨(some 22), none, (.op (.ext (.t 18) 0))⟩,
    ⟨(some 23), none, (.op (.ext (.t 18) 1))⟩,
    ⟨(some 7), none, (.op (.mv (.t 22)))⟩,
    ⟨(some 8), none, (.op (.mv (.t 23)))⟩])
   (.live [1, 0, 8, 7, 2] (.seq (.seq (.region [⟨(some 24), none, (.op (.mv (.t 8)))⟩,
    ⟨(some 25), none, (.op (.bin .int true .neq (.t 24) (.c (.i .i64 0))))⟩,
    ⟨(some 26), none, (.op (.mv (.t 25)))⟩,
    ⟨(some 27), some (26, false), (.op (.mv (.t 2)))⟩,
    ⟨(some 28), some (26, false), (.op (.len .slice (.t 27)))⟩,
    ⟨(some 29), some (26, false), (.op (.bin .int true .gtr (.t 28) (.c (.i .i64 200))))⟩,
    ⟨(some 30), none, (.op (.pick (.t 26) (.c (.b true)) (.t 29)))⟩])
   (.live [1, 0, 8, 7, 2, 30] (.cond (.t 30) (.seq (.region [⟨(some 31), none, (.op (.mv (.t 8)))⟩,
    ⟨(some 32), none, (.op (.bin .int true .eql (.t 31) (.c (.i .i64 0))))⟩,
    ⟨(some 33), none, (.op (.mv (.t 32)))⟩,
    ⟨(some 34), some (33, false), (.op (.mv (.t 0)))⟩,
    ⟨(some 35), some (33, false), (.op (.bin .int true .gtr (.t 34) (.c (.i .u64 281474976710656))))⟩,
    ⟨(some 36), none, (.op (.pick (.t 33) (.c (.b true)) (.t 35)))⟩,
    ⟨(some 37), none, (.op (.mv (.t 36)))⟩,
    ⟨(some 38), some (37, false), (.op (.mv (.t 1)))⟩,
    ⟨(some 39), some (37, false), (.op (.bin .int true .gtr (.t 38) (.c (.i .u64 281474976710656))))⟩,
    ⟨(some 40), none, (.op (.pick (.t 37) (.c (.b true)) (.t 39)))⟩,
    ⟨(some 6), none, (.op (.mv (.t 40)))⟩])
   (.ret))
   (.skip))))
   (.live [1, 0, 7, 2] (.seq (.region [⟨(some 9), none, (.op (.mv (.c (.i .u64 0))))⟩,
    ⟨(some 10), none, (.op (.mv (.c (.i .u64 0))))⟩])
   (.live [1, 0, 9, 10, 7, 2] (.seq (.seq (.region [⟨(some 41), none, (.op (.mv (.t 2)))⟩,
    ⟨(some 42), none, (.op (.len .slice (.t 41)))⟩,
    ⟨(some 43), none, (.op (.mv (.c (.i .i64 0))))⟩])
   (.live [1, 0, 9, 41, 42, 43, 10, 7] (.block 0 (.loop [1, 0, 9, 41, 42, 43, 10, 7] c4l0))))
   (.live [] (.seq (.region [⟨(some 6), none, (.op (.mv (.c (.b true))))⟩])
   (.ret))))))))))))),
  []⟩

/- floodgate/floodgatelaw18.LedgerNames -/

def c5 : IFunc := ⟨0, [.tmp 0],
  .seq (.region [⟨(some 0), none, (.op (.mv (.c (.b false))))⟩])
   (.live [] (.seq (.region [⟨(some 6), none, (.call 8 [(.c (.i .u64 281474976710657)), (.c (.i .u64 0)), (.c (.i .u64 0))])⟩,
    ⟨(some 5), none, (.op (.mv (.t 6)))⟩,
    ⟨(some 7), none, (.op (.ext (.t 5) 0))⟩,
    ⟨(some 8), none, (.op (.ext (.t 5) 1))⟩,
    ⟨(some 1), none, (.op (.mv (.t 7)))⟩,
    ⟨(some 2), none, (.op (.mv (.t 8)))⟩])
   (.live [2, 1] (.seq (.region [⟨(some 10), none, (.call 8 [(.c (.i .u64 9)), (.c (.i .u64 5)), (.c (.i .u64 3))])⟩,
    ⟨(some 9), none, (.op (.mv (.t 10)))⟩,
    ⟨(some 11), none, (.op (.ext (.t 9) 0))⟩,
    ⟨(some 12), none, (.op (.ext (.t 9) 1))⟩,
    ⟨(some 3), none, (.op (.mv (.t 11)))⟩,
    ⟨(some 4), none, (.op (.mv (.t 12)))⟩])
   (.live [3, 4, 2, 1] (.seq (.region [⟨(some 13), none, (.call 7 [])⟩,
    ⟨(some 14), none, (.op (.mv (.t 13)))⟩,
    ⟨(some 15), none, (.op (.pick (.t 14) (.c (.b true)) (.c (.b false))))⟩,
    ⟨(some 16), none, (.op (.mv (.t 15)))⟩,
    ⟨(some 17), some (16, true), (.op (.mv (.t 1)))⟩,
    ⟨(some 18), some (16, true), (.op (.bin .ptr true .eql (.t 17) (.c .pn)))⟩,
    ⟨(some 19), none, (.op (.pick (.t 16) (.t 18) (.c (.b false))))⟩,
    ⟨(some 20), none, (.op (.mv (.t 19)))⟩,
    ⟨(some 21), some (20, true), (.op (.mv (.t 2)))⟩,
    ⟨(some 22), some (20, true), (.op (.bin .int true .eql (.t 21) (.c (.i .i64 181))))⟩,
    ⟨(some 23), none, (.op (.pick (.t 20) (.t 22) (.c (.b false))))⟩,
    ⟨(some 24), none, (.op (.mv (.t 23)))⟩,
    ⟨(some 25), some (24, true), (.op (.mv (.t 4)))⟩,
    ⟨(some 26), some (24, true), (.op (.bin .int true .eql (.t 25) (.c (.i .i64 0))))⟩,
    ⟨(some 27), none, (.op (.pick (.t 24) (.t 26) (.c (.b false))))⟩,
    ⟨(some 28), none, (.op (.mv (.t 27)))⟩,
    ⟨(some 29), some (28, true), (.op (.mv (.t 3)))⟩,
    ⟨(some 30), some (28, true), (.call 14 [(.t 29)])⟩,
    ⟨(some 31), some (28, true), (.op (.bin .int true .eql (.t 30) (.c (.i .u64 3))))⟩,
    ⟨(some 32), none, (.op (.pick (.t 28) (.t 31) (.c (.b false))))⟩,
    ⟨(some 33), none, (.op (.mv (.t 32)))⟩,
    ⟨(some 34), some (33, true), (.op (.mv (.t 3)))⟩,
    ⟨(some 35), some (33, true), (.call 11 [(.t 34), (.c (.i .u64 10))])⟩,
    ⟨(some 36), some (33, true), (.op (.bin .int true .eql (.t 35) (.c (.i .i64 181))))⟩,
    ⟨(some 37), none, (.op (.pick (.t 33) (.t 36) (.c (.b false))))⟩,
    ⟨(some 38), none, (.op (.mv (.t 37)))⟩,
    ⟨(some 39), some (38, true), (.op (.mv (.t 3)))⟩,
    ⟨(some 40), some (38, true), (.call 11 [(.t 39), (.c (.i .u64 2))])⟩,
    ⟨(some 41), some (38, true), (.op (.bin .int true .eql (.t 40) (.c (.i .i64 181))))⟩,
    ⟨(some 42), none, (.op (.pick (.t 38) (.t 41) (.c (.b false))))⟩,
    ⟨(some 43), none, (.op (.mv (.t 42)))⟩,
    ⟨(some 44), some (43, true), (.op (.mv (.t 3)))⟩,
    ⟨(some 45), some (43, true), (.call 15 [(.t 44), (.c (.i .u64 1)), (.c (.i .u64 281474976710657))])⟩,
    ⟨(some 46), some (43, true), (.op (.bin .int true .eql (.t 45) (.c (.i .i64 181))))⟩,
    ⟨(some 47), none, (.op (.pick (.t 43) (.t 46) (.c (.b false))))⟩,
    ⟨(some 0), none, (.op (.mv (.t 47)))⟩])
   (.ret))))))),
  []⟩

/- floodgate/floodgatelaw18.LedgerRuns -/
def c6d0 : List Stage :=
  [⟨[(⟨(some 122), none, (.op (.load (some 4) (.t 7)))⟩, 1), (⟨(some 123), none, (.op (.load (some 4) (.t 7)))⟩, 0), (⟨(some 124), none, (.op (.faddr 1 (.t 10)))⟩, 0), (⟨(some 125), none, (.op (.load none (.t 124)))⟩, 0)], none, some ⟨(some 126), none, (.call 21 [(.t 123), (.t 125)])⟩⟩,
    ⟨[], none, some ⟨(some 127), none, (.call 17 [(.t 122), (.t 126)])⟩⟩,
    ⟨[(⟨(some 121), none, (.op (.mv (.t 127)))⟩, 2), (⟨(some 128), none, (.op (.ext (.t 121) 0))⟩, 2), (⟨(some 129), none, (.op (.ext (.t 121) 1))⟩, 3)], none, some ⟨none, none, (.op (.store 4 (.t 7) (.t 128)))⟩⟩,
    ⟨[(⟨(some 12), none, (.op (.mv (.t 129)))⟩, 3)], none, none⟩]
def c6d0w : List (ROp × Bool) :=
  [(⟨(some 122), none, (.op (.load (some 4) (.t 7)))⟩, false), (⟨(some 123), none, (.op (.load (some 4) (.t 7)))⟩, false), (⟨(some 124), none, (.op (.faddr 1 (.t 10)))⟩, false), (⟨(some 125), none, (.op (.load none (.t 124)))⟩, false), (⟨(some 126), none, (.call 21 [(.t 123), (.t 125)])⟩, true), (⟨(some 127), none, (.call 17 [(.t 122), (.t 126)])⟩, false), (⟨(some 121), none, (.op (.mv (.t 127)))⟩, false), (⟨(some 128), none, (.op (.ext (.t 121) 0))⟩, false), (⟨(some 129), none, (.op (.ext (.t 121) 1))⟩, false), (⟨none, none, (.op (.store 4 (.t 7) (.t 128)))⟩, false), (⟨(some 12), none, (.op (.mv (.t 129)))⟩, false)]
theorem c6d0_w {P : Program} {O : Orc} {S0 : Mem} {rd : Bool} {e : Env} {S : Mem} {d : List Nat} {Q : Kont} : W P O S0 rd (.draw c6d0 []) e S d Q = wFl O c6d0w e S (normK Q d) := W_draw' (by kernel_rfl) (by kernel_rfl)
attribute [go_sem] c6d0_w c6d0w
def c6d1 : List Stage :=
  [⟨[(⟨(some 137), none, (.op (.mv (.t 11)))⟩, 0), (⟨(some 138), none, (.op (.mv (.t 12)))⟩, 0), (⟨(some 139), none, (.op (.bin .int false .neq (.t 137) (.t 138)))⟩, 0), (⟨(some 140), none, (.op (.mv (.t 139)))⟩, 0), (⟨(some 141), some (140, false), (.op (.mv (.t 13)))⟩, 0), (⟨(some 142), some (140, false), (.op (.mv (.t 14)))⟩, 0), (⟨(some 143), some (140, false), (.op (.bin .bool false .neq (.t 141) (.t 142)))⟩, 0), (⟨(some 144), none, (.op (.pick (.t 140) (.c (.b true)) (.t 143)))⟩, 0), (⟨(some 145), none, (.op (.mv (.t 144)))⟩, 0), (⟨(some 146), some (145, false), (.op (.mv (.t 5)))⟩, 0), (⟨(some 148), some (145, false), (.op (.faddr 3 (.t 7)))⟩, 1), (⟨(some 149), some (145, false), (.op (.load none (.t 148)))⟩, 1)], none, some ⟨(some 147), some (145, false), (.call 14 [(.t 146)])⟩⟩,
    ⟨[(⟨(some 150), some (145, false), (.op (.bin .int false .neq (.t 147) (.t 149)))⟩, 1), (⟨(some 151), none, (.op (.pick (.t 145) (.c (.b true)) (.t 150)))⟩, 1), (⟨(some 152), none, (.op (.mv (.t 151)))⟩, 1), (⟨(some 153), some (152, false), (.op (.mv (.t 5)))⟩, 1), (⟨(some 155), some (152, false), (.op (.faddr 2 (.t 7)))⟩, 2), (⟨(some 156), some (152, false), (.op (.load none (.t 155)))⟩, 2)], none, some ⟨(some 154), some (152, false), (.call 12 [(.t 153)])⟩⟩,
    ⟨[(⟨(some 157), some (152, false), (.op (.bin .int false .neq (.t 154) (.t 156)))⟩, 2), (⟨(some 158), none, (.op (.pick (.t 152) (.c (.b true)) (.t 157)))⟩, 2)], none, none⟩]
def c6d1w : List (ROp × Bool) :=
  [(⟨(some 137), none, (.op (.mv (.t 11)))⟩, false), (⟨(some 138), none, (.op (.mv (.t 12)))⟩, false), (⟨(some 139), none, (.op (.bin .int false .neq (.t 137) (.t 138)))⟩, false), (⟨(some 140), none, (.op (.mv (.t 139)))⟩, false), (⟨(some 141), some (140, false), (.op (.mv (.t 13)))⟩, false), (⟨(some 142), some (140, false), (.op (.mv (.t 14)))⟩, false), (⟨(some 143), some (140, false), (.op (.bin .bool false .neq (.t 141) (.t 142)))⟩, false), (⟨(some 144), none, (.op (.pick (.t 140) (.c (.b true)) (.t 143)))⟩, false), (⟨(some 145), none, (.op (.mv (.t 144)))⟩, false), (⟨(some 146), some (145, false), (.op (.mv (.t 5)))⟩, false), (⟨(some 148), some (145, false), (.op (.faddr 3 (.t 7)))⟩, false), (⟨(some 149), some (145, false), (.op (.load none (.t 148)))⟩, false), (⟨(some 147), some (145, false), (.call 14 [(.t 146)])⟩, true), (⟨(some 150), some (145, false), (.op (.bin .int false .neq (.t 147) (.t 149)))⟩, false), (⟨(some 151), none, (.op (.pick (.t 145) (.c (.b true)) (.t 150)))⟩, false), (⟨(some 152), none, (.op (.mv (.t 151)))⟩, false), (⟨(some 153), some (152, false), (.op (.mv (.t 5)))⟩, false), (⟨(some 155), some (152, false), (.op (.faddr 2 (.t 7)))⟩, false), (⟨(some 156), some (152, false), (.op (.load none (.t 155)))⟩, false), (⟨(some 154), some (152, false), (.call 12 [(.t 153)])⟩, true), (⟨(some 157), some (152, false), (.op (.bin .int false .neq (.t 154) (.t 156)))⟩, false), (⟨(some 158), none, (.op (.pick (.t 152) (.c (.b true)) (.t 157)))⟩, false)]
theorem c6d1_w {P : Program} {O : Orc} {S0 : Mem} {rd : Bool} {e : Env} {S : Mem} {d : List Nat} {Q : Kont} : W P O S0 rd (.draw c6d1 []) e S d Q = wFl O c6d1w e S (normK Q d) := W_draw' (by kernel_rfl) (by kernel_rfl)
attribute [go_sem] c6d1_w c6d1w
def c6d2 : List Stage :=
  [⟨[(⟨(some 159), none, (.op (.mv (.t 5)))⟩, 0), (⟨(some 160), none, (.op (.faddr 2 (.t 10)))⟩, 0), (⟨(some 161), none, (.op (.load none (.t 160)))⟩, 0), (⟨(some 163), none, (.op (.load (some 4) (.t 7)))⟩, 1), (⟨(some 164), none, (.op (.faddr 2 (.t 10)))⟩, 1), (⟨(some 165), none, (.op (.load none (.t 164)))⟩, 1)], none, some ⟨(some 162), none, (.call 10 [(.t 159), (.t 161)])⟩⟩,
    ⟨[], none, some ⟨(some 166), none, (.call 22 [(.t 163), (.t 165)])⟩⟩,
    ⟨[(⟨(some 167), none, (.op (.bin .bool false .neq (.t 162) (.t 166)))⟩, 2), (⟨(some 168), none, (.op (.mv (.t 167)))⟩, 2), (⟨(some 169), some (168, false), (.op (.mv (.t 5)))⟩, 2), (⟨(some 170), some (168, false), (.op (.faddr 2 (.t 10)))⟩, 2), (⟨(some 171), some (168, false), (.op (.load none (.t 170)))⟩, 2), (⟨(some 173), some (168, false), (.op (.load (some 4) (.t 7)))⟩, 3), (⟨(some 174), some (168, false), (.op (.faddr 2 (.t 10)))⟩, 3), (⟨(some 175), some (168, false), (.op (.load none (.t 174)))⟩, 3)], none, some ⟨(some 172), some (168, false), (.call 23 [(.t 169), (.t 171)])⟩⟩,
    ⟨[], none, some ⟨(some 176), some (168, false), (.call 24 [(.t 173), (.t 175)])⟩⟩,
    ⟨[(⟨(some 177), some (168, false), (.op (.bin .bool false .neq (.t 172) (.t 176)))⟩, 4), (⟨(some 178), none, (.op (.pick (.t 168) (.c (.b true)) (.t 177)))⟩, 4), (⟨(some 179), none, (.op (.mv (.t 178)))⟩, 4), (⟨(some 180), some (179, false), (.op (.mv (.t 5)))⟩, 4), (⟨(some 181), some (179, false), (.op (.faddr 2 (.t 10)))⟩, 4), (⟨(some 182), some (179, false), (.op (.load none (.t 181)))⟩, 4), (⟨(some 184), some (179, false), (.op (.load (some 4) (.t 7)))⟩, 5), (⟨(some 185), some (179, false), (.op (.faddr 2 (.t 10)))⟩, 5), (⟨(some 186), some (179, false), (.op (.load none (.t 185)))⟩, 5)], none, some ⟨(some 183), some (179, false), (.call 9 [(.t 180), (.t 182)])⟩⟩,
    ⟨[], none, some ⟨(some 187), some (179, false), (.call 21 [(.t 184), (.t 186)])⟩⟩,
    ⟨[(⟨(some 188), some (179, false), (.op (.bin .int false .neq (.t 183) (.t 187)))⟩, 6), (⟨(some 189), none, (.op (.pick (.t 179) (.c (.b true)) (.t 188)))⟩, 6)], none, none⟩]
def c6d2w : List (ROp × Bool) :=
  [(⟨(some 159), none, (.op (.mv (.t 5)))⟩, false), (⟨(some 160), none, (.op (.faddr 2 (.t 10)))⟩, false), (⟨(some 161), none, (.op (.load none (.t 160)))⟩, false), (⟨(some 163), none, (.op (.load (some 4) (.t 7)))⟩, false), (⟨(some 164), none, (.op (.faddr 2 (.t 10)))⟩, false), (⟨(some 165), none, (.op (.load none (.t 164)))⟩, false), (⟨(some 162), none, (.call 10 [(.t 159), (.t 161)])⟩, true), (⟨(some 166), none, (.call 22 [(.t 163), (.t 165)])⟩, false), (⟨(some 167), none, (.op (.bin .bool false .neq (.t 162) (.t 166)))⟩, false), (⟨(some 168), none, (.op (.mv (.t 167)))⟩, false), (⟨(some 169), some (168, false), (.op (.mv (.t 5)))⟩, false), (⟨(some 170), some (168, false), (.op (.faddr 2 (.t 10)))⟩, false), (⟨(some 171), some (168, false), (.op (.load none (.t 170)))⟩, false), (⟨(some 173), some (168, false), (.op (.load (some 4) (.t 7)))⟩, false), (⟨(some 174), some (168, false), (.op (.faddr 2 (.t 10)))⟩, false), (⟨(some 175), some (168, false), (.op (.load none (.t 174)))⟩, false), (⟨(some 172), some (168, false), (.call 23 [(.t 169), (.t 171)])⟩, true), (⟨(some 176), some (168, false), (.call 24 [(.t 173), (.t 175)])⟩, false), (⟨(some 177), some (168, false), (.op (.bin .bool false .neq (.t 172) (.t 176)))⟩, false), (⟨(some 178), none, (.op (.pick (.t 168) (.c (.b true)) (.t 177)))⟩, false), (⟨(some 179), none, (.op (.mv (.t 178)))⟩, false), (⟨(some 180), some (179, false), (.op (.mv (.t 5)))⟩, false), (⟨(some 181), some (179, false), (.op (.faddr 2 (.t 10)))⟩, false), (⟨(some 182), some (179, false), (.op (.load none (.t 181)))⟩, false), (⟨(some 184), some (179, false), (.op (.load (some 4) (.t 7)))⟩, false), (⟨(some 185), some (179, false), (.op (.faddr 2 (.t 10)))⟩, false), (⟨(some 186), some (179, false), (.op (.load none (.t 185)))⟩, false), (⟨(some 183), some (179, false), (.call 9 [(.t 180), (.t 182)])⟩, true), (⟨(some 187), some (179, false), (.call 21 [(.t 184), (.t 186)])⟩, false), (⟨(some 188), some (179, false), (.op (.bin .int false .neq (.t 183) (.t 187)))⟩, false), (⟨(some 189), none, (.op (.pick (.t 179) (.c (.b true)) (.t 188)))⟩, false)]
theorem c6d2_w {P : Program} {O : Orc} {S0 : Mem} {rd : Bool} {e : Env} {S : Mem} {d : List Nat} {Q : Kont} : W P O S0 rd (.draw c6d2 []) e S d Q = wFl O c6d2w e S (normK Q d) := W_draw' (by kernel_rfl) (by kernel_rfl)
attribute [go_sem] c6d2_w c6d2w
def c6l3 : ICode :=
  .seq (.region [⟨(some 55), none, (.op (.bin .int false .lss (.t 54) (.t 53)))⟩])
   (.live [5, 7, 52, 53, 54, 55] (.seq (.cond (.t 55) (.skip)
   (.exit 0))
   (.live [5, 7, 52, 53, 54] (.seq (.block 1 (.seq (.region [⟨(some 56), none, (.op (.iaddr none 3 (.t 52) (.t 54)))⟩,
    ⟨(some 57), none, (.op (.load (some 3) (.t 56)))⟩,
    ⟨(some 10), none, (.op (.fresh [(.i .i64 0), (.i .u64 0), (.i .u64 0)]))⟩,
    ⟨none, none, (.op (.store 3 (.t 10) (.t 57)))⟩])
   (.live [5, 7, 52, 53, 54, 10] (.seq (.region [⟨(some 11), none, (.op (.mv (.c (.i .i64 0))))⟩,
    ⟨(some 12), none, (.op (.mv (.c (.i .i64 0))))⟩])
   (.live [5, 7, 52, 53, 54, 10, 11, 12] (.seq (.region [⟨(some 13), none, (.op (.mv (.c (.b false))))⟩,
    ⟨(some 14), none, (.op (.mv (.c (.b false))))⟩])
   (.live [5, 7, 52, 53, 54, 10, 13, 14, 11, 12] (.seq (.seq (.region [⟨(some 58), none, (.op (.faddr 0 (.t 10)))⟩,
    ⟨(some 59), none, (.op (.load none (.t 58)))⟩])
   (.live [5, 7, 52, 53, 54, 10, 13, 14, 11, 12, 59] (.block 2 (.seq (.region [⟨(some 61), none, (.op (.bin .int true .eql (.t 59) (.c (.i .i64 0))))⟩,
    ⟨(some 60), none, (.op (.mv (.t 61)))⟩])
   (.live [5, 7, 52, 53, 54, 10, 13, 14, 11, 12, 59, 60] (.cond (.t 60) (.seq (.region [⟨(some 62), none, (.op (.mv (.t 5)))⟩,
    ⟨(some 63), none, (.op (.faddr 1 (.t 10)))⟩,
    ⟨(some 64), none, (.op (.load none (.t 63)))⟩,
    ⟨(some 65), none, (.call 11 [(.t 62), (.t 64)])⟩,
    ⟨(some 11), none, (.op (.mv (.t 65)))⟩])
   (.live [5, 7, 52, 53, 54, 10, 11, 13, 14] (.region [⟨(some 67), none, (.op (.load (some 4) (.t 7)))⟩,
    ⟨(some 68), none, (.op (.faddr 1 (.t 10)))⟩,
    ⟨(some 69), none, (.op (.load none (.t 68)))⟩,
    ⟨(some 70), none, (.call 17 [(.t 67), (.t 69)])⟩,
    ⟨(some 66), none, (.op (.mv (.t 70)))⟩,
    ⟨(some 71), none, (.op (.ext (.t 66) 0))⟩,
    ⟨(some 72), none, (.op (.ext (.t 66) 1))⟩,
    ⟨none, none, (.op (.store 4 (.t 7) (.t 71)))⟩,
    ⟨(some 12), none, (.op (.mv (.t 72)))⟩])))
   (.seq (.region [⟨(some 74), none, (.op (.bin .int true .eql (.t 59) (.c (.i .i64 1))))⟩,
    ⟨(some 73), none, (.op (.mv (.t 74)))⟩])
   (.live [5, 7, 52, 53, 54, 10, 11, 12, 13, 14, 59, 73] (.cond (.t 73) (.seq (.region [⟨(some 75), none, (.op (.mv (.t 5)))⟩,
    ⟨(some 76), none, (.op (.faddr 1 (.t 10)))⟩,
    ⟨(some 77), none, (.op (.load none (.t 76)))⟩,
    ⟨(some 78), none, (.call 13 [(.t 75), (.t 77)])⟩,
    ⟨(some 13), none, (.op (.mv (.t 78)))⟩])
   (.live [5, 7, 52, 53, 54, 10, 11, 12, 13] (.region [⟨(some 80), none, (.op (.load (some 4) (.t 7)))⟩,
    ⟨(some 81), none, (.op (.faddr 1 (.t 10)))⟩,
    ⟨(some 82), none, (.op (.load none (.t 81)))⟩,
    ⟨(some 83), none, (.call 18 [(.t 80), (.t 82)])⟩,
    ⟨(some 79), none, (.op (.mv (.t 83)))⟩,
    ⟨(some 84), none, (.op (.ext (.t 79) 0))⟩,
    ⟨(some 85), none, (.op (.ext (.t 79) 1))⟩,
    ⟨none, none, (.op (.store 4 (.t 7) (.t 84)))⟩,
    ⟨(some 14), none, (.op (.mv (.t 85)))⟩])))
   (.seq (.region [⟨(some 87), none, (.op (.bin .int true .eql (.t 59) (.c (.i .i64 2))))⟩,
    ⟨(some 86), none, (.op (.mv (.t 87)))⟩])
   (.live [5, 7, 52, 53, 54, 10, 11, 12, 13, 14, 59, 86] (.cond (.t 86) (.seq (.region [⟨(some 88), none, (.op (.mv (.t 5)))⟩,
    ⟨(some 89), none, (.call 19 [(.t 88)])⟩])
   (.live [5, 7, 52, 53, 54, 10, 11, 12, 13, 14] (.seq (.region [⟨(some 90), none, (.op (.faddr 2 (.t 7)))⟩,
    ⟨none, none, (.op (.store 1 (.t 90) (.c (.i .u64 0))))⟩])
   (.live [5, 7, 52, 53, 54, 10, 11, 12, 13, 14] (.region [⟨(some 91), none, (.op (.faddr 3 (.t 7)))⟩,
    ⟨none, none, (.op (.store 1 (.t 91) (.c (.i .u64 0))))⟩])))))
   (.seq (.region [⟨(some 93), none, (.op (.bin .int true .eql (.t 59) (.c (.i .i64 3))))⟩,
    ⟨(some 92), none, (.op (.mv (.t 93)))⟩])
   (.live [5, 7, 52, 53, 54, 10, 13, 14, 11, 12, 59, 92] (.cond (.t 92) (.seq (.region [⟨(some 94), none, (.op (.mv (.t 5)))⟩,
    ⟨(some 95), none, (.op (.faddr 1 (.t 10)))⟩,
    ⟨(some 96), none, (.op (.load none (.t 95)))⟩,
    ⟨(some 97), none, (.op (.faddr 2 (.t 10)))⟩,
    ⟨(some 98), none, (.op (.load none (.t 97)))⟩,
    ⟨(some 99), none, (.call 15 [(.t 94), (.t 96), (.t 98)])⟩,
    ⟨(some 11), none, (.op (.mv (.t 99)))⟩])
   (.live [5, 7, 52, 53, 54, 10, 11, 13, 14] (.region [⟨(some 101), none, (.op (.load (some 4) (.t 7)))⟩,
    ⟨(some 102), none, (.op (.faddr 1 (.t 10)))⟩,
    ⟨(some 103), none, (.op (.load none (.t 102)))⟩,
    ⟨(some 104), none, (.op (.faddr 2 (.t 10)))⟩,
    ⟨(some 105), none, (.op (.load none (.t 104)))⟩,
    ⟨(some 106), none, (.call 20 [(.t 101), (.t 103), (.t 105)])⟩,
    ⟨(some 100), none, (.op (.mv (.t 106)))⟩,
    ⟨(some 107), none, (.op (.ext (.t 100) 0))⟩,
    ⟨(some 108), none, (.op (.ext (.t 100) 1))⟩,
    ⟨none, none, (.op (.store 4 (.t 7) (.t 107)))⟩,
    ⟨(some 12), none, (.op (.mv (.t 108)))⟩])))
   (.seq (.region [⟨(some 110), none, (.op (.bin .int true .eql (.t 59) (.c (.i .i64 4))))⟩,
    ⟨(some 109), none, (.op (.mv (.t 110)))⟩])
   (.live [5, 7, 52, 53, 54, 10, 11, 12, 13, 14, 109] (.cond (.t 109) (.seq (.region [⟨(some 111), none, (.op (.mv (.t 5)))⟩,
    ⟨(some 112), none, (.op (.mv (.t 5)))⟩,
    ⟨(some 113), none, (.op (.faddr 1 (.t 10)))⟩,
    ⟨(some 114), none, (.op (.load none (.t 113)))⟩,
    ⟨(some 115), none, (.call 9 [(.t 112), (.t 114)])⟩,
    ⟨(some 116), none, (.call 11 [(.t 111), (.t 115)])⟩,
    ⟨(some 11), none, (.op (.mv (.t 116)))⟩])
   (.live [5, 7, 52, 53, 54, 10, 11] (.seq (.region [⟨(some 117), none, (.op (.mv (.t 5)))⟩,
    ⟨(some 118), none, (.op (.faddr 1 (.t 10)))⟩,
    ⟨(some 119), none, (.op (.load none (.t 118)))⟩,
    ⟨(some 120), none, (.call 13 [(.t 117), (.t 119)])⟩,
    ⟨(some 13), none, (.op (.mv (.t 120)))⟩])
   (.live [5, 7, 52, 53, 54, 10, 11, 13] (.seq (.draw c6d0 [])
   (.live [5, 7, 52, 53, 54, 10, 11, 12, 13] (.region [⟨(some 131), none, (.op (.load (some 4) (.t 7)))⟩,
    ⟨(some 132), none, (.op (.faddr 1 (.t 10)))⟩,
    ⟨(some 133), none, (.op (.load none (.t 132)))⟩,
    ⟨(some 134), none, (.call 18 [(.t 131), (.t 133)])⟩,
    ⟨(some 130), none, (.op (.mv (.t 134)))⟩,
    ⟨(some 135), none, (.op (.ext (.t 130) 0))⟩,
    ⟨(some 136), none, (.op (.ext (.t 130) 1))⟩,
    ⟨none, none, (.op (.store 4 (.t 7) (.t 135)))⟩,
    ⟨(some 14), none, (.op (.mv (.t 136)))⟩])))))))
   (.skip)))))))))))))))))))
   (.live [5, 7, 52, 53, 54, 10, 11, 12, 13, 14] (.seq (.seq (.draw c6d1 [])
   (.live [5, 7, 52, 53, 54, 10, 158] (.cond (.t 158) (.seq (.region [⟨(some 4), none, (.op (.mv (.c (.b false))))⟩])
   (.ret))
   (.skip))))
   (.live [5, 7, 52, 53, 54, 10] (.seq (.draw c6d2 [])
   (.live [5, 7, 52, 53, 54, 189] (.cond (.t 189) (.seq (.region [⟨(some 4), none, (.op (.mv (.c (.b false))))⟩])
   (.ret))
   (.skip)))))))))))))))
   (.live [5, 7, 52, 53, 54] (.region [⟨(some 190), none, (.op (.bin .int true .add (.t 54) (.c (.i .i64 1))))⟩,
    ⟨(some 54), none, (.op (.mv (.t 190)))⟩]))))))
def c6 : IFunc := ⟨2, [.tmp 4],
  .seq (.region [⟨(some 2), none, (.op (.box (.t 0)))⟩,
    ⟨(some 4), none, (.op (.mv (.c (.b false))))⟩])
   (.live [1, 2] (.seq (.seq (.region [⟨(some 15), none, (.call 7 [])⟩,
    ⟨(some 16), none, (.op (.un .not (.t 15)))⟩])
   (.live [1, 2, 16] (.cond (.t 16) (.seq (.region [⟨(some 4), none, (.op (.mv (.c (.b false))))⟩])
   (.ret))
   (.skip))))
   (.live [1, 2] (.seq (.seq (.region [⟨(some 17), none, (.op (.mv (.t 1)))⟩,
    ⟨(some 18), none, (.op (.len .slice (.t 17)))⟩,
    ⟨(some 19), none, (.op (.bin .int true .gtr (.t 18) (.c (.i .i64 100))))⟩])
   (.live [1, 2, 19] (.cond (.t 19) (.seq (.region [⟨(some 4), none, (.op (.mv (.c (.b true))))⟩])
   (.ret))
   (.skip))))
   (.live [1, 2] (.seq (.region [⟨(some 21), none, (.op (.iaddr (some 3) 1 (.t 2) (.c (.i .i64 0))))⟩,
    ⟨(some 22), none, (.op (.load none (.t 21)))⟩,
    ⟨(some 23), none, (.op (.iaddr (some 3) 1 (.t 2) (.c (.i .i64 1))))⟩,
    ⟨(some 24), none, (.op (.load none (.t 23)))⟩,
    ⟨(some 25), none, (.op (.iaddr (some 3) 1 (.t 2) (.c (.i .i64 2))))⟩,
    ⟨(some 26), none, (.op (.load none (.t 25)))⟩,
    ⟨(some 27), none, (.call 8 [(.t 22), (.t 24), (.t 26)])⟩,
    ⟨(some 20), none, (.op (.mv (.t 27)))⟩,
    ⟨(some 28), none, (.op (.ext (.t 20) 0))⟩,
    ⟨(some 29), none, (.op (.ext (.t 20) 1))⟩,
    ⟨(some 5), none, (.op (.mv (.t 28)))⟩,
    ⟨(some 6), none, (.op (.mv (.t 29)))⟩])
   (.live [5, 1, 6, 2] (.seq (.region [⟨(some 31), none, (.op (.iaddr (some 3) 1 (.t 2) (.c (.i .i64 0))))⟩,
    ⟨(some 32), none, (.op (.load none (.t 31)))⟩,
    ⟨(some 33), none, (.op (.iaddr (some 3) 1 (.t 2) (.c (.i .i64 1))))⟩,
    ⟨(some 34), none, (.op (.load none (.t 33)))⟩,
    ⟨(some 35), none, (.op (.iaddr (some 3) 1 (.t 2) (.c (.i .i64 2))))⟩,
    ⟨(some 36), none, (.op (.load none (.t 35)))⟩,
    ⟨(some 37), none, (.call 16 [(.t 32), (.t 34), (.t 36)])⟩,
    ⟨(some 30), none, (.op (.mv (.t 37)))⟩,
    ⟨(some 38), none, (.op (.ext (.t 30) 0))⟩,
    ⟨(some 39), none, (.op (.ext (.t 30) 1))⟩,
    ⟨(some 7), none, (.op (.fresh [(.i .u64 0), (.i .u64 0), (.i .u64 0), (.i .u64 0)]))⟩,
    ⟨none, none, (.op (.store 4 (.t 7) (.t 38)))⟩,
    ⟨(some 8), none, (.op (.mv (.t 39)))⟩])
   (.live [5, 7, 1, 6, 8] (.seq (.seq (.region [⟨(some 40), none, (.op (.mv (.t 6)))⟩,
    ⟨(some 41), none, (.op (.mv (.t 8)))⟩,
    ⟨(some 42), none, (.op (.bin .int false .neq (.t 40) (.t 41)))⟩,
    ⟨(some 43), none, (.op (.mv (.t 42)))⟩,
    ⟨(some 44), some (43, false), (.op (.mv (.t 5)))⟩,
    ⟨(some 45), some (43, false), (.op (.bin .ptr true .eql (.t 44) (.c .pn)))⟩,
    ⟨(some 46), some (43, false), (.op (.mv (.t 6)))⟩,
    ⟨(some 47), some (43, false), (.op (.bin .int true .neq (.t 46) (.c (.i .i64 0))))⟩,
    ⟨(some 48), some (43, false), (.op (.bin .bool false .neq (.t 45) (.t 47)))⟩,
    ⟨(some 49), none, (.op (.pick (.t 43) (.c (.b true)) (.t 48)))⟩])
   (.live [5, 7, 1, 6, 49] (.cond (.t 49) (.seq (.region [⟨(some 4), none, (.op (.mv (.c (.b false))))⟩])
   (.ret))
   (.skip))))
   (.live [5, 7, 1, 6] (.seq (.seq (.region [⟨(some 50), none, (.op (.mv (.t 6)))⟩,
    ⟨(some 51), none, (.op (.bin .int true .neq (.t 50) (.c (.i .i64 0))))⟩])
   (.live [5, 7, 1, 51] (.cond (.t 51) (.seq (.region [⟨(some 4), none, (.op (.mv (.c (.b true))))⟩])
   (.ret))
   (.skip))))
   (.live [5, 7, 1] (.seq (.seq (.region [⟨(some 52), none, (.op (.mv (.t 1)))⟩,
    ⟨(some 53), none, (.op (.len .slice (.t 52)))⟩,
    ⟨(some 54), none, (.op (.mv (.c (.i .i64 0))))⟩])
   (.live [5, 7, 52, 53, 54] (.block 0 (.loop [5, 7, 52, 53, 54] c6l3))))
   (.live [] (.seq (.region [⟨(some 4), none, (.op (.mv (.c (.b true))))⟩])
   (.ret))))))))))))))))),
  []⟩

/- floodgate/floodgatelaw18.ledgerAlive -/

def c7 : IFunc := ⟨0, [.tmp 0],
  .seq (.region [⟨(some 0), none, (.op (.mv (.c (.b false))))⟩])
   (.live [] (.seq (.region [⟨(some 7), none, (.call 8 [(.c (.i .u64 4000)), (.c (.i .u64 1500)), (.c (.i .u64 0))])⟩,
    ⟨(some 6), none, (.op (.mv (.t 7)))⟩,
    ⟨(some 8), none, (.op (.ext (.t 6) 0))⟩,
    ⟨(some 9), none, (.op (.ext (.t 6) 1))⟩,
    ⟨(some 1), none, (.op (.mv (.t 8)))⟩,
    ⟨(some 2), none, (.op (.mv (.t 9)))⟩])
   (.live [1, 2] (.seq (.seq (.region [⟨(some 10), none, (.op (.mv (.t 2)))⟩,
    ⟨(some 11), none, (.op (.bin .int true .neq (.t 10) (.c (.i .i64 0))))⟩,
    ⟨(some 12), none, (.op (.mv (.t 11)))⟩,
    ⟨(some 13), some (12, false), (.op (.mv (.t 1)))⟩,
    ⟨(some 14), some (12, false), (.op (.bin .ptr true .eql (.t 13) (.c .pn)))⟩,
    ⟨(some 15), none, (.op (.pick (.t 12) (.c (.b true)) (.t 14)))⟩])
   (.live [1, 15] (.cond (.t 15) (.seq (.region [⟨(some 0), none, (.op (.mv (.c (.b false))))⟩])
   (.ret))
   (.skip))))
   (.live [1] (.seq (.region [⟨(some 16), none, (.op (.mv (.t 1)))⟩,
    ⟨(some 17), none, (.call 9 [(.t 16), (.c (.i .u64 100))])⟩,
    ⟨(some 3), none, (.op (.mv (.t 17)))⟩])
   (.live [1, 3] (.seq (.region [⟨(some 18), none, (.op (.mv (.t 1)))⟩,
    ⟨(some 19), none, (.call 11 [(.t 18), (.c (.i .u64 1500))])⟩,
    ⟨(some 4), none, (.op (.mv (.t 19)))⟩])
   (.live [1, 4, 3] (.seq (.region [⟨(some 20), none, (.op (.mv (.t 1)))⟩,
    ⟨(some 21), none, (.call 13 [(.t 20), (.c (.i .u64 100))])⟩,
    ⟨(some 5), none, (.op (.mv (.t 21)))⟩])
   (.live [1, 5, 4, 3] (.seq (.region [⟨(some 22), none, (.op (.mv (.t 3)))⟩,
    ⟨(some 23), none, (.op (.bin .int true .eql (.t 22) (.c (.i .u64 1500))))⟩,
    ⟨(some 24), none, (.op (.mv (.t 23)))⟩,
    ⟨(some 25), some (24, true), (.op (.mv (.t 4)))⟩,
    ⟨(some 26), some (24, true), (.op (.bin .int true .eql (.t 25) (.c (.i .i64 0))))⟩,
    ⟨(some 27), none, (.op (.pick (.t 24) (.t 26) (.c (.b false))))⟩,
    ⟨(some 28), none, (.op (.mv (.t 27)))⟩,
    ⟨(some 29), some (28, true), (.op (.mv (.t 5)))⟩,
    ⟨(some 30), none, (.op (.pick (.t 28) (.t 29) (.c (.b false))))⟩,
    ⟨(some 31), none, (.op (.mv (.t 30)))⟩,
    ⟨(some 32), some (31, true), (.op (.mv (.t 1)))⟩,
    ⟨(some 33), some (31, true), (.call 9 [(.t 32), (.c (.i .u64 1450))])⟩,
    ⟨(some 34), some (31, true), (.op (.bin .int true .eql (.t 33) (.c (.i .u64 1600))))⟩,
    ⟨(some 35), none, (.op (.pick (.t 31) (.t 34) (.c (.b false))))⟩,
    ⟨(some 36), none, (.op (.mv (.t 35)))⟩,
    ⟨(some 37), some (36, true), (.op (.mv (.t 1)))⟩,
    ⟨(some 38), some (36, true), (.call 14 [(.t 37)])⟩,
    ⟨(some 39), some (36, true), (.op (.bin .int true .eql (.t 38) (.c (.i .u64 100))))⟩,
    ⟨(some 40), none, (.op (.pick (.t 36) (.t 39) (.c (.b false))))⟩,
    ⟨(some 41), none, (.op (.mv (.t 40)))⟩,
    ⟨(some 42), some (41, true), (.op (.mv (.t 1)))⟩,
    ⟨(some 43), some (41, true), (.call 12 [(.t 42)])⟩,
    ⟨(some 44), some (41, true), (.op (.bin .int true .eql (.t 43) (.c (.i .u64 1500))))⟩,
    ⟨(some 45), none, (.op (.pick (.t 41) (.t 44) (.c (.b false))))⟩,
    ⟨(some 0), none, (.op (.mv (.t 45)))⟩])
   (.ret))))))))))))),
  []⟩

/- floodgate/ledger.New -/

def c8 : IFunc := ⟨3, [.tmp 6, .tmp 7],
  .seq (.region [⟨(some 6), none, (.op (.mv (.c .pn)))⟩,
    ⟨(some 7), none, (.op (.mv (.c (.i .i64 0))))⟩])
   (.live [2, 1, 0] (.seq (.seq (.region [⟨(some 9), none, (.op (.mv (.t 0)))⟩,
    ⟨(some 10), none, (.op (.mv (.t 1)))⟩,
    ⟨(some 11), none, (.op (.mv (.t 2)))⟩,
    ⟨(some 12), none, (.op (.bslice [(.i .u64 0)] 3 [(0, 1, (.t 9)), (1, 1, (.t 10)), (2, 1, (.t 11))]))⟩,
    ⟨(some 13), none, (.call 25 [(.t 12)])⟩,
    ⟨(some 8), none, (.op (.mv (.t 13)))⟩])
   (.live [8, 2, 1, 0] (.seq (.region [⟨(some 14), none, (.op (.mv (.t 8)))⟩,
    ⟨(some 15), none, (.op (.bin .int true .neq (.t 14) (.c (.i .i64 0))))⟩])
   (.live [8, 2, 1, 0, 15] (.cond (.t 15) (.seq (.region [⟨(some 16), none, (.op (.mv (.t 8)))⟩,
    ⟨(some 6), none, (.op (.mv (.c .pn)))⟩,
    ⟨(some 7), none, (.op (.mv (.t 16)))⟩])
   (.ret))
   (.skip))))))
   (.live [2, 1, 0] (.seq (.region [⟨(some 17), none, (.op (.mv (.t 0)))⟩,
    ⟨(some 18), none, (.op (.mv (.t 1)))⟩,
    ⟨(some 19), none, (.op (.mv (.t 2)))⟩,
    ⟨(some 20), none, (.op (.mv (.t 2)))⟩,
    ⟨(some 21), none, (.op (.build [(.i .u64 0), (.i .u64 0), (.i .u64 0), (.i .u64 0)] [(0, 1, (.t 17)), (1, 1, (.t 18)), (2, 1, (.t 19)), (3, 1, (.t 20))]))⟩,
    ⟨(some 22), none, (.op (.box (.t 21)))⟩,
    ⟨(some 6), none, (.op (.mv (.t 22)))⟩,
    ⟨(some 7), none, (.op (.mv (.c (.i .i64 0))))⟩])
   (.ret))))),
  []⟩

/- (*floodgate/ledger.Ledger).Want -/
def c9d0 : List Stage :=
  [⟨[(⟨(some 18), none, (.op (.mv (.t 0)))⟩, 0), (⟨(some 19), none, (.op (.nilck (.t 18)))⟩, 0), (⟨(some 20), none, (.op (.faddr 3 (.t 19)))⟩, 0), (⟨(some 21), none, (.op (.load none (.t 20)))⟩, 0), (⟨(some 22), none, (.op (.mv (.t 0)))⟩, 0), (⟨(some 23), none, (.op (.nilck (.t 22)))⟩, 0), (⟨(some 24), none, (.op (.faddr 1 (.t 23)))⟩, 0), (⟨(some 25), none, (.op (.load none (.t 24)))⟩, 0), (⟨(some 26), none, (.op (.bin .int false .add (.t 21) (.t 25)))⟩, 0), (⟨(some 27), none, (.op (.mv (.t 0)))⟩, 0), (⟨(some 28), none, (.op (.nilck (.t 27)))⟩, 0), (⟨(some 29), none, (.op (.faddr 0 (.t 28)))⟩, 0), (⟨(some 30), none, (.op (.load none (.t 29)))⟩, 0), (⟨(some 31), none, (.op (.mm false [(.t 26), (.t 30)]))⟩, 0), (⟨(some 32), none, (.op (.mv (.t 0)))⟩, 0), (⟨(some 33), none, (.op (.nilck (.t 32)))⟩, 0), (⟨(some 34), none, (.op (.faddr 3 (.t 33)))⟩, 0), (⟨(some 35), none, (.op (.load none (.t 34)))⟩, 0), (⟨(some 36), none, (.op (.mv (.t 1)))⟩, 0), (⟨(some 37), none, (.op (.bin .int false .add (.t 35) (.t 36)))⟩, 0), (⟨(some 38), none, (.op (.mm true [(.t 31), (.t 37)]))⟩, 0), (⟨(some 4), none, (.op (.mv (.t 38)))⟩, 0)], none, none⟩]
def c9d0w : List (ROp × Bool) :=
  [(⟨(some 18), none, (.op (.mv (.t 0)))⟩, false), (⟨(some 19), none, (.op (.nilck (.t 18)))⟩, false), (⟨(some 20), none, (.op (.faddr 3 (.t 19)))⟩, false), (⟨(some 21), none, (.op (.load none (.t 20)))⟩, false), (⟨(some 22), none, (.op (.mv (.t 0)))⟩, false), (⟨(some 23), none, (.op (.nilck (.t 22)))⟩, false), (⟨(some 24), none, (.op (.faddr 1 (.t 23)))⟩, false), (⟨(some 25), none, (.op (.load none (.t 24)))⟩, false), (⟨(some 26), none, (.op (.bin .int false .add (.t 21) (.t 25)))⟩, false), (⟨(some 27), none, (.op (.mv (.t 0)))⟩, false), (⟨(some 28), none, (.op (.nilck (.t 27)))⟩, false), (⟨(some 29), none, (.op (.faddr 0 (.t 28)))⟩, false), (⟨(some 30), none, (.op (.load none (.t 29)))⟩, false), (⟨(some 31), none, (.op (.mm false [(.t 26), (.t 30)]))⟩, false), (⟨(some 32), none, (.op (.mv (.t 0)))⟩, false), (⟨(some 33), none, (.op (.nilck (.t 32)))⟩, false), (⟨(some 34), none, (.op (.faddr 3 (.t 33)))⟩, false), (⟨(some 35), none, (.op (.load none (.t 34)))⟩, false), (⟨(some 36), none, (.op (.mv (.t 1)))⟩, false), (⟨(some 37), none, (.op (.bin .int false .add (.t 35) (.t 36)))⟩, false), (⟨(some 38), none, (.op (.mm true [(.t 31), (.t 37)]))⟩, false), (⟨(some 4), none, (.op (.mv (.t 38)))⟩, false)]
theorem c9d0_w {P : Program} {O : Orc} {S0 : Mem} {rd : Bool} {e : Env} {S : Mem} {d : List Nat} {Q : Kont} : W P O S0 rd (.draw c9d0 []) e S d Q = wFl O c9d0w e S (normK Q d) := W_draw' (by kernel_rfl) (by kernel_rfl)
attribute [go_sem] c9d0_w c9d0w
def c9 : IFunc := ⟨2, [.tmp 4],
  .seq (.region [⟨(some 4), none, (.op (.mv (.c (.i .u64 0))))⟩])
   (.live [0, 1] (.seq (.block 0 (.seq (.region [⟨(some 6), none, (.op (.mv (.t 0)))⟩,
    ⟨(some 7), none, (.op (.mv (.t 1)))⟩,
    ⟨(some 8), none, (.call 10 [(.t 6), (.t 7)])⟩,
    ⟨(some 5), none, (.op (.mv (.t 8)))⟩])
   (.live [0, 1, 5] (.cond (.t 5) (.seq (.region [⟨(some 9), none, (.op (.mv (.t 0)))⟩,
    ⟨(some 10), none, (.op (.nilck (.t 9)))⟩,
    ⟨(some 11), none, (.op (.faddr 2 (.t 10)))⟩,
    ⟨(some 12), none, (.op (.load none (.t 11)))⟩,
    ⟨(some 4), none, (.op (.mv (.t 12)))⟩])
   (.ret))
   (.seq (.region [⟨(some 14), none, (.op (.mv (.t 0)))⟩,
    ⟨(some 15), none, (.op (.mv (.t 1)))⟩,
    ⟨(some 16), none, (.call 23 [(.t 14), (.t 15)])⟩,
    ⟨(some 17), none, (.op (.un .not (.t 16)))⟩,
    ⟨(some 13), none, (.op (.mv (.t 17)))⟩])
   (.live [0, 1, 13] (.cond (.t 13) (.seq (.region [⟨(some 4), none, (.op (.mv (.c (.i .u64 0))))⟩])
   (.ret))
   (.skip))))))))
   (.live [0, 1] (.seq (.draw c9d0 [])
   (.ret))))),
  []⟩

/- (*floodgate/ledger.Ledger).Covers -/
def c10d0 : List Stage :=
  [⟨[(⟨(some 5), none, (.op (.mv (.t 1)))⟩, 0), (⟨(some 6), none, (.op (.mv (.t 0)))⟩, 0), (⟨(some 7), none, (.op (.nilck (.t 6)))⟩, 0), (⟨(some 8), none, (.op (.faddr 2 (.t 7)))⟩, 0), (⟨(some 9), none, (.op (.load none (.t 8)))⟩, 0), (⟨(some 10), none, (.op (.mv (.t 0)))⟩, 0), (⟨(some 11), none, (.op (.nilck (.t 10)))⟩, 0), (⟨(some 12), none, (.op (.faddr 3 (.t 11)))⟩, 0), (⟨(some 13), none, (.op (.load none (.t 12)))⟩, 0), (⟨(some 14), none, (.op (.bin .int false .sub (.t 9) (.t 13)))⟩, 0), (⟨(some 15), none, (.op (.bin .int false .leq (.t 5) (.t 14)))⟩, 0), (⟨(some 4), none, (.op (.mv (.t 15)))⟩, 0)], none, none⟩]
def c10d0w : List (ROp × Bool) :=
  [(⟨(some 5), none, (.op (.mv (.t 1)))⟩, false), (⟨(some 6), none, (.op (.mv (.t 0)))⟩, false), (⟨(some 7), none, (.op (.nilck (.t 6)))⟩, false), (⟨(some 8), none, (.op (.faddr 2 (.t 7)))⟩, false), (⟨(some 9), none, (.op (.load none (.t 8)))⟩, false), (⟨(some 10), none, (.op (.mv (.t 0)))⟩, false), (⟨(some 11), none, (.op (.nilck (.t 10)))⟩, false), (⟨(some 12), none, (.op (.faddr 3 (.t 11)))⟩, false), (⟨(some 13), none, (.op (.load none (.t 12)))⟩, false), (⟨(some 14), none, (.op (.bin .int false .sub (.t 9) (.t 13)))⟩, false), (⟨(some 15), none, (.op (.bin .int false .leq (.t 5) (.t 14)))⟩, false), (⟨(some 4), none, (.op (.mv (.t 15)))⟩, false)]
theorem c10d0_w {P : Program} {O : Orc} {S0 : Mem} {rd : Bool} {e : Env} {S : Mem} {d : List Nat} {Q : Kont} : W P O S0 rd (.draw c10d0 []) e S d Q = wFl O c10d0w e S (normK Q d) := W_draw' (by kernel_rfl) (by kernel_rfl)
attribute [go_sem] c10d0_w c10d0w
def c10 : IFunc := ⟨2, [.tmp 4],
  .seq (.region [⟨(some 4), none, (.op (.mv (.c (.b false))))⟩])
   (.live [1, 0] (.seq (.draw c10d0 [])
   (.ret))),
  []⟩

/- (*floodgate/ledger.Ledger).Grant -/

def c11 : IFunc := ⟨2, [.tmp 4],
  .seq (.region [⟨(some 4), none, (.op (.mv (.c (.i .i64 0))))⟩])
   (.live [1, 0] (.seq (.seq (.region [⟨(some 5), none, (.op (.mv (.t 1)))⟩,
    ⟨(some 6), none, (.op (.mv (.t 0)))⟩,
    ⟨(some 7), none, (.op (.nilck (.t 6)))⟩,
    ⟨(some 8), none, (.op (.faddr 2 (.t 7)))⟩,
    ⟨(some 9), none, (.op (.load none (.t 8)))⟩,
    ⟨(some 10), none, (.op (.bin .int false .lss (.t 5) (.t 9)))⟩,
    ⟨(some 11), none, (.op (.mv (.t 10)))⟩,
    ⟨(some 12), some (11, false), (.op (.mv (.t 1)))⟩,
    ⟨(some 13), some (11, false), (.op (.mv (.t 0)))⟩,
    ⟨(some 14), some (11, false), (.op (.nilck (.t 13)))⟩,
    ⟨(some 15), some (11, false), (.op (.faddr 0 (.t 14)))⟩,
    ⟨(some 16), some (11, false), (.op (.load none (.t 15)))⟩,
    ⟨(some 17), some (11, false), (.op (.bin .int false .gtr (.t 12) (.t 16)))⟩,
    ⟨(some 18), none, (.op (.pick (.t 11) (.c (.b true)) (.t 17)))⟩])
   (.live [1, 0, 18] (.cond (.t 18) (.seq (.region [⟨(some 4), none, (.op (.mv (.c (.i .i64 181))))⟩])
   (.ret))
   (.skip))))
   (.live [1, 0] (.seq (.region [⟨(some 19), none, (.op (.mv (.t 0)))⟩,
    ⟨(some 20), none, (.op (.mv (.t 1)))⟩,
    ⟨(some 21), none, (.op (.nilck (.t 19)))⟩,
    ⟨(some 22), none, (.op (.faddr 2 (.t 21)))⟩,
    ⟨none, none, (.op (.store 1 (.t 22) (.t 20)))⟩])
   (.live [] (.seq (.region [⟨(some 4), none, (.op (.mv (.c (.i .i64 0))))⟩])
   (.ret))))))),
  []⟩

/- (*floodgate/ledger.Ledger).Granted -/

def c12 : IFunc := ⟨1, [.tmp 2],
  .seq (.region [⟨(some 2), none, (.op (.mv (.c (.i .u64 0))))⟩])
   (.live [0] (.seq (.region [⟨(some 3), none, (.op (.mv (.t 0)))⟩,
    ⟨(some 4), none, (.op (.nilck (.t 3)))⟩,
    ⟨(some 5), none, (.op (.faddr 2 (.t 4)))⟩,
    ⟨(some 6), none, (.op (.load none (.t 5)))⟩,
    ⟨(some 2), none, (.op (.mv (.t 6)))⟩])
   (.ret))),
  []⟩

/- (*floodgate/ledger.Ledger).Spend -/

def c13 : IFunc := ⟨2, [.tmp 4],
  .seq (.region [⟨(some 4), none, (.op (.mv (.c (.b false))))⟩])
   (.live [1, 0] (.seq (.region [⟨(some 6), none, (.op (.mv (.t 0)))⟩,
    ⟨(some 7), none, (.op (.mv (.t 1)))⟩,
    ⟨(some 8), none, (.call 10 [(.t 6), (.t 7)])⟩,
    ⟨(some 5), none, (.op (.mv (.t 8)))⟩])
   (.live [5, 1, 0] (.seq (.seq (.region [⟨(some 9), none, (.op (.mv (.t 5)))⟩])
   (.live [5, 1, 0, 9] (.cond (.t 9) (.region [⟨(some 10), none, (.op (.mv (.t 0)))⟩,
    ⟨(some 11), none, (.op (.nilck (.t 10)))⟩,
    ⟨(some 12), none, (.op (.faddr 3 (.t 11)))⟩,
    ⟨(some 13), none, (.op (.load none (.t 12)))⟩,
    ⟨(some 14), none, (.op (.mv (.t 1)))⟩,
    ⟨(some 15), none, (.op (.bin .int false .add (.t 13) (.t 14)))⟩,
    ⟨(some 16), none, (.op (.nilck (.t 10)))⟩,
    ⟨(some 17), none, (.op (.faddr 3 (.t 16)))⟩,
    ⟨none, none, (.op (.store 1 (.t 17) (.t 15)))⟩])
   (.skip))))
   (.live [5] (.seq (.region [⟨(some 18), none, (.op (.mv (.t 5)))⟩,
    ⟨(some 4), none, (.op (.mv (.t 18)))⟩])
   (.ret))))))),
  []⟩

/- (*floodgate/ledger.Ledger).Used -/

def c14 : IFunc := ⟨1, [.tmp 2],
  .seq (.region [⟨(some 2), none, (.op (.mv (.c (.i .u64 0))))⟩])
   (.live [0] (.seq (.region [⟨(some 3), none, (.op (.mv (.t 0)))⟩,
    ⟨(some 4), none, (.op (.nilck (.t 3)))⟩,
    ⟨(some 5), none, (.op (.faddr 3 (.t 4)))⟩,
    ⟨(some 6), none, (.op (.load none (.t 5)))⟩,
    ⟨(some 2), none, (.op (.mv (.t 6)))⟩])
   (.ret))),
  []⟩

/- (*floodgate/ledger.Ledger).Change -/

def c15 : IFunc := ⟨3, [.tmp 6],
  .seq (.region [⟨(some 6), none, (.op (.mv (.c (.i .i64 0))))⟩])
   (.live [2, 1, 0] (.seq (.region [⟨(some 8), none, (.op (.mv (.t 1)))⟩,
    ⟨(some 9), none, (.op (.mv (.t 2)))⟩,
    ⟨(some 10), none, (.op (.bslice [(.i .u64 0)] 2 [(0, 1, (.t 8)), (1, 1, (.t 9))]))⟩,
    ⟨(some 11), none, (.call 25 [(.t 10)])⟩,
    ⟨(some 7), none, (.op (.mv (.t 11)))⟩])
   (.live [7, 2, 1, 0] (.seq (.seq (.region [⟨(some 12), none, (.op (.mv (.t 7)))⟩,
    ⟨(some 13), none, (.op (.bin .int true .eql (.t 12) (.c (.i .i64 0))))⟩])
   (.live [7, 2, 1, 0, 13] (.cond (.t 13) (.region [⟨(some 14), none, (.op (.mv (.t 0)))⟩,
    ⟨(some 15), none, (.op (.mv (.t 0)))⟩,
    ⟨(some 16), none, (.op (.mv (.t 1)))⟩,
    ⟨(some 17), none, (.op (.mv (.t 2)))⟩,
    ⟨(some 18), none, (.op (.nilck (.t 14)))⟩,
    ⟨(some 19), none, (.op (.faddr 0 (.t 18)))⟩,
    ⟨none, none, (.op (.store 1 (.t 19) (.t 16)))⟩,
    ⟨(some 20), none, (.op (.nilck (.t 15)))⟩,
    ⟨(some 21), none, (.op (.faddr 1 (.t 20)))⟩,
    ⟨none, none, (.op (.store 1 (.t 21) (.t 17)))⟩])
   (.skip))))
   (.live [7] (.seq (.region [⟨(some 22), none, (.op (.mv (.t 7)))⟩,
    ⟨(some 6), none, (.op (.mv (.t 22)))⟩])
   (.ret))))))),
  []⟩

/- floodgate/floodgateref18.New -/

def c16 : IFunc := ⟨3, [.cell 6 (some 4), .tmp 7],
  .seq (.region [⟨(some 6), none, (.op (.fresh [(.i .u64 0), (.i .u64 0), (.i .u64 0), (.i .u64 0)]))⟩,
    ⟨(some 7), none, (.op (.mv (.c (.i .i64 0))))⟩])
   (.live [6, 2, 1, 0] (.seq (.seq (.region [⟨(some 8), none, (.op (.mv (.t 0)))⟩,
    ⟨(some 9), none, (.op (.bin .int true .gtr (.t 8) (.c (.i .u64 281474976710656))))⟩,
    ⟨(some 10), none, (.op (.mv (.t 9)))⟩,
    ⟨(some 11), some (10, false), (.op (.mv (.t 1)))⟩,
    ⟨(some 12), some (10, false), (.op (.bin .int true .gtr (.t 11) (.c (.i .u64 281474976710656))))⟩,
    ⟨(some 13), none, (.op (.pick (.t 10) (.c (.b true)) (.t 12)))⟩,
    ⟨(some 14), none, (.op (.mv (.t 13)))⟩,
    ⟨(some 15), some (14, false), (.op (.mv (.t 2)))⟩,
    ⟨(some 16), some (14, false), (.op (.bin .int true .gtr (.t 15) (.c (.i .u64 281474976710656))))⟩,
    ⟨(some 17), none, (.op (.pick (.t 14) (.c (.b true)) (.t 16)))⟩])
   (.live [6, 2, 1, 0, 17] (.cond (.t 17) (.seq (.region [⟨(some 18), none, (.op (.build [(.i .u64 0), (.i .u64 0), (.i .u64 0), (.i .u64 0)] []))⟩,
    ⟨none, none, (.op (.store 4 (.t 6) (.t 18)))⟩,
    ⟨(some 7), none, (.op (.mv (.c (.i .i64 181))))⟩])
   (.ret))
   (.skip))))
   (.live [6, 2, 1, 0] (.seq (.region [⟨(some 19), none, (.op (.mv (.t 0)))⟩,
    ⟨(some 20), none, (.op (.mv (.t 1)))⟩,
    ⟨(some 21), none, (.op (.mv (.t 2)))⟩,
    ⟨(some 22), none, (.op (.mv (.t 2)))⟩,
    ⟨(some 23), none, (.op (.build [(.i .u64 0), (.i .u64 0), (.i .u64 0), (.i .u64 0)] [(0, 1, (.t 19)), (1, 1, (.t 20)), (2, 1, (.t 21)), (3, 1, (.t 22))]))⟩,
    ⟨none, none, (.op (.store 4 (.t 6) (.t 23)))⟩,
    ⟨(some 7), none, (.op (.mv (.c (.i .i64 0))))⟩])
   (.ret))))),
  []⟩

/- floodgate/floodgateref18.Grant -/

def c17 : IFunc := ⟨2, [.cell 4 (some 4), .tmp 5],
  .seq (.region [⟨(some 2), none, (.op (.box (.t 0)))⟩,
    ⟨(some 4), none, (.op (.fresh [(.i .u64 0), (.i .u64 0), (.i .u64 0), (.i .u64 0)]))⟩,
    ⟨(some 5), none, (.op (.mv (.c (.i .i64 0))))⟩])
   (.live [4, 2, 1] (.seq (.seq (.region [⟨(some 6), none, (.op (.mv (.t 1)))⟩,
    ⟨(some 7), none, (.op (.faddr 2 (.t 2)))⟩,
    ⟨(some 8), none, (.op (.load none (.t 7)))⟩,
    ⟨(some 9), none, (.op (.bin .int false .lss (.t 6) (.t 8)))⟩,
    ⟨(some 10), none, (.op (.mv (.t 9)))⟩,
    ⟨(some 11), some (10, false), (.op (.mv (.t 1)))⟩,
    ⟨(some 12), some (10, false), (.op (.faddr 0 (.t 2)))⟩,
    ⟨(some 13), some (10, false), (.op (.load none (.t 12)))⟩,
    ⟨(some 14), some (10, false), (.op (.bin .int false .gtr (.t 11) (.t 13)))⟩,
    ⟨(some 15), none, (.op (.pick (.t 10) (.c (.b true)) (.t 14)))⟩])
   (.live [4, 2, 1, 15] (.cond (.t 15) (.seq (.region [⟨(some 16), none, (.op (.load (some 4) (.t 2)))⟩,
    ⟨none, none, (.op (.store 4 (.t 4) (.t 16)))⟩,
    ⟨(some 5), none, (.op (.mv (.c (.i .i64 181))))⟩])
   (.ret))
   (.skip))))
   (.live [4, 2, 1] (.seq (.region [⟨(some 17), none, (.op (.mv (.t 1)))⟩,
    ⟨(some 18), none, (.op (.faddr 2 (.t 2)))⟩,
    ⟨none, none, (.op (.store 1 (.t 18) (.t 17)))⟩])
   (.live [4, 2] (.seq (.region [⟨(some 19), none, (.op (.load (some 4) (.t 2)))⟩,
    ⟨none, none, (.op (.store 4 (.t 4) (.t 19)))⟩,
    ⟨(some 5), none, (.op (.mv (.c (.i .i64 0))))⟩])
   (.ret))))))),
  []⟩

/- floodgate/floodgateref18.Spend -/

def c18 : IFunc := ⟨2, [.cell 4 (some 4), .tmp 5],
  .seq (.region [⟨(some 2), none, (.op (.box (.t 0)))⟩,
    ⟨(some 4), none, (.op (.fresh [(.i .u64 0), (.i .u64 0), (.i .u64 0), (.i .u64 0)]))⟩,
    ⟨(some 5), none, (.op (.mv (.c (.b false))))⟩])
   (.live [4, 2, 1] (.seq (.seq (.region [⟨(some 6), none, (.op (.load (some 4) (.t 2)))⟩,
    ⟨(some 7), none, (.op (.mv (.t 1)))⟩,
    ⟨(some 8), none, (.call 22 [(.t 6), (.t 7)])⟩,
    ⟨(some 9), none, (.op (.un .not (.t 8)))⟩])
   (.live [4, 2, 1, 9] (.cond (.t 9) (.seq (.region [⟨(some 10), none, (.op (.load (some 4) (.t 2)))⟩,
    ⟨none, none, (.op (.store 4 (.t 4) (.t 10)))⟩,
    ⟨(some 5), none, (.op (.mv (.c (.b false))))⟩])
   (.ret))
   (.skip))))
   (.live [4, 2, 1] (.seq (.region [⟨(some 11), none, (.op (.faddr 3 (.t 2)))⟩,
    ⟨(some 12), none, (.op (.load none (.t 11)))⟩,
    ⟨(some 13), none, (.op (.mv (.t 1)))⟩,
    ⟨(some 14), none, (.op (.bin .int false .add (.t 12) (.t 13)))⟩,
    ⟨(some 15), none, (.op (.faddr 3 (.t 2)))⟩,
    ⟨none, none, (.op (.store 1 (.t 15) (.t 14)))⟩])
   (.live [4, 2] (.seq (.region [⟨(some 16), none, (.op (.load (some 4) (.t 2)))⟩,
    ⟨none, none, (.op (.store 4 (.t 4) (.t 16)))⟩,
    ⟨(some 5), none, (.op (.mv (.c (.b true))))⟩])
   (.ret))))))),
  []⟩

/- (*floodgate/ledger.Ledger).Roll -/

def c19 : IFunc := ⟨1, [],
  .region [⟨(some 2), none, (.op (.mv (.t 0)))⟩,
    ⟨(some 3), none, (.op (.mv (.t 0)))⟩,
    ⟨(some 4), none, (.op (.nilck (.t 2)))⟩,
    ⟨(some 5), none, (.op (.faddr 2 (.t 4)))⟩,
    ⟨none, none, (.op (.store 1 (.t 5) (.c (.i .u64 0))))⟩,
    ⟨(some 6), none, (.op (.nilck (.t 3)))⟩,
    ⟨(some 7), none, (.op (.faddr 3 (.t 6)))⟩,
    ⟨none, none, (.op (.store 1 (.t 7) (.c (.i .u64 0))))⟩],
  []⟩

/- floodgate/floodgateref18.Change -/

def c20 : IFunc := ⟨3, [.cell 6 (some 4), .tmp 7],
  .seq (.region [⟨(some 3), none, (.op (.box (.t 0)))⟩,
    ⟨(some 6), none, (.op (.fresh [(.i .u64 0), (.i .u64 0), (.i .u64 0), (.i .u64 0)]))⟩,
    ⟨(some 7), none, (.op (.mv (.c (.i .i64 0))))⟩])
   (.live [6, 3, 2, 1] (.seq (.seq (.region [⟨(some 8), none, (.op (.mv (.t 1)))⟩,
    ⟨(some 9), none, (.op (.bin .int true .gtr (.t 8) (.c (.i .u64 281474976710656))))⟩,
    ⟨(some 10), none, (.op (.mv (.t 9)))⟩,
    ⟨(some 11), some (10, false), (.op (.mv (.t 2)))⟩,
    ⟨(some 12), some (10, false), (.op (.bin .int true .gtr (.t 11) (.c (.i .u64 281474976710656))))⟩,
    ⟨(some 13), none, (.op (.pick (.t 10) (.c (.b true)) (.t 12)))⟩])
   (.live [6, 3, 2, 1, 13] (.cond (.t 13) (.seq (.region [⟨(some 14), none, (.op (.load (some 4) (.t 3)))⟩,
    ⟨none, none, (.op (.store 4 (.t 6) (.t 14)))⟩,
    ⟨(some 7), none, (.op (.mv (.c (.i .i64 181))))⟩])
   (.ret))
   (.skip))))
   (.live [6, 3, 2, 1] (.seq (.region [⟨(some 15), none, (.op (.mv (.t 1)))⟩,
    ⟨(some 16), none, (.op (.faddr 0 (.t 3)))⟩,
    ⟨none, none, (.op (.store 1 (.t 16) (.t 15)))⟩])
   (.live [6, 3, 2] (.seq (.region [⟨(some 17), none, (.op (.mv (.t 2)))⟩,
    ⟨(some 18), none, (.op (.faddr 1 (.t 3)))⟩,
    ⟨none, none, (.op (.store 1 (.t 18) (.t 17)))⟩])
   (.live [6, 3] (.seq (.region [⟨(some 19), none, (.op (.load (some 4) (.t 3)))⟩,
    ⟨none, none, (.op (.store 4 (.t 6) (.t 19)))⟩,
    ⟨(some 7), none, (.op (.mv (.c (.i .i64 0))))⟩])
   (.ret))))))))),
  []⟩

/- floodgate/floodgateref18.Want -/

def c21 : IFunc := ⟨2, [.tmp 4],
  .seq (.region [⟨(some 2), none, (.op (.box (.t 0)))⟩,
    ⟨(some 4), none, (.op (.mv (.c (.i .u64 0))))⟩])
   (.live [2, 1] (.seq (.seq (.region [⟨(some 6), none, (.op (.load (some 4) (.t 2)))⟩,
    ⟨(some 7), none, (.op (.mv (.t 1)))⟩,
    ⟨(some 8), none, (.call 22 [(.t 6), (.t 7)])⟩])
   (.live [2, 1, 8] (.cond (.t 8) (.seq (.region [⟨(some 9), none, (.op (.faddr 2 (.t 2)))⟩,
    ⟨(some 10), none, (.op (.load none (.t 9)))⟩,
    ⟨(some 4), none, (.op (.mv (.t 10)))⟩])
   (.ret))
   (.skip))))
   (.live [1, 2] (.seq (.seq (.region [⟨(some 11), none, (.op (.load (some 4) (.t 2)))⟩,
    ⟨(some 12), none, (.op (.mv (.t 1)))⟩,
    ⟨(some 13), none, (.call 24 [(.t 11), (.t 12)])⟩,
    ⟨(some 14), none, (.op (.un .not (.t 13)))⟩])
   (.live [1, 2, 14] (.cond (.t 14) (.seq (.region [⟨(some 4), none, (.op (.mv (.c (.i .u64 0))))⟩])
   (.ret))
   (.skip))))
   (.live [1, 2] (.seq (.region [⟨(some 15), none, (.op (.faddr 3 (.t 2)))⟩,
    ⟨(some 16), none, (.op (.load none (.t 15)))⟩,
    ⟨(some 17), none, (.op (.faddr 1 (.t 2)))⟩,
    ⟨(some 18), none, (.op (.load none (.t 17)))⟩,
    ⟨(some 19), none, (.op (.bin .int false .add (.t 16) (.t 18)))⟩,
    ⟨(some 5), none, (.op (.mv (.t 19)))⟩])
   (.live [1, 2, 5] (.seq (.seq (.region [⟨(some 20), none, (.op (.mv (.t 5)))⟩,
    ⟨(some 21), none, (.op (.faddr 0 (.t 2)))⟩,
    ⟨(some 22), none, (.op (.load none (.t 21)))⟩,
    ⟨(some 23), none, (.op (.bin .int false .gtr (.t 20) (.t 22)))⟩])
   (.live [1, 2, 5, 23] (.cond (.t 23) (.region [⟨(some 24), none, (.op (.faddr 0 (.t 2)))⟩,
    ⟨(some 25), none, (.op (.load none (.t 24)))⟩,
    ⟨(some 5), none, (.op (.mv (.t 25)))⟩])
   (.skip))))
   (.live [1, 2, 5] (.seq (.seq (.region [⟨(some 26), none, (.op (.mv (.t 5)))⟩,
    ⟨(some 27), none, (.op (.faddr 3 (.t 2)))⟩,
    ⟨(some 28), none, (.op (.load none (.t 27)))⟩,
    ⟨(some 29), none, (.op (.mv (.t 1)))⟩,
    ⟨(some 30), none, (.op (.bin .int false .add (.t 28) (.t 29)))⟩,
    ⟨(some 31), none, (.op (.bin .int false .lss (.t 26) (.t 30)))⟩])
   (.live [1, 2, 5, 31] (.cond (.t 31) (.region [⟨(some 32), none, (.op (.faddr 3 (.t 2)))⟩,
    ⟨(some 33), none, (.op (.load none (.t 32)))⟩,
    ⟨(some 34), none, (.op (.mv (.t 1)))⟩,
    ⟨(some 35), none, (.op (.bin .int false .add (.t 33) (.t 34)))⟩,
    ⟨(some 5), none, (.op (.mv (.t 35)))⟩])
   (.skip))))
   (.live [5] (.seq (.region [⟨(some 36), none, (.op (.mv (.t 5)))⟩,
    ⟨(some 4), none, (.op (.mv (.t 36)))⟩])
   (.ret))))))))))))),
  []⟩

/- floodgate/floodgateref18.Covers -/

def c22 : IFunc := ⟨2, [.tmp 4],
  .seq (.region [⟨(some 2), none, (.op (.box (.t 0)))⟩,
    ⟨(some 4), none, (.op (.mv (.c (.b false))))⟩])
   (.live [2, 1] (.seq (.region [⟨(some 5), none, (.op (.faddr 3 (.t 2)))⟩,
    ⟨(some 6), none, (.op (.load none (.t 5)))⟩,
    ⟨(some 7), none, (.op (.mv (.t 1)))⟩,
    ⟨(some 8), none, (.op (.faddr 2 (.t 2)))⟩,
    ⟨(some 9), none, (.op (.load none (.t 8)))⟩,
    ⟨(some 10), none, (.call 26 [(.t 6), (.t 7), (.t 9)])⟩,
    ⟨(some 4), none, (.op (.mv (.t 10)))⟩])
   (.ret))),
  []⟩

/- (*floodgate/ledger.Ledger).May -/
def c23d0 : List Stage :=
  [⟨[(⟨(some 5), none, (.op (.mv (.t 1)))⟩, 1), (⟨(some 6), none, (.op (.mv (.t 0)))⟩, 0), (⟨(some 7), none, (.op (.nilck (.t 6)))⟩, 0), (⟨(some 8), none, (.op (.faddr 0 (.t 7)))⟩, 0), (⟨(some 9), none, (.op (.load none (.t 8)))⟩, 0), (⟨(some 10), none, (.op (.mv (.t 0)))⟩, 0), (⟨(some 11), none, (.op (.nilck (.t 10)))⟩, 0), (⟨(some 12), none, (.op (.faddr 3 (.t 11)))⟩, 0), (⟨(some 13), none, (.op (.load none (.t 12)))⟩, 0)], none, some ⟨(some 14), none, (.call 27 [(.t 9), (.t 13)])⟩⟩,
    ⟨[(⟨(some 15), none, (.op (.bin .int false .leq (.t 5) (.t 14)))⟩, 1), (⟨(some 16), none, (.op (.mv (.t 15)))⟩, 1), (⟨(some 17), some (16, true), (.op (.mv (.t 0)))⟩, 1), (⟨(some 18), some (16, true), (.op (.nilck (.t 17)))⟩, 1), (⟨(some 19), some (16, true), (.op (.faddr 3 (.t 18)))⟩, 1), (⟨(some 20), some (16, true), (.op (.load none (.t 19)))⟩, 1), (⟨(some 21), some (16, true), (.op (.mv (.t 0)))⟩, 1), (⟨(some 22), some (16, true), (.op (.nilck (.t 21)))⟩, 1), (⟨(some 23), some (16, true), (.op (.faddr 0 (.t 22)))⟩, 1), (⟨(some 24), some (16, true), (.op (.load none (.t 23)))⟩, 1), (⟨(some 25), some (16, true), (.op (.bin .int false .leq (.t 20) (.t 24)))⟩, 1), (⟨(some 26), none, (.op (.pick (.t 16) (.t 25) (.c (.b false))))⟩, 1), (⟨(some 4), none, (.op (.mv (.t 26)))⟩, 1)], none, none⟩]
def c23d0w : List (ROp × Bool) :=
  [(⟨(some 5), none, (.op (.mv (.t 1)))⟩, false), (⟨(some 6), none, (.op (.mv (.t 0)))⟩, false), (⟨(some 7), none, (.op (.nilck (.t 6)))⟩, false), (⟨(some 8), none, (.op (.faddr 0 (.t 7)))⟩, false), (⟨(some 9), none, (.op (.load none (.t 8)))⟩, false), (⟨(some 10), none, (.op (.mv (.t 0)))⟩, false), (⟨(some 11), none, (.op (.nilck (.t 10)))⟩, false), (⟨(some 12), none, (.op (.faddr 3 (.t 11)))⟩, false), (⟨(some 13), none, (.op (.load none (.t 12)))⟩, false), (⟨(some 14), none, (.call 27 [(.t 9), (.t 13)])⟩, false), (⟨(some 15), none, (.op (.bin .int false .leq (.t 5) (.t 14)))⟩, false), (⟨(some 16), none, (.op (.mv (.t 15)))⟩, false), (⟨(some 17), some (16, true), (.op (.mv (.t 0)))⟩, false), (⟨(some 18), some (16, true), (.op (.nilck (.t 17)))⟩, false), (⟨(some 19), some (16, true), (.op (.faddr 3 (.t 18)))⟩, false), (⟨(some 20), some (16, true), (.op (.load none (.t 19)))⟩, false), (⟨(some 21), some (16, true), (.op (.mv (.t 0)))⟩, false), (⟨(some 22), some (16, true), (.op (.nilck (.t 21)))⟩, false), (⟨(some 23), some (16, true), (.op (.faddr 0 (.t 22)))⟩, false), (⟨(some 24), some (16, true), (.op (.load none (.t 23)))⟩, false), (⟨(some 25), some (16, true), (.op (.bin .int false .leq (.t 20) (.t 24)))⟩, false), (⟨(some 26), none, (.op (.pick (.t 16) (.t 25) (.c (.b false))))⟩, false), (⟨(some 4), none, (.op (.mv (.t 26)))⟩, false)]
theorem c23d0_w {P : Program} {O : Orc} {S0 : Mem} {rd : Bool} {e : Env} {S : Mem} {d : List Nat} {Q : Kont} : W P O S0 rd (.draw c23d0 []) e S d Q = wFl O c23d0w e S (normK Q d) := W_draw' (by kernel_rfl) (by kernel_rfl)
attribute [go_sem] c23d0_w c23d0w
def c23 : IFunc := ⟨2, [.tmp 4],
  .seq (.region [⟨(some 4), none, (.op (.mv (.c (.b false))))⟩])
   (.live [1, 0] (.seq (.draw c23d0 [])
   (.ret))),
  []⟩

/- floodgate/floodgateref18.May -/

def c24 : IFunc := ⟨2, [.tmp 4],
  .seq (.region [⟨(some 2), none, (.op (.box (.t 0)))⟩,
    ⟨(some 4), none, (.op (.mv (.c (.b false))))⟩])
   (.live [2, 1] (.seq (.region [⟨(some 5), none, (.op (.faddr 3 (.t 2)))⟩,
    ⟨(some 6), none, (.op (.load none (.t 5)))⟩,
    ⟨(some 7), none, (.op (.mv (.t 1)))⟩,
    ⟨(some 8), none, (.op (.faddr 0 (.t 2)))⟩,
    ⟨(some 9), none, (.op (.load none (.t 8)))⟩,
    ⟨(some 10), none, (.call 26 [(.t 6), (.t 7), (.t 9)])⟩,
    ⟨(some 4), none, (.op (.mv (.t 10)))⟩])
   (.ret))),
  []⟩

/- floodgate/ledger.right -/
def c25l0 : ICode :=
  .seq (.region [⟨(some 8), none, (.op (.bin .int false .lss (.t 7) (.t 6)))⟩])
   (.live [5, 6, 7, 8] (.seq (.cond (.t 8) (.skip)
   (.exit 0))
   (.live [5, 6, 7] (.seq (.block 1 (.seq (.region [⟨(some 9), none, (.op (.iaddr none 1 (.t 5) (.t 7)))⟩,
    ⟨(some 10), none, (.op (.load none (.t 9)))⟩,
    ⟨(some 4), none, (.op (.mv (.t 10)))⟩])
   (.live [5, 6, 7, 4] (.seq (.region [⟨(some 11), none, (.op (.mv (.t 4)))⟩,
    ⟨(some 12), none, (.op (.bin .int true .gtr (.t 11) (.c (.i .u64 281474976710656))))⟩])
   (.live [5, 6, 7, 12] (.cond (.t 12) (.seq (.region [⟨(some 2), none, (.op (.mv (.c (.i .i64 181))))⟩])
   (.ret))
   (.skip)))))))
   (.live [5, 6, 7] (.region [⟨(some 13), none, (.op (.bin .int true .add (.t 7) (.c (.i .i64 1))))⟩,
    ⟨(some 7), none, (.op (.mv (.t 13)))⟩]))))))
def c25 : IFunc := ⟨1, [.tmp 2],
  .seq (.region [⟨(some 2), none, (.op (.mv (.c (.i .i64 0))))⟩])
   (.live [0] (.seq (.seq (.region [⟨(some 5), none, (.op (.mv (.t 0)))⟩,
    ⟨(some 6), none, (.op (.len .slice (.t 5)))⟩,
    ⟨(some 7), none, (.op (.mv (.c (.i .i64 0))))⟩])
   (.live [5, 6, 7] (.block 0 (.loop [5, 6, 7] c25l0))))
   (.live [] (.seq (.region [⟨(some 2), none, (.op (.mv (.c (.i .i64 0))))⟩])
   (.ret))))),
  []⟩

/- floodgate/floodgateref18.fits -/

def c26 : IFunc := ⟨3, [.tmp 6],
  .seq (.region [⟨(some 6), none, (.op (.mv (.c (.b false))))⟩])
   (.live [2, 1, 0] (.seq (.region [⟨(some 7), none, (.op (.mv (.t 0)))⟩,
    ⟨(some 8), none, (.call 30 [(.t 7)])⟩,
    ⟨(some 9), none, (.op (.mv (.t 1)))⟩,
    ⟨(some 10), none, (.call 30 [(.t 9)])⟩,
    ⟨(some 11), none, (.call 29 [(.t 8), (.t 10)])⟩,
    ⟨(some 12), none, (.op (.mv (.t 2)))⟩,
    ⟨(some 13), none, (.call 30 [(.t 12)])⟩,
    ⟨(some 14), none, (.call 28 [(.t 11), (.t 13)])⟩,
    ⟨(some 15), none, (.op (.bin .int true .leq (.t 14) (.c (.i .i64 0))))⟩,
    ⟨(some 6), none, (.op (.mv (.t 15)))⟩])
   (.ret))),
  []⟩

/- floodgate/sat.Sub -/

def c27 : IFunc := ⟨2, [.tmp 4],
  .seq (.region [⟨(some 4), none, (.op (.mv (.c (.i .u64 0))))⟩])
   (.live [1, 0] (.seq (.region [⟨(some 5), none, (.op (.mv (.t 0)))⟩,
    ⟨(some 6), none, (.op (.mv (.t 0)))⟩,
    ⟨(some 7), none, (.op (.mv (.t 1)))⟩,
    ⟨(some 8), none, (.op (.mm false [(.t 6), (.t 7)]))⟩,
    ⟨(some 9), none, (.op (.bin .int false .sub (.t 5) (.t 8)))⟩,
    ⟨(some 4), none, (.op (.mv (.t 9)))⟩])
   (.ret))),
  []⟩

/- floodgate/floodgateref01.Less -/
def c28d0 : List Stage :=
  [⟨[(⟨(some 10), none, (.op (.mv (.t 5)))⟩, 0), (⟨(some 11), none, (.op (.iaddr (some 4) 1 (.t 2) (.t 10)))⟩, 0), (⟨(some 12), none, (.op (.load none (.t 11)))⟩, 0), (⟨(some 13), none, (.op (.mv (.t 5)))⟩, 0), (⟨(some 14), none, (.op (.iaddr (some 4) 1 (.t 3) (.t 13)))⟩, 0), (⟨(some 15), none, (.op (.load none (.t 14)))⟩, 0), (⟨(some 16), none, (.op (.bin .int false .lss (.t 12) (.t 15)))⟩, 0)], none, none⟩]
def c28d0w : List (ROp × Bool) :=
  [(⟨(some 10), none, (.op (.mv (.t 5)))⟩, false), (⟨(some 11), none, (.op (.iaddr (some 4) 1 (.t 2) (.t 10)))⟩, false), (⟨(some 12), none, (.op (.load none (.t 11)))⟩, false), (⟨(some 13), none, (.op (.mv (.t 5)))⟩, false), (⟨(some 14), none, (.op (.iaddr (some 4) 1 (.t 3) (.t 13)))⟩, false), (⟨(some 15), none, (.op (.load none (.t 14)))⟩, false), (⟨(some 16), none, (.op (.bin .int false .lss (.t 12) (.t 15)))⟩, false)]
theorem c28d0_w {P : Program} {O : Orc} {S0 : Mem} {rd : Bool} {e : Env} {S : Mem} {d : List Nat} {Q : Kont} : W P O S0 rd (.draw c28d0 []) e S d Q = wFl O c28d0w e S (normK Q d) := W_draw' (by kernel_rfl) (by kernel_rfl)
attribute [go_sem] c28d0_w c28d0w
def c28d1 : List Stage :=
  [⟨[(⟨(some 17), none, (.op (.mv (.t 5)))⟩, 0), (⟨(some 18), none, (.op (.iaddr (some 4) 1 (.t 2) (.t 17)))⟩, 0), (⟨(some 19), none, (.op (.load none (.t 18)))⟩, 0), (⟨(some 20), none, (.op (.mv (.t 5)))⟩, 0), (⟨(some 21), none, (.op (.iaddr (some 4) 1 (.t 3) (.t 20)))⟩, 0), (⟨(some 22), none, (.op (.load none (.t 21)))⟩, 0), (⟨(some 23), none, (.op (.bin .int false .gtr (.t 19) (.t 22)))⟩, 0)], none, none⟩]
def c28d1w : List (ROp × Bool) :=
  [(⟨(some 17), none, (.op (.mv (.t 5)))⟩, false), (⟨(some 18), none, (.op (.iaddr (some 4) 1 (.t 2) (.t 17)))⟩, false), (⟨(some 19), none, (.op (.load none (.t 18)))⟩, false), (⟨(some 20), none, (.op (.mv (.t 5)))⟩, false), (⟨(some 21), none, (.op (.iaddr (some 4) 1 (.t 3) (.t 20)))⟩, false), (⟨(some 22), none, (.op (.load none (.t 21)))⟩, false), (⟨(some 23), none, (.op (.bin .int false .gtr (.t 19) (.t 22)))⟩, false)]
theorem c28d1_w {P : Program} {O : Orc} {S0 : Mem} {rd : Bool} {e : Env} {S : Mem} {d : List Nat} {Q : Kont} : W P O S0 rd (.draw c28d1 []) e S d Q = wFl O c28d1w e S (normK Q d) := W_draw' (by kernel_rfl) (by kernel_rfl)
attribute [go_sem] c28d1_w c28d1w
def c28l2 : ICode :=
  .seq (.seq (.region [⟨(some 6), none, (.op (.mv (.t 5)))⟩,
    ⟨(some 7), none, (.op (.bin .int true .geq (.t 6) (.c (.i .i64 0))))⟩])
   (.live [2, 3, 5, 7] (.cond (.t 7) (.skip)
   (.exit 0))))
   (.live [2, 3, 5] (.seq (.block 1 (.seq (.seq (.draw c28d0 [])
   (.live [2, 3, 5, 16] (.cond (.t 16) (.seq (.region [⟨(some 4), none, (.op (.mv (.c (.i .i64 (-1)))))⟩])
   (.ret))
   (.skip))))
   (.live [2, 3, 5] (.seq (.draw c28d1 [])
   (.live [2, 3, 5, 23] (.cond (.t 23) (.seq (.region [⟨(some 4), none, (.op (.mv (.c (.i .i64 1))))⟩])
   (.ret))
   (.skip)))))))
   (.live [2, 3, 5] (.region [⟨(some 8), none, (.op (.mv (.t 5)))⟩,
    ⟨(some 9), none, (.op (.bin .int true .sub (.t 8) (.c (.i .i64 1))))⟩,
    ⟨(some 5), none, (.op (.mv (.t 9)))⟩]))))
def c28 : IFunc := ⟨2, [.tmp 4],
  .seq (.region [⟨(some 2), none, (.op (.box (.t 0)))⟩,
    ⟨(some 3), none, (.op (.box (.t 1)))⟩,
    ⟨(some 4), none, (.op (.mv (.c (.i .i64 0))))⟩])
   (.live [2, 3] (.seq (.seq (.region [⟨(some 5), none, (.op (.mv (.c (.i .i64 3))))⟩])
   (.live [2, 3, 5] (.block 0 (.loop [2, 3, 5] c28l2))))
   (.live [] (.seq (.region [⟨(some 4), none, (.op (.mv (.c (.i .i64 0))))⟩])
   (.ret))))),
  []⟩

/- floodgate/floodgateref01.Plus -/
def c29d0 : List Stage :=
  [⟨[(⟨(some 13), none, (.op (.mv (.t 7)))⟩, 0), (⟨(some 14), none, (.op (.iaddr (some 4) 1 (.t 2) (.t 13)))⟩, 0), (⟨(some 15), none, (.op (.load none (.t 14)))⟩, 0), (⟨(some 16), none, (.op (.mv (.t 7)))⟩, 0), (⟨(some 17), none, (.op (.iaddr (some 4) 1 (.t 3) (.t 16)))⟩, 0), (⟨(some 18), none, (.op (.load none (.t 17)))⟩, 0), (⟨(some 19), none, (.op (.bin .int false .add (.t 15) (.t 18)))⟩, 0), (⟨(some 20), none, (.op (.mv (.t 6)))⟩, 0), (⟨(some 21), none, (.op (.bin .int false .add (.t 19) (.t 20)))⟩, 0), (⟨(some 8), none, (.op (.mv (.t 21)))⟩, 0)], none, none⟩]
def c29d0w : List (ROp × Bool) :=
  [(⟨(some 13), none, (.op (.mv (.t 7)))⟩, false), (⟨(some 14), none, (.op (.iaddr (some 4) 1 (.t 2) (.t 13)))⟩, false), (⟨(some 15), none, (.op (.load none (.t 14)))⟩, false), (⟨(some 16), none, (.op (.mv (.t 7)))⟩, false), (⟨(some 17), none, (.op (.iaddr (some 4) 1 (.t 3) (.t 16)))⟩, false), (⟨(some 18), none, (.op (.load none (.t 17)))⟩, false), (⟨(some 19), none, (.op (.bin .int false .add (.t 15) (.t 18)))⟩, false), (⟨(some 20), none, (.op (.mv (.t 6)))⟩, false), (⟨(some 21), none, (.op (.bin .int false .add (.t 19) (.t 20)))⟩, false), (⟨(some 8), none, (.op (.mv (.t 21)))⟩, false)]
theorem c29d0_w {P : Program} {O : Orc} {S0 : Mem} {rd : Bool} {e : Env} {S : Mem} {d : List Nat} {Q : Kont} : W P O S0 rd (.draw c29d0 []) e S d Q = wFl O c29d0w e S (normK Q d) := W_draw' (by kernel_rfl) (by kernel_rfl)
attribute [go_sem] c29d0_w c29d0w
def c29l1 : ICode :=
  .seq (.region [⟨(some 11), none, (.op (.bin .int true .lss (.t 10) (.c (.i .i64 4))))⟩])
   (.live [5, 2, 3, 4, 10, 6, 11] (.seq (.cond (.t 11) (.skip)
   (.exit 0))
   (.live [5, 2, 3, 4, 10, 6] (.seq (.block 1 (.seq (.region [⟨(some 12), none, (.op (.mv (.t 10)))⟩,
    ⟨(some 7), none, (.op (.mv (.t 12)))⟩])
   (.live [5, 2, 3, 4, 10, 7, 6] (.seq (.draw c29d0 [])
   (.live [5, 2, 3, 4, 10, 8, 7] (.seq (.region [⟨(some 22), none, (.op (.mv (.t 7)))⟩,
    ⟨(some 23), none, (.op (.mv (.t 8)))⟩,
    ⟨(some 24), none, (.op (.bin .int true .rem (.t 23) (.c (.i .u64 4294967296))))⟩,
    ⟨(some 25), none, (.op (.iaddr (some 4) 1 (.t 5) (.t 22)))⟩,
    ⟨none, none, (.op (.store 1 (.t 25) (.t 24)))⟩])
   (.live [5, 2, 3, 4, 10, 8] (.region [⟨(some 26), none, (.op (.mv (.t 8)))⟩,
    ⟨(some 27), none, (.op (.bin .int true .quo (.t 26) (.c (.i .u64 4294967296))))⟩,
    ⟨(some 6), none, (.op (.mv (.t 27)))⟩]))))))))
   (.live [5, 2, 3, 4, 6, 10] (.region [⟨(some 28), none, (.op (.bin .int true .add (.t 10) (.c (.i .i64 1))))⟩,
    ⟨(some 10), none, (.op (.mv (.t 28)))⟩]))))))
def c29 : IFunc := ⟨2, [.cell 4 (some 4)],
  .seq (.region [⟨(some 2), none, (.op (.box (.t 0)))⟩,
    ⟨(some 3), none, (.op (.box (.t 1)))⟩,
    ⟨(some 4), none, (.op (.fresh [(.i .u64 0), (.i .u64 0), (.i .u64 0), (.i .u64 0)]))⟩])
   (.live [2, 3, 4] (.seq (.region [⟨(some 9), none, (.op (.build [(.i .u64 0), (.i .u64 0), (.i .u64 0), (.i .u64 0)] []))⟩,
    ⟨(some 5), none, (.op (.fresh [(.i .u64 0), (.i .u64 0), (.i .u64 0), (.i .u64 0)]))⟩,
    ⟨none, none, (.op (.store 4 (.t 5) (.t 9)))⟩])
   (.live [5, 2, 3, 4] (.seq (.region [⟨(some 6), none, (.op (.mv (.c (.i .u64 0))))⟩])
   (.live [5, 2, 3, 4, 6] (.seq (.seq (.region [⟨(some 10), none, (.op (.mv (.c (.i .i64 0))))⟩])
   (.live [5, 2, 3, 4, 10, 6] (.block 0 (.loop [5, 2, 3, 4, 10, 6] c29l1))))
   (.live [4, 5] (.seq (.region [⟨(some 29), none, (.op (.load (some 4) (.t 5)))⟩,
    ⟨none, none, (.op (.store 4 (.t 4) (.t 29)))⟩])
   (.ret))))))))),
  []⟩

/- floodgate/floodgateref01.Of -/

def c30 : IFunc := ⟨1, [.cell 2 (some 4)],
  .seq (.region [⟨(some 2), none, (.op (.fresh [(.i .u64 0), (.i .u64 0), (.i .u64 0), (.i .u64 0)]))⟩])
   (.live [2, 0] (.seq (.region [⟨(some 3), none, (.op (.mv (.t 0)))⟩,
    ⟨(some 4), none, (.op (.bin .int true .rem (.t 3) (.c (.i .u64 4294967296))))⟩,
    ⟨(some 5), none, (.op (.mv (.t 0)))⟩,
    ⟨(some 6), none, (.op (.bin .int true .quo (.t 5) (.c (.i .u64 4294967296))))⟩,
    ⟨(some 7), none, (.op (.build [(.i .u64 0), (.i .u64 0), (.i .u64 0), (.i .u64 0)] [(0, 1, (.t 4)), (1, 1, (.t 6))]))⟩,
    ⟨none, none, (.op (.store 4 (.t 2) (.t 7)))⟩])
   (.ret))),
  []⟩

/- 31 (runtime.boundsError).Error: none -/
/- 32 (runtime.boundsError).RuntimeError: none -/
/- 33 (runtime.errorString).Error: none -/
/- 34 (runtime.errorString).RuntimeError: none -/
/- 35 (runtime.plainError).Error: none -/
/- 36 (runtime.plainError).RuntimeError: none -/
/- 37 (runtime.errorAddressString).Error: none -/
/- 38 (runtime.errorAddressString).RuntimeError: none -/
/- 39 (*runtime.TypeAssertionError).Error: none -/
/- 40 (*runtime.TypeAssertionError).RuntimeError: none -/
/- 41 (*runtime.PanicNilError).Error: none -/
/- 42 (*runtime.PanicNilError).RuntimeError: none -/
/- 43 (*internal/abi.Type).Align: none -/
/- 44 (internal/runtime/maps.unhashableTypeError).Error: none -/
/- 45 (internal/runtime/maps.unhashableTypeError).RuntimeError: none -/
/- 46 (internal/abi.Kind).String: none -/

set_option maxRecDepth 1000000
theorem mixed : Try.prog.follows .mixedOrders = true := by kernel_rfl
theorem f2 : compFunc Try.prog 2 = some (stripF c2) := by kernel_rfl
theorem f3 : compFunc Try.prog 3 = some (stripF c3) := by kernel_rfl
theorem f4 : compFunc Try.prog 4 = some (stripF c4) := by kernel_rfl
theorem f5 : compFunc Try.prog 5 = some (stripF c5) := by kernel_rfl
theorem f6 : compFunc Try.prog 6 = some (stripF c6) := by kernel_rfl
theorem f7 : compFunc Try.prog 7 = some (stripF c7) := by kernel_rfl
theorem f8 : compFunc Try.prog 8 = some (stripF c8) := by kernel_rfl
theorem f9 : compFunc Try.prog 9 = some (stripF c9) := by kernel_rfl
theorem f10 : compFunc Try.prog 10 = some (stripF c10) := by kernel_rfl
theorem f11 : compFunc Try.prog 11 = some (stripF c11) := by kernel_rfl
theorem f12 : compFunc Try.prog 12 = some (stripF c12) := by kernel_rfl
theorem f13 : compFunc Try.prog 13 = some (stripF c13) := by kernel_rfl
theorem f14 : compFunc Try.prog 14 = some (stripF c14) := by kernel_rfl
theorem f15 : compFunc Try.prog 15 = some (stripF c15) := by kernel_rfl
theorem f16 : compFunc Try.prog 16 = some (stripF c16) := by kernel_rfl
theorem f17 : compFunc Try.prog 17 = some (stripF c17) := by kernel_rfl
theorem f18 : compFunc Try.prog 18 = some (stripF c18) := by kernel_rfl
theorem f19 : compFunc Try.prog 19 = some (stripF c19) := by kernel_rfl
theorem f20 : compFunc Try.prog 20 = some (stripF c20) := by kernel_rfl
theorem f21 : compFunc Try.prog 21 = some (stripF c21) := by kernel_rfl
theorem f22 : compFunc Try.prog 22 = some (stripF c22) := by kernel_rfl
theorem f23 : compFunc Try.prog 23 = some (stripF c23) := by kernel_rfl
theorem f24 : compFunc Try.prog 24 = some (stripF c24) := by kernel_rfl
theorem f25 : compFunc Try.prog 25 = some (stripF c25) := by kernel_rfl
theorem f26 : compFunc Try.prog 26 = some (stripF c26) := by kernel_rfl
theorem f27 : compFunc Try.prog 27 = some (stripF c27) := by kernel_rfl
theorem f28 : compFunc Try.prog 28 = some (stripF c28) := by kernel_rfl
theorem f29 : compFunc Try.prog 29 = some (stripF c29) := by kernel_rfl
theorem f30 : compFunc Try.prog 30 = some (stripF c30) := by kernel_rfl
def tabL : List (Nat × IFunc) := [(2, c2), (3, c3), (4, c4), (5, c5), (6, c6), (7, c7), (8, c8), (9, c9), (10, c10), (11, c11), (12, c12), (13, c13), (14, c14), (15, c15), (16, c16), (17, c17), (18, c18), (19, c19), (20, c20), (21, c21), (22, c22), (23, c23), (24, c24), (25, c25), (26, c26), (27, c27), (28, c28), (29, c29), (30, c30)]
def tab (f : FuncId) : Option IFunc := look tabL f
theorem tab_ok : ∀ f F, tab f = some F → compFunc Try.prog f = some (stripF F) := look_ok tabL (by
  intro p hp
  simp only [tabL, List.mem_cons, List.not_mem_nil, or_false] at hp
  rcases hp with rfl | rfl | rfl | rfl | rfl | rfl | rfl | rfl | rfl | rfl | rfl | rfl | rfl | rfl | rfl | rfl | rfl | rfl | rfl | rfl | rfl | rfl | rfl | rfl | rfl | rfl | rfl | rfl | rfl
  · exact f2
  · exact f3
  · exact f4
  · exact f5
  · exact f6
  · exact f7
  · exact f8
  · exact f9
  · exact f10
  · exact f11
  · exact f12
  · exact f13
  · exact f14
  · exact f15
  · exact f16
  · exact f17
  · exact f18
  · exact f19
  · exact f20
  · exact f21
  · exact f22
  · exact f23
  · exact f24
  · exact f25
  · exact f26
  · exact f27
  · exact f28
  · exact f29
  · exact f30)
end Go.Proofs.Ytbggleijjoleiaa
