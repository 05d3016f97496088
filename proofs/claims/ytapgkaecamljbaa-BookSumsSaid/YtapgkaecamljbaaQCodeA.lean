/- Proved here: the code of the functions, written out, is what the compiler makes of the program. No condition. -/
import Derived.Test.YtapgkaecamljbaaMc
import Derived.Test.YtapgkaecamljbaaRows
namespace Go.Proofs.Ytapgkaecamljbaa
open Go.RowKit

/- floodgate/floodgatelaw13.BookSums -/
def c6l0 : ICode :=
  .seq (.region [⟨(some 61), none, (.op (.bin .int false .lss (.t 60) (.t 59)))⟩])
   (.live [5, 3, 6, 58, 18, 19, 20, 59, 60, 61] (.seq (.cond (.t 61) (.skip)
   (.exit 2))
   (.live [5, 3, 6, 58, 18, 19, 20, 59, 60] (.seq (.block 3 (.seq (.region [⟨(some 62), none, (.op (.iaddr none 14 (.t 58) (.t 60)))⟩,
    ⟨(some 63), none, (.op (.load (some 14) (.t 62)))⟩,
    ⟨(some 9), none, (.op (.fresh [(.i .i64 0), (.i .u8 0), (.i .u8 0), (.i .u8 0), (.i .u8 0), (.i .i64 0), (.i .u64 0), (.i .u64 0), (.i .u64 0), (.i .u64 0), (.i .u64 0), (.i .u64 0), (.i .u64 0), (.i .u64 0)]))⟩,
    ⟨none, none, (.op (.store 14 (.t 9) (.t 63)))⟩])
   (.live [5, 3, 6, 58, 18, 19, 20, 59, 60, 9] (.seq (.region [⟨(some 65), none, (.op (.load (some 2) (.t 3)))⟩,
    ⟨(some 66), none, (.op (.faddr 0 (.t 9)))⟩,
    ⟨(some 67), none, (.op (.faddr 0 (.t 66)))⟩,
    ⟨(some 68), none, (.op (.load none (.t 67)))⟩,
    ⟨(some 69), none, (.call 19 [(.t 65), (.t 68)])⟩,
    ⟨(some 64), none, (.op (.mv (.t 69)))⟩,
    ⟨(some 70), none, (.op (.ext (.t 64) 0))⟩,
    ⟨(some 71), none, (.op (.ext (.t 64) 1))⟩,
    ⟨(some 10), none, (.op (.fresh [(.i .i64 0), (.i .u8 0), (.i .u8 0), (.i .u8 0), (.i .u8 0), (.i .i64 0), (.i .u64 0), (.i .u64 0), (.i .u64 0), (.i .u64 0), (.i .u64 0), (.i .u64 0), (.i .u64 0), (.i .u64 0)]))⟩,
    ⟨none, none, (.op (.store 14 (.t 10) (.t 70)))⟩,
    ⟨(some 11), none, (.op (.mv (.t 71)))⟩])
   (.live [5, 3, 6, 58, 18, 19, 20, 59, 60, 9, 11, 10] (.seq (.seq (.region [⟨(some 72), none, (.op (.faddr 0 (.t 6)))⟩,
    ⟨(some 73), none, (.op (.load none (.t 72)))⟩,
    ⟨(some 74), none, (.op (.faddr 0 (.t 3)))⟩,
    ⟨(some 75), none, (.op (.load none (.t 74)))⟩,
    ⟨(some 76), none, (.op (.bin .int false .eql (.t 73) (.t 75)))⟩,
    ⟨(some 77), none, (.op (.mv (.t 76)))⟩,
    ⟨(some 78), some (77, true), (.op (.mv (.t 11)))⟩,
    ⟨(some 79), none, (.op (.pick (.t 77) (.t 78) (.c (.b false))))⟩,
    ⟨(some 80), none, (.op (.mv (.t 79)))⟩,
    ⟨(some 81), some (80, true), (.op (.faddr 13 (.t 9)))⟩,
    ⟨(some 82), some (80, true), (.op (.load none (.t 81)))⟩,
    ⟨(some 83), some (80, true), (.op (.faddr 13 (.t 10)))⟩,
    ⟨(some 84), some (80, true), (.op (.load none (.t 83)))⟩,
    ⟨(some 85), some (80, true), (.op (.bin .int false .lss (.t 82) (.t 84)))⟩,
    ⟨(some 86), none, (.op (.pick (.t 80) (.t 85) (.c (.b false))))⟩,
    ⟨(some 87), none, (.op (.mv (.t 86)))⟩,
    ⟨(some 88), some (87, false), (.op (.faddr 0 (.t 6)))⟩,
    ⟨(some 89), some (87, false), (.op (.load none (.t 88)))⟩,
    ⟨(some 90), some (87, false), (.op (.faddr 0 (.t 3)))⟩,
    ⟨(some 91), some (87, false), (.op (.load none (.t 90)))⟩,
    ⟨(some 92), some (87, false), (.op (.bin .int false .gtr (.t 89) (.t 91)))⟩,
    ⟨(some 93), some (87, false), (.op (.mv (.t 92)))⟩,
    ⟨(some 94), some (93, false), (.op (.mv (.t 11)))⟩,
    ⟨(some 95), some (93, false), (.op (.un .not (.t 94)))⟩,
    ⟨(some 96), some (87, false), (.op (.pick (.t 93) (.c (.b true)) (.t 95)))⟩,
    ⟨(some 97), some (87, false), (.op (.mv (.t 96)))⟩,
    ⟨(some 98), some (97, true), (.op (.faddr 13 (.t 9)))⟩,
    ⟨(some 99), some (97, true), (.op (.load none (.t 98)))⟩,
    ⟨(some 100), some (97, true), (.op (.bin .int true .neq (.t 99) (.c (.i .u64 0))))⟩,
    ⟨(some 101), some (87, false), (.op (.pick (.t 97) (.t 100) (.c (.b false))))⟩,
    ⟨(some 102), none, (.op (.pick (.t 87) (.c (.b true)) (.t 101)))⟩])
   (.live [5, 3, 6, 58, 18, 19, 20, 59, 60, 9, 102] (.cond (.t 102) (.seq (.region [⟨(some 2), none, (.op (.mv (.c (.b false))))⟩])
   (.ret))
   (.skip))))
   (.live [5, 3, 6, 58, 18, 19, 20, 59, 60, 9] (.seq (.region [⟨(some 103), none, (.op (.faddr 0 (.t 5)))⟩,
    ⟨(some 104), none, (.op (.load none (.t 103)))⟩,
    ⟨(some 105), none, (.op (.bin .int true .eql (.t 104) (.c (.i .i64 2))))⟩,
    ⟨(some 106), none, (.op (.mv (.t 105)))⟩,
    ⟨(some 107), some (106, true), (.op (.faddr 1 (.t 5)))⟩,
    ⟨(some 108), some (106, true), (.op (.load none (.t 107)))⟩,
    ⟨(some 109), some (106, true), (.op (.faddr 0 (.t 9)))⟩,
    ⟨(some 110), some (106, true), (.op (.faddr 0 (.t 109)))⟩,
    ⟨(some 111), some (106, true), (.op (.load none (.t 110)))⟩,
    ⟨(some 112), some (106, true), (.op (.bin .int false .eql (.t 108) (.t 111)))⟩,
    ⟨(some 113), none, (.op (.pick (.t 106) (.t 112) (.c (.b false))))⟩,
    ⟨(some 114), none, (.op (.mv (.t 113)))⟩,
    ⟨(some 115), some (114, true), (.op (.faddr 13 (.t 9)))⟩,
    ⟨(some 116), some (114, true), (.op (.load none (.t 115)))⟩,
    ⟨(some 117), some (114, true), (.op (.faddr 0 (.t 9)))⟩,
    ⟨(some 118), some (114, true), (.op (.faddr 10 (.t 117)))⟩,
    ⟨(some 119), some (114, true), (.op (.load none (.t 118)))⟩,
    ⟨(some 120), some (114, true), (.op (.bin .int false .gtr (.t 116) (.t 119)))⟩,
    ⟨(some 121), some (114, true), (.op (.mv (.t 120)))⟩,
    ⟨(some 122), some (121, false), (.op (.faddr 13 (.t 9)))⟩,
    ⟨(some 123), some (121, false), (.op (.load none (.t 122)))⟩,
    ⟨(some 124), some (121, false), (.op (.faddr 4 (.t 5)))⟩,
    ⟨(some 125), some (121, false), (.op (.load none (.t 124)))⟩,
    ⟨(some 126), some (121, false), (.op (.bin .int false .neq (.t 123) (.t 125)))⟩,
    ⟨(some 127), some (114, true), (.op (.pick (.t 121) (.c (.b true)) (.t 126)))⟩,
    ⟨(some 128), none, (.op (.pick (.t 114) (.t 127) (.c (.b false))))⟩])
   (.live [5, 3, 6, 58, 18, 19, 20, 59, 60, 128] (.cond (.t 128) (.seq (.region [⟨(some 2), none, (.op (.mv (.c (.b false))))⟩])
   (.ret))
   (.skip)))))))))))
   (.live [5, 3, 6, 58, 18, 19, 20, 59, 60] (.region [⟨(some 129), none, (.op (.bin .int true .add (.t 60) (.c (.i .i64 1))))⟩,
    ⟨(some 60), none, (.op (.mv (.t 129)))⟩]))))))
def c6l1 : ICode :=
  .seq (.region [⟨(some 21), none, (.op (.bin .int false .lss (.t 20) (.t 19)))⟩])
   (.live [3, 18, 19, 20, 21] (.seq (.cond (.t 21) (.skip)
   (.exit 0))
   (.live [3, 18, 19, 20] (.seq (.block 1 (.seq (.region [⟨(some 22), none, (.op (.iaddr none 6 (.t 18) (.t 20)))⟩,
    ⟨(some 23), none, (.op (.load (some 6) (.t 22)))⟩,
    ⟨(some 5), none, (.op (.fresh [(.i .i64 0), (.i .i64 0), .sn, .sn, (.i .u64 0), (.i .u64 0)]))⟩,
    ⟨none, none, (.op (.store 6 (.t 5) (.t 23)))⟩])
   (.live [3, 18, 19, 20, 5] (.seq (.seq (.region [⟨(some 24), none, (.op (.build [(.i .u64 0), .sn] []))⟩,
    ⟨(some 25), none, (.op (.load (some 6) (.t 5)))⟩,
    ⟨(some 26), none, (.call 12 [(.t 24), (.t 25)])⟩])
   (.live [3, 18, 19, 20, 5, 26] (.cond (.t 26) (.seq (.region [⟨(some 2), none, (.op (.mv (.c (.b true))))⟩])
   (.ret))
   (.skip))))
   (.live [3, 18, 19, 20, 5] (.seq (.region [⟨(some 28), none, (.op (.load (some 2) (.t 3)))⟩,
    ⟨(some 29), none, (.op (.load (some 6) (.t 5)))⟩,
    ⟨(some 30), none, (.call 13 [(.t 28), (.t 29)])⟩,
    ⟨(some 27), none, (.op (.mv (.t 30)))⟩,
    ⟨(some 31), none, (.op (.ext (.t 27) 0))⟩,
    ⟨(some 32), none, (.op (.ext (.t 27) 1))⟩,
    ⟨(some 6), none, (.op (.fresh [(.i .u64 0), .sn]))⟩,
    ⟨none, none, (.op (.store 2 (.t 6) (.t 31)))⟩,
    ⟨(some 7), none, (.op (.mv (.t 32)))⟩])
   (.live [3, 18, 19, 20, 6, 5, 7] (.seq (.seq (.region [⟨(some 33), none, (.op (.mv (.t 7)))⟩,
    ⟨(some 34), none, (.op (.bin .int true .neq (.t 33) (.c (.i .i64 0))))⟩])
   (.live [3, 18, 19, 20, 6, 5, 34] (.cond (.t 34) (.seq (.seq (.region [⟨(some 35), none, (.op (.load (some 2) (.t 3)))⟩,
    ⟨(some 36), none, (.op (.load (some 2) (.t 6)))⟩,
    ⟨(some 37), none, (.call 22 [(.t 35), (.t 36)])⟩,
    ⟨(some 38), none, (.op (.un .not (.t 37)))⟩])
   (.live [3, 18, 19, 20, 38] (.cond (.t 38) (.seq (.region [⟨(some 2), none, (.op (.mv (.c (.b false))))⟩])
   (.ret))
   (.skip))))
   (.exit 1))
   (.skip))))
   (.live [5, 3, 6, 18, 19, 20] (.seq (.seq (.region [⟨(some 39), none, (.op (.load (some 2) (.t 6)))⟩,
    ⟨(some 40), none, (.call 16 [(.t 39)])⟩,
    ⟨(some 41), none, (.op (.un .not (.t 40)))⟩,
    ⟨(some 42), none, (.op (.mv (.t 41)))⟩,
    ⟨(some 43), some (42, false), (.op (.faddr 0 (.t 6)))⟩,
    ⟨(some 44), some (42, false), (.op (.load none (.t 43)))⟩,
    ⟨(some 45), some (42, false), (.op (.faddr 0 (.t 3)))⟩,
    ⟨(some 46), some (42, false), (.op (.load none (.t 45)))⟩,
    ⟨(some 47), some (42, false), (.op (.bin .int false .lss (.t 44) (.t 46)))⟩,
    ⟨(some 48), none, (.op (.pick (.t 42) (.c (.b true)) (.t 47)))⟩,
    ⟨(some 49), none, (.op (.mv (.t 48)))⟩,
    ⟨(some 50), some (49, false), (.op (.faddr 0 (.t 6)))⟩,
    ⟨(some 51), some (49, false), (.op (.load none (.t 50)))⟩,
    ⟨(some 52), some (49, false), (.op (.faddr 0 (.t 3)))⟩,
    ⟨(some 53), some (49, false), (.op (.load none (.t 52)))⟩,
    ⟨(some 54), some (49, false), (.op (.bin .int true .add (.t 53) (.c (.i .u64 1))))⟩,
    ⟨(some 55), some (49, false), (.op (.bin .int false .gtr (.t 51) (.t 54)))⟩,
    ⟨(some 56), none, (.op (.pick (.t 49) (.c (.b true)) (.t 55)))⟩])
   (.live [5, 3, 6, 18, 19, 20, 56] (.cond (.t 56) (.seq (.region [⟨(some 2), none, (.op (.mv (.c (.b false))))⟩])
   (.ret))
   (.skip))))
   (.live [5, 3, 6, 18, 19, 20] (.seq (.seq (.region [⟨(some 57), none, (.op (.faddr 1 (.t 6)))⟩,
    ⟨(some 58), none, (.op (.load none (.t 57)))⟩,
    ⟨(some 59), none, (.op (.len .slice (.t 58)))⟩,
    ⟨(some 60), none, (.op (.mv (.c (.i .i64 0))))⟩])
   (.live [5, 3, 6, 58, 18, 19, 20, 59, 60] (.block 2 (.loop [5, 3, 6, 58, 18, 19, 20, 59, 60] c6l0))))
   (.live [3, 18, 19, 20, 6] (.region [⟨(some 130), none, (.op (.load (some 2) (.t 6)))⟩,
    ⟨none, none, (.op (.store 2 (.t 3) (.t 130)))⟩]))))))))))))))
   (.live [3, 18, 19, 20] (.region [⟨(some 131), none, (.op (.bin .int true .add (.t 20) (.c (.i .i64 1))))⟩,
    ⟨(some 20), none, (.op (.mv (.t 131)))⟩]))))))
def c6 : IFunc := ⟨1, [.tmp 2],
  .seq (.region [⟨(some 2), none, (.op (.mv (.c (.b false))))⟩])
   (.live [0] (.seq (.seq (.region [⟨(some 12), none, (.call 11 [])⟩,
    ⟨(some 13), none, (.op (.un .not (.t 12)))⟩])
   (.live [0, 13] (.cond (.t 13) (.seq (.region [⟨(some 2), none, (.op (.mv (.c (.b false))))⟩])
   (.ret))
   (.skip))))
   (.live [0] (.seq (.seq (.region [⟨(some 14), none, (.op (.mv (.t 0)))⟩,
    ⟨(some 15), none, (.op (.len .slice (.t 14)))⟩,
    ⟨(some 16), none, (.op (.bin .int true .gtr (.t 15) (.c (.i .i64 60))))⟩])
   (.live [0, 16] (.cond (.t 16) (.seq (.region [⟨(some 2), none, (.op (.mv (.c (.b true))))⟩])
   (.ret))
   (.skip))))
   (.live [0] (.seq (.region [⟨(some 17), none, (.op (.build [(.i .u64 0), .sn] [(0, 1, (.c (.i .u64 1)))]))⟩,
    ⟨(some 3), none, (.op (.fresh [(.i .u64 0), .sn]))⟩,
    ⟨none, none, (.op (.store 2 (.t 3) (.t 17)))⟩])
   (.live [3, 0] (.seq (.seq (.region [⟨(some 18), none, (.op (.mv (.t 0)))⟩,
    ⟨(some 19), none, (.op (.len .slice (.t 18)))⟩,
    ⟨(some 20), none, (.op (.mv (.c (.i .i64 0))))⟩])
   (.live [3, 18, 19, 20] (.block 0 (.loop [3, 18, 19, 20] c6l1))))
   (.live [] (.seq (.region [⟨(some 2), none, (.op (.mv (.c (.b true))))⟩])
   (.ret))))))))))),
  []⟩


/- floodgate/floodgatelaw13.bookAlive -/
def c11d0 : List Stage :=
  [⟨[(⟨(some 33), none, (.op (.mv (.t 2)))⟩, 0), (⟨(some 34), none, (.op (.bin .int true .eql (.t 33) (.c (.i .i64 0))))⟩, 0), (⟨(some 35), none, (.op (.mv (.t 34)))⟩, 0), (⟨(some 36), some (35, true), (.op (.mv (.t 1)))⟩, 0), (⟨(some 37), some (35, true), (.op (.toStr (.t 36)))⟩, 0), (⟨(some 38), some (35, true), (.op (.bin .str true .eql (.t 37) (.c (.s [1]))))⟩, 0), (⟨(some 39), none, (.op (.pick (.t 35) (.t 38) (.c (.b false))))⟩, 0), (⟨(some 40), none, (.op (.mv (.t 39)))⟩, 0), (⟨(some 41), some (40, true), (.op (.mv (.t 4)))⟩, 0), (⟨(some 42), some (40, true), (.op (.bin .int true .eql (.t 41) (.c (.i .i64 0))))⟩, 0), (⟨(some 43), none, (.op (.pick (.t 40) (.t 42) (.c (.b false))))⟩, 0), (⟨(some 44), none, (.op (.mv (.t 43)))⟩, 0), (⟨(some 45), some (44, true), (.op (.mv (.t 6)))⟩, 0), (⟨(some 46), some (44, true), (.op (.bin .int true .eql (.t 45) (.c (.i .i64 0))))⟩, 0), (⟨(some 47), none, (.op (.pick (.t 44) (.t 46) (.c (.b false))))⟩, 0), (⟨(some 48), none, (.op (.mv (.t 47)))⟩, 0), (⟨(some 49), some (48, true), (.op (.mv (.t 8)))⟩, 0), (⟨(some 50), none, (.op (.pick (.t 48) (.t 49) (.c (.b false))))⟩, 0), (⟨(some 51), none, (.op (.mv (.t 50)))⟩, 0), (⟨(some 52), some (51, true), (.op (.faddr 13 (.t 7)))⟩, 0), (⟨(some 53), some (51, true), (.op (.load none (.t 52)))⟩, 0), (⟨(some 54), some (51, true), (.op (.bin .int true .eql (.t 53) (.c (.i .u64 1500))))⟩, 0), (⟨(some 55), none, (.op (.pick (.t 51) (.t 54) (.c (.b false))))⟩, 0), (⟨(some 56), none, (.op (.mv (.t 55)))⟩, 0), (⟨(some 57), some (56, true), (.op (.faddr 0 (.t 7)))⟩, 1), (⟨(some 58), some (56, true), (.op (.load (some 13) (.t 57)))⟩, 1)], none, some ⟨(some 59), some (56, true), (.call 26 [(.c (.i .i64 4))])⟩⟩,
    ⟨[(⟨(some 60), some (56, true), (.op (.eqag false [.int, .int, .int, .int, .int, .int, .int, .int, .int, .int, .int, .int, .int] (.t 58) (.t 59)))⟩, 1), (⟨(some 61), none, (.op (.pick (.t 56) (.t 60) (.c (.b false))))⟩, 1), (⟨(some 0), none, (.op (.mv (.t 61)))⟩, 1)], none, none⟩]
def c11d0w : List (ROp × Bool) :=
  [(⟨(some 33), none, (.op (.mv (.t 2)))⟩, false), (⟨(some 34), none, (.op (.bin .int true .eql (.t 33) (.c (.i .i64 0))))⟩, false), (⟨(some 35), none, (.op (.mv (.t 34)))⟩, false), (⟨(some 36), some (35, true), (.op (.mv (.t 1)))⟩, false), (⟨(some 37), some (35, true), (.op (.toStr (.t 36)))⟩, false), (⟨(some 38), some (35, true), (.op (.bin .str true .eql (.t 37) (.c (.s [1]))))⟩, false), (⟨(some 39), none, (.op (.pick (.t 35) (.t 38) (.c (.b false))))⟩, false), (⟨(some 40), none, (.op (.mv (.t 39)))⟩, false), (⟨(some 41), some (40, true), (.op (.mv (.t 4)))⟩, false), (⟨(some 42), some (40, true), (.op (.bin .int true .eql (.t 41) (.c (.i .i64 0))))⟩, false), (⟨(some 43), none, (.op (.pick (.t 40) (.t 42) (.c (.b false))))⟩, false), (⟨(some 44), none, (.op (.mv (.t 43)))⟩, false), (⟨(some 45), some (44, true), (.op (.mv (.t 6)))⟩, false), (⟨(some 46), some (44, true), (.op (.bin .int true .eql (.t 45) (.c (.i .i64 0))))⟩, false), (⟨(some 47), none, (.op (.pick (.t 44) (.t 46) (.c (.b false))))⟩, false), (⟨(some 48), none, (.op (.mv (.t 47)))⟩, false), (⟨(some 49), some (48, true), (.op (.mv (.t 8)))⟩, false), (⟨(some 50), none, (.op (.pick (.t 48) (.t 49) (.c (.b false))))⟩, false), (⟨(some 51), none, (.op (.mv (.t 50)))⟩, false), (⟨(some 52), some (51, true), (.op (.faddr 13 (.t 7)))⟩, false), (⟨(some 53), some (51, true), (.op (.load none (.t 52)))⟩, false), (⟨(some 54), some (51, true), (.op (.bin .int true .eql (.t 53) (.c (.i .u64 1500))))⟩, false), (⟨(some 55), none, (.op (.pick (.t 51) (.t 54) (.c (.b false))))⟩, false), (⟨(some 56), none, (.op (.mv (.t 55)))⟩, false), (⟨(some 57), some (56, true), (.op (.faddr 0 (.t 7)))⟩, false), (⟨(some 58), some (56, true), (.op (.load (some 13) (.t 57)))⟩, false), (⟨(some 59), some (56, true), (.call 26 [(.c (.i .i64 4))])⟩, true), (⟨(some 60), some (56, true), (.op (.eqag false [.int, .int, .int, .int, .int, .int, .int, .int, .int, .int, .int, .int, .int] (.t 58) (.t 59)))⟩, false), (⟨(some 61), none, (.op (.pick (.t 56) (.t 60) (.c (.b false))))⟩, false), (⟨(some 0), none, (.op (.mv (.t 61)))⟩, false)]
theorem c11d0_w {P : Program} {O : Orc} {S0 : Mem} {rd : Bool} {e : Env} {S : Mem} {d : List Nat} {Q : Kont} : W P O S0 rd (.draw c11d0 []) e S d Q = wFl O c11d0w e S (normK Q d) := W_draw' (by kernel_rfl) (by kernel_rfl)
attribute [go_sem] c11d0_w c11d0w
def c11 : IFunc := ⟨0, [.tmp 0],
  .seq (.region [⟨(some 0), none, (.op (.mv (.c (.b false))))⟩])
   (.live [] (.seq (.region [⟨(some 10), none, (.op (.build [(.i .u64 0), .sn] [(0, 1, (.c (.i .u64 1)))]))⟩,
    ⟨(some 11), none, (.call 17 [(.t 10)])⟩,
    ⟨(some 9), none, (.op (.mv (.t 11)))⟩,
    ⟨(some 12), none, (.op (.ext (.t 9) 0))⟩,
    ⟨(some 13), none, (.op (.ext (.t 9) 1))⟩,
    ⟨(some 1), none, (.op (.mv (.t 12)))⟩,
    ⟨(some 2), none, (.op (.mv (.t 13)))⟩])
   (.live [2, 1] (.seq (.region [⟨(some 15), none, (.op (.build [(.i .u64 0), .sn] [(0, 1, (.c (.i .u64 1)))]))⟩,
    ⟨(some 16), none, (.call 26 [(.c (.i .i64 4))])⟩,
    ⟨(some 17), none, (.op (.bslice [(.i .i64 0), (.i .u8 0), (.i .u8 0), (.i .u8 0), (.i .u8 0), (.i .i64 0), (.i .u64 0), (.i .u64 0), (.i .u64 0), (.i .u64 0), (.i .u64 0), (.i .u64 0), (.i .u64 0)] 1 [(0, 13, (.t 16))]))⟩,
    ⟨(some 18), none, (.op (.build [(.i .i64 0), (.i .i64 0), .sn, .sn, (.i .u64 0), (.i .u64 0)] [(0, 1, (.c (.i .i64 1))), (2, 1, (.t 17))]))⟩,
    ⟨(some 19), none, (.call 13 [(.t 15), (.t 18)])⟩,
    ⟨(some 14), none, (.op (.mv (.t 19)))⟩,
    ⟨(some 20), none, (.op (.ext (.t 14) 0))⟩,
    ⟨(some 21), none, (.op (.ext (.t 14) 1))⟩,
    ⟨(some 3), none, (.op (.fresh [(.i .u64 0), .sn]))⟩,
    ⟨none, none, (.op (.store 2 (.t 3) (.t 20)))⟩,
    ⟨(some 4), none, (.op (.mv (.t 21)))⟩])
   (.live [2, 1, 4, 3] (.seq (.region [⟨(some 23), none, (.op (.load (some 2) (.t 3)))⟩,
    ⟨(some 24), none, (.op (.build [(.i .i64 0), (.i .i64 0), .sn, .sn, (.i .u64 0), (.i .u64 0)] [(0, 1, (.c (.i .i64 2))), (1, 1, (.c (.i .i64 4))), (4, 1, (.c (.i .u64 1500)))]))⟩,
    ⟨(some 25), none, (.call 13 [(.t 23), (.t 24)])⟩,
    ⟨(some 22), none, (.op (.mv (.t 25)))⟩,
    ⟨(some 26), none, (.op (.ext (.t 22) 0))⟩,
    ⟨(some 27), none, (.op (.ext (.t 22) 1))⟩,
    ⟨(some 5), none, (.op (.fresh [(.i .u64 0), .sn]))⟩,
    ⟨none, none, (.op (.store 2 (.t 5) (.t 26)))⟩,
    ⟨(some 6), none, (.op (.mv (.t 27)))⟩])
   (.live [2, 1, 4, 6, 5] (.seq (.region [⟨(some 29), none, (.op (.load (some 2) (.t 5)))⟩,
    ⟨(some 30), none, (.call 19 [(.t 29), (.c (.i .i64 4))])⟩,
    ⟨(some 28), none, (.op (.mv (.t 30)))⟩,
    ⟨(some 31), none, (.op (.ext (.t 28) 0))⟩,
    ⟨(some 32), none, (.op (.ext (.t 28) 1))⟩,
    ⟨(some 7), none, (.op (.fresh [(.i .i64 0), (.i .u8 0), (.i .u8 0), (.i .u8 0), (.i .u8 0), (.i .i64 0), (.i .u64 0), (.i .u64 0), (.i .u64 0), (.i .u64 0), (.i .u64 0), (.i .u64 0), (.i .u64 0), (.i .u64 0)]))⟩,
    ⟨none, none, (.op (.store 14 (.t 7) (.t 31)))⟩,
    ⟨(some 8), none, (.op (.mv (.t 32)))⟩])
   (.live [2, 1, 4, 6, 8, 7] (.seq (.draw c11d0 [])
   (.ret))))))))))),
  []⟩


/- floodgate/floodgatelaw13.great -/

def c12 : IFunc := ⟨2, [.tmp 4],
  .seq (.region [⟨(some 2), none, (.op (.box (.t 0)))⟩,
    ⟨(some 3), none, (.op (.box (.t 1)))⟩,
    ⟨(some 4), none, (.op (.mv (.c (.b false))))⟩])
   (.live [3, 2] (.seq (.region [⟨(some 5), none, (.op (.faddr 1 (.t 2)))⟩,
    ⟨(some 6), none, (.op (.load none (.t 5)))⟩,
    ⟨(some 7), none, (.op (.len .slice (.t 6)))⟩,
    ⟨(some 8), none, (.op (.bin .int true .gtr (.t 7) (.c (.i .i64 30))))⟩,
    ⟨(some 9), none, (.op (.mv (.t 8)))⟩,
    ⟨(some 10), some (9, false), (.op (.faddr 2 (.t 3)))⟩,
    ⟨(some 11), some (9, false), (.op (.load none (.t 10)))⟩,
    ⟨(some 12), some (9, false), (.op (.len .slice (.t 11)))⟩,
    ⟨(some 13), some (9, false), (.op (.bin .int true .gtr (.t 12) (.c (.i .i64 30))))⟩,
    ⟨(some 14), none, (.op (.pick (.t 9) (.c (.b true)) (.t 13)))⟩,
    ⟨(some 15), none, (.op (.mv (.t 14)))⟩,
    ⟨(some 16), some (15, false), (.op (.faddr 3 (.t 3)))⟩,
    ⟨(some 17), some (15, false), (.op (.load none (.t 16)))⟩,
    ⟨(some 18), some (15, false), (.op (.len .slice (.t 17)))⟩,
    ⟨(some 19), some (15, false), (.op (.bin .int true .gtr (.t 18) (.c (.i .i64 30))))⟩,
    ⟨(some 20), none, (.op (.pick (.t 15) (.c (.b true)) (.t 19)))⟩,
    ⟨(some 4), none, (.op (.mv (.t 20)))⟩])
   (.ret))),
  []⟩


/- floodgate/book.Apply -/
def c13d0 : List Stage :=
  [⟨[(⟨(some 10), none, (.op (.faddr 0 (.t 2)))⟩, 1), (⟨(some 11), none, (.op (.load none (.t 10)))⟩, 1), (⟨(some 12), none, (.op (.faddr 1 (.t 2)))⟩, 0), (⟨(some 13), none, (.op (.load none (.t 12)))⟩, 0)], none, some ⟨(some 14), none, (.call 27 [(.t 13)])⟩⟩,
    ⟨[(⟨(some 15), none, (.op (.build [(.i .u64 0), .sn] [(0, 1, (.t 11)), (1, 1, (.t 14))]))⟩, 1)], some ⟨(some 6), none, (.op (.fresh [(.i .u64 0), .sn]))⟩, some ⟨none, none, (.op (.store 2 (.t 6) (.t 15)))⟩⟩,
    ⟨[], none, none⟩]
def c13d0w : List (ROp × Bool) :=
  [(⟨(some 10), none, (.op (.faddr 0 (.t 2)))⟩, false), (⟨(some 11), none, (.op (.load none (.t 10)))⟩, false), (⟨(some 12), none, (.op (.faddr 1 (.t 2)))⟩, false), (⟨(some 13), none, (.op (.load none (.t 12)))⟩, false), (⟨(some 14), none, (.call 27 [(.t 13)])⟩, true), (⟨(some 15), none, (.op (.build [(.i .u64 0), .sn] [(0, 1, (.t 11)), (1, 1, (.t 14))]))⟩, false), (⟨(some 6), none, (.op (.fresh [(.i .u64 0), .sn]))⟩, true), (⟨none, none, (.op (.store 2 (.t 6) (.t 15)))⟩, false)]
theorem c13d0_w {P : Program} {O : Orc} {S0 : Mem} {rd : Bool} {e : Env} {S : Mem} {d : List Nat} {Q : Kont} : W P O S0 rd (.draw c13d0 []) e S d Q = wFl O c13d0w e S (normK Q d) := W_draw' (by kernel_rfl) (by kernel_rfl)
attribute [go_sem] c13d0_w c13d0w
def c13d1 : List Stage :=
  [⟨[(⟨(some 25), none, (.op (.faddr 0 (.t 2)))⟩, 1), (⟨(some 26), none, (.op (.load none (.t 25)))⟩, 1), (⟨(some 27), none, (.op (.faddr 1 (.t 2)))⟩, 0), (⟨(some 28), none, (.op (.load none (.t 27)))⟩, 0)], none, some ⟨(some 29), none, (.call 27 [(.t 28)])⟩⟩,
    ⟨[(⟨(some 30), none, (.op (.build [(.i .u64 0), .sn] [(0, 1, (.t 26)), (1, 1, (.t 29))]))⟩, 1)], some ⟨(some 7), none, (.op (.fresh [(.i .u64 0), .sn]))⟩, some ⟨none, none, (.op (.store 2 (.t 7) (.t 30)))⟩⟩,
    ⟨[], none, none⟩]
def c13d1w : List (ROp × Bool) :=
  [(⟨(some 25), none, (.op (.faddr 0 (.t 2)))⟩, false), (⟨(some 26), none, (.op (.load none (.t 25)))⟩, false), (⟨(some 27), none, (.op (.faddr 1 (.t 2)))⟩, false), (⟨(some 28), none, (.op (.load none (.t 27)))⟩, false), (⟨(some 29), none, (.call 27 [(.t 28)])⟩, true), (⟨(some 30), none, (.op (.build [(.i .u64 0), .sn] [(0, 1, (.t 26)), (1, 1, (.t 29))]))⟩, false), (⟨(some 7), none, (.op (.fresh [(.i .u64 0), .sn]))⟩, true), (⟨none, none, (.op (.store 2 (.t 7) (.t 30)))⟩, false)]
theorem c13d1_w {P : Program} {O : Orc} {S0 : Mem} {rd : Bool} {e : Env} {S : Mem} {d : List Nat} {Q : Kont} : W P O S0 rd (.draw c13d1 []) e S d Q = wFl O c13d1w e S (normK Q d) := W_draw' (by kernel_rfl) (by kernel_rfl)
attribute [go_sem] c13d1_w c13d1w
def c13l2 : ICode :=
  .seq (.region [⟨(some 68), none, (.op (.bin .int false .lss (.t 67) (.t 66)))⟩])
   (.live [7, 4, 6, 8, 66, 67, 68] (.seq (.cond (.t 68) (.skip)
   (.exit 1))
   (.live [7, 4, 6, 8, 66, 67] (.seq (.block 2 (.seq (.region [⟨(some 69), none, (.op (.mv (.t 67)))⟩,
    ⟨(some 9), none, (.op (.mv (.t 69)))⟩])
   (.live [7, 4, 6, 8, 66, 67, 9] (.region [⟨(some 70), none, (.op (.faddr 1 (.t 7)))⟩,
    ⟨(some 71), none, (.op (.load none (.t 70)))⟩,
    ⟨(some 72), none, (.op (.mv (.t 9)))⟩,
    ⟨(some 73), none, (.op (.iaddr none 14 (.t 71) (.t 72)))⟩,
    ⟨(some 74), none, (.op (.faddr 13 (.t 73)))⟩,
    ⟨none, none, (.op (.store 1 (.t 74) (.c (.i .u64 0))))⟩]))))
   (.live [7, 4, 6, 8, 66, 67] (.region [⟨(some 75), none, (.op (.bin .int true .add (.t 67) (.c (.i .i64 1))))⟩,
    ⟨(some 67), none, (.op (.mv (.t 75)))⟩]))))))
def c13 : IFunc := ⟨2, [.cell 4 (some 2), .tmp 5],
  .seq (.region [⟨(some 2), none, (.op (.box (.t 0)))⟩,
    ⟨(some 3), none, (.op (.box (.t 1)))⟩,
    ⟨(some 4), none, (.op (.fresh [(.i .u64 0), .sn]))⟩,
    ⟨(some 5), none, (.op (.mv (.c (.i .i64 0))))⟩])
   (.live [4, 3, 2] (.seq (.draw c13d0 [])
   (.live [4, 6, 3, 2] (.seq (.seq (.region [⟨(some 16), none, (.op (.load (some 2) (.t 2)))⟩,
    ⟨(some 17), none, (.call 16 [(.t 16)])⟩,
    ⟨(some 18), none, (.op (.un .not (.t 17)))⟩,
    ⟨(some 19), none, (.op (.mv (.t 18)))⟩,
    ⟨(some 20), some (19, false), (.op (.load (some 6) (.t 3)))⟩,
    ⟨(some 21), some (19, false), (.call 28 [(.t 20)])⟩,
    ⟨(some 22), some (19, false), (.op (.un .not (.t 21)))⟩,
    ⟨(some 23), none, (.op (.pick (.t 19) (.c (.b true)) (.t 22)))⟩])
   (.live [4, 6, 3, 2, 23] (.cond (.t 23) (.seq (.region [⟨(some 24), none, (.op (.load (some 2) (.t 6)))⟩,
    ⟨none, none, (.op (.store 2 (.t 4) (.t 24)))⟩,
    ⟨(some 5), none, (.op (.mv (.c (.i .i64 131))))⟩])
   (.ret))
   (.skip))))
   (.live [4, 6, 3, 2] (.seq (.draw c13d1 [])
   (.live [4, 6, 7, 3, 2] (.seq (.region [⟨(some 8), none, (.op (.mv (.c (.b false))))⟩])
   (.live [4, 6, 7, 3, 2, 8] (.seq (.seq (.region [⟨(some 31), none, (.op (.faddr 0 (.t 3)))⟩,
    ⟨(some 32), none, (.op (.load none (.t 31)))⟩])
   (.live [4, 6, 7, 3, 2, 8, 32] (.block 0 (.seq (.region [⟨(some 34), none, (.op (.bin .int true .eql (.t 32) (.c (.i .i64 1))))⟩,
    ⟨(some 33), none, (.op (.mv (.t 34)))⟩])
   (.live [4, 6, 7, 3, 2, 8, 32, 33] (.cond (.t 33) (.region [⟨(some 36), none, (.op (.faddr 1 (.t 7)))⟩,
    ⟨(some 37), none, (.op (.load none (.t 36)))⟩,
    ⟨(some 38), none, (.op (.load (some 6) (.t 3)))⟩,
    ⟨(some 39), none, (.call 29 [(.t 37), (.t 38)])⟩,
    ⟨(some 35), none, (.op (.mv (.t 39)))⟩,
    ⟨(some 40), none, (.op (.ext (.t 35) 0))⟩,
    ⟨(some 41), none, (.op (.ext (.t 35) 1))⟩,
    ⟨(some 42), none, (.op (.faddr 1 (.t 7)))⟩,
    ⟨none, none, (.op (.store 1 (.t 42) (.t 40)))⟩,
    ⟨(some 8), none, (.op (.mv (.t 41)))⟩])
   (.seq (.region [⟨(some 44), none, (.op (.bin .int true .eql (.t 32) (.c (.i .i64 2))))⟩,
    ⟨(some 43), none, (.op (.mv (.t 44)))⟩])
   (.live [4, 6, 7, 3, 2, 8, 32, 43] (.cond (.t 43) (.region [⟨(some 46), none, (.op (.faddr 1 (.t 7)))⟩,
    ⟨(some 47), none, (.op (.load none (.t 46)))⟩,
    ⟨(some 48), none, (.op (.load (some 6) (.t 3)))⟩,
    ⟨(some 49), none, (.call 30 [(.t 47), (.t 48)])⟩,
    ⟨(some 45), none, (.op (.mv (.t 49)))⟩,
    ⟨(some 50), none, (.op (.ext (.t 45) 0))⟩,
    ⟨(some 51), none, (.op (.ext (.t 45) 1))⟩,
    ⟨(some 52), none, (.op (.faddr 1 (.t 7)))⟩,
    ⟨none, none, (.op (.store 1 (.t 52) (.t 50)))⟩,
    ⟨(some 8), none, (.op (.mv (.t 51)))⟩])
   (.seq (.region [⟨(some 54), none, (.op (.bin .int true .eql (.t 32) (.c (.i .i64 3))))⟩,
    ⟨(some 53), none, (.op (.mv (.t 54)))⟩])
   (.live [7, 4, 6, 3, 2, 8, 53] (.cond (.t 53) (.seq (.region [⟨(some 55), none, (.op (.faddr 5 (.t 3)))⟩,
    ⟨(some 56), none, (.op (.load none (.t 55)))⟩,
    ⟨(some 57), none, (.op (.faddr 0 (.t 2)))⟩,
    ⟨(some 58), none, (.op (.load none (.t 57)))⟩,
    ⟨(some 59), none, (.op (.bin .int true .add (.t 58) (.c (.i .u64 1))))⟩,
    ⟨(some 60), none, (.op (.bin .int false .eql (.t 56) (.t 59)))⟩,
    ⟨(some 8), none, (.op (.mv (.t 60)))⟩])
   (.live [7, 4, 6, 8, 3] (.seq (.region [⟨(some 61), none, (.op (.faddr 5 (.t 3)))⟩,
    ⟨(some 62), none, (.op (.load none (.t 61)))⟩,
    ⟨(some 63), none, (.op (.faddr 0 (.t 7)))⟩,
    ⟨none, none, (.op (.store 1 (.t 63) (.t 62)))⟩])
   (.live [7, 4, 6, 8] (.seq (.region [⟨(some 64), none, (.op (.faddr 1 (.t 7)))⟩,
    ⟨(some 65), none, (.op (.load none (.t 64)))⟩,
    ⟨(some 66), none, (.op (.len .slice (.t 65)))⟩,
    ⟨(some 67), none, (.op (.mv (.c (.i .i64 0))))⟩])
   (.live [7, 4, 6, 8, 66, 67] (.block 1 (.loop [7, 4, 6, 8, 66, 67] c13l2))))))))
   (.skip)))))))))))))
   (.live [4, 6, 7, 8] (.seq (.seq (.region [⟨(some 76), none, (.op (.mv (.t 8)))⟩,
    ⟨(some 77), none, (.op (.un .not (.t 76)))⟩,
    ⟨(some 78), none, (.op (.mv (.t 77)))⟩,
    ⟨(some 79), some (78, false), (.op (.load (some 2) (.t 7)))⟩,
    ⟨(some 80), some (78, false), (.call 16 [(.t 79)])⟩,
    ⟨(some 81), some (78, false), (.op (.un .not (.t 80)))⟩,
    ⟨(some 82), none, (.op (.pick (.t 78) (.c (.b true)) (.t 81)))⟩])
   (.live [4, 6, 7, 82] (.cond (.t 82) (.seq (.region [⟨(some 83), none, (.op (.load (some 2) (.t 6)))⟩,
    ⟨none, none, (.op (.store 2 (.t 4) (.t 83)))⟩,
    ⟨(some 5), none, (.op (.mv (.c (.i .i64 131))))⟩])
   (.ret))
   (.skip))))
   (.live [4, 7] (.seq (.region [⟨(some 84), none, (.op (.load (some 2) (.t 7)))⟩,
    ⟨none, none, (.op (.store 2 (.t 4) (.t 84)))⟩,
    ⟨(some 5), none, (.op (.mv (.c (.i .i64 0))))⟩])
   (.ret))))))))))))))),
  []⟩


/- floodgate/book.Right -/

def c16 : IFunc := ⟨1, [.tmp 2],
  .seq (.region [⟨(some 1), none, (.op (.box (.t 0)))⟩,
    ⟨(some 2), none, (.op (.mv (.c (.b false))))⟩])
   (.live [1] (.seq (.seq (.region [⟨(some 3), none, (.op (.faddr 0 (.t 1)))⟩,
    ⟨(some 4), none, (.op (.load none (.t 3)))⟩,
    ⟨(some 5), none, (.op (.bin .int true .lss (.t 4) (.c (.i .u64 1))))⟩,
    ⟨(some 6), none, (.op (.mv (.t 5)))⟩,
    ⟨(some 7), some (6, false), (.op (.faddr 0 (.t 1)))⟩,
    ⟨(some 8), some (6, false), (.op (.load none (.t 7)))⟩,
    ⟨(some 9), some (6, false), (.op (.bin .int true .gtr (.t 8) (.c (.i .u64 281474976710656))))⟩,
    ⟨(some 10), none, (.op (.pick (.t 6) (.c (.b true)) (.t 9)))⟩,
    ⟨(some 11), none, (.op (.mv (.t 10)))⟩,
    ⟨(some 12), some (11, false), (.op (.faddr 1 (.t 1)))⟩,
    ⟨(some 13), some (11, false), (.op (.load none (.t 12)))⟩,
    ⟨(some 14), some (11, false), (.op (.len .slice (.t 13)))⟩,
    ⟨(some 15), some (11, false), (.op (.bin .int true .gtr (.t 14) (.c (.i .i64 8))))⟩,
    ⟨(some 16), none, (.op (.pick (.t 11) (.c (.b true)) (.t 15)))⟩,
    ⟨(some 17), none, (.op (.mv (.t 16)))⟩,
    ⟨(some 18), some (17, false), (.op (.faddr 1 (.t 1)))⟩,
    ⟨(some 19), some (17, false), (.op (.load none (.t 18)))⟩,
    ⟨(some 20), some (17, false), (.call 34 [(.t 19)])⟩,
    ⟨(some 21), some (17, false), (.call 33 [(.t 20)])⟩,
    ⟨(some 22), some (17, false), (.op (.bin .int true .neq (.t 21) (.c (.i .i64 0))))⟩,
    ⟨(some 23), none, (.op (.pick (.t 17) (.c (.b true)) (.t 22)))⟩])
   (.live [1, 23] (.cond (.t 23) (.seq (.region [⟨(some 2), none, (.op (.mv (.c (.b false))))⟩])
   (.ret))
   (.skip))))
   (.live [1] (.seq (.region [⟨(some 24), none, (.op (.faddr 1 (.t 1)))⟩,
    ⟨(some 25), none, (.op (.load none (.t 24)))⟩,
    ⟨(some 26), none, (.call 35 [(.t 25), (.c (.f (.func 36) [] []))])⟩,
    ⟨(some 27), none, (.op (.un .not (.t 26)))⟩,
    ⟨(some 2), none, (.op (.mv (.t 27)))⟩])
   (.ret))))),
  []⟩


/- floodgate/book.Bytes -/
def c17d0 : List Stage :=
  [⟨[(⟨(some 20), none, (.op (.mv (.t 4)))⟩, 1), (⟨(some 21), none, (.op (.faddr 0 (.t 6)))⟩, 0), (⟨(some 22), none, (.op (.load (some 13) (.t 21)))⟩, 0), (⟨(some 25), none, (.op (.faddr 13 (.t 6)))⟩, 2), (⟨(some 26), none, (.op (.load none (.t 25)))⟩, 2)], none, some ⟨(some 23), none, (.call 37 [(.t 22)])⟩⟩,
    ⟨[], none, some ⟨(some 24), none, (.op (.app 1 8 (.t 20) (.t 23)))⟩⟩,
    ⟨[], some ⟨(some 27), none, (.op (.bslice [(.i .u64 0)] 1 [(0, 1, (.t 26))]))⟩, some ⟨(some 28), none, (.op (.app 1 8 (.t 24) (.t 27)))⟩⟩,
    ⟨[(⟨(some 4), none, (.op (.mv (.t 28)))⟩, 3)], none, none⟩]
theorem c17d0_e {P : Program} {O : Orc} {S0 : Mem} {rd : Bool} {e : Env} {S : Mem} {d : List Nat} {Q : Kont} : W P O S0 rd (.draw c17d0 [4]) e S d Q = drawK (evDraw O c17d0 [4] e S) (normK Q d) := W_drawE (by kernel_rfl)
attribute [go_sem] c17d0_e
def c17l1 : ICode :=
  .seq (.region [⟨(some 17), none, (.op (.bin .int false .lss (.t 16) (.t 15)))⟩])
   (.live [14, 15, 16, 4, 17] (.seq (.cond (.t 17) (.skip)
   (.exit 0))
   (.live [14, 15, 16, 4] (.seq (.block 1 (.seq (.region [⟨(some 18), none, (.op (.iaddr none 14 (.t 14) (.t 16)))⟩,
    ⟨(some 19), none, (.op (.load (some 14) (.t 18)))⟩,
    ⟨(some 6), none, (.op (.fresh [(.i .i64 0), (.i .u8 0), (.i .u8 0), (.i .u8 0), (.i .u8 0), (.i .i64 0), (.i .u64 0), (.i .u64 0), (.i .u64 0), (.i .u64 0), (.i .u64 0), (.i .u64 0), (.i .u64 0), (.i .u64 0)]))⟩,
    ⟨none, none, (.op (.store 14 (.t 6) (.t 19)))⟩])
   (.live [14, 15, 16, 6, 4] (.draw c17d0 [4]))))
   (.live [14, 15, 4, 16] (.region [⟨(some 29), none, (.op (.bin .int true .add (.t 16) (.c (.i .i64 1))))⟩,
    ⟨(some 16), none, (.op (.mv (.t 29)))⟩]))))))
def c17 : IFunc := ⟨1, [.tmp 2, .tmp 3],
  .seq (.region [⟨(some 1), none, (.op (.box (.t 0)))⟩,
    ⟨(some 2), none, (.op (.mv (.c .sn)))⟩,
    ⟨(some 3), none, (.op (.mv (.c (.i .i64 0))))⟩])
   (.live [1] (.seq (.seq (.region [⟨(some 7), none, (.op (.load (some 2) (.t 1)))⟩,
    ⟨(some 8), none, (.call 16 [(.t 7)])⟩,
    ⟨(some 9), none, (.op (.un .not (.t 8)))⟩])
   (.live [1, 9] (.cond (.t 9) (.seq (.region [⟨(some 2), none, (.op (.mv (.c .sn)))⟩,
    ⟨(some 3), none, (.op (.mv (.c (.i .i64 131))))⟩])
   (.ret))
   (.skip))))
   (.live [1] (.seq (.region [⟨(some 10), none, (.op (.faddr 0 (.t 1)))⟩,
    ⟨(some 11), none, (.op (.load none (.t 10)))⟩,
    ⟨(some 12), none, (.op (.bslice [(.i .u64 0)] 1 [(0, 1, (.t 11))]))⟩,
    ⟨(some 4), none, (.op (.mv (.t 12)))⟩])
   (.live [4, 1] (.seq (.seq (.region [⟨(some 13), none, (.op (.faddr 1 (.t 1)))⟩,
    ⟨(some 14), none, (.op (.load none (.t 13)))⟩,
    ⟨(some 15), none, (.op (.len .slice (.t 14)))⟩,
    ⟨(some 16), none, (.op (.mv (.c (.i .i64 0))))⟩])
   (.live [14, 15, 16, 4] (.block 0 (.loop [14, 15, 16, 4] c17l1))))
   (.live [4] (.seq (.region [⟨(some 30), none, (.op (.mv (.t 4)))⟩,
    ⟨(some 31), none, (.call 38 [(.t 30)])⟩,
    ⟨(some 2), none, (.op (.mv (.t 31)))⟩,
    ⟨(some 3), none, (.op (.mv (.c (.i .i64 0))))⟩])
   (.ret))))))))),
  []⟩


/- floodgate/book.Find -/

def c19 : IFunc := ⟨2, [.cell 4 (some 14), .tmp 5],
  .seq (.region [⟨(some 2), none, (.op (.box (.t 0)))⟩,
    ⟨(some 4), none, (.op (.fresh [(.i .i64 0), (.i .u8 0), (.i .u8 0), (.i .u8 0), (.i .u8 0), (.i .i64 0), (.i .u64 0), (.i .u64 0), (.i .u64 0), (.i .u64 0), (.i .u64 0), (.i .u64 0), (.i .u64 0), (.i .u64 0)]))⟩,
    ⟨(some 5), none, (.op (.mv (.c (.b false))))⟩])
   (.live [4, 2, 1] (.seq (.region [⟨(some 7), none, (.op (.faddr 1 (.t 2)))⟩,
    ⟨(some 8), none, (.op (.load none (.t 7)))⟩,
    ⟨(some 9), none, (.op (.mv (.t 1)))⟩,
    ⟨(some 10), none, (.call 41 [(.t 8), (.t 9)])⟩,
    ⟨(some 6), none, (.op (.mv (.t 10)))⟩])
   (.live [4, 6, 2] (.seq (.seq (.region [⟨(some 11), none, (.op (.mv (.t 6)))⟩,
    ⟨(some 12), none, (.op (.bin .int true .lss (.t 11) (.c (.i .i64 0))))⟩])
   (.live [4, 6, 2, 12] (.cond (.t 12) (.seq (.region [⟨(some 13), none, (.op (.build [(.i .i64 0), (.i .u8 0), (.i .u8 0), (.i .u8 0), (.i .u8 0), (.i .i64 0), (.i .u64 0), (.i .u64 0), (.i .u64 0), (.i .u64 0), (.i .u64 0), (.i .u64 0), (.i .u64 0), (.i .u64 0)] []))⟩,
    ⟨none, none, (.op (.store 14 (.t 4) (.t 13)))⟩,
    ⟨(some 5), none, (.op (.mv (.c (.b false))))⟩])
   (.ret))
   (.skip))))
   (.live [4, 6, 2] (.seq (.region [⟨(some 14), none, (.op (.faddr 1 (.t 2)))⟩,
    ⟨(some 15), none, (.op (.load none (.t 14)))⟩,
    ⟨(some 16), none, (.op (.mv (.t 6)))⟩,
    ⟨(some 17), none, (.op (.iaddr none 14 (.t 15) (.t 16)))⟩,
    ⟨(some 18), none, (.op (.load (some 14) (.t 17)))⟩,
    ⟨none, none, (.op (.store 14 (.t 4) (.t 18)))⟩,
    ⟨(some 5), none, (.op (.mv (.c (.b true))))⟩])
   (.ret))))))),
  []⟩


/- floodgate/book.Same -/

def c22 : IFunc := ⟨2, [.tmp 4],
  .seq (.region [⟨(some 2), none, (.op (.box (.t 0)))⟩,
    ⟨(some 3), none, (.op (.box (.t 1)))⟩,
    ⟨(some 4), none, (.op (.mv (.c (.b false))))⟩])
   (.live [3, 2] (.seq (.region [⟨(some 5), none, (.op (.faddr 0 (.t 2)))⟩,
    ⟨(some 6), none, (.op (.load none (.t 5)))⟩,
    ⟨(some 7), none, (.op (.faddr 0 (.t 3)))⟩,
    ⟨(some 8), none, (.op (.load none (.t 7)))⟩,
    ⟨(some 9), none, (.op (.bin .int false .eql (.t 6) (.t 8)))⟩,
    ⟨(some 10), none, (.op (.mv (.t 9)))⟩,
    ⟨(some 11), some (10, true), (.op (.faddr 1 (.t 2)))⟩,
    ⟨(some 12), some (10, true), (.op (.load none (.t 11)))⟩,
    ⟨(some 13), some (10, true), (.op (.faddr 1 (.t 3)))⟩,
    ⟨(some 14), some (10, true), (.op (.load none (.t 13)))⟩,
    ⟨(some 15), some (10, true), (.call 43 [(.t 12), (.t 14)])⟩,
    ⟨(some 16), none, (.op (.pick (.t 10) (.t 15) (.c (.b false))))⟩,
    ⟨(some 4), none, (.op (.mv (.t 16)))⟩])
   (.ret))),
  []⟩


/- floodgate/floodgatelaw13.one -/

def c26 : IFunc := ⟨1, [.cell 2 (some 13)],
  .seq (.region [⟨(some 2), none, (.op (.fresh [(.i .i64 0), (.i .u8 0), (.i .u8 0), (.i .u8 0), (.i .u8 0), (.i .i64 0), (.i .u64 0), (.i .u64 0), (.i .u64 0), (.i .u64 0), (.i .u64 0), (.i .u64 0), (.i .u64 0)]))⟩])
   (.live [2, 0] (.seq (.region [⟨(some 3), none, (.op (.mv (.t 0)))⟩,
    ⟨(some 4), none, (.op (.mv (.t 0)))⟩,
    ⟨(some 5), none, (.op (.toInt .u8 (.t 4)))⟩,
    ⟨(some 6), none, (.op (.build [(.i .u8 0), (.i .u8 0), (.i .u8 0), (.i .u8 0)] [(0, 1, (.c (.i .u8 10))), (1, 1, (.t 5))]))⟩,
    ⟨(some 7), none, (.op (.build [(.i .u8 0), (.i .u8 0), (.i .u8 0), (.i .u8 0), (.i .i64 0)] [(0, 4, (.t 6)), (4, 1, (.c (.i .i64 16)))]))⟩,
    ⟨(some 8), none, (.op (.build [(.i .i64 0), (.i .u8 0), (.i .u8 0), (.i .u8 0), (.i .u8 0), (.i .i64 0), (.i .u64 0), (.i .u64 0), (.i .u64 0), (.i .u64 0), (.i .u64 0), (.i .u64 0), (.i .u64 0)] [(0, 1, (.t 3)), (1, 5, (.t 7)), (10, 1, (.c (.i .u64 9000))), (11, 1, (.c (.i .u64 1500))), (12, 1, (.c (.i .u64 1500)))]))⟩,
    ⟨none, none, (.op (.store 13 (.t 2) (.t 8)))⟩])
   (.ret))),
  []⟩


/- slices.Clone[[]floodgate/api.Entry,floodgate/api.Entry] -/

def c27 : IFunc := ⟨1, [.tmp 2],
  .seq (.region [⟨(some 2), none, (.op (.mv (.c .sn)))⟩])
   (.live [0] (.seq (.seq (.region [⟨(some 3), none, (.op (.mv (.t 0)))⟩,
    ⟨(some 4), none, (.op (.bin .slice true .eql (.t 3) (.c .sn)))⟩])
   (.live [0, 4] (.cond (.t 4) (.seq (.region [⟨(some 2), none, (.op (.mv (.c .sn)))⟩])
   (.ret))
   (.skip))))
   (.live [0] (.seq (.region [⟨(some 5), none, (.op (.bslice [(.i .i64 0), (.i .u8 0), (.i .u8 0), (.i .u8 0), (.i .u8 0), (.i .i64 0), (.i .u64 0), (.i .u64 0), (.i .u64 0), (.i .u64 0), (.i .u64 0), (.i .u64 0), (.i .u64 0), (.i .u64 0)] 0 []))⟩,
    ⟨(some 6), none, (.op (.mv (.t 0)))⟩,
    ⟨(some 7), none, (.op (.app 14 88 (.t 5) (.t 6)))⟩,
    ⟨(some 2), none, (.op (.mv (.t 7)))⟩])
   (.ret))))),
  []⟩


/- floodgate/event.Right -/

def c28 : IFunc := ⟨1, [.tmp 2],
  .seq (.region [⟨(some 1), none, (.op (.box (.t 0)))⟩,
    ⟨(some 2), none, (.op (.mv (.c (.b false))))⟩])
   (.live [1] (.seq (.seq (.region [⟨(some 4), none, (.op (.faddr 0 (.t 1)))⟩,
    ⟨(some 5), none, (.op (.load none (.t 4)))⟩])
   (.live [1, 5] (.block 0 (.seq (.region [⟨(some 7), none, (.op (.bin .int true .eql (.t 5) (.c (.i .i64 1))))⟩,
    ⟨(some 6), none, (.op (.mv (.t 7)))⟩])
   (.live [1, 5, 6] (.cond (.t 6) (.seq (.region [⟨(some 8), none, (.op (.faddr 2 (.t 1)))⟩,
    ⟨(some 9), none, (.op (.load none (.t 8)))⟩,
    ⟨(some 10), none, (.op (.len .slice (.t 9)))⟩,
    ⟨(some 11), none, (.op (.faddr 3 (.t 1)))⟩,
    ⟨(some 12), none, (.op (.load none (.t 11)))⟩,
    ⟨(some 13), none, (.op (.len .slice (.t 12)))⟩,
    ⟨(some 14), none, (.op (.bin .int false .add (.t 10) (.t 13)))⟩,
    ⟨(some 15), none, (.op (.bin .int true .gtr (.t 14) (.c (.i .i64 0))))⟩,
    ⟨(some 3), none, (.op (.mv (.t 15)))⟩])
   (.live [1, 3] (.seq (.region [⟨(some 16), none, (.op (.mv (.t 3)))⟩,
    ⟨(some 17), none, (.op (.mv (.t 16)))⟩,
    ⟨(some 18), some (17, true), (.op (.faddr 2 (.t 1)))⟩,
    ⟨(some 19), some (17, true), (.op (.load none (.t 18)))⟩,
    ⟨(some 20), some (17, true), (.call 33 [(.t 19)])⟩,
    ⟨(some 21), some (17, true), (.op (.bin .int true .eql (.t 20) (.c (.i .i64 0))))⟩,
    ⟨(some 22), none, (.op (.pick (.t 17) (.t 21) (.c (.b false))))⟩,
    ⟨(some 23), none, (.op (.mv (.t 22)))⟩,
    ⟨(some 24), some (23, true), (.op (.faddr 3 (.t 1)))⟩,
    ⟨(some 25), some (23, true), (.op (.load none (.t 24)))⟩,
    ⟨(some 26), some (23, true), (.op (.faddr 2 (.t 1)))⟩,
    ⟨(some 27), some (23, true), (.op (.load none (.t 26)))⟩,
    ⟨(some 28), some (23, true), (.call 49 [(.t 25), (.t 27)])⟩,
    ⟨(some 29), none, (.op (.pick (.t 23) (.t 28) (.c (.b false))))⟩,
    ⟨(some 30), none, (.op (.mv (.t 29)))⟩,
    ⟨(some 31), some (30, true), (.op (.load (some 6) (.t 1)))⟩,
    ⟨(some 32), some (30, true), (.op (.faddr 0 (.t 1)))⟩,
    ⟨(some 33), some (30, true), (.op (.load none (.t 32)))⟩,
    ⟨(some 34), some (30, true), (.op (.faddr 2 (.t 1)))⟩,
    ⟨(some 35), some (30, true), (.op (.load none (.t 34)))⟩,
    ⟨(some 36), some (30, true), (.op (.faddr 3 (.t 1)))⟩,
    ⟨(some 37), some (30, true), (.op (.load none (.t 36)))⟩,
    ⟨(some 38), some (30, true), (.op (.build [(.i .i64 0), (.i .i64 0), .sn, .sn, (.i .u64 0), (.i .u64 0)] [(0, 1, (.t 33)), (2, 1, (.t 35)), (3, 1, (.t 37))]))⟩,
    ⟨(some 39), some (30, true), (.call 50 [(.t 31), (.t 38)])⟩,
    ⟨(some 40), none, (.op (.pick (.t 30) (.t 39) (.c (.b false))))⟩,
    ⟨(some 2), none, (.op (.mv (.t 40)))⟩])
   (.ret))))
   (.seq (.region [⟨(some 42), none, (.op (.bin .int true .eql (.t 5) (.c (.i .i64 2))))⟩,
    ⟨(some 41), none, (.op (.mv (.t 42)))⟩])
   (.live [1, 5, 41] (.cond (.t 41) (.seq (.region [⟨(some 43), none, (.op (.faddr 1 (.t 1)))⟩,
    ⟨(some 44), none, (.op (.load none (.t 43)))⟩,
    ⟨(some 45), none, (.call 51 [(.t 44)])⟩,
    ⟨(some 46), none, (.op (.mv (.t 45)))⟩,
    ⟨(some 47), some (46, true), (.op (.faddr 4 (.t 1)))⟩,
    ⟨(some 48), some (46, true), (.op (.load none (.t 47)))⟩,
    ⟨(some 49), some (46, true), (.call 52 [(.t 48)])⟩,
    ⟨(some 50), none, (.op (.pick (.t 46) (.t 49) (.c (.b false))))⟩,
    ⟨(some 51), none, (.op (.mv (.t 50)))⟩,
    ⟨(some 52), some (51, true), (.op (.load (some 6) (.t 1)))⟩,
    ⟨(some 53), some (51, true), (.op (.faddr 0 (.t 1)))⟩,
    ⟨(some 54), some (51, true), (.op (.load none (.t 53)))⟩,
    ⟨(some 55), some (51, true), (.op (.faddr 1 (.t 1)))⟩,
    ⟨(some 56), some (51, true), (.op (.load none (.t 55)))⟩,
    ⟨(some 57), some (51, true), (.op (.faddr 4 (.t 1)))⟩,
    ⟨(some 58), some (51, true), (.op (.load none (.t 57)))⟩,
    ⟨(some 59), some (51, true), (.op (.build [(.i .i64 0), (.i .i64 0), .sn, .sn, (.i .u64 0), (.i .u64 0)] [(0, 1, (.t 54)), (1, 1, (.t 56)), (4, 1, (.t 58))]))⟩,
    ⟨(some 60), some (51, true), (.call 50 [(.t 52), (.t 59)])⟩,
    ⟨(some 61), none, (.op (.pick (.t 51) (.t 60) (.c (.b false))))⟩,
    ⟨(some 2), none, (.op (.mv (.t 61)))⟩])
   (.ret))
   (.seq (.region [⟨(some 63), none, (.op (.bin .int true .eql (.t 5) (.c (.i .i64 3))))⟩,
    ⟨(some 62), none, (.op (.mv (.t 63)))⟩])
   (.live [1, 62] (.cond (.t 62) (.seq (.region [⟨(some 64), none, (.op (.faddr 5 (.t 1)))⟩,
    ⟨(some 65), none, (.op (.load none (.t 64)))⟩,
    ⟨(some 66), none, (.call 52 [(.t 65)])⟩,
    ⟨(some 67), none, (.op (.mv (.t 66)))⟩,
    ⟨(some 68), some (67, true), (.op (.load (some 6) (.t 1)))⟩,
    ⟨(some 69), some (67, true), (.op (.faddr 0 (.t 1)))⟩,
    ⟨(some 70), some (67, true), (.op (.load none (.t 69)))⟩,
    ⟨(some 71), some (67, true), (.op (.faddr 5 (.t 1)))⟩,
    ⟨(some 72), some (67, true), (.op (.load none (.t 71)))⟩,
    ⟨(some 73), some (67, true), (.op (.build [(.i .i64 0), (.i .i64 0), .sn, .sn, (.i .u64 0), (.i .u64 0)] [(0, 1, (.t 70)), (5, 1, (.t 72))]))⟩,
    ⟨(some 74), some (67, true), (.call 50 [(.t 68), (.t 73)])⟩,
    ⟨(some 75), none, (.op (.pick (.t 67) (.t 74) (.c (.b false))))⟩,
    ⟨(some 2), none, (.op (.mv (.t 75)))⟩])
   (.ret))
   (.skip)))))))))))))
   (.live [] (.seq (.region [⟨(some 2), none, (.op (.mv (.c (.b false))))⟩])
   (.ret))))),
  []⟩


/- floodgate/book.commit -/
def c29l0 : ICode :=
  .seq (.region [⟨(some 16), none, (.op (.bin .int false .lss (.t 15) (.t 14)))⟩])
   (.live [13, 3, 14, 15, 0, 16] (.seq (.cond (.t 16) (.skip)
   (.exit 0))
   (.live [13, 3, 14, 15, 0] (.seq (.block 1 (.seq (.region [⟨(some 17), none, (.op (.iaddr none 1 (.t 13) (.t 15)))⟩,
    ⟨(some 18), none, (.op (.load none (.t 17)))⟩,
    ⟨(some 7), none, (.op (.mv (.t 18)))⟩])
   (.live [13, 3, 14, 15, 0, 7] (.seq (.region [⟨(some 19), none, (.op (.mv (.t 0)))⟩,
    ⟨(some 20), none, (.op (.mv (.t 7)))⟩,
    ⟨(some 21), none, (.call 41 [(.t 19), (.t 20)])⟩,
    ⟨(some 8), none, (.op (.mv (.t 21)))⟩])
   (.live [13, 3, 14, 15, 8, 0] (.seq (.seq (.region [⟨(some 22), none, (.op (.mv (.t 8)))⟩,
    ⟨(some 23), none, (.op (.bin .int true .lss (.t 22) (.c (.i .i64 0))))⟩])
   (.live [13, 3, 14, 15, 8, 0, 23] (.cond (.t 23) (.seq (.region [⟨(some 4), none, (.op (.mv (.c .sn)))⟩,
    ⟨(some 5), none, (.op (.mv (.c (.b false))))⟩])
   (.ret))
   (.skip))))
   (.live [13, 3, 14, 15, 8, 0] (.region [⟨(some 24), none, (.op (.mv (.t 0)))⟩,
    ⟨(some 25), none, (.op (.mv (.t 8)))⟩,
    ⟨(some 26), none, (.op (.mv (.t 8)))⟩,
    ⟨(some 27), none, (.op (.bin .int true .add (.t 26) (.c (.i .i64 1))))⟩,
    ⟨(some 28), none, (.call 53 [(.t 24), (.t 25), (.t 27)])⟩,
    ⟨(some 0), none, (.op (.mv (.t 28)))⟩]))))))))
   (.live [13, 3, 14, 0, 15] (.region [⟨(some 29), none, (.op (.bin .int true .add (.t 15) (.c (.i .i64 1))))⟩,
    ⟨(some 15), none, (.op (.mv (.t 29)))⟩]))))))
def c29l1 : ICode :=
  .seq (.region [⟨(some 34), none, (.op (.bin .int false .lss (.t 33) (.t 32)))⟩])
   (.live [0, 31, 32, 33, 34] (.seq (.cond (.t 34) (.skip)
   (.exit 2))
   (.live [0, 31, 32, 33] (.seq (.block 3 (.seq (.region [⟨(some 35), none, (.op (.iaddr none 13 (.t 31) (.t 33)))⟩,
    ⟨(some 36), none, (.op (.load (some 13) (.t 35)))⟩,
    ⟨(some 10), none, (.op (.fresh [(.i .i64 0), (.i .u8 0), (.i .u8 0), (.i .u8 0), (.i .u8 0), (.i .i64 0), (.i .u64 0), (.i .u64 0), (.i .u64 0), (.i .u64 0), (.i .u64 0), (.i .u64 0), (.i .u64 0)]))⟩,
    ⟨none, none, (.op (.store 13 (.t 10) (.t 36)))⟩])
   (.live [0, 31, 32, 33, 10] (.seq (.seq (.region [⟨(some 37), none, (.op (.mv (.t 0)))⟩,
    ⟨(some 38), none, (.op (.faddr 0 (.t 10)))⟩,
    ⟨(some 39), none, (.op (.load none (.t 38)))⟩,
    ⟨(some 40), none, (.call 41 [(.t 37), (.t 39)])⟩,
    ⟨(some 11), none, (.op (.mv (.t 40)))⟩])
   (.live [0, 31, 32, 33, 10, 11] (.seq (.region [⟨(some 41), none, (.op (.mv (.t 11)))⟩,
    ⟨(some 42), none, (.op (.bin .int true .geq (.t 41) (.c (.i .i64 0))))⟩])
   (.live [0, 31, 32, 33, 10, 11, 42] (.cond (.t 42) (.seq (.region [⟨(some 43), none, (.op (.mv (.t 0)))⟩,
    ⟨(some 44), none, (.op (.mv (.t 11)))⟩,
    ⟨(some 45), none, (.op (.load (some 13) (.t 10)))⟩,
    ⟨(some 46), none, (.op (.iaddr none 14 (.t 43) (.t 44)))⟩,
    ⟨(some 47), none, (.op (.faddr 0 (.t 46)))⟩,
    ⟨none, none, (.op (.store 13 (.t 47) (.t 45)))⟩])
   (.exit 3))
   (.skip))))))
   (.live [31, 32, 33, 10, 0] (.region [⟨(some 48), none, (.op (.mv (.t 0)))⟩,
    ⟨(some 49), none, (.op (.load (some 13) (.t 10)))⟩,
    ⟨(some 50), none, (.op (.build [(.i .i64 0), (.i .u8 0), (.i .u8 0), (.i .u8 0), (.i .u8 0), (.i .i64 0), (.i .u64 0), (.i .u64 0), (.i .u64 0), (.i .u64 0), (.i .u64 0), (.i .u64 0), (.i .u64 0), (.i .u64 0)] [(0, 13, (.t 49))]))⟩,
    ⟨(some 51), none, (.op (.bslice [(.i .i64 0), (.i .u8 0), (.i .u8 0), (.i .u8 0), (.i .u8 0), (.i .i64 0), (.i .u64 0), (.i .u64 0), (.i .u64 0), (.i .u64 0), (.i .u64 0), (.i .u64 0), (.i .u64 0), (.i .u64 0)] 1 [(0, 14, (.t 50))]))⟩,
    ⟨(some 52), none, (.op (.app 14 88 (.t 48) (.t 51)))⟩,
    ⟨(some 0), none, (.op (.mv (.t 52)))⟩]))))))
   (.live [0, 31, 32, 33] (.region [⟨(some 53), none, (.op (.bin .int true .add (.t 33) (.c (.i .i64 1))))⟩,
    ⟨(some 33), none, (.op (.mv (.t 53)))⟩]))))))
def c29 : IFunc := ⟨2, [.tmp 4, .tmp 5],
  .seq (.region [⟨(some 3), none, (.op (.box (.t 1)))⟩,
    ⟨(some 4), none, (.op (.mv (.c .sn)))⟩,
    ⟨(some 5), none, (.op (.mv (.c (.b false))))⟩])
   (.live [3, 0] (.seq (.seq (.region [⟨(some 12), none, (.op (.faddr 3 (.t 3)))⟩,
    ⟨(some 13), none, (.op (.load none (.t 12)))⟩,
    ⟨(some 14), none, (.op (.len .slice (.t 13)))⟩,
    ⟨(some 15), none, (.op (.mv (.c (.i .i64 0))))⟩])
   (.live [13, 3, 14, 15, 0] (.block 0 (.loop [13, 3, 14, 15, 0] c29l0))))
   (.live [0, 3] (.seq (.seq (.region [⟨(some 30), none, (.op (.faddr 2 (.t 3)))⟩,
    ⟨(some 31), none, (.op (.load none (.t 30)))⟩,
    ⟨(some 32), none, (.op (.len .slice (.t 31)))⟩,
    ⟨(some 33), none, (.op (.mv (.c (.i .i64 0))))⟩])
   (.live [0, 31, 32, 33] (.block 2 (.loop [0, 31, 32, 33] c29l1))))
   (.live [0] (.seq (.region [⟨(some 54), none, (.op (.mv (.t 0)))⟩,
    ⟨(some 55), none, (.call 54 [(.t 54), (.c (.f (.func 55) [] []))])⟩])
   (.live [0] (.seq (.region [⟨(some 56), none, (.op (.mv (.t 0)))⟩,
    ⟨(some 4), none, (.op (.mv (.t 56)))⟩,
    ⟨(some 5), none, (.op (.mv (.c (.b true))))⟩])
   (.ret))))))))),
  []⟩


/- floodgate/book.lease -/
def c30d0 : List Stage :=
  [⟨[(⟨(some 11), none, (.op (.mv (.t 6)))⟩, 0), (⟨(some 12), none, (.op (.bin .int true .lss (.t 11) (.c (.i .i64 0))))⟩, 0), (⟨(some 13), none, (.op (.mv (.t 12)))⟩, 0), (⟨(some 14), some (13, false), (.op (.faddr 4 (.t 3)))⟩, 0), (⟨(some 15), some (13, false), (.op (.load none (.t 14)))⟩, 0), (⟨(some 16), some (13, false), (.op (.mv (.t 0)))⟩, 0), (⟨(some 17), some (13, false), (.op (.mv (.t 6)))⟩, 0), (⟨(some 18), some (13, false), (.op (.iaddr none 14 (.t 16) (.t 17)))⟩, 0), (⟨(some 19), some (13, false), (.op (.faddr 13 (.t 18)))⟩, 0), (⟨(some 20), some (13, false), (.op (.load none (.t 19)))⟩, 0), (⟨(some 21), some (13, false), (.op (.bin .int false .lss (.t 15) (.t 20)))⟩, 0), (⟨(some 22), none, (.op (.pick (.t 13) (.c (.b true)) (.t 21)))⟩, 0), (⟨(some 23), none, (.op (.mv (.t 22)))⟩, 0), (⟨(some 24), some (23, false), (.op (.faddr 4 (.t 3)))⟩, 0), (⟨(some 25), some (23, false), (.op (.load none (.t 24)))⟩, 0), (⟨(some 26), some (23, false), (.op (.mv (.t 0)))⟩, 0), (⟨(some 27), some (23, false), (.op (.mv (.t 6)))⟩, 0), (⟨(some 28), some (23, false), (.op (.iaddr none 14 (.t 26) (.t 27)))⟩, 0), (⟨(some 29), some (23, false), (.op (.faddr 0 (.t 28)))⟩, 0), (⟨(some 30), some (23, false), (.op (.faddr 10 (.t 29)))⟩, 0), (⟨(some 31), some (23, false), (.op (.load none (.t 30)))⟩, 0), (⟨(some 32), some (23, false), (.op (.bin .int false .gtr (.t 25) (.t 31)))⟩, 0), (⟨(some 33), none, (.op (.pick (.t 23) (.c (.b true)) (.t 32)))⟩, 0)], none, none⟩]
def c30d0w : List (ROp × Bool) :=
  [(⟨(some 11), none, (.op (.mv (.t 6)))⟩, false), (⟨(some 12), none, (.op (.bin .int true .lss (.t 11) (.c (.i .i64 0))))⟩, false), (⟨(some 13), none, (.op (.mv (.t 12)))⟩, false), (⟨(some 14), some (13, false), (.op (.faddr 4 (.t 3)))⟩, false), (⟨(some 15), some (13, false), (.op (.load none (.t 14)))⟩, false), (⟨(some 16), some (13, false), (.op (.mv (.t 0)))⟩, false), (⟨(some 17), some (13, false), (.op (.mv (.t 6)))⟩, false), (⟨(some 18), some (13, false), (.op (.iaddr none 14 (.t 16) (.t 17)))⟩, false), (⟨(some 19), some (13, false), (.op (.faddr 13 (.t 18)))⟩, false), (⟨(some 20), some (13, false), (.op (.load none (.t 19)))⟩, false), (⟨(some 21), some (13, false), (.op (.bin .int false .lss (.t 15) (.t 20)))⟩, false), (⟨(some 22), none, (.op (.pick (.t 13) (.c (.b true)) (.t 21)))⟩, false), (⟨(some 23), none, (.op (.mv (.t 22)))⟩, false), (⟨(some 24), some (23, false), (.op (.faddr 4 (.t 3)))⟩, false), (⟨(some 25), some (23, false), (.op (.load none (.t 24)))⟩, false), (⟨(some 26), some (23, false), (.op (.mv (.t 0)))⟩, false), (⟨(some 27), some (23, false), (.op (.mv (.t 6)))⟩, false), (⟨(some 28), some (23, false), (.op (.iaddr none 14 (.t 26) (.t 27)))⟩, false), (⟨(some 29), some (23, false), (.op (.faddr 0 (.t 28)))⟩, false), (⟨(some 30), some (23, false), (.op (.faddr 10 (.t 29)))⟩, false), (⟨(some 31), some (23, false), (.op (.load none (.t 30)))⟩, false), (⟨(some 32), some (23, false), (.op (.bin .int false .gtr (.t 25) (.t 31)))⟩, false), (⟨(some 33), none, (.op (.pick (.t 23) (.c (.b true)) (.t 32)))⟩, false)]
theorem c30d0_w {P : Program} {O : Orc} {S0 : Mem} {rd : Bool} {e : Env} {S : Mem} {d : List Nat} {Q : Kont} : W P O S0 rd (.draw c30d0 []) e S d Q = wFl O c30d0w e S (normK Q d) := W_draw' (by kernel_rfl) (by kernel_rfl)
attribute [go_sem] c30d0_w c30d0w
def c30 : IFunc := ⟨2, [.tmp 4, .tmp 5],
  .seq (.region [⟨(some 3), none, (.op (.box (.t 1)))⟩,
    ⟨(some 4), none, (.op (.mv (.c .sn)))⟩,
    ⟨(some 5), none, (.op (.mv (.c (.b false))))⟩])
   (.live [0, 3] (.seq (.region [⟨(some 7), none, (.op (.mv (.t 0)))⟩,
    ⟨(some 8), none, (.op (.faddr 1 (.t 3)))⟩,
    ⟨(some 9), none, (.op (.load none (.t 8)))⟩,
    ⟨(some 10), none, (.call 41 [(.t 7), (.t 9)])⟩,
    ⟨(some 6), none, (.op (.mv (.t 10)))⟩])
   (.live [0, 3, 6] (.seq (.seq (.draw c30d0 [])
   (.live [0, 3, 6, 33] (.cond (.t 33) (.seq (.region [⟨(some 4), none, (.op (.mv (.c .sn)))⟩,
    ⟨(some 5), none, (.op (.mv (.c (.b false))))⟩])
   (.ret))
   (.skip))))
   (.live [0, 3, 6] (.seq (.region [⟨(some 34), none, (.op (.mv (.t 0)))⟩,
    ⟨(some 35), none, (.op (.mv (.t 6)))⟩,
    ⟨(some 36), none, (.op (.faddr 4 (.t 3)))⟩,
    ⟨(some 37), none, (.op (.load none (.t 36)))⟩,
    ⟨(some 38), none, (.op (.iaddr none 14 (.t 34) (.t 35)))⟩,
    ⟨(some 39), none, (.op (.faddr 13 (.t 38)))⟩,
    ⟨none, none, (.op (.store 1 (.t 39) (.t 37)))⟩])
   (.live [0] (.seq (.region [⟨(some 40), none, (.op (.mv (.t 0)))⟩,
    ⟨(some 4), none, (.op (.mv (.t 40)))⟩,
    ⟨(some 5), none, (.op (.mv (.c (.b true))))⟩])
   (.ret))))))))),
  []⟩


/- floodgate/policy.All -/
def c33d0 : List Stage :=
  [⟨[(⟨(some 17), none, (.op (.mv (.t 3)))⟩, 0), (⟨(some 18), none, (.op (.faddr 1 (.t 5)))⟩, 0), (⟨(some 19), none, (.op (.load (some 5) (.t 18)))⟩, 0), (⟨(some 20), none, (.op (.mlook true [.int, .int, .int, .int, .int] (.i .i64 0) false (.t 17) (.t 19)))⟩, 1), (⟨(some 21), none, (.op (.bin .int true .add (.t 20) (.c (.i .i64 1))))⟩, 1)], none, some ⟨(some 22), none, (.op (.mentry true [.int, .int, .int, .int, .int] (.i .i64 0) (.t 17) (.t 19)))⟩⟩,
    ⟨[(⟨(some 23), none, (.op (.ext (.t 22) 1))⟩, 1)], none, some ⟨none, none, (.op (.mstore (.t 17) (.t 23) (.t 21)))⟩⟩,
    ⟨[], none, none⟩]
theorem c33d0_e {P : Program} {O : Orc} {S0 : Mem} {rd : Bool} {e : Env} {S : Mem} {d : List Nat} {Q : Kont} : W P O S0 rd (.draw c33d0 []) e S d Q = drawK (evDraw O c33d0 [] e S) (normK Q d) := W_drawE (by kernel_rfl)
attribute [go_sem] c33d0_e
def c33d1 : List Stage :=
  [⟨[(⟨(some 24), none, (.op (.load (some 13) (.t 5)))⟩, 0)], none, some ⟨(some 25), none, (.call 59 [(.t 24)])⟩⟩,
    ⟨[(⟨(some 26), none, (.op (.un .not (.t 25)))⟩, 1), (⟨(some 27), none, (.op (.mv (.t 26)))⟩, 1), (⟨(some 28), some (27, false), (.op (.mv (.t 3)))⟩, 1), (⟨(some 29), some (27, false), (.op (.faddr 1 (.t 5)))⟩, 1), (⟨(some 30), some (27, false), (.op (.load (some 5) (.t 29)))⟩, 1), (⟨(some 31), some (27, false), (.op (.mlook true [.int, .int, .int, .int, .int] (.i .i64 0) false (.t 28) (.t 30)))⟩, 1), (⟨(some 32), some (27, false), (.op (.bin .int true .gtr (.t 31) (.c (.i .i64 1))))⟩, 1), (⟨(some 33), none, (.op (.pick (.t 27) (.c (.b true)) (.t 32)))⟩, 1), (⟨(some 34), none, (.op (.mv (.t 33)))⟩, 1), (⟨(some 35), some (34, false), (.op (.mv (.t 4)))⟩, 1), (⟨(some 36), some (34, false), (.op (.bin .int true .gtr (.t 35) (.c (.i .i64 0))))⟩, 1), (⟨(some 37), some (34, false), (.op (.mv (.t 36)))⟩, 1), (⟨(some 38), some (37, true), (.op (.faddr 0 (.t 5)))⟩, 1), (⟨(some 39), some (37, true), (.op (.load none (.t 38)))⟩, 1), (⟨(some 40), some (37, true), (.op (.mv (.t 0)))⟩, 1), (⟨(some 41), some (37, true), (.op (.mv (.t 4)))⟩, 1), (⟨(some 42), some (37, true), (.op (.bin .int true .sub (.t 41) (.c (.i .i64 1))))⟩, 1), (⟨(some 43), some (37, true), (.op (.iaddr none 13 (.t 40) (.t 42)))⟩, 1), (⟨(some 44), some (37, true), (.op (.faddr 0 (.t 43)))⟩, 1), (⟨(some 45), some (37, true), (.op (.load none (.t 44)))⟩, 1), (⟨(some 46), some (37, true), (.op (.bin .int false .leq (.t 39) (.t 45)))⟩, 1), (⟨(some 47), some (34, false), (.op (.pick (.t 37) (.t 46) (.c (.b false))))⟩, 1), (⟨(some 48), none, (.op (.pick (.t 34) (.c (.b true)) (.t 47)))⟩, 1)], none, none⟩]
def c33d1w : List (ROp × Bool) :=
  [(⟨(some 24), none, (.op (.load (some 13) (.t 5)))⟩, false), (⟨(some 25), none, (.call 59 [(.t 24)])⟩, false), (⟨(some 26), none, (.op (.un .not (.t 25)))⟩, false), (⟨(some 27), none, (.op (.mv (.t 26)))⟩, false), (⟨(some 28), some (27, false), (.op (.mv (.t 3)))⟩, false), (⟨(some 29), some (27, false), (.op (.faddr 1 (.t 5)))⟩, false), (⟨(some 30), some (27, false), (.op (.load (some 5) (.t 29)))⟩, false), (⟨(some 31), some (27, false), (.op (.mlook true [.int, .int, .int, .int, .int] (.i .i64 0) false (.t 28) (.t 30)))⟩, false), (⟨(some 32), some (27, false), (.op (.bin .int true .gtr (.t 31) (.c (.i .i64 1))))⟩, false), (⟨(some 33), none, (.op (.pick (.t 27) (.c (.b true)) (.t 32)))⟩, false), (⟨(some 34), none, (.op (.mv (.t 33)))⟩, false), (⟨(some 35), some (34, false), (.op (.mv (.t 4)))⟩, false), (⟨(some 36), some (34, false), (.op (.bin .int true .gtr (.t 35) (.c (.i .i64 0))))⟩, false), (⟨(some 37), some (34, false), (.op (.mv (.t 36)))⟩, false), (⟨(some 38), some (37, true), (.op (.faddr 0 (.t 5)))⟩, false), (⟨(some 39), some (37, true), (.op (.load none (.t 38)))⟩, false), (⟨(some 40), some (37, true), (.op (.mv (.t 0)))⟩, false), (⟨(some 41), some (37, true), (.op (.mv (.t 4)))⟩, false), (⟨(some 42), some (37, true), (.op (.bin .int true .sub (.t 41) (.c (.i .i64 1))))⟩, false), (⟨(some 43), some (37, true), (.op (.iaddr none 13 (.t 40) (.t 42)))⟩, false), (⟨(some 44), some (37, true), (.op (.faddr 0 (.t 43)))⟩, false), (⟨(some 45), some (37, true), (.op (.load none (.t 44)))⟩, false), (⟨(some 46), some (37, true), (.op (.bin .int false .leq (.t 39) (.t 45)))⟩, false), (⟨(some 47), some (34, false), (.op (.pick (.t 37) (.t 46) (.c (.b false))))⟩, false), (⟨(some 48), none, (.op (.pick (.t 34) (.c (.b true)) (.t 47)))⟩, false)]
theorem c33d1_w {P : Program} {O : Orc} {S0 : Mem} {rd : Bool} {e : Env} {S : Mem} {d : List Nat} {Q : Kont} : W P O S0 rd (.draw c33d1 []) e S d Q = wFl O c33d1w e S (normK Q d) := W_draw' (by kernel_rfl) (by kernel_rfl)
attribute [go_sem] c33d1_w c33d1w
def c33l2 : ICode :=
  .seq (.region [⟨(some 13), none, (.op (.bin .int false .lss (.t 12) (.t 11)))⟩])
   (.live [3, 0, 10, 11, 12, 13] (.seq (.cond (.t 13) (.skip)
   (.exit 0))
   (.live [3, 0, 10, 11, 12] (.seq (.block 1 (.seq (.region [⟨(some 14), none, (.op (.mv (.t 12)))⟩,
    ⟨(some 15), none, (.op (.iaddr none 13 (.t 10) (.t 12)))⟩,
    ⟨(some 16), none, (.op (.load (some 13) (.t 15)))⟩,
    ⟨(some 5), none, (.op (.fresh [(.i .i64 0), (.i .u8 0), (.i .u8 0), (.i .u8 0), (.i .u8 0), (.i .i64 0), (.i .u64 0), (.i .u64 0), (.i .u64 0), (.i .u64 0), (.i .u64 0), (.i .u64 0), (.i .u64 0)]))⟩,
    ⟨(some 4), none, (.op (.mv (.t 14)))⟩,
    ⟨none, none, (.op (.store 13 (.t 5) (.t 16)))⟩])
   (.live [3, 0, 10, 11, 12, 5, 4] (.seq (.draw c33d0 [])
   (.live [3, 0, 10, 11, 12, 5, 4] (.seq (.draw c33d1 [])
   (.live [3, 0, 10, 11, 12, 48] (.cond (.t 48) (.seq (.region [⟨(some 2), none, (.op (.mv (.c (.i .i64 111))))⟩])
   (.ret))
   (.skip)))))))))
   (.live [3, 0, 10, 11, 12] (.region [⟨(some 49), none, (.op (.bin .int true .add (.t 12) (.c (.i .i64 1))))⟩,
    ⟨(some 12), none, (.op (.mv (.t 49)))⟩]))))))
def c33 : IFunc := ⟨1, [.tmp 2],
  .seq (.region [⟨(some 2), none, (.op (.mv (.c (.i .i64 0))))⟩])
   (.live [0] (.seq (.seq (.region [⟨(some 6), none, (.op (.mv (.t 0)))⟩,
    ⟨(some 7), none, (.op (.len .slice (.t 6)))⟩,
    ⟨(some 8), none, (.op (.bin .int true .gtr (.t 7) (.c (.i .i64 8))))⟩])
   (.live [0, 8] (.cond (.t 8) (.seq (.region [⟨(some 2), none, (.op (.mv (.c (.i .i64 111))))⟩])
   (.ret))
   (.skip))))
   (.live [0] (.seq (.region [⟨(some 9), none, (.op (.mkmap none))⟩,
    ⟨(some 3), none, (.op (.mv (.t 9)))⟩])
   (.live [3, 0] (.seq (.seq (.region [⟨(some 10), none, (.op (.mv (.t 0)))⟩,
    ⟨(some 11), none, (.op (.len .slice (.t 10)))⟩,
    ⟨(some 12), none, (.op (.mv (.c (.i .i64 0))))⟩])
   (.live [3, 0, 10, 11, 12] (.block 0 (.loop [3, 0, 10, 11, 12] c33l2))))
   (.live [] (.seq (.region [⟨(some 2), none, (.op (.mv (.c (.i .i64 0))))⟩])
   (.ret))))))))),
  []⟩


/- floodgate/book.policies -/
def c34l0 : ICode :=
  .seq (.region [⟨(some 9), none, (.op (.bin .int false .lss (.t 8) (.t 7)))⟩])
   (.live [6, 7, 8, 3, 9] (.seq (.cond (.t 9) (.skip)
   (.exit 0))
   (.live [6, 7, 8, 3] (.seq (.block 1 (.seq (.region [⟨(some 10), none, (.op (.iaddr none 14 (.t 6) (.t 8)))⟩,
    ⟨(some 11), none, (.op (.load (some 14) (.t 10)))⟩,
    ⟨(some 5), none, (.op (.fresh [(.i .i64 0), (.i .u8 0), (.i .u8 0), (.i .u8 0), (.i .u8 0), (.i .i64 0), (.i .u64 0), (.i .u64 0), (.i .u64 0), (.i .u64 0), (.i .u64 0), (.i .u64 0), (.i .u64 0), (.i .u64 0)]))⟩,
    ⟨none, none, (.op (.store 14 (.t 5) (.t 11)))⟩])
   (.live [6, 7, 8, 5, 3] (.region [⟨(some 12), none, (.op (.mv (.t 3)))⟩,
    ⟨(some 13), none, (.op (.faddr 0 (.t 5)))⟩,
    ⟨(some 14), none, (.op (.load (some 13) (.t 13)))⟩,
    ⟨(some 15), none, (.op (.bslice [(.i .i64 0), (.i .u8 0), (.i .u8 0), (.i .u8 0), (.i .u8 0), (.i .i64 0), (.i .u64 0), (.i .u64 0), (.i .u64 0), (.i .u64 0), (.i .u64 0), (.i .u64 0), (.i .u64 0)] 1 [(0, 13, (.t 14))]))⟩,
    ⟨(some 16), none, (.op (.app 13 80 (.t 12) (.t 15)))⟩,
    ⟨(some 3), none, (.op (.mv (.t 16)))⟩]))))
   (.live [6, 7, 3, 8] (.region [⟨(some 17), none, (.op (.bin .int true .add (.t 8) (.c (.i .i64 1))))⟩,
    ⟨(some 8), none, (.op (.mv (.t 17)))⟩]))))))
def c34 : IFunc := ⟨1, [.tmp 2],
  .seq (.region [⟨(some 2), none, (.op (.mv (.c .sn)))⟩])
   (.live [0] (.seq (.region [⟨(some 3), none, (.op (.mv (.c .sn)))⟩])
   (.live [3, 0] (.seq (.seq (.region [⟨(some 6), none, (.op (.mv (.t 0)))⟩,
    ⟨(some 7), none, (.op (.len .slice (.t 6)))⟩,
    ⟨(some 8), none, (.op (.mv (.c (.i .i64 0))))⟩])
   (.live [6, 7, 8, 3] (.block 0 (.loop [6, 7, 8, 3] c34l0))))
   (.live [3] (.seq (.region [⟨(some 18), none, (.op (.mv (.t 3)))⟩,
    ⟨(some 2), none, (.op (.mv (.t 18)))⟩])
   (.ret))))))),
  []⟩


/- slices.ContainsFunc[[]floodgate/api.Entry,floodgate/api.Entry] -/

def c35 : IFunc := ⟨2, [.tmp 4],
  .seq (.region [⟨(some 4), none, (.op (.mv (.c (.b false))))⟩])
   (.live [1, 0] (.seq (.region [⟨(some 5), none, (.op (.mv (.t 0)))⟩,
    ⟨(some 6), none, (.op (.mv (.t 1)))⟩,
    ⟨(some 7), none, (.call 60 [(.t 5), (.t 6)])⟩,
    ⟨(some 8), none, (.op (.bin .int true .geq (.t 7) (.c (.i .i64 0))))⟩,
    ⟨(some 4), none, (.op (.mv (.t 8)))⟩])
   (.ret))),
  []⟩


/- floodgate/book.Right$1 -/

def c36 : IFunc := ⟨1, [.tmp 2],
  .seq (.region [⟨(some 1), none, (.op (.box (.t 0)))⟩,
    ⟨(some 2), none, (.op (.mv (.c (.b false))))⟩])
   (.live [1] (.seq (.region [⟨(some 3), none, (.op (.faddr 13 (.t 1)))⟩,
    ⟨(some 4), none, (.op (.load none (.t 3)))⟩,
    ⟨(some 5), none, (.op (.bin .int true .gtr (.t 4) (.c (.i .u64 281474976710656))))⟩,
    ⟨(some 2), none, (.op (.mv (.t 5)))⟩])
   (.ret))),
  []⟩


/- floodgate/policy.Nums -/
def c37d0 : List Stage :=
  [⟨[(⟨(some 6), none, (.op (.faddr 0 (.t 1)))⟩, 1), (⟨(some 7), none, (.op (.load none (.t 6)))⟩, 1), (⟨(some 8), none, (.op (.toInt .u64 (.t 7)))⟩, 1), (⟨(some 9), none, (.op (.faddr 1 (.t 1)))⟩, 0), (⟨(some 10), none, (.op (.faddr 0 (.t 9)))⟩, 0), (⟨(some 11), none, (.op (.load (some 4) (.t 10)))⟩, 0), (⟨(some 14), none, (.op (.faddr 1 (.t 1)))⟩, 1), (⟨(some 15), none, (.op (.faddr 4 (.t 14)))⟩, 1), (⟨(some 16), none, (.op (.load none (.t 15)))⟩, 1), (⟨(some 17), none, (.op (.toInt .u64 (.t 16)))⟩, 1), (⟨(some 18), none, (.op (.faddr 6 (.t 1)))⟩, 1), (⟨(some 19), none, (.op (.load none (.t 18)))⟩, 1), (⟨(some 20), none, (.op (.faddr 7 (.t 1)))⟩, 1), (⟨(some 21), none, (.op (.load none (.t 20)))⟩, 1), (⟨(some 22), none, (.op (.faddr 8 (.t 1)))⟩, 1), (⟨(some 23), none, (.op (.load none (.t 22)))⟩, 1), (⟨(some 24), none, (.op (.faddr 9 (.t 1)))⟩, 1), (⟨(some 25), none, (.op (.load none (.t 24)))⟩, 1), (⟨(some 26), none, (.op (.faddr 10 (.t 1)))⟩, 1), (⟨(some 27), none, (.op (.load none (.t 26)))⟩, 1), (⟨(some 28), none, (.op (.faddr 11 (.t 1)))⟩, 1), (⟨(some 29), none, (.op (.load none (.t 28)))⟩, 1), (⟨(some 30), none, (.op (.faddr 12 (.t 1)))⟩, 1), (⟨(some 31), none, (.op (.load none (.t 30)))⟩, 1)], none, some ⟨(some 12), none, (.call 61 [(.t 11)])⟩⟩,
    ⟨[(⟨(some 13), none, (.op (.toInt .u64 (.t 12)))⟩, 1)], none, some ⟨(some 32), none, (.op (.bslice [(.i .u64 0)] 10 [(0, 1, (.t 8)), (1, 1, (.t 13)), (2, 1, (.t 17)), (3, 1, (.t 19)), (4, 1, (.t 21)), (5, 1, (.t 23)), (6, 1, (.t 25)), (7, 1, (.t 27)), (8, 1, (.t 29)), (9, 1, (.t 31))]))⟩⟩,
    ⟨[(⟨(some 2), none, (.op (.mv (.t 32)))⟩, 2)], none, none⟩]
def c37d0w : List (ROp × Bool) :=
  [(⟨(some 6), none, (.op (.faddr 0 (.t 1)))⟩, false), (⟨(some 7), none, (.op (.load none (.t 6)))⟩, false), (⟨(some 8), none, (.op (.toInt .u64 (.t 7)))⟩, false), (⟨(some 9), none, (.op (.faddr 1 (.t 1)))⟩, false), (⟨(some 10), none, (.op (.faddr 0 (.t 9)))⟩, false), (⟨(some 11), none, (.op (.load (some 4) (.t 10)))⟩, false), (⟨(some 14), none, (.op (.faddr 1 (.t 1)))⟩, false), (⟨(some 15), none, (.op (.faddr 4 (.t 14)))⟩, false), (⟨(some 16), none, (.op (.load none (.t 15)))⟩, false), (⟨(some 17), none, (.op (.toInt .u64 (.t 16)))⟩, false), (⟨(some 18), none, (.op (.faddr 6 (.t 1)))⟩, false), (⟨(some 19), none, (.op (.load none (.t 18)))⟩, false), (⟨(some 20), none, (.op (.faddr 7 (.t 1)))⟩, false), (⟨(some 21), none, (.op (.load none (.t 20)))⟩, false), (⟨(some 22), none, (.op (.faddr 8 (.t 1)))⟩, false), (⟨(some 23), none, (.op (.load none (.t 22)))⟩, false), (⟨(some 24), none, (.op (.faddr 9 (.t 1)))⟩, false), (⟨(some 25), none, (.op (.load none (.t 24)))⟩, false), (⟨(some 26), none, (.op (.faddr 10 (.t 1)))⟩, false), (⟨(some 27), none, (.op (.load none (.t 26)))⟩, false), (⟨(some 28), none, (.op (.faddr 11 (.t 1)))⟩, false), (⟨(some 29), none, (.op (.load none (.t 28)))⟩, false), (⟨(some 30), none, (.op (.faddr 12 (.t 1)))⟩, false), (⟨(some 31), none, (.op (.load none (.t 30)))⟩, false), (⟨(some 12), none, (.call 61 [(.t 11)])⟩, true), (⟨(some 13), none, (.op (.toInt .u64 (.t 12)))⟩, false), (⟨(some 32), none, (.op (.bslice [(.i .u64 0)] 10 [(0, 1, (.t 8)), (1, 1, (.t 13)), (2, 1, (.t 17)), (3, 1, (.t 19)), (4, 1, (.t 21)), (5, 1, (.t 23)), (6, 1, (.t 25)), (7, 1, (.t 27)), (8, 1, (.t 29)), (9, 1, (.t 31))]))⟩, false), (⟨(some 2), none, (.op (.mv (.t 32)))⟩, false)]
theorem c37d0_w {P : Program} {O : Orc} {S0 : Mem} {rd : Bool} {e : Env} {S : Mem} {d : List Nat} {Q : Kont} : W P O S0 rd (.draw c37d0 []) e S d Q = wFl O c37d0w e S (normK Q d) := W_draw' (by kernel_rfl) (by kernel_rfl)
attribute [go_sem] c37d0_w c37d0w
def c37 : IFunc := ⟨1, [.tmp 2],
  .seq (.region [⟨(some 1), none, (.op (.box (.t 0)))⟩,
    ⟨(some 2), none, (.op (.mv (.c .sn)))⟩])
   (.live [1] (.seq (.seq (.region [⟨(some 3), none, (.op (.load (some 13) (.t 1)))⟩,
    ⟨(some 4), none, (.call 59 [(.t 3)])⟩,
    ⟨(some 5), none, (.op (.un .not (.t 4)))⟩])
   (.live [1, 5] (.cond (.t 5) (.seq (.region [⟨(some 2), none, (.op (.mv (.c .sn)))⟩])
   (.ret))
   (.skip))))
   (.live [1] (.seq (.draw c37d0 [])
   (.ret))))),
  []⟩


/- floodgate/leb.Nums -/
def c38l0 : ICode :=
  .seq (.region [⟨(some 9), none, (.op (.bin .int false .lss (.t 8) (.t 7)))⟩])
   (.live [6, 7, 8, 3, 9] (.seq (.cond (.t 9) (.skip)
   (.exit 0))
   (.live [6, 7, 8, 3] (.seq (.block 1 (.seq (.region [⟨(some 10), none, (.op (.iaddr none 1 (.t 6) (.t 8)))⟩,
    ⟨(some 11), none, (.op (.load none (.t 10)))⟩,
    ⟨(some 5), none, (.op (.mv (.t 11)))⟩])
   (.live [6, 7, 8, 5, 3] (.region [⟨(some 12), none, (.op (.mv (.t 3)))⟩,
    ⟨(some 13), none, (.op (.mv (.t 5)))⟩,
    ⟨(some 14), none, (.call 62 [(.t 13)])⟩,
    ⟨(some 15), none, (.op (.app 1 1 (.t 12) (.t 14)))⟩,
    ⟨(some 3), none, (.op (.mv (.t 15)))⟩]))))
   (.live [6, 7, 3, 8] (.region [⟨(some 16), none, (.op (.bin .int true .add (.t 8) (.c (.i .i64 1))))⟩,
    ⟨(some 8), none, (.op (.mv (.t 16)))⟩]))))))
def c38 : IFunc := ⟨1, [.tmp 2],
  .seq (.region [⟨(some 2), none, (.op (.mv (.c .sn)))⟩])
   (.live [0] (.seq (.region [⟨(some 3), none, (.op (.mv (.c .sn)))⟩])
   (.live [3, 0] (.seq (.seq (.region [⟨(some 6), none, (.op (.mv (.t 0)))⟩,
    ⟨(some 7), none, (.op (.len .slice (.t 6)))⟩,
    ⟨(some 8), none, (.op (.mv (.c (.i .i64 0))))⟩])
   (.live [6, 7, 8, 3] (.block 0 (.loop [6, 7, 8, 3] c38l0))))
   (.live [3] (.seq (.region [⟨(some 17), none, (.op (.mv (.t 3)))⟩,
    ⟨(some 2), none, (.op (.mv (.t 17)))⟩])
   (.ret))))))),
  []⟩


/- floodgate/book.place -/

def c41 : IFunc := ⟨2, [.tmp 4],
  .seq (.region [⟨(some 3), none, (.op (.box (.t 1)))⟩,
    ⟨(some 4), none, (.op (.mv (.c (.i .i64 0))))⟩])
   (.live [3, 0] (.seq (.region [⟨(some 5), none, (.op (.mv (.t 0)))⟩,
    ⟨(some 6), none, (.op (.mkf (.func 66) [] [(.t 3)]))⟩,
    ⟨(some 7), none, (.call 60 [(.t 5), (.t 6)])⟩,
    ⟨(some 4), none, (.op (.mv (.t 7)))⟩])
   (.ret))),
  []⟩


/- slices.Equal[[]floodgate/api.Entry,floodgate/api.Entry] -/
def c43d0 : List Stage :=
  [⟨[(⟨(some 16), none, (.op (.mv (.t 0)))⟩, 0), (⟨(some 17), none, (.op (.mv (.t 5)))⟩, 0), (⟨(some 18), none, (.op (.iaddr none 14 (.t 16) (.t 17)))⟩, 0), (⟨(some 19), none, (.op (.load (some 14) (.t 18)))⟩, 0), (⟨(some 20), none, (.op (.mv (.t 1)))⟩, 0), (⟨(some 21), none, (.op (.mv (.t 5)))⟩, 0), (⟨(some 22), none, (.op (.iaddr none 14 (.t 20) (.t 21)))⟩, 0), (⟨(some 23), none, (.op (.load (some 14) (.t 22)))⟩, 0), (⟨(some 24), none, (.op (.eqag true [.int, .int, .int, .int, .int, .int, .int, .int, .int, .int, .int, .int, .int, .int] (.t 19) (.t 23)))⟩, 0)], none, none⟩]
def c43d0w : List (ROp × Bool) :=
  [(⟨(some 16), none, (.op (.mv (.t 0)))⟩, false), (⟨(some 17), none, (.op (.mv (.t 5)))⟩, false), (⟨(some 18), none, (.op (.iaddr none 14 (.t 16) (.t 17)))⟩, false), (⟨(some 19), none, (.op (.load (some 14) (.t 18)))⟩, false), (⟨(some 20), none, (.op (.mv (.t 1)))⟩, false), (⟨(some 21), none, (.op (.mv (.t 5)))⟩, false), (⟨(some 22), none, (.op (.iaddr none 14 (.t 20) (.t 21)))⟩, false), (⟨(some 23), none, (.op (.load (some 14) (.t 22)))⟩, false), (⟨(some 24), none, (.op (.eqag true [.int, .int, .int, .int, .int, .int, .int, .int, .int, .int, .int, .int, .int, .int] (.t 19) (.t 23)))⟩, false)]
theorem c43d0_w {P : Program} {O : Orc} {S0 : Mem} {rd : Bool} {e : Env} {S : Mem} {d : List Nat} {Q : Kont} : W P O S0 rd (.draw c43d0 []) e S d Q = wFl O c43d0w e S (normK Q d) := W_draw' (by kernel_rfl) (by kernel_rfl)
attribute [go_sem] c43d0_w c43d0w
def c43l1 : ICode :=
  .seq (.region [⟨(some 14), none, (.op (.bin .int false .lss (.t 13) (.t 12)))⟩])
   (.live [0, 1, 12, 13, 14] (.seq (.cond (.t 14) (.skip)
   (.exit 0))
   (.live [0, 1, 12, 13] (.seq (.block 1 (.seq (.region [⟨(some 15), none, (.op (.mv (.t 13)))⟩,
    ⟨(some 5), none, (.op (.mv (.t 15)))⟩])
   (.live [0, 1, 12, 13, 5] (.seq (.draw c43d0 [])
   (.live [0, 1, 12, 13, 24] (.cond (.t 24) (.seq (.region [⟨(some 4), none, (.op (.mv (.c (.b false))))⟩])
   (.ret))
   (.skip)))))))
   (.live [0, 1, 12, 13] (.region [⟨(some 25), none, (.op (.bin .int true .add (.t 13) (.c (.i .i64 1))))⟩,
    ⟨(some 13), none, (.op (.mv (.t 25)))⟩]))))))
def c43 : IFunc := ⟨2, [.tmp 4],
  .seq (.region [⟨(some 4), none, (.op (.mv (.c (.b false))))⟩])
   (.live [0, 1] (.seq (.seq (.region [⟨(some 6), none, (.op (.mv (.t 0)))⟩,
    ⟨(some 7), none, (.op (.len .slice (.t 6)))⟩,
    ⟨(some 8), none, (.op (.mv (.t 1)))⟩,
    ⟨(some 9), none, (.op (.len .slice (.t 8)))⟩,
    ⟨(some 10), none, (.op (.bin .int false .neq (.t 7) (.t 9)))⟩])
   (.live [0, 1, 10] (.cond (.t 10) (.seq (.region [⟨(some 4), none, (.op (.mv (.c (.b false))))⟩])
   (.ret))
   (.skip))))
   (.live [0, 1] (.seq (.seq (.region [⟨(some 11), none, (.op (.mv (.t 0)))⟩,
    ⟨(some 12), none, (.op (.len .slice (.t 11)))⟩,
    ⟨(some 13), none, (.op (.mv (.c (.i .i64 0))))⟩])
   (.live [0, 1, 12, 13] (.block 0 (.loop [0, 1, 12, 13] c43l1))))
   (.live [] (.seq (.region [⟨(some 4), none, (.op (.mv (.c (.b true))))⟩])
   (.ret))))))),
  []⟩


/- floodgate/event.drops -/
def c49l0 : ICode :=
  .seq (.region [⟨(some 13), none, (.op (.bin .int false .lss (.t 12) (.t 11)))⟩])
   (.live [2, 10, 1, 11, 12, 13] (.seq (.cond (.t 13) (.skip)
   (.exit 0))
   (.live [2, 10, 1, 11, 12] (.seq (.block 1 (.seq (.region [⟨(some 14), none, (.op (.mv (.t 12)))⟩,
    ⟨(some 15), none, (.op (.iaddr none 1 (.t 10) (.t 12)))⟩,
    ⟨(some 16), none, (.op (.load none (.t 15)))⟩,
    ⟨(some 5), none, (.op (.mv (.t 14)))⟩,
    ⟨(some 6), none, (.op (.mv (.t 16)))⟩])
   (.live [2, 10, 1, 11, 12, 5, 6] (.seq (.region [⟨(some 17), none, (.op (.mv (.t 6)))⟩,
    ⟨(some 18), none, (.call 51 [(.t 17)])⟩,
    ⟨(some 19), none, (.op (.un .not (.t 18)))⟩,
    ⟨(some 20), none, (.op (.mv (.t 19)))⟩,
    ⟨(some 21), some (20, false), (.op (.mv (.t 5)))⟩,
    ⟨(some 22), some (20, false), (.op (.bin .int true .gtr (.t 21) (.c (.i .i64 0))))⟩,
    ⟨(some 23), some (20, false), (.op (.mv (.t 22)))⟩,
    ⟨(some 24), some (23, true), (.op (.mv (.t 6)))⟩,
    ⟨(some 25), some (23, true), (.op (.load none (.t 2)))⟩,
    ⟨(some 26), some (23, true), (.op (.mv (.t 5)))⟩,
    ⟨(some 27), some (23, true), (.op (.bin .int true .sub (.t 26) (.c (.i .i64 1))))⟩,
    ⟨(some 28), some (23, true), (.op (.iaddr none 1 (.t 25) (.t 27)))⟩,
    ⟨(some 29), some (23, true), (.op (.load none (.t 28)))⟩,
    ⟨(some 30), some (23, true), (.op (.bin .int false .leq (.t 24) (.t 29)))⟩,
    ⟨(some 31), some (20, false), (.op (.pick (.t 23) (.t 30) (.c (.b false))))⟩,
    ⟨(some 32), none, (.op (.pick (.t 20) (.c (.b true)) (.t 31)))⟩])
   (.live [2, 10, 1, 11, 12, 32] (.cond (.t 32) (.seq (.region [⟨(some 4), none, (.op (.mv (.c (.b false))))⟩])
   (.ret))
   (.skip)))))))
   (.live [2, 10, 1, 11, 12] (.region [⟨(some 33), none, (.op (.bin .int true .add (.t 12) (.c (.i .i64 1))))⟩,
    ⟨(some 12), none, (.op (.mv (.t 33)))⟩]))))))
def c49 : IFunc := ⟨2, [.tmp 4],
  .seq (.region [⟨(some 2), none, (.op (.box (.t 0)))⟩,
    ⟨(some 4), none, (.op (.mv (.c (.b false))))⟩])
   (.live [2, 1] (.seq (.seq (.region [⟨(some 7), none, (.op (.load none (.t 2)))⟩,
    ⟨(some 8), none, (.op (.len .slice (.t 7)))⟩,
    ⟨(some 9), none, (.op (.bin .int true .gtr (.t 8) (.c (.i .i64 8))))⟩])
   (.live [2, 1, 9] (.cond (.t 9) (.seq (.region [⟨(some 4), none, (.op (.mv (.c (.b false))))⟩])
   (.ret))
   (.skip))))
   (.live [2, 1] (.seq (.seq (.region [⟨(some 10), none, (.op (.load none (.t 2)))⟩,
    ⟨(some 11), none, (.op (.len .slice (.t 10)))⟩,
    ⟨(some 12), none, (.op (.mv (.c (.i .i64 0))))⟩])
   (.live [2, 10, 1, 11, 12] (.block 0 (.loop [2, 10, 1, 11, 12] c49l0))))
   (.live [2, 1] (.seq (.region [⟨(some 34), none, (.op (.mv (.t 1)))⟩,
    ⟨(some 35), none, (.op (.mkf (.func 74) [] [(.t 2)]))⟩,
    ⟨(some 36), none, (.call 73 [(.t 34), (.t 35)])⟩,
    ⟨(some 37), none, (.op (.un .not (.t 36)))⟩,
    ⟨(some 4), none, (.op (.mv (.t 37)))⟩])
   (.ret))))))),
  []⟩


/- floodgate/event.Same -/

def c50 : IFunc := ⟨2, [.tmp 4],
  .seq (.region [⟨(some 2), none, (.op (.box (.t 0)))⟩,
    ⟨(some 3), none, (.op (.box (.t 1)))⟩,
    ⟨(some 4), none, (.op (.mv (.c (.b false))))⟩])
   (.live [3, 2] (.seq (.region [⟨(some 5), none, (.op (.faddr 0 (.t 2)))⟩,
    ⟨(some 6), none, (.op (.load none (.t 5)))⟩,
    ⟨(some 7), none, (.op (.faddr 0 (.t 3)))⟩,
    ⟨(some 8), none, (.op (.load none (.t 7)))⟩,
    ⟨(some 9), none, (.op (.bin .int false .eql (.t 6) (.t 8)))⟩,
    ⟨(some 10), none, (.op (.mv (.t 9)))⟩,
    ⟨(some 11), some (10, true), (.op (.faddr 1 (.t 2)))⟩,
    ⟨(some 12), some (10, true), (.op (.load none (.t 11)))⟩,
    ⟨(some 13), some (10, true), (.op (.faddr 1 (.t 3)))⟩,
    ⟨(some 14), some (10, true), (.op (.load none (.t 13)))⟩,
    ⟨(some 15), some (10, true), (.op (.bin .int false .eql (.t 12) (.t 14)))⟩,
    ⟨(some 16), none, (.op (.pick (.t 10) (.t 15) (.c (.b false))))⟩,
    ⟨(some 17), none, (.op (.mv (.t 16)))⟩,
    ⟨(some 18), some (17, true), (.op (.faddr 4 (.t 2)))⟩,
    ⟨(some 19), some (17, true), (.op (.load none (.t 18)))⟩,
    ⟨(some 20), some (17, true), (.op (.faddr 4 (.t 3)))⟩,
    ⟨(some 21), some (17, true), (.op (.load none (.t 20)))⟩,
    ⟨(some 22), some (17, true), (.op (.bin .int false .eql (.t 19) (.t 21)))⟩,
    ⟨(some 23), none, (.op (.pick (.t 17) (.t 22) (.c (.b false))))⟩,
    ⟨(some 24), none, (.op (.mv (.t 23)))⟩,
    ⟨(some 25), some (24, true), (.op (.faddr 5 (.t 2)))⟩,
    ⟨(some 26), some (24, true), (.op (.load none (.t 25)))⟩,
    ⟨(some 27), some (24, true), (.op (.faddr 5 (.t 3)))⟩,
    ⟨(some 28), some (24, true), (.op (.load none (.t 27)))⟩,
    ⟨(some 29), some (24, true), (.op (.bin .int false .eql (.t 26) (.t 28)))⟩,
    ⟨(some 30), none, (.op (.pick (.t 24) (.t 29) (.c (.b false))))⟩,
    ⟨(some 31), none, (.op (.mv (.t 30)))⟩,
    ⟨(some 32), some (31, true), (.op (.faddr 2 (.t 2)))⟩,
    ⟨(some 33), some (31, true), (.op (.load none (.t 32)))⟩,
    ⟨(some 34), some (31, true), (.op (.faddr 2 (.t 3)))⟩,
    ⟨(some 35), some (31, true), (.op (.load none (.t 34)))⟩,
    ⟨(some 36), some (31, true), (.call 76 [(.t 33), (.t 35)])⟩,
    ⟨(some 37), none, (.op (.pick (.t 31) (.t 36) (.c (.b false))))⟩,
    ⟨(some 38), none, (.op (.mv (.t 37)))⟩,
    ⟨(some 39), some (38, true), (.op (.faddr 3 (.t 2)))⟩,
    ⟨(some 40), some (38, true), (.op (.load none (.t 39)))⟩,
    ⟨(some 41), some (38, true), (.op (.faddr 3 (.t 3)))⟩,
    ⟨(some 42), some (38, true), (.op (.load none (.t 41)))⟩,
    ⟨(some 43), some (38, true), (.call 77 [(.t 40), (.t 42)])⟩,
    ⟨(some 44), none, (.op (.pick (.t 38) (.t 43) (.c (.b false))))⟩,
    ⟨(some 4), none, (.op (.mv (.t 44)))⟩])
   (.ret))),
  []⟩


/- floodgate/event.sub -/

def c51 : IFunc := ⟨1, [.tmp 2],
  .seq (.region [⟨(some 2), none, (.op (.mv (.c (.b false))))⟩])
   (.live [0] (.seq (.region [⟨(some 3), none, (.op (.mv (.t 0)))⟩,
    ⟨(some 4), none, (.op (.bin .int true .geq (.t 3) (.c (.i .i64 1))))⟩,
    ⟨(some 5), none, (.op (.mv (.t 4)))⟩,
    ⟨(some 6), some (5, true), (.op (.mv (.t 0)))⟩,
    ⟨(some 7), some (5, true), (.op (.bin .int true .leq (.t 6) (.c (.i .i64 255))))⟩,
    ⟨(some 8), none, (.op (.pick (.t 5) (.t 7) (.c (.b false))))⟩,
    ⟨(some 2), none, (.op (.mv (.t 8)))⟩])
   (.ret))),
  []⟩


/- floodgate/event.value -/

def c52 : IFunc := ⟨1, [.tmp 2],
  .seq (.region [⟨(some 2), none, (.op (.mv (.c (.b false))))⟩])
   (.live [0] (.seq (.region [⟨(some 3), none, (.op (.mv (.t 0)))⟩,
    ⟨(some 4), none, (.op (.bin .int true .geq (.t 3) (.c (.i .u64 1))))⟩,
    ⟨(some 5), none, (.op (.mv (.t 4)))⟩,
    ⟨(some 6), some (5, true), (.op (.mv (.t 0)))⟩,
    ⟨(some 7), some (5, true), (.op (.bin .int true .leq (.t 6) (.c (.i .u64 281474976710656))))⟩,
    ⟨(some 8), none, (.op (.pick (.t 5) (.t 7) (.c (.b false))))⟩,
    ⟨(some 2), none, (.op (.mv (.t 8)))⟩])
   (.ret))),
  []⟩


/- slices.Delete[[]floodgate/api.Entry,floodgate/api.Entry] -/
def c53d0 : List Stage :=
  [⟨[(⟨(some 20), none, (.op (.mv (.t 0)))⟩, 0), (⟨(some 21), none, (.op (.mv (.t 1)))⟩, 0), (⟨(some 22), none, (.op (.slice 14 (.t 20) none (some (.t 21)) none))⟩, 0), (⟨(some 23), none, (.op (.mv (.t 0)))⟩, 0), (⟨(some 24), none, (.op (.mv (.t 2)))⟩, 0), (⟨(some 25), none, (.op (.slice 14 (.t 23) (some (.t 24)) none none))⟩, 0)], none, some ⟨(some 26), none, (.op (.app 14 88 (.t 22) (.t 25)))⟩⟩,
    ⟨[(⟨(some 0), none, (.op (.mv (.t 26)))⟩, 1)], none, none⟩]
def c53d0w : List (ROp × Bool) :=
  [(⟨(some 20), none, (.op (.mv (.t 0)))⟩, false), (⟨(some 21), none, (.op (.mv (.t 1)))⟩, false), (⟨(some 22), none, (.op (.slice 14 (.t 20) none (some (.t 21)) none))⟩, false), (⟨(some 23), none, (.op (.mv (.t 0)))⟩, false), (⟨(some 24), none, (.op (.mv (.t 2)))⟩, false), (⟨(some 25), none, (.op (.slice 14 (.t 23) (some (.t 24)) none none))⟩, false), (⟨(some 26), none, (.op (.app 14 88 (.t 22) (.t 25)))⟩, false), (⟨(some 0), none, (.op (.mv (.t 26)))⟩, false)]
theorem c53d0_w {P : Program} {O : Orc} {S0 : Mem} {rd : Bool} {e : Env} {S : Mem} {d : List Nat} {Q : Kont} : W P O S0 rd (.draw c53d0 [0]) e S d Q = wFl O c53d0w e S (normK Q d) := W_draw' (by kernel_rfl) (by kernel_rfl)
attribute [go_sem] c53d0_w c53d0w
def c53 : IFunc := ⟨3, [.tmp 6],
  .seq (.region [⟨(some 6), none, (.op (.mv (.c .sn)))⟩])
   (.live [0, 1, 2] (.seq (.region [⟨(some 8), none, (.op (.mv (.t 0)))⟩,
    ⟨(some 9), none, (.op (.mv (.t 1)))⟩,
    ⟨(some 10), none, (.op (.mv (.t 2)))⟩,
    ⟨(some 11), none, (.op (.mv (.t 0)))⟩,
    ⟨(some 12), none, (.op (.len .slice (.t 11)))⟩,
    ⟨(some 13), none, (.op (.slice 14 (.t 8) (some (.t 9)) (some (.t 10)) (some (.t 12))))⟩])
   (.live [0, 1, 2] (.seq (.seq (.region [⟨(some 14), none, (.op (.mv (.t 1)))⟩,
    ⟨(some 15), none, (.op (.mv (.t 2)))⟩,
    ⟨(some 16), none, (.op (.bin .int false .eql (.t 14) (.t 15)))⟩])
   (.live [0, 1, 2, 16] (.cond (.t 16) (.seq (.region [⟨(some 17), none, (.op (.mv (.t 0)))⟩,
    ⟨(some 6), none, (.op (.mv (.t 17)))⟩])
   (.ret))
   (.skip))))
   (.live [1, 2, 0] (.seq (.region [⟨(some 18), none, (.op (.mv (.t 0)))⟩,
    ⟨(some 19), none, (.op (.len .slice (.t 18)))⟩,
    ⟨(some 7), none, (.op (.mv (.t 19)))⟩])
   (.live [7, 1, 2, 0] (.seq (.draw c53d0 [0])
   (.live [0, 7] (.seq (.region [⟨(some 27), none, (.op (.mv (.t 0)))⟩,
    ⟨(some 28), none, (.op (.mv (.t 0)))⟩,
    ⟨(some 29), none, (.op (.len .slice (.t 28)))⟩,
    ⟨(some 30), none, (.op (.mv (.t 7)))⟩,
    ⟨(some 31), none, (.op (.slice 14 (.t 27) (some (.t 29)) (some (.t 30)) none))⟩,
    ⟨none, none, (.op (.clear [(.i .i64 0), (.i .u8 0), (.i .u8 0), (.i .u8 0), (.i .u8 0), (.i .i64 0), (.i .u64 0), (.i .u64 0), (.i .u64 0), (.i .u64 0), (.i .u64 0), (.i .u64 0), (.i .u64 0), (.i .u64 0)] (.t 31)))⟩])
   (.live [0] (.seq (.region [⟨(some 32), none, (.op (.mv (.t 0)))⟩,
    ⟨(some 6), none, (.op (.mv (.t 32)))⟩])
   (.ret))))))))))))),
  []⟩


/- slices.SortFunc[[]floodgate/api.Entry,floodgate/api.Entry] -/

def c54 : IFunc := ⟨2, [],
  .seq (.region [⟨(some 5), none, (.op (.mv (.t 0)))⟩,
    ⟨(some 6), none, (.op (.len .slice (.t 5)))⟩,
    ⟨(some 4), none, (.op (.mv (.t 6)))⟩])
   (.live [1, 4, 0] (.region [⟨(some 7), none, (.op (.mv (.t 0)))⟩,
    ⟨(some 8), none, (.op (.mv (.t 4)))⟩,
    ⟨(some 9), none, (.op (.mv (.t 4)))⟩,
    ⟨(some 10), none, (.op (.toInt .u64 (.t 9)))⟩,
    ⟨(some 11), none, (.call 79 [(.t 10)])⟩,
    ⟨(some 12), none, (.op (.mv (.t 1)))⟩,
    ⟨(some 13), none, (.call 78 [(.t 7), (.c (.i .i64 0)), (.t 8), (.t 11), (.t 12)])⟩])),
  []⟩


/- floodgate/book.commit$1 -/

def c55 : IFunc := ⟨2, [.tmp 4],
  .seq (.region [⟨(some 2), none, (.op (.box (.t 0)))⟩,
    ⟨(some 3), none, (.op (.box (.t 1)))⟩,
    ⟨(some 4), none, (.op (.mv (.c (.i .i64 0))))⟩])
   (.live [3, 2] (.seq (.region [⟨(some 5), none, (.op (.faddr 0 (.t 2)))⟩,
    ⟨(some 6), none, (.op (.faddr 0 (.t 5)))⟩,
    ⟨(some 7), none, (.op (.load none (.t 6)))⟩,
    ⟨(some 8), none, (.op (.faddr 0 (.t 3)))⟩,
    ⟨(some 9), none, (.op (.faddr 0 (.t 8)))⟩,
    ⟨(some 10), none, (.op (.load none (.t 9)))⟩,
    ⟨(some 11), none, (.call 56 [(.t 7), (.t 10)])⟩,
    ⟨(some 4), none, (.op (.mv (.t 11)))⟩])
   (.ret))),
  []⟩


/- cmp.Compare[int] -/

def c56 : IFunc := ⟨2, [.tmp 4],
  .seq (.region [⟨(some 4), none, (.op (.mv (.c (.i .i64 0))))⟩])
   (.live [1, 0] (.seq (.region [⟨(some 7), none, (.op (.mv (.t 0)))⟩,
    ⟨(some 8), none, (.call 80 [(.t 7)])⟩,
    ⟨(some 5), none, (.op (.mv (.t 8)))⟩])
   (.live [1, 0, 5] (.seq (.region [⟨(some 9), none, (.op (.mv (.t 1)))⟩,
    ⟨(some 10), none, (.call 80 [(.t 9)])⟩,
    ⟨(some 6), none, (.op (.mv (.t 10)))⟩])
   (.live [6, 1, 0, 5] (.seq (.seq (.region [⟨(some 11), none, (.op (.mv (.t 5)))⟩])
   (.live [6, 1, 0, 11] (.cond (.t 11) (.seq (.seq (.region [⟨(some 12), none, (.op (.mv (.t 6)))⟩])
   (.live [12] (.cond (.t 12) (.seq (.region [⟨(some 4), none, (.op (.mv (.c (.i .i64 0))))⟩])
   (.ret))
   (.skip))))
   (.live [] (.seq (.region [⟨(some 4), none, (.op (.mv (.c (.i .i64 (-1)))))⟩])
   (.ret))))
   (.skip))))
   (.live [1, 0, 6] (.seq (.seq (.region [⟨(some 13), none, (.op (.mv (.t 6)))⟩])
   (.live [1, 0, 13] (.cond (.t 13) (.seq (.region [⟨(some 4), none, (.op (.mv (.c (.i .i64 1))))⟩])
   (.ret))
   (.skip))))
   (.live [1, 0] (.seq (.seq (.region [⟨(some 14), none, (.op (.mv (.t 0)))⟩,
    ⟨(some 15), none, (.op (.mv (.t 1)))⟩,
    ⟨(some 16), none, (.op (.bin .int false .lss (.t 14) (.t 15)))⟩])
   (.live [1, 0, 16] (.cond (.t 16) (.seq (.region [⟨(some 4), none, (.op (.mv (.c (.i .i64 (-1)))))⟩])
   (.ret))
   (.skip))))
   (.live [1, 0] (.seq (.seq (.region [⟨(some 17), none, (.op (.mv (.t 0)))⟩,
    ⟨(some 18), none, (.op (.mv (.t 1)))⟩,
    ⟨(some 19), none, (.op (.bin .int false .gtr (.t 17) (.t 18)))⟩])
   (.live [19] (.cond (.t 19) (.seq (.region [⟨(some 4), none, (.op (.mv (.c (.i .i64 1))))⟩])
   (.ret))
   (.skip))))
   (.live [] (.seq (.region [⟨(some 4), none, (.op (.mv (.c (.i .i64 0))))⟩])
   (.ret))))))))))))))),
  []⟩


/- floodgate/policy.Right -/

def c59 : IFunc := ⟨1, [.tmp 2],
  .seq (.region [⟨(some 1), none, (.op (.box (.t 0)))⟩,
    ⟨(some 2), none, (.op (.mv (.c (.b false))))⟩])
   (.live [1] (.seq (.region [⟨(some 3), none, (.op (.mv (.c (.f (.func 81) [] []))))⟩])
   (.live [3, 1] (.seq (.region [⟨(some 4), none, (.op (.mv (.c (.f (.func 82) [] []))))⟩])
   (.live [4, 3, 1] (.seq (.region [⟨(some 6), none, (.op (.faddr 11 (.t 1)))⟩,
    ⟨(some 7), none, (.op (.load none (.t 6)))⟩,
    ⟨(some 8), none, (.op (.faddr 12 (.t 1)))⟩,
    ⟨(some 9), none, (.op (.load none (.t 8)))⟩,
    ⟨(some 10), none, (.op (.bslice [(.i .u64 0)] 2 [(0, 1, (.t 7)), (1, 1, (.t 9))]))⟩,
    ⟨(some 5), none, (.op (.mv (.t 10)))⟩])
   (.live [4, 5, 3, 1] (.seq (.block 0 (.seq (.region [⟨(some 12), none, (.op (.faddr 0 (.t 1)))⟩,
    ⟨(some 13), none, (.op (.load none (.t 12)))⟩,
    ⟨(some 14), none, (.op (.bin .int true .lss (.t 13) (.c (.i .i64 1))))⟩,
    ⟨(some 15), none, (.op (.mv (.t 14)))⟩,
    ⟨(some 16), some (15, false), (.op (.faddr 0 (.t 1)))⟩,
    ⟨(some 17), some (15, false), (.op (.load none (.t 16)))⟩,
    ⟨(some 18), some (15, false), (.op (.bin .int true .gtr (.t 17) (.c (.i .i64 255))))⟩,
    ⟨(some 19), none, (.op (.pick (.t 15) (.c (.b true)) (.t 18)))⟩,
    ⟨(some 20), none, (.op (.mv (.t 19)))⟩,
    ⟨(some 21), some (20, false), (.op (.faddr 1 (.t 1)))⟩,
    ⟨(some 22), some (20, false), (.op (.load (some 5) (.t 21)))⟩,
    ⟨(some 23), some (20, false), (.call 83 [(.t 22)])⟩,
    ⟨(some 24), some (20, false), (.op (.un .not (.t 23)))⟩,
    ⟨(some 25), none, (.op (.pick (.t 20) (.c (.b true)) (.t 24)))⟩,
    ⟨(some 11), none, (.op (.mv (.t 25)))⟩])
   (.live [4, 5, 3, 1, 11] (.cond (.t 11) (.seq (.region [⟨(some 2), none, (.op (.mv (.c (.b false))))⟩])
   (.ret))
   (.seq (.region [⟨(some 27), none, (.op (.mv (.t 5)))⟩,
    ⟨(some 28), none, (.op (.faddr 6 (.t 1)))⟩,
    ⟨(some 29), none, (.op (.load none (.t 28)))⟩,
    ⟨(some 30), none, (.op (.faddr 7 (.t 1)))⟩,
    ⟨(some 31), none, (.op (.load none (.t 30)))⟩,
    ⟨(some 32), none, (.op (.faddr 8 (.t 1)))⟩,
    ⟨(some 33), none, (.op (.load none (.t 32)))⟩,
    ⟨(some 34), none, (.op (.faddr 9 (.t 1)))⟩,
    ⟨(some 35), none, (.op (.load none (.t 34)))⟩,
    ⟨(some 36), none, (.op (.faddr 10 (.t 1)))⟩,
    ⟨(some 37), none, (.op (.load none (.t 36)))⟩,
    ⟨(some 38), none, (.op (.bslice [(.i .u64 0)] 5 [(0, 1, (.t 29)), (1, 1, (.t 31)), (2, 1, (.t 33)), (3, 1, (.t 35)), (4, 1, (.t 37))]))⟩,
    ⟨(some 39), none, (.op (.app 1 8 (.t 27) (.t 38)))⟩,
    ⟨(some 40), none, (.op (.mv (.t 3)))⟩,
    ⟨(some 41), none, (.call 84 [(.t 39), (.t 40)])⟩,
    ⟨(some 26), none, (.op (.mv (.t 41)))⟩])
   (.live [4, 5, 26] (.cond (.t 26) (.seq (.region [⟨(some 2), none, (.op (.mv (.c (.b false))))⟩])
   (.ret))
   (.skip))))))))
   (.live [4, 5] (.seq (.region [⟨(some 42), none, (.op (.mv (.t 5)))⟩,
    ⟨(some 43), none, (.op (.mv (.t 4)))⟩,
    ⟨(some 44), none, (.call 84 [(.t 42), (.t 43)])⟩,
    ⟨(some 45), none, (.op (.un .not (.t 44)))⟩,
    ⟨(some 2), none, (.op (.mv (.t 45)))⟩])
   (.ret))))))))))),
  []⟩


/- slices.IndexFunc[[]floodgate/api.Entry,floodgate/api.Entry] -/
def c60l0 : ICode :=
  .seq (.region [⟨(some 9), none, (.op (.bin .int false .lss (.t 8) (.t 7)))⟩])
   (.live [0, 1, 7, 8, 9] (.seq (.cond (.t 9) (.skip)
   (.exit 0))
   (.live [0, 1, 7, 8] (.seq (.block 1 (.seq (.region [⟨(some 10), none, (.op (.mv (.t 8)))⟩,
    ⟨(some 5), none, (.op (.mv (.t 10)))⟩])
   (.live [5, 0, 1, 7, 8] (.seq (.region [⟨(some 11), none, (.op (.mv (.t 1)))⟩,
    ⟨(some 12), none, (.op (.mv (.t 0)))⟩,
    ⟨(some 13), none, (.op (.mv (.t 5)))⟩,
    ⟨(some 14), none, (.op (.iaddr none 14 (.t 12) (.t 13)))⟩,
    ⟨(some 15), none, (.op (.load (some 14) (.t 14)))⟩,
    ⟨(some 16), none, (.callv (.t 11) [(.t 15)])⟩])
   (.live [5, 0, 1, 7, 8, 16] (.cond (.t 16) (.seq (.region [⟨(some 17), none, (.op (.mv (.t 5)))⟩,
    ⟨(some 4), none, (.op (.mv (.t 17)))⟩])
   (.ret))
   (.skip)))))))
   (.live [0, 1, 7, 8] (.region [⟨(some 18), none, (.op (.bin .int true .add (.t 8) (.c (.i .i64 1))))⟩,
    ⟨(some 8), none, (.op (.mv (.t 18)))⟩]))))))
def c60 : IFunc := ⟨2, [.tmp 4],
  .seq (.region [⟨(some 4), none, (.op (.mv (.c (.i .i64 0))))⟩])
   (.live [0, 1] (.seq (.seq (.region [⟨(some 6), none, (.op (.mv (.t 0)))⟩,
    ⟨(some 7), none, (.op (.len .slice (.t 6)))⟩,
    ⟨(some 8), none, (.op (.mv (.c (.i .i64 0))))⟩])
   (.live [0, 1, 7, 8] (.block 0 (.loop [0, 1, 7, 8] c60l0))))
   (.live [] (.seq (.region [⟨(some 4), none, (.op (.mv (.c (.i .i64 (-1)))))⟩])
   (.ret))))),
  []⟩


/- floodgate/addr.Num -/
def c61l0 : ICode :=
  .seq (.region [⟨(some 8), none, (.op (.bin .int true .lss (.t 7) (.c (.i .i64 4))))⟩])
   (.live [6, 7, 3, 8] (.seq (.cond (.t 8) (.skip)
   (.exit 0))
   (.live [6, 7, 3] (.seq (.block 1 (.seq (.region [⟨(some 9), none, (.op (.ixa 4 1 none (.t 6) (.t 7)))⟩,
    ⟨(some 5), none, (.op (.mv (.t 9)))⟩])
   (.live [6, 7, 5, 3] (.region [⟨(some 10), none, (.op (.mv (.t 3)))⟩,
    ⟨(some 11), none, (.op (.bin .int true .shl (.t 10) (.c (.i .u64 8))))⟩,
    ⟨(some 12), none, (.op (.mv (.t 5)))⟩,
    ⟨(some 13), none, (.op (.toInt .u32 (.t 12)))⟩,
    ⟨(some 14), none, (.op (.bin .int false .or (.t 11) (.t 13)))⟩,
    ⟨(some 3), none, (.op (.mv (.t 14)))⟩]))))
   (.live [6, 3, 7] (.region [⟨(some 15), none, (.op (.bin .int true .add (.t 7) (.c (.i .i64 1))))⟩,
    ⟨(some 7), none, (.op (.mv (.t 15)))⟩]))))))
def c61 : IFunc := ⟨1, [.tmp 2],
  .seq (.region [⟨(some 1), none, (.op (.box (.t 0)))⟩,
    ⟨(some 2), none, (.op (.mv (.c (.i .u32 0))))⟩])
   (.live [1] (.seq (.region [⟨(some 3), none, (.op (.mv (.c (.i .u32 0))))⟩])
   (.live [3, 1] (.seq (.seq (.region [⟨(some 6), none, (.op (.load (some 4) (.t 1)))⟩,
    ⟨(some 7), none, (.op (.mv (.c (.i .i64 0))))⟩])
   (.live [6, 7, 3] (.block 0 (.loop [6, 7, 3] c61l0))))
   (.live [3] (.seq (.region [⟨(some 16), none, (.op (.mv (.t 3)))⟩,
    ⟨(some 2), none, (.op (.mv (.t 16)))⟩])
   (.ret))))))),
  []⟩


/- floodgate/leb.Put -/
def c62l0 : ICode :=
  .seq (.seq (.region [⟨(some 5), none, (.op (.mv (.t 0)))⟩,
    ⟨(some 6), none, (.op (.bin .int true .geq (.t 5) (.c (.i .u64 128))))⟩])
   (.live [0, 3, 6] (.cond (.t 6) (.skip)
   (.exit 0))))
   (.live [0, 3] (.block 1 (.seq (.region [⟨(some 7), none, (.op (.mv (.t 3)))⟩,
    ⟨(some 8), none, (.op (.mv (.t 0)))⟩,
    ⟨(some 9), none, (.op (.toInt .u8 (.t 8)))⟩,
    ⟨(some 10), none, (.op (.bin .int true .or (.t 9) (.c (.i .u8 128))))⟩,
    ⟨(some 11), none, (.op (.bslice [(.i .u8 0)] 1 [(0, 1, (.t 10))]))⟩,
    ⟨(some 12), none, (.op (.app 1 1 (.t 7) (.t 11)))⟩,
    ⟨(some 3), none, (.op (.mv (.t 12)))⟩])
   (.live [3, 0] (.region [⟨(some 13), none, (.op (.mv (.t 0)))⟩,
    ⟨(some 14), none, (.op (.bin .int true .shr (.t 13) (.c (.i .u64 7))))⟩,
    ⟨(some 0), none, (.op (.mv (.t 14)))⟩])))))
def c62 : IFunc := ⟨1, [.tmp 2],
  .seq (.region [⟨(some 2), none, (.op (.mv (.c .sn)))⟩])
   (.live [0] (.seq (.region [⟨(some 4), none, (.op (.mks [(.i .u8 0)] 1 (.c (.i .i64 0)) (.c (.i .i64 10))))⟩,
    ⟨(some 3), none, (.op (.mv (.t 4)))⟩])
   (.live [0, 3] (.seq (.block 0 (.loop [0, 3] c62l0))
   (.live [0, 3] (.seq (.region [⟨(some 15), none, (.op (.mv (.t 3)))⟩,
    ⟨(some 16), none, (.op (.mv (.t 0)))⟩,
    ⟨(some 17), none, (.op (.toInt .u8 (.t 16)))⟩,
    ⟨(some 18), none, (.op (.bslice [(.i .u8 0)] 1 [(0, 1, (.t 17))]))⟩,
    ⟨(some 19), none, (.op (.app 1 1 (.t 15) (.t 18)))⟩,
    ⟨(some 2), none, (.op (.mv (.t 19)))⟩])
   (.ret))))))),
  []⟩


/- floodgate/book.place$1 -/

def c66 : IFunc := ⟨2, [.tmp 3],
  .seq (.region [⟨(some 2), none, (.op (.box (.t 0)))⟩,
    ⟨(some 3), none, (.op (.mv (.c (.b false))))⟩])
   (.live [1, 2] (.seq (.region [⟨(some 4), none, (.op (.faddr 0 (.t 2)))⟩,
    ⟨(some 5), none, (.op (.faddr 0 (.t 4)))⟩,
    ⟨(some 6), none, (.op (.load none (.t 5)))⟩,
    ⟨(some 7), none, (.op (.load none (.t 1)))⟩,
    ⟨(some 8), none, (.op (.bin .int false .eql (.t 6) (.t 7)))⟩,
    ⟨(some 3), none, (.op (.mv (.t 8)))⟩])
   (.ret))),
  []⟩


/- floodgate/addr.Of -/

def c70 : IFunc := ⟨1, [.cell 2 (some 4)],
  .seq (.region [⟨(some 2), none, (.op (.fresh [(.i .u8 0), (.i .u8 0), (.i .u8 0), (.i .u8 0)]))⟩])
   (.live [2, 0] (.seq (.region [⟨(some 3), none, (.op (.mv (.t 0)))⟩,
    ⟨(some 4), none, (.op (.bin .int true .shr (.t 3) (.c (.i .u64 24))))⟩,
    ⟨(some 5), none, (.op (.toInt .u8 (.t 4)))⟩,
    ⟨(some 6), none, (.op (.mv (.t 0)))⟩,
    ⟨(some 7), none, (.op (.bin .int true .shr (.t 6) (.c (.i .u64 16))))⟩,
    ⟨(some 8), none, (.op (.toInt .u8 (.t 7)))⟩,
    ⟨(some 9), none, (.op (.mv (.t 0)))⟩,
    ⟨(some 10), none, (.op (.bin .int true .shr (.t 9) (.c (.i .u64 8))))⟩,
    ⟨(some 11), none, (.op (.toInt .u8 (.t 10)))⟩,
    ⟨(some 12), none, (.op (.mv (.t 0)))⟩,
    ⟨(some 13), none, (.op (.toInt .u8 (.t 12)))⟩,
    ⟨(some 14), none, (.op (.build [(.i .u8 0), (.i .u8 0), (.i .u8 0), (.i .u8 0)] [(0, 1, (.t 5)), (1, 1, (.t 8)), (2, 1, (.t 11)), (3, 1, (.t 13))]))⟩,
    ⟨none, none, (.op (.store 4 (.t 2) (.t 14)))⟩])
   (.ret))),
  []⟩


/- slices.ContainsFunc[[]floodgate/api.Policy,floodgate/api.Policy] -/

def c73 : IFunc := ⟨2, [.tmp 4],
  .seq (.region [⟨(some 4), none, (.op (.mv (.c (.b false))))⟩])
   (.live [1, 0] (.seq (.region [⟨(some 5), none, (.op (.mv (.t 0)))⟩,
    ⟨(some 6), none, (.op (.mv (.t 1)))⟩,
    ⟨(some 7), none, (.call 87 [(.t 5), (.t 6)])⟩,
    ⟨(some 8), none, (.op (.bin .int true .geq (.t 7) (.c (.i .i64 0))))⟩,
    ⟨(some 4), none, (.op (.mv (.t 8)))⟩])
   (.ret))),
  []⟩


/- floodgate/event.drops$1 -/

def c74 : IFunc := ⟨2, [.tmp 3],
  .seq (.region [⟨(some 2), none, (.op (.box (.t 0)))⟩,
    ⟨(some 3), none, (.op (.mv (.c (.b false))))⟩])
   (.live [2, 1] (.seq (.region [⟨(some 4), none, (.op (.load none (.t 1)))⟩,
    ⟨(some 5), none, (.op (.faddr 0 (.t 2)))⟩,
    ⟨(some 6), none, (.op (.load none (.t 5)))⟩,
    ⟨(some 7), none, (.call 75 [(.t 4), (.t 6)])⟩,
    ⟨(some 3), none, (.op (.mv (.t 7)))⟩])
   (.ret))),
  []⟩


/- slices.Contains[[]int,int] -/

def c75 : IFunc := ⟨2, [.tmp 4],
  .seq (.region [⟨(some 4), none, (.op (.mv (.c (.b false))))⟩])
   (.live [1, 0] (.seq (.region [⟨(some 5), none, (.op (.mv (.t 0)))⟩,
    ⟨(some 6), none, (.op (.mv (.t 1)))⟩,
    ⟨(some 7), none, (.call 88 [(.t 5), (.t 6)])⟩,
    ⟨(some 8), none, (.op (.bin .int true .geq (.t 7) (.c (.i .i64 0))))⟩,
    ⟨(some 4), none, (.op (.mv (.t 8)))⟩])
   (.ret))),
  []⟩


/- slices.Equal[[]floodgate/api.Policy,floodgate/api.Policy] -/
def c76d0 : List Stage :=
  [⟨[(⟨(some 16), none, (.op (.mv (.t 0)))⟩, 0), (⟨(some 17), none, (.op (.mv (.t 5)))⟩, 0), (⟨(some 18), none, (.op (.iaddr none 13 (.t 16) (.t 17)))⟩, 0), (⟨(some 19), none, (.op (.load (some 13) (.t 18)))⟩, 0), (⟨(some 20), none, (.op (.mv (.t 1)))⟩, 0), (⟨(some 21), none, (.op (.mv (.t 5)))⟩, 0), (⟨(some 22), none, (.op (.iaddr none 13 (.t 20) (.t 21)))⟩, 0), (⟨(some 23), none, (.op (.load (some 13) (.t 22)))⟩, 0), (⟨(some 24), none, (.op (.eqag true [.int, .int, .int, .int, .int, .int, .int, .int, .int, .int, .int, .int, .int] (.t 19) (.t 23)))⟩, 0)], none, none⟩]
def c76d0w : List (ROp × Bool) :=
  [(⟨(some 16), none, (.op (.mv (.t 0)))⟩, false), (⟨(some 17), none, (.op (.mv (.t 5)))⟩, false), (⟨(some 18), none, (.op (.iaddr none 13 (.t 16) (.t 17)))⟩, false), (⟨(some 19), none, (.op (.load (some 13) (.t 18)))⟩, false), (⟨(some 20), none, (.op (.mv (.t 1)))⟩, false), (⟨(some 21), none, (.op (.mv (.t 5)))⟩, false), (⟨(some 22), none, (.op (.iaddr none 13 (.t 20) (.t 21)))⟩, false), (⟨(some 23), none, (.op (.load (some 13) (.t 22)))⟩, false), (⟨(some 24), none, (.op (.eqag true [.int, .int, .int, .int, .int, .int, .int, .int, .int, .int, .int, .int, .int] (.t 19) (.t 23)))⟩, false)]
theorem c76d0_w {P : Program} {O : Orc} {S0 : Mem} {rd : Bool} {e : Env} {S : Mem} {d : List Nat} {Q : Kont} : W P O S0 rd (.draw c76d0 []) e S d Q = wFl O c76d0w e S (normK Q d) := W_draw' (by kernel_rfl) (by kernel_rfl)
attribute [go_sem] c76d0_w c76d0w
def c76l1 : ICode :=
  .seq (.region [⟨(some 14), none, (.op (.bin .int false .lss (.t 13) (.t 12)))⟩])
   (.live [0, 1, 12, 13, 14] (.seq (.cond (.t 14) (.skip)
   (.exit 0))
   (.live [0, 1, 12, 13] (.seq (.block 1 (.seq (.region [⟨(some 15), none, (.op (.mv (.t 13)))⟩,
    ⟨(some 5), none, (.op (.mv (.t 15)))⟩])
   (.live [0, 1, 12, 13, 5] (.seq (.draw c76d0 [])
   (.live [0, 1, 12, 13, 24] (.cond (.t 24) (.seq (.region [⟨(some 4), none, (.op (.mv (.c (.b false))))⟩])
   (.ret))
   (.skip)))))))
   (.live [0, 1, 12, 13] (.region [⟨(some 25), none, (.op (.bin .int true .add (.t 13) (.c (.i .i64 1))))⟩,
    ⟨(some 13), none, (.op (.mv (.t 25)))⟩]))))))
def c76 : IFunc := ⟨2, [.tmp 4],
  .seq (.region [⟨(some 4), none, (.op (.mv (.c (.b false))))⟩])
   (.live [0, 1] (.seq (.seq (.region [⟨(some 6), none, (.op (.mv (.t 0)))⟩,
    ⟨(some 7), none, (.op (.len .slice (.t 6)))⟩,
    ⟨(some 8), none, (.op (.mv (.t 1)))⟩,
    ⟨(some 9), none, (.op (.len .slice (.t 8)))⟩,
    ⟨(some 10), none, (.op (.bin .int false .neq (.t 7) (.t 9)))⟩])
   (.live [0, 1, 10] (.cond (.t 10) (.seq (.region [⟨(some 4), none, (.op (.mv (.c (.b false))))⟩])
   (.ret))
   (.skip))))
   (.live [0, 1] (.seq (.seq (.region [⟨(some 11), none, (.op (.mv (.t 0)))⟩,
    ⟨(some 12), none, (.op (.len .slice (.t 11)))⟩,
    ⟨(some 13), none, (.op (.mv (.c (.i .i64 0))))⟩])
   (.live [0, 1, 12, 13] (.block 0 (.loop [0, 1, 12, 13] c76l1))))
   (.live [] (.seq (.region [⟨(some 4), none, (.op (.mv (.c (.b true))))⟩])
   (.ret))))))),
  []⟩


/- slices.Equal[[]int,int] -/
def c77d0 : List Stage :=
  [⟨[(⟨(some 16), none, (.op (.mv (.t 0)))⟩, 0), (⟨(some 17), none, (.op (.mv (.t 5)))⟩, 0), (⟨(some 18), none, (.op (.iaddr none 1 (.t 16) (.t 17)))⟩, 0), (⟨(some 19), none, (.op (.load none (.t 18)))⟩, 0), (⟨(some 20), none, (.op (.mv (.t 1)))⟩, 0), (⟨(some 21), none, (.op (.mv (.t 5)))⟩, 0), (⟨(some 22), none, (.op (.iaddr none 1 (.t 20) (.t 21)))⟩, 0), (⟨(some 23), none, (.op (.load none (.t 22)))⟩, 0), (⟨(some 24), none, (.op (.bin .int false .neq (.t 19) (.t 23)))⟩, 0)], none, none⟩]
def c77d0w : List (ROp × Bool) :=
  [(⟨(some 16), none, (.op (.mv (.t 0)))⟩, false), (⟨(some 17), none, (.op (.mv (.t 5)))⟩, false), (⟨(some 18), none, (.op (.iaddr none 1 (.t 16) (.t 17)))⟩, false), (⟨(some 19), none, (.op (.load none (.t 18)))⟩, false), (⟨(some 20), none, (.op (.mv (.t 1)))⟩, false), (⟨(some 21), none, (.op (.mv (.t 5)))⟩, false), (⟨(some 22), none, (.op (.iaddr none 1 (.t 20) (.t 21)))⟩, false), (⟨(some 23), none, (.op (.load none (.t 22)))⟩, false), (⟨(some 24), none, (.op (.bin .int false .neq (.t 19) (.t 23)))⟩, false)]
theorem c77d0_w {P : Program} {O : Orc} {S0 : Mem} {rd : Bool} {e : Env} {S : Mem} {d : List Nat} {Q : Kont} : W P O S0 rd (.draw c77d0 []) e S d Q = wFl O c77d0w e S (normK Q d) := W_draw' (by kernel_rfl) (by kernel_rfl)
attribute [go_sem] c77d0_w c77d0w
def c77l1 : ICode :=
  .seq (.region [⟨(some 14), none, (.op (.bin .int false .lss (.t 13) (.t 12)))⟩])
   (.live [0, 1, 12, 13, 14] (.seq (.cond (.t 14) (.skip)
   (.exit 0))
   (.live [0, 1, 12, 13] (.seq (.block 1 (.seq (.region [⟨(some 15), none, (.op (.mv (.t 13)))⟩,
    ⟨(some 5), none, (.op (.mv (.t 15)))⟩])
   (.live [0, 1, 12, 13, 5] (.seq (.draw c77d0 [])
   (.live [0, 1, 12, 13, 24] (.cond (.t 24) (.seq (.region [⟨(some 4), none, (.op (.mv (.c (.b false))))⟩])
   (.ret))
   (.skip)))))))
   (.live [0, 1, 12, 13] (.region [⟨(some 25), none, (.op (.bin .int true .add (.t 13) (.c (.i .i64 1))))⟩,
    ⟨(some 13), none, (.op (.mv (.t 25)))⟩]))))))
def c77 : IFunc := ⟨2, [.tmp 4],
  .seq (.region [⟨(some 4), none, (.op (.mv (.c (.b false))))⟩])
   (.live [0, 1] (.seq (.seq (.region [⟨(some 6), none, (.op (.mv (.t 0)))⟩,
    ⟨(some 7), none, (.op (.len .slice (.t 6)))⟩,
    ⟨(some 8), none, (.op (.mv (.t 1)))⟩,
    ⟨(some 9), none, (.op (.len .slice (.t 8)))⟩,
    ⟨(some 10), none, (.op (.bin .int false .neq (.t 7) (.t 9)))⟩])
   (.live [0, 1, 10] (.cond (.t 10) (.seq (.region [⟨(some 4), none, (.op (.mv (.c (.b false))))⟩])
   (.ret))
   (.skip))))
   (.live [0, 1] (.seq (.seq (.region [⟨(some 11), none, (.op (.mv (.t 0)))⟩,
    ⟨(some 12), none, (.op (.len .slice (.t 11)))⟩,
    ⟨(some 13), none, (.op (.mv (.c (.i .i64 0))))⟩])
   (.live [0, 1, 12, 13] (.block 0 (.loop [0, 1, 12, 13] c77l1))))
   (.live [] (.seq (.region [⟨(some 4), none, (.op (.mv (.c (.b true))))⟩])
   (.ret))))))),
  []⟩


/- slices.pdqsortCmpFunc[floodgate/api.Entry] -/
def c78d0 : List Stage :=
  [⟨[(⟨(some 81), none, (.op (.mv (.t 1)))⟩, 0), (⟨(some 82), none, (.op (.bin .int true .gtr (.t 81) (.c (.i .i64 0))))⟩, 0), (⟨(some 83), none, (.op (.mv (.t 82)))⟩, 0), (⟨(some 84), some (83, true), (.op (.mv (.t 4)))⟩, 0), (⟨(some 85), some (83, true), (.op (.mv (.t 0)))⟩, 0), (⟨(some 86), some (83, true), (.op (.mv (.t 1)))⟩, 0), (⟨(some 87), some (83, true), (.op (.bin .int true .sub (.t 86) (.c (.i .i64 1))))⟩, 0), (⟨(some 88), some (83, true), (.op (.iaddr none 14 (.t 85) (.t 87)))⟩, 0), (⟨(some 89), some (83, true), (.op (.load (some 14) (.t 88)))⟩, 0), (⟨(some 90), some (83, true), (.op (.mv (.t 0)))⟩, 0), (⟨(some 91), some (83, true), (.op (.mv (.t 13)))⟩, 0), (⟨(some 92), some (83, true), (.op (.iaddr none 14 (.t 90) (.t 91)))⟩, 0), (⟨(some 93), some (83, true), (.op (.load (some 14) (.t 92)))⟩, 0)], none, some ⟨(some 94), some (83, true), (.callv (.t 84) [(.t 89), (.t 93)])⟩⟩,
    ⟨[(⟨(some 95), some (83, true), (.op (.bin .int true .lss (.t 94) (.c (.i .i64 0))))⟩, 1), (⟨(some 96), some (83, true), (.op (.un .not (.t 95)))⟩, 1), (⟨(some 97), none, (.op (.pick (.t 83) (.t 96) (.c (.b false))))⟩, 1)], none, none⟩]
def c78d0w : List (ROp × Bool) :=
  [(⟨(some 81), none, (.op (.mv (.t 1)))⟩, false), (⟨(some 82), none, (.op (.bin .int true .gtr (.t 81) (.c (.i .i64 0))))⟩, false), (⟨(some 83), none, (.op (.mv (.t 82)))⟩, false), (⟨(some 84), some (83, true), (.op (.mv (.t 4)))⟩, false), (⟨(some 85), some (83, true), (.op (.mv (.t 0)))⟩, false), (⟨(some 86), some (83, true), (.op (.mv (.t 1)))⟩, false), (⟨(some 87), some (83, true), (.op (.bin .int true .sub (.t 86) (.c (.i .i64 1))))⟩, false), (⟨(some 88), some (83, true), (.op (.iaddr none 14 (.t 85) (.t 87)))⟩, false), (⟨(some 89), some (83, true), (.op (.load (some 14) (.t 88)))⟩, false), (⟨(some 90), some (83, true), (.op (.mv (.t 0)))⟩, false), (⟨(some 91), some (83, true), (.op (.mv (.t 13)))⟩, false), (⟨(some 92), some (83, true), (.op (.iaddr none 14 (.t 90) (.t 91)))⟩, false), (⟨(some 93), some (83, true), (.op (.load (some 14) (.t 92)))⟩, false), (⟨(some 94), some (83, true), (.callv (.t 84) [(.t 89), (.t 93)])⟩, false), (⟨(some 95), some (83, true), (.op (.bin .int true .lss (.t 94) (.c (.i .i64 0))))⟩, false), (⟨(some 96), some (83, true), (.op (.un .not (.t 95)))⟩, false), (⟨(some 97), none, (.op (.pick (.t 83) (.t 96) (.c (.b false))))⟩, false)]
theorem c78d0_w {P : Program} {O : Orc} {S0 : Mem} {rd : Bool} {e : Env} {S : Mem} {d : List Nat} {Q : Kont} : W P O S0 rd (.draw c78d0 []) e S d Q = wFl O c78d0w e S (normK Q d) := W_draw' (by kernel_rfl) (by kernel_rfl)
attribute [go_sem] c78d0_w c78d0w
def c78l1 : ICode :=
  .block 1 (.seq (.region [⟨(some 21), none, (.op (.mv (.t 2)))⟩,
    ⟨(some 22), none, (.op (.mv (.t 1)))⟩,
    ⟨(some 23), none, (.op (.bin .int false .sub (.t 21) (.t 22)))⟩,
    ⟨(some 12), none, (.op (.mv (.t 23)))⟩])
   (.live [4, 2, 1, 0, 11, 10, 12, 3] (.seq (.seq (.region [⟨(some 24), none, (.op (.mv (.t 12)))⟩,
    ⟨(some 25), none, (.op (.bin .int true .leq (.t 24) (.c (.i .i64 12))))⟩])
   (.live [4, 2, 1, 0, 11, 10, 12, 3, 25] (.cond (.t 25) (.seq (.region [⟨(some 26), none, (.op (.mv (.t 0)))⟩,
    ⟨(some 27), none, (.op (.mv (.t 1)))⟩,
    ⟨(some 28), none, (.op (.mv (.t 2)))⟩,
    ⟨(some 29), none, (.op (.mv (.t 4)))⟩,
    ⟨(some 30), none, (.call 89 [(.t 26), (.t 27), (.t 28), (.t 29)])⟩])
   (.ret))
   (.skip))))
   (.live [4, 2, 1, 0, 11, 10, 12, 3] (.seq (.seq (.region [⟨(some 31), none, (.op (.mv (.t 3)))⟩,
    ⟨(some 32), none, (.op (.bin .int true .eql (.t 31) (.c (.i .i64 0))))⟩])
   (.live [4, 2, 1, 0, 11, 10, 12, 3, 32] (.cond (.t 32) (.seq (.region [⟨(some 33), none, (.op (.mv (.t 0)))⟩,
    ⟨(some 34), none, (.op (.mv (.t 1)))⟩,
    ⟨(some 35), none, (.op (.mv (.t 2)))⟩,
    ⟨(some 36), none, (.op (.mv (.t 4)))⟩,
    ⟨(some 37), none, (.call 90 [(.t 33), (.t 34), (.t 35), (.t 36)])⟩])
   (.ret))
   (.skip))))
   (.live [4, 2, 0, 11, 10, 1, 12, 3] (.seq (.seq (.region [⟨(some 38), none, (.op (.mv (.t 10)))⟩,
    ⟨(some 39), none, (.op (.un .not (.t 38)))⟩])
   (.live [4, 2, 0, 11, 10, 1, 12, 3, 39] (.cond (.t 39) (.seq (.region [⟨(some 40), none, (.op (.mv (.t 0)))⟩,
    ⟨(some 41), none, (.op (.mv (.t 1)))⟩,
    ⟨(some 42), none, (.op (.mv (.t 2)))⟩,
    ⟨(some 43), none, (.op (.mv (.t 4)))⟩,
    ⟨(some 44), none, (.call 91 [(.t 40), (.t 41), (.t 42), (.t 43)])⟩])
   (.live [4, 2, 0, 11, 10, 1, 12, 3] (.region [⟨(some 45), none, (.op (.mv (.t 3)))⟩,
    ⟨(some 46), none, (.op (.bin .int true .sub (.t 45) (.c (.i .i64 1))))⟩,
    ⟨(some 3), none, (.op (.mv (.t 46)))⟩])))
   (.skip))))
   (.live [4, 2, 0, 11, 10, 3, 1, 12] (.seq (.region [⟨(some 48), none, (.op (.mv (.t 0)))⟩,
    ⟨(some 49), none, (.op (.mv (.t 1)))⟩,
    ⟨(some 50), none, (.op (.mv (.t 2)))⟩,
    ⟨(some 51), none, (.op (.mv (.t 4)))⟩,
    ⟨(some 52), none, (.call 92 [(.t 48), (.t 49), (.t 50), (.t 51)])⟩,
    ⟨(some 47), none, (.op (.mv (.t 52)))⟩,
    ⟨(some 53), none, (.op (.ext (.t 47) 0))⟩,
    ⟨(some 54), none, (.op (.ext (.t 47) 1))⟩,
    ⟨(some 13), none, (.op (.mv (.t 53)))⟩,
    ⟨(some 14), none, (.op (.mv (.t 54)))⟩])
   (.live [4, 2, 0, 11, 10, 3, 1, 12, 13, 14] (.seq (.seq (.region [⟨(some 55), none, (.op (.mv (.t 14)))⟩,
    ⟨(some 56), none, (.op (.bin .int true .eql (.t 55) (.c (.i .i64 2))))⟩])
   (.live [4, 2, 0, 11, 10, 3, 1, 12, 13, 14, 56] (.cond (.t 56) (.seq (.region [⟨(some 57), none, (.op (.mv (.t 0)))⟩,
    ⟨(some 58), none, (.op (.mv (.t 1)))⟩,
    ⟨(some 59), none, (.op (.mv (.t 2)))⟩,
    ⟨(some 60), none, (.op (.mv (.t 4)))⟩,
    ⟨(some 61), none, (.call 93 [(.t 57), (.t 58), (.t 59), (.t 60)])⟩])
   (.live [4, 2, 0, 11, 10, 3, 1, 12, 13] (.seq (.region [⟨(some 62), none, (.op (.mv (.t 2)))⟩,
    ⟨(some 63), none, (.op (.bin .int true .sub (.t 62) (.c (.i .i64 1))))⟩,
    ⟨(some 64), none, (.op (.mv (.t 13)))⟩,
    ⟨(some 65), none, (.op (.mv (.t 1)))⟩,
    ⟨(some 66), none, (.op (.bin .int false .sub (.t 64) (.t 65)))⟩,
    ⟨(some 67), none, (.op (.bin .int false .sub (.t 63) (.t 66)))⟩,
    ⟨(some 13), none, (.op (.mv (.t 67)))⟩])
   (.region [⟨(some 14), none, (.op (.mv (.c (.i .i64 1))))⟩]))))
   (.skip))))
   (.live [4, 2, 0, 11, 10, 3, 13, 1, 12, 14] (.seq (.seq (.region [⟨(some 68), none, (.op (.mv (.t 10)))⟩,
    ⟨(some 69), none, (.op (.mv (.t 68)))⟩,
    ⟨(some 70), some (69, true), (.op (.mv (.t 11)))⟩,
    ⟨(some 71), none, (.op (.pick (.t 69) (.t 70) (.c (.b false))))⟩,
    ⟨(some 72), none, (.op (.mv (.t 71)))⟩,
    ⟨(some 73), some (72, true), (.op (.mv (.t 14)))⟩,
    ⟨(some 74), some (72, true), (.op (.bin .int true .eql (.t 73) (.c (.i .i64 1))))⟩,
    ⟨(some 75), none, (.op (.pick (.t 72) (.t 74) (.c (.b false))))⟩])
   (.live [4, 2, 0, 11, 10, 3, 13, 1, 12, 75] (.cond (.t 75) (.seq (.region [⟨(some 76), none, (.op (.mv (.t 0)))⟩,
    ⟨(some 77), none, (.op (.mv (.t 1)))⟩,
    ⟨(some 78), none, (.op (.mv (.t 2)))⟩,
    ⟨(some 79), none, (.op (.mv (.t 4)))⟩,
    ⟨(some 80), none, (.call 94 [(.t 76), (.t 77), (.t 78), (.t 79)])⟩])
   (.live [4, 2, 0, 11, 10, 3, 13, 1, 12, 80] (.cond (.t 80) (.ret)
   (.skip))))
   (.skip))))
   (.live [4, 2, 0, 11, 10, 3, 13, 1, 12] (.seq (.seq (.draw c78d0 [])
   (.live [4, 2, 0, 11, 10, 3, 13, 1, 12, 97] (.cond (.t 97) (.seq (.region [⟨(some 98), none, (.op (.mv (.t 0)))⟩,
    ⟨(some 99), none, (.op (.mv (.t 1)))⟩,
    ⟨(some 100), none, (.op (.mv (.t 2)))⟩,
    ⟨(some 101), none, (.op (.mv (.t 13)))⟩,
    ⟨(some 102), none, (.op (.mv (.t 4)))⟩,
    ⟨(some 103), none, (.call 95 [(.t 98), (.t 99), (.t 100), (.t 101), (.t 102)])⟩,
    ⟨(some 15), none, (.op (.mv (.t 103)))⟩])
   (.live [4, 2, 0, 11, 10, 3, 15] (.seq (.region [⟨(some 104), none, (.op (.mv (.t 15)))⟩,
    ⟨(some 1), none, (.op (.mv (.t 104)))⟩])
   (.exit 1))))
   (.skip))))
   (.live [4, 2, 0, 3, 1, 12, 13] (.seq (.region [⟨(some 106), none, (.op (.mv (.t 0)))⟩,
    ⟨(some 107), none, (.op (.mv (.t 1)))⟩,
    ⟨(some 108), none, (.op (.mv (.t 2)))⟩,
    ⟨(some 109), none, (.op (.mv (.t 13)))⟩,
    ⟨(some 110), none, (.op (.mv (.t 4)))⟩,
    ⟨(some 111), none, (.call 96 [(.t 106), (.t 107), (.t 108), (.t 109), (.t 110)])⟩,
    ⟨(some 105), none, (.op (.mv (.t 111)))⟩,
    ⟨(some 112), none, (.op (.ext (.t 105) 0))⟩,
    ⟨(some 113), none, (.op (.ext (.t 105) 1))⟩,
    ⟨(some 16), none, (.op (.mv (.t 112)))⟩,
    ⟨(some 17), none, (.op (.mv (.t 113)))⟩])
   (.live [4, 2, 0, 3, 16, 1, 12, 17] (.seq (.region [⟨(some 114), none, (.op (.mv (.t 17)))⟩,
    ⟨(some 11), none, (.op (.mv (.t 114)))⟩])
   (.live [4, 2, 0, 11, 3, 16, 1, 12] (.seq (.region [⟨(some 115), none, (.op (.mv (.t 16)))⟩,
    ⟨(some 116), none, (.op (.mv (.t 1)))⟩,
    ⟨(some 117), none, (.op (.bin .int false .sub (.t 115) (.t 116)))⟩,
    ⟨(some 118), none, (.op (.mv (.t 2)))⟩,
    ⟨(some 119), none, (.op (.mv (.t 16)))⟩,
    ⟨(some 120), none, (.op (.bin .int false .sub (.t 118) (.t 119)))⟩,
    ⟨(some 18), none, (.op (.mv (.t 117)))⟩,
    ⟨(some 19), none, (.op (.mv (.t 120)))⟩])
   (.live [4, 2, 0, 11, 3, 16, 1, 18, 19, 12] (.seq (.region [⟨(some 121), none, (.op (.mv (.t 12)))⟩,
    ⟨(some 122), none, (.op (.bin .int true .quo (.t 121) (.c (.i .i64 8))))⟩,
    ⟨(some 20), none, (.op (.mv (.t 122)))⟩])
   (.live [4, 2, 0, 11, 3, 16, 1, 20, 18, 19] (.seq (.region [⟨(some 123), none, (.op (.mv (.t 18)))⟩,
    ⟨(some 124), none, (.op (.mv (.t 19)))⟩,
    ⟨(some 125), none, (.op (.bin .int false .lss (.t 123) (.t 124)))⟩])
   (.live [4, 2, 0, 11, 3, 16, 1, 20, 18, 19, 125] (.cond (.t 125) (.seq (.region [⟨(some 126), none, (.op (.mv (.t 18)))⟩,
    ⟨(some 127), none, (.op (.mv (.t 20)))⟩,
    ⟨(some 128), none, (.op (.bin .int false .geq (.t 126) (.t 127)))⟩,
    ⟨(some 10), none, (.op (.mv (.t 128)))⟩])
   (.live [4, 2, 0, 11, 10, 3, 16, 1] (.seq (.region [⟨(some 129), none, (.op (.mv (.t 0)))⟩,
    ⟨(some 130), none, (.op (.mv (.t 1)))⟩,
    ⟨(some 131), none, (.op (.mv (.t 16)))⟩,
    ⟨(some 132), none, (.op (.mv (.t 3)))⟩,
    ⟨(some 133), none, (.op (.mv (.t 4)))⟩,
    ⟨(some 134), none, (.call 78 [(.t 129), (.t 130), (.t 131), (.t 132), (.t 133)])⟩])
   (.live [4, 2, 0, 11, 10, 3, 16] (.region [⟨(some 135), none, (.op (.mv (.t 16)))⟩,
    ⟨(some 136), none, (.op (.bin .int true .add (.t 135) (.c (.i .i64 1))))⟩,
    ⟨(some 1), none, (.op (.mv (.t 136)))⟩])))))
   (.seq (.region [⟨(some 137), none, (.op (.mv (.t 19)))⟩,
    ⟨(some 138), none, (.op (.mv (.t 20)))⟩,
    ⟨(some 139), none, (.op (.bin .int false .geq (.t 137) (.t 138)))⟩,
    ⟨(some 10), none, (.op (.mv (.t 139)))⟩])
   (.live [4, 1, 0, 11, 10, 3, 16, 2] (.seq (.region [⟨(some 140), none, (.op (.mv (.t 0)))⟩,
    ⟨(some 141), none, (.op (.mv (.t 16)))⟩,
    ⟨(some 142), none, (.op (.bin .int true .add (.t 141) (.c (.i .i64 1))))⟩,
    ⟨(some 143), none, (.op (.mv (.t 2)))⟩,
    ⟨(some 144), none, (.op (.mv (.t 3)))⟩,
    ⟨(some 145), none, (.op (.mv (.t 4)))⟩,
    ⟨(some 146), none, (.call 78 [(.t 140), (.t 142), (.t 143), (.t 144), (.t 145)])⟩])
   (.live [4, 1, 0, 11, 10, 3, 16] (.region [⟨(some 147), none, (.op (.mv (.t 16)))⟩,
    ⟨(some 2), none, (.op (.mv (.t 147)))⟩]))))))))))))))))))))))))))))))))
def c78 : IFunc := ⟨5, [],
  .seq (.region [⟨(some 10), none, (.op (.mv (.c (.b true))))⟩])
   (.live [4, 2, 1, 0, 10, 3] (.seq (.region [⟨(some 11), none, (.op (.mv (.c (.b true))))⟩])
   (.live [4, 2, 1, 0, 11, 10, 3] (.block 0 (.loop [4, 2, 1, 0, 11, 10, 3] c78l1))))),
  []⟩


/- math/bits.Len -/

def c79 : IFunc := ⟨1, [.tmp 2],
  .seq (.region [⟨(some 2), none, (.op (.mv (.c (.i .i64 0))))⟩])
   (.live [0] (.seq (.cond (.c (.b false)) (.seq (.region [⟨(some 3), none, (.op (.mv (.t 0)))⟩,
    ⟨(some 4), none, (.op (.toInt .u32 (.t 3)))⟩,
    ⟨(some 5), none, (.call 97 [(.t 4)])⟩,
    ⟨(some 2), none, (.op (.mv (.t 5)))⟩])
   (.ret))
   (.skip))
   (.live [0] (.seq (.region [⟨(some 6), none, (.op (.mv (.t 0)))⟩,
    ⟨(some 7), none, (.call 98 [(.t 6)])⟩,
    ⟨(some 2), none, (.op (.mv (.t 7)))⟩])
   (.ret))))),
  []⟩


/- cmp.isNaN[int] -/

def c80 : IFunc := ⟨1, [.tmp 2],
  .seq (.region [⟨(some 2), none, (.op (.mv (.c (.b false))))⟩])
   (.live [0] (.seq (.region [⟨(some 3), none, (.op (.mv (.t 0)))⟩,
    ⟨(some 4), none, (.op (.mv (.t 0)))⟩,
    ⟨(some 5), none, (.op (.bin .int false .neq (.t 3) (.t 4)))⟩,
    ⟨(some 2), none, (.op (.mv (.t 5)))⟩])
   (.ret))),
  []⟩


/- floodgate/policy.Right$1 -/

def c81 : IFunc := ⟨1, [.tmp 2],
  .seq (.region [⟨(some 2), none, (.op (.mv (.c (.b false))))⟩])
   (.live [0] (.seq (.region [⟨(some 3), none, (.op (.mv (.t 0)))⟩,
    ⟨(some 4), none, (.op (.bin .int true .gtr (.t 3) (.c (.i .u64 281474976710656))))⟩,
    ⟨(some 2), none, (.op (.mv (.t 4)))⟩])
   (.ret))),
  []⟩


/- floodgate/policy.Right$2 -/

def c82 : IFunc := ⟨1, [.tmp 2],
  .seq (.region [⟨(some 2), none, (.op (.mv (.c (.b false))))⟩])
   (.live [0] (.seq (.region [⟨(some 3), none, (.op (.mv (.t 0)))⟩,
    ⟨(some 4), none, (.op (.bin .int true .lss (.t 3) (.c (.i .u64 1500))))⟩,
    ⟨(some 2), none, (.op (.mv (.t 4)))⟩])
   (.ret))),
  []⟩


/- floodgate/addr.Right -/
def c83d0 : List Stage :=
  [⟨[(⟨(some 3), none, (.op (.faddr 4 (.t 1)))⟩, 0), (⟨(some 4), none, (.op (.load none (.t 3)))⟩, 0), (⟨(some 5), none, (.op (.bin .int true .geq (.t 4) (.c (.i .i64 0))))⟩, 0), (⟨(some 6), none, (.op (.mv (.t 5)))⟩, 0), (⟨(some 7), some (6, true), (.op (.faddr 4 (.t 1)))⟩, 0), (⟨(some 8), some (6, true), (.op (.load none (.t 7)))⟩, 0), (⟨(some 9), some (6, true), (.op (.bin .int true .leq (.t 8) (.c (.i .i64 32))))⟩, 0), (⟨(some 10), none, (.op (.pick (.t 6) (.t 9) (.c (.b false))))⟩, 0), (⟨(some 11), none, (.op (.mv (.t 10)))⟩, 0), (⟨(some 12), some (11, true), (.op (.faddr 0 (.t 1)))⟩, 0), (⟨(some 13), some (11, true), (.op (.load (some 4) (.t 12)))⟩, 0), (⟨(some 14), some (11, true), (.op (.faddr 4 (.t 1)))⟩, 0), (⟨(some 15), some (11, true), (.op (.load none (.t 14)))⟩, 0), (⟨(some 17), some (11, true), (.op (.load (some 5) (.t 1)))⟩, 1)], none, some ⟨(some 16), some (11, true), (.call 99 [(.t 13), (.t 15)])⟩⟩,
    ⟨[(⟨(some 18), some (11, true), (.op (.eqag false [.int, .int, .int, .int, .int] (.t 16) (.t 17)))⟩, 1), (⟨(some 19), none, (.op (.pick (.t 11) (.t 18) (.c (.b false))))⟩, 1), (⟨(some 2), none, (.op (.mv (.t 19)))⟩, 1)], none, none⟩]
def c83d0w : List (ROp × Bool) :=
  [(⟨(some 3), none, (.op (.faddr 4 (.t 1)))⟩, false), (⟨(some 4), none, (.op (.load none (.t 3)))⟩, false), (⟨(some 5), none, (.op (.bin .int true .geq (.t 4) (.c (.i .i64 0))))⟩, false), (⟨(some 6), none, (.op (.mv (.t 5)))⟩, false), (⟨(some 7), some (6, true), (.op (.faddr 4 (.t 1)))⟩, false), (⟨(some 8), some (6, true), (.op (.load none (.t 7)))⟩, false), (⟨(some 9), some (6, true), (.op (.bin .int true .leq (.t 8) (.c (.i .i64 32))))⟩, false), (⟨(some 10), none, (.op (.pick (.t 6) (.t 9) (.c (.b false))))⟩, false), (⟨(some 11), none, (.op (.mv (.t 10)))⟩, false), (⟨(some 12), some (11, true), (.op (.faddr 0 (.t 1)))⟩, false), (⟨(some 13), some (11, true), (.op (.load (some 4) (.t 12)))⟩, false), (⟨(some 14), some (11, true), (.op (.faddr 4 (.t 1)))⟩, false), (⟨(some 15), some (11, true), (.op (.load none (.t 14)))⟩, false), (⟨(some 17), some (11, true), (.op (.load (some 5) (.t 1)))⟩, false), (⟨(some 16), some (11, true), (.call 99 [(.t 13), (.t 15)])⟩, true), (⟨(some 18), some (11, true), (.op (.eqag false [.int, .int, .int, .int, .int] (.t 16) (.t 17)))⟩, false), (⟨(some 19), none, (.op (.pick (.t 11) (.t 18) (.c (.b false))))⟩, false), (⟨(some 2), none, (.op (.mv (.t 19)))⟩, false)]
theorem c83d0_w {P : Program} {O : Orc} {S0 : Mem} {rd : Bool} {e : Env} {S : Mem} {d : List Nat} {Q : Kont} : W P O S0 rd (.draw c83d0 []) e S d Q = wFl O c83d0w e S (normK Q d) := W_draw' (by kernel_rfl) (by kernel_rfl)
attribute [go_sem] c83d0_w c83d0w
def c83 : IFunc := ⟨1, [.tmp 2],
  .seq (.region [⟨(some 1), none, (.op (.box (.t 0)))⟩,
    ⟨(some 2), none, (.op (.mv (.c (.b false))))⟩])
   (.live [1] (.seq (.draw c83d0 [])
   (.ret))),
  []⟩


/- slices.ContainsFunc[[]uint64,uint64] -/

def c84 : IFunc := ⟨2, [.tmp 4],
  .seq (.region [⟨(some 4), none, (.op (.mv (.c (.b false))))⟩])
   (.live [1, 0] (.seq (.region [⟨(some 5), none, (.op (.mv (.t 0)))⟩,
    ⟨(some 6), none, (.op (.mv (.t 1)))⟩,
    ⟨(some 7), none, (.call 100 [(.t 5), (.t 6)])⟩,
    ⟨(some 8), none, (.op (.bin .int true .geq (.t 7) (.c (.i .i64 0))))⟩,
    ⟨(some 4), none, (.op (.mv (.t 8)))⟩])
   (.ret))),
  []⟩


/- slices.IndexFunc[[]floodgate/api.Policy,floodgate/api.Policy] -/
def c87l0 : ICode :=
  .seq (.region [⟨(some 9), none, (.op (.bin .int false .lss (.t 8) (.t 7)))⟩])
   (.live [0, 1, 7, 8, 9] (.seq (.cond (.t 9) (.skip)
   (.exit 0))
   (.live [0, 1, 7, 8] (.seq (.block 1 (.seq (.region [⟨(some 10), none, (.op (.mv (.t 8)))⟩,
    ⟨(some 5), none, (.op (.mv (.t 10)))⟩])
   (.live [5, 0, 1, 7, 8] (.seq (.region [⟨(some 11), none, (.op (.mv (.t 1)))⟩,
    ⟨(some 12), none, (.op (.mv (.t 0)))⟩,
    ⟨(some 13), none, (.op (.mv (.t 5)))⟩,
    ⟨(some 14), none, (.op (.iaddr none 13 (.t 12) (.t 13)))⟩,
    ⟨(some 15), none, (.op (.load (some 13) (.t 14)))⟩,
    ⟨(some 16), none, (.callv (.t 11) [(.t 15)])⟩])
   (.live [5, 0, 1, 7, 8, 16] (.cond (.t 16) (.seq (.region [⟨(some 17), none, (.op (.mv (.t 5)))⟩,
    ⟨(some 4), none, (.op (.mv (.t 17)))⟩])
   (.ret))
   (.skip)))))))
   (.live [0, 1, 7, 8] (.region [⟨(some 18), none, (.op (.bin .int true .add (.t 8) (.c (.i .i64 1))))⟩,
    ⟨(some 8), none, (.op (.mv (.t 18)))⟩]))))))
def c87 : IFunc := ⟨2, [.tmp 4],
  .seq (.region [⟨(some 4), none, (.op (.mv (.c (.i .i64 0))))⟩])
   (.live [0, 1] (.seq (.seq (.region [⟨(some 6), none, (.op (.mv (.t 0)))⟩,
    ⟨(some 7), none, (.op (.len .slice (.t 6)))⟩,
    ⟨(some 8), none, (.op (.mv (.c (.i .i64 0))))⟩])
   (.live [0, 1, 7, 8] (.block 0 (.loop [0, 1, 7, 8] c87l0))))
   (.live [] (.seq (.region [⟨(some 4), none, (.op (.mv (.c (.i .i64 (-1)))))⟩])
   (.ret))))),
  []⟩


/- slices.Index[[]int,int] -/
def c88l0 : ICode :=
  .seq (.region [⟨(some 9), none, (.op (.bin .int false .lss (.t 8) (.t 7)))⟩])
   (.live [0, 1, 7, 8, 9] (.seq (.cond (.t 9) (.skip)
   (.exit 0))
   (.live [0, 1, 7, 8] (.seq (.block 1 (.seq (.region [⟨(some 10), none, (.op (.mv (.t 8)))⟩,
    ⟨(some 5), none, (.op (.mv (.t 10)))⟩])
   (.live [5, 0, 1, 7, 8] (.seq (.region [⟨(some 11), none, (.op (.mv (.t 1)))⟩,
    ⟨(some 12), none, (.op (.mv (.t 0)))⟩,
    ⟨(some 13), none, (.op (.mv (.t 5)))⟩,
    ⟨(some 14), none, (.op (.iaddr none 1 (.t 12) (.t 13)))⟩,
    ⟨(some 15), none, (.op (.load none (.t 14)))⟩,
    ⟨(some 16), none, (.op (.bin .int false .eql (.t 11) (.t 15)))⟩])
   (.live [5, 0, 1, 7, 8, 16] (.cond (.t 16) (.seq (.region [⟨(some 17), none, (.op (.mv (.t 5)))⟩,
    ⟨(some 4), none, (.op (.mv (.t 17)))⟩])
   (.ret))
   (.skip)))))))
   (.live [0, 1, 7, 8] (.region [⟨(some 18), none, (.op (.bin .int true .add (.t 8) (.c (.i .i64 1))))⟩,
    ⟨(some 8), none, (.op (.mv (.t 18)))⟩]))))))
def c88 : IFunc := ⟨2, [.tmp 4],
  .seq (.region [⟨(some 4), none, (.op (.mv (.c (.i .i64 0))))⟩])
   (.live [0, 1] (.seq (.seq (.region [⟨(some 6), none, (.op (.mv (.t 0)))⟩,
    ⟨(some 7), none, (.op (.len .slice (.t 6)))⟩,
    ⟨(some 8), none, (.op (.mv (.c (.i .i64 0))))⟩])
   (.live [0, 1, 7, 8] (.block 0 (.loop [0, 1, 7, 8] c88l0))))
   (.live [] (.seq (.region [⟨(some 4), none, (.op (.mv (.c (.i .i64 (-1)))))⟩])
   (.ret))))),
  []⟩


/- slices.insertionSortCmpFunc[floodgate/api.Entry] -/
def c89d0 : List Stage :=
  [⟨[(⟨(some 18), none, (.op (.mv (.t 9)))⟩, 0), (⟨(some 19), none, (.op (.mv (.t 1)))⟩, 0), (⟨(some 20), none, (.op (.bin .int false .gtr (.t 18) (.t 19)))⟩, 0), (⟨(some 21), none, (.op (.mv (.t 20)))⟩, 0), (⟨(some 22), some (21, true), (.op (.mv (.t 3)))⟩, 0), (⟨(some 23), some (21, true), (.op (.mv (.t 0)))⟩, 0), (⟨(some 24), some (21, true), (.op (.mv (.t 9)))⟩, 0), (⟨(some 25), some (21, true), (.op (.iaddr none 14 (.t 23) (.t 24)))⟩, 0), (⟨(some 26), some (21, true), (.op (.load (some 14) (.t 25)))⟩, 0), (⟨(some 27), some (21, true), (.op (.mv (.t 0)))⟩, 0), (⟨(some 28), some (21, true), (.op (.mv (.t 9)))⟩, 0), (⟨(some 29), some (21, true), (.op (.bin .int true .sub (.t 28) (.c (.i .i64 1))))⟩, 0), (⟨(some 30), some (21, true), (.op (.iaddr none 14 (.t 27) (.t 29)))⟩, 0), (⟨(some 31), some (21, true), (.op (.load (some 14) (.t 30)))⟩, 0)], none, some ⟨(some 32), some (21, true), (.callv (.t 22) [(.t 26), (.t 31)])⟩⟩,
    ⟨[(⟨(some 33), some (21, true), (.op (.bin .int true .lss (.t 32) (.c (.i .i64 0))))⟩, 1), (⟨(some 34), none, (.op (.pick (.t 21) (.t 33) (.c (.b false))))⟩, 1)], none, none⟩]
def c89d0w : List (ROp × Bool) :=
  [(⟨(some 18), none, (.op (.mv (.t 9)))⟩, false), (⟨(some 19), none, (.op (.mv (.t 1)))⟩, false), (⟨(some 20), none, (.op (.bin .int false .gtr (.t 18) (.t 19)))⟩, false), (⟨(some 21), none, (.op (.mv (.t 20)))⟩, false), (⟨(some 22), some (21, true), (.op (.mv (.t 3)))⟩, false), (⟨(some 23), some (21, true), (.op (.mv (.t 0)))⟩, false), (⟨(some 24), some (21, true), (.op (.mv (.t 9)))⟩, false), (⟨(some 25), some (21, true), (.op (.iaddr none 14 (.t 23) (.t 24)))⟩, false), (⟨(some 26), some (21, true), (.op (.load (some 14) (.t 25)))⟩, false), (⟨(some 27), some (21, true), (.op (.mv (.t 0)))⟩, false), (⟨(some 28), some (21, true), (.op (.mv (.t 9)))⟩, false), (⟨(some 29), some (21, true), (.op (.bin .int true .sub (.t 28) (.c (.i .i64 1))))⟩, false), (⟨(some 30), some (21, true), (.op (.iaddr none 14 (.t 27) (.t 29)))⟩, false), (⟨(some 31), some (21, true), (.op (.load (some 14) (.t 30)))⟩, false), (⟨(some 32), some (21, true), (.callv (.t 22) [(.t 26), (.t 31)])⟩, false), (⟨(some 33), some (21, true), (.op (.bin .int true .lss (.t 32) (.c (.i .i64 0))))⟩, false), (⟨(some 34), none, (.op (.pick (.t 21) (.t 33) (.c (.b false))))⟩, false)]
theorem c89d0_w {P : Program} {O : Orc} {S0 : Mem} {rd : Bool} {e : Env} {S : Mem} {d : List Nat} {Q : Kont} : W P O S0 rd (.draw c89d0 []) e S d Q = wFl O c89d0w e S (normK Q d) := W_draw' (by kernel_rfl) (by kernel_rfl)
attribute [go_sem] c89d0_w c89d0w
def c89d1 : List Stage :=
  [⟨[(⟨(some 37), none, (.op (.mv (.t 0)))⟩, 0), (⟨(some 38), none, (.op (.mv (.t 9)))⟩, 0), (⟨(some 39), none, (.op (.mv (.t 0)))⟩, 1), (⟨(some 40), none, (.op (.mv (.t 9)))⟩, 1), (⟨(some 41), none, (.op (.bin .int true .sub (.t 40) (.c (.i .i64 1))))⟩, 1), (⟨(some 42), none, (.op (.mv (.t 0)))⟩, 0), (⟨(some 43), none, (.op (.mv (.t 9)))⟩, 0), (⟨(some 44), none, (.op (.bin .int true .sub (.t 43) (.c (.i .i64 1))))⟩, 0), (⟨(some 45), none, (.op (.iaddr none 14 (.t 42) (.t 44)))⟩, 0), (⟨(some 46), none, (.op (.load (some 14) (.t 45)))⟩, 0), (⟨(some 47), none, (.op (.mv (.t 0)))⟩, 0), (⟨(some 48), none, (.op (.mv (.t 9)))⟩, 0), (⟨(some 49), none, (.op (.iaddr none 14 (.t 47) (.t 48)))⟩, 0), (⟨(some 50), none, (.op (.load (some 14) (.t 49)))⟩, 0), (⟨(some 51), none, (.op (.iaddr none 14 (.t 37) (.t 38)))⟩, 0)], none, some ⟨none, none, (.op (.store 14 (.t 51) (.t 46)))⟩⟩,
    ⟨[(⟨(some 52), none, (.op (.iaddr none 14 (.t 39) (.t 41)))⟩, 1)], none, some ⟨none, none, (.op (.store 14 (.t 52) (.t 50)))⟩⟩,
    ⟨[], none, none⟩]
def c89d1w : List (ROp × Bool) :=
  [(⟨(some 37), none, (.op (.mv (.t 0)))⟩, false), (⟨(some 38), none, (.op (.mv (.t 9)))⟩, false), (⟨(some 39), none, (.op (.mv (.t 0)))⟩, false), (⟨(some 40), none, (.op (.mv (.t 9)))⟩, false), (⟨(some 41), none, (.op (.bin .int true .sub (.t 40) (.c (.i .i64 1))))⟩, false), (⟨(some 42), none, (.op (.mv (.t 0)))⟩, false), (⟨(some 43), none, (.op (.mv (.t 9)))⟩, false), (⟨(some 44), none, (.op (.bin .int true .sub (.t 43) (.c (.i .i64 1))))⟩, false), (⟨(some 45), none, (.op (.iaddr none 14 (.t 42) (.t 44)))⟩, false), (⟨(some 46), none, (.op (.load (some 14) (.t 45)))⟩, false), (⟨(some 47), none, (.op (.mv (.t 0)))⟩, false), (⟨(some 48), none, (.op (.mv (.t 9)))⟩, false), (⟨(some 49), none, (.op (.iaddr none 14 (.t 47) (.t 48)))⟩, false), (⟨(some 50), none, (.op (.load (some 14) (.t 49)))⟩, false), (⟨(some 51), none, (.op (.iaddr none 14 (.t 37) (.t 38)))⟩, false), (⟨none, none, (.op (.store 14 (.t 51) (.t 46)))⟩, false), (⟨(some 52), none, (.op (.iaddr none 14 (.t 39) (.t 41)))⟩, false), (⟨none, none, (.op (.store 14 (.t 52) (.t 50)))⟩, false)]
theorem c89d1_w {P : Program} {O : Orc} {S0 : Mem} {rd : Bool} {e : Env} {S : Mem} {d : List Nat} {Q : Kont} : W P O S0 rd (.draw c89d1 []) e S d Q = wFl O c89d1w e S (normK Q d) := W_draw' (by kernel_rfl) (by kernel_rfl)
attribute [go_sem] c89d1_w c89d1w
def c89l2 : ICode :=
  .seq (.seq (.draw c89d0 [])
   (.live [0, 1, 3, 2, 8, 9, 34] (.cond (.t 34) (.skip)
   (.exit 2))))
   (.live [0, 1, 3, 2, 8, 9] (.seq (.block 3 (.draw c89d1 []))
   (.live [0, 1, 3, 2, 8, 9] (.region [⟨(some 35), none, (.op (.mv (.t 9)))⟩,
    ⟨(some 36), none, (.op (.bin .int true .sub (.t 35) (.c (.i .i64 1))))⟩,
    ⟨(some 9), none, (.op (.mv (.t 36)))⟩]))))
def c89l3 : ICode :=
  .seq (.seq (.region [⟨(some 12), none, (.op (.mv (.t 8)))⟩,
    ⟨(some 13), none, (.op (.mv (.t 2)))⟩,
    ⟨(some 14), none, (.op (.bin .int false .lss (.t 12) (.t 13)))⟩])
   (.live [0, 1, 3, 2, 8, 14] (.cond (.t 14) (.skip)
   (.exit 0))))
   (.live [0, 1, 3, 2, 8] (.seq (.block 1 (.seq (.region [⟨(some 17), none, (.op (.mv (.t 8)))⟩,
    ⟨(some 9), none, (.op (.mv (.t 17)))⟩])
   (.live [0, 1, 3, 2, 8, 9] (.block 2 (.loop [0, 1, 3, 2, 8, 9] c89l2)))))
   (.live [0, 1, 3, 2, 8] (.region [⟨(some 15), none, (.op (.mv (.t 8)))⟩,
    ⟨(some 16), none, (.op (.bin .int true .add (.t 15) (.c (.i .i64 1))))⟩,
    ⟨(some 8), none, (.op (.mv (.t 16)))⟩]))))
def c89 : IFunc := ⟨4, [],
  .seq (.region [⟨(some 10), none, (.op (.mv (.t 1)))⟩,
    ⟨(some 11), none, (.op (.bin .int true .add (.t 10) (.c (.i .i64 1))))⟩,
    ⟨(some 8), none, (.op (.mv (.t 11)))⟩])
   (.live [0, 1, 3, 2, 8] (.block 0 (.loop [0, 1, 3, 2, 8] c89l3))),
  []⟩


/- math/bits.Len64 -/

def c98 : IFunc := ⟨1, [.tmp 2],
  .seq (.region [⟨(some 2), none, (.op (.mv (.c (.i .i64 0))))⟩])
   (.live [0, 2] (.seq (.seq (.region [⟨(some 3), none, (.op (.mv (.t 0)))⟩,
    ⟨(some 4), none, (.op (.bin .int true .geq (.t 3) (.c (.i .u64 4294967296))))⟩])
   (.live [0, 2, 4] (.cond (.t 4) (.seq (.region [⟨(some 5), none, (.op (.mv (.t 0)))⟩,
    ⟨(some 6), none, (.op (.bin .int true .shr (.t 5) (.c (.i .u64 32))))⟩,
    ⟨(some 0), none, (.op (.mv (.t 6)))⟩])
   (.region [⟨(some 2), none, (.op (.mv (.c (.i .i64 32))))⟩]))
   (.skip))))
   (.live [2, 0] (.seq (.seq (.region [⟨(some 7), none, (.op (.mv (.t 0)))⟩,
    ⟨(some 8), none, (.op (.bin .int true .geq (.t 7) (.c (.i .u64 65536))))⟩])
   (.live [2, 0, 8] (.cond (.t 8) (.seq (.region [⟨(some 9), none, (.op (.mv (.t 0)))⟩,
    ⟨(some 10), none, (.op (.bin .int true .shr (.t 9) (.c (.i .u64 16))))⟩,
    ⟨(some 0), none, (.op (.mv (.t 10)))⟩])
   (.live [0, 2] (.region [⟨(some 11), none, (.op (.mv (.t 2)))⟩,
    ⟨(some 12), none, (.op (.bin .int true .add (.t 11) (.c (.i .i64 16))))⟩,
    ⟨(some 2), none, (.op (.mv (.t 12)))⟩])))
   (.skip))))
   (.live [2, 0] (.seq (.seq (.region [⟨(some 13), none, (.op (.mv (.t 0)))⟩,
    ⟨(some 14), none, (.op (.bin .int true .geq (.t 13) (.c (.i .u64 256))))⟩])
   (.live [2, 0, 14] (.cond (.t 14) (.seq (.region [⟨(some 15), none, (.op (.mv (.t 0)))⟩,
    ⟨(some 16), none, (.op (.bin .int true .shr (.t 15) (.c (.i .u64 8))))⟩,
    ⟨(some 0), none, (.op (.mv (.t 16)))⟩])
   (.live [0, 2] (.region [⟨(some 17), none, (.op (.mv (.t 2)))⟩,
    ⟨(some 18), none, (.op (.bin .int true .add (.t 17) (.c (.i .i64 8))))⟩,
    ⟨(some 2), none, (.op (.mv (.t 18)))⟩])))
   (.skip))))
   (.live [0, 2] (.seq (.region [⟨(some 19), none, (.op (.mv (.t 2)))⟩,
    ⟨(some 20), none, (.op (.mv (.t 0)))⟩,
    ⟨(some 21), none, (.op (.toInt .u8 (.t 20)))⟩,
    ⟨(some 22), none, (.op (.ixs (.c (.s [0, 1, 2, 2, 3, 3, 3, 3, 4, 4, 4, 4, 4, 4, 4, 4, 5, 5, 5, 5, 5, 5, 5, 5, 5, 5, 5, 5, 5, 5, 5, 5, 6, 6, 6, 6, 6, 6, 6, 6, 6, 6, 6, 6, 6, 6, 6, 6, 6, 6, 6, 6, 6, 6, 6, 6, 6, 6, 6, 6, 6, 6, 6, 6, 7, 7, 7, 7, 7, 7, 7, 7, 7, 7, 7, 7, 7, 7, 7, 7, 7, 7, 7, 7, 7, 7, 7, 7, 7, 7, 7, 7, 7, 7, 7, 7, 7, 7, 7, 7, 7, 7, 7, 7, 7, 7, 7, 7, 7, 7, 7, 7, 7, 7, 7, 7, 7, 7, 7, 7, 7, 7, 7, 7, 7, 7, 7, 7, 8, 8, 8, 8, 8, 8, 8, 8, 8, 8, 8, 8, 8, 8, 8, 8, 8, 8, 8, 8, 8, 8, 8, 8, 8, 8, 8, 8, 8, 8, 8, 8, 8, 8, 8, 8, 8, 8, 8, 8, 8, 8, 8, 8, 8, 8, 8, 8, 8, 8, 8, 8, 8, 8, 8, 8, 8, 8, 8, 8, 8, 8, 8, 8, 8, 8, 8, 8, 8, 8, 8, 8, 8, 8, 8, 8, 8, 8, 8, 8, 8, 8, 8, 8, 8, 8, 8, 8, 8, 8, 8, 8, 8, 8, 8, 8, 8, 8, 8, 8, 8, 8, 8, 8, 8, 8, 8, 8, 8, 8, 8, 8, 8, 8, 8, 8, 8, 8, 8, 8, 8, 8, 8, 8, 8, 8, 8, 8])) (.t 21)))⟩,
    ⟨(some 23), none, (.op (.toInt .i64 (.t 22)))⟩,
    ⟨(some 24), none, (.op (.bin .int false .add (.t 19) (.t 23)))⟩,
    ⟨(some 2), none, (.op (.mv (.t 24)))⟩])
   (.ret))))))))),
  []⟩


/- floodgate/addr.Cut -/

def c99 : IFunc := ⟨2, [.cell 4 (some 5)],
  .seq (.region [⟨(some 2), none, (.op (.box (.t 0)))⟩,
    ⟨(some 4), none, (.op (.fresh [(.i .u8 0), (.i .u8 0), (.i .u8 0), (.i .u8 0), (.i .i64 0)]))⟩])
   (.live [4, 1, 2] (.seq (.region [⟨(some 5), none, (.op (.load (some 4) (.t 2)))⟩,
    ⟨(some 6), none, (.call 61 [(.t 5)])⟩,
    ⟨(some 7), none, (.op (.mv (.t 1)))⟩,
    ⟨(some 8), none, (.call 109 [(.t 7)])⟩,
    ⟨(some 9), none, (.op (.bin .int false .and (.t 6) (.t 8)))⟩,
    ⟨(some 10), none, (.call 70 [(.t 9)])⟩,
    ⟨(some 11), none, (.op (.mv (.t 1)))⟩,
    ⟨(some 12), none, (.op (.mm false [(.t 11), (.c (.i .i64 32))]))⟩,
    ⟨(some 13), none, (.op (.mm true [(.c (.i .i64 0)), (.t 12)]))⟩,
    ⟨(some 14), none, (.op (.build [(.i .u8 0), (.i .u8 0), (.i .u8 0), (.i .u8 0), (.i .i64 0)] [(0, 4, (.t 10)), (4, 1, (.t 13))]))⟩,
    ⟨none, none, (.op (.store 5 (.t 4) (.t 14)))⟩])
   (.ret))),
  []⟩


/- slices.IndexFunc[[]uint64,uint64] -/
def c100l0 : ICode :=
  .seq (.region [⟨(some 9), none, (.op (.bin .int false .lss (.t 8) (.t 7)))⟩])
   (.live [0, 1, 7, 8, 9] (.seq (.cond (.t 9) (.skip)
   (.exit 0))
   (.live [0, 1, 7, 8] (.seq (.block 1 (.seq (.region [⟨(some 10), none, (.op (.mv (.t 8)))⟩,
    ⟨(some 5), none, (.op (.mv (.t 10)))⟩])
   (.live [5, 0, 1, 7, 8] (.seq (.region [⟨(some 11), none, (.op (.mv (.t 1)))⟩,
    ⟨(some 12), none, (.op (.mv (.t 0)))⟩,
    ⟨(some 13), none, (.op (.mv (.t 5)))⟩,
    ⟨(some 14), none, (.op (.iaddr none 1 (.t 12) (.t 13)))⟩,
    ⟨(some 15), none, (.op (.load none (.t 14)))⟩,
    ⟨(some 16), none, (.callv (.t 11) [(.t 15)])⟩])
   (.live [5, 0, 1, 7, 8, 16] (.cond (.t 16) (.seq (.region [⟨(some 17), none, (.op (.mv (.t 5)))⟩,
    ⟨(some 4), none, (.op (.mv (.t 17)))⟩])
   (.ret))
   (.skip)))))))
   (.live [0, 1, 7, 8] (.region [⟨(some 18), none, (.op (.bin .int true .add (.t 8) (.c (.i .i64 1))))⟩,
    ⟨(some 8), none, (.op (.mv (.t 18)))⟩]))))))
def c100 : IFunc := ⟨2, [.tmp 4],
  .seq (.region [⟨(some 4), none, (.op (.mv (.c (.i .i64 0))))⟩])
   (.live [0, 1] (.seq (.seq (.region [⟨(some 6), none, (.op (.mv (.t 0)))⟩,
    ⟨(some 7), none, (.op (.len .slice (.t 6)))⟩,
    ⟨(some 8), none, (.op (.mv (.c (.i .i64 0))))⟩])
   (.live [0, 1, 7, 8] (.block 0 (.loop [0, 1, 7, 8] c100l0))))
   (.live [] (.seq (.region [⟨(some 4), none, (.op (.mv (.c (.i .i64 (-1)))))⟩])
   (.ret))))),
  []⟩


/- floodgate/addr.mask -/

def c109 : IFunc := ⟨1, [.tmp 2],
  .seq (.region [⟨(some 2), none, (.op (.mv (.c (.i .u32 0))))⟩])
   (.live [0] (.seq (.region [⟨(some 3), none, (.op (.mv (.t 0)))⟩,
    ⟨(some 4), none, (.op (.mm false [(.t 3), (.c (.i .i64 32))]))⟩,
    ⟨(some 5), none, (.op (.mm true [(.c (.i .i64 0)), (.t 4)]))⟩,
    ⟨(some 6), none, (.op (.bin .int true .sub (.c (.i .i64 32)) (.t 5)))⟩,
    ⟨(some 7), none, (.op (.bin .int true .shl (.c (.i .u32 4294967295)) (.t 6)))⟩,
    ⟨(some 2), none, (.op (.mv (.t 7)))⟩])
   (.ret))),
  []⟩


set_option maxRecDepth 1000000
theorem f6 : compFunc Try.prog 6 = some (stripF c6) := by kernel_rfl
theorem f11 : compFunc Try.prog 11 = some (stripF c11) := by kernel_rfl
theorem f12 : compFunc Try.prog 12 = some (stripF c12) := by kernel_rfl
theorem f13 : compFunc Try.prog 13 = some (stripF c13) := by kernel_rfl
theorem f16 : compFunc Try.prog 16 = some (stripF c16) := by kernel_rfl
theorem f17 : compFunc Try.prog 17 = some (stripF c17) := by kernel_rfl
theorem f19 : compFunc Try.prog 19 = some (stripF c19) := by kernel_rfl
theorem f22 : compFunc Try.prog 22 = some (stripF c22) := by kernel_rfl
theorem f26 : compFunc Try.prog 26 = some (stripF c26) := by kernel_rfl
theorem f27 : compFunc Try.prog 27 = some (stripF c27) := by kernel_rfl
theorem f28 : compFunc Try.prog 28 = some (stripF c28) := by kernel_rfl
theorem f29 : compFunc Try.prog 29 = some (stripF c29) := by kernel_rfl
theorem f30 : compFunc Try.prog 30 = some (stripF c30) := by kernel_rfl
theorem f33 : compFunc Try.prog 33 = some (stripF c33) := by kernel_rfl
theorem f34 : compFunc Try.prog 34 = some (stripF c34) := by kernel_rfl
theorem f35 : compFunc Try.prog 35 = some (stripF c35) := by kernel_rfl
theorem f36 : compFunc Try.prog 36 = some (stripF c36) := by kernel_rfl
theorem f37 : compFunc Try.prog 37 = some (stripF c37) := by kernel_rfl
theorem f38 : compFunc Try.prog 38 = some (stripF c38) := by kernel_rfl
theorem f41 : compFunc Try.prog 41 = some (stripF c41) := by kernel_rfl
theorem f43 : compFunc Try.prog 43 = some (stripF c43) := by kernel_rfl
theorem f49 : compFunc Try.prog 49 = some (stripF c49) := by kernel_rfl
theorem f50 : compFunc Try.prog 50 = some (stripF c50) := by kernel_rfl
theorem f51 : compFunc Try.prog 51 = some (stripF c51) := by kernel_rfl
theorem f52 : compFunc Try.prog 52 = some (stripF c52) := by kernel_rfl
theorem f53 : compFunc Try.prog 53 = some (stripF c53) := by kernel_rfl
theorem f54 : compFunc Try.prog 54 = some (stripF c54) := by kernel_rfl
theorem f55 : compFunc Try.prog 55 = some (stripF c55) := by kernel_rfl
theorem f56 : compFunc Try.prog 56 = some (stripF c56) := by kernel_rfl
theorem f59 : compFunc Try.prog 59 = some (stripF c59) := by kernel_rfl
theorem f60 : compFunc Try.prog 60 = some (stripF c60) := by kernel_rfl
theorem f61 : compFunc Try.prog 61 = some (stripF c61) := by kernel_rfl
theorem f62 : compFunc Try.prog 62 = some (stripF c62) := by kernel_rfl
theorem f66 : compFunc Try.prog 66 = some (stripF c66) := by kernel_rfl
theorem f70 : compFunc Try.prog 70 = some (stripF c70) := by kernel_rfl
theorem f73 : compFunc Try.prog 73 = some (stripF c73) := by kernel_rfl
theorem f74 : compFunc Try.prog 74 = some (stripF c74) := by kernel_rfl
theorem f75 : compFunc Try.prog 75 = some (stripF c75) := by kernel_rfl
theorem f76 : compFunc Try.prog 76 = some (stripF c76) := by kernel_rfl
theorem f77 : compFunc Try.prog 77 = some (stripF c77) := by kernel_rfl
theorem f78 : compFunc Try.prog 78 = some (stripF c78) := by kernel_rfl
theorem f79 : compFunc Try.prog 79 = some (stripF c79) := by kernel_rfl
theorem f80 : compFunc Try.prog 80 = some (stripF c80) := by kernel_rfl
theorem f81 : compFunc Try.prog 81 = some (stripF c81) := by kernel_rfl
theorem f82 : compFunc Try.prog 82 = some (stripF c82) := by kernel_rfl
theorem f83 : compFunc Try.prog 83 = some (stripF c83) := by kernel_rfl
theorem f84 : compFunc Try.prog 84 = some (stripF c84) := by kernel_rfl
theorem f87 : compFunc Try.prog 87 = some (stripF c87) := by kernel_rfl
theorem f88 : compFunc Try.prog 88 = some (stripF c88) := by kernel_rfl
theorem f89 : compFunc Try.prog 89 = some (stripF c89) := by kernel_rfl
theorem f98 : compFunc Try.prog 98 = some (stripF c98) := by kernel_rfl
theorem f99 : compFunc Try.prog 99 = some (stripF c99) := by kernel_rfl
theorem f100 : compFunc Try.prog 100 = some (stripF c100) := by kernel_rfl
theorem f109 : compFunc Try.prog 109 = some (stripF c109) := by kernel_rfl
end Go.Proofs.Ytapgkaecamljbaa
