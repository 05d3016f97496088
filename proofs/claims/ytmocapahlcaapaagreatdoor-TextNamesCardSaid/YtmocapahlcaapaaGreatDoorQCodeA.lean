/- Proved here: the code of the functions, written out, is what the compiler makes of the program. No condition. -/
import Derived.Test.YtmocapahlcaapaaGreatDoorMc
import Derived.Test.YtmocapahlcaapaaGreatDoorRows
namespace Go.Proofs.YtmocapahlcaapaaGreatDoor
open Go.RowKit

/- floodgate/floodgatelaw24.TextNames -/

def c5 : IFunc := ⟨0, [.tmp 0],
  .seq (.region [⟨(some 0), none, (.op (.mv (.c (.b false))))⟩])
   (.live [] (.seq (.region [⟨(some 15), none, (.call 13 [(.c (.s [10, 32, 115, 117, 98, 32, 53, 32, 110, 101, 116, 115, 32, 49]))])⟩,
    ⟨(some 14), none, (.op (.mv (.t 15)))⟩,
    ⟨(some 16), none, (.op (.ext (.t 14) 0))⟩,
    ⟨(some 17), none, (.op (.ext (.t 14) 1))⟩,
    ⟨(some 2), none, (.op (.fresh [(.i .i64 0), (.i .i64 0), (.i .i64 0)]))⟩,
    ⟨(some 1), none, (.op (.mv (.t 16)))⟩,
    ⟨none, none, (.op (.store 3 (.t 2) (.t 17)))⟩])
   (.live [2] (.seq (.region [⟨(some 19), none, (.call 13 [(.c (.s [115, 117, 98, 32, 53, 32, 115, 117, 98, 32, 54]))])⟩,
    ⟨(some 18), none, (.op (.mv (.t 19)))⟩,
    ⟨(some 20), none, (.op (.ext (.t 18) 0))⟩,
    ⟨(some 21), none, (.op (.ext (.t 18) 1))⟩,
    ⟨(some 4), none, (.op (.fresh [(.i .i64 0), (.i .i64 0), (.i .i64 0)]))⟩,
    ⟨(some 3), none, (.op (.mv (.t 20)))⟩,
    ⟨none, none, (.op (.store 3 (.t 4) (.t 21)))⟩])
   (.live [4, 2] (.seq (.region [⟨(some 23), none, (.call 13 [(.c (.s [115, 117, 98, 32, 53, 32, 110, 101, 116]))])⟩,
    ⟨(some 22), none, (.op (.mv (.t 23)))⟩,
    ⟨(some 24), none, (.op (.ext (.t 22) 0))⟩,
    ⟨(some 25), none, (.op (.ext (.t 22) 1))⟩,
    ⟨(some 6), none, (.op (.fresh [(.i .i64 0), (.i .i64 0), (.i .i64 0)]))⟩,
    ⟨(some 5), none, (.op (.mv (.t 24)))⟩,
    ⟨none, none, (.op (.store 3 (.t 6) (.t 25)))⟩])
   (.live [6, 4, 2] (.seq (.region [⟨(some 27), none, (.call 13 [(.c (.s [115, 117, 98, 32, 50, 53, 54]))])⟩,
    ⟨(some 26), none, (.op (.mv (.t 27)))⟩,
    ⟨(some 28), none, (.op (.ext (.t 26) 0))⟩,
    ⟨(some 29), none, (.op (.ext (.t 26) 1))⟩,
    ⟨(some 8), none, (.op (.fresh [(.i .i64 0), (.i .i64 0), (.i .i64 0)]))⟩,
    ⟨(some 7), none, (.op (.mv (.t 28)))⟩,
    ⟨none, none, (.op (.store 3 (.t 8) (.t 29)))⟩])
   (.live [8, 6, 4, 2] (.seq (.region [⟨(some 31), none, (.call 13 [(.c (.s [32, 32, 115, 117, 98, 32, 53]))])⟩,
    ⟨(some 30), none, (.op (.mv (.t 31)))⟩,
    ⟨(some 32), none, (.op (.ext (.t 30) 0))⟩,
    ⟨(some 33), none, (.op (.ext (.t 30) 1))⟩,
    ⟨(some 10), none, (.op (.fresh [(.i .i64 0), (.i .i64 0), (.i .i64 0)]))⟩,
    ⟨(some 9), none, (.op (.mv (.t 32)))⟩,
    ⟨none, none, (.op (.store 3 (.t 10) (.t 33)))⟩])
   (.live [10, 8, 6, 4, 2] (.seq (.region [⟨(some 35), none, (.op (.build [(.i .i64 0), (.i .u8 0), (.i .u8 0), (.i .u8 0), (.i .u8 0), (.i .i64 0), (.i .u64 0), (.i .u64 0), (.i .u64 0), (.i .u64 0), (.i .u64 0), (.i .u64 0), (.i .u64 0)] []))⟩,
    ⟨(some 36), none, (.op (.bslice [(.i .i64 0), (.i .u8 0), (.i .u8 0), (.i .u8 0), (.i .u8 0), (.i .i64 0), (.i .u64 0), (.i .u64 0), (.i .u64 0), (.i .u64 0), (.i .u64 0), (.i .u64 0), (.i .u64 0)] 1 [(0, 13, (.t 35))]))⟩,
    ⟨(some 37), none, (.call 16 [(.t 36)])⟩,
    ⟨(some 34), none, (.op (.mv (.t 37)))⟩,
    ⟨(some 38), none, (.op (.ext (.t 34) 0))⟩,
    ⟨(some 39), none, (.op (.ext (.t 34) 1))⟩,
    ⟨(some 11), none, (.op (.mv (.t 38)))⟩,
    ⟨(some 12), none, (.op (.mv (.t 39)))⟩])
   (.live [12, 10, 8, 6, 4, 2] (.seq (.region [⟨(some 13), none, (.op (.mv (.c (.b true))))⟩])
   (.live [12, 10, 8, 6, 4, 2, 13] (.seq (.region [⟨(some 40), none, (.call 10 [])⟩,
    ⟨(some 41), none, (.op (.mv (.t 40)))⟩,
    ⟨(some 42), some (41, true), (.op (.mv (.t 13)))⟩,
    ⟨(some 43), none, (.op (.pick (.t 41) (.t 42) (.c (.b false))))⟩,
    ⟨(some 44), none, (.op (.mv (.t 43)))⟩,
    ⟨(some 45), some (44, true), (.op (.load (some 3) (.t 2)))⟩,
    ⟨(some 46), some (44, true), (.op (.build [(.i .i64 0), (.i .i64 0), (.i .i64 0)] [(0, 1, (.c (.i .i64 241))), (1, 1, (.c (.i .i64 2))), (2, 1, (.c (.i .i64 8)))]))⟩,
    ⟨(some 47), some (44, true), (.op (.eqag false [.int, .int, .int] (.t 45) (.t 46)))⟩,
    ⟨(some 48), none, (.op (.pick (.t 44) (.t 47) (.c (.b false))))⟩,
    ⟨(some 49), none, (.op (.mv (.t 48)))⟩,
    ⟨(some 50), some (49, true), (.op (.load (some 3) (.t 4)))⟩,
    ⟨(some 51), some (49, true), (.op (.build [(.i .i64 0), (.i .i64 0), (.i .i64 0)] [(0, 1, (.c (.i .i64 243))), (1, 1, (.c (.i .i64 1))), (2, 1, (.c (.i .i64 7)))]))⟩,
    ⟨(some 52), some (49, true), (.op (.eqag false [.int, .int, .int] (.t 50) (.t 51)))⟩,
    ⟨(some 53), none, (.op (.pick (.t 49) (.t 52) (.c (.b false))))⟩,
    ⟨(some 54), none, (.op (.mv (.t 53)))⟩,
    ⟨(some 55), some (54, true), (.op (.load (some 3) (.t 6)))⟩,
    ⟨(some 56), some (54, true), (.op (.build [(.i .i64 0), (.i .i64 0), (.i .i64 0)] [(0, 1, (.c (.i .i64 244))), (1, 1, (.c (.i .i64 1))), (2, 1, (.c (.i .i64 7)))]))⟩,
    ⟨(some 57), some (54, true), (.op (.eqag false [.int, .int, .int] (.t 55) (.t 56)))⟩,
    ⟨(some 58), none, (.op (.pick (.t 54) (.t 57) (.c (.b false))))⟩,
    ⟨(some 59), none, (.op (.mv (.t 58)))⟩,
    ⟨(some 60), some (59, true), (.op (.load (some 3) (.t 8)))⟩,
    ⟨(some 61), some (59, true), (.op (.build [(.i .i64 0), (.i .i64 0), (.i .i64 0)] [(0, 1, (.c (.i .i64 242))), (1, 1, (.c (.i .i64 1))), (2, 1, (.c (.i .i64 5)))]))⟩,
    ⟨(some 62), some (59, true), (.op (.eqag false [.int, .int, .int] (.t 60) (.t 61)))⟩,
    ⟨(some 63), none, (.op (.pick (.t 59) (.t 62) (.c (.b false))))⟩,
    ⟨(some 64), none, (.op (.mv (.t 63)))⟩,
    ⟨(some 65), some (64, true), (.op (.load (some 3) (.t 10)))⟩,
    ⟨(some 66), some (64, true), (.op (.build [(.i .i64 0), (.i .i64 0), (.i .i64 0)] [(0, 1, (.c (.i .i64 244))), (1, 1, (.c (.i .i64 1))), (2, 1, (.c (.i .i64 3)))]))⟩,
    ⟨(some 67), some (64, true), (.op (.eqag false [.int, .int, .int] (.t 65) (.t 66)))⟩,
    ⟨(some 68), none, (.op (.pick (.t 64) (.t 67) (.c (.b false))))⟩,
    ⟨(some 69), none, (.op (.mv (.t 68)))⟩,
    ⟨(some 70), some (69, true), (.op (.mv (.t 12)))⟩,
    ⟨(some 71), some (69, true), (.op (.bin .int true .eql (.t 70) (.c (.i .i64 245))))⟩,
    ⟨(some 72), none, (.op (.pick (.t 69) (.t 71) (.c (.b false))))⟩,
    ⟨(some 0), none, (.op (.mv (.t 72)))⟩])
   (.ret))))))))))))))))),
  []⟩


/- floodgate/floodgatelaw24.textAlive -/

def c10 : IFunc := ⟨0, [.tmp 0],
  .seq (.region [⟨(some 0), none, (.op (.mv (.c (.b false))))⟩])
   (.live [] (.seq (.region [⟨(some 4), none, (.call 13 [(.c (.s [35, 32, 111, 110, 101, 10, 32, 115, 117, 98, 32, 53, 32, 110, 101, 116, 32, 49, 48, 46, 48, 46, 48, 46, 48, 47, 56, 32, 114, 97, 116, 101, 32, 49, 107, 32, 98, 117, 114, 115, 116, 32, 50, 107, 105, 32, 115, 108, 111, 119, 114, 97, 116, 101, 32, 48, 32, 115, 108, 111, 119, 98, 117, 114, 115, 116, 32, 48, 32, 113, 117, 111, 116, 97, 32, 49, 109, 32, 108, 101, 97, 115, 101, 32, 49, 53, 48, 48, 32, 113, 117, 97, 110, 116, 117, 109, 32, 49, 53, 48, 48, 10]))])⟩,
    ⟨(some 3), none, (.op (.mv (.t 4)))⟩,
    ⟨(some 5), none, (.op (.ext (.t 3) 0))⟩,
    ⟨(some 6), none, (.op (.ext (.t 3) 1))⟩,
    ⟨(some 2), none, (.op (.fresh [(.i .i64 0), (.i .i64 0), (.i .i64 0)]))⟩,
    ⟨(some 1), none, (.op (.mv (.t 5)))⟩,
    ⟨none, none, (.op (.store 3 (.t 2) (.t 6)))⟩])
   (.live [1, 2] (.seq (.region [⟨(some 7), none, (.op (.load (some 3) (.t 2)))⟩,
    ⟨(some 8), none, (.op (.build [(.i .i64 0), (.i .i64 0), (.i .i64 0)] []))⟩,
    ⟨(some 9), none, (.op (.eqag false [.int, .int, .int] (.t 7) (.t 8)))⟩,
    ⟨(some 10), none, (.op (.mv (.t 9)))⟩,
    ⟨(some 11), some (10, true), (.op (.mv (.t 1)))⟩,
    ⟨(some 12), some (10, true), (.op (.len .slice (.t 11)))⟩,
    ⟨(some 13), some (10, true), (.op (.bin .int true .eql (.t 12) (.c (.i .i64 1))))⟩,
    ⟨(some 14), none, (.op (.pick (.t 10) (.t 13) (.c (.b false))))⟩,
    ⟨(some 15), none, (.op (.mv (.t 14)))⟩,
    ⟨(some 16), some (15, true), (.op (.mv (.t 1)))⟩,
    ⟨(some 17), some (15, true), (.op (.iaddr none 13 (.t 16) (.c (.i .i64 0))))⟩,
    ⟨(some 18), some (15, true), (.op (.faddr 0 (.t 17)))⟩,
    ⟨(some 19), some (15, true), (.op (.load none (.t 18)))⟩,
    ⟨(some 20), some (15, true), (.op (.bin .int true .eql (.t 19) (.c (.i .i64 5))))⟩,
    ⟨(some 21), none, (.op (.pick (.t 15) (.t 20) (.c (.b false))))⟩,
    ⟨(some 22), none, (.op (.mv (.t 21)))⟩,
    ⟨(some 23), some (22, true), (.op (.mv (.t 1)))⟩,
    ⟨(some 24), some (22, true), (.op (.iaddr none 13 (.t 23) (.c (.i .i64 0))))⟩,
    ⟨(some 25), some (22, true), (.op (.faddr 6 (.t 24)))⟩,
    ⟨(some 26), some (22, true), (.op (.load none (.t 25)))⟩,
    ⟨(some 27), some (22, true), (.op (.bin .int true .eql (.t 26) (.c (.i .u64 1000))))⟩,
    ⟨(some 28), none, (.op (.pick (.t 22) (.t 27) (.c (.b false))))⟩,
    ⟨(some 29), none, (.op (.mv (.t 28)))⟩,
    ⟨(some 30), some (29, true), (.op (.mv (.t 1)))⟩,
    ⟨(some 31), some (29, true), (.op (.iaddr none 13 (.t 30) (.c (.i .i64 0))))⟩,
    ⟨(some 32), some (29, true), (.op (.faddr 7 (.t 31)))⟩,
    ⟨(some 33), some (29, true), (.op (.load none (.t 32)))⟩,
    ⟨(some 34), some (29, true), (.op (.bin .int true .eql (.t 33) (.c (.i .u64 2048))))⟩,
    ⟨(some 35), none, (.op (.pick (.t 29) (.t 34) (.c (.b false))))⟩,
    ⟨(some 36), none, (.op (.mv (.t 35)))⟩,
    ⟨(some 37), some (36, true), (.op (.mv (.t 1)))⟩,
    ⟨(some 38), some (36, true), (.op (.iaddr none 13 (.t 37) (.c (.i .i64 0))))⟩,
    ⟨(some 39), some (36, true), (.op (.faddr 10 (.t 38)))⟩,
    ⟨(some 40), some (36, true), (.op (.load none (.t 39)))⟩,
    ⟨(some 41), some (36, true), (.op (.bin .int true .eql (.t 40) (.c (.i .u64 1000000))))⟩,
    ⟨(some 42), none, (.op (.pick (.t 36) (.t 41) (.c (.b false))))⟩,
    ⟨(some 43), none, (.op (.mv (.t 42)))⟩,
    ⟨(some 44), some (43, true), (.op (.mv (.t 1)))⟩,
    ⟨(some 45), some (43, true), (.op (.iaddr none 13 (.t 44) (.c (.i .i64 0))))⟩,
    ⟨(some 46), some (43, true), (.op (.load (some 13) (.t 45)))⟩,
    ⟨(some 47), some (43, true), (.call 18 [(.t 46)])⟩,
    ⟨(some 48), some (43, true), (.op (.bin .str true .eql (.t 47) (.c (.s [115, 117, 98, 32, 53, 32, 110, 101, 116, 32, 49, 48, 46, 48, 46, 48, 46, 48, 47, 56, 32, 114, 97, 116, 101, 32, 49, 48, 48, 48, 32, 98, 117, 114, 115, 116, 32, 50, 48, 52, 56, 32, 115, 108, 111, 119, 114, 97, 116, 101, 32, 48, 32, 115, 108, 111, 119, 98, 117, 114, 115, 116, 32, 48, 32, 113, 117, 111, 116, 97, 32, 49, 48, 48, 48, 48, 48, 48, 32, 108, 101, 97, 115, 101, 32, 49, 53, 48, 48, 32, 113, 117, 97, 110, 116, 117, 109, 32, 49, 53, 48, 48]))))⟩,
    ⟨(some 49), none, (.op (.pick (.t 43) (.t 48) (.c (.b false))))⟩,
    ⟨(some 0), none, (.op (.mv (.t 49)))⟩])
   (.ret))))),
  []⟩


/- floodgate/text.Number -/

def c11 : IFunc := ⟨1, [.tmp 2, .tmp 3],
  .seq (.region [⟨(some 2), none, (.op (.mv (.c (.i .u64 0))))⟩,
    ⟨(some 3), none, (.op (.mv (.c (.b false))))⟩])
   (.live [0] (.seq (.region [⟨(some 11), none, (.op (.mv (.t 0)))⟩,
    ⟨(some 12), none, (.call 24 [(.t 11)])⟩,
    ⟨(some 10), none, (.op (.mv (.t 12)))⟩,
    ⟨(some 13), none, (.op (.ext (.t 10) 0))⟩,
    ⟨(some 14), none, (.op (.ext (.t 10) 1))⟩,
    ⟨(some 4), none, (.op (.mv (.t 13)))⟩,
    ⟨(some 5), none, (.op (.mv (.t 14)))⟩])
   (.live [4, 5] (.seq (.seq (.region [⟨(some 15), none, (.op (.mv (.t 5)))⟩,
    ⟨(some 16), none, (.op (.bin .str true .eql (.t 15) (.c (.s []))))⟩,
    ⟨(some 17), none, (.op (.mv (.t 16)))⟩,
    ⟨(some 18), some (17, false), (.op (.mv (.t 5)))⟩,
    ⟨(some 19), some (17, false), (.call 25 [(.t 18), (.c (.s [48, 49, 50, 51, 52, 53, 54, 55, 56, 57]))])⟩,
    ⟨(some 20), some (17, false), (.op (.bin .str true .neq (.t 19) (.c (.s []))))⟩,
    ⟨(some 21), none, (.op (.pick (.t 17) (.c (.b true)) (.t 20)))⟩])
   (.live [4, 5, 21] (.cond (.t 21) (.seq (.region [⟨(some 2), none, (.op (.mv (.c (.i .u64 0))))⟩,
    ⟨(some 3), none, (.op (.mv (.c (.b false))))⟩])
   (.ret))
   (.skip))))
   (.live [4, 5] (.seq (.region [⟨(some 23), none, (.op (.mv (.t 5)))⟩,
    ⟨(some 24), none, (.call 26 [(.t 23), (.c (.i .i64 10)), (.c (.i .i64 64))])⟩,
    ⟨(some 22), none, (.op (.mv (.t 24)))⟩,
    ⟨(some 25), none, (.op (.ext (.t 22) 0))⟩,
    ⟨(some 26), none, (.op (.ext (.t 22) 1))⟩,
    ⟨(some 6), none, (.op (.mv (.t 25)))⟩,
    ⟨(some 7), none, (.op (.mv (.t 26)))⟩])
   (.live [7, 4, 6] (.seq (.region [⟨(some 28), none, (.op (.mv (.t 6)))⟩,
    ⟨(some 29), none, (.op (.mv (.t 4)))⟩,
    ⟨(some 30), none, (.call 27 [(.t 28), (.t 29)])⟩,
    ⟨(some 27), none, (.op (.mv (.t 30)))⟩,
    ⟨(some 31), none, (.op (.ext (.t 27) 0))⟩,
    ⟨(some 32), none, (.op (.ext (.t 27) 1))⟩,
    ⟨(some 8), none, (.op (.mv (.t 31)))⟩,
    ⟨(some 9), none, (.op (.mv (.t 32)))⟩])
   (.live [9, 8, 7] (.seq (.seq (.region [⟨(some 33), none, (.op (.mv (.t 7)))⟩,
    ⟨(some 34), none, (.op (.bin .iface true .neq (.t 33) (.c .ni)))⟩,
    ⟨(some 35), none, (.op (.mv (.t 34)))⟩,
    ⟨(some 36), some (35, false), (.op (.mv (.t 8)))⟩,
    ⟨(some 37), some (35, false), (.op (.bin .int true .neq (.t 36) (.c (.i .u64 0))))⟩,
    ⟨(some 38), none, (.op (.pick (.t 35) (.c (.b true)) (.t 37)))⟩])
   (.live [9, 38] (.cond (.t 38) (.seq (.region [⟨(some 2), none, (.op (.mv (.c (.i .u64 0))))⟩,
    ⟨(some 3), none, (.op (.mv (.c (.b false))))⟩])
   (.ret))
   (.skip))))
   (.live [9] (.seq (.region [⟨(some 39), none, (.op (.mv (.t 9)))⟩,
    ⟨(some 2), none, (.op (.mv (.t 39)))⟩,
    ⟨(some 3), none, (.op (.mv (.c (.b true))))⟩])
   (.ret))))))))))))),
  []⟩


/- floodgate/text.Parse -/
def c13l0 : ICode :=
  .seq (.region [⟨(some 15), none, (.op (.bin .int false .lss (.t 14) (.t 13)))⟩])
   (.live [3, 4, 12, 13, 14, 15] (.seq (.cond (.t 15) (.skip)
   (.exit 0))
   (.live [3, 4, 12, 13, 14] (.seq (.block 1 (.seq (.region [⟨(some 16), none, (.op (.mv (.t 14)))⟩,
    ⟨(some 17), none, (.op (.iaddr none 1 (.t 12) (.t 14)))⟩,
    ⟨(some 18), none, (.op (.load none (.t 17)))⟩,
    ⟨(some 5), none, (.op (.mv (.t 16)))⟩,
    ⟨(some 6), none, (.op (.mv (.t 18)))⟩])
   (.live [3, 4, 12, 13, 14, 5, 6] (.seq (.region [⟨(some 19), none, (.op (.mv (.t 6)))⟩,
    ⟨(some 20), none, (.call 34 [(.t 19)])⟩,
    ⟨(some 7), none, (.op (.mv (.t 20)))⟩])
   (.live [3, 4, 12, 13, 14, 5, 7] (.seq (.seq (.region [⟨(some 21), none, (.op (.mv (.t 7)))⟩,
    ⟨(some 22), none, (.op (.len .slice (.t 21)))⟩,
    ⟨(some 23), none, (.op (.bin .int true .eql (.t 22) (.c (.i .i64 0))))⟩])
   (.live [3, 4, 12, 13, 14, 5, 7, 23] (.cond (.t 23) (.exit 1)
   (.skip))))
   (.live [3, 5, 12, 13, 14, 4, 7] (.seq (.region [⟨(some 25), none, (.op (.mv (.t 7)))⟩,
    ⟨(some 26), none, (.call 35 [(.t 25)])⟩,
    ⟨(some 24), none, (.op (.mv (.t 26)))⟩,
    ⟨(some 27), none, (.op (.ext (.t 24) 0))⟩,
    ⟨(some 28), none, (.op (.ext (.t 24) 1))⟩,
    ⟨(some 29), none, (.op (.ext (.t 24) 2))⟩,
    ⟨(some 8), none, (.op (.fresh [(.i .i64 0), (.i .u8 0), (.i .u8 0), (.i .u8 0), (.i .u8 0), (.i .i64 0), (.i .u64 0), (.i .u64 0), (.i .u64 0), (.i .u64 0), (.i .u64 0), (.i .u64 0), (.i .u64 0)]))⟩,
    ⟨none, none, (.op (.store 13 (.t 8) (.t 27)))⟩,
    ⟨(some 9), none, (.op (.mv (.t 28)))⟩,
    ⟨(some 10), none, (.op (.mv (.t 29)))⟩])
   (.live [3, 10, 5, 9, 12, 13, 14, 8, 4] (.seq (.seq (.region [⟨(some 30), none, (.op (.mv (.t 9)))⟩,
    ⟨(some 31), none, (.op (.bin .int true .neq (.t 30) (.c (.i .i64 0))))⟩])
   (.live [3, 10, 5, 9, 12, 13, 14, 8, 4, 31] (.cond (.t 31) (.seq (.region [⟨(some 32), none, (.op (.mv (.t 9)))⟩,
    ⟨(some 33), none, (.op (.mv (.t 5)))⟩,
    ⟨(some 34), none, (.op (.bin .int true .add (.t 33) (.c (.i .i64 1))))⟩,
    ⟨(some 35), none, (.op (.mv (.t 10)))⟩,
    ⟨(some 36), none, (.op (.build [(.i .i64 0), (.i .i64 0), (.i .i64 0)] [(0, 1, (.t 32)), (1, 1, (.t 34)), (2, 1, (.t 35))]))⟩,
    ⟨(some 2), none, (.op (.mv (.c .sn)))⟩,
    ⟨none, none, (.op (.store 3 (.t 3) (.t 36)))⟩])
   (.ret))
   (.skip))))
   (.live [3, 12, 13, 14, 8, 4] (.region [⟨(some 37), none, (.op (.mv (.t 4)))⟩,
    ⟨(some 38), none, (.op (.load (some 13) (.t 8)))⟩,
    ⟨(some 39), none, (.op (.bslice [(.i .i64 0), (.i .u8 0), (.i .u8 0), (.i .u8 0), (.i .u8 0), (.i .i64 0), (.i .u64 0), (.i .u64 0), (.i .u64 0), (.i .u64 0), (.i .u64 0), (.i .u64 0), (.i .u64 0)] 1 [(0, 13, (.t 38))]))⟩,
    ⟨(some 40), none, (.op (.app 13 80 (.t 37) (.t 39)))⟩,
    ⟨(some 4), none, (.op (.mv (.t 40)))⟩]))))))))))))
   (.live [3, 4, 12, 13, 14] (.region [⟨(some 41), none, (.op (.bin .int true .add (.t 14) (.c (.i .i64 1))))⟩,
    ⟨(some 14), none, (.op (.mv (.t 41)))⟩]))))))
def c13 : IFunc := ⟨1, [.tmp 2, .cell 3 (some 3)],
  .seq (.region [⟨(some 2), none, (.op (.mv (.c .sn)))⟩,
    ⟨(some 3), none, (.op (.fresh [(.i .i64 0), (.i .i64 0), (.i .i64 0)]))⟩])
   (.live [3, 0] (.seq (.region [⟨(some 4), none, (.op (.mv (.c .sn)))⟩])
   (.live [3, 4, 0] (.seq (.seq (.region [⟨(some 11), none, (.op (.mv (.t 0)))⟩,
    ⟨(some 12), none, (.call 33 [(.t 11), (.c (.s [10]))])⟩,
    ⟨(some 13), none, (.op (.len .slice (.t 12)))⟩,
    ⟨(some 14), none, (.op (.mv (.c (.i .i64 0))))⟩])
   (.live [3, 4, 12, 13, 14] (.block 0 (.loop [3, 4, 12, 13, 14] c13l0))))
   (.live [3, 4] (.seq (.region [⟨(some 42), none, (.op (.mv (.t 4)))⟩,
    ⟨(some 43), none, (.call 36 [(.t 42), (.c (.f (.func 37) [] []))])⟩])
   (.live [3, 4] (.seq (.seq (.region [⟨(some 44), none, (.op (.mv (.t 4)))⟩,
    ⟨(some 45), none, (.call 39 [(.t 44)])⟩,
    ⟨(some 46), none, (.op (.bin .int true .neq (.t 45) (.c (.i .i64 0))))⟩])
   (.live [3, 4, 46] (.cond (.t 46) (.seq (.region [⟨(some 47), none, (.op (.build [(.i .i64 0), (.i .i64 0), (.i .i64 0)] [(0, 1, (.c (.i .i64 245))), (1, 1, (.c (.i .i64 1))), (2, 1, (.c (.i .i64 1)))]))⟩,
    ⟨(some 2), none, (.op (.mv (.c .sn)))⟩,
    ⟨none, none, (.op (.store 3 (.t 3) (.t 47)))⟩])
   (.ret))
   (.skip))))
   (.live [3, 4] (.seq (.region [⟨(some 48), none, (.op (.mv (.t 4)))⟩,
    ⟨(some 49), none, (.op (.build [(.i .i64 0), (.i .i64 0), (.i .i64 0)] []))⟩,
    ⟨(some 2), none, (.op (.mv (.t 48)))⟩,
    ⟨none, none, (.op (.store 3 (.t 3) (.t 49)))⟩])
   (.ret))))))))))),
  []⟩


/- floodgate/text.Print -/
def c16l0 : ICode :=
  .seq (.region [⟨(some 13), none, (.op (.bin .int false .lss (.t 12) (.t 11)))⟩])
   (.live [4, 10, 11, 12, 13] (.seq (.cond (.t 13) (.skip)
   (.exit 0))
   (.live [4, 10, 11, 12] (.seq (.block 1 (.seq (.region [⟨(some 14), none, (.op (.iaddr none 13 (.t 10) (.t 12)))⟩,
    ⟨(some 15), none, (.op (.load (some 13) (.t 14)))⟩,
    ⟨(some 6), none, (.op (.fresh [(.i .i64 0), (.i .u8 0), (.i .u8 0), (.i .u8 0), (.i .u8 0), (.i .i64 0), (.i .u64 0), (.i .u64 0), (.i .u64 0), (.i .u64 0), (.i .u64 0), (.i .u64 0), (.i .u64 0)]))⟩,
    ⟨none, none, (.op (.store 13 (.t 6) (.t 15)))⟩])
   (.live [4, 10, 11, 12, 6] (.region [⟨(some 16), none, (.op (.load (some 13) (.t 6)))⟩,
    ⟨(some 17), none, (.call 18 [(.t 16)])⟩,
    ⟨(some 18), none, (.op (.bin .str true .add (.t 17) (.c (.s [10]))))⟩,
    ⟨(some 19), none, (.call 42 [(.t 4), (.t 18)])⟩]))))
   (.live [4, 10, 11, 12] (.region [⟨(some 20), none, (.op (.bin .int true .add (.t 12) (.c (.i .i64 1))))⟩,
    ⟨(some 12), none, (.op (.mv (.t 20)))⟩]))))))
def c16 : IFunc := ⟨1, [.tmp 2, .tmp 3],
  .seq (.region [⟨(some 2), none, (.op (.mv (.c (.s []))))⟩,
    ⟨(some 3), none, (.op (.mv (.c (.i .i64 0))))⟩])
   (.live [0] (.seq (.seq (.region [⟨(some 7), none, (.op (.mv (.t 0)))⟩,
    ⟨(some 8), none, (.call 39 [(.t 7)])⟩,
    ⟨(some 9), none, (.op (.bin .int true .neq (.t 8) (.c (.i .i64 0))))⟩])
   (.live [0, 9] (.cond (.t 9) (.seq (.region [⟨(some 2), none, (.op (.mv (.c (.s []))))⟩,
    ⟨(some 3), none, (.op (.mv (.c (.i .i64 245))))⟩])
   (.ret))
   (.skip))))
   (.live [0] (.seq (.region [⟨(some 4), none, (.op (.fresh [.pn, .sn]))⟩])
   (.live [4, 0] (.seq (.seq (.region [⟨(some 10), none, (.op (.mv (.t 0)))⟩,
    ⟨(some 11), none, (.op (.len .slice (.t 10)))⟩,
    ⟨(some 12), none, (.op (.mv (.c (.i .i64 0))))⟩])
   (.live [4, 10, 11, 12] (.block 0 (.loop [4, 10, 11, 12] c16l0))))
   (.live [4] (.seq (.region [⟨(some 21), none, (.call 43 [(.t 4)])⟩,
    ⟨(some 2), none, (.op (.mv (.t 21)))⟩,
    ⟨(some 3), none, (.op (.mv (.c (.i .i64 0))))⟩])
   (.ret))))))))),
  []⟩


/- floodgate/text.Line -/
def c18d0 : List Stage :=
  [⟨[(⟨(some 9), none, (.op (.faddr 0 (.t 1)))⟩, 0), (⟨(some 10), none, (.op (.load none (.t 9)))⟩, 0), (⟨(some 12), none, (.op (.faddr 1 (.t 1)))⟩, 1), (⟨(some 13), none, (.op (.faddr 0 (.t 12)))⟩, 1), (⟨(some 14), none, (.op (.load (some 4) (.t 13)))⟩, 1), (⟨(some 17), none, (.op (.faddr 1 (.t 1)))⟩, 2), (⟨(some 18), none, (.op (.faddr 4 (.t 17)))⟩, 2), (⟨(some 19), none, (.op (.load none (.t 18)))⟩, 2)], none, some ⟨(some 11), none, (.call 44 [(.t 10)])⟩⟩,
    ⟨[], none, some ⟨(some 15), none, (.call 45 [(.t 14)])⟩⟩,
    ⟨[(⟨(some 16), none, (.op (.bin .str true .add (.t 15) (.c (.s [47]))))⟩, 3)], none, some ⟨(some 20), none, (.call 44 [(.t 19)])⟩⟩,
    ⟨[(⟨(some 21), none, (.op (.bin .str false .add (.t 16) (.t 20)))⟩, 3)], none, some ⟨(some 22), none, (.op (.bslice [(.s [])] 2 [(0, 1, (.t 11)), (1, 1, (.t 21))]))⟩⟩,
    ⟨[(⟨(some 3), none, (.op (.mv (.t 22)))⟩, 4)], none, none⟩]
def c18d0w : List (ROp × Bool) :=
  [(⟨(some 9), none, (.op (.faddr 0 (.t 1)))⟩, false), (⟨(some 10), none, (.op (.load none (.t 9)))⟩, false), (⟨(some 12), none, (.op (.faddr 1 (.t 1)))⟩, false), (⟨(some 13), none, (.op (.faddr 0 (.t 12)))⟩, false), (⟨(some 14), none, (.op (.load (some 4) (.t 13)))⟩, false), (⟨(some 17), none, (.op (.faddr 1 (.t 1)))⟩, false), (⟨(some 18), none, (.op (.faddr 4 (.t 17)))⟩, false), (⟨(some 19), none, (.op (.load none (.t 18)))⟩, false), (⟨(some 11), none, (.call 44 [(.t 10)])⟩, true), (⟨(some 15), none, (.call 45 [(.t 14)])⟩, true), (⟨(some 16), none, (.op (.bin .str true .add (.t 15) (.c (.s [47]))))⟩, false), (⟨(some 20), none, (.call 44 [(.t 19)])⟩, false), (⟨(some 21), none, (.op (.bin .str false .add (.t 16) (.t 20)))⟩, false), (⟨(some 22), none, (.op (.bslice [(.s [])] 2 [(0, 1, (.t 11)), (1, 1, (.t 21))]))⟩, false), (⟨(some 3), none, (.op (.mv (.t 22)))⟩, false)]
theorem c18d0_w {P : Program} {O : Orc} {S0 : Mem} {rd : Bool} {e : Env} {S : Mem} {d : List Nat} {Q : Kont} : W P O S0 rd (.draw c18d0 []) e S d Q = wFl O c18d0w e S (normK Q d) := W_draw' (by kernel_rfl) (by kernel_rfl)
attribute [go_sem] c18d0_w c18d0w
def c18l1 : ICode :=
  .seq (.region [⟨(some 26), none, (.op (.bin .int false .lss (.t 25) (.t 24)))⟩])
   (.live [23, 24, 25, 3, 26] (.seq (.cond (.t 26) (.skip)
   (.exit 0))
   (.live [23, 24, 25, 3] (.seq (.block 1 (.seq (.region [⟨(some 27), none, (.op (.iaddr none 1 (.t 23) (.t 25)))⟩,
    ⟨(some 28), none, (.op (.load none (.t 27)))⟩,
    ⟨(some 5), none, (.op (.mv (.t 28)))⟩])
   (.live [23, 24, 25, 5, 3] (.region [⟨(some 29), none, (.op (.mv (.t 3)))⟩,
    ⟨(some 30), none, (.op (.mv (.t 5)))⟩,
    ⟨(some 31), none, (.op (.nilck (.t 30)))⟩,
    ⟨(some 32), none, (.op (.load none (.t 31)))⟩,
    ⟨(some 33), none, (.call 47 [(.t 32), (.c (.i .i64 10))])⟩,
    ⟨(some 34), none, (.op (.bslice [(.s [])] 1 [(0, 1, (.t 33))]))⟩,
    ⟨(some 35), none, (.op (.app 1 16 (.t 29) (.t 34)))⟩,
    ⟨(some 3), none, (.op (.mv (.t 35)))⟩]))))
   (.live [23, 24, 3, 25] (.region [⟨(some 36), none, (.op (.bin .int true .add (.t 25) (.c (.i .i64 1))))⟩,
    ⟨(some 25), none, (.op (.mv (.t 36)))⟩]))))))
def c18l2 : ICode :=
  .seq (.region [⟨(some 40), none, (.op (.bin .int false .lss (.t 39) (.t 38)))⟩])
   (.live [3, 37, 38, 39, 6, 40] (.seq (.cond (.t 40) (.skip)
   (.exit 2))
   (.live [3, 37, 38, 39, 6] (.seq (.block 3 (.seq (.region [⟨(some 41), none, (.op (.mv (.t 39)))⟩,
    ⟨(some 42), none, (.op (.iaddr none 1 (.t 37) (.t 39)))⟩,
    ⟨(some 43), none, (.op (.load none (.t 42)))⟩,
    ⟨(some 7), none, (.op (.mv (.t 41)))⟩,
    ⟨(some 8), none, (.op (.mv (.t 43)))⟩])
   (.live [3, 37, 38, 39, 7, 8, 6] (.region [⟨(some 44), none, (.op (.mv (.t 6)))⟩,
    ⟨(some 45), none, (.op (.mv (.t 8)))⟩,
    ⟨(some 46), none, (.op (.mv (.t 3)))⟩,
    ⟨(some 47), none, (.op (.mv (.t 7)))⟩,
    ⟨(some 48), none, (.op (.iaddr none 1 (.t 46) (.t 47)))⟩,
    ⟨(some 49), none, (.op (.load none (.t 48)))⟩,
    ⟨(some 50), none, (.op (.bslice [(.s [])] 2 [(0, 1, (.t 45)), (1, 1, (.t 49))]))⟩,
    ⟨(some 51), none, (.op (.app 1 16 (.t 44) (.t 50)))⟩,
    ⟨(some 6), none, (.op (.mv (.t 51)))⟩]))))
   (.live [3, 37, 38, 6, 39] (.region [⟨(some 52), none, (.op (.bin .int true .add (.t 39) (.c (.i .i64 1))))⟩,
    ⟨(some 39), none, (.op (.mv (.t 52)))⟩]))))))
def c18 : IFunc := ⟨1, [.tmp 2],
  .seq (.region [⟨(some 1), none, (.op (.box (.t 0)))⟩,
    ⟨(some 2), none, (.op (.mv (.c (.s []))))⟩])
   (.live [1] (.seq (.draw c18d0 [])
   (.live [3, 1] (.seq (.seq (.region [⟨(some 23), none, (.call 46 [(.t 1)])⟩,
    ⟨(some 24), none, (.op (.len .slice (.t 23)))⟩,
    ⟨(some 25), none, (.op (.mv (.c (.i .i64 0))))⟩])
   (.live [23, 24, 25, 3] (.block 0 (.loop [23, 24, 25, 3] c18l1))))
   (.live [3] (.seq (.region [⟨(some 6), none, (.op (.mv (.c .sn)))⟩])
   (.live [3, 6] (.seq (.seq (.region [⟨(some 37), none, (.call 48 [(.c (.s [115, 117, 98, 32, 110, 101, 116, 32, 114, 97, 116, 101, 32, 98, 117, 114, 115, 116, 32, 115, 108, 111, 119, 114, 97, 116, 101, 32, 115, 108, 111, 119, 98, 117, 114, 115, 116, 32, 113, 117, 111, 116, 97, 32, 108, 101, 97, 115, 101, 32, 113, 117, 97, 110, 116, 117, 109]))])⟩,
    ⟨(some 38), none, (.op (.len .slice (.t 37)))⟩,
    ⟨(some 39), none, (.op (.mv (.c (.i .i64 0))))⟩])
   (.live [3, 37, 38, 39, 6] (.block 2 (.loop [3, 37, 38, 39, 6] c18l2))))
   (.live [6] (.seq (.region [⟨(some 53), none, (.op (.mv (.t 6)))⟩,
    ⟨(some 54), none, (.call 49 [(.t 53), (.c (.s [32]))])⟩,
    ⟨(some 2), none, (.op (.mv (.t 54)))⟩])
   (.ret))))))))))),
  []⟩


/- floodgate/text.unit -/
def c24d0 : List Stage :=
  [⟨[(⟨(some 27), none, (.op (.mv (.t 4)))⟩, 0), (⟨(some 28), none, (.op (.mv (.t 5)))⟩, 0), (⟨(some 29), none, (.op (.mv (.t 8)))⟩, 0), (⟨(some 30), none, (.op (.sls (.t 28) none (some (.t 29))))⟩, 0), (⟨(some 2), none, (.op (.mv (.t 27)))⟩, 0), (⟨(some 3), none, (.op (.mv (.t 30)))⟩, 0)], none, none⟩]
def c24d0w : List (ROp × Bool) :=
  [(⟨(some 27), none, (.op (.mv (.t 4)))⟩, false), (⟨(some 28), none, (.op (.mv (.t 5)))⟩, false), (⟨(some 29), none, (.op (.mv (.t 8)))⟩, false), (⟨(some 30), none, (.op (.sls (.t 28) none (some (.t 29))))⟩, false), (⟨(some 2), none, (.op (.mv (.t 27)))⟩, false), (⟨(some 3), none, (.op (.mv (.t 30)))⟩, false)]
theorem c24d0_w {P : Program} {O : Orc} {S0 : Mem} {rd : Bool} {e : Env} {S : Mem} {d : List Nat} {Q : Kont} : W P O S0 rd (.draw c24d0 []) e S d Q = wFl O c24d0w e S (normK Q d) := W_draw' (by kernel_rfl) (by kernel_rfl)
attribute [go_sem] c24d0_w c24d0w
def c24d1 : List Stage :=
  [⟨[(⟨(some 33), none, (.op (.mv (.t 4)))⟩, 0), (⟨(some 34), none, (.op (.mv (.t 4)))⟩, 0), (⟨(some 35), none, (.op (.bin .int false .mul (.t 33) (.t 34)))⟩, 0), (⟨(some 36), none, (.op (.mv (.t 5)))⟩, 0), (⟨(some 37), none, (.op (.mv (.t 8)))⟩, 0), (⟨(some 38), none, (.op (.sls (.t 36) none (some (.t 37))))⟩, 0), (⟨(some 2), none, (.op (.mv (.t 35)))⟩, 0), (⟨(some 3), none, (.op (.mv (.t 38)))⟩, 0)], none, none⟩]
def c24d1w : List (ROp × Bool) :=
  [(⟨(some 33), none, (.op (.mv (.t 4)))⟩, false), (⟨(some 34), none, (.op (.mv (.t 4)))⟩, false), (⟨(some 35), none, (.op (.bin .int false .mul (.t 33) (.t 34)))⟩, false), (⟨(some 36), none, (.op (.mv (.t 5)))⟩, false), (⟨(some 37), none, (.op (.mv (.t 8)))⟩, false), (⟨(some 38), none, (.op (.sls (.t 36) none (some (.t 37))))⟩, false), (⟨(some 2), none, (.op (.mv (.t 35)))⟩, false), (⟨(some 3), none, (.op (.mv (.t 38)))⟩, false)]
theorem c24d1_w {P : Program} {O : Orc} {S0 : Mem} {rd : Bool} {e : Env} {S : Mem} {d : List Nat} {Q : Kont} : W P O S0 rd (.draw c24d1 []) e S d Q = wFl O c24d1w e S (normK Q d) := W_draw' (by kernel_rfl) (by kernel_rfl)
attribute [go_sem] c24d1_w c24d1w
def c24d2 : List Stage :=
  [⟨[(⟨(some 41), none, (.op (.mv (.t 4)))⟩, 0), (⟨(some 42), none, (.op (.mv (.t 4)))⟩, 0), (⟨(some 43), none, (.op (.bin .int false .mul (.t 41) (.t 42)))⟩, 0), (⟨(some 44), none, (.op (.mv (.t 4)))⟩, 0), (⟨(some 45), none, (.op (.bin .int false .mul (.t 43) (.t 44)))⟩, 0), (⟨(some 46), none, (.op (.mv (.t 5)))⟩, 0), (⟨(some 47), none, (.op (.mv (.t 8)))⟩, 0), (⟨(some 48), none, (.op (.sls (.t 46) none (some (.t 47))))⟩, 0), (⟨(some 2), none, (.op (.mv (.t 45)))⟩, 0), (⟨(some 3), none, (.op (.mv (.t 48)))⟩, 0)], none, none⟩]
def c24d2w : List (ROp × Bool) :=
  [(⟨(some 41), none, (.op (.mv (.t 4)))⟩, false), (⟨(some 42), none, (.op (.mv (.t 4)))⟩, false), (⟨(some 43), none, (.op (.bin .int false .mul (.t 41) (.t 42)))⟩, false), (⟨(some 44), none, (.op (.mv (.t 4)))⟩, false), (⟨(some 45), none, (.op (.bin .int false .mul (.t 43) (.t 44)))⟩, false), (⟨(some 46), none, (.op (.mv (.t 5)))⟩, false), (⟨(some 47), none, (.op (.mv (.t 8)))⟩, false), (⟨(some 48), none, (.op (.sls (.t 46) none (some (.t 47))))⟩, false), (⟨(some 2), none, (.op (.mv (.t 45)))⟩, false), (⟨(some 3), none, (.op (.mv (.t 48)))⟩, false)]
theorem c24d2_w {P : Program} {O : Orc} {S0 : Mem} {rd : Bool} {e : Env} {S : Mem} {d : List Nat} {Q : Kont} : W P O S0 rd (.draw c24d2 []) e S d Q = wFl O c24d2w e S (normK Q d) := W_draw' (by kernel_rfl) (by kernel_rfl)
attribute [go_sem] c24d2_w c24d2w
def c24 : IFunc := ⟨1, [.tmp 2, .tmp 3],
  .seq (.region [⟨(some 2), none, (.op (.mv (.c (.i .u64 0))))⟩,
    ⟨(some 3), none, (.op (.mv (.c (.s []))))⟩])
   (.live [0] (.seq (.region [⟨(some 4), none, (.op (.mv (.c (.i .u64 1000))))⟩])
   (.live [0, 4] (.seq (.region [⟨(some 9), none, (.op (.mv (.t 0)))⟩,
    ⟨(some 5), none, (.op (.mv (.t 9)))⟩])
   (.live [0, 4, 5] (.seq (.seq (.region [⟨(some 11), none, (.op (.mv (.t 0)))⟩,
    ⟨(some 12), none, (.call 55 [(.t 11), (.c (.s [105]))])⟩,
    ⟨(some 10), none, (.op (.mv (.t 12)))⟩,
    ⟨(some 13), none, (.op (.ext (.t 10) 0))⟩,
    ⟨(some 14), none, (.op (.ext (.t 10) 1))⟩,
    ⟨(some 6), none, (.op (.mv (.t 13)))⟩,
    ⟨(some 7), none, (.op (.mv (.t 14)))⟩])
   (.live [0, 6, 4, 5, 7] (.seq (.region [⟨(some 15), none, (.op (.mv (.t 7)))⟩])
   (.live [0, 6, 4, 5, 15] (.cond (.t 15) (.region [⟨(some 16), none, (.op (.mv (.t 6)))⟩,
    ⟨(some 4), none, (.op (.mv (.c (.i .u64 1024))))⟩,
    ⟨(some 5), none, (.op (.mv (.t 16)))⟩])
   (.skip))))))
   (.live [4, 5, 0] (.seq (.seq (.region [⟨(some 17), none, (.op (.mv (.t 5)))⟩,
    ⟨(some 18), none, (.op (.len .str (.t 17)))⟩,
    ⟨(some 19), none, (.op (.bin .int true .sub (.t 18) (.c (.i .i64 1))))⟩,
    ⟨(some 8), none, (.op (.mv (.t 19)))⟩])
   (.live [4, 5, 8, 0] (.seq (.region [⟨(some 20), none, (.op (.mv (.t 8)))⟩,
    ⟨(some 21), none, (.op (.bin .int true .geq (.t 20) (.c (.i .i64 0))))⟩])
   (.live [4, 5, 8, 0, 21] (.cond (.t 21) (.seq (.region [⟨(some 22), none, (.op (.mv (.t 5)))⟩,
    ⟨(some 23), none, (.op (.mv (.t 8)))⟩,
    ⟨(some 24), none, (.op (.ixs (.t 22) (.t 23)))⟩])
   (.live [4, 5, 8, 0, 24] (.block 0 (.seq (.region [⟨(some 26), none, (.op (.bin .int true .eql (.t 24) (.c (.i .u8 107))))⟩,
    ⟨(some 25), none, (.op (.mv (.t 26)))⟩])
   (.live [4, 5, 8, 0, 24, 25] (.cond (.t 25) (.seq (.draw c24d0 [])
   (.ret))
   (.seq (.region [⟨(some 32), none, (.op (.bin .int true .eql (.t 24) (.c (.i .u8 109))))⟩,
    ⟨(some 31), none, (.op (.mv (.t 32)))⟩])
   (.live [4, 5, 8, 0, 24, 31] (.cond (.t 31) (.seq (.draw c24d1 [])
   (.ret))
   (.seq (.region [⟨(some 40), none, (.op (.bin .int true .eql (.t 24) (.c (.i .u8 103))))⟩,
    ⟨(some 39), none, (.op (.mv (.t 40)))⟩])
   (.live [4, 5, 8, 0, 39] (.cond (.t 39) (.seq (.draw c24d2 [])
   (.ret))
   (.skip)))))))))))))
   (.skip))))))
   (.live [0] (.seq (.region [⟨(some 49), none, (.op (.mv (.t 0)))⟩,
    ⟨(some 2), none, (.op (.mv (.c (.i .u64 1))))⟩,
    ⟨(some 3), none, (.op (.mv (.t 49)))⟩])
   (.ret))))))))))),
  []⟩


/- strings.Trim -/
def c25d0 : List Stage :=
  [⟨[(⟨(some 22), none, (.op (.mv (.t 0)))⟩, 0), (⟨(some 23), none, (.op (.mv (.t 1)))⟩, 0), (⟨(some 24), none, (.op (.ixs (.t 23) (.c (.i .i64 0))))⟩, 0), (⟨(some 26), none, (.op (.mv (.t 1)))⟩, 1), (⟨(some 27), none, (.op (.ixs (.t 26) (.c (.i .i64 0))))⟩, 1)], none, some ⟨(some 25), none, (.call 57 [(.t 22), (.t 24)])⟩⟩,
    ⟨[], none, some ⟨(some 28), none, (.call 56 [(.t 25), (.t 27)])⟩⟩,
    ⟨[(⟨(some 4), none, (.op (.mv (.t 28)))⟩, 2)], none, none⟩]
def c25d0w : List (ROp × Bool) :=
  [(⟨(some 22), none, (.op (.mv (.t 0)))⟩, false), (⟨(some 23), none, (.op (.mv (.t 1)))⟩, false), (⟨(some 24), none, (.op (.ixs (.t 23) (.c (.i .i64 0))))⟩, false), (⟨(some 26), none, (.op (.mv (.t 1)))⟩, false), (⟨(some 27), none, (.op (.ixs (.t 26) (.c (.i .i64 0))))⟩, false), (⟨(some 25), none, (.call 57 [(.t 22), (.t 24)])⟩, false), (⟨(some 28), none, (.call 56 [(.t 25), (.t 27)])⟩, false), (⟨(some 4), none, (.op (.mv (.t 28)))⟩, false)]
theorem c25d0_w {P : Program} {O : Orc} {S0 : Mem} {rd : Bool} {e : Env} {S : Mem} {d : List Nat} {Q : Kont} : W P O S0 rd (.draw c25d0 []) e S d Q = wFl O c25d0w e S (normK Q d) := W_draw' (by kernel_rfl) (by kernel_rfl)
attribute [go_sem] c25d0_w c25d0w
def c25 : IFunc := ⟨2, [.tmp 4],
  .seq (.region [⟨(some 4), none, (.op (.mv (.c (.s []))))⟩])
   (.live [0, 1] (.seq (.seq (.region [⟨(some 7), none, (.op (.mv (.t 0)))⟩,
    ⟨(some 8), none, (.op (.bin .str true .eql (.t 7) (.c (.s []))))⟩,
    ⟨(some 9), none, (.op (.mv (.t 8)))⟩,
    ⟨(some 10), some (9, false), (.op (.mv (.t 1)))⟩,
    ⟨(some 11), some (9, false), (.op (.bin .str true .eql (.t 10) (.c (.s []))))⟩,
    ⟨(some 12), none, (.op (.pick (.t 9) (.c (.b true)) (.t 11)))⟩])
   (.live [0, 1, 12] (.cond (.t 12) (.seq (.region [⟨(some 13), none, (.op (.mv (.t 0)))⟩,
    ⟨(some 4), none, (.op (.mv (.t 13)))⟩])
   (.ret))
   (.skip))))
   (.live [0, 1] (.seq (.seq (.region [⟨(some 14), none, (.op (.mv (.t 1)))⟩,
    ⟨(some 15), none, (.op (.len .str (.t 14)))⟩,
    ⟨(some 16), none, (.op (.bin .int true .eql (.t 15) (.c (.i .i64 1))))⟩,
    ⟨(some 17), none, (.op (.mv (.t 16)))⟩,
    ⟨(some 18), some (17, true), (.op (.mv (.t 1)))⟩,
    ⟨(some 19), some (17, true), (.op (.ixs (.t 18) (.c (.i .i64 0))))⟩,
    ⟨(some 20), some (17, true), (.op (.bin .int true .lss (.t 19) (.c (.i .u8 128))))⟩,
    ⟨(some 21), none, (.op (.pick (.t 17) (.t 20) (.c (.b false))))⟩])
   (.live [0, 1, 21] (.cond (.t 21) (.seq (.draw c25d0 [])
   (.ret))
   (.skip))))
   (.live [0, 1] (.seq (.seq (.region [⟨(some 30), none, (.op (.mv (.t 1)))⟩,
    ⟨(some 31), none, (.call 58 [(.t 30)])⟩,
    ⟨(some 29), none, (.op (.mv (.t 31)))⟩,
    ⟨(some 32), none, (.op (.ext (.t 29) 0))⟩,
    ⟨(some 33), none, (.op (.ext (.t 29) 1))⟩,
    ⟨(some 5), none, (.op (.fresh [(.b false), (.b false), (.b false), (.b false), (.b false), (.b false), (.b false), (.b false), (.b false), (.b false), (.b false), (.b false), (.b false), (.b false), (.b false), (.b false), (.b false), (.b false), (.b false), (.b false), (.b false), (.b false), (.b false), (.b false), (.b false), (.b false), (.b false), (.b false), (.b false), (.b false), (.b false), (.b false), (.b false), (.b false), (.b false), (.b false), (.b false), (.b false), (.b false), (.b false), (.b false), (.b false), (.b false), (.b false), (.b false), (.b false), (.b false), (.b false), (.b false), (.b false), (.b false), (.b false), (.b false), (.b false), (.b false), (.b false), (.b false), (.b false), (.b false), (.b false), (.b false), (.b false), (.b false), (.b false), (.b false), (.b false), (.b false), (.b false), (.b false), (.b false), (.b false), (.b false), (.b false), (.b false), (.b false), (.b false), (.b false), (.b false), (.b false), (.b false), (.b false), (.b false), (.b false), (.b false), (.b false), (.b false), (.b false), (.b false), (.b false), (.b false), (.b false), (.b false), (.b false), (.b false), (.b false), (.b false), (.b false), (.b false), (.b false), (.b false), (.b false), (.b false), (.b false), (.b false), (.b false), (.b false), (.b false), (.b false), (.b false), (.b false), (.b false), (.b false), (.b false), (.b false), (.b false), (.b false), (.b false), (.b false), (.b false), (.b false), (.b false), (.b false), (.b false), (.b false), (.b false), (.b false), (.b false), (.b false), (.b false), (.b false), (.b false), (.b false), (.b false), (.b false), (.b false), (.b false), (.b false), (.b false), (.b false), (.b false), (.b false), (.b false), (.b false), (.b false), (.b false), (.b false), (.b false), (.b false), (.b false), (.b false), (.b false), (.b false), (.b false), (.b false), (.b false), (.b false), (.b false), (.b false), (.b false), (.b false), (.b false), (.b false), (.b false), (.b false), (.b false), (.b false), (.b false), (.b false), (.b false), (.b false), (.b false), (.b false), (.b false), (.b false), (.b false), (.b false), (.b false), (.b false), (.b false), (.b false), (.b false), (.b false), (.b false), (.b false), (.b false), (.b false), (.b false), (.b false), (.b false), (.b false), (.b false), (.b false), (.b false), (.b false), (.b false), (.b false), (.b false), (.b false), (.b false), (.b false), (.b false), (.b false), (.b false), (.b false), (.b false), (.b false), (.b false), (.b false), (.b false), (.b false), (.b false), (.b false), (.b false), (.b false), (.b false), (.b false), (.b false), (.b false), (.b false), (.b false), (.b false), (.b false), (.b false), (.b false), (.b false), (.b false), (.b false), (.b false), (.b false), (.b false), (.b false), (.b false), (.b false), (.b false), (.b false), (.b false), (.b false), (.b false), (.b false), (.b false), (.b false), (.b false), (.b false), (.b false), (.b false), (.b false), (.b false), (.b false), (.b false), (.b false), (.b false), (.b false), (.b false), (.b false), (.b false), (.b false)]))⟩,
    ⟨none, none, (.op (.store 256 (.t 5) (.t 32)))⟩,
    ⟨(some 6), none, (.op (.mv (.t 33)))⟩])
   (.live [5, 0, 1, 6] (.seq (.region [⟨(some 34), none, (.op (.mv (.t 6)))⟩])
   (.live [5, 0, 1, 34] (.cond (.t 34) (.seq (.region [⟨(some 35), none, (.op (.mv (.t 0)))⟩,
    ⟨(some 36), none, (.call 60 [(.t 35), (.t 5)])⟩,
    ⟨(some 37), none, (.call 59 [(.t 36), (.t 5)])⟩,
    ⟨(some 4), none, (.op (.mv (.t 37)))⟩])
   (.ret))
   (.skip))))))
   (.live [1, 0] (.seq (.region [⟨(some 38), none, (.op (.mv (.t 0)))⟩,
    ⟨(some 39), none, (.op (.mv (.t 1)))⟩,
    ⟨(some 40), none, (.call 62 [(.t 38), (.t 39)])⟩,
    ⟨(some 41), none, (.op (.mv (.t 1)))⟩,
    ⟨(some 42), none, (.call 61 [(.t 40), (.t 41)])⟩,
    ⟨(some 4), none, (.op (.mv (.t 42)))⟩])
   (.ret))))))))),
  []⟩


/- strconv.ParseUint -/

def c26 : IFunc := ⟨3, [.tmp 6, .tmp 7],
  .seq (.region [⟨(some 6), none, (.op (.mv (.c (.i .u64 0))))⟩,
    ⟨(some 7), none, (.op (.mv (.c .ni)))⟩])
   (.live [2, 1, 0] (.seq (.region [⟨(some 11), none, (.op (.mv (.t 0)))⟩,
    ⟨(some 12), none, (.op (.mv (.t 1)))⟩,
    ⟨(some 13), none, (.op (.mv (.t 2)))⟩,
    ⟨(some 14), none, (.call 63 [(.t 11), (.t 12), (.t 13)])⟩,
    ⟨(some 10), none, (.op (.mv (.t 14)))⟩,
    ⟨(some 15), none, (.op (.ext (.t 10) 0))⟩,
    ⟨(some 16), none, (.op (.ext (.t 10) 1))⟩,
    ⟨(some 8), none, (.op (.mv (.t 15)))⟩,
    ⟨(some 9), none, (.op (.mv (.t 16)))⟩])
   (.live [9, 2, 1, 0, 8] (.seq (.seq (.region [⟨(some 17), none, (.op (.mv (.t 9)))⟩,
    ⟨(some 18), none, (.op (.bin .iface true .neq (.t 17) (.c .ni)))⟩])
   (.live [9, 2, 1, 0, 8, 18] (.cond (.t 18) (.seq (.region [⟨(some 19), none, (.op (.mv (.t 8)))⟩,
    ⟨(some 20), none, (.op (.mv (.t 0)))⟩,
    ⟨(some 21), none, (.op (.mv (.t 1)))⟩,
    ⟨(some 22), none, (.op (.mv (.t 2)))⟩,
    ⟨(some 23), none, (.op (.mv (.t 9)))⟩,
    ⟨(some 24), none, (.call 64 [(.c (.s [80, 97, 114, 115, 101, 85, 105, 110, 116])), (.t 20), (.t 21), (.t 22), (.t 23)])⟩,
    ⟨(some 6), none, (.op (.mv (.t 19)))⟩,
    ⟨(some 7), none, (.op (.mv (.t 24)))⟩])
   (.ret))
   (.skip))))
   (.live [8] (.seq (.region [⟨(some 25), none, (.op (.mv (.t 8)))⟩,
    ⟨(some 6), none, (.op (.mv (.t 25)))⟩,
    ⟨(some 7), none, (.op (.mv (.c .ni)))⟩])
   (.ret))))))),
  []⟩


/- math/bits.Mul64 -/

def c27 : IFunc := ⟨2, [.tmp 4, .tmp 5],
  .seq (.region [⟨(some 4), none, (.op (.mv (.c (.i .u64 0))))⟩,
    ⟨(some 5), none, (.op (.mv (.c (.i .u64 0))))⟩])
   (.live [1, 0] (.seq (.region [⟨(some 14), none, (.op (.mv (.t 0)))⟩,
    ⟨(some 15), none, (.op (.bin .int true .and (.t 14) (.c (.i .u64 4294967295))))⟩,
    ⟨(some 6), none, (.op (.mv (.t 15)))⟩])
   (.live [1, 0, 6] (.seq (.region [⟨(some 16), none, (.op (.mv (.t 0)))⟩,
    ⟨(some 17), none, (.op (.bin .int true .shr (.t 16) (.c (.i .u64 32))))⟩,
    ⟨(some 7), none, (.op (.mv (.t 17)))⟩])
   (.live [1, 0, 7, 6] (.seq (.region [⟨(some 18), none, (.op (.mv (.t 1)))⟩,
    ⟨(some 19), none, (.op (.bin .int true .and (.t 18) (.c (.i .u64 4294967295))))⟩,
    ⟨(some 8), none, (.op (.mv (.t 19)))⟩])
   (.live [1, 0, 7, 6, 8] (.seq (.region [⟨(some 20), none, (.op (.mv (.t 1)))⟩,
    ⟨(some 21), none, (.op (.bin .int true .shr (.t 20) (.c (.i .u64 32))))⟩,
    ⟨(some 9), none, (.op (.mv (.t 21)))⟩])
   (.live [1, 0, 9, 7, 6, 8] (.seq (.region [⟨(some 22), none, (.op (.mv (.t 6)))⟩,
    ⟨(some 23), none, (.op (.mv (.t 8)))⟩,
    ⟨(some 24), none, (.op (.bin .int false .mul (.t 22) (.t 23)))⟩,
    ⟨(some 10), none, (.op (.mv (.t 24)))⟩])
   (.live [1, 0, 9, 7, 6, 10, 8] (.seq (.region [⟨(some 25), none, (.op (.mv (.t 7)))⟩,
    ⟨(some 26), none, (.op (.mv (.t 8)))⟩,
    ⟨(some 27), none, (.op (.bin .int false .mul (.t 25) (.t 26)))⟩,
    ⟨(some 28), none, (.op (.mv (.t 10)))⟩,
    ⟨(some 29), none, (.op (.bin .int true .shr (.t 28) (.c (.i .u64 32))))⟩,
    ⟨(some 30), none, (.op (.bin .int false .add (.t 27) (.t 29)))⟩,
    ⟨(some 11), none, (.op (.mv (.t 30)))⟩])
   (.live [1, 0, 9, 7, 6, 11] (.seq (.region [⟨(some 31), none, (.op (.mv (.t 11)))⟩,
    ⟨(some 32), none, (.op (.bin .int true .and (.t 31) (.c (.i .u64 4294967295))))⟩,
    ⟨(some 12), none, (.op (.mv (.t 32)))⟩])
   (.live [1, 0, 9, 7, 6, 12, 11] (.seq (.region [⟨(some 33), none, (.op (.mv (.t 11)))⟩,
    ⟨(some 34), none, (.op (.bin .int true .shr (.t 33) (.c (.i .u64 32))))⟩,
    ⟨(some 13), none, (.op (.mv (.t 34)))⟩])
   (.live [1, 0, 13, 9, 7, 6, 12] (.seq (.region [⟨(some 35), none, (.op (.mv (.t 12)))⟩,
    ⟨(some 36), none, (.op (.mv (.t 6)))⟩,
    ⟨(some 37), none, (.op (.mv (.t 9)))⟩,
    ⟨(some 38), none, (.op (.bin .int false .mul (.t 36) (.t 37)))⟩,
    ⟨(some 39), none, (.op (.bin .int false .add (.t 35) (.t 38)))⟩,
    ⟨(some 12), none, (.op (.mv (.t 39)))⟩])
   (.live [1, 0, 12, 13, 9, 7] (.seq (.region [⟨(some 40), none, (.op (.mv (.t 7)))⟩,
    ⟨(some 41), none, (.op (.mv (.t 9)))⟩,
    ⟨(some 42), none, (.op (.bin .int false .mul (.t 40) (.t 41)))⟩,
    ⟨(some 43), none, (.op (.mv (.t 13)))⟩,
    ⟨(some 44), none, (.op (.bin .int false .add (.t 42) (.t 43)))⟩,
    ⟨(some 45), none, (.op (.mv (.t 12)))⟩,
    ⟨(some 46), none, (.op (.bin .int true .shr (.t 45) (.c (.i .u64 32))))⟩,
    ⟨(some 47), none, (.op (.bin .int false .add (.t 44) (.t 46)))⟩,
    ⟨(some 4), none, (.op (.mv (.t 47)))⟩])
   (.live [4, 1, 0] (.seq (.region [⟨(some 48), none, (.op (.mv (.t 0)))⟩,
    ⟨(some 49), none, (.op (.mv (.t 1)))⟩,
    ⟨(some 50), none, (.op (.bin .int false .mul (.t 48) (.t 49)))⟩,
    ⟨(some 5), none, (.op (.mv (.t 50)))⟩])
   (.ret))))))))))))))))))))))),
  []⟩


/- strings.Split -/

def c33 : IFunc := ⟨2, [.tmp 4],
  .seq (.region [⟨(some 4), none, (.op (.mv (.c .sn)))⟩])
   (.live [1, 0] (.seq (.region [⟨(some 5), none, (.op (.mv (.t 0)))⟩,
    ⟨(some 6), none, (.op (.mv (.t 1)))⟩,
    ⟨(some 7), none, (.call 65 [(.t 5), (.t 6), (.c (.i .i64 0)), (.c (.i .i64 (-1)))])⟩,
    ⟨(some 4), none, (.op (.mv (.t 7)))⟩])
   (.ret))),
  []⟩


/- floodgate/text.words -/
def c34l0 : ICode :=
  .seq (.seq (.region [⟨(some 13), none, (.op (.mv (.t 5)))⟩,
    ⟨(some 14), none, (.op (.mv (.t 0)))⟩,
    ⟨(some 15), none, (.op (.len .str (.t 14)))⟩,
    ⟨(some 16), none, (.op (.bin .int false .leq (.t 13) (.t 15)))⟩])
   (.live [0, 3, 5, 4, 16] (.cond (.t 16) (.skip)
   (.exit 0))))
   (.live [0, 3, 5, 4] (.seq (.block 1 (.seq (.region [⟨(some 19), none, (.op (.mv (.t 5)))⟩,
    ⟨(some 20), none, (.op (.mv (.t 0)))⟩,
    ⟨(some 21), none, (.op (.len .str (.t 20)))⟩,
    ⟨(some 22), none, (.op (.bin .int false .lss (.t 19) (.t 21)))⟩,
    ⟨(some 23), none, (.op (.mv (.t 22)))⟩,
    ⟨(some 24), some (23, true), (.op (.mv (.t 0)))⟩,
    ⟨(some 25), some (23, true), (.op (.mv (.t 5)))⟩,
    ⟨(some 26), some (23, true), (.op (.ixs (.t 24) (.t 25)))⟩,
    ⟨(some 27), some (23, true), (.call 67 [(.t 26)])⟩,
    ⟨(some 28), some (23, true), (.op (.un .not (.t 27)))⟩,
    ⟨(some 29), none, (.op (.pick (.t 23) (.t 28) (.c (.b false))))⟩,
    ⟨(some 6), none, (.op (.mv (.t 29)))⟩])
   (.live [0, 3, 5, 4, 6] (.block 2 (.seq (.region [⟨(some 31), none, (.op (.mv (.t 6)))⟩,
    ⟨(some 32), none, (.op (.mv (.t 31)))⟩,
    ⟨(some 33), some (32, true), (.op (.mv (.t 4)))⟩,
    ⟨(some 34), some (32, true), (.op (.bin .int true .lss (.t 33) (.c (.i .i64 0))))⟩,
    ⟨(some 35), none, (.op (.pick (.t 32) (.t 34) (.c (.b false))))⟩,
    ⟨(some 30), none, (.op (.mv (.t 35)))⟩])
   (.live [0, 3, 5, 4, 6, 30] (.cond (.t 30) (.region [⟨(some 36), none, (.op (.mv (.t 5)))⟩,
    ⟨(some 4), none, (.op (.mv (.t 36)))⟩])
   (.seq (.region [⟨(some 38), none, (.op (.mv (.t 6)))⟩,
    ⟨(some 39), none, (.op (.un .not (.t 38)))⟩,
    ⟨(some 40), none, (.op (.mv (.t 39)))⟩,
    ⟨(some 41), some (40, true), (.op (.mv (.t 4)))⟩,
    ⟨(some 42), some (40, true), (.op (.bin .int true .geq (.t 41) (.c (.i .i64 0))))⟩,
    ⟨(some 43), none, (.op (.pick (.t 40) (.t 42) (.c (.b false))))⟩,
    ⟨(some 37), none, (.op (.mv (.t 43)))⟩])
   (.live [0, 5, 4, 3, 37] (.cond (.t 37) (.seq (.region [⟨(some 44), none, (.op (.mv (.t 3)))⟩,
    ⟨(some 45), none, (.op (.mv (.t 0)))⟩,
    ⟨(some 46), none, (.op (.mv (.t 4)))⟩,
    ⟨(some 47), none, (.op (.mv (.t 5)))⟩,
    ⟨(some 48), none, (.op (.sls (.t 45) (some (.t 46)) (some (.t 47))))⟩,
    ⟨(some 49), none, (.op (.mv (.t 4)))⟩,
    ⟨(some 50), none, (.op (.bin .int true .add (.t 49) (.c (.i .i64 1))))⟩,
    ⟨(some 51), none, (.op (.build [(.s []), (.i .i64 0)] [(0, 1, (.t 48)), (1, 1, (.t 50))]))⟩,
    ⟨(some 52), none, (.op (.bslice [(.s []), (.i .i64 0)] 1 [(0, 2, (.t 51))]))⟩,
    ⟨(some 53), none, (.op (.app 2 24 (.t 44) (.t 52)))⟩,
    ⟨(some 3), none, (.op (.mv (.t 53)))⟩])
   (.region [⟨(some 4), none, (.op (.mv (.c (.i .i64 (-1)))))⟩]))
   (.skip)))))))))))
   (.live [0, 3, 4, 5] (.region [⟨(some 17), none, (.op (.mv (.t 5)))⟩,
    ⟨(some 18), none, (.op (.bin .int true .add (.t 17) (.c (.i .i64 1))))⟩,
    ⟨(some 5), none, (.op (.mv (.t 18)))⟩]))))
def c34 : IFunc := ⟨1, [.tmp 2],
  .seq (.region [⟨(some 2), none, (.op (.mv (.c .sn)))⟩])
   (.live [0] (.seq (.region [⟨(some 8), none, (.op (.mv (.t 0)))⟩,
    ⟨(some 9), none, (.call 66 [(.t 8), (.c (.s [35]))])⟩,
    ⟨(some 7), none, (.op (.mv (.t 9)))⟩,
    ⟨(some 10), none, (.op (.ext (.t 7) 0))⟩,
    ⟨(some 11), none, (.op (.ext (.t 7) 1))⟩,
    ⟨(some 12), none, (.op (.ext (.t 7) 2))⟩,
    ⟨(some 0), none, (.op (.mv (.t 10)))⟩])
   (.live [0] (.seq (.region [⟨(some 3), none, (.op (.mv (.c .sn)))⟩])
   (.live [0, 3] (.seq (.region [⟨(some 4), none, (.op (.mv (.c (.i .i64 (-1)))))⟩])
   (.live [0, 3, 4] (.seq (.seq (.region [⟨(some 5), none, (.op (.mv (.c (.i .i64 0))))⟩])
   (.live [0, 3, 5, 4] (.block 0 (.loop [0, 3, 5, 4] c34l0))))
   (.live [3] (.seq (.region [⟨(some 54), none, (.op (.mv (.t 3)))⟩,
    ⟨(some 2), none, (.op (.mv (.t 54)))⟩])
   (.ret))))))))))),
  []⟩


/- floodgate/text.one -/
def c35d0 : List Stage :=
  [⟨[(⟨(some 27), none, (.op (.load (some 13) (.t 5)))⟩, 0), (⟨(some 28), none, (.op (.mv (.t 0)))⟩, 1), (⟨(some 29), none, (.op (.mv (.t 8)))⟩, 1), (⟨(some 30), none, (.op (.iaddr none 2 (.t 28) (.t 29)))⟩, 1), (⟨(some 31), none, (.op (.faddr 1 (.t 30)))⟩, 1), (⟨(some 32), none, (.op (.load none (.t 31)))⟩, 1)], none, some ⟨none, none, (.op (.store 13 (.t 2) (.t 27)))⟩⟩,
    ⟨[(⟨(some 3), none, (.op (.mv (.c (.i .i64 241))))⟩, 1), (⟨(some 4), none, (.op (.mv (.t 32)))⟩, 1)], none, none⟩]
theorem c35d0_e {P : Program} {O : Orc} {S0 : Mem} {rd : Bool} {e : Env} {S : Mem} {d : List Nat} {Q : Kont} : W P O S0 rd (.draw c35d0 []) e S d Q = drawK (evDraw O c35d0 [] e S) (normK Q d) := W_drawE (by kernel_rfl)
attribute [go_sem] c35d0_e
def c35d1 : List Stage :=
  [⟨[(⟨(some 37), none, (.op (.load (some 13) (.t 5)))⟩, 0), (⟨(some 38), none, (.op (.mv (.t 0)))⟩, 1), (⟨(some 39), none, (.op (.mv (.t 8)))⟩, 1), (⟨(some 40), none, (.op (.iaddr none 2 (.t 38) (.t 39)))⟩, 1), (⟨(some 41), none, (.op (.faddr 1 (.t 40)))⟩, 1), (⟨(some 42), none, (.op (.load none (.t 41)))⟩, 1)], none, some ⟨none, none, (.op (.store 13 (.t 2) (.t 37)))⟩⟩,
    ⟨[(⟨(some 3), none, (.op (.mv (.c (.i .i64 243))))⟩, 1), (⟨(some 4), none, (.op (.mv (.t 42)))⟩, 1)], none, none⟩]
theorem c35d1_e {P : Program} {O : Orc} {S0 : Mem} {rd : Bool} {e : Env} {S : Mem} {d : List Nat} {Q : Kont} : W P O S0 rd (.draw c35d1 []) e S d Q = drawK (evDraw O c35d1 [] e S) (normK Q d) := W_drawE (by kernel_rfl)
attribute [go_sem] c35d1_e
def c35d2 : List Stage :=
  [⟨[(⟨(some 49), none, (.op (.load (some 13) (.t 5)))⟩, 0), (⟨(some 50), none, (.op (.mv (.t 0)))⟩, 1), (⟨(some 51), none, (.op (.mv (.t 8)))⟩, 1), (⟨(some 52), none, (.op (.iaddr none 2 (.t 50) (.t 51)))⟩, 1), (⟨(some 53), none, (.op (.faddr 1 (.t 52)))⟩, 1), (⟨(some 54), none, (.op (.load none (.t 53)))⟩, 1)], none, some ⟨none, none, (.op (.store 13 (.t 2) (.t 49)))⟩⟩,
    ⟨[(⟨(some 3), none, (.op (.mv (.c (.i .i64 244))))⟩, 1), (⟨(some 4), none, (.op (.mv (.t 54)))⟩, 1)], none, none⟩]
theorem c35d2_e {P : Program} {O : Orc} {S0 : Mem} {rd : Bool} {e : Env} {S : Mem} {d : List Nat} {Q : Kont} : W P O S0 rd (.draw c35d2 []) e S d Q = drawK (evDraw O c35d2 [] e S) (normK Q d) := W_drawE (by kernel_rfl)
attribute [go_sem] c35d2_e
def c35d3 : List Stage :=
  [⟨[(⟨(some 65), none, (.op (.load (some 13) (.t 5)))⟩, 0), (⟨(some 66), none, (.op (.mv (.t 0)))⟩, 1), (⟨(some 67), none, (.op (.mv (.t 8)))⟩, 1), (⟨(some 68), none, (.op (.bin .int true .add (.t 67) (.c (.i .i64 1))))⟩, 1), (⟨(some 69), none, (.op (.iaddr none 2 (.t 66) (.t 68)))⟩, 1), (⟨(some 70), none, (.op (.faddr 1 (.t 69)))⟩, 1), (⟨(some 71), none, (.op (.load none (.t 70)))⟩, 1)], none, some ⟨none, none, (.op (.store 13 (.t 2) (.t 65)))⟩⟩,
    ⟨[(⟨(some 3), none, (.op (.mv (.c (.i .i64 242))))⟩, 1), (⟨(some 4), none, (.op (.mv (.t 71)))⟩, 1)], none, none⟩]
theorem c35d3_e {P : Program} {O : Orc} {S0 : Mem} {rd : Bool} {e : Env} {S : Mem} {d : List Nat} {Q : Kont} : W P O S0 rd (.draw c35d3 []) e S d Q = drawK (evDraw O c35d3 [] e S) (normK Q d) := W_drawE (by kernel_rfl)
attribute [go_sem] c35d3_e
def c35l4 : ICode :=
  .seq (.seq (.region [⟨(some 11), none, (.op (.mv (.t 8)))⟩,
    ⟨(some 12), none, (.op (.mv (.t 0)))⟩,
    ⟨(some 13), none, (.op (.len .slice (.t 12)))⟩,
    ⟨(some 14), none, (.op (.bin .int false .lss (.t 11) (.t 13)))⟩])
   (.live [2, 5, 0, 8, 6, 7, 14] (.cond (.t 14) (.skip)
   (.exit 0))))
   (.live [2, 5, 0, 8, 6, 7] (.seq (.block 1 (.seq (.region [⟨(some 17), none, (.op (.mv (.t 7)))⟩,
    ⟨(some 18), none, (.op (.mv (.t 0)))⟩,
    ⟨(some 19), none, (.op (.mv (.t 8)))⟩,
    ⟨(some 20), none, (.op (.iaddr none 2 (.t 18) (.t 19)))⟩,
    ⟨(some 21), none, (.op (.faddr 0 (.t 20)))⟩,
    ⟨(some 22), none, (.op (.load none (.t 21)))⟩,
    ⟨(some 23), none, (.call 68 [(.t 17), (.t 22)])⟩,
    ⟨(some 9), none, (.op (.mv (.t 23)))⟩])
   (.live [2, 5, 0, 8, 6, 7, 9] (.seq (.block 2 (.seq (.region [⟨(some 25), none, (.op (.mv (.t 9)))⟩,
    ⟨(some 26), none, (.op (.bin .int true .lss (.t 25) (.c (.i .i64 0))))⟩,
    ⟨(some 24), none, (.op (.mv (.t 26)))⟩])
   (.live [2, 5, 0, 8, 6, 7, 9, 24] (.cond (.t 24) (.seq (.draw c35d0 [])
   (.ret))
   (.seq (.region [⟨(some 34), none, (.op (.mv (.t 9)))⟩,
    ⟨(some 35), none, (.op (.iaddr (some 9) 1 (.t 6) (.t 34)))⟩,
    ⟨(some 36), none, (.op (.load none (.t 35)))⟩,
    ⟨(some 33), none, (.op (.mv (.t 36)))⟩])
   (.live [2, 5, 0, 8, 6, 7, 9, 33] (.cond (.t 33) (.seq (.draw c35d1 [])
   (.ret))
   (.seq (.region [⟨(some 44), none, (.op (.mv (.t 8)))⟩,
    ⟨(some 45), none, (.op (.bin .int true .add (.t 44) (.c (.i .i64 1))))⟩,
    ⟨(some 46), none, (.op (.mv (.t 0)))⟩,
    ⟨(some 47), none, (.op (.len .slice (.t 46)))⟩,
    ⟨(some 48), none, (.op (.bin .int false .geq (.t 45) (.t 47)))⟩,
    ⟨(some 43), none, (.op (.mv (.t 48)))⟩])
   (.live [2, 5, 0, 8, 6, 7, 9, 43] (.cond (.t 43) (.seq (.draw c35d2 [])
   (.ret))
   (.seq (.region [⟨(some 56), none, (.op (.mv (.t 9)))⟩,
    ⟨(some 57), none, (.op (.mv (.t 0)))⟩,
    ⟨(some 58), none, (.op (.mv (.t 8)))⟩,
    ⟨(some 59), none, (.op (.bin .int true .add (.t 58) (.c (.i .i64 1))))⟩,
    ⟨(some 60), none, (.op (.iaddr none 2 (.t 57) (.t 59)))⟩,
    ⟨(some 61), none, (.op (.faddr 0 (.t 60)))⟩,
    ⟨(some 62), none, (.op (.load none (.t 61)))⟩,
    ⟨(some 63), none, (.call 69 [(.t 5), (.t 56), (.t 62)])⟩,
    ⟨(some 64), none, (.op (.un .not (.t 63)))⟩,
    ⟨(some 55), none, (.op (.mv (.t 64)))⟩])
   (.live [2, 5, 0, 8, 6, 7, 9, 55] (.cond (.t 55) (.seq (.draw c35d3 [])
   (.ret))
   (.skip))))))))))))))
   (.live [2, 5, 0, 6, 7, 8, 9] (.region [⟨(some 72), none, (.op (.mv (.t 9)))⟩,
    ⟨(some 73), none, (.op (.iaddr (some 9) 1 (.t 6) (.t 72)))⟩,
    ⟨none, none, (.op (.store 1 (.t 73) (.c (.b true))))⟩]))))))
   (.live [2, 5, 0, 6, 7, 8] (.region [⟨(some 15), none, (.op (.mv (.t 8)))⟩,
    ⟨(some 16), none, (.op (.bin .int true .add (.t 15) (.c (.i .i64 2))))⟩,
    ⟨(some 8), none, (.op (.mv (.t 16)))⟩]))))
def c35d5 : List Stage :=
  [⟨[(⟨(some 77), none, (.op (.load (some 13) (.t 5)))⟩, 0), (⟨(some 78), none, (.op (.mv (.t 0)))⟩, 1), (⟨(some 79), none, (.op (.iaddr none 2 (.t 78) (.c (.i .i64 0))))⟩, 1), (⟨(some 80), none, (.op (.faddr 1 (.t 79)))⟩, 1), (⟨(some 81), none, (.op (.load none (.t 80)))⟩, 1)], none, some ⟨none, none, (.op (.store 13 (.t 2) (.t 77)))⟩⟩,
    ⟨[(⟨(some 3), none, (.op (.mv (.c (.i .i64 244))))⟩, 1), (⟨(some 4), none, (.op (.mv (.t 81)))⟩, 1)], none, none⟩]
theorem c35d5_e {P : Program} {O : Orc} {S0 : Mem} {rd : Bool} {e : Env} {S : Mem} {d : List Nat} {Q : Kont} : W P O S0 rd (.draw c35d5 []) e S d Q = drawK (evDraw O c35d5 [] e S) (normK Q d) := W_drawE (by kernel_rfl)
attribute [go_sem] c35d5_e
def c35 : IFunc := ⟨1, [.cell 2 (some 13), .tmp 3, .tmp 4],
  .seq (.region [⟨(some 2), none, (.op (.fresh [(.i .i64 0), (.i .u8 0), (.i .u8 0), (.i .u8 0), (.i .u8 0), (.i .i64 0), (.i .u64 0), (.i .u64 0), (.i .u64 0), (.i .u64 0), (.i .u64 0), (.i .u64 0), (.i .u64 0)]))⟩,
    ⟨(some 3), none, (.op (.mv (.c (.i .i64 0))))⟩,
    ⟨(some 4), none, (.op (.mv (.c (.i .i64 0))))⟩])
   (.live [2, 0] (.seq (.region [⟨(some 5), none, (.op (.fresh [(.i .i64 0), (.i .u8 0), (.i .u8 0), (.i .u8 0), (.i .u8 0), (.i .i64 0), (.i .u64 0), (.i .u64 0), (.i .u64 0), (.i .u64 0), (.i .u64 0), (.i .u64 0), (.i .u64 0)]))⟩])
   (.live [2, 5, 0] (.seq (.region [⟨(some 6), none, (.op (.fresh [(.b false), (.b false), (.b false), (.b false), (.b false), (.b false), (.b false), (.b false), (.b false)]))⟩])
   (.live [2, 5, 0, 6] (.seq (.region [⟨(some 10), none, (.call 48 [(.c (.s [115, 117, 98, 32, 110, 101, 116, 32, 114, 97, 116, 101, 32, 98, 117, 114, 115, 116, 32, 115, 108, 111, 119, 114, 97, 116, 101, 32, 115, 108, 111, 119, 98, 117, 114, 115, 116, 32, 113, 117, 111, 116, 97, 32, 108, 101, 97, 115, 101, 32, 113, 117, 97, 110, 116, 117, 109]))])⟩,
    ⟨(some 7), none, (.op (.mv (.t 10)))⟩])
   (.live [2, 5, 0, 6, 7] (.seq (.seq (.region [⟨(some 8), none, (.op (.mv (.c (.i .i64 0))))⟩])
   (.live [2, 5, 0, 8, 6, 7] (.block 0 (.loop [2, 5, 0, 8, 6, 7] c35l4))))
   (.live [2, 5, 0, 6] (.seq (.seq (.region [⟨(some 74), none, (.op (.load (some 9) (.t 6)))⟩,
    ⟨(some 75), none, (.op (.build [(.b false), (.b false), (.b false), (.b false), (.b false), (.b false), (.b false), (.b false), (.b false)] [(0, 1, (.c (.b true))), (1, 1, (.c (.b true))), (2, 1, (.c (.b true))), (3, 1, (.c (.b true))), (4, 1, (.c (.b true))), (5, 1, (.c (.b true))), (6, 1, (.c (.b true))), (7, 1, (.c (.b true))), (8, 1, (.c (.b true)))]))⟩,
    ⟨(some 76), none, (.op (.eqag true [.bool, .bool, .bool, .bool, .bool, .bool, .bool, .bool, .bool] (.t 74) (.t 75)))⟩])
   (.live [2, 5, 0, 76] (.cond (.t 76) (.seq (.draw c35d5 [])
   (.ret))
   (.skip))))
   (.live [2, 5] (.seq (.region [⟨(some 82), none, (.op (.load (some 13) (.t 5)))⟩,
    ⟨none, none, (.op (.store 13 (.t 2) (.t 82)))⟩,
    ⟨(some 3), none, (.op (.mv (.c (.i .i64 0))))⟩,
    ⟨(some 4), none, (.op (.mv (.c (.i .i64 0))))⟩])
   (.ret))))))))))))),
  []⟩


/- slices.SortStableFunc[[]floodgate/api.Policy,floodgate/api.Policy] -/

def c36 : IFunc := ⟨2, [],
  .region [⟨(some 4), none, (.op (.mv (.t 0)))⟩,
    ⟨(some 5), none, (.op (.mv (.t 0)))⟩,
    ⟨(some 6), none, (.op (.len .slice (.t 5)))⟩,
    ⟨(some 7), none, (.op (.mv (.t 1)))⟩,
    ⟨(some 8), none, (.call 70 [(.t 4), (.t 6), (.t 7)])⟩],
  []⟩


/- floodgate/text.Parse$1 -/

def c37 : IFunc := ⟨2, [.tmp 4],
  .seq (.region [⟨(some 2), none, (.op (.box (.t 0)))⟩,
    ⟨(some 3), none, (.op (.box (.t 1)))⟩,
    ⟨(some 4), none, (.op (.mv (.c (.i .i64 0))))⟩])
   (.live [3, 2] (.seq (.region [⟨(some 5), none, (.op (.faddr 0 (.t 2)))⟩,
    ⟨(some 6), none, (.op (.load none (.t 5)))⟩,
    ⟨(some 7), none, (.op (.faddr 0 (.t 3)))⟩,
    ⟨(some 8), none, (.op (.load none (.t 7)))⟩,
    ⟨(some 9), none, (.call 38 [(.t 6), (.t 8)])⟩,
    ⟨(some 4), none, (.op (.mv (.t 9)))⟩])
   (.ret))),
  []⟩


/- cmp.Compare[int] -/

def c38 : IFunc := ⟨2, [.tmp 4],
  .seq (.region [⟨(some 4), none, (.op (.mv (.c (.i .i64 0))))⟩])
   (.live [1, 0] (.seq (.region [⟨(some 7), none, (.op (.mv (.t 0)))⟩,
    ⟨(some 8), none, (.call 71 [(.t 7)])⟩,
    ⟨(some 5), none, (.op (.mv (.t 8)))⟩])
   (.live [1, 0, 5] (.seq (.region [⟨(some 9), none, (.op (.mv (.t 1)))⟩,
    ⟨(some 10), none, (.call 71 [(.t 9)])⟩,
    ⟨(some 6), none, (.op (.mv (.t 10)))⟩])
   (.live [6, 1, 0, 5] (.seq (.seq (.region [⟨(some 11), none, (.op (.mv (.t 5)))⟩])
   (.live [6, 1, 0, 11] (.cond (.t 11) (.seq (.seq (.region [⟨(some 12), none, (.op (.mv (.t 6)))⟩])
   (.live [12] (.cond (.t 12) (.seq (.region [⟨(some 4), none, (.op (.mv (.c (.i .i64 0))))⟩])
   (.ret))
   (.skip))))
   (.live [] (.seq (.region [⟨(some 4), none, (.op (.mv (.c (.i .i64 (-1)))))⟩])
   (.ret))))
   (.skip))))
   (.live [1, 0, 6] (.seq (.seq (.region [⟨(some 13), none, (.op (.mv (.t 6)))⟩])
   (.live [1, 0, 13] (.cond (.t 13) (.seq (.region [⟨(some 4), none, (.op (.mv (.c (.i .i64 1))))⟩])
   (.ret))
   (.skip))))
   (.live [1, 0] (.seq (.seq (.region [⟨(some 14), none, (.op (.mv (.t 0)))⟩,
    ⟨(some 15), none, (.op (.mv (.t 1)))⟩,
    ⟨(some 16), none, (.op (.bin .int false .lss (.t 14) (.t 15)))⟩])
   (.live [1, 0, 16] (.cond (.t 16) (.seq (.region [⟨(some 4), none, (.op (.mv (.c (.i .i64 (-1)))))⟩])
   (.ret))
   (.skip))))
   (.live [1, 0] (.seq (.seq (.region [⟨(some 17), none, (.op (.mv (.t 0)))⟩,
    ⟨(some 18), none, (.op (.mv (.t 1)))⟩,
    ⟨(some 19), none, (.op (.bin .int false .gtr (.t 17) (.t 18)))⟩])
   (.live [19] (.cond (.t 19) (.seq (.region [⟨(some 4), none, (.op (.mv (.c (.i .i64 1))))⟩])
   (.ret))
   (.skip))))
   (.live [] (.seq (.region [⟨(some 4), none, (.op (.mv (.c (.i .i64 0))))⟩])
   (.ret))))))))))))))),
  []⟩


/- floodgate/policy.All -/
def c39d0 : List Stage :=
  [⟨[(⟨(some 17), none, (.op (.mv (.t 3)))⟩, 0), (⟨(some 18), none, (.op (.faddr 1 (.t 5)))⟩, 0), (⟨(some 19), none, (.op (.load (some 5) (.t 18)))⟩, 0), (⟨(some 20), none, (.op (.mlook true [.int, .int, .int, .int, .int] (.i .i64 0) false (.t 17) (.t 19)))⟩, 1), (⟨(some 21), none, (.op (.bin .int true .add (.t 20) (.c (.i .i64 1))))⟩, 1)], none, some ⟨(some 22), none, (.op (.mentry true [.int, .int, .int, .int, .int] (.i .i64 0) (.t 17) (.t 19)))⟩⟩,
    ⟨[(⟨(some 23), none, (.op (.ext (.t 22) 1))⟩, 1)], none, some ⟨none, none, (.op (.mstore (.t 17) (.t 23) (.t 21)))⟩⟩,
    ⟨[], none, none⟩]
theorem c39d0_e {P : Program} {O : Orc} {S0 : Mem} {rd : Bool} {e : Env} {S : Mem} {d : List Nat} {Q : Kont} : W P O S0 rd (.draw c39d0 []) e S d Q = drawK (evDraw O c39d0 [] e S) (normK Q d) := W_drawE (by kernel_rfl)
attribute [go_sem] c39d0_e
def c39d1 : List Stage :=
  [⟨[(⟨(some 24), none, (.op (.load (some 13) (.t 5)))⟩, 0)], none, some ⟨(some 25), none, (.call 72 [(.t 24)])⟩⟩,
    ⟨[(⟨(some 26), none, (.op (.un .not (.t 25)))⟩, 1), (⟨(some 27), none, (.op (.mv (.t 26)))⟩, 1), (⟨(some 28), some (27, false), (.op (.mv (.t 3)))⟩, 1), (⟨(some 29), some (27, false), (.op (.faddr 1 (.t 5)))⟩, 1), (⟨(some 30), some (27, false), (.op (.load (some 5) (.t 29)))⟩, 1), (⟨(some 31), some (27, false), (.op (.mlook true [.int, .int, .int, .int, .int] (.i .i64 0) false (.t 28) (.t 30)))⟩, 1), (⟨(some 32), some (27, false), (.op (.bin .int true .gtr (.t 31) (.c (.i .i64 1))))⟩, 1), (⟨(some 33), none, (.op (.pick (.t 27) (.c (.b true)) (.t 32)))⟩, 1), (⟨(some 34), none, (.op (.mv (.t 33)))⟩, 1), (⟨(some 35), some (34, false), (.op (.mv (.t 4)))⟩, 1), (⟨(some 36), some (34, false), (.op (.bin .int true .gtr (.t 35) (.c (.i .i64 0))))⟩, 1), (⟨(some 37), some (34, false), (.op (.mv (.t 36)))⟩, 1), (⟨(some 38), some (37, true), (.op (.faddr 0 (.t 5)))⟩, 1), (⟨(some 39), some (37, true), (.op (.load none (.t 38)))⟩, 1), (⟨(some 40), some (37, true), (.op (.mv (.t 0)))⟩, 1), (⟨(some 41), some (37, true), (.op (.mv (.t 4)))⟩, 1), (⟨(some 42), some (37, true), (.op (.bin .int true .sub (.t 41) (.c (.i .i64 1))))⟩, 1), (⟨(some 43), some (37, true), (.op (.iaddr none 13 (.t 40) (.t 42)))⟩, 1), (⟨(some 44), some (37, true), (.op (.faddr 0 (.t 43)))⟩, 1), (⟨(some 45), some (37, true), (.op (.load none (.t 44)))⟩, 1), (⟨(some 46), some (37, true), (.op (.bin .int false .leq (.t 39) (.t 45)))⟩, 1), (⟨(some 47), some (34, false), (.op (.pick (.t 37) (.t 46) (.c (.b false))))⟩, 1), (⟨(some 48), none, (.op (.pick (.t 34) (.c (.b true)) (.t 47)))⟩, 1)], none, none⟩]
def c39d1w : List (ROp × Bool) :=
  [(⟨(some 24), none, (.op (.load (some 13) (.t 5)))⟩, false), (⟨(some 25), none, (.call 72 [(.t 24)])⟩, false), (⟨(some 26), none, (.op (.un .not (.t 25)))⟩, false), (⟨(some 27), none, (.op (.mv (.t 26)))⟩, false), (⟨(some 28), some (27, false), (.op (.mv (.t 3)))⟩, false), (⟨(some 29), some (27, false), (.op (.faddr 1 (.t 5)))⟩, false), (⟨(some 30), some (27, false), (.op (.load (some 5) (.t 29)))⟩, false), (⟨(some 31), some (27, false), (.op (.mlook true [.int, .int, .int, .int, .int] (.i .i64 0) false (.t 28) (.t 30)))⟩, false), (⟨(some 32), some (27, false), (.op (.bin .int true .gtr (.t 31) (.c (.i .i64 1))))⟩, false), (⟨(some 33), none, (.op (.pick (.t 27) (.c (.b true)) (.t 32)))⟩, false), (⟨(some 34), none, (.op (.mv (.t 33)))⟩, false), (⟨(some 35), some (34, false), (.op (.mv (.t 4)))⟩, false), (⟨(some 36), some (34, false), (.op (.bin .int true .gtr (.t 35) (.c (.i .i64 0))))⟩, false), (⟨(some 37), some (34, false), (.op (.mv (.t 36)))⟩, false), (⟨(some 38), some (37, true), (.op (.faddr 0 (.t 5)))⟩, false), (⟨(some 39), some (37, true), (.op (.load none (.t 38)))⟩, false), (⟨(some 40), some (37, true), (.op (.mv (.t 0)))⟩, false), (⟨(some 41), some (37, true), (.op (.mv (.t 4)))⟩, false), (⟨(some 42), some (37, true), (.op (.bin .int true .sub (.t 41) (.c (.i .i64 1))))⟩, false), (⟨(some 43), some (37, true), (.op (.iaddr none 13 (.t 40) (.t 42)))⟩, false), (⟨(some 44), some (37, true), (.op (.faddr 0 (.t 43)))⟩, false), (⟨(some 45), some (37, true), (.op (.load none (.t 44)))⟩, false), (⟨(some 46), some (37, true), (.op (.bin .int false .leq (.t 39) (.t 45)))⟩, false), (⟨(some 47), some (34, false), (.op (.pick (.t 37) (.t 46) (.c (.b false))))⟩, false), (⟨(some 48), none, (.op (.pick (.t 34) (.c (.b true)) (.t 47)))⟩, false)]
theorem c39d1_w {P : Program} {O : Orc} {S0 : Mem} {rd : Bool} {e : Env} {S : Mem} {d : List Nat} {Q : Kont} : W P O S0 rd (.draw c39d1 []) e S d Q = wFl O c39d1w e S (normK Q d) := W_draw' (by kernel_rfl) (by kernel_rfl)
attribute [go_sem] c39d1_w c39d1w
def c39l2 : ICode :=
  .seq (.region [⟨(some 13), none, (.op (.bin .int false .lss (.t 12) (.t 11)))⟩])
   (.live [3, 0, 10, 11, 12, 13] (.seq (.cond (.t 13) (.skip)
   (.exit 0))
   (.live [3, 0, 10, 11, 12] (.seq (.block 1 (.seq (.region [⟨(some 14), none, (.op (.mv (.t 12)))⟩,
    ⟨(some 15), none, (.op (.iaddr none 13 (.t 10) (.t 12)))⟩,
    ⟨(some 16), none, (.op (.load (some 13) (.t 15)))⟩,
    ⟨(some 5), none, (.op (.fresh [(.i .i64 0), (.i .u8 0), (.i .u8 0), (.i .u8 0), (.i .u8 0), (.i .i64 0), (.i .u64 0), (.i .u64 0), (.i .u64 0), (.i .u64 0), (.i .u64 0), (.i .u64 0), (.i .u64 0)]))⟩,
    ⟨(some 4), none, (.op (.mv (.t 14)))⟩,
    ⟨none, none, (.op (.store 13 (.t 5) (.t 16)))⟩])
   (.live [3, 0, 10, 11, 12, 5, 4] (.seq (.draw c39d0 [])
   (.live [3, 0, 10, 11, 12, 5, 4] (.seq (.draw c39d1 [])
   (.live [3, 0, 10, 11, 12, 48] (.cond (.t 48) (.seq (.region [⟨(some 2), none, (.op (.mv (.c (.i .i64 111))))⟩])
   (.ret))
   (.skip)))))))))
   (.live [3, 0, 10, 11, 12] (.region [⟨(some 49), none, (.op (.bin .int true .add (.t 12) (.c (.i .i64 1))))⟩,
    ⟨(some 12), none, (.op (.mv (.t 49)))⟩]))))))
def c39 : IFunc := ⟨1, [.tmp 2],
  .seq (.region [⟨(some 2), none, (.op (.mv (.c (.i .i64 0))))⟩])
   (.live [0] (.seq (.seq (.region [⟨(some 6), none, (.op (.mv (.t 0)))⟩,
    ⟨(some 7), none, (.op (.len .slice (.t 6)))⟩,
    ⟨(some 8), none, (.op (.bin .int true .gtr (.t 7) (.c (.i .i64 8))))⟩])
   (.live [0, 8] (.cond (.t 8) (.seq (.region [⟨(some 2), none, (.op (.mv (.c (.i .i64 111))))⟩])
   (.ret))
   (.skip))))
   (.live [0] (.seq (.region [⟨(some 9), none, (.op (.mkmap none))⟩,
    ⟨(some 3), none, (.op (.mv (.t 9)))⟩])
   (.live [3, 0] (.seq (.seq (.region [⟨(some 10), none, (.op (.mv (.t 0)))⟩,
    ⟨(some 11), none, (.op (.len .slice (.t 10)))⟩,
    ⟨(some 12), none, (.op (.mv (.c (.i .i64 0))))⟩])
   (.live [3, 0, 10, 11, 12] (.block 0 (.loop [3, 0, 10, 11, 12] c39l2))))
   (.live [] (.seq (.region [⟨(some 2), none, (.op (.mv (.c (.i .i64 0))))⟩])
   (.ret))))))))),
  []⟩


/- (*strings.Builder).WriteString -/

def c42 : IFunc := ⟨2, [.tmp 4, .tmp 5],
  .seq (.region [⟨(some 4), none, (.op (.mv (.c (.i .i64 0))))⟩,
    ⟨(some 5), none, (.op (.mv (.c .ni)))⟩])
   (.live [1, 0] (.seq (.region [⟨(some 6), none, (.op (.mv (.t 0)))⟩,
    ⟨(some 7), none, (.call 74 [(.t 6)])⟩])
   (.live [1, 0] (.seq (.region [⟨(some 8), none, (.op (.mv (.t 0)))⟩,
    ⟨(some 9), none, (.op (.mv (.t 0)))⟩,
    ⟨(some 10), none, (.op (.nilck (.t 9)))⟩,
    ⟨(some 11), none, (.op (.faddr 1 (.t 10)))⟩,
    ⟨(some 12), none, (.op (.load none (.t 11)))⟩,
    ⟨(some 13), none, (.op (.mv (.t 1)))⟩,
    ⟨(some 14), none, (.op (.app 1 1 (.t 12) (.t 13)))⟩,
    ⟨(some 15), none, (.op (.nilck (.t 8)))⟩,
    ⟨(some 16), none, (.op (.faddr 1 (.t 15)))⟩,
    ⟨none, none, (.op (.store 1 (.t 16) (.t 14)))⟩])
   (.live [1] (.seq (.region [⟨(some 17), none, (.op (.mv (.t 1)))⟩,
    ⟨(some 18), none, (.op (.len .str (.t 17)))⟩,
    ⟨(some 4), none, (.op (.mv (.t 18)))⟩,
    ⟨(some 5), none, (.op (.mv (.c .ni)))⟩])
   (.ret))))))),
  []⟩


/- (*strings.Builder).String -/
def c43d0 : List Stage :=
  [⟨[(⟨(some 3), none, (.op (.mv (.t 0)))⟩, 0), (⟨(some 4), none, (.op (.nilck (.t 3)))⟩, 0), (⟨(some 5), none, (.op (.faddr 1 (.t 4)))⟩, 0), (⟨(some 6), none, (.op (.load none (.t 5)))⟩, 0), (⟨(some 8), none, (.op (.mv (.t 0)))⟩, 1), (⟨(some 9), none, (.op (.nilck (.t 8)))⟩, 1), (⟨(some 10), none, (.op (.faddr 1 (.t 9)))⟩, 1), (⟨(some 11), none, (.op (.load none (.t 10)))⟩, 1), (⟨(some 12), none, (.op (.len .slice (.t 11)))⟩, 1)], none, some ⟨(some 7), none, (.op (.bad))⟩⟩,
    ⟨[], none, some ⟨(some 13), none, (.op (.bad))⟩⟩,
    ⟨[(⟨(some 2), none, (.op (.mv (.t 13)))⟩, 2)], none, none⟩]
def c43d0w : List (ROp × Bool) :=
  [(⟨(some 3), none, (.op (.mv (.t 0)))⟩, false), (⟨(some 4), none, (.op (.nilck (.t 3)))⟩, false), (⟨(some 5), none, (.op (.faddr 1 (.t 4)))⟩, false), (⟨(some 6), none, (.op (.load none (.t 5)))⟩, false), (⟨(some 8), none, (.op (.mv (.t 0)))⟩, false), (⟨(some 9), none, (.op (.nilck (.t 8)))⟩, false), (⟨(some 10), none, (.op (.faddr 1 (.t 9)))⟩, false), (⟨(some 11), none, (.op (.load none (.t 10)))⟩, false), (⟨(some 12), none, (.op (.len .slice (.t 11)))⟩, false), (⟨(some 7), none, (.op (.bad))⟩, true), (⟨(some 13), none, (.op (.bad))⟩, false), (⟨(some 2), none, (.op (.mv (.t 13)))⟩, false)]
theorem c43d0_w {P : Program} {O : Orc} {S0 : Mem} {rd : Bool} {e : Env} {S : Mem} {d : List Nat} {Q : Kont} : W P O S0 rd (.draw c43d0 []) e S d Q = wFl O c43d0w e S (normK Q d) := W_draw' (by kernel_rfl) (by kernel_rfl)
attribute [go_sem] c43d0_w c43d0w
def c43 : IFunc := ⟨1, [.tmp 2],
  .seq (.region [⟨(some 2), none, (.op (.mv (.c (.s []))))⟩])
   (.live [0] (.seq (.draw c43d0 [])
   (.ret))),
  []⟩


/- strconv.Itoa -/

def c44 : IFunc := ⟨1, [.tmp 2],
  .seq (.region [⟨(some 2), none, (.op (.mv (.c (.s []))))⟩])
   (.live [0] (.seq (.region [⟨(some 3), none, (.op (.mv (.t 0)))⟩,
    ⟨(some 4), none, (.call 75 [(.t 3)])⟩,
    ⟨(some 2), none, (.op (.mv (.t 4)))⟩])
   (.ret))),
  []⟩


/- floodgate/addr.Text -/
def c45l0 : ICode :=
  .seq (.region [⟨(some 8), none, (.op (.bin .int true .lss (.t 7) (.c (.i .i64 4))))⟩])
   (.live [6, 7, 3, 8] (.seq (.cond (.t 8) (.skip)
   (.exit 0))
   (.live [6, 7, 3] (.seq (.block 1 (.seq (.region [⟨(some 9), none, (.op (.ixa 4 1 none (.t 6) (.t 7)))⟩,
    ⟨(some 5), none, (.op (.mv (.t 9)))⟩])
   (.live [6, 7, 5, 3] (.region [⟨(some 10), none, (.op (.mv (.t 3)))⟩,
    ⟨(some 11), none, (.op (.mv (.t 5)))⟩,
    ⟨(some 12), none, (.op (.toInt .i64 (.t 11)))⟩,
    ⟨(some 13), none, (.call 44 [(.t 12)])⟩,
    ⟨(some 14), none, (.op (.bslice [(.s [])] 1 [(0, 1, (.t 13))]))⟩,
    ⟨(some 15), none, (.op (.app 1 16 (.t 10) (.t 14)))⟩,
    ⟨(some 3), none, (.op (.mv (.t 15)))⟩]))))
   (.live [6, 3, 7] (.region [⟨(some 16), none, (.op (.bin .int true .add (.t 7) (.c (.i .i64 1))))⟩,
    ⟨(some 7), none, (.op (.mv (.t 16)))⟩]))))))
def c45 : IFunc := ⟨1, [.tmp 2],
  .seq (.region [⟨(some 1), none, (.op (.box (.t 0)))⟩,
    ⟨(some 2), none, (.op (.mv (.c (.s []))))⟩])
   (.live [1] (.seq (.region [⟨(some 3), none, (.op (.mv (.c .sn)))⟩])
   (.live [3, 1] (.seq (.seq (.region [⟨(some 6), none, (.op (.load (some 4) (.t 1)))⟩,
    ⟨(some 7), none, (.op (.mv (.c (.i .i64 0))))⟩])
   (.live [6, 7, 3] (.block 0 (.loop [6, 7, 3] c45l0))))
   (.live [3] (.seq (.region [⟨(some 17), none, (.op (.mv (.t 3)))⟩,
    ⟨(some 18), none, (.call 49 [(.t 17), (.c (.s [46]))])⟩,
    ⟨(some 2), none, (.op (.mv (.t 18)))⟩])
   (.ret))))))),
  []⟩


/- floodgate/text.fields -/
def c46d0 : List Stage :=
  [⟨[(⟨(some 3), none, (.op (.mv (.t 0)))⟩, 0), (⟨(some 4), none, (.op (.nilck (.t 3)))⟩, 0), (⟨(some 5), none, (.op (.faddr 6 (.t 4)))⟩, 0), (⟨(some 6), none, (.op (.mv (.t 0)))⟩, 0), (⟨(some 7), none, (.op (.nilck (.t 6)))⟩, 0), (⟨(some 8), none, (.op (.faddr 7 (.t 7)))⟩, 0), (⟨(some 9), none, (.op (.mv (.t 0)))⟩, 0), (⟨(some 10), none, (.op (.nilck (.t 9)))⟩, 0), (⟨(some 11), none, (.op (.faddr 8 (.t 10)))⟩, 0), (⟨(some 12), none, (.op (.mv (.t 0)))⟩, 0), (⟨(some 13), none, (.op (.nilck (.t 12)))⟩, 0), (⟨(some 14), none, (.op (.faddr 9 (.t 13)))⟩, 0), (⟨(some 15), none, (.op (.mv (.t 0)))⟩, 0), (⟨(some 16), none, (.op (.nilck (.t 15)))⟩, 0), (⟨(some 17), none, (.op (.faddr 10 (.t 16)))⟩, 0), (⟨(some 18), none, (.op (.mv (.t 0)))⟩, 0), (⟨(some 19), none, (.op (.nilck (.t 18)))⟩, 0), (⟨(some 20), none, (.op (.faddr 11 (.t 19)))⟩, 0), (⟨(some 21), none, (.op (.mv (.t 0)))⟩, 0), (⟨(some 22), none, (.op (.nilck (.t 21)))⟩, 0), (⟨(some 23), none, (.op (.faddr 12 (.t 22)))⟩, 0)], none, some ⟨(some 24), none, (.op (.bslice [.pn] 7 [(0, 1, (.t 5)), (1, 1, (.t 8)), (2, 1, (.t 11)), (3, 1, (.t 14)), (4, 1, (.t 17)), (5, 1, (.t 20)), (6, 1, (.t 23))]))⟩⟩,
    ⟨[(⟨(some 2), none, (.op (.mv (.t 24)))⟩, 1)], none, none⟩]
def c46d0w : List (ROp × Bool) :=
  [(⟨(some 3), none, (.op (.mv (.t 0)))⟩, false), (⟨(some 4), none, (.op (.nilck (.t 3)))⟩, false), (⟨(some 5), none, (.op (.faddr 6 (.t 4)))⟩, false), (⟨(some 6), none, (.op (.mv (.t 0)))⟩, false), (⟨(some 7), none, (.op (.nilck (.t 6)))⟩, false), (⟨(some 8), none, (.op (.faddr 7 (.t 7)))⟩, false), (⟨(some 9), none, (.op (.mv (.t 0)))⟩, false), (⟨(some 10), none, (.op (.nilck (.t 9)))⟩, false), (⟨(some 11), none, (.op (.faddr 8 (.t 10)))⟩, false), (⟨(some 12), none, (.op (.mv (.t 0)))⟩, false), (⟨(some 13), none, (.op (.nilck (.t 12)))⟩, false), (⟨(some 14), none, (.op (.faddr 9 (.t 13)))⟩, false), (⟨(some 15), none, (.op (.mv (.t 0)))⟩, false), (⟨(some 16), none, (.op (.nilck (.t 15)))⟩, false), (⟨(some 17), none, (.op (.faddr 10 (.t 16)))⟩, false), (⟨(some 18), none, (.op (.mv (.t 0)))⟩, false), (⟨(some 19), none, (.op (.nilck (.t 18)))⟩, false), (⟨(some 20), none, (.op (.faddr 11 (.t 19)))⟩, false), (⟨(some 21), none, (.op (.mv (.t 0)))⟩, false), (⟨(some 22), none, (.op (.nilck (.t 21)))⟩, false), (⟨(some 23), none, (.op (.faddr 12 (.t 22)))⟩, false), (⟨(some 24), none, (.op (.bslice [.pn] 7 [(0, 1, (.t 5)), (1, 1, (.t 8)), (2, 1, (.t 11)), (3, 1, (.t 14)), (4, 1, (.t 17)), (5, 1, (.t 20)), (6, 1, (.t 23))]))⟩, false), (⟨(some 2), none, (.op (.mv (.t 24)))⟩, false)]
theorem c46d0_w {P : Program} {O : Orc} {S0 : Mem} {rd : Bool} {e : Env} {S : Mem} {d : List Nat} {Q : Kont} : W P O S0 rd (.draw c46d0 []) e S d Q = wFl O c46d0w e S (normK Q d) := W_draw' (by kernel_rfl) (by kernel_rfl)
attribute [go_sem] c46d0_w c46d0w
def c46 : IFunc := ⟨1, [.tmp 2],
  .seq (.region [⟨(some 2), none, (.op (.mv (.c .sn)))⟩])
   (.live [0] (.seq (.draw c46d0 [])
   (.ret))),
  []⟩


/- strconv.FormatUint -/

def c47 : IFunc := ⟨2, [.tmp 4],
  .seq (.region [⟨(some 4), none, (.op (.mv (.c (.s []))))⟩])
   (.live [1, 0] (.seq (.region [⟨(some 5), none, (.op (.mv (.t 0)))⟩,
    ⟨(some 6), none, (.op (.mv (.t 1)))⟩,
    ⟨(some 7), none, (.call 76 [(.t 5), (.t 6)])⟩,
    ⟨(some 4), none, (.op (.mv (.t 7)))⟩])
   (.ret))),
  []⟩


/- strings.CutSuffix -/

def c55 : IFunc := ⟨2, [.tmp 4, .tmp 5],
  .seq (.region [⟨(some 4), none, (.op (.mv (.c (.s []))))⟩,
    ⟨(some 5), none, (.op (.mv (.c (.b false))))⟩])
   (.live [1, 0] (.seq (.region [⟨(some 6), none, (.op (.mv (.t 0)))⟩,
    ⟨(some 7), none, (.op (.mv (.t 1)))⟩,
    ⟨(some 8), none, (.call 82 [(.t 6), (.t 7)])⟩,
    ⟨(some 9), none, (.op (.ext (.t 8) 0))⟩,
    ⟨(some 10), none, (.op (.ext (.t 8) 1))⟩,
    ⟨(some 4), none, (.op (.mv (.t 9)))⟩,
    ⟨(some 5), none, (.op (.mv (.t 10)))⟩])
   (.ret))),
  []⟩


/- strings.trimLeftByte -/
def c56l0 : ICode :=
  .seq (.seq (.region [⟨(some 5), none, (.op (.mv (.t 0)))⟩,
    ⟨(some 6), none, (.op (.len .str (.t 5)))⟩,
    ⟨(some 7), none, (.op (.bin .int true .gtr (.t 6) (.c (.i .i64 0))))⟩,
    ⟨(some 8), none, (.op (.mv (.t 7)))⟩,
    ⟨(some 9), some (8, true), (.op (.mv (.t 0)))⟩,
    ⟨(some 10), some (8, true), (.op (.ixs (.t 9) (.c (.i .i64 0))))⟩,
    ⟨(some 11), some (8, true), (.op (.mv (.t 1)))⟩,
    ⟨(some 12), some (8, true), (.op (.bin .int false .eql (.t 10) (.t 11)))⟩,
    ⟨(some 13), none, (.op (.pick (.t 8) (.t 12) (.c (.b false))))⟩])
   (.live [1, 0, 13] (.cond (.t 13) (.skip)
   (.exit 0))))
   (.live [1, 0] (.block 1 (.region [⟨(some 14), none, (.op (.mv (.t 0)))⟩,
    ⟨(some 15), none, (.op (.sls (.t 14) (some (.c (.i .i64 1))) none))⟩,
    ⟨(some 0), none, (.op (.mv (.t 15)))⟩])))
def c56 : IFunc := ⟨2, [.tmp 4],
  .seq (.region [⟨(some 4), none, (.op (.mv (.c (.s []))))⟩])
   (.live [1, 0] (.seq (.block 0 (.loop [1, 0] c56l0))
   (.live [0] (.seq (.region [⟨(some 16), none, (.op (.mv (.t 0)))⟩,
    ⟨(some 4), none, (.op (.mv (.t 16)))⟩])
   (.ret))))),
  []⟩


/- strings.trimRightByte -/
def c57l0 : ICode :=
  .seq (.seq (.region [⟨(some 5), none, (.op (.mv (.t 0)))⟩,
    ⟨(some 6), none, (.op (.len .str (.t 5)))⟩,
    ⟨(some 7), none, (.op (.bin .int true .gtr (.t 6) (.c (.i .i64 0))))⟩,
    ⟨(some 8), none, (.op (.mv (.t 7)))⟩,
    ⟨(some 9), some (8, true), (.op (.mv (.t 0)))⟩,
    ⟨(some 10), some (8, true), (.op (.mv (.t 0)))⟩,
    ⟨(some 11), some (8, true), (.op (.len .str (.t 10)))⟩,
    ⟨(some 12), some (8, true), (.op (.bin .int true .sub (.t 11) (.c (.i .i64 1))))⟩,
    ⟨(some 13), some (8, true), (.op (.ixs (.t 9) (.t 12)))⟩,
    ⟨(some 14), some (8, true), (.op (.mv (.t 1)))⟩,
    ⟨(some 15), some (8, true), (.op (.bin .int false .eql (.t 13) (.t 14)))⟩,
    ⟨(some 16), none, (.op (.pick (.t 8) (.t 15) (.c (.b false))))⟩])
   (.live [1, 0, 16] (.cond (.t 16) (.skip)
   (.exit 0))))
   (.live [1, 0] (.block 1 (.region [⟨(some 17), none, (.op (.mv (.t 0)))⟩,
    ⟨(some 18), none, (.op (.mv (.t 0)))⟩,
    ⟨(some 19), none, (.op (.len .str (.t 18)))⟩,
    ⟨(some 20), none, (.op (.bin .int true .sub (.t 19) (.c (.i .i64 1))))⟩,
    ⟨(some 21), none, (.op (.sls (.t 17) none (some (.t 20))))⟩,
    ⟨(some 0), none, (.op (.mv (.t 21)))⟩])))
def c57 : IFunc := ⟨2, [.tmp 4],
  .seq (.region [⟨(some 4), none, (.op (.mv (.c (.s []))))⟩])
   (.live [1, 0] (.seq (.block 0 (.loop [1, 0] c57l0))
   (.live [0] (.seq (.region [⟨(some 22), none, (.op (.mv (.t 0)))⟩,
    ⟨(some 4), none, (.op (.mv (.t 22)))⟩])
   (.ret))))),
  []⟩


/- strings.makeASCIISet -/
def c58l0 : ICode :=
  .seq (.seq (.region [⟨(some 6), none, (.op (.mv (.t 4)))⟩,
    ⟨(some 7), none, (.op (.mv (.t 0)))⟩,
    ⟨(some 8), none, (.op (.len .str (.t 7)))⟩,
    ⟨(some 9), none, (.op (.bin .int false .lss (.t 6) (.t 8)))⟩])
   (.live [2, 0, 4, 9] (.cond (.t 9) (.skip)
   (.exit 0))))
   (.live [2, 0, 4] (.seq (.block 1 (.seq (.region [⟨(some 12), none, (.op (.mv (.t 0)))⟩,
    ⟨(some 13), none, (.op (.mv (.t 4)))⟩,
    ⟨(some 14), none, (.op (.ixs (.t 12) (.t 13)))⟩,
    ⟨(some 5), none, (.op (.mv (.t 14)))⟩])
   (.live [2, 0, 4, 5] (.seq (.seq (.region [⟨(some 15), none, (.op (.mv (.t 5)))⟩,
    ⟨(some 16), none, (.op (.bin .int true .geq (.t 15) (.c (.i .u8 128))))⟩])
   (.live [2, 0, 4, 5, 16] (.cond (.t 16) (.seq (.region [⟨(some 17), none, (.op (.load (some 256) (.t 2)))⟩,
    ⟨none, none, (.op (.store 256 (.t 2) (.t 17)))⟩,
    ⟨(some 3), none, (.op (.mv (.c (.b false))))⟩])
   (.ret))
   (.skip))))
   (.live [2, 0, 4, 5] (.region [⟨(some 18), none, (.op (.mv (.t 5)))⟩,
    ⟨(some 19), none, (.op (.iaddr (some 256) 1 (.t 2) (.t 18)))⟩,
    ⟨none, none, (.op (.store 1 (.t 19) (.c (.b true))))⟩]))))))
   (.live [2, 0, 4] (.region [⟨(some 10), none, (.op (.mv (.t 4)))⟩,
    ⟨(some 11), none, (.op (.bin .int true .add (.t 10) (.c (.i .i64 1))))⟩,
    ⟨(some 4), none, (.op (.mv (.t 11)))⟩]))))
def c58 : IFunc := ⟨1, [.cell 2 (some 256), .tmp 3],
  .seq (.region [⟨(some 2), none, (.op (.fresh [(.b false), (.b false), (.b false), (.b false), (.b false), (.b false), (.b false), (.b false), (.b false), (.b false), (.b false), (.b false), (.b false), (.b false), (.b false), (.b false), (.b false), (.b false), (.b false), (.b false), (.b false), (.b false), (.b false), (.b false), (.b false), (.b false), (.b false), (.b false), (.b false), (.b false), (.b false), (.b false), (.b false), (.b false), (.b false), (.b false), (.b false), (.b false), (.b false), (.b false), (.b false), (.b false), (.b false), (.b false), (.b false), (.b false), (.b false), (.b false), (.b false), (.b false), (.b false), (.b false), (.b false), (.b false), (.b false), (.b false), (.b false), (.b false), (.b false), (.b false), (.b false), (.b false), (.b false), (.b false), (.b false), (.b false), (.b false), (.b false), (.b false), (.b false), (.b false), (.b false), (.b false), (.b false), (.b false), (.b false), (.b false), (.b false), (.b false), (.b false), (.b false), (.b false), (.b false), (.b false), (.b false), (.b false), (.b false), (.b false), (.b false), (.b false), (.b false), (.b false), (.b false), (.b false), (.b false), (.b false), (.b false), (.b false), (.b false), (.b false), (.b false), (.b false), (.b false), (.b false), (.b false), (.b false), (.b false), (.b false), (.b false), (.b false), (.b false), (.b false), (.b false), (.b false), (.b false), (.b false), (.b false), (.b false), (.b false), (.b false), (.b false), (.b false), (.b false), (.b false), (.b false), (.b false), (.b false), (.b false), (.b false), (.b false), (.b false), (.b false), (.b false), (.b false), (.b false), (.b false), (.b false), (.b false), (.b false), (.b false), (.b false), (.b false), (.b false), (.b false), (.b false), (.b false), (.b false), (.b false), (.b false), (.b false), (.b false), (.b false), (.b false), (.b false), (.b false), (.b false), (.b false), (.b false), (.b false), (.b false), (.b false), (.b false), (.b false), (.b false), (.b false), (.b false), (.b false), (.b false), (.b false), (.b false), (.b false), (.b false), (.b false), (.b false), (.b false), (.b false), (.b false), (.b false), (.b false), (.b false), (.b false), (.b false), (.b false), (.b false), (.b false), (.b false), (.b false), (.b false), (.b false), (.b false), (.b false), (.b false), (.b false), (.b false), (.b false), (.b false), (.b false), (.b false), (.b false), (.b false), (.b false), (.b false), (.b false), (.b false), (.b false), (.b false), (.b false), (.b false), (.b false), (.b false), (.b false), (.b false), (.b false), (.b false), (.b false), (.b false), (.b false), (.b false), (.b false), (.b false), (.b false), (.b false), (.b false), (.b false), (.b false), (.b false), (.b false), (.b false), (.b false), (.b false), (.b false), (.b false), (.b false), (.b false), (.b false), (.b false), (.b false), (.b false), (.b false), (.b false), (.b false), (.b false), (.b false), (.b false), (.b false), (.b false), (.b false), (.b false), (.b false), (.b false), (.b false), (.b false), (.b false), (.b false), (.b false), (.b false)]))⟩,
    ⟨(some 3), none, (.op (.mv (.c (.b false))))⟩])
   (.live [2, 0] (.seq (.seq (.region [⟨(some 4), none, (.op (.mv (.c (.i .i64 0))))⟩])
   (.live [2, 0, 4] (.block 0 (.loop [2, 0, 4] c58l0))))
   (.live [2] (.seq (.region [⟨(some 20), none, (.op (.load (some 256) (.t 2)))⟩,
    ⟨none, none, (.op (.store 256 (.t 2) (.t 20)))⟩,
    ⟨(some 3), none, (.op (.mv (.c (.b true))))⟩])
   (.ret))))),
  []⟩


/- strings.trimLeftASCII -/
def c59l0 : ICode :=
  .seq (.seq (.region [⟨(some 5), none, (.op (.mv (.t 0)))⟩,
    ⟨(some 6), none, (.op (.len .str (.t 5)))⟩,
    ⟨(some 7), none, (.op (.bin .int true .gtr (.t 6) (.c (.i .i64 0))))⟩])
   (.live [0, 1, 7] (.cond (.t 7) (.skip)
   (.exit 0))))
   (.live [0, 1] (.block 1 (.seq (.seq (.region [⟨(some 8), none, (.op (.mv (.t 1)))⟩,
    ⟨(some 9), none, (.op (.mv (.t 0)))⟩,
    ⟨(some 10), none, (.op (.ixs (.t 9) (.c (.i .i64 0))))⟩,
    ⟨(some 11), none, (.call 83 [(.t 8), (.t 10)])⟩,
    ⟨(some 12), none, (.op (.un .not (.t 11)))⟩])
   (.live [0, 1, 12] (.cond (.t 12) (.exit 0)
   (.skip))))
   (.live [1, 0] (.region [⟨(some 13), none, (.op (.mv (.t 0)))⟩,
    ⟨(some 14), none, (.op (.sls (.t 13) (some (.c (.i .i64 1))) none))⟩,
    ⟨(some 0), none, (.op (.mv (.t 14)))⟩])))))
def c59 : IFunc := ⟨2, [.tmp 4],
  .seq (.region [⟨(some 4), none, (.op (.mv (.c (.s []))))⟩])
   (.live [0, 1] (.seq (.block 0 (.loop [0, 1] c59l0))
   (.live [0] (.seq (.region [⟨(some 15), none, (.op (.mv (.t 0)))⟩,
    ⟨(some 4), none, (.op (.mv (.t 15)))⟩])
   (.ret))))),
  []⟩


/- strings.trimRightASCII -/
def c60l0 : ICode :=
  .seq (.seq (.region [⟨(some 5), none, (.op (.mv (.t 0)))⟩,
    ⟨(some 6), none, (.op (.len .str (.t 5)))⟩,
    ⟨(some 7), none, (.op (.bin .int true .gtr (.t 6) (.c (.i .i64 0))))⟩])
   (.live [0, 1, 7] (.cond (.t 7) (.skip)
   (.exit 0))))
   (.live [0, 1] (.block 1 (.seq (.seq (.region [⟨(some 8), none, (.op (.mv (.t 1)))⟩,
    ⟨(some 9), none, (.op (.mv (.t 0)))⟩,
    ⟨(some 10), none, (.op (.mv (.t 0)))⟩,
    ⟨(some 11), none, (.op (.len .str (.t 10)))⟩,
    ⟨(some 12), none, (.op (.bin .int true .sub (.t 11) (.c (.i .i64 1))))⟩,
    ⟨(some 13), none, (.op (.ixs (.t 9) (.t 12)))⟩,
    ⟨(some 14), none, (.call 83 [(.t 8), (.t 13)])⟩,
    ⟨(some 15), none, (.op (.un .not (.t 14)))⟩])
   (.live [0, 1, 15] (.cond (.t 15) (.exit 0)
   (.skip))))
   (.live [1, 0] (.region [⟨(some 16), none, (.op (.mv (.t 0)))⟩,
    ⟨(some 17), none, (.op (.mv (.t 0)))⟩,
    ⟨(some 18), none, (.op (.len .str (.t 17)))⟩,
    ⟨(some 19), none, (.op (.bin .int true .sub (.t 18) (.c (.i .i64 1))))⟩,
    ⟨(some 20), none, (.op (.sls (.t 16) none (some (.t 19))))⟩,
    ⟨(some 0), none, (.op (.mv (.t 20)))⟩])))))
def c60 : IFunc := ⟨2, [.tmp 4],
  .seq (.region [⟨(some 4), none, (.op (.mv (.c (.s []))))⟩])
   (.live [0, 1] (.seq (.block 0 (.loop [0, 1] c60l0))
   (.live [0] (.seq (.region [⟨(some 21), none, (.op (.mv (.t 0)))⟩,
    ⟨(some 4), none, (.op (.mv (.t 21)))⟩])
   (.ret))))),
  []⟩


/- strings.trimLeftUnicode -/
def c61l0 : ICode :=
  .seq (.seq (.region [⟨(some 7), none, (.op (.mv (.t 0)))⟩,
    ⟨(some 8), none, (.op (.len .str (.t 7)))⟩,
    ⟨(some 9), none, (.op (.bin .int true .gtr (.t 8) (.c (.i .i64 0))))⟩])
   (.live [0, 1, 9] (.cond (.t 9) (.skip)
   (.exit 0))))
   (.live [0, 1] (.block 1 (.seq (.region [⟨(some 11), none, (.op (.mv (.t 0)))⟩,
    ⟨(some 12), none, (.call 84 [(.t 11)])⟩,
    ⟨(some 10), none, (.op (.mv (.t 12)))⟩,
    ⟨(some 13), none, (.op (.ext (.t 10) 0))⟩,
    ⟨(some 14), none, (.op (.ext (.t 10) 1))⟩,
    ⟨(some 5), none, (.op (.mv (.t 13)))⟩,
    ⟨(some 6), none, (.op (.mv (.t 14)))⟩])
   (.live [0, 1, 6, 5] (.seq (.seq (.region [⟨(some 15), none, (.op (.mv (.t 1)))⟩,
    ⟨(some 16), none, (.op (.mv (.t 5)))⟩,
    ⟨(some 17), none, (.call 85 [(.t 15), (.t 16)])⟩,
    ⟨(some 18), none, (.op (.un .not (.t 17)))⟩])
   (.live [0, 1, 6, 18] (.cond (.t 18) (.exit 0)
   (.skip))))
   (.live [1, 6, 0] (.region [⟨(some 19), none, (.op (.mv (.t 0)))⟩,
    ⟨(some 20), none, (.op (.mv (.t 6)))⟩,
    ⟨(some 21), none, (.op (.sls (.t 19) (some (.t 20)) none))⟩,
    ⟨(some 0), none, (.op (.mv (.t 21)))⟩])))))))
def c61 : IFunc := ⟨2, [.tmp 4],
  .seq (.region [⟨(some 4), none, (.op (.mv (.c (.s []))))⟩])
   (.live [0, 1] (.seq (.block 0 (.loop [0, 1] c61l0))
   (.live [0] (.seq (.region [⟨(some 22), none, (.op (.mv (.t 0)))⟩,
    ⟨(some 4), none, (.op (.mv (.t 22)))⟩])
   (.ret))))),
  []⟩


/- strings.trimRightUnicode -/
def c62l0 : ICode :=
  .seq (.seq (.region [⟨(some 7), none, (.op (.mv (.t 0)))⟩,
    ⟨(some 8), none, (.op (.len .str (.t 7)))⟩,
    ⟨(some 9), none, (.op (.bin .int true .gtr (.t 8) (.c (.i .i64 0))))⟩])
   (.live [0, 1, 9] (.cond (.t 9) (.skip)
   (.exit 0))))
   (.live [0, 1] (.block 1 (.seq (.region [⟨(some 10), none, (.op (.mv (.t 0)))⟩,
    ⟨(some 11), none, (.op (.mv (.t 0)))⟩,
    ⟨(some 12), none, (.op (.len .str (.t 11)))⟩,
    ⟨(some 13), none, (.op (.bin .int true .sub (.t 12) (.c (.i .i64 1))))⟩,
    ⟨(some 14), none, (.op (.ixs (.t 10) (.t 13)))⟩,
    ⟨(some 15), none, (.op (.toInt .i32 (.t 14)))⟩,
    ⟨(some 5), none, (.op (.mv (.t 15)))⟩,
    ⟨(some 6), none, (.op (.mv (.c (.i .i64 1))))⟩])
   (.live [0, 1, 6, 5] (.seq (.seq (.region [⟨(some 16), none, (.op (.mv (.t 5)))⟩,
    ⟨(some 17), none, (.op (.bin .int true .geq (.t 16) (.c (.i .i32 128))))⟩])
   (.live [0, 1, 6, 5, 17] (.cond (.t 17) (.region [⟨(some 19), none, (.op (.mv (.t 0)))⟩,
    ⟨(some 20), none, (.call 86 [(.t 19)])⟩,
    ⟨(some 18), none, (.op (.mv (.t 20)))⟩,
    ⟨(some 21), none, (.op (.ext (.t 18) 0))⟩,
    ⟨(some 22), none, (.op (.ext (.t 18) 1))⟩,
    ⟨(some 5), none, (.op (.mv (.t 21)))⟩,
    ⟨(some 6), none, (.op (.mv (.t 22)))⟩])
   (.skip))))
   (.live [0, 1, 6, 5] (.seq (.seq (.region [⟨(some 23), none, (.op (.mv (.t 1)))⟩,
    ⟨(some 24), none, (.op (.mv (.t 5)))⟩,
    ⟨(some 25), none, (.call 85 [(.t 23), (.t 24)])⟩,
    ⟨(some 26), none, (.op (.un .not (.t 25)))⟩])
   (.live [0, 1, 6, 26] (.cond (.t 26) (.exit 0)
   (.skip))))
   (.live [1, 6, 0] (.region [⟨(some 27), none, (.op (.mv (.t 0)))⟩,
    ⟨(some 28), none, (.op (.mv (.t 0)))⟩,
    ⟨(some 29), none, (.op (.len .str (.t 28)))⟩,
    ⟨(some 30), none, (.op (.mv (.t 6)))⟩,
    ⟨(some 31), none, (.op (.bin .int false .sub (.t 29) (.t 30)))⟩,
    ⟨(some 32), none, (.op (.sls (.t 27) none (some (.t 31))))⟩,
    ⟨(some 0), none, (.op (.mv (.t 32)))⟩])))))))))
def c62 : IFunc := ⟨2, [.tmp 4],
  .seq (.region [⟨(some 4), none, (.op (.mv (.c (.s []))))⟩])
   (.live [0, 1] (.seq (.block 0 (.loop [0, 1] c62l0))
   (.live [0] (.seq (.region [⟨(some 33), none, (.op (.mv (.t 0)))⟩,
    ⟨(some 4), none, (.op (.mv (.t 33)))⟩])
   (.ret))))),
  []⟩


/- strings.genSplit -/
def c65l0 : ICode :=
  .seq (.seq (.region [⟨(some 34), none, (.op (.mv (.t 10)))⟩,
    ⟨(some 35), none, (.op (.mv (.t 3)))⟩,
    ⟨(some 36), none, (.op (.bin .int false .lss (.t 34) (.t 35)))⟩])
   (.live [10, 9, 0, 1, 2, 3, 36] (.cond (.t 36) (.skip)
   (.exit 0))))
   (.live [10, 9, 0, 1, 2, 3] (.block 1 (.seq (.region [⟨(some 37), none, (.op (.mv (.t 0)))⟩,
    ⟨(some 38), none, (.op (.mv (.t 1)))⟩,
    ⟨(some 39), none, (.call 95 [(.t 37), (.t 38)])⟩,
    ⟨(some 11), none, (.op (.mv (.t 39)))⟩])
   (.live [10, 9, 0, 1, 2, 3, 11] (.seq (.seq (.region [⟨(some 40), none, (.op (.mv (.t 11)))⟩,
    ⟨(some 41), none, (.op (.bin .int true .lss (.t 40) (.c (.i .i64 0))))⟩])
   (.live [10, 9, 0, 1, 2, 3, 11, 41] (.cond (.t 41) (.exit 0)
   (.skip))))
   (.live [9, 1, 2, 3, 10, 11, 0] (.seq (.region [⟨(some 42), none, (.op (.mv (.t 9)))⟩,
    ⟨(some 43), none, (.op (.mv (.t 10)))⟩,
    ⟨(some 44), none, (.op (.mv (.t 0)))⟩,
    ⟨(some 45), none, (.op (.mv (.t 11)))⟩,
    ⟨(some 46), none, (.op (.mv (.t 2)))⟩,
    ⟨(some 47), none, (.op (.bin .int false .add (.t 45) (.t 46)))⟩,
    ⟨(some 48), none, (.op (.sls (.t 44) none (some (.t 47))))⟩,
    ⟨(some 49), none, (.op (.iaddr none 1 (.t 42) (.t 43)))⟩,
    ⟨none, none, (.op (.store 1 (.t 49) (.t 48)))⟩])
   (.live [9, 1, 2, 3, 10, 11, 0] (.seq (.region [⟨(some 50), none, (.op (.mv (.t 0)))⟩,
    ⟨(some 51), none, (.op (.mv (.t 11)))⟩,
    ⟨(some 52), none, (.op (.mv (.t 1)))⟩,
    ⟨(some 53), none, (.op (.len .str (.t 52)))⟩,
    ⟨(some 54), none, (.op (.bin .int false .add (.t 51) (.t 53)))⟩,
    ⟨(some 55), none, (.op (.sls (.t 50) (some (.t 54)) none))⟩,
    ⟨(some 0), none, (.op (.mv (.t 55)))⟩])
   (.live [9, 0, 1, 2, 3, 10] (.region [⟨(some 56), none, (.op (.mv (.t 10)))⟩,
    ⟨(some 57), none, (.op (.bin .int true .add (.t 56) (.c (.i .i64 1))))⟩,
    ⟨(some 10), none, (.op (.mv (.t 57)))⟩])))))))))))
def c65 : IFunc := ⟨4, [.tmp 8],
  .seq (.region [⟨(some 8), none, (.op (.mv (.c .sn)))⟩])
   (.live [3, 0, 1, 2] (.seq (.seq (.region [⟨(some 12), none, (.op (.mv (.t 3)))⟩,
    ⟨(some 13), none, (.op (.bin .int true .eql (.t 12) (.c (.i .i64 0))))⟩])
   (.live [3, 0, 1, 2, 13] (.cond (.t 13) (.seq (.region [⟨(some 8), none, (.op (.mv (.c .sn)))⟩])
   (.ret))
   (.skip))))
   (.live [3, 0, 1, 2] (.seq (.seq (.region [⟨(some 14), none, (.op (.mv (.t 1)))⟩,
    ⟨(some 15), none, (.op (.bin .str true .eql (.t 14) (.c (.s []))))⟩])
   (.live [3, 0, 1, 2, 15] (.cond (.t 15) (.seq (.region [⟨(some 16), none, (.op (.mv (.t 0)))⟩,
    ⟨(some 17), none, (.op (.mv (.t 3)))⟩,
    ⟨(some 18), none, (.call 93 [(.t 16), (.t 17)])⟩,
    ⟨(some 8), none, (.op (.mv (.t 18)))⟩])
   (.ret))
   (.skip))))
   (.live [0, 1, 2, 3] (.seq (.seq (.region [⟨(some 19), none, (.op (.mv (.t 3)))⟩,
    ⟨(some 20), none, (.op (.bin .int true .lss (.t 19) (.c (.i .i64 0))))⟩])
   (.live [0, 1, 2, 3, 20] (.cond (.t 20) (.region [⟨(some 21), none, (.op (.mv (.t 0)))⟩,
    ⟨(some 22), none, (.op (.mv (.t 1)))⟩,
    ⟨(some 23), none, (.call 94 [(.t 21), (.t 22)])⟩,
    ⟨(some 24), none, (.op (.bin .int true .add (.t 23) (.c (.i .i64 1))))⟩,
    ⟨(some 3), none, (.op (.mv (.t 24)))⟩])
   (.skip))))
   (.live [0, 1, 2, 3] (.seq (.region [⟨(some 25), none, (.op (.mv (.t 3)))⟩,
    ⟨(some 26), none, (.op (.mv (.t 0)))⟩,
    ⟨(some 27), none, (.op (.len .str (.t 26)))⟩,
    ⟨(some 28), none, (.op (.bin .int true .add (.t 27) (.c (.i .i64 1))))⟩,
    ⟨(some 29), none, (.op (.mm false [(.t 25), (.t 28)]))⟩,
    ⟨(some 3), none, (.op (.mv (.t 29)))⟩])
   (.live [0, 1, 2, 3] (.seq (.region [⟨(some 30), none, (.op (.mv (.t 3)))⟩,
    ⟨(some 31), none, (.op (.mks [(.s [])] 16 (.t 30) (.t 30)))⟩,
    ⟨(some 9), none, (.op (.mv (.t 31)))⟩])
   (.live [9, 0, 1, 2, 3] (.seq (.region [⟨(some 32), none, (.op (.mv (.t 3)))⟩,
    ⟨(some 33), none, (.op (.bin .int true .sub (.t 32) (.c (.i .i64 1))))⟩,
    ⟨(some 3), none, (.op (.mv (.t 33)))⟩])
   (.live [9, 0, 1, 2, 3] (.seq (.region [⟨(some 10), none, (.op (.mv (.c (.i .i64 0))))⟩])
   (.live [10, 9, 0, 1, 2, 3] (.seq (.block 0 (.loop [10, 9, 0, 1, 2, 3] c65l0))
   (.live [10, 9, 0] (.seq (.region [⟨(some 58), none, (.op (.mv (.t 9)))⟩,
    ⟨(some 59), none, (.op (.mv (.t 10)))⟩,
    ⟨(some 60), none, (.op (.mv (.t 0)))⟩,
    ⟨(some 61), none, (.op (.iaddr none 1 (.t 58) (.t 59)))⟩,
    ⟨none, none, (.op (.store 1 (.t 61) (.t 60)))⟩])
   (.live [10, 9] (.seq (.region [⟨(some 62), none, (.op (.mv (.t 9)))⟩,
    ⟨(some 63), none, (.op (.mv (.t 10)))⟩,
    ⟨(some 64), none, (.op (.bin .int true .add (.t 63) (.c (.i .i64 1))))⟩,
    ⟨(some 65), none, (.op (.slice 1 (.t 62) none (some (.t 64)) none))⟩,
    ⟨(some 8), none, (.op (.mv (.t 65)))⟩])
   (.ret))))))))))))))))))))),
  []⟩


/- strings.Cut -/

def c66 : IFunc := ⟨2, [.tmp 4, .tmp 5, .tmp 6],
  .seq (.region [⟨(some 4), none, (.op (.mv (.c (.s []))))⟩,
    ⟨(some 5), none, (.op (.mv (.c (.s []))))⟩,
    ⟨(some 6), none, (.op (.mv (.c (.b false))))⟩])
   (.live [1, 0] (.seq (.region [⟨(some 7), none, (.op (.mv (.t 0)))⟩,
    ⟨(some 8), none, (.op (.mv (.t 1)))⟩,
    ⟨(some 9), none, (.call 96 [(.t 7), (.t 8)])⟩,
    ⟨(some 10), none, (.op (.ext (.t 9) 0))⟩,
    ⟨(some 11), none, (.op (.ext (.t 9) 1))⟩,
    ⟨(some 12), none, (.op (.ext (.t 9) 2))⟩,
    ⟨(some 4), none, (.op (.mv (.t 10)))⟩,
    ⟨(some 5), none, (.op (.mv (.t 11)))⟩,
    ⟨(some 6), none, (.op (.mv (.t 12)))⟩])
   (.ret))),
  []⟩


/- floodgate/text.blank -/

def c67 : IFunc := ⟨1, [.tmp 2],
  .seq (.region [⟨(some 2), none, (.op (.mv (.c (.b false))))⟩])
   (.live [0] (.seq (.region [⟨(some 3), none, (.op (.mv (.t 0)))⟩,
    ⟨(some 4), none, (.op (.bin .int true .eql (.t 3) (.c (.i .u8 32))))⟩,
    ⟨(some 5), none, (.op (.mv (.t 4)))⟩,
    ⟨(some 6), some (5, false), (.op (.mv (.t 0)))⟩,
    ⟨(some 7), some (5, false), (.op (.bin .int true .eql (.t 6) (.c (.i .u8 9))))⟩,
    ⟨(some 8), none, (.op (.pick (.t 5) (.c (.b true)) (.t 7)))⟩,
    ⟨(some 9), none, (.op (.mv (.t 8)))⟩,
    ⟨(some 10), some (9, false), (.op (.mv (.t 0)))⟩,
    ⟨(some 11), some (9, false), (.op (.bin .int true .eql (.t 10) (.c (.i .u8 13))))⟩,
    ⟨(some 12), none, (.op (.pick (.t 9) (.c (.b true)) (.t 11)))⟩,
    ⟨(some 2), none, (.op (.mv (.t 12)))⟩])
   (.ret))),
  []⟩


/- slices.Index[[]string,string] -/
def c68l0 : ICode :=
  .seq (.region [⟨(some 9), none, (.op (.bin .int false .lss (.t 8) (.t 7)))⟩])
   (.live [0, 1, 7, 8, 9] (.seq (.cond (.t 9) (.skip)
   (.exit 0))
   (.live [0, 1, 7, 8] (.seq (.block 1 (.seq (.region [⟨(some 10), none, (.op (.mv (.t 8)))⟩,
    ⟨(some 5), none, (.op (.mv (.t 10)))⟩])
   (.live [5, 0, 1, 7, 8] (.seq (.region [⟨(some 11), none, (.op (.mv (.t 1)))⟩,
    ⟨(some 12), none, (.op (.mv (.t 0)))⟩,
    ⟨(some 13), none, (.op (.mv (.t 5)))⟩,
    ⟨(some 14), none, (.op (.iaddr none 1 (.t 12) (.t 13)))⟩,
    ⟨(some 15), none, (.op (.load none (.t 14)))⟩,
    ⟨(some 16), none, (.op (.bin .str false .eql (.t 11) (.t 15)))⟩])
   (.live [5, 0, 1, 7, 8, 16] (.cond (.t 16) (.seq (.region [⟨(some 17), none, (.op (.mv (.t 5)))⟩,
    ⟨(some 4), none, (.op (.mv (.t 17)))⟩])
   (.ret))
   (.skip)))))))
   (.live [0, 1, 7, 8] (.region [⟨(some 18), none, (.op (.bin .int true .add (.t 8) (.c (.i .i64 1))))⟩,
    ⟨(some 8), none, (.op (.mv (.t 18)))⟩]))))))
def c68 : IFunc := ⟨2, [.tmp 4],
  .seq (.region [⟨(some 4), none, (.op (.mv (.c (.i .i64 0))))⟩])
   (.live [0, 1] (.seq (.seq (.region [⟨(some 6), none, (.op (.mv (.t 0)))⟩,
    ⟨(some 7), none, (.op (.len .slice (.t 6)))⟩,
    ⟨(some 8), none, (.op (.mv (.c (.i .i64 0))))⟩])
   (.live [0, 1, 7, 8] (.block 0 (.loop [0, 1, 7, 8] c68l0))))
   (.live [] (.seq (.region [⟨(some 4), none, (.op (.mv (.c (.i .i64 (-1)))))⟩])
   (.ret))))),
  []⟩


/- floodgate/text.set -/

def c69 : IFunc := ⟨3, [.tmp 6],
  .seq (.region [⟨(some 6), none, (.op (.mv (.c (.b false))))⟩])
   (.live [0, 2, 1] (.seq (.seq (.region [⟨(some 11), none, (.op (.mv (.t 1)))⟩,
    ⟨(some 12), none, (.op (.bin .int true .eql (.t 11) (.c (.i .i64 1))))⟩])
   (.live [0, 2, 1, 12] (.cond (.t 12) (.seq (.region [⟨(some 14), none, (.op (.mv (.t 2)))⟩,
    ⟨(some 15), none, (.call 97 [(.t 14)])⟩,
    ⟨(some 13), none, (.op (.mv (.t 15)))⟩,
    ⟨(some 16), none, (.op (.ext (.t 13) 0))⟩,
    ⟨(some 17), none, (.op (.ext (.t 13) 1))⟩,
    ⟨(some 7), none, (.op (.fresh [(.i .u8 0), (.i .u8 0), (.i .u8 0), (.i .u8 0), (.i .i64 0)]))⟩,
    ⟨none, none, (.op (.store 5 (.t 7) (.t 16)))⟩,
    ⟨(some 8), none, (.op (.mv (.t 17)))⟩])
   (.live [8, 7, 0] (.seq (.region [⟨(some 18), none, (.op (.mv (.t 0)))⟩,
    ⟨(some 19), none, (.op (.load (some 5) (.t 7)))⟩,
    ⟨(some 20), none, (.op (.nilck (.t 18)))⟩,
    ⟨(some 21), none, (.op (.faddr 1 (.t 20)))⟩,
    ⟨none, none, (.op (.store 5 (.t 21) (.t 19)))⟩])
   (.live [8] (.seq (.region [⟨(some 22), none, (.op (.mv (.t 8)))⟩,
    ⟨(some 23), none, (.op (.bin .int true .eql (.t 22) (.c (.i .i64 0))))⟩,
    ⟨(some 6), none, (.op (.mv (.t 23)))⟩])
   (.ret))))))
   (.skip))))
   (.live [0, 1, 2] (.seq (.region [⟨(some 25), none, (.op (.mv (.t 2)))⟩,
    ⟨(some 26), none, (.call 11 [(.t 25)])⟩,
    ⟨(some 24), none, (.op (.mv (.t 26)))⟩,
    ⟨(some 27), none, (.op (.ext (.t 24) 0))⟩,
    ⟨(some 28), none, (.op (.ext (.t 24) 1))⟩,
    ⟨(some 9), none, (.op (.mv (.t 27)))⟩,
    ⟨(some 10), none, (.op (.mv (.t 28)))⟩])
   (.live [9, 10, 0, 1] (.seq (.seq (.region [⟨(some 29), none, (.op (.mv (.t 1)))⟩,
    ⟨(some 30), none, (.op (.bin .int true .eql (.t 29) (.c (.i .i64 0))))⟩])
   (.live [9, 10, 0, 1, 30] (.cond (.t 30) (.seq (.region [⟨(some 31), none, (.op (.mv (.t 0)))⟩,
    ⟨(some 32), none, (.op (.mv (.t 9)))⟩,
    ⟨(some 33), none, (.op (.mm false [(.t 32), (.c (.i .u64 255))]))⟩,
    ⟨(some 34), none, (.op (.toInt .i64 (.t 33)))⟩,
    ⟨(some 35), none, (.op (.nilck (.t 31)))⟩,
    ⟨(some 36), none, (.op (.faddr 0 (.t 35)))⟩,
    ⟨none, none, (.op (.store 1 (.t 36) (.t 34)))⟩])
   (.live [9, 10] (.seq (.region [⟨(some 37), none, (.op (.mv (.t 10)))⟩,
    ⟨(some 38), none, (.op (.mv (.t 37)))⟩,
    ⟨(some 39), some (38, true), (.op (.mv (.t 9)))⟩,
    ⟨(some 40), some (38, true), (.op (.bin .int true .leq (.t 39) (.c (.i .u64 255))))⟩,
    ⟨(some 41), none, (.op (.pick (.t 38) (.t 40) (.c (.b false))))⟩,
    ⟨(some 6), none, (.op (.mv (.t 41)))⟩])
   (.ret))))
   (.skip))))
   (.live [10, 9, 1, 0] (.seq (.region [⟨(some 42), none, (.op (.mv (.t 0)))⟩,
    ⟨(some 43), none, (.call 46 [(.t 42)])⟩,
    ⟨(some 44), none, (.op (.mv (.t 1)))⟩,
    ⟨(some 45), none, (.op (.bin .int true .sub (.t 44) (.c (.i .i64 2))))⟩,
    ⟨(some 46), none, (.op (.iaddr none 1 (.t 43) (.t 45)))⟩,
    ⟨(some 47), none, (.op (.load none (.t 46)))⟩,
    ⟨(some 48), none, (.op (.mv (.t 9)))⟩,
    ⟨(some 49), none, (.op (.nilck (.t 47)))⟩,
    ⟨none, none, (.op (.store 1 (.t 49) (.t 48)))⟩])
   (.live [10] (.seq (.region [⟨(some 50), none, (.op (.mv (.t 10)))⟩,
    ⟨(some 6), none, (.op (.mv (.t 50)))⟩])
   (.ret))))))))))),
  []⟩


/- slices.stableCmpFunc[floodgate/api.Policy] -/
def c70l0 : ICode :=
  .seq (.seq (.region [⟨(some 11), none, (.op (.mv (.t 8)))⟩,
    ⟨(some 12), none, (.op (.mv (.t 1)))⟩,
    ⟨(some 13), none, (.op (.bin .int false .leq (.t 11) (.t 12)))⟩])
   (.live [6, 2, 0, 1, 8, 7, 13] (.cond (.t 13) (.skip)
   (.exit 0))))
   (.live [6, 2, 0, 1, 8, 7] (.block 1 (.seq (.region [⟨(some 14), none, (.op (.mv (.t 0)))⟩,
    ⟨(some 15), none, (.op (.mv (.t 7)))⟩,
    ⟨(some 16), none, (.op (.mv (.t 8)))⟩,
    ⟨(some 17), none, (.op (.mv (.t 2)))⟩,
    ⟨(some 18), none, (.call 98 [(.t 14), (.t 15), (.t 16), (.t 17)])⟩])
   (.live [6, 2, 0, 1, 8] (.seq (.region [⟨(some 19), none, (.op (.mv (.t 8)))⟩,
    ⟨(some 7), none, (.op (.mv (.t 19)))⟩])
   (.live [6, 2, 0, 1, 7, 8] (.region [⟨(some 20), none, (.op (.mv (.t 8)))⟩,
    ⟨(some 21), none, (.op (.mv (.t 6)))⟩,
    ⟨(some 22), none, (.op (.bin .int false .add (.t 20) (.t 21)))⟩,
    ⟨(some 8), none, (.op (.mv (.t 22)))⟩])))))))
def c70l1 : ICode :=
  .seq (.seq (.region [⟨(some 33), none, (.op (.mv (.t 8)))⟩,
    ⟨(some 34), none, (.op (.mv (.t 1)))⟩,
    ⟨(some 35), none, (.op (.bin .int false .leq (.t 33) (.t 34)))⟩])
   (.live [6, 2, 0, 1, 8, 7, 35] (.cond (.t 35) (.skip)
   (.exit 4))))
   (.live [6, 2, 0, 1, 8, 7] (.block 5 (.seq (.region [⟨(some 36), none, (.op (.mv (.t 0)))⟩,
    ⟨(some 37), none, (.op (.mv (.t 7)))⟩,
    ⟨(some 38), none, (.op (.mv (.t 7)))⟩,
    ⟨(some 39), none, (.op (.mv (.t 6)))⟩,
    ⟨(some 40), none, (.op (.bin .int false .add (.t 38) (.t 39)))⟩,
    ⟨(some 41), none, (.op (.mv (.t 8)))⟩,
    ⟨(some 42), none, (.op (.mv (.t 2)))⟩,
    ⟨(some 43), none, (.call 99 [(.t 36), (.t 37), (.t 40), (.t 41), (.t 42)])⟩])
   (.live [6, 2, 0, 1, 8] (.seq (.region [⟨(some 44), none, (.op (.mv (.t 8)))⟩,
    ⟨(some 7), none, (.op (.mv (.t 44)))⟩])
   (.live [6, 2, 0, 1, 7, 8] (.region [⟨(some 45), none, (.op (.mv (.t 8)))⟩,
    ⟨(some 46), none, (.op (.mv (.t 6)))⟩,
    ⟨(some 47), none, (.op (.bin .int true .mul (.c (.i .i64 2)) (.t 46)))⟩,
    ⟨(some 48), none, (.op (.bin .int false .add (.t 45) (.t 47)))⟩,
    ⟨(some 8), none, (.op (.mv (.t 48)))⟩])))))))
def c70l2 : ICode :=
  .seq (.seq (.region [⟨(some 28), none, (.op (.mv (.t 6)))⟩,
    ⟨(some 29), none, (.op (.mv (.t 1)))⟩,
    ⟨(some 30), none, (.op (.bin .int false .lss (.t 28) (.t 29)))⟩])
   (.live [6, 2, 0, 1, 30] (.cond (.t 30) (.skip)
   (.exit 2))))
   (.live [6, 2, 0, 1] (.block 3 (.seq (.region [⟨(some 31), none, (.op (.mv (.t 6)))⟩,
    ⟨(some 32), none, (.op (.bin .int true .mul (.c (.i .i64 2)) (.t 31)))⟩,
    ⟨(some 7), none, (.op (.mv (.c (.i .i64 0))))⟩,
    ⟨(some 8), none, (.op (.mv (.t 32)))⟩])
   (.live [6, 2, 0, 1, 8, 7] (.seq (.block 4 (.loop [6, 2, 0, 1, 8, 7] c70l1))
   (.live [2, 0, 1, 6, 7] (.seq (.seq (.region [⟨(some 49), none, (.op (.mv (.t 7)))⟩,
    ⟨(some 50), none, (.op (.mv (.t 6)))⟩,
    ⟨(some 51), none, (.op (.bin .int false .add (.t 49) (.t 50)))⟩,
    ⟨(some 9), none, (.op (.mv (.t 51)))⟩])
   (.live [2, 0, 1, 6, 9, 7] (.seq (.region [⟨(some 52), none, (.op (.mv (.t 9)))⟩,
    ⟨(some 53), none, (.op (.mv (.t 1)))⟩,
    ⟨(some 54), none, (.op (.bin .int false .lss (.t 52) (.t 53)))⟩])
   (.live [2, 0, 1, 6, 9, 7, 54] (.cond (.t 54) (.region [⟨(some 55), none, (.op (.mv (.t 0)))⟩,
    ⟨(some 56), none, (.op (.mv (.t 7)))⟩,
    ⟨(some 57), none, (.op (.mv (.t 9)))⟩,
    ⟨(some 58), none, (.op (.mv (.t 1)))⟩,
    ⟨(some 59), none, (.op (.mv (.t 2)))⟩,
    ⟨(some 60), none, (.call 99 [(.t 55), (.t 56), (.t 57), (.t 58), (.t 59)])⟩])
   (.skip))))))
   (.live [2, 0, 1, 6] (.region [⟨(some 61), none, (.op (.mv (.t 6)))⟩,
    ⟨(some 62), none, (.op (.bin .int true .mul (.t 61) (.c (.i .i64 2))))⟩,
    ⟨(some 6), none, (.op (.mv (.t 62)))⟩])))))))))
def c70 : IFunc := ⟨3, [],
  .seq (.region [⟨(some 6), none, (.op (.mv (.c (.i .i64 20))))⟩])
   (.live [6, 2, 0, 1] (.seq (.region [⟨(some 10), none, (.op (.mv (.t 6)))⟩,
    ⟨(some 7), none, (.op (.mv (.c (.i .i64 0))))⟩,
    ⟨(some 8), none, (.op (.mv (.t 10)))⟩])
   (.live [6, 2, 0, 1, 8, 7] (.seq (.block 0 (.loop [6, 2, 0, 1, 8, 7] c70l0))
   (.live [6, 2, 0, 1, 7] (.seq (.region [⟨(some 23), none, (.op (.mv (.t 0)))⟩,
    ⟨(some 24), none, (.op (.mv (.t 7)))⟩,
    ⟨(some 25), none, (.op (.mv (.t 1)))⟩,
    ⟨(some 26), none, (.op (.mv (.t 2)))⟩,
    ⟨(some 27), none, (.call 98 [(.t 23), (.t 24), (.t 25), (.t 26)])⟩])
   (.live [6, 2, 0, 1] (.block 2 (.loop [6, 2, 0, 1] c70l2))))))))),
  []⟩


/- cmp.isNaN[int] -/

def c71 : IFunc := ⟨1, [.tmp 2],
  .seq (.region [⟨(some 2), none, (.op (.mv (.c (.b false))))⟩])
   (.live [0] (.seq (.region [⟨(some 3), none, (.op (.mv (.t 0)))⟩,
    ⟨(some 4), none, (.op (.mv (.t 0)))⟩,
    ⟨(some 5), none, (.op (.bin .int false .neq (.t 3) (.t 4)))⟩,
    ⟨(some 2), none, (.op (.mv (.t 5)))⟩])
   (.ret))),
  []⟩


/- floodgate/policy.Right -/

def c72 : IFunc := ⟨1, [.tmp 2],
  .seq (.region [⟨(some 1), none, (.op (.box (.t 0)))⟩,
    ⟨(some 2), none, (.op (.mv (.c (.b false))))⟩])
   (.live [1] (.seq (.region [⟨(some 3), none, (.op (.mv (.c (.f (.func 100) [] []))))⟩])
   (.live [3, 1] (.seq (.region [⟨(some 4), none, (.op (.mv (.c (.f (.func 101) [] []))))⟩])
   (.live [4, 3, 1] (.seq (.region [⟨(some 6), none, (.op (.faddr 11 (.t 1)))⟩,
    ⟨(some 7), none, (.op (.load none (.t 6)))⟩,
    ⟨(some 8), none, (.op (.faddr 12 (.t 1)))⟩,
    ⟨(some 9), none, (.op (.load none (.t 8)))⟩,
    ⟨(some 10), none, (.op (.bslice [(.i .u64 0)] 2 [(0, 1, (.t 7)), (1, 1, (.t 9))]))⟩,
    ⟨(some 5), none, (.op (.mv (.t 10)))⟩])
   (.live [4, 5, 3, 1] (.seq (.block 0 (.seq (.region [⟨(some 12), none, (.op (.faddr 0 (.t 1)))⟩,
    ⟨(some 13), none, (.op (.load none (.t 12)))⟩,
    ⟨(some 14), none, (.op (.bin .int true .lss (.t 13) (.c (.i .i64 1))))⟩,
    ⟨(some 15), none, (.op (.mv (.t 14)))⟩,
    ⟨(some 16), some (15, false), (.op (.faddr 0 (.t 1)))⟩,
    ⟨(some 17), some (15, false), (.op (.load none (.t 16)))⟩,
    ⟨(some 18), some (15, false), (.op (.bin .int true .gtr (.t 17) (.c (.i .i64 255))))⟩,
    ⟨(some 19), none, (.op (.pick (.t 15) (.c (.b true)) (.t 18)))⟩,
    ⟨(some 20), none, (.op (.mv (.t 19)))⟩,
    ⟨(some 21), some (20, false), (.op (.faddr 1 (.t 1)))⟩,
    ⟨(some 22), some (20, false), (.op (.load (some 5) (.t 21)))⟩,
    ⟨(some 23), some (20, false), (.call 102 [(.t 22)])⟩,
    ⟨(some 24), some (20, false), (.op (.un .not (.t 23)))⟩,
    ⟨(some 25), none, (.op (.pick (.t 20) (.c (.b true)) (.t 24)))⟩,
    ⟨(some 11), none, (.op (.mv (.t 25)))⟩])
   (.live [4, 5, 3, 1, 11] (.cond (.t 11) (.seq (.region [⟨(some 2), none, (.op (.mv (.c (.b false))))⟩])
   (.ret))
   (.seq (.region [⟨(some 27), none, (.op (.mv (.t 5)))⟩,
    ⟨(some 28), none, (.op (.faddr 6 (.t 1)))⟩,
    ⟨(some 29), none, (.op (.load none (.t 28)))⟩,
    ⟨(some 30), none, (.op (.faddr 7 (.t 1)))⟩,
    ⟨(some 31), none, (.op (.load none (.t 30)))⟩,
    ⟨(some 32), none, (.op (.faddr 8 (.t 1)))⟩,
    ⟨(some 33), none, (.op (.load none (.t 32)))⟩,
    ⟨(some 34), none, (.op (.faddr 9 (.t 1)))⟩,
    ⟨(some 35), none, (.op (.load none (.t 34)))⟩,
    ⟨(some 36), none, (.op (.faddr 10 (.t 1)))⟩,
    ⟨(some 37), none, (.op (.load none (.t 36)))⟩,
    ⟨(some 38), none, (.op (.bslice [(.i .u64 0)] 5 [(0, 1, (.t 29)), (1, 1, (.t 31)), (2, 1, (.t 33)), (3, 1, (.t 35)), (4, 1, (.t 37))]))⟩,
    ⟨(some 39), none, (.op (.app 1 8 (.t 27) (.t 38)))⟩,
    ⟨(some 40), none, (.op (.mv (.t 3)))⟩,
    ⟨(some 41), none, (.call 103 [(.t 39), (.t 40)])⟩,
    ⟨(some 26), none, (.op (.mv (.t 41)))⟩])
   (.live [4, 5, 26] (.cond (.t 26) (.seq (.region [⟨(some 2), none, (.op (.mv (.c (.b false))))⟩])
   (.ret))
   (.skip))))))))
   (.live [4, 5] (.seq (.region [⟨(some 42), none, (.op (.mv (.t 5)))⟩,
    ⟨(some 43), none, (.op (.mv (.t 4)))⟩,
    ⟨(some 44), none, (.call 103 [(.t 42), (.t 43)])⟩,
    ⟨(some 45), none, (.op (.un .not (.t 44)))⟩,
    ⟨(some 2), none, (.op (.mv (.t 45)))⟩])
   (.ret))))))))))),
  []⟩


/- (*strings.Builder).copyCheck -/

def c74 : IFunc := ⟨1, [],
  .seq (.region [⟨(some 2), none, (.op (.mv (.t 0)))⟩,
    ⟨(some 3), none, (.op (.nilck (.t 2)))⟩,
    ⟨(some 4), none, (.op (.faddr 0 (.t 3)))⟩,
    ⟨(some 5), none, (.op (.load none (.t 4)))⟩,
    ⟨(some 6), none, (.op (.bin .ptr true .eql (.t 5) (.c .pn)))⟩])
   (.live [0, 6] (.cond (.t 6) (.region [⟨(some 7), none, (.op (.mv (.t 0)))⟩,
    ⟨(some 8), none, (.op (.mv (.t 0)))⟩,
    ⟨(some 9), none, (.op (.bad))⟩,
    ⟨(some 10), none, (.op (.bad))⟩,
    ⟨(some 11), none, (.op (.bad))⟩,
    ⟨(some 12), none, (.op (.nilck (.t 7)))⟩,
    ⟨(some 13), none, (.op (.faddr 0 (.t 12)))⟩,
    ⟨none, none, (.op (.store 1 (.t 13) (.t 11)))⟩])
   (.seq (.region [⟨(some 14), none, (.op (.mv (.t 0)))⟩,
    ⟨(some 15), none, (.op (.nilck (.t 14)))⟩,
    ⟨(some 16), none, (.op (.faddr 0 (.t 15)))⟩,
    ⟨(some 17), none, (.op (.load none (.t 16)))⟩,
    ⟨(some 18), none, (.op (.mv (.t 0)))⟩,
    ⟨(some 19), none, (.op (.bin .ptr false .neq (.t 17) (.t 18)))⟩])
   (.live [19] (.cond (.t 19) (.bad)
   (.skip)))))),
  []⟩


/- internal/strconv.Itoa -/

def c75 : IFunc := ⟨1, [.tmp 2],
  .seq (.region [⟨(some 2), none, (.op (.mv (.c (.s []))))⟩])
   (.live [0] (.seq (.region [⟨(some 3), none, (.op (.mv (.t 0)))⟩,
    ⟨(some 4), none, (.call 106 [(.t 3), (.c (.i .i64 10))])⟩,
    ⟨(some 2), none, (.op (.mv (.t 4)))⟩])
   (.ret))),
  []⟩


/- internal/strconv.FormatUint -/

def c76 : IFunc := ⟨2, [.tmp 4],
  .seq (.region [⟨(some 4), none, (.op (.mv (.c (.s []))))⟩])
   (.live [0, 1] (.seq (.seq (.region [⟨(some 9), none, (.op (.mv (.t 1)))⟩,
    ⟨(some 10), none, (.op (.bin .int true .eql (.t 9) (.c (.i .i64 10))))⟩])
   (.live [0, 1, 10] (.cond (.t 10) (.seq (.seq (.region [⟨(some 11), none, (.op (.mv (.t 0)))⟩,
    ⟨(some 12), none, (.op (.bin .int true .lss (.t 11) (.c (.i .u64 100))))⟩])
   (.live [0, 12] (.cond (.t 12) (.seq (.region [⟨(some 13), none, (.op (.mv (.t 0)))⟩,
    ⟨(some 14), none, (.op (.toInt .i64 (.t 13)))⟩,
    ⟨(some 15), none, (.call 107 [(.t 14)])⟩,
    ⟨(some 4), none, (.op (.mv (.t 15)))⟩])
   (.ret))
   (.skip))))
   (.live [0] (.seq (.region [⟨(some 5), none, (.op (.fresh [(.i .u8 0), (.i .u8 0), (.i .u8 0), (.i .u8 0), (.i .u8 0), (.i .u8 0), (.i .u8 0), (.i .u8 0), (.i .u8 0), (.i .u8 0), (.i .u8 0), (.i .u8 0), (.i .u8 0), (.i .u8 0), (.i .u8 0), (.i .u8 0), (.i .u8 0), (.i .u8 0), (.i .u8 0), (.i .u8 0), (.i .u8 0), (.i .u8 0), (.i .u8 0), (.i .u8 0)]))⟩])
   (.live [5, 0] (.seq (.region [⟨(some 16), none, (.op (.mv (.t 0)))⟩,
    ⟨(some 17), none, (.call 108 [(.t 16)])⟩,
    ⟨(some 6), none, (.op (.mv (.t 17)))⟩])
   (.live [5, 6, 0] (.seq (.region [⟨(some 18), none, (.op (.mv (.t 6)))⟩,
    ⟨(some 19), none, (.op (.sla 24 1 (.t 5) none (some (.t 18)) none))⟩,
    ⟨(some 20), none, (.op (.mv (.t 0)))⟩,
    ⟨(some 21), none, (.call 109 [(.t 19), (.t 20)])⟩])
   (.live [5, 6] (.seq (.region [⟨(some 22), none, (.op (.mv (.t 6)))⟩,
    ⟨(some 23), none, (.op (.sla 24 1 (.t 5) none (some (.t 22)) none))⟩,
    ⟨(some 24), none, (.op (.toStr (.t 23)))⟩,
    ⟨(some 4), none, (.op (.mv (.t 24)))⟩])
   (.ret))))))))))
   (.skip))))
   (.live [1, 0] (.seq (.region [⟨(some 26), none, (.op (.mv (.t 0)))⟩,
    ⟨(some 27), none, (.op (.mv (.t 1)))⟩,
    ⟨(some 28), none, (.call 110 [(.c .sn), (.t 26), (.t 27), (.c (.b false)), (.c (.b false))])⟩,
    ⟨(some 25), none, (.op (.mv (.t 28)))⟩,
    ⟨(some 29), none, (.op (.ext (.t 25) 0))⟩,
    ⟨(some 30), none, (.op (.ext (.t 25) 1))⟩,
    ⟨(some 7), none, (.op (.mv (.t 29)))⟩,
    ⟨(some 8), none, (.op (.mv (.t 30)))⟩])
   (.live [8] (.seq (.region [⟨(some 31), none, (.op (.mv (.t 8)))⟩,
    ⟨(some 4), none, (.op (.mv (.t 31)))⟩])
   (.ret))))))),
  []⟩


/- internal/stringslite.CutSuffix -/

def c82 : IFunc := ⟨2, [.tmp 4, .tmp 5],
  .seq (.region [⟨(some 4), none, (.op (.mv (.c (.s []))))⟩,
    ⟨(some 5), none, (.op (.mv (.c (.b false))))⟩])
   (.live [0, 1] (.seq (.seq (.region [⟨(some 6), none, (.op (.mv (.t 0)))⟩,
    ⟨(some 7), none, (.op (.mv (.t 1)))⟩,
    ⟨(some 8), none, (.call 115 [(.t 6), (.t 7)])⟩,
    ⟨(some 9), none, (.op (.un .not (.t 8)))⟩])
   (.live [0, 1, 9] (.cond (.t 9) (.seq (.region [⟨(some 10), none, (.op (.mv (.t 0)))⟩,
    ⟨(some 4), none, (.op (.mv (.t 10)))⟩,
    ⟨(some 5), none, (.op (.mv (.c (.b false))))⟩])
   (.ret))
   (.skip))))
   (.live [1, 0] (.seq (.region [⟨(some 11), none, (.op (.mv (.t 0)))⟩,
    ⟨(some 12), none, (.op (.mv (.t 0)))⟩,
    ⟨(some 13), none, (.op (.len .str (.t 12)))⟩,
    ⟨(some 14), none, (.op (.mv (.t 1)))⟩,
    ⟨(some 15), none, (.op (.len .str (.t 14)))⟩,
    ⟨(some 16), none, (.op (.bin .int false .sub (.t 13) (.t 15)))⟩,
    ⟨(some 17), none, (.op (.sls (.t 11) none (some (.t 16))))⟩,
    ⟨(some 4), none, (.op (.mv (.t 17)))⟩,
    ⟨(some 5), none, (.op (.mv (.c (.b true))))⟩])
   (.ret))))),
  []⟩


/- (*strings.asciiSet).contains -/

def c83 : IFunc := ⟨2, [.tmp 4],
  .seq (.region [⟨(some 4), none, (.op (.mv (.c (.b false))))⟩])
   (.live [1, 0] (.seq (.region [⟨(some 5), none, (.op (.mv (.t 0)))⟩,
    ⟨(some 6), none, (.op (.mv (.t 1)))⟩,
    ⟨(some 7), none, (.op (.nilck (.t 5)))⟩,
    ⟨(some 8), none, (.op (.iaddr (some 256) 1 (.t 7) (.t 6)))⟩,
    ⟨(some 9), none, (.op (.load none (.t 8)))⟩,
    ⟨(some 4), none, (.op (.mv (.t 9)))⟩])
   (.ret))),
  []⟩


/- strings.Count -/
def c94l0 : ICode :=
  .block 1 (.seq (.region [⟨(some 20), none, (.op (.mv (.t 0)))⟩,
    ⟨(some 21), none, (.op (.mv (.t 1)))⟩,
    ⟨(some 22), none, (.call 95 [(.t 20), (.t 21)])⟩,
    ⟨(some 6), none, (.op (.mv (.t 22)))⟩])
   (.live [5, 1, 6, 0] (.seq (.seq (.region [⟨(some 23), none, (.op (.mv (.t 6)))⟩,
    ⟨(some 24), none, (.op (.bin .int true .eql (.t 23) (.c (.i .i64 (-1)))))⟩])
   (.live [5, 1, 6, 0, 24] (.cond (.t 24) (.seq (.region [⟨(some 25), none, (.op (.mv (.t 5)))⟩,
    ⟨(some 4), none, (.op (.mv (.t 25)))⟩])
   (.ret))
   (.skip))))
   (.live [1, 6, 0, 5] (.seq (.region [⟨(some 26), none, (.op (.mv (.t 5)))⟩,
    ⟨(some 27), none, (.op (.bin .int true .add (.t 26) (.c (.i .i64 1))))⟩,
    ⟨(some 5), none, (.op (.mv (.t 27)))⟩])
   (.live [5, 1, 6, 0] (.region [⟨(some 28), none, (.op (.mv (.t 0)))⟩,
    ⟨(some 29), none, (.op (.mv (.t 6)))⟩,
    ⟨(some 30), none, (.op (.mv (.t 1)))⟩,
    ⟨(some 31), none, (.op (.len .str (.t 30)))⟩,
    ⟨(some 32), none, (.op (.bin .int false .add (.t 29) (.t 31)))⟩,
    ⟨(some 33), none, (.op (.sls (.t 28) (some (.t 32)) none))⟩,
    ⟨(some 0), none, (.op (.mv (.t 33)))⟩])))))))
def c94 : IFunc := ⟨2, [.tmp 4],
  .seq (.region [⟨(some 4), none, (.op (.mv (.c (.i .i64 0))))⟩])
   (.live [0, 1] (.seq (.seq (.region [⟨(some 7), none, (.op (.mv (.t 1)))⟩,
    ⟨(some 8), none, (.op (.len .str (.t 7)))⟩,
    ⟨(some 9), none, (.op (.bin .int true .eql (.t 8) (.c (.i .i64 0))))⟩])
   (.live [0, 1, 9] (.cond (.t 9) (.seq (.region [⟨(some 10), none, (.op (.mv (.t 0)))⟩,
    ⟨(some 11), none, (.call 121 [(.t 10)])⟩,
    ⟨(some 12), none, (.op (.bin .int true .add (.t 11) (.c (.i .i64 1))))⟩,
    ⟨(some 4), none, (.op (.mv (.t 12)))⟩])
   (.ret))
   (.skip))))
   (.live [1, 0] (.seq (.seq (.region [⟨(some 13), none, (.op (.mv (.t 1)))⟩,
    ⟨(some 14), none, (.op (.len .str (.t 13)))⟩,
    ⟨(some 15), none, (.op (.bin .int true .eql (.t 14) (.c (.i .i64 1))))⟩])
   (.live [1, 0, 15] (.cond (.t 15) (.seq (.region [⟨(some 16), none, (.op (.mv (.t 0)))⟩,
    ⟨(some 17), none, (.op (.mv (.t 1)))⟩,
    ⟨(some 18), none, (.op (.ixs (.t 17) (.c (.i .i64 0))))⟩,
    ⟨(some 19), none, (.op (.bad))⟩,
    ⟨(some 4), none, (.op (.mv (.t 19)))⟩])
   (.ret))
   (.skip))))
   (.live [1, 0] (.seq (.region [⟨(some 5), none, (.op (.mv (.c (.i .i64 0))))⟩])
   (.live [5, 1, 0] (.block 0 (.loop [5, 1, 0] c94l0))))))))),
  []⟩


/- strings.Index -/

def c95 : IFunc := ⟨2, [.tmp 4],
  .seq (.region [⟨(some 4), none, (.op (.mv (.c (.i .i64 0))))⟩])
   (.live [1, 0] (.seq (.region [⟨(some 5), none, (.op (.mv (.t 0)))⟩,
    ⟨(some 6), none, (.op (.mv (.t 1)))⟩,
    ⟨(some 7), none, (.call 123 [(.t 5), (.t 6)])⟩,
    ⟨(some 4), none, (.op (.mv (.t 7)))⟩])
   (.ret))),
  []⟩


/- internal/stringslite.Cut -/
def c96d0 : List Stage :=
  [⟨[(⟨(some 13), none, (.op (.mv (.t 0)))⟩, 0), (⟨(some 14), none, (.op (.mv (.t 7)))⟩, 0), (⟨(some 15), none, (.op (.sls (.t 13) none (some (.t 14))))⟩, 0), (⟨(some 16), none, (.op (.mv (.t 0)))⟩, 0), (⟨(some 17), none, (.op (.mv (.t 7)))⟩, 0), (⟨(some 18), none, (.op (.mv (.t 1)))⟩, 0), (⟨(some 19), none, (.op (.len .str (.t 18)))⟩, 0), (⟨(some 20), none, (.op (.bin .int false .add (.t 17) (.t 19)))⟩, 0), (⟨(some 21), none, (.op (.sls (.t 16) (some (.t 20)) none))⟩, 0), (⟨(some 4), none, (.op (.mv (.t 15)))⟩, 0), (⟨(some 5), none, (.op (.mv (.t 21)))⟩, 0), (⟨(some 6), none, (.op (.mv (.c (.b true))))⟩, 0)], none, none⟩]
def c96d0w : List (ROp × Bool) :=
  [(⟨(some 13), none, (.op (.mv (.t 0)))⟩, false), (⟨(some 14), none, (.op (.mv (.t 7)))⟩, false), (⟨(some 15), none, (.op (.sls (.t 13) none (some (.t 14))))⟩, false), (⟨(some 16), none, (.op (.mv (.t 0)))⟩, false), (⟨(some 17), none, (.op (.mv (.t 7)))⟩, false), (⟨(some 18), none, (.op (.mv (.t 1)))⟩, false), (⟨(some 19), none, (.op (.len .str (.t 18)))⟩, false), (⟨(some 20), none, (.op (.bin .int false .add (.t 17) (.t 19)))⟩, false), (⟨(some 21), none, (.op (.sls (.t 16) (some (.t 20)) none))⟩, false), (⟨(some 4), none, (.op (.mv (.t 15)))⟩, false), (⟨(some 5), none, (.op (.mv (.t 21)))⟩, false), (⟨(some 6), none, (.op (.mv (.c (.b true))))⟩, false)]
theorem c96d0_w {P : Program} {O : Orc} {S0 : Mem} {rd : Bool} {e : Env} {S : Mem} {d : List Nat} {Q : Kont} : W P O S0 rd (.draw c96d0 []) e S d Q = wFl O c96d0w e S (normK Q d) := W_draw' (by kernel_rfl) (by kernel_rfl)
attribute [go_sem] c96d0_w c96d0w
def c96 : IFunc := ⟨2, [.tmp 4, .tmp 5, .tmp 6],
  .seq (.region [⟨(some 4), none, (.op (.mv (.c (.s []))))⟩,
    ⟨(some 5), none, (.op (.mv (.c (.s []))))⟩,
    ⟨(some 6), none, (.op (.mv (.c (.b false))))⟩])
   (.live [0, 1] (.seq (.seq (.region [⟨(some 8), none, (.op (.mv (.t 0)))⟩,
    ⟨(some 9), none, (.op (.mv (.t 1)))⟩,
    ⟨(some 10), none, (.call 123 [(.t 8), (.t 9)])⟩,
    ⟨(some 7), none, (.op (.mv (.t 10)))⟩])
   (.live [0, 7, 1] (.seq (.region [⟨(some 11), none, (.op (.mv (.t 7)))⟩,
    ⟨(some 12), none, (.op (.bin .int true .geq (.t 11) (.c (.i .i64 0))))⟩])
   (.live [0, 7, 1, 12] (.cond (.t 12) (.seq (.draw c96d0 [])
   (.ret))
   (.skip))))))
   (.live [0] (.seq (.region [⟨(some 22), none, (.op (.mv (.t 0)))⟩,
    ⟨(some 4), none, (.op (.mv (.t 22)))⟩,
    ⟨(some 5), none, (.op (.mv (.c (.s []))))⟩,
    ⟨(some 6), none, (.op (.mv (.c (.b false))))⟩])
   (.ret))))),
  []⟩


/- floodgate/addr.ParseNet -/

def c97 : IFunc := ⟨1, [.cell 2 (some 5), .tmp 3],
  .seq (.region [⟨(some 2), none, (.op (.fresh [(.i .u8 0), (.i .u8 0), (.i .u8 0), (.i .u8 0), (.i .i64 0)]))⟩,
    ⟨(some 3), none, (.op (.mv (.c (.i .i64 0))))⟩])
   (.live [2, 0] (.seq (.region [⟨(some 13), none, (.op (.mv (.t 0)))⟩,
    ⟨(some 14), none, (.call 66 [(.t 13), (.c (.s [47]))])⟩,
    ⟨(some 12), none, (.op (.mv (.t 14)))⟩,
    ⟨(some 15), none, (.op (.ext (.t 12) 0))⟩,
    ⟨(some 16), none, (.op (.ext (.t 12) 1))⟩,
    ⟨(some 17), none, (.op (.ext (.t 12) 2))⟩,
    ⟨(some 4), none, (.op (.mv (.t 15)))⟩,
    ⟨(some 5), none, (.op (.mv (.t 16)))⟩,
    ⟨(some 6), none, (.op (.mv (.t 17)))⟩])
   (.live [2, 5, 4] (.seq (.region [⟨(some 19), none, (.op (.mv (.t 4)))⟩,
    ⟨(some 20), none, (.call 124 [(.t 19)])⟩,
    ⟨(some 18), none, (.op (.mv (.t 20)))⟩,
    ⟨(some 21), none, (.op (.ext (.t 18) 0))⟩,
    ⟨(some 22), none, (.op (.ext (.t 18) 1))⟩,
    ⟨(some 7), none, (.op (.fresh [(.i .u8 0), (.i .u8 0), (.i .u8 0), (.i .u8 0)]))⟩,
    ⟨none, none, (.op (.store 4 (.t 7) (.t 21)))⟩,
    ⟨(some 8), none, (.op (.mv (.t 22)))⟩])
   (.live [2, 8, 7, 5] (.seq (.region [⟨(some 24), none, (.op (.mv (.t 5)))⟩,
    ⟨(some 25), none, (.call 125 [(.t 24), (.c (.i .i64 32))])⟩,
    ⟨(some 23), none, (.op (.mv (.t 25)))⟩,
    ⟨(some 26), none, (.op (.ext (.t 23) 0))⟩,
    ⟨(some 27), none, (.op (.ext (.t 23) 1))⟩,
    ⟨(some 9), none, (.op (.mv (.t 26)))⟩,
    ⟨(some 10), none, (.op (.mv (.t 27)))⟩])
   (.live [2, 10, 8, 9, 7] (.seq (.region [⟨(some 28), none, (.op (.load (some 4) (.t 7)))⟩,
    ⟨(some 29), none, (.op (.mv (.t 9)))⟩,
    ⟨(some 30), none, (.op (.build [(.i .u8 0), (.i .u8 0), (.i .u8 0), (.i .u8 0), (.i .i64 0)] [(0, 4, (.t 28)), (4, 1, (.t 29))]))⟩,
    ⟨(some 11), none, (.op (.fresh [(.i .u8 0), (.i .u8 0), (.i .u8 0), (.i .u8 0), (.i .i64 0)]))⟩,
    ⟨none, none, (.op (.store 5 (.t 11) (.t 30)))⟩])
   (.live [2, 11, 10, 8] (.seq (.seq (.region [⟨(some 31), none, (.op (.mv (.t 8)))⟩,
    ⟨(some 32), none, (.op (.bin .int true .neq (.t 31) (.c (.i .i64 0))))⟩,
    ⟨(some 33), none, (.op (.mv (.t 32)))⟩,
    ⟨(some 34), some (33, false), (.op (.mv (.t 10)))⟩,
    ⟨(some 35), some (33, false), (.op (.un .not (.t 34)))⟩,
    ⟨(some 36), none, (.op (.pick (.t 33) (.c (.b true)) (.t 35)))⟩,
    ⟨(some 37), none, (.op (.mv (.t 36)))⟩,
    ⟨(some 38), some (37, false), (.op (.load (some 5) (.t 11)))⟩,
    ⟨(some 39), some (37, false), (.call 102 [(.t 38)])⟩,
    ⟨(some 40), some (37, false), (.op (.un .not (.t 39)))⟩,
    ⟨(some 41), none, (.op (.pick (.t 37) (.c (.b true)) (.t 40)))⟩])
   (.live [2, 11, 41] (.cond (.t 41) (.seq (.region [⟨(some 42), none, (.op (.build [(.i .u8 0), (.i .u8 0), (.i .u8 0), (.i .u8 0), (.i .i64 0)] []))⟩,
    ⟨none, none, (.op (.store 5 (.t 2) (.t 42)))⟩,
    ⟨(some 3), none, (.op (.mv (.c (.i .i64 41))))⟩])
   (.ret))
   (.skip))))
   (.live [2, 11] (.seq (.region [⟨(some 43), none, (.op (.load (some 5) (.t 11)))⟩,
    ⟨none, none, (.op (.store 5 (.t 2) (.t 43)))⟩,
    ⟨(some 3), none, (.op (.mv (.c (.i .i64 0))))⟩])
   (.ret))))))))))))),
  []⟩


/- slices.insertionSortCmpFunc[floodgate/api.Policy] -/
def c98d0 : List Stage :=
  [⟨[(⟨(some 18), none, (.op (.mv (.t 9)))⟩, 0), (⟨(some 19), none, (.op (.mv (.t 1)))⟩, 0), (⟨(some 20), none, (.op (.bin .int false .gtr (.t 18) (.t 19)))⟩, 0), (⟨(some 21), none, (.op (.mv (.t 20)))⟩, 0), (⟨(some 22), some (21, true), (.op (.mv (.t 3)))⟩, 0), (⟨(some 23), some (21, true), (.op (.mv (.t 0)))⟩, 0), (⟨(some 24), some (21, true), (.op (.mv (.t 9)))⟩, 0), (⟨(some 25), some (21, true), (.op (.iaddr none 13 (.t 23) (.t 24)))⟩, 0), (⟨(some 26), some (21, true), (.op (.load (some 13) (.t 25)))⟩, 0), (⟨(some 27), some (21, true), (.op (.mv (.t 0)))⟩, 0), (⟨(some 28), some (21, true), (.op (.mv (.t 9)))⟩, 0), (⟨(some 29), some (21, true), (.op (.bin .int true .sub (.t 28) (.c (.i .i64 1))))⟩, 0), (⟨(some 30), some (21, true), (.op (.iaddr none 13 (.t 27) (.t 29)))⟩, 0), (⟨(some 31), some (21, true), (.op (.load (some 13) (.t 30)))⟩, 0)], none, some ⟨(some 32), some (21, true), (.callv (.t 22) [(.t 26), (.t 31)])⟩⟩,
    ⟨[(⟨(some 33), some (21, true), (.op (.bin .int true .lss (.t 32) (.c (.i .i64 0))))⟩, 1), (⟨(some 34), none, (.op (.pick (.t 21) (.t 33) (.c (.b false))))⟩, 1)], none, none⟩]
def c98d0w : List (ROp × Bool) :=
  [(⟨(some 18), none, (.op (.mv (.t 9)))⟩, false), (⟨(some 19), none, (.op (.mv (.t 1)))⟩, false), (⟨(some 20), none, (.op (.bin .int false .gtr (.t 18) (.t 19)))⟩, false), (⟨(some 21), none, (.op (.mv (.t 20)))⟩, false), (⟨(some 22), some (21, true), (.op (.mv (.t 3)))⟩, false), (⟨(some 23), some (21, true), (.op (.mv (.t 0)))⟩, false), (⟨(some 24), some (21, true), (.op (.mv (.t 9)))⟩, false), (⟨(some 25), some (21, true), (.op (.iaddr none 13 (.t 23) (.t 24)))⟩, false), (⟨(some 26), some (21, true), (.op (.load (some 13) (.t 25)))⟩, false), (⟨(some 27), some (21, true), (.op (.mv (.t 0)))⟩, false), (⟨(some 28), some (21, true), (.op (.mv (.t 9)))⟩, false), (⟨(some 29), some (21, true), (.op (.bin .int true .sub (.t 28) (.c (.i .i64 1))))⟩, false), (⟨(some 30), some (21, true), (.op (.iaddr none 13 (.t 27) (.t 29)))⟩, false), (⟨(some 31), some (21, true), (.op (.load (some 13) (.t 30)))⟩, false), (⟨(some 32), some (21, true), (.callv (.t 22) [(.t 26), (.t 31)])⟩, false), (⟨(some 33), some (21, true), (.op (.bin .int true .lss (.t 32) (.c (.i .i64 0))))⟩, false), (⟨(some 34), none, (.op (.pick (.t 21) (.t 33) (.c (.b false))))⟩, false)]
theorem c98d0_w {P : Program} {O : Orc} {S0 : Mem} {rd : Bool} {e : Env} {S : Mem} {d : List Nat} {Q : Kont} : W P O S0 rd (.draw c98d0 []) e S d Q = wFl O c98d0w e S (normK Q d) := W_draw' (by kernel_rfl) (by kernel_rfl)
attribute [go_sem] c98d0_w c98d0w
def c98d1 : List Stage :=
  [⟨[(⟨(some 37), none, (.op (.mv (.t 0)))⟩, 0), (⟨(some 38), none, (.op (.mv (.t 9)))⟩, 0), (⟨(some 39), none, (.op (.mv (.t 0)))⟩, 1), (⟨(some 40), none, (.op (.mv (.t 9)))⟩, 1), (⟨(some 41), none, (.op (.bin .int true .sub (.t 40) (.c (.i .i64 1))))⟩, 1), (⟨(some 42), none, (.op (.mv (.t 0)))⟩, 0), (⟨(some 43), none, (.op (.mv (.t 9)))⟩, 0), (⟨(some 44), none, (.op (.bin .int true .sub (.t 43) (.c (.i .i64 1))))⟩, 0), (⟨(some 45), none, (.op (.iaddr none 13 (.t 42) (.t 44)))⟩, 0), (⟨(some 46), none, (.op (.load (some 13) (.t 45)))⟩, 0), (⟨(some 47), none, (.op (.mv (.t 0)))⟩, 0), (⟨(some 48), none, (.op (.mv (.t 9)))⟩, 0), (⟨(some 49), none, (.op (.iaddr none 13 (.t 47) (.t 48)))⟩, 0), (⟨(some 50), none, (.op (.load (some 13) (.t 49)))⟩, 0), (⟨(some 51), none, (.op (.iaddr none 13 (.t 37) (.t 38)))⟩, 0)], none, some ⟨none, none, (.op (.store 13 (.t 51) (.t 46)))⟩⟩,
    ⟨[(⟨(some 52), none, (.op (.iaddr none 13 (.t 39) (.t 41)))⟩, 1)], none, some ⟨none, none, (.op (.store 13 (.t 52) (.t 50)))⟩⟩,
    ⟨[], none, none⟩]
def c98d1w : List (ROp × Bool) :=
  [(⟨(some 37), none, (.op (.mv (.t 0)))⟩, false), (⟨(some 38), none, (.op (.mv (.t 9)))⟩, false), (⟨(some 39), none, (.op (.mv (.t 0)))⟩, false), (⟨(some 40), none, (.op (.mv (.t 9)))⟩, false), (⟨(some 41), none, (.op (.bin .int true .sub (.t 40) (.c (.i .i64 1))))⟩, false), (⟨(some 42), none, (.op (.mv (.t 0)))⟩, false), (⟨(some 43), none, (.op (.mv (.t 9)))⟩, false), (⟨(some 44), none, (.op (.bin .int true .sub (.t 43) (.c (.i .i64 1))))⟩, false), (⟨(some 45), none, (.op (.iaddr none 13 (.t 42) (.t 44)))⟩, false), (⟨(some 46), none, (.op (.load (some 13) (.t 45)))⟩, false), (⟨(some 47), none, (.op (.mv (.t 0)))⟩, false), (⟨(some 48), none, (.op (.mv (.t 9)))⟩, false), (⟨(some 49), none, (.op (.iaddr none 13 (.t 47) (.t 48)))⟩, false), (⟨(some 50), none, (.op (.load (some 13) (.t 49)))⟩, false), (⟨(some 51), none, (.op (.iaddr none 13 (.t 37) (.t 38)))⟩, false), (⟨none, none, (.op (.store 13 (.t 51) (.t 46)))⟩, false), (⟨(some 52), none, (.op (.iaddr none 13 (.t 39) (.t 41)))⟩, false), (⟨none, none, (.op (.store 13 (.t 52) (.t 50)))⟩, false)]
theorem c98d1_w {P : Program} {O : Orc} {S0 : Mem} {rd : Bool} {e : Env} {S : Mem} {d : List Nat} {Q : Kont} : W P O S0 rd (.draw c98d1 []) e S d Q = wFl O c98d1w e S (normK Q d) := W_draw' (by kernel_rfl) (by kernel_rfl)
attribute [go_sem] c98d1_w c98d1w
def c98l2 : ICode :=
  .seq (.seq (.draw c98d0 [])
   (.live [0, 1, 3, 2, 8, 9, 34] (.cond (.t 34) (.skip)
   (.exit 2))))
   (.live [0, 1, 3, 2, 8, 9] (.seq (.block 3 (.draw c98d1 []))
   (.live [0, 1, 3, 2, 8, 9] (.region [⟨(some 35), none, (.op (.mv (.t 9)))⟩,
    ⟨(some 36), none, (.op (.bin .int true .sub (.t 35) (.c (.i .i64 1))))⟩,
    ⟨(some 9), none, (.op (.mv (.t 36)))⟩]))))
def c98l3 : ICode :=
  .seq (.seq (.region [⟨(some 12), none, (.op (.mv (.t 8)))⟩,
    ⟨(some 13), none, (.op (.mv (.t 2)))⟩,
    ⟨(some 14), none, (.op (.bin .int false .lss (.t 12) (.t 13)))⟩])
   (.live [0, 1, 3, 2, 8, 14] (.cond (.t 14) (.skip)
   (.exit 0))))
   (.live [0, 1, 3, 2, 8] (.seq (.block 1 (.seq (.region [⟨(some 17), none, (.op (.mv (.t 8)))⟩,
    ⟨(some 9), none, (.op (.mv (.t 17)))⟩])
   (.live [0, 1, 3, 2, 8, 9] (.block 2 (.loop [0, 1, 3, 2, 8, 9] c98l2)))))
   (.live [0, 1, 3, 2, 8] (.region [⟨(some 15), none, (.op (.mv (.t 8)))⟩,
    ⟨(some 16), none, (.op (.bin .int true .add (.t 15) (.c (.i .i64 1))))⟩,
    ⟨(some 8), none, (.op (.mv (.t 16)))⟩]))))
def c98 : IFunc := ⟨4, [],
  .seq (.region [⟨(some 10), none, (.op (.mv (.t 1)))⟩,
    ⟨(some 11), none, (.op (.bin .int true .add (.t 10) (.c (.i .i64 1))))⟩,
    ⟨(some 8), none, (.op (.mv (.t 11)))⟩])
   (.live [0, 1, 3, 2, 8] (.block 0 (.loop [0, 1, 3, 2, 8] c98l3))),
  []⟩


/- slices.symMergeCmpFunc[floodgate/api.Policy] -/
def c99d0 : List Stage :=
  [⟨[(⟨(some 40), none, (.op (.mv (.t 4)))⟩, 0), (⟨(some 41), none, (.op (.mv (.t 0)))⟩, 0), (⟨(some 42), none, (.op (.mv (.t 12)))⟩, 0), (⟨(some 43), none, (.op (.iaddr none 13 (.t 41) (.t 42)))⟩, 0), (⟨(some 44), none, (.op (.load (some 13) (.t 43)))⟩, 0), (⟨(some 45), none, (.op (.mv (.t 0)))⟩, 0), (⟨(some 46), none, (.op (.mv (.t 1)))⟩, 0), (⟨(some 47), none, (.op (.iaddr none 13 (.t 45) (.t 46)))⟩, 0), (⟨(some 48), none, (.op (.load (some 13) (.t 47)))⟩, 0)], none, some ⟨(some 49), none, (.callv (.t 40) [(.t 44), (.t 48)])⟩⟩,
    ⟨[(⟨(some 50), none, (.op (.bin .int true .lss (.t 49) (.c (.i .i64 0))))⟩, 1)], none, none⟩]
def c99d0w : List (ROp × Bool) :=
  [(⟨(some 40), none, (.op (.mv (.t 4)))⟩, false), (⟨(some 41), none, (.op (.mv (.t 0)))⟩, false), (⟨(some 42), none, (.op (.mv (.t 12)))⟩, false), (⟨(some 43), none, (.op (.iaddr none 13 (.t 41) (.t 42)))⟩, false), (⟨(some 44), none, (.op (.load (some 13) (.t 43)))⟩, false), (⟨(some 45), none, (.op (.mv (.t 0)))⟩, false), (⟨(some 46), none, (.op (.mv (.t 1)))⟩, false), (⟨(some 47), none, (.op (.iaddr none 13 (.t 45) (.t 46)))⟩, false), (⟨(some 48), none, (.op (.load (some 13) (.t 47)))⟩, false), (⟨(some 49), none, (.callv (.t 40) [(.t 44), (.t 48)])⟩, false), (⟨(some 50), none, (.op (.bin .int true .lss (.t 49) (.c (.i .i64 0))))⟩, false)]
theorem c99d0_w {P : Program} {O : Orc} {S0 : Mem} {rd : Bool} {e : Env} {S : Mem} {d : List Nat} {Q : Kont} : W P O S0 rd (.draw c99d0 []) e S d Q = wFl O c99d0w e S (normK Q d) := W_draw' (by kernel_rfl) (by kernel_rfl)
attribute [go_sem] c99d0_w c99d0w
def c99l1 : ICode :=
  .seq (.seq (.region [⟨(some 31), none, (.op (.mv (.t 10)))⟩,
    ⟨(some 32), none, (.op (.mv (.t 11)))⟩,
    ⟨(some 33), none, (.op (.bin .int false .lss (.t 31) (.t 32)))⟩])
   (.live [4, 0, 1, 11, 10, 33] (.cond (.t 33) (.skip)
   (.exit 0))))
   (.live [4, 0, 1, 11, 10] (.block 1 (.seq (.region [⟨(some 34), none, (.op (.mv (.t 10)))⟩,
    ⟨(some 35), none, (.op (.mv (.t 11)))⟩,
    ⟨(some 36), none, (.op (.bin .int false .add (.t 34) (.t 35)))⟩,
    ⟨(some 37), none, (.op (.toInt .u64 (.t 36)))⟩,
    ⟨(some 38), none, (.op (.bin .int true .shr (.t 37) (.c (.i .u64 1))))⟩,
    ⟨(some 39), none, (.op (.toInt .i64 (.t 38)))⟩,
    ⟨(some 12), none, (.op (.mv (.t 39)))⟩])
   (.live [4, 0, 1, 11, 12, 10] (.seq (.draw c99d0 [])
   (.live [4, 0, 1, 11, 12, 10, 50] (.cond (.t 50) (.region [⟨(some 51), none, (.op (.mv (.t 12)))⟩,
    ⟨(some 52), none, (.op (.bin .int true .add (.t 51) (.c (.i .i64 1))))⟩,
    ⟨(some 10), none, (.op (.mv (.t 52)))⟩])
   (.region [⟨(some 53), none, (.op (.mv (.t 12)))⟩,
    ⟨(some 11), none, (.op (.mv (.t 53)))⟩]))))))))
def c99d2 : List Stage :=
  [⟨[(⟨(some 61), none, (.op (.mv (.t 0)))⟩, 0), (⟨(some 62), none, (.op (.mv (.t 13)))⟩, 0), (⟨(some 63), none, (.op (.mv (.t 0)))⟩, 1), (⟨(some 64), none, (.op (.mv (.t 13)))⟩, 1), (⟨(some 65), none, (.op (.bin .int true .add (.t 64) (.c (.i .i64 1))))⟩, 1), (⟨(some 66), none, (.op (.mv (.t 0)))⟩, 0), (⟨(some 67), none, (.op (.mv (.t 13)))⟩, 0), (⟨(some 68), none, (.op (.bin .int true .add (.t 67) (.c (.i .i64 1))))⟩, 0), (⟨(some 69), none, (.op (.iaddr none 13 (.t 66) (.t 68)))⟩, 0), (⟨(some 70), none, (.op (.load (some 13) (.t 69)))⟩, 0), (⟨(some 71), none, (.op (.mv (.t 0)))⟩, 0), (⟨(some 72), none, (.op (.mv (.t 13)))⟩, 0), (⟨(some 73), none, (.op (.iaddr none 13 (.t 71) (.t 72)))⟩, 0), (⟨(some 74), none, (.op (.load (some 13) (.t 73)))⟩, 0), (⟨(some 75), none, (.op (.iaddr none 13 (.t 61) (.t 62)))⟩, 0)], none, some ⟨none, none, (.op (.store 13 (.t 75) (.t 70)))⟩⟩,
    ⟨[(⟨(some 76), none, (.op (.iaddr none 13 (.t 63) (.t 65)))⟩, 1)], none, some ⟨none, none, (.op (.store 13 (.t 76) (.t 74)))⟩⟩,
    ⟨[], none, none⟩]
def c99d2w : List (ROp × Bool) :=
  [(⟨(some 61), none, (.op (.mv (.t 0)))⟩, false), (⟨(some 62), none, (.op (.mv (.t 13)))⟩, false), (⟨(some 63), none, (.op (.mv (.t 0)))⟩, false), (⟨(some 64), none, (.op (.mv (.t 13)))⟩, false), (⟨(some 65), none, (.op (.bin .int true .add (.t 64) (.c (.i .i64 1))))⟩, false), (⟨(some 66), none, (.op (.mv (.t 0)))⟩, false), (⟨(some 67), none, (.op (.mv (.t 13)))⟩, false), (⟨(some 68), none, (.op (.bin .int true .add (.t 67) (.c (.i .i64 1))))⟩, false), (⟨(some 69), none, (.op (.iaddr none 13 (.t 66) (.t 68)))⟩, false), (⟨(some 70), none, (.op (.load (some 13) (.t 69)))⟩, false), (⟨(some 71), none, (.op (.mv (.t 0)))⟩, false), (⟨(some 72), none, (.op (.mv (.t 13)))⟩, false), (⟨(some 73), none, (.op (.iaddr none 13 (.t 71) (.t 72)))⟩, false), (⟨(some 74), none, (.op (.load (some 13) (.t 73)))⟩, false), (⟨(some 75), none, (.op (.iaddr none 13 (.t 61) (.t 62)))⟩, false), (⟨none, none, (.op (.store 13 (.t 75) (.t 70)))⟩, false), (⟨(some 76), none, (.op (.iaddr none 13 (.t 63) (.t 65)))⟩, false), (⟨none, none, (.op (.store 13 (.t 76) (.t 74)))⟩, false)]
theorem c99d2_w {P : Program} {O : Orc} {S0 : Mem} {rd : Bool} {e : Env} {S : Mem} {d : List Nat} {Q : Kont} : W P O S0 rd (.draw c99d2 []) e S d Q = wFl O c99d2w e S (normK Q d) := W_draw' (by kernel_rfl) (by kernel_rfl)
attribute [go_sem] c99d2_w c99d2w
def c99l3 : ICode :=
  .seq (.seq (.region [⟨(some 55), none, (.op (.mv (.t 13)))⟩,
    ⟨(some 56), none, (.op (.mv (.t 10)))⟩,
    ⟨(some 57), none, (.op (.bin .int true .sub (.t 56) (.c (.i .i64 1))))⟩,
    ⟨(some 58), none, (.op (.bin .int false .lss (.t 55) (.t 57)))⟩])
   (.live [0, 10, 13, 58] (.cond (.t 58) (.skip)
   (.exit 2))))
   (.live [0, 10, 13] (.seq (.block 3 (.draw c99d2 []))
   (.live [0, 10, 13] (.region [⟨(some 59), none, (.op (.mv (.t 13)))⟩,
    ⟨(some 60), none, (.op (.bin .int true .add (.t 59) (.c (.i .i64 1))))⟩,
    ⟨(some 13), none, (.op (.mv (.t 60)))⟩]))))
def c99d4 : List Stage :=
  [⟨[(⟨(some 92), none, (.op (.mv (.t 4)))⟩, 0), (⟨(some 93), none, (.op (.mv (.t 0)))⟩, 0), (⟨(some 94), none, (.op (.mv (.t 2)))⟩, 0), (⟨(some 95), none, (.op (.iaddr none 13 (.t 93) (.t 94)))⟩, 0), (⟨(some 96), none, (.op (.load (some 13) (.t 95)))⟩, 0), (⟨(some 97), none, (.op (.mv (.t 0)))⟩, 0), (⟨(some 98), none, (.op (.mv (.t 16)))⟩, 0), (⟨(some 99), none, (.op (.iaddr none 13 (.t 97) (.t 98)))⟩, 0), (⟨(some 100), none, (.op (.load (some 13) (.t 99)))⟩, 0)], none, some ⟨(some 101), none, (.callv (.t 92) [(.t 96), (.t 100)])⟩⟩,
    ⟨[(⟨(some 102), none, (.op (.bin .int true .lss (.t 101) (.c (.i .i64 0))))⟩, 1), (⟨(some 103), none, (.op (.un .not (.t 102)))⟩, 1)], none, none⟩]
def c99d4w : List (ROp × Bool) :=
  [(⟨(some 92), none, (.op (.mv (.t 4)))⟩, false), (⟨(some 93), none, (.op (.mv (.t 0)))⟩, false), (⟨(some 94), none, (.op (.mv (.t 2)))⟩, false), (⟨(some 95), none, (.op (.iaddr none 13 (.t 93) (.t 94)))⟩, false), (⟨(some 96), none, (.op (.load (some 13) (.t 95)))⟩, false), (⟨(some 97), none, (.op (.mv (.t 0)))⟩, false), (⟨(some 98), none, (.op (.mv (.t 16)))⟩, false), (⟨(some 99), none, (.op (.iaddr none 13 (.t 97) (.t 98)))⟩, false), (⟨(some 100), none, (.op (.load (some 13) (.t 99)))⟩, false), (⟨(some 101), none, (.callv (.t 92) [(.t 96), (.t 100)])⟩, false), (⟨(some 102), none, (.op (.bin .int true .lss (.t 101) (.c (.i .i64 0))))⟩, false), (⟨(some 103), none, (.op (.un .not (.t 102)))⟩, false)]
theorem c99d4_w {P : Program} {O : Orc} {S0 : Mem} {rd : Bool} {e : Env} {S : Mem} {d : List Nat} {Q : Kont} : W P O S0 rd (.draw c99d4 []) e S d Q = wFl O c99d4w e S (normK Q d) := W_draw' (by kernel_rfl) (by kernel_rfl)
attribute [go_sem] c99d4_w c99d4w
def c99l5 : ICode :=
  .seq (.seq (.region [⟨(some 83), none, (.op (.mv (.t 14)))⟩,
    ⟨(some 84), none, (.op (.mv (.t 15)))⟩,
    ⟨(some 85), none, (.op (.bin .int false .lss (.t 83) (.t 84)))⟩])
   (.live [4, 2, 0, 15, 14, 85] (.cond (.t 85) (.skip)
   (.exit 4))))
   (.live [4, 2, 0, 15, 14] (.block 5 (.seq (.region [⟨(some 86), none, (.op (.mv (.t 14)))⟩,
    ⟨(some 87), none, (.op (.mv (.t 15)))⟩,
    ⟨(some 88), none, (.op (.bin .int false .add (.t 86) (.t 87)))⟩,
    ⟨(some 89), none, (.op (.toInt .u64 (.t 88)))⟩,
    ⟨(some 90), none, (.op (.bin .int true .shr (.t 89) (.c (.i .u64 1))))⟩,
    ⟨(some 91), none, (.op (.toInt .i64 (.t 90)))⟩,
    ⟨(some 16), none, (.op (.mv (.t 91)))⟩])
   (.live [4, 2, 0, 15, 16, 14] (.seq (.draw c99d4 [])
   (.live [4, 2, 0, 15, 16, 14, 103] (.cond (.t 103) (.region [⟨(some 104), none, (.op (.mv (.t 16)))⟩,
    ⟨(some 105), none, (.op (.bin .int true .add (.t 104) (.c (.i .i64 1))))⟩,
    ⟨(some 14), none, (.op (.mv (.t 105)))⟩])
   (.region [⟨(some 106), none, (.op (.mv (.t 16)))⟩,
    ⟨(some 15), none, (.op (.mv (.t 106)))⟩]))))))))
def c99d6 : List Stage :=
  [⟨[(⟨(some 113), none, (.op (.mv (.t 0)))⟩, 0), (⟨(some 114), none, (.op (.mv (.t 17)))⟩, 0), (⟨(some 115), none, (.op (.mv (.t 0)))⟩, 1), (⟨(some 116), none, (.op (.mv (.t 17)))⟩, 1), (⟨(some 117), none, (.op (.bin .int true .sub (.t 116) (.c (.i .i64 1))))⟩, 1), (⟨(some 118), none, (.op (.mv (.t 0)))⟩, 0), (⟨(some 119), none, (.op (.mv (.t 17)))⟩, 0), (⟨(some 120), none, (.op (.bin .int true .sub (.t 119) (.c (.i .i64 1))))⟩, 0), (⟨(some 121), none, (.op (.iaddr none 13 (.t 118) (.t 120)))⟩, 0), (⟨(some 122), none, (.op (.load (some 13) (.t 121)))⟩, 0), (⟨(some 123), none, (.op (.mv (.t 0)))⟩, 0), (⟨(some 124), none, (.op (.mv (.t 17)))⟩, 0), (⟨(some 125), none, (.op (.iaddr none 13 (.t 123) (.t 124)))⟩, 0), (⟨(some 126), none, (.op (.load (some 13) (.t 125)))⟩, 0), (⟨(some 127), none, (.op (.iaddr none 13 (.t 113) (.t 114)))⟩, 0)], none, some ⟨none, none, (.op (.store 13 (.t 127) (.t 122)))⟩⟩,
    ⟨[(⟨(some 128), none, (.op (.iaddr none 13 (.t 115) (.t 117)))⟩, 1)], none, some ⟨none, none, (.op (.store 13 (.t 128) (.t 126)))⟩⟩,
    ⟨[], none, none⟩]
def c99d6w : List (ROp × Bool) :=
  [(⟨(some 113), none, (.op (.mv (.t 0)))⟩, false), (⟨(some 114), none, (.op (.mv (.t 17)))⟩, false), (⟨(some 115), none, (.op (.mv (.t 0)))⟩, false), (⟨(some 116), none, (.op (.mv (.t 17)))⟩, false), (⟨(some 117), none, (.op (.bin .int true .sub (.t 116) (.c (.i .i64 1))))⟩, false), (⟨(some 118), none, (.op (.mv (.t 0)))⟩, false), (⟨(some 119), none, (.op (.mv (.t 17)))⟩, false), (⟨(some 120), none, (.op (.bin .int true .sub (.t 119) (.c (.i .i64 1))))⟩, false), (⟨(some 121), none, (.op (.iaddr none 13 (.t 118) (.t 120)))⟩, false), (⟨(some 122), none, (.op (.load (some 13) (.t 121)))⟩, false), (⟨(some 123), none, (.op (.mv (.t 0)))⟩, false), (⟨(some 124), none, (.op (.mv (.t 17)))⟩, false), (⟨(some 125), none, (.op (.iaddr none 13 (.t 123) (.t 124)))⟩, false), (⟨(some 126), none, (.op (.load (some 13) (.t 125)))⟩, false), (⟨(some 127), none, (.op (.iaddr none 13 (.t 113) (.t 114)))⟩, false), (⟨none, none, (.op (.store 13 (.t 127) (.t 122)))⟩, false), (⟨(some 128), none, (.op (.iaddr none 13 (.t 115) (.t 117)))⟩, false), (⟨none, none, (.op (.store 13 (.t 128) (.t 126)))⟩, false)]
theorem c99d6_w {P : Program} {O : Orc} {S0 : Mem} {rd : Bool} {e : Env} {S : Mem} {d : List Nat} {Q : Kont} : W P O S0 rd (.draw c99d6 []) e S d Q = wFl O c99d6w e S (normK Q d) := W_draw' (by kernel_rfl) (by kernel_rfl)
attribute [go_sem] c99d6_w c99d6w
def c99l7 : ICode :=
  .seq (.seq (.region [⟨(some 108), none, (.op (.mv (.t 17)))⟩,
    ⟨(some 109), none, (.op (.mv (.t 14)))⟩,
    ⟨(some 110), none, (.op (.bin .int false .gtr (.t 108) (.t 109)))⟩])
   (.live [0, 14, 17, 110] (.cond (.t 110) (.skip)
   (.exit 6))))
   (.live [0, 14, 17] (.seq (.block 7 (.draw c99d6 []))
   (.live [0, 14, 17] (.region [⟨(some 111), none, (.op (.mv (.t 17)))⟩,
    ⟨(some 112), none, (.op (.bin .int true .sub (.t 111) (.c (.i .i64 1))))⟩,
    ⟨(some 17), none, (.op (.mv (.t 112)))⟩]))))
def c99d8 : List Stage :=
  [⟨[(⟨(some 158), none, (.op (.mv (.t 4)))⟩, 0), (⟨(some 159), none, (.op (.mv (.t 0)))⟩, 0), (⟨(some 160), none, (.op (.mv (.t 22)))⟩, 0), (⟨(some 161), none, (.op (.mv (.t 23)))⟩, 0), (⟨(some 162), none, (.op (.bin .int false .sub (.t 160) (.t 161)))⟩, 0), (⟨(some 163), none, (.op (.iaddr none 13 (.t 159) (.t 162)))⟩, 0), (⟨(some 164), none, (.op (.load (some 13) (.t 163)))⟩, 0), (⟨(some 165), none, (.op (.mv (.t 0)))⟩, 0), (⟨(some 166), none, (.op (.mv (.t 23)))⟩, 0), (⟨(some 167), none, (.op (.iaddr none 13 (.t 165) (.t 166)))⟩, 0), (⟨(some 168), none, (.op (.load (some 13) (.t 167)))⟩, 0)], none, some ⟨(some 169), none, (.callv (.t 158) [(.t 164), (.t 168)])⟩⟩,
    ⟨[(⟨(some 170), none, (.op (.bin .int true .lss (.t 169) (.c (.i .i64 0))))⟩, 1), (⟨(some 171), none, (.op (.un .not (.t 170)))⟩, 1)], none, none⟩]
def c99d8w : List (ROp × Bool) :=
  [(⟨(some 158), none, (.op (.mv (.t 4)))⟩, false), (⟨(some 159), none, (.op (.mv (.t 0)))⟩, false), (⟨(some 160), none, (.op (.mv (.t 22)))⟩, false), (⟨(some 161), none, (.op (.mv (.t 23)))⟩, false), (⟨(some 162), none, (.op (.bin .int false .sub (.t 160) (.t 161)))⟩, false), (⟨(some 163), none, (.op (.iaddr none 13 (.t 159) (.t 162)))⟩, false), (⟨(some 164), none, (.op (.load (some 13) (.t 163)))⟩, false), (⟨(some 165), none, (.op (.mv (.t 0)))⟩, false), (⟨(some 166), none, (.op (.mv (.t 23)))⟩, false), (⟨(some 167), none, (.op (.iaddr none 13 (.t 165) (.t 166)))⟩, false), (⟨(some 168), none, (.op (.load (some 13) (.t 167)))⟩, false), (⟨(some 169), none, (.callv (.t 158) [(.t 164), (.t 168)])⟩, false), (⟨(some 170), none, (.op (.bin .int true .lss (.t 169) (.c (.i .i64 0))))⟩, false), (⟨(some 171), none, (.op (.un .not (.t 170)))⟩, false)]
theorem c99d8_w {P : Program} {O : Orc} {S0 : Mem} {rd : Bool} {e : Env} {S : Mem} {d : List Nat} {Q : Kont} : W P O S0 rd (.draw c99d8 []) e S d Q = wFl O c99d8w e S (normK Q d) := W_draw' (by kernel_rfl) (by kernel_rfl)
attribute [go_sem] c99d8_w c99d8w
def c99l9 : ICode :=
  .seq (.seq (.region [⟨(some 149), none, (.op (.mv (.t 20)))⟩,
    ⟨(some 150), none, (.op (.mv (.t 21)))⟩,
    ⟨(some 151), none, (.op (.bin .int false .lss (.t 149) (.t 150)))⟩])
   (.live [4, 22, 0, 21, 3, 18, 1, 2, 19, 20, 151] (.cond (.t 151) (.skip)
   (.exit 8))))
   (.live [4, 22, 0, 21, 3, 18, 1, 2, 19, 20] (.block 9 (.seq (.region [⟨(some 152), none, (.op (.mv (.t 20)))⟩,
    ⟨(some 153), none, (.op (.mv (.t 21)))⟩,
    ⟨(some 154), none, (.op (.bin .int false .add (.t 152) (.t 153)))⟩,
    ⟨(some 155), none, (.op (.toInt .u64 (.t 154)))⟩,
    ⟨(some 156), none, (.op (.bin .int true .shr (.t 155) (.c (.i .u64 1))))⟩,
    ⟨(some 157), none, (.op (.toInt .i64 (.t 156)))⟩,
    ⟨(some 23), none, (.op (.mv (.t 157)))⟩])
   (.live [4, 22, 0, 21, 3, 18, 1, 2, 19, 23, 20] (.seq (.draw c99d8 [])
   (.live [4, 22, 0, 21, 3, 18, 1, 2, 19, 23, 20, 171] (.cond (.t 171) (.region [⟨(some 172), none, (.op (.mv (.t 23)))⟩,
    ⟨(some 173), none, (.op (.bin .int true .add (.t 172) (.c (.i .i64 1))))⟩,
    ⟨(some 20), none, (.op (.mv (.t 173)))⟩])
   (.region [⟨(some 174), none, (.op (.mv (.t 23)))⟩,
    ⟨(some 21), none, (.op (.mv (.t 174)))⟩]))))))))
def c99 : IFunc := ⟨5, [],
  .seq (.seq (.region [⟨(some 25), none, (.op (.mv (.t 2)))⟩,
    ⟨(some 26), none, (.op (.mv (.t 1)))⟩,
    ⟨(some 27), none, (.op (.bin .int false .sub (.t 25) (.t 26)))⟩,
    ⟨(some 28), none, (.op (.bin .int true .eql (.t 27) (.c (.i .i64 1))))⟩])
   (.live [4, 0, 1, 3, 2, 28] (.cond (.t 28) (.seq (.region [⟨(some 29), none, (.op (.mv (.t 2)))⟩,
    ⟨(some 10), none, (.op (.mv (.t 29)))⟩])
   (.live [4, 0, 1, 10, 3] (.seq (.region [⟨(some 30), none, (.op (.mv (.t 3)))⟩,
    ⟨(some 11), none, (.op (.mv (.t 30)))⟩])
   (.live [4, 0, 1, 11, 10] (.seq (.block 0 (.loop [4, 0, 1, 11, 10] c99l1))
   (.live [0, 10, 1] (.seq (.seq (.region [⟨(some 54), none, (.op (.mv (.t 1)))⟩,
    ⟨(some 13), none, (.op (.mv (.t 54)))⟩])
   (.live [0, 10, 13] (.block 2 (.loop [0, 10, 13] c99l3))))
   (.ret))))))))
   (.skip))))
   (.live [4, 2, 0, 1, 3] (.seq (.seq (.region [⟨(some 77), none, (.op (.mv (.t 3)))⟩,
    ⟨(some 78), none, (.op (.mv (.t 2)))⟩,
    ⟨(some 79), none, (.op (.bin .int false .sub (.t 77) (.t 78)))⟩,
    ⟨(some 80), none, (.op (.bin .int true .eql (.t 79) (.c (.i .i64 1))))⟩])
   (.live [4, 2, 0, 1, 3, 80] (.cond (.t 80) (.seq (.region [⟨(some 81), none, (.op (.mv (.t 1)))⟩,
    ⟨(some 14), none, (.op (.mv (.t 81)))⟩])
   (.live [4, 2, 0, 14] (.seq (.region [⟨(some 82), none, (.op (.mv (.t 2)))⟩,
    ⟨(some 15), none, (.op (.mv (.t 82)))⟩])
   (.live [4, 2, 0, 15, 14] (.seq (.block 4 (.loop [4, 2, 0, 15, 14] c99l5))
   (.live [0, 14, 2] (.seq (.seq (.region [⟨(some 107), none, (.op (.mv (.t 2)))⟩,
    ⟨(some 17), none, (.op (.mv (.t 107)))⟩])
   (.live [0, 14, 17] (.block 6 (.loop [0, 14, 17] c99l7))))
   (.ret))))))))
   (.skip))))
   (.live [4, 0, 3, 1, 2] (.seq (.region [⟨(some 129), none, (.op (.mv (.t 1)))⟩,
    ⟨(some 130), none, (.op (.mv (.t 3)))⟩,
    ⟨(some 131), none, (.op (.bin .int false .add (.t 129) (.t 130)))⟩,
    ⟨(some 132), none, (.op (.toInt .u64 (.t 131)))⟩,
    ⟨(some 133), none, (.op (.bin .int true .shr (.t 132) (.c (.i .u64 1))))⟩,
    ⟨(some 134), none, (.op (.toInt .i64 (.t 133)))⟩,
    ⟨(some 18), none, (.op (.mv (.t 134)))⟩])
   (.live [4, 0, 3, 18, 1, 2] (.seq (.region [⟨(some 135), none, (.op (.mv (.t 18)))⟩,
    ⟨(some 136), none, (.op (.mv (.t 2)))⟩,
    ⟨(some 137), none, (.op (.bin .int false .add (.t 135) (.t 136)))⟩,
    ⟨(some 19), none, (.op (.mv (.t 137)))⟩])
   (.live [4, 0, 3, 18, 1, 2, 19] (.seq (.region [⟨(some 20), none, (.op (.mv (.c (.i .i64 0))))⟩,
    ⟨(some 21), none, (.op (.mv (.c (.i .i64 0))))⟩])
   (.live [4, 0, 3, 18, 1, 2, 19] (.seq (.seq (.region [⟨(some 138), none, (.op (.mv (.t 2)))⟩,
    ⟨(some 139), none, (.op (.mv (.t 18)))⟩,
    ⟨(some 140), none, (.op (.bin .int false .gtr (.t 138) (.t 139)))⟩])
   (.live [4, 0, 3, 18, 1, 2, 19, 140] (.cond (.t 140) (.seq (.region [⟨(some 141), none, (.op (.mv (.t 19)))⟩,
    ⟨(some 142), none, (.op (.mv (.t 3)))⟩,
    ⟨(some 143), none, (.op (.bin .int false .sub (.t 141) (.t 142)))⟩,
    ⟨(some 20), none, (.op (.mv (.t 143)))⟩])
   (.live [4, 0, 3, 18, 1, 2, 19, 20] (.region [⟨(some 144), none, (.op (.mv (.t 18)))⟩,
    ⟨(some 21), none, (.op (.mv (.t 144)))⟩])))
   (.seq (.region [⟨(some 145), none, (.op (.mv (.t 1)))⟩,
    ⟨(some 20), none, (.op (.mv (.t 145)))⟩])
   (.live [4, 0, 3, 18, 1, 2, 19, 20] (.region [⟨(some 146), none, (.op (.mv (.t 2)))⟩,
    ⟨(some 21), none, (.op (.mv (.t 146)))⟩]))))))
   (.live [4, 0, 21, 3, 18, 1, 2, 19, 20] (.seq (.region [⟨(some 147), none, (.op (.mv (.t 19)))⟩,
    ⟨(some 148), none, (.op (.bin .int true .sub (.t 147) (.c (.i .i64 1))))⟩,
    ⟨(some 22), none, (.op (.mv (.t 148)))⟩])
   (.live [4, 22, 0, 21, 3, 18, 1, 2, 19, 20] (.seq (.block 8 (.loop [4, 22, 0, 21, 3, 18, 1, 2, 19, 20] c99l9))
   (.live [4, 3, 18, 0, 20, 1, 2, 19] (.seq (.region [⟨(some 175), none, (.op (.mv (.t 19)))⟩,
    ⟨(some 176), none, (.op (.mv (.t 20)))⟩,
    ⟨(some 177), none, (.op (.bin .int false .sub (.t 175) (.t 176)))⟩,
    ⟨(some 24), none, (.op (.mv (.t 177)))⟩])
   (.live [4, 3, 24, 18, 0, 20, 1, 2] (.seq (.seq (.region [⟨(some 178), none, (.op (.mv (.t 20)))⟩,
    ⟨(some 179), none, (.op (.mv (.t 2)))⟩,
    ⟨(some 180), none, (.op (.bin .int false .lss (.t 178) (.t 179)))⟩,
    ⟨(some 181), none, (.op (.mv (.t 180)))⟩,
    ⟨(some 182), some (181, true), (.op (.mv (.t 2)))⟩,
    ⟨(some 183), some (181, true), (.op (.mv (.t 24)))⟩,
    ⟨(some 184), some (181, true), (.op (.bin .int false .lss (.t 182) (.t 183)))⟩,
    ⟨(some 185), none, (.op (.pick (.t 181) (.t 184) (.c (.b false))))⟩])
   (.live [4, 3, 24, 18, 0, 20, 1, 2, 185] (.cond (.t 185) (.region [⟨(some 186), none, (.op (.mv (.t 0)))⟩,
    ⟨(some 187), none, (.op (.mv (.t 20)))⟩,
    ⟨(some 188), none, (.op (.mv (.t 2)))⟩,
    ⟨(some 189), none, (.op (.mv (.t 24)))⟩,
    ⟨(some 190), none, (.op (.mv (.t 4)))⟩,
    ⟨(some 191), none, (.call 126 [(.t 186), (.t 187), (.t 188), (.t 189), (.t 190)])⟩])
   (.skip))))
   (.live [4, 3, 24, 18, 0, 20, 1] (.seq (.seq (.region [⟨(some 192), none, (.op (.mv (.t 1)))⟩,
    ⟨(some 193), none, (.op (.mv (.t 20)))⟩,
    ⟨(some 194), none, (.op (.bin .int false .lss (.t 192) (.t 193)))⟩,
    ⟨(some 195), none, (.op (.mv (.t 194)))⟩,
    ⟨(some 196), some (195, true), (.op (.mv (.t 20)))⟩,
    ⟨(some 197), some (195, true), (.op (.mv (.t 18)))⟩,
    ⟨(some 198), some (195, true), (.op (.bin .int false .lss (.t 196) (.t 197)))⟩,
    ⟨(some 199), none, (.op (.pick (.t 195) (.t 198) (.c (.b false))))⟩])
   (.live [4, 3, 24, 18, 0, 20, 1, 199] (.cond (.t 199) (.region [⟨(some 200), none, (.op (.mv (.t 0)))⟩,
    ⟨(some 201), none, (.op (.mv (.t 1)))⟩,
    ⟨(some 202), none, (.op (.mv (.t 20)))⟩,
    ⟨(some 203), none, (.op (.mv (.t 18)))⟩,
    ⟨(some 204), none, (.op (.mv (.t 4)))⟩,
    ⟨(some 205), none, (.call 99 [(.t 200), (.t 201), (.t 202), (.t 203), (.t 204)])⟩])
   (.skip))))
   (.live [4, 3, 24, 18, 0] (.seq (.region [⟨(some 206), none, (.op (.mv (.t 18)))⟩,
    ⟨(some 207), none, (.op (.mv (.t 24)))⟩,
    ⟨(some 208), none, (.op (.bin .int false .lss (.t 206) (.t 207)))⟩,
    ⟨(some 209), none, (.op (.mv (.t 208)))⟩,
    ⟨(some 210), some (209, true), (.op (.mv (.t 24)))⟩,
    ⟨(some 211), some (209, true), (.op (.mv (.t 3)))⟩,
    ⟨(some 212), some (209, true), (.op (.bin .int false .lss (.t 210) (.t 211)))⟩,
    ⟨(some 213), none, (.op (.pick (.t 209) (.t 212) (.c (.b false))))⟩])
   (.live [4, 3, 24, 18, 0, 213] (.cond (.t 213) (.region [⟨(some 214), none, (.op (.mv (.t 0)))⟩,
    ⟨(some 215), none, (.op (.mv (.t 18)))⟩,
    ⟨(some 216), none, (.op (.mv (.t 24)))⟩,
    ⟨(some 217), none, (.op (.mv (.t 3)))⟩,
    ⟨(some 218), none, (.op (.mv (.t 4)))⟩,
    ⟨(some 219), none, (.call 99 [(.t 214), (.t 215), (.t 216), (.t 217), (.t 218)])⟩])
   (.skip))))))))))))))))))))))))),
  []⟩


/- floodgate/policy.Right$1 -/

def c100 : IFunc := ⟨1, [.tmp 2],
  .seq (.region [⟨(some 2), none, (.op (.mv (.c (.b false))))⟩])
   (.live [0] (.seq (.region [⟨(some 3), none, (.op (.mv (.t 0)))⟩,
    ⟨(some 4), none, (.op (.bin .int true .gtr (.t 3) (.c (.i .u64 281474976710656))))⟩,
    ⟨(some 2), none, (.op (.mv (.t 4)))⟩])
   (.ret))),
  []⟩


/- floodgate/policy.Right$2 -/

def c101 : IFunc := ⟨1, [.tmp 2],
  .seq (.region [⟨(some 2), none, (.op (.mv (.c (.b false))))⟩])
   (.live [0] (.seq (.region [⟨(some 3), none, (.op (.mv (.t 0)))⟩,
    ⟨(some 4), none, (.op (.bin .int true .lss (.t 3) (.c (.i .u64 1500))))⟩,
    ⟨(some 2), none, (.op (.mv (.t 4)))⟩])
   (.ret))),
  []⟩


/- floodgate/addr.Right -/
def c102d0 : List Stage :=
  [⟨[(⟨(some 3), none, (.op (.faddr 4 (.t 1)))⟩, 0), (⟨(some 4), none, (.op (.load none (.t 3)))⟩, 0), (⟨(some 5), none, (.op (.bin .int true .geq (.t 4) (.c (.i .i64 0))))⟩, 0), (⟨(some 6), none, (.op (.mv (.t 5)))⟩, 0), (⟨(some 7), some (6, true), (.op (.faddr 4 (.t 1)))⟩, 0), (⟨(some 8), some (6, true), (.op (.load none (.t 7)))⟩, 0), (⟨(some 9), some (6, true), (.op (.bin .int true .leq (.t 8) (.c (.i .i64 32))))⟩, 0), (⟨(some 10), none, (.op (.pick (.t 6) (.t 9) (.c (.b false))))⟩, 0), (⟨(some 11), none, (.op (.mv (.t 10)))⟩, 0), (⟨(some 12), some (11, true), (.op (.faddr 0 (.t 1)))⟩, 0), (⟨(some 13), some (11, true), (.op (.load (some 4) (.t 12)))⟩, 0), (⟨(some 14), some (11, true), (.op (.faddr 4 (.t 1)))⟩, 0), (⟨(some 15), some (11, true), (.op (.load none (.t 14)))⟩, 0), (⟨(some 17), some (11, true), (.op (.load (some 5) (.t 1)))⟩, 1)], none, some ⟨(some 16), some (11, true), (.call 127 [(.t 13), (.t 15)])⟩⟩,
    ⟨[(⟨(some 18), some (11, true), (.op (.eqag false [.int, .int, .int, .int, .int] (.t 16) (.t 17)))⟩, 1), (⟨(some 19), none, (.op (.pick (.t 11) (.t 18) (.c (.b false))))⟩, 1), (⟨(some 2), none, (.op (.mv (.t 19)))⟩, 1)], none, none⟩]
def c102d0w : List (ROp × Bool) :=
  [(⟨(some 3), none, (.op (.faddr 4 (.t 1)))⟩, false), (⟨(some 4), none, (.op (.load none (.t 3)))⟩, false), (⟨(some 5), none, (.op (.bin .int true .geq (.t 4) (.c (.i .i64 0))))⟩, false), (⟨(some 6), none, (.op (.mv (.t 5)))⟩, false), (⟨(some 7), some (6, true), (.op (.faddr 4 (.t 1)))⟩, false), (⟨(some 8), some (6, true), (.op (.load none (.t 7)))⟩, false), (⟨(some 9), some (6, true), (.op (.bin .int true .leq (.t 8) (.c (.i .i64 32))))⟩, false), (⟨(some 10), none, (.op (.pick (.t 6) (.t 9) (.c (.b false))))⟩, false), (⟨(some 11), none, (.op (.mv (.t 10)))⟩, false), (⟨(some 12), some (11, true), (.op (.faddr 0 (.t 1)))⟩, false), (⟨(some 13), some (11, true), (.op (.load (some 4) (.t 12)))⟩, false), (⟨(some 14), some (11, true), (.op (.faddr 4 (.t 1)))⟩, false), (⟨(some 15), some (11, true), (.op (.load none (.t 14)))⟩, false), (⟨(some 17), some (11, true), (.op (.load (some 5) (.t 1)))⟩, false), (⟨(some 16), some (11, true), (.call 127 [(.t 13), (.t 15)])⟩, true), (⟨(some 18), some (11, true), (.op (.eqag false [.int, .int, .int, .int, .int] (.t 16) (.t 17)))⟩, false), (⟨(some 19), none, (.op (.pick (.t 11) (.t 18) (.c (.b false))))⟩, false), (⟨(some 2), none, (.op (.mv (.t 19)))⟩, false)]
theorem c102d0_w {P : Program} {O : Orc} {S0 : Mem} {rd : Bool} {e : Env} {S : Mem} {d : List Nat} {Q : Kont} : W P O S0 rd (.draw c102d0 []) e S d Q = wFl O c102d0w e S (normK Q d) := W_draw' (by kernel_rfl) (by kernel_rfl)
attribute [go_sem] c102d0_w c102d0w
def c102 : IFunc := ⟨1, [.tmp 2],
  .seq (.region [⟨(some 1), none, (.op (.box (.t 0)))⟩,
    ⟨(some 2), none, (.op (.mv (.c (.b false))))⟩])
   (.live [1] (.seq (.draw c102d0 [])
   (.ret))),
  []⟩


/- slices.ContainsFunc[[]uint64,uint64] -/

def c103 : IFunc := ⟨2, [.tmp 4],
  .seq (.region [⟨(some 4), none, (.op (.mv (.c (.b false))))⟩])
   (.live [1, 0] (.seq (.region [⟨(some 5), none, (.op (.mv (.t 0)))⟩,
    ⟨(some 6), none, (.op (.mv (.t 1)))⟩,
    ⟨(some 7), none, (.call 128 [(.t 5), (.t 6)])⟩,
    ⟨(some 8), none, (.op (.bin .int true .geq (.t 7) (.c (.i .i64 0))))⟩,
    ⟨(some 4), none, (.op (.mv (.t 8)))⟩])
   (.ret))),
  []⟩


/- internal/stringslite.HasSuffix -/

def c115 : IFunc := ⟨2, [.tmp 4],
  .seq (.region [⟨(some 4), none, (.op (.mv (.c (.b false))))⟩])
   (.live [1, 0] (.seq (.region [⟨(some 5), none, (.op (.mv (.t 0)))⟩,
    ⟨(some 6), none, (.op (.len .str (.t 5)))⟩,
    ⟨(some 7), none, (.op (.mv (.t 1)))⟩,
    ⟨(some 8), none, (.op (.len .str (.t 7)))⟩,
    ⟨(some 9), none, (.op (.bin .int false .geq (.t 6) (.t 8)))⟩,
    ⟨(some 10), none, (.op (.mv (.t 9)))⟩,
    ⟨(some 11), some (10, true), (.op (.mv (.t 0)))⟩,
    ⟨(some 12), some (10, true), (.op (.mv (.t 0)))⟩,
    ⟨(some 13), some (10, true), (.op (.len .str (.t 12)))⟩,
    ⟨(some 14), some (10, true), (.op (.mv (.t 1)))⟩,
    ⟨(some 15), some (10, true), (.op (.len .str (.t 14)))⟩,
    ⟨(some 16), some (10, true), (.op (.bin .int false .sub (.t 13) (.t 15)))⟩,
    ⟨(some 17), some (10, true), (.op (.sls (.t 11) (some (.t 16)) none))⟩,
    ⟨(some 18), some (10, true), (.op (.mv (.t 1)))⟩,
    ⟨(some 19), some (10, true), (.op (.bin .str false .eql (.t 17) (.t 18)))⟩,
    ⟨(some 20), none, (.op (.pick (.t 10) (.t 19) (.c (.b false))))⟩,
    ⟨(some 4), none, (.op (.mv (.t 20)))⟩])
   (.ret))),
  []⟩


/- internal/stringslite.Index -/
def c123l0 : ICode :=
  .seq (.seq (.region [⟨(some 57), none, (.op (.mv (.t 8)))⟩,
    ⟨(some 58), none, (.op (.mv (.t 9)))⟩,
    ⟨(some 59), none, (.op (.bin .int false .lss (.t 57) (.t 58)))⟩])
   (.live [1, 0, 9, 5, 7, 6, 10, 8, 59] (.cond (.t 59) (.skip)
   (.exit 1))))
   (.live [1, 0, 9, 5, 7, 6, 10, 8] (.block 2 (.seq (.seq (.region [⟨(some 60), none, (.op (.mv (.t 0)))⟩,
    ⟨(some 61), none, (.op (.mv (.t 8)))⟩,
    ⟨(some 62), none, (.op (.ixs (.t 60) (.t 61)))⟩,
    ⟨(some 63), none, (.op (.mv (.t 6)))⟩,
    ⟨(some 64), none, (.op (.bin .int false .neq (.t 62) (.t 63)))⟩])
   (.live [1, 0, 9, 5, 7, 6, 10, 8, 64] (.cond (.t 64) (.seq (.region [⟨(some 65), none, (.op (.mv (.t 0)))⟩,
    ⟨(some 66), none, (.op (.mv (.t 8)))⟩,
    ⟨(some 67), none, (.op (.bin .int true .add (.t 66) (.c (.i .i64 1))))⟩,
    ⟨(some 68), none, (.op (.mv (.t 9)))⟩,
    ⟨(some 69), none, (.op (.sls (.t 65) (some (.t 67)) (some (.t 68))))⟩,
    ⟨(some 70), none, (.op (.mv (.t 6)))⟩,
    ⟨(some 71), none, (.call 143 [(.t 69), (.t 70)])⟩,
    ⟨(some 11), none, (.op (.mv (.t 71)))⟩])
   (.live [1, 0, 9, 5, 7, 6, 10, 11, 8] (.seq (.seq (.region [⟨(some 72), none, (.op (.mv (.t 11)))⟩,
    ⟨(some 73), none, (.op (.bin .int true .lss (.t 72) (.c (.i .i64 0))))⟩])
   (.live [1, 0, 9, 5, 7, 6, 10, 11, 8, 73] (.cond (.t 73) (.seq (.region [⟨(some 4), none, (.op (.mv (.c (.i .i64 (-1)))))⟩])
   (.ret))
   (.skip))))
   (.live [1, 0, 9, 5, 7, 6, 10, 11, 8] (.region [⟨(some 74), none, (.op (.mv (.t 8)))⟩,
    ⟨(some 75), none, (.op (.mv (.t 11)))⟩,
    ⟨(some 76), none, (.op (.bin .int true .add (.t 75) (.c (.i .i64 1))))⟩,
    ⟨(some 77), none, (.op (.bin .int false .add (.t 74) (.t 76)))⟩,
    ⟨(some 8), none, (.op (.mv (.t 77)))⟩])))))
   (.skip))))
   (.live [8, 1, 0, 9, 5, 7, 6, 10] (.seq (.seq (.region [⟨(some 78), none, (.op (.mv (.t 0)))⟩,
    ⟨(some 79), none, (.op (.mv (.t 8)))⟩,
    ⟨(some 80), none, (.op (.bin .int true .add (.t 79) (.c (.i .i64 1))))⟩,
    ⟨(some 81), none, (.op (.ixs (.t 78) (.t 80)))⟩,
    ⟨(some 82), none, (.op (.mv (.t 7)))⟩,
    ⟨(some 83), none, (.op (.bin .int false .eql (.t 81) (.t 82)))⟩,
    ⟨(some 84), none, (.op (.mv (.t 83)))⟩,
    ⟨(some 85), some (84, true), (.op (.mv (.t 0)))⟩,
    ⟨(some 86), some (84, true), (.op (.mv (.t 8)))⟩,
    ⟨(some 87), some (84, true), (.op (.mv (.t 8)))⟩,
    ⟨(some 88), some (84, true), (.op (.mv (.t 5)))⟩,
    ⟨(some 89), some (84, true), (.op (.bin .int false .add (.t 87) (.t 88)))⟩,
    ⟨(some 90), some (84, true), (.op (.sls (.t 85) (some (.t 86)) (some (.t 89))))⟩,
    ⟨(some 91), some (84, true), (.op (.mv (.t 1)))⟩,
    ⟨(some 92), some (84, true), (.op (.bin .str false .eql (.t 90) (.t 91)))⟩,
    ⟨(some 93), none, (.op (.pick (.t 84) (.t 92) (.c (.b false))))⟩])
   (.live [8, 1, 0, 9, 5, 7, 6, 10, 93] (.cond (.t 93) (.seq (.region [⟨(some 94), none, (.op (.mv (.t 8)))⟩,
    ⟨(some 4), none, (.op (.mv (.t 94)))⟩])
   (.ret))
   (.skip))))
   (.live [1, 0, 9, 5, 7, 6, 10, 8] (.seq (.region [⟨(some 95), none, (.op (.mv (.t 8)))⟩,
    ⟨(some 96), none, (.op (.bin .int true .add (.t 95) (.c (.i .i64 1))))⟩,
    ⟨(some 8), none, (.op (.mv (.t 96)))⟩])
   (.live [8, 1, 0, 9, 5, 7, 6, 10] (.seq (.region [⟨(some 97), none, (.op (.mv (.t 10)))⟩,
    ⟨(some 98), none, (.op (.bin .int true .add (.t 97) (.c (.i .i64 1))))⟩,
    ⟨(some 10), none, (.op (.mv (.t 98)))⟩])
   (.live [8, 1, 0, 9, 5, 7, 6, 10] (.seq (.region [⟨(some 99), none, (.op (.mv (.t 5)))⟩,
    ⟨(some 100), none, (.op (.bad))⟩,
    ⟨(some 101), none, (.op (.bin .int false .leq (.t 99) (.t 100)))⟩,
    ⟨(some 102), none, (.op (.mv (.t 101)))⟩,
    ⟨(some 103), some (102, true), (.op (.mv (.t 10)))⟩,
    ⟨(some 104), some (102, true), (.op (.mv (.t 8)))⟩,
    ⟨(some 105), some (102, true), (.call 141 [(.t 104)])⟩,
    ⟨(some 106), some (102, true), (.op (.bin .int false .gtr (.t 103) (.t 105)))⟩,
    ⟨(some 107), none, (.op (.pick (.t 102) (.t 106) (.c (.b false))))⟩])
   (.live [8, 1, 0, 9, 5, 7, 6, 10, 107] (.cond (.t 107) (.seq (.region [⟨(some 108), none, (.op (.mv (.t 0)))⟩,
    ⟨(some 109), none, (.op (.mv (.t 8)))⟩,
    ⟨(some 110), none, (.op (.sls (.t 108) (some (.t 109)) none))⟩,
    ⟨(some 111), none, (.op (.mv (.t 1)))⟩,
    ⟨(some 112), none, (.op (.bad))⟩,
    ⟨(some 12), none, (.op (.mv (.t 112)))⟩])
   (.live [8, 12] (.seq (.seq (.region [⟨(some 113), none, (.op (.mv (.t 12)))⟩,
    ⟨(some 114), none, (.op (.bin .int true .geq (.t 113) (.c (.i .i64 0))))⟩])
   (.live [8, 12, 114] (.cond (.t 114) (.seq (.region [⟨(some 115), none, (.op (.mv (.t 12)))⟩,
    ⟨(some 116), none, (.op (.mv (.t 8)))⟩,
    ⟨(some 117), none, (.op (.bin .int false .add (.t 115) (.t 116)))⟩,
    ⟨(some 4), none, (.op (.mv (.t 117)))⟩])
   (.ret))
   (.skip))))
   (.live [] (.seq (.region [⟨(some 4), none, (.op (.mv (.c (.i .i64 (-1)))))⟩])
   (.ret))))))
   (.seq (.region [⟨(some 118), none, (.op (.mv (.t 5)))⟩,
    ⟨(some 119), none, (.op (.bad))⟩,
    ⟨(some 120), none, (.op (.bin .int false .gtr (.t 118) (.t 119)))⟩,
    ⟨(some 121), none, (.op (.mv (.t 120)))⟩,
    ⟨(some 122), some (121, true), (.op (.mv (.t 10)))⟩,
    ⟨(some 123), some (121, true), (.op (.mv (.t 8)))⟩,
    ⟨(some 124), some (121, true), (.op (.bin .int true .shr (.t 123) (.c (.i .u64 4))))⟩,
    ⟨(some 125), some (121, true), (.op (.bin .int true .add (.c (.i .i64 4)) (.t 124)))⟩,
    ⟨(some 126), some (121, true), (.op (.bin .int false .geq (.t 122) (.t 125)))⟩,
    ⟨(some 127), none, (.op (.pick (.t 121) (.t 126) (.c (.b false))))⟩,
    ⟨(some 128), none, (.op (.mv (.t 127)))⟩,
    ⟨(some 129), some (128, true), (.op (.mv (.t 8)))⟩,
    ⟨(some 130), some (128, true), (.op (.mv (.t 9)))⟩,
    ⟨(some 131), some (128, true), (.op (.bin .int false .lss (.t 129) (.t 130)))⟩,
    ⟨(some 132), none, (.op (.pick (.t 128) (.t 131) (.c (.b false))))⟩])
   (.live [8, 1, 0, 9, 5, 7, 6, 10, 132] (.cond (.t 132) (.seq (.region [⟨(some 133), none, (.op (.mv (.t 0)))⟩,
    ⟨(some 134), none, (.op (.mv (.t 8)))⟩,
    ⟨(some 135), none, (.op (.sls (.t 133) (some (.t 134)) none))⟩,
    ⟨(some 136), none, (.op (.mv (.t 1)))⟩,
    ⟨(some 137), none, (.call 144 [(.t 135), (.t 136)])⟩,
    ⟨(some 13), none, (.op (.mv (.t 137)))⟩])
   (.live [13, 8] (.seq (.seq (.region [⟨(some 138), none, (.op (.mv (.t 13)))⟩,
    ⟨(some 139), none, (.op (.bin .int true .lss (.t 138) (.c (.i .i64 0))))⟩])
   (.live [13, 8, 139] (.cond (.t 139) (.seq (.region [⟨(some 4), none, (.op (.mv (.c (.i .i64 (-1)))))⟩])
   (.ret))
   (.skip))))
   (.live [13, 8] (.seq (.region [⟨(some 140), none, (.op (.mv (.t 8)))⟩,
    ⟨(some 141), none, (.op (.mv (.t 13)))⟩,
    ⟨(some 142), none, (.op (.bin .int false .add (.t 140) (.t 141)))⟩,
    ⟨(some 4), none, (.op (.mv (.t 142)))⟩])
   (.ret))))))
   (.skip)))))))))))))))))
def c123 : IFunc := ⟨2, [.tmp 4],
  .seq (.region [⟨(some 4), none, (.op (.mv (.c (.i .i64 0))))⟩])
   (.live [1, 0] (.seq (.region [⟨(some 14), none, (.op (.mv (.t 1)))⟩,
    ⟨(some 15), none, (.op (.len .str (.t 14)))⟩,
    ⟨(some 5), none, (.op (.mv (.t 15)))⟩])
   (.live [1, 0, 5] (.seq (.block 0 (.seq (.region [⟨(some 17), none, (.op (.mv (.t 5)))⟩,
    ⟨(some 18), none, (.op (.bin .int true .eql (.t 17) (.c (.i .i64 0))))⟩,
    ⟨(some 19), none, (.op (.mv (.t 18)))⟩,
    ⟨(some 20), some (19, false), (.op (.mv (.t 1)))⟩,
    ⟨(some 21), some (19, false), (.op (.mv (.t 0)))⟩,
    ⟨(some 22), some (19, false), (.op (.bin .str false .eql (.t 20) (.t 21)))⟩,
    ⟨(some 23), none, (.op (.pick (.t 19) (.c (.b true)) (.t 22)))⟩,
    ⟨(some 16), none, (.op (.mv (.t 23)))⟩])
   (.live [1, 0, 5, 16] (.cond (.t 16) (.seq (.region [⟨(some 4), none, (.op (.mv (.c (.i .i64 0))))⟩])
   (.ret))
   (.seq (.region [⟨(some 25), none, (.op (.mv (.t 5)))⟩,
    ⟨(some 26), none, (.op (.bin .int true .eql (.t 25) (.c (.i .i64 1))))⟩,
    ⟨(some 24), none, (.op (.mv (.t 26)))⟩])
   (.live [1, 0, 5, 24] (.cond (.t 24) (.seq (.region [⟨(some 27), none, (.op (.mv (.t 0)))⟩,
    ⟨(some 28), none, (.op (.mv (.t 1)))⟩,
    ⟨(some 29), none, (.op (.ixs (.t 28) (.c (.i .i64 0))))⟩,
    ⟨(some 30), none, (.call 143 [(.t 27), (.t 29)])⟩,
    ⟨(some 4), none, (.op (.mv (.t 30)))⟩])
   (.ret))
   (.seq (.region [⟨(some 32), none, (.op (.mv (.t 5)))⟩,
    ⟨(some 33), none, (.op (.mv (.t 0)))⟩,
    ⟨(some 34), none, (.op (.len .str (.t 33)))⟩,
    ⟨(some 35), none, (.op (.bin .int false .geq (.t 32) (.t 34)))⟩,
    ⟨(some 31), none, (.op (.mv (.t 35)))⟩])
   (.live [1, 0, 5, 31] (.cond (.t 31) (.seq (.region [⟨(some 4), none, (.op (.mv (.c (.i .i64 (-1)))))⟩])
   (.ret))
   (.seq (.region [⟨(some 37), none, (.op (.mv (.t 5)))⟩,
    ⟨(some 38), none, (.op (.bad))⟩,
    ⟨(some 39), none, (.op (.bin .int false .leq (.t 37) (.t 38)))⟩,
    ⟨(some 40), none, (.op (.mv (.t 39)))⟩,
    ⟨(some 41), some (40, true), (.op (.mv (.t 0)))⟩,
    ⟨(some 42), some (40, true), (.op (.len .str (.t 41)))⟩,
    ⟨(some 43), some (40, true), (.op (.bin .int true .leq (.t 42) (.c (.i .i64 64))))⟩,
    ⟨(some 44), none, (.op (.pick (.t 40) (.t 43) (.c (.b false))))⟩,
    ⟨(some 36), none, (.op (.mv (.t 44)))⟩])
   (.live [1, 0, 5, 36] (.cond (.t 36) (.seq (.region [⟨(some 45), none, (.op (.mv (.t 0)))⟩,
    ⟨(some 46), none, (.op (.mv (.t 1)))⟩,
    ⟨(some 47), none, (.op (.bad))⟩,
    ⟨(some 4), none, (.op (.mv (.t 47)))⟩])
   (.ret))
   (.skip))))))))))))))
   (.live [1, 0, 5] (.seq (.region [⟨(some 48), none, (.op (.mv (.t 1)))⟩,
    ⟨(some 49), none, (.op (.ixs (.t 48) (.c (.i .i64 0))))⟩,
    ⟨(some 6), none, (.op (.mv (.t 49)))⟩])
   (.live [1, 0, 5, 6] (.seq (.region [⟨(some 50), none, (.op (.mv (.t 1)))⟩,
    ⟨(some 51), none, (.op (.ixs (.t 50) (.c (.i .i64 1))))⟩,
    ⟨(some 7), none, (.op (.mv (.t 51)))⟩])
   (.live [1, 0, 5, 7, 6] (.seq (.region [⟨(some 8), none, (.op (.mv (.c (.i .i64 0))))⟩])
   (.live [1, 0, 5, 7, 6, 8] (.seq (.region [⟨(some 52), none, (.op (.mv (.t 0)))⟩,
    ⟨(some 53), none, (.op (.len .str (.t 52)))⟩,
    ⟨(some 54), none, (.op (.mv (.t 5)))⟩,
    ⟨(some 55), none, (.op (.bin .int false .sub (.t 53) (.t 54)))⟩,
    ⟨(some 56), none, (.op (.bin .int true .add (.t 55) (.c (.i .i64 1))))⟩,
    ⟨(some 9), none, (.op (.mv (.t 56)))⟩])
   (.live [1, 0, 9, 5, 7, 6, 8] (.seq (.region [⟨(some 10), none, (.op (.mv (.c (.i .i64 0))))⟩])
   (.live [1, 0, 9, 5, 7, 6, 10, 8] (.seq (.block 1 (.loop [1, 0, 9, 5, 7, 6, 10, 8] c123l0))
   (.live [] (.seq (.region [⟨(some 4), none, (.op (.mv (.c (.i .i64 (-1)))))⟩])
   (.ret))))))))))))))))))),
  []⟩


/- floodgate/addr.Parse -/
def c124l0 : ICode :=
  .seq (.region [⟨(some 12), none, (.op (.bin .int true .lss (.t 11) (.c (.i .i64 4))))⟩])
   (.live [2, 4, 11, 0, 12] (.seq (.cond (.t 12) (.skip)
   (.exit 0))
   (.live [2, 4, 11, 0] (.seq (.block 1 (.seq (.region [⟨(some 13), none, (.op (.mv (.t 11)))⟩,
    ⟨(some 5), none, (.op (.mv (.t 13)))⟩])
   (.live [2, 4, 11, 5, 0] (.seq (.region [⟨(some 15), none, (.op (.mv (.t 0)))⟩,
    ⟨(some 16), none, (.call 66 [(.t 15), (.c (.s [46]))])⟩,
    ⟨(some 14), none, (.op (.mv (.t 16)))⟩,
    ⟨(some 17), none, (.op (.ext (.t 14) 0))⟩,
    ⟨(some 18), none, (.op (.ext (.t 14) 1))⟩,
    ⟨(some 19), none, (.op (.ext (.t 14) 2))⟩,
    ⟨(some 6), none, (.op (.mv (.t 17)))⟩,
    ⟨(some 7), none, (.op (.mv (.t 18)))⟩,
    ⟨(some 8), none, (.op (.mv (.t 19)))⟩])
   (.live [2, 4, 11, 7, 5, 8, 6] (.seq (.region [⟨(some 21), none, (.op (.mv (.t 6)))⟩,
    ⟨(some 22), none, (.call 125 [(.t 21), (.c (.i .i64 255))])⟩,
    ⟨(some 20), none, (.op (.mv (.t 22)))⟩,
    ⟨(some 23), none, (.op (.ext (.t 20) 0))⟩,
    ⟨(some 24), none, (.op (.ext (.t 20) 1))⟩,
    ⟨(some 9), none, (.op (.mv (.t 23)))⟩,
    ⟨(some 10), none, (.op (.mv (.t 24)))⟩])
   (.live [2, 4, 11, 7, 9, 5, 8, 10] (.seq (.seq (.region [⟨(some 25), none, (.op (.mv (.t 10)))⟩,
    ⟨(some 26), none, (.op (.un .not (.t 25)))⟩,
    ⟨(some 27), none, (.op (.mv (.t 26)))⟩,
    ⟨(some 28), some (27, false), (.op (.mv (.t 8)))⟩,
    ⟨(some 29), some (27, false), (.op (.mv (.t 5)))⟩,
    ⟨(some 30), some (27, false), (.op (.bin .int true .lss (.t 29) (.c (.i .i64 3))))⟩,
    ⟨(some 31), some (27, false), (.op (.bin .bool false .neq (.t 28) (.t 30)))⟩,
    ⟨(some 32), none, (.op (.pick (.t 27) (.c (.b true)) (.t 31)))⟩])
   (.live [2, 4, 11, 7, 9, 5, 32] (.cond (.t 32) (.seq (.region [⟨(some 33), none, (.op (.build [(.i .u8 0), (.i .u8 0), (.i .u8 0), (.i .u8 0)] []))⟩,
    ⟨none, none, (.op (.store 4 (.t 2) (.t 33)))⟩,
    ⟨(some 3), none, (.op (.mv (.c (.i .i64 41))))⟩])
   (.ret))
   (.skip))))
   (.live [2, 4, 11, 7, 9, 5] (.seq (.region [⟨(some 34), none, (.op (.mv (.t 5)))⟩,
    ⟨(some 35), none, (.op (.mv (.t 9)))⟩,
    ⟨(some 36), none, (.op (.toInt .u8 (.t 35)))⟩,
    ⟨(some 37), none, (.op (.iaddr (some 4) 1 (.t 4) (.t 34)))⟩,
    ⟨none, none, (.op (.store 1 (.t 37) (.t 36)))⟩])
   (.live [2, 4, 11, 7] (.region [⟨(some 38), none, (.op (.mv (.t 7)))⟩,
    ⟨(some 0), none, (.op (.mv (.t 38)))⟩]))))))))))))
   (.live [2, 4, 0, 11] (.region [⟨(some 39), none, (.op (.bin .int true .add (.t 11) (.c (.i .i64 1))))⟩,
    ⟨(some 11), none, (.op (.mv (.t 39)))⟩]))))))
def c124 : IFunc := ⟨1, [.cell 2 (some 4), .tmp 3],
  .seq (.region [⟨(some 2), none, (.op (.fresh [(.i .u8 0), (.i .u8 0), (.i .u8 0), (.i .u8 0)]))⟩,
    ⟨(some 3), none, (.op (.mv (.c (.i .i64 0))))⟩])
   (.live [2, 0] (.seq (.region [⟨(some 4), none, (.op (.fresh [(.i .u8 0), (.i .u8 0), (.i .u8 0), (.i .u8 0)]))⟩])
   (.live [2, 4, 0] (.seq (.seq (.region [⟨(some 11), none, (.op (.mv (.c (.i .i64 0))))⟩])
   (.live [2, 4, 11, 0] (.block 0 (.loop [2, 4, 11, 0] c124l0))))
   (.live [2, 4] (.seq (.region [⟨(some 40), none, (.op (.load (some 4) (.t 4)))⟩,
    ⟨none, none, (.op (.store 4 (.t 2) (.t 40)))⟩,
    ⟨(some 3), none, (.op (.mv (.c (.i .i64 0))))⟩])
   (.ret))))))),
  []⟩


/- floodgate/addr.number -/

def c125 : IFunc := ⟨2, [.tmp 4, .tmp 5],
  .seq (.region [⟨(some 4), none, (.op (.mv (.c (.i .i64 0))))⟩,
    ⟨(some 5), none, (.op (.mv (.c (.b false))))⟩])
   (.live [0, 1] (.seq (.region [⟨(some 9), none, (.op (.mv (.t 0)))⟩,
    ⟨(some 10), none, (.call 145 [(.t 9)])⟩,
    ⟨(some 8), none, (.op (.mv (.t 10)))⟩,
    ⟨(some 11), none, (.op (.ext (.t 8) 0))⟩,
    ⟨(some 12), none, (.op (.ext (.t 8) 1))⟩,
    ⟨(some 6), none, (.op (.mv (.t 11)))⟩,
    ⟨(some 7), none, (.op (.mv (.t 12)))⟩])
   (.live [0, 6, 1, 7] (.seq (.region [⟨(some 13), none, (.op (.mv (.t 6)))⟩,
    ⟨(some 14), none, (.op (.mv (.t 7)))⟩,
    ⟨(some 15), none, (.op (.bin .iface true .eql (.t 14) (.c .ni)))⟩,
    ⟨(some 16), none, (.op (.mv (.t 15)))⟩,
    ⟨(some 17), some (16, true), (.op (.mv (.t 6)))⟩,
    ⟨(some 18), some (16, true), (.op (.bin .int true .geq (.t 17) (.c (.i .i64 0))))⟩,
    ⟨(some 19), none, (.op (.pick (.t 16) (.t 18) (.c (.b false))))⟩,
    ⟨(some 20), none, (.op (.mv (.t 19)))⟩,
    ⟨(some 21), some (20, true), (.op (.mv (.t 6)))⟩,
    ⟨(some 22), some (20, true), (.op (.mv (.t 1)))⟩,
    ⟨(some 23), some (20, true), (.op (.bin .int false .leq (.t 21) (.t 22)))⟩,
    ⟨(some 24), none, (.op (.pick (.t 20) (.t 23) (.c (.b false))))⟩,
    ⟨(some 25), none, (.op (.mv (.t 24)))⟩,
    ⟨(some 26), some (25, true), (.op (.mv (.t 6)))⟩,
    ⟨(some 27), some (25, true), (.call 44 [(.t 26)])⟩,
    ⟨(some 28), some (25, true), (.op (.mv (.t 0)))⟩,
    ⟨(some 29), some (25, true), (.op (.bin .str false .eql (.t 27) (.t 28)))⟩,
    ⟨(some 30), none, (.op (.pick (.t 25) (.t 29) (.c (.b false))))⟩,
    ⟨(some 4), none, (.op (.mv (.t 13)))⟩,
    ⟨(some 5), none, (.op (.mv (.t 30)))⟩])
   (.ret))))),
  []⟩


/- slices.rotateCmpFunc[floodgate/api.Policy] -/
def c126l0 : ICode :=
  .seq (.seq (.region [⟨(some 18), none, (.op (.mv (.t 10)))⟩,
    ⟨(some 19), none, (.op (.mv (.t 11)))⟩,
    ⟨(some 20), none, (.op (.bin .int false .neq (.t 18) (.t 19)))⟩])
   (.live [11, 4, 2, 0, 10, 20] (.cond (.t 20) (.skip)
   (.exit 0))))
   (.live [11, 4, 2, 0, 10] (.block 1 (.seq (.region [⟨(some 21), none, (.op (.mv (.t 10)))⟩,
    ⟨(some 22), none, (.op (.mv (.t 11)))⟩,
    ⟨(some 23), none, (.op (.bin .int false .gtr (.t 21) (.t 22)))⟩])
   (.live [11, 4, 2, 0, 10, 23] (.cond (.t 23) (.seq (.region [⟨(some 24), none, (.op (.mv (.t 0)))⟩,
    ⟨(some 25), none, (.op (.mv (.t 2)))⟩,
    ⟨(some 26), none, (.op (.mv (.t 10)))⟩,
    ⟨(some 27), none, (.op (.bin .int false .sub (.t 25) (.t 26)))⟩,
    ⟨(some 28), none, (.op (.mv (.t 2)))⟩,
    ⟨(some 29), none, (.op (.mv (.t 11)))⟩,
    ⟨(some 30), none, (.op (.mv (.t 4)))⟩,
    ⟨(some 31), none, (.call 146 [(.t 24), (.t 27), (.t 28), (.t 29), (.t 30)])⟩])
   (.live [11, 4, 2, 0, 10] (.region [⟨(some 32), none, (.op (.mv (.t 10)))⟩,
    ⟨(some 33), none, (.op (.mv (.t 11)))⟩,
    ⟨(some 34), none, (.op (.bin .int false .sub (.t 32) (.t 33)))⟩,
    ⟨(some 10), none, (.op (.mv (.t 34)))⟩])))
   (.seq (.region [⟨(some 35), none, (.op (.mv (.t 0)))⟩,
    ⟨(some 36), none, (.op (.mv (.t 2)))⟩,
    ⟨(some 37), none, (.op (.mv (.t 10)))⟩,
    ⟨(some 38), none, (.op (.bin .int false .sub (.t 36) (.t 37)))⟩,
    ⟨(some 39), none, (.op (.mv (.t 2)))⟩,
    ⟨(some 40), none, (.op (.mv (.t 11)))⟩,
    ⟨(some 41), none, (.op (.bin .int false .add (.t 39) (.t 40)))⟩,
    ⟨(some 42), none, (.op (.mv (.t 10)))⟩,
    ⟨(some 43), none, (.op (.bin .int false .sub (.t 41) (.t 42)))⟩,
    ⟨(some 44), none, (.op (.mv (.t 10)))⟩,
    ⟨(some 45), none, (.op (.mv (.t 4)))⟩,
    ⟨(some 46), none, (.call 146 [(.t 35), (.t 38), (.t 43), (.t 44), (.t 45)])⟩])
   (.live [4, 2, 0, 10, 11] (.region [⟨(some 47), none, (.op (.mv (.t 11)))⟩,
    ⟨(some 48), none, (.op (.mv (.t 10)))⟩,
    ⟨(some 49), none, (.op (.bin .int false .sub (.t 47) (.t 48)))⟩,
    ⟨(some 11), none, (.op (.mv (.t 49)))⟩]))))))))
def c126 : IFunc := ⟨5, [],
  .seq (.region [⟨(some 12), none, (.op (.mv (.t 2)))⟩,
    ⟨(some 13), none, (.op (.mv (.t 1)))⟩,
    ⟨(some 14), none, (.op (.bin .int false .sub (.t 12) (.t 13)))⟩,
    ⟨(some 10), none, (.op (.mv (.t 14)))⟩])
   (.live [4, 2, 0, 10, 3] (.seq (.region [⟨(some 15), none, (.op (.mv (.t 3)))⟩,
    ⟨(some 16), none, (.op (.mv (.t 2)))⟩,
    ⟨(some 17), none, (.op (.bin .int false .sub (.t 15) (.t 16)))⟩,
    ⟨(some 11), none, (.op (.mv (.t 17)))⟩])
   (.live [11, 4, 2, 0, 10] (.seq (.block 0 (.loop [11, 4, 2, 0, 10] c126l0))
   (.live [4, 10, 2, 0] (.region [⟨(some 50), none, (.op (.mv (.t 0)))⟩,
    ⟨(some 51), none, (.op (.mv (.t 2)))⟩,
    ⟨(some 52), none, (.op (.mv (.t 10)))⟩,
    ⟨(some 53), none, (.op (.bin .int false .sub (.t 51) (.t 52)))⟩,
    ⟨(some 54), none, (.op (.mv (.t 2)))⟩,
    ⟨(some 55), none, (.op (.mv (.t 10)))⟩,
    ⟨(some 56), none, (.op (.mv (.t 4)))⟩,
    ⟨(some 57), none, (.call 146 [(.t 50), (.t 53), (.t 54), (.t 55), (.t 56)])⟩])))))),
  []⟩


/- floodgate/addr.Cut -/

def c127 : IFunc := ⟨2, [.cell 4 (some 5)],
  .seq (.region [⟨(some 2), none, (.op (.box (.t 0)))⟩,
    ⟨(some 4), none, (.op (.fresh [(.i .u8 0), (.i .u8 0), (.i .u8 0), (.i .u8 0), (.i .i64 0)]))⟩])
   (.live [4, 1, 2] (.seq (.region [⟨(some 5), none, (.op (.load (some 4) (.t 2)))⟩,
    ⟨(some 6), none, (.call 148 [(.t 5)])⟩,
    ⟨(some 7), none, (.op (.mv (.t 1)))⟩,
    ⟨(some 8), none, (.call 149 [(.t 7)])⟩,
    ⟨(some 9), none, (.op (.bin .int false .and (.t 6) (.t 8)))⟩,
    ⟨(some 10), none, (.call 147 [(.t 9)])⟩,
    ⟨(some 11), none, (.op (.mv (.t 1)))⟩,
    ⟨(some 12), none, (.op (.mm false [(.t 11), (.c (.i .i64 32))]))⟩,
    ⟨(some 13), none, (.op (.mm true [(.c (.i .i64 0)), (.t 12)]))⟩,
    ⟨(some 14), none, (.op (.build [(.i .u8 0), (.i .u8 0), (.i .u8 0), (.i .u8 0), (.i .i64 0)] [(0, 4, (.t 10)), (4, 1, (.t 13))]))⟩,
    ⟨none, none, (.op (.store 5 (.t 4) (.t 14)))⟩])
   (.ret))),
  []⟩


/- slices.IndexFunc[[]uint64,uint64] -/
def c128l0 : ICode :=
  .seq (.region [⟨(some 9), none, (.op (.bin .int false .lss (.t 8) (.t 7)))⟩])
   (.live [0, 1, 7, 8, 9] (.seq (.cond (.t 9) (.skip)
   (.exit 0))
   (.live [0, 1, 7, 8] (.seq (.block 1 (.seq (.region [⟨(some 10), none, (.op (.mv (.t 8)))⟩,
    ⟨(some 5), none, (.op (.mv (.t 10)))⟩])
   (.live [5, 0, 1, 7, 8] (.seq (.region [⟨(some 11), none, (.op (.mv (.t 1)))⟩,
    ⟨(some 12), none, (.op (.mv (.t 0)))⟩,
    ⟨(some 13), none, (.op (.mv (.t 5)))⟩,
    ⟨(some 14), none, (.op (.iaddr none 1 (.t 12) (.t 13)))⟩,
    ⟨(some 15), none, (.op (.load none (.t 14)))⟩,
    ⟨(some 16), none, (.callv (.t 11) [(.t 15)])⟩])
   (.live [5, 0, 1, 7, 8, 16] (.cond (.t 16) (.seq (.region [⟨(some 17), none, (.op (.mv (.t 5)))⟩,
    ⟨(some 4), none, (.op (.mv (.t 17)))⟩])
   (.ret))
   (.skip)))))))
   (.live [0, 1, 7, 8] (.region [⟨(some 18), none, (.op (.bin .int true .add (.t 8) (.c (.i .i64 1))))⟩,
    ⟨(some 8), none, (.op (.mv (.t 18)))⟩]))))))
def c128 : IFunc := ⟨2, [.tmp 4],
  .seq (.region [⟨(some 4), none, (.op (.mv (.c (.i .i64 0))))⟩])
   (.live [0, 1] (.seq (.seq (.region [⟨(some 6), none, (.op (.mv (.t 0)))⟩,
    ⟨(some 7), none, (.op (.len .slice (.t 6)))⟩,
    ⟨(some 8), none, (.op (.mv (.c (.i .i64 0))))⟩])
   (.live [0, 1, 7, 8] (.block 0 (.loop [0, 1, 7, 8] c128l0))))
   (.live [] (.seq (.region [⟨(some 4), none, (.op (.mv (.c (.i .i64 (-1)))))⟩])
   (.ret))))),
  []⟩


/- strings.IndexByte -/

def c139 : IFunc := ⟨2, [.tmp 4],
  .seq (.region [⟨(some 4), none, (.op (.mv (.c (.i .i64 0))))⟩])
   (.live [1, 0] (.seq (.region [⟨(some 5), none, (.op (.mv (.t 0)))⟩,
    ⟨(some 6), none, (.op (.mv (.t 1)))⟩,
    ⟨(some 7), none, (.call 143 [(.t 5), (.t 6)])⟩,
    ⟨(some 4), none, (.op (.mv (.t 7)))⟩])
   (.ret))),
  []⟩


/- internal/stringslite.IndexByte -/

def c143 : IFunc := ⟨2, [.tmp 4],
  .seq (.region [⟨(some 4), none, (.op (.mv (.c (.i .i64 0))))⟩])
   (.live [1, 0] (.seq (.region [⟨(some 5), none, (.op (.mv (.t 0)))⟩,
    ⟨(some 6), none, (.op (.mv (.t 1)))⟩,
    ⟨(some 7), none, (.op (.ixbyte (.t 5) (.t 6)))⟩,
    ⟨(some 4), none, (.op (.mv (.t 7)))⟩])
   (.ret))),
  []⟩


/- slices.swapRangeCmpFunc[floodgate/api.Policy] -/
def c146d0 : List Stage :=
  [⟨[(⟨(some 16), none, (.op (.mv (.t 0)))⟩, 0), (⟨(some 17), none, (.op (.mv (.t 1)))⟩, 0), (⟨(some 18), none, (.op (.mv (.t 10)))⟩, 0), (⟨(some 19), none, (.op (.bin .int false .add (.t 17) (.t 18)))⟩, 0), (⟨(some 20), none, (.op (.mv (.t 0)))⟩, 1), (⟨(some 21), none, (.op (.mv (.t 2)))⟩, 1), (⟨(some 22), none, (.op (.mv (.t 10)))⟩, 1), (⟨(some 23), none, (.op (.bin .int false .add (.t 21) (.t 22)))⟩, 1), (⟨(some 24), none, (.op (.mv (.t 0)))⟩, 0), (⟨(some 25), none, (.op (.mv (.t 2)))⟩, 0), (⟨(some 26), none, (.op (.mv (.t 10)))⟩, 0), (⟨(some 27), none, (.op (.bin .int false .add (.t 25) (.t 26)))⟩, 0), (⟨(some 28), none, (.op (.iaddr none 13 (.t 24) (.t 27)))⟩, 0), (⟨(some 29), none, (.op (.load (some 13) (.t 28)))⟩, 0), (⟨(some 30), none, (.op (.mv (.t 0)))⟩, 0), (⟨(some 31), none, (.op (.mv (.t 1)))⟩, 0), (⟨(some 32), none, (.op (.mv (.t 10)))⟩, 0), (⟨(some 33), none, (.op (.bin .int false .add (.t 31) (.t 32)))⟩, 0), (⟨(some 34), none, (.op (.iaddr none 13 (.t 30) (.t 33)))⟩, 0), (⟨(some 35), none, (.op (.load (some 13) (.t 34)))⟩, 0), (⟨(some 36), none, (.op (.iaddr none 13 (.t 16) (.t 19)))⟩, 0)], none, some ⟨none, none, (.op (.store 13 (.t 36) (.t 29)))⟩⟩,
    ⟨[(⟨(some 37), none, (.op (.iaddr none 13 (.t 20) (.t 23)))⟩, 1)], none, some ⟨none, none, (.op (.store 13 (.t 37) (.t 35)))⟩⟩,
    ⟨[], none, none⟩]
def c146d0w : List (ROp × Bool) :=
  [(⟨(some 16), none, (.op (.mv (.t 0)))⟩, false), (⟨(some 17), none, (.op (.mv (.t 1)))⟩, false), (⟨(some 18), none, (.op (.mv (.t 10)))⟩, false), (⟨(some 19), none, (.op (.bin .int false .add (.t 17) (.t 18)))⟩, false), (⟨(some 20), none, (.op (.mv (.t 0)))⟩, false), (⟨(some 21), none, (.op (.mv (.t 2)))⟩, false), (⟨(some 22), none, (.op (.mv (.t 10)))⟩, false), (⟨(some 23), none, (.op (.bin .int false .add (.t 21) (.t 22)))⟩, false), (⟨(some 24), none, (.op (.mv (.t 0)))⟩, false), (⟨(some 25), none, (.op (.mv (.t 2)))⟩, false), (⟨(some 26), none, (.op (.mv (.t 10)))⟩, false), (⟨(some 27), none, (.op (.bin .int false .add (.t 25) (.t 26)))⟩, false), (⟨(some 28), none, (.op (.iaddr none 13 (.t 24) (.t 27)))⟩, false), (⟨(some 29), none, (.op (.load (some 13) (.t 28)))⟩, false), (⟨(some 30), none, (.op (.mv (.t 0)))⟩, false), (⟨(some 31), none, (.op (.mv (.t 1)))⟩, false), (⟨(some 32), none, (.op (.mv (.t 10)))⟩, false), (⟨(some 33), none, (.op (.bin .int false .add (.t 31) (.t 32)))⟩, false), (⟨(some 34), none, (.op (.iaddr none 13 (.t 30) (.t 33)))⟩, false), (⟨(some 35), none, (.op (.load (some 13) (.t 34)))⟩, false), (⟨(some 36), none, (.op (.iaddr none 13 (.t 16) (.t 19)))⟩, false), (⟨none, none, (.op (.store 13 (.t 36) (.t 29)))⟩, false), (⟨(some 37), none, (.op (.iaddr none 13 (.t 20) (.t 23)))⟩, false), (⟨none, none, (.op (.store 13 (.t 37) (.t 35)))⟩, false)]
theorem c146d0_w {P : Program} {O : Orc} {S0 : Mem} {rd : Bool} {e : Env} {S : Mem} {d : List Nat} {Q : Kont} : W P O S0 rd (.draw c146d0 []) e S d Q = wFl O c146d0w e S (normK Q d) := W_draw' (by kernel_rfl) (by kernel_rfl)
attribute [go_sem] c146d0_w c146d0w
def c146l1 : ICode :=
  .seq (.seq (.region [⟨(some 11), none, (.op (.mv (.t 10)))⟩,
    ⟨(some 12), none, (.op (.mv (.t 3)))⟩,
    ⟨(some 13), none, (.op (.bin .int false .lss (.t 11) (.t 12)))⟩])
   (.live [2, 0, 1, 3, 10, 13] (.cond (.t 13) (.skip)
   (.exit 0))))
   (.live [2, 0, 1, 3, 10] (.seq (.block 1 (.draw c146d0 []))
   (.live [2, 0, 1, 3, 10] (.region [⟨(some 14), none, (.op (.mv (.t 10)))⟩,
    ⟨(some 15), none, (.op (.bin .int true .add (.t 14) (.c (.i .i64 1))))⟩,
    ⟨(some 10), none, (.op (.mv (.t 15)))⟩]))))
def c146 : IFunc := ⟨5, [],
  .seq (.region [⟨(some 10), none, (.op (.mv (.c (.i .i64 0))))⟩])
   (.live [2, 0, 1, 3, 10] (.block 0 (.loop [2, 0, 1, 3, 10] c146l1))),
  []⟩


/- floodgate/addr.Of -/

def c147 : IFunc := ⟨1, [.cell 2 (some 4)],
  .seq (.region [⟨(some 2), none, (.op (.fresh [(.i .u8 0), (.i .u8 0), (.i .u8 0), (.i .u8 0)]))⟩])
   (.live [2, 0] (.seq (.region [⟨(some 3), none, (.op (.mv (.t 0)))⟩,
    ⟨(some 4), none, (.op (.bin .int true .shr (.t 3) (.c (.i .u64 24))))⟩,
    ⟨(some 5), none, (.op (.toInt .u8 (.t 4)))⟩,
    ⟨(some 6), none, (.op (.mv (.t 0)))⟩,
    ⟨(some 7), none, (.op (.bin .int true .shr (.t 6) (.c (.i .u64 16))))⟩,
    ⟨(some 8), none, (.op (.toInt .u8 (.t 7)))⟩,
    ⟨(some 9), none, (.op (.mv (.t 0)))⟩,
    ⟨(some 10), none, (.op (.bin .int true .shr (.t 9) (.c (.i .u64 8))))⟩,
    ⟨(some 11), none, (.op (.toInt .u8 (.t 10)))⟩,
    ⟨(some 12), none, (.op (.mv (.t 0)))⟩,
    ⟨(some 13), none, (.op (.toInt .u8 (.t 12)))⟩,
    ⟨(some 14), none, (.op (.build [(.i .u8 0), (.i .u8 0), (.i .u8 0), (.i .u8 0)] [(0, 1, (.t 5)), (1, 1, (.t 8)), (2, 1, (.t 11)), (3, 1, (.t 13))]))⟩,
    ⟨none, none, (.op (.store 4 (.t 2) (.t 14)))⟩])
   (.ret))),
  []⟩


/- floodgate/addr.Num -/
def c148l0 : ICode :=
  .seq (.region [⟨(some 8), none, (.op (.bin .int true .lss (.t 7) (.c (.i .i64 4))))⟩])
   (.live [6, 7, 3, 8] (.seq (.cond (.t 8) (.skip)
   (.exit 0))
   (.live [6, 7, 3] (.seq (.block 1 (.seq (.region [⟨(some 9), none, (.op (.ixa 4 1 none (.t 6) (.t 7)))⟩,
    ⟨(some 5), none, (.op (.mv (.t 9)))⟩])
   (.live [6, 7, 5, 3] (.region [⟨(some 10), none, (.op (.mv (.t 3)))⟩,
    ⟨(some 11), none, (.op (.bin .int true .shl (.t 10) (.c (.i .u64 8))))⟩,
    ⟨(some 12), none, (.op (.mv (.t 5)))⟩,
    ⟨(some 13), none, (.op (.toInt .u32 (.t 12)))⟩,
    ⟨(some 14), none, (.op (.bin .int false .or (.t 11) (.t 13)))⟩,
    ⟨(some 3), none, (.op (.mv (.t 14)))⟩]))))
   (.live [6, 3, 7] (.region [⟨(some 15), none, (.op (.bin .int true .add (.t 7) (.c (.i .i64 1))))⟩,
    ⟨(some 7), none, (.op (.mv (.t 15)))⟩]))))))
def c148 : IFunc := ⟨1, [.tmp 2],
  .seq (.region [⟨(some 1), none, (.op (.box (.t 0)))⟩,
    ⟨(some 2), none, (.op (.mv (.c (.i .u32 0))))⟩])
   (.live [1] (.seq (.region [⟨(some 3), none, (.op (.mv (.c (.i .u32 0))))⟩])
   (.live [3, 1] (.seq (.seq (.region [⟨(some 6), none, (.op (.load (some 4) (.t 1)))⟩,
    ⟨(some 7), none, (.op (.mv (.c (.i .i64 0))))⟩])
   (.live [6, 7, 3] (.block 0 (.loop [6, 7, 3] c148l0))))
   (.live [3] (.seq (.region [⟨(some 16), none, (.op (.mv (.t 3)))⟩,
    ⟨(some 2), none, (.op (.mv (.t 16)))⟩])
   (.ret))))))),
  []⟩


/- floodgate/addr.mask -/

def c149 : IFunc := ⟨1, [.tmp 2],
  .seq (.region [⟨(some 2), none, (.op (.mv (.c (.i .u32 0))))⟩])
   (.live [0] (.seq (.region [⟨(some 3), none, (.op (.mv (.t 0)))⟩,
    ⟨(some 4), none, (.op (.mm false [(.t 3), (.c (.i .i64 32))]))⟩,
    ⟨(some 5), none, (.op (.mm true [(.c (.i .i64 0)), (.t 4)]))⟩,
    ⟨(some 6), none, (.op (.bin .int true .sub (.c (.i .i64 32)) (.t 5)))⟩,
    ⟨(some 7), none, (.op (.bin .int true .shl (.c (.i .u32 4294967295)) (.t 6)))⟩,
    ⟨(some 2), none, (.op (.mv (.t 7)))⟩])
   (.ret))),
  []⟩


set_option maxRecDepth 1000000
theorem f5 : compFunc Tryz.prog 5 = some (stripF c5) := by kernel_rfl
theorem f10 : compFunc Tryz.prog 10 = some (stripF c10) := by kernel_rfl
theorem f11 : compFunc Tryz.prog 11 = some (stripF c11) := by kernel_rfl
theorem f13 : compFunc Tryz.prog 13 = some (stripF c13) := by kernel_rfl
theorem f16 : compFunc Tryz.prog 16 = some (stripF c16) := by kernel_rfl
theorem f18 : compFunc Tryz.prog 18 = some (stripF c18) := by kernel_rfl
theorem f24 : compFunc Tryz.prog 24 = some (stripF c24) := by kernel_rfl
theorem f25 : compFunc Tryz.prog 25 = some (stripF c25) := by kernel_rfl
theorem f26 : compFunc Tryz.prog 26 = some (stripF c26) := by kernel_rfl
theorem f27 : compFunc Tryz.prog 27 = some (stripF c27) := by kernel_rfl
theorem f33 : compFunc Tryz.prog 33 = some (stripF c33) := by kernel_rfl
theorem f34 : compFunc Tryz.prog 34 = some (stripF c34) := by kernel_rfl
theorem f35 : compFunc Tryz.prog 35 = some (stripF c35) := by kernel_rfl
theorem f36 : compFunc Tryz.prog 36 = some (stripF c36) := by kernel_rfl
theorem f37 : compFunc Tryz.prog 37 = some (stripF c37) := by kernel_rfl
theorem f38 : compFunc Tryz.prog 38 = some (stripF c38) := by kernel_rfl
theorem f39 : compFunc Tryz.prog 39 = some (stripF c39) := by kernel_rfl
theorem f42 : compFunc Tryz.prog 42 = some (stripF c42) := by kernel_rfl
theorem f43 : compFunc Tryz.prog 43 = some (stripF c43) := by kernel_rfl
theorem f44 : compFunc Tryz.prog 44 = some (stripF c44) := by kernel_rfl
theorem f45 : compFunc Tryz.prog 45 = some (stripF c45) := by kernel_rfl
theorem f46 : compFunc Tryz.prog 46 = some (stripF c46) := by kernel_rfl
theorem f47 : compFunc Tryz.prog 47 = some (stripF c47) := by kernel_rfl
theorem f55 : compFunc Tryz.prog 55 = some (stripF c55) := by kernel_rfl
theorem f56 : compFunc Tryz.prog 56 = some (stripF c56) := by kernel_rfl
theorem f57 : compFunc Tryz.prog 57 = some (stripF c57) := by kernel_rfl
theorem f58 : compFunc Tryz.prog 58 = some (stripF c58) := by kernel_rfl
theorem f59 : compFunc Tryz.prog 59 = some (stripF c59) := by kernel_rfl
theorem f60 : compFunc Tryz.prog 60 = some (stripF c60) := by kernel_rfl
theorem f61 : compFunc Tryz.prog 61 = some (stripF c61) := by kernel_rfl
theorem f62 : compFunc Tryz.prog 62 = some (stripF c62) := by kernel_rfl
theorem f65 : compFunc Tryz.prog 65 = some (stripF c65) := by kernel_rfl
theorem f66 : compFunc Tryz.prog 66 = some (stripF c66) := by kernel_rfl
theorem f67 : compFunc Tryz.prog 67 = some (stripF c67) := by kernel_rfl
theorem f68 : compFunc Tryz.prog 68 = some (stripF c68) := by kernel_rfl
theorem f69 : compFunc Tryz.prog 69 = some (stripF c69) := by kernel_rfl
theorem f70 : compFunc Tryz.prog 70 = some (stripF c70) := by kernel_rfl
theorem f71 : compFunc Tryz.prog 71 = some (stripF c71) := by kernel_rfl
theorem f72 : compFunc Tryz.prog 72 = some (stripF c72) := by kernel_rfl
theorem f74 : compFunc Tryz.prog 74 = some (stripF c74) := by kernel_rfl
theorem f75 : compFunc Tryz.prog 75 = some (stripF c75) := by kernel_rfl
theorem f76 : compFunc Tryz.prog 76 = some (stripF c76) := by kernel_rfl
theorem f82 : compFunc Tryz.prog 82 = some (stripF c82) := by kernel_rfl
theorem f83 : compFunc Tryz.prog 83 = some (stripF c83) := by kernel_rfl
theorem f94 : compFunc Tryz.prog 94 = some (stripF c94) := by kernel_rfl
theorem f95 : compFunc Tryz.prog 95 = some (stripF c95) := by kernel_rfl
theorem f96 : compFunc Tryz.prog 96 = some (stripF c96) := by kernel_rfl
theorem f97 : compFunc Tryz.prog 97 = some (stripF c97) := by kernel_rfl
theorem f98 : compFunc Tryz.prog 98 = some (stripF c98) := by kernel_rfl
theorem f99 : compFunc Tryz.prog 99 = some (stripF c99) := by kernel_rfl
theorem f100 : compFunc Tryz.prog 100 = some (stripF c100) := by kernel_rfl
theorem f101 : compFunc Tryz.prog 101 = some (stripF c101) := by kernel_rfl
theorem f102 : compFunc Tryz.prog 102 = some (stripF c102) := by kernel_rfl
theorem f103 : compFunc Tryz.prog 103 = some (stripF c103) := by kernel_rfl
theorem f115 : compFunc Tryz.prog 115 = some (stripF c115) := by kernel_rfl
theorem f123 : compFunc Tryz.prog 123 = some (stripF c123) := by kernel_rfl
theorem f124 : compFunc Tryz.prog 124 = some (stripF c124) := by kernel_rfl
theorem f125 : compFunc Tryz.prog 125 = some (stripF c125) := by kernel_rfl
theorem f126 : compFunc Tryz.prog 126 = some (stripF c126) := by kernel_rfl
theorem f127 : compFunc Tryz.prog 127 = some (stripF c127) := by kernel_rfl
theorem f128 : compFunc Tryz.prog 128 = some (stripF c128) := by kernel_rfl
theorem f139 : compFunc Tryz.prog 139 = some (stripF c139) := by kernel_rfl
theorem f143 : compFunc Tryz.prog 143 = some (stripF c143) := by kernel_rfl
theorem f146 : compFunc Tryz.prog 146 = some (stripF c146) := by kernel_rfl
theorem f147 : compFunc Tryz.prog 147 = some (stripF c147) := by kernel_rfl
theorem f148 : compFunc Tryz.prog 148 = some (stripF c148) := by kernel_rfl
theorem f149 : compFunc Tryz.prog 149 = some (stripF c149) := by kernel_rfl
end Go.Proofs.YtmocapahlcaapaaGreatDoor
