/- Proved here: the code of the functions, written out, is what the compiler makes of the program. No condition. -/
import Derived.Test.YtmdnohpolepcoaaMc
import Derived.Test.YtmdnohpolepcoaaRows
namespace Go.Proofs.Ytmdnohpolepcoaa
open Go.RowKit

/- floodgate/floodgatelaw16.TxnFolds -/
def c4l0 : ICode :=
  .seq (.region [⟨(some 37), none, (.op (.bin .int false .lss (.t 36) (.t 35)))⟩])
   (.live [6, 5, 34, 2, 35, 36, 37] (.seq (.cond (.t 37) (.skip)
   (.exit 0))
   (.live [6, 5, 34, 2, 35, 36] (.seq (.block 1 (.seq (.region [⟨(some 38), none, (.op (.iaddr none 14 (.t 34) (.t 36)))⟩,
    ⟨(some 39), none, (.op (.load (some 14) (.t 38)))⟩,
    ⟨(some 8), none, (.op (.fresh [(.b false), (.i .i64 0), (.i .u8 0), (.i .u8 0), (.i .u8 0), (.i .u8 0), (.i .i64 0), (.i .u64 0), (.i .u64 0), (.i .u64 0), (.i .u64 0), (.i .u64 0), (.i .u64 0), (.i .u64 0)]))⟩,
    ⟨none, none, (.op (.store 14 (.t 8) (.t 39)))⟩])
   (.live [6, 5, 34, 2, 35, 36, 8] (.seq (.region [⟨(some 40), none, (.call 6 [])⟩,
    ⟨(some 9), none, (.op (.mv (.t 40)))⟩])
   (.live [6, 5, 34, 2, 35, 36, 9, 8] (.seq (.seq (.region [⟨(some 41), none, (.op (.faddr 0 (.t 8)))⟩,
    ⟨(some 42), none, (.op (.load none (.t 41)))⟩])
   (.live [6, 5, 34, 2, 35, 36, 9, 8, 42] (.cond (.t 42) (.seq (.region [⟨(some 43), none, (.op (.mv (.t 5)))⟩,
    ⟨(some 44), none, (.op (.faddr 1 (.t 8)))⟩,
    ⟨(some 45), none, (.op (.load (some 13) (.t 44)))⟩,
    ⟨(some 46), none, (.call 7 [(.t 43), (.t 45)])⟩])
   (.live [6, 5, 34, 2, 35, 36, 9, 8] (.region [⟨(some 47), none, (.op (.mv (.t 9)))⟩,
    ⟨(some 48), none, (.op (.faddr 1 (.t 8)))⟩,
    ⟨(some 49), none, (.op (.load (some 13) (.t 48)))⟩,
    ⟨(some 50), none, (.call 7 [(.t 47), (.t 49)])⟩])))
   (.seq (.region [⟨(some 51), none, (.op (.mv (.t 5)))⟩,
    ⟨(some 52), none, (.op (.faddr 1 (.t 8)))⟩,
    ⟨(some 53), none, (.op (.faddr 0 (.t 52)))⟩,
    ⟨(some 54), none, (.op (.load none (.t 53)))⟩,
    ⟨(some 55), none, (.call 9 [(.t 51), (.t 54)])⟩])
   (.live [6, 5, 34, 2, 35, 36, 9, 8] (.region [⟨(some 56), none, (.op (.mv (.t 9)))⟩,
    ⟨(some 57), none, (.op (.faddr 1 (.t 8)))⟩,
    ⟨(some 58), none, (.op (.faddr 0 (.t 57)))⟩,
    ⟨(some 59), none, (.op (.load none (.t 58)))⟩,
    ⟨(some 60), none, (.call 9 [(.t 56), (.t 59)])⟩]))))))
   (.live [6, 5, 34, 2, 35, 36, 9] (.seq (.region [⟨(some 62), none, (.op (.mv (.t 9)))⟩,
    ⟨(some 63), none, (.op (.load (some 2) (.t 6)))⟩,
    ⟨(some 64), none, (.call 8 [(.t 62), (.t 63)])⟩,
    ⟨(some 61), none, (.op (.mv (.t 64)))⟩,
    ⟨(some 65), none, (.op (.ext (.t 61) 0))⟩,
    ⟨(some 66), none, (.op (.ext (.t 61) 1))⟩,
    ⟨(some 67), none, (.op (.ext (.t 61) 2))⟩,
    ⟨(some 10), none, (.op (.fresh [(.i .i64 0), (.i .i64 0), .sn, .sn, (.i .u64 0), (.i .u64 0)]))⟩,
    ⟨none, none, (.op (.store 6 (.t 10) (.t 65)))⟩,
    ⟨(some 11), none, (.op (.mv (.t 66)))⟩,
    ⟨(some 12), none, (.op (.mv (.t 67)))⟩])
   (.live [6, 5, 34, 2, 35, 36, 10, 11, 12] (.seq (.seq (.region [⟨(some 68), none, (.op (.mv (.t 12)))⟩,
    ⟨(some 69), none, (.op (.bin .int true .neq (.t 68) (.c (.i .i64 0))))⟩])
   (.live [6, 5, 34, 2, 35, 36, 10, 11, 69] (.cond (.t 69) (.seq (.region [⟨(some 4), none, (.op (.mv (.c (.b true))))⟩])
   (.ret))
   (.skip))))
   (.live [6, 5, 34, 2, 35, 36, 10, 11] (.seq (.region [⟨(some 70), none, (.op (.mv (.t 11)))⟩])
   (.live [6, 5, 34, 2, 35, 36, 10, 70] (.cond (.t 70) (.seq (.region [⟨(some 72), none, (.op (.load (some 2) (.t 6)))⟩,
    ⟨(some 73), none, (.op (.load (some 6) (.t 10)))⟩,
    ⟨(some 74), none, (.call 13 [(.t 72), (.t 73)])⟩,
    ⟨(some 71), none, (.op (.mv (.t 74)))⟩,
    ⟨(some 75), none, (.op (.ext (.t 71) 0))⟩,
    ⟨(some 76), none, (.op (.ext (.t 71) 1))⟩,
    ⟨(some 13), none, (.op (.fresh [(.i .u64 0), .sn]))⟩,
    ⟨none, none, (.op (.store 2 (.t 13) (.t 75)))⟩,
    ⟨(some 14), none, (.op (.mv (.t 76)))⟩])
   (.live [6, 5, 34, 2, 35, 36, 13, 14] (.seq (.seq (.region [⟨(some 77), none, (.op (.mv (.t 14)))⟩,
    ⟨(some 78), none, (.op (.bin .int true .neq (.t 77) (.c (.i .i64 0))))⟩])
   (.live [6, 5, 34, 2, 35, 36, 13, 78] (.cond (.t 78) (.seq (.region [⟨(some 4), none, (.op (.mv (.c (.b false))))⟩])
   (.ret))
   (.skip))))
   (.live [6, 5, 34, 2, 35, 36, 13] (.region [⟨(some 79), none, (.op (.load (some 2) (.t 13)))⟩,
    ⟨none, none, (.op (.store 2 (.t 6) (.t 79)))⟩])))))
   (.skip)))))))))))))))
   (.live [6, 5, 34, 2, 35, 36] (.region [⟨(some 80), none, (.op (.bin .int true .add (.t 36) (.c (.i .i64 1))))⟩,
    ⟨(some 36), none, (.op (.mv (.t 80)))⟩]))))))
def c4d1 : List Stage :=
  [⟨[(⟨(some 121), none, (.op (.faddr 1 (.t 18)))⟩, 0), (⟨(some 122), none, (.op (.load none (.t 121)))⟩, 0), (⟨(some 123), none, (.op (.mv (.t 21)))⟩, 0), (⟨(some 124), none, (.op (.iaddr none 14 (.t 122) (.t 123)))⟩, 0), (⟨(some 125), none, (.op (.faddr 0 (.t 124)))⟩, 0), (⟨(some 126), none, (.op (.load (some 13) (.t 125)))⟩, 0), (⟨(some 127), none, (.op (.faddr 1 (.t 6)))⟩, 0), (⟨(some 128), none, (.op (.load none (.t 127)))⟩, 0), (⟨(some 129), none, (.op (.mv (.t 21)))⟩, 0), (⟨(some 130), none, (.op (.iaddr none 14 (.t 128) (.t 129)))⟩, 0), (⟨(some 131), none, (.op (.faddr 0 (.t 130)))⟩, 0), (⟨(some 132), none, (.op (.load (some 13) (.t 131)))⟩, 0), (⟨(some 133), none, (.op (.eqag true [.int, .int, .int, .int, .int, .int, .int, .int, .int, .int, .int, .int, .int] (.t 126) (.t 132)))⟩, 0)], none, none⟩]
def c4d1w : List (ROp × Bool) :=
  [(⟨(some 121), none, (.op (.faddr 1 (.t 18)))⟩, false), (⟨(some 122), none, (.op (.load none (.t 121)))⟩, false), (⟨(some 123), none, (.op (.mv (.t 21)))⟩, false), (⟨(some 124), none, (.op (.iaddr none 14 (.t 122) (.t 123)))⟩, false), (⟨(some 125), none, (.op (.faddr 0 (.t 124)))⟩, false), (⟨(some 126), none, (.op (.load (some 13) (.t 125)))⟩, false), (⟨(some 127), none, (.op (.faddr 1 (.t 6)))⟩, false), (⟨(some 128), none, (.op (.load none (.t 127)))⟩, false), (⟨(some 129), none, (.op (.mv (.t 21)))⟩, false), (⟨(some 130), none, (.op (.iaddr none 14 (.t 128) (.t 129)))⟩, false), (⟨(some 131), none, (.op (.faddr 0 (.t 130)))⟩, false), (⟨(some 132), none, (.op (.load (some 13) (.t 131)))⟩, false), (⟨(some 133), none, (.op (.eqag true [.int, .int, .int, .int, .int, .int, .int, .int, .int, .int, .int, .int, .int] (.t 126) (.t 132)))⟩, false)]
theorem c4d1_w {P : Program} {O : Orc} {S0 : Mem} {rd : Bool} {e : Env} {S : Mem} {d : List Nat} {Q : Kont} : W P O S0 rd (.draw c4d1 []) e S d Q = wFl O c4d1w e S (normK Q d) := W_draw' (by kernel_rfl) (by kernel_rfl)
attribute [go_sem] c4d1_w c4d1w
def c4l2 : ICode :=
  .seq (.region [⟨(some 119), none, (.op (.bin .int false .lss (.t 118) (.t 117)))⟩])
   (.live [18, 6, 117, 118, 119] (.seq (.cond (.t 119) (.skip)
   (.exit 2))
   (.live [18, 6, 117, 118] (.seq (.block 3 (.seq (.region [⟨(some 120), none, (.op (.mv (.t 118)))⟩,
    ⟨(some 21), none, (.op (.mv (.t 120)))⟩])
   (.live [18, 6, 117, 118, 21] (.seq (.draw c4d1 [])
   (.live [18, 6, 117, 118, 133] (.cond (.t 133) (.seq (.region [⟨(some 4), none, (.op (.mv (.c (.b false))))⟩])
   (.ret))
   (.skip)))))))
   (.live [18, 6, 117, 118] (.region [⟨(some 134), none, (.op (.bin .int true .add (.t 118) (.c (.i .i64 1))))⟩,
    ⟨(some 118), none, (.op (.mv (.t 134)))⟩]))))))
def c4 : IFunc := ⟨2, [.tmp 4],
  .seq (.region [⟨(some 2), none, (.op (.box (.t 0)))⟩,
    ⟨(some 4), none, (.op (.mv (.c (.b false))))⟩])
   (.live [2, 1] (.seq (.seq (.region [⟨(some 22), none, (.call 10 [])⟩,
    ⟨(some 23), none, (.op (.un .not (.t 22)))⟩])
   (.live [2, 1, 23] (.cond (.t 23) (.seq (.region [⟨(some 4), none, (.op (.mv (.c (.b false))))⟩])
   (.ret))
   (.skip))))
   (.live [2, 1] (.seq (.seq (.region [⟨(some 24), none, (.op (.mv (.t 1)))⟩,
    ⟨(some 25), none, (.op (.len .slice (.t 24)))⟩,
    ⟨(some 26), none, (.op (.bin .int true .gtr (.t 25) (.c (.i .i64 64))))⟩,
    ⟨(some 27), none, (.op (.mv (.t 26)))⟩,
    ⟨(some 28), some (27, false), (.op (.load (some 2) (.t 2)))⟩,
    ⟨(some 29), some (27, false), (.call 12 [(.t 28)])⟩,
    ⟨(some 30), some (27, false), (.op (.un .not (.t 29)))⟩,
    ⟨(some 31), none, (.op (.pick (.t 27) (.c (.b true)) (.t 30)))⟩])
   (.live [2, 1, 31] (.cond (.t 31) (.seq (.region [⟨(some 4), none, (.op (.mv (.c (.b true))))⟩])
   (.ret))
   (.skip))))
   (.live [2, 1] (.seq (.region [⟨(some 32), none, (.call 6 [])⟩,
    ⟨(some 5), none, (.op (.mv (.t 32)))⟩])
   (.live [5, 2, 1] (.seq (.region [⟨(some 33), none, (.op (.load (some 2) (.t 2)))⟩,
    ⟨(some 6), none, (.op (.fresh [(.i .u64 0), .sn]))⟩,
    ⟨none, none, (.op (.store 2 (.t 6) (.t 33)))⟩])
   (.live [6, 5, 2, 1] (.seq (.seq (.region [⟨(some 34), none, (.op (.mv (.t 1)))⟩,
    ⟨(some 35), none, (.op (.len .slice (.t 34)))⟩,
    ⟨(some 36), none, (.op (.mv (.c (.i .i64 0))))⟩])
   (.live [6, 5, 34, 2, 35, 36] (.block 0 (.loop [6, 5, 34, 2, 35, 36] c4l0))))
   (.live [6, 2, 5] (.seq (.region [⟨(some 82), none, (.op (.mv (.t 5)))⟩,
    ⟨(some 83), none, (.op (.load (some 2) (.t 2)))⟩,
    ⟨(some 84), none, (.call 8 [(.t 82), (.t 83)])⟩,
    ⟨(some 81), none, (.op (.mv (.t 84)))⟩,
    ⟨(some 85), none, (.op (.ext (.t 81) 0))⟩,
    ⟨(some 86), none, (.op (.ext (.t 81) 1))⟩,
    ⟨(some 87), none, (.op (.ext (.t 81) 2))⟩,
    ⟨(some 15), none, (.op (.fresh [(.i .i64 0), (.i .i64 0), .sn, .sn, (.i .u64 0), (.i .u64 0)]))⟩,
    ⟨none, none, (.op (.store 6 (.t 15) (.t 85)))⟩,
    ⟨(some 16), none, (.op (.mv (.t 86)))⟩,
    ⟨(some 17), none, (.op (.mv (.t 87)))⟩])
   (.live [6, 15, 2, 16, 17] (.seq (.seq (.region [⟨(some 88), none, (.op (.mv (.t 17)))⟩,
    ⟨(some 89), none, (.op (.bin .int true .neq (.t 88) (.c (.i .i64 0))))⟩])
   (.live [6, 15, 2, 16, 89] (.cond (.t 89) (.seq (.region [⟨(some 4), none, (.op (.mv (.c (.b false))))⟩])
   (.ret))
   (.skip))))
   (.live [6, 15, 2, 16] (.seq (.region [⟨(some 90), none, (.op (.load (some 2) (.t 2)))⟩,
    ⟨(some 18), none, (.op (.fresh [(.i .u64 0), .sn]))⟩,
    ⟨none, none, (.op (.store 2 (.t 18) (.t 90)))⟩])
   (.live [18, 6, 15, 2, 16] (.seq (.seq (.region [⟨(some 91), none, (.op (.mv (.t 16)))⟩])
   (.live [18, 6, 15, 2, 91] (.cond (.t 91) (.seq (.region [⟨(some 93), none, (.op (.load (some 2) (.t 2)))⟩,
    ⟨(some 94), none, (.op (.load (some 6) (.t 15)))⟩,
    ⟨(some 95), none, (.call 13 [(.t 93), (.t 94)])⟩,
    ⟨(some 92), none, (.op (.mv (.t 95)))⟩,
    ⟨(some 96), none, (.op (.ext (.t 92) 0))⟩,
    ⟨(some 97), none, (.op (.ext (.t 92) 1))⟩,
    ⟨(some 19), none, (.op (.fresh [(.i .u64 0), .sn]))⟩,
    ⟨none, none, (.op (.store 2 (.t 19) (.t 96)))⟩,
    ⟨(some 20), none, (.op (.mv (.t 97)))⟩])
   (.live [18, 6, 19, 20] (.seq (.seq (.region [⟨(some 98), none, (.op (.mv (.t 20)))⟩,
    ⟨(some 99), none, (.op (.bin .int true .neq (.t 98) (.c (.i .i64 0))))⟩])
   (.live [18, 6, 19, 99] (.cond (.t 99) (.seq (.region [⟨(some 4), none, (.op (.mv (.c (.b false))))⟩])
   (.ret))
   (.skip))))
   (.live [18, 6, 19] (.region [⟨(some 100), none, (.op (.load (some 2) (.t 19)))⟩,
    ⟨none, none, (.op (.store 2 (.t 18) (.t 100)))⟩])))))
   (.skip))))
   (.live [18, 6] (.seq (.seq (.region [⟨(some 101), none, (.op (.faddr 1 (.t 18)))⟩,
    ⟨(some 102), none, (.op (.load none (.t 101)))⟩,
    ⟨(some 103), none, (.op (.len .slice (.t 102)))⟩,
    ⟨(some 104), none, (.op (.faddr 1 (.t 6)))⟩,
    ⟨(some 105), none, (.op (.load none (.t 104)))⟩,
    ⟨(some 106), none, (.op (.len .slice (.t 105)))⟩,
    ⟨(some 107), none, (.op (.bin .int false .neq (.t 103) (.t 106)))⟩,
    ⟨(some 108), none, (.op (.mv (.t 107)))⟩,
    ⟨(some 109), some (108, false), (.op (.faddr 0 (.t 18)))⟩,
    ⟨(some 110), some (108, false), (.op (.load none (.t 109)))⟩,
    ⟨(some 111), some (108, false), (.op (.faddr 0 (.t 6)))⟩,
    ⟨(some 112), some (108, false), (.op (.load none (.t 111)))⟩,
    ⟨(some 113), some (108, false), (.op (.bin .int false .neq (.t 110) (.t 112)))⟩,
    ⟨(some 114), none, (.op (.pick (.t 108) (.c (.b true)) (.t 113)))⟩])
   (.live [18, 6, 114] (.cond (.t 114) (.seq (.region [⟨(some 4), none, (.op (.mv (.c (.b false))))⟩])
   (.ret))
   (.skip))))
   (.live [18, 6] (.seq (.seq (.region [⟨(some 115), none, (.op (.faddr 1 (.t 18)))⟩,
    ⟨(some 116), none, (.op (.load none (.t 115)))⟩,
    ⟨(some 117), none, (.op (.len .slice (.t 116)))⟩,
    ⟨(some 118), none, (.op (.mv (.c (.i .i64 0))))⟩])
   (.live [18, 6, 117, 118] (.block 2 (.loop [18, 6, 117, 118] c4l2))))
   (.live [] (.seq (.region [⟨(some 4), none, (.op (.mv (.c (.b true))))⟩])
   (.ret))))))))))))))))))))))))),
  []⟩


/- floodgate/txn.New -/

def c6 : IFunc := ⟨0, [.tmp 0],
  .seq (.region [⟨(some 0), none, (.op (.mv (.c .pn)))⟩])
   (.live [] (.seq (.region [⟨(some 1), none, (.op (.build [.sn] []))⟩,
    ⟨(some 2), none, (.op (.box (.t 1)))⟩,
    ⟨(some 0), none, (.op (.mv (.t 2)))⟩])
   (.ret))),
  []⟩


/- (*floodgate/txn.Txn).Put -/

def c7 : IFunc := ⟨2, [.tmp 4],
  .seq (.region [⟨(some 3), none, (.op (.box (.t 1)))⟩,
    ⟨(some 4), none, (.op (.mv (.c (.i .i64 0))))⟩])
   (.live [3, 0] (.seq (.region [⟨(some 5), none, (.op (.mv (.t 0)))⟩,
    ⟨(some 6), none, (.op (.load (some 13) (.t 3)))⟩,
    ⟨(some 7), none, (.op (.build [(.i .i64 0), (.i .u8 0), (.i .u8 0), (.i .u8 0), (.i .u8 0), (.i .i64 0), (.i .u64 0), (.i .u64 0), (.i .u64 0), (.i .u64 0), (.i .u64 0), (.i .u64 0), (.i .u64 0), (.b false)] [(0, 13, (.t 6)), (13, 1, (.c (.b true)))]))⟩,
    ⟨(some 8), none, (.call 15 [(.t 5), (.t 7)])⟩,
    ⟨(some 4), none, (.op (.mv (.t 8)))⟩])
   (.ret))),
  []⟩


/- (*floodgate/txn.Txn).Event -/
def c8l0 : ICode :=
  .seq (.region [⟨(some 25), none, (.op (.bin .int false .lss (.t 24) (.t 23)))⟩])
   (.live [7, 22, 4, 3, 23, 24, 25] (.seq (.cond (.t 25) (.skip)
   (.exit 0))
   (.live [7, 22, 4, 3, 23, 24] (.seq (.block 1 (.seq (.region [⟨(some 26), none, (.op (.iaddr none 14 (.t 22) (.t 24)))⟩,
    ⟨(some 27), none, (.op (.load (some 14) (.t 26)))⟩,
    ⟨(some 9), none, (.op (.fresh [(.i .i64 0), (.i .u8 0), (.i .u8 0), (.i .u8 0), (.i .u8 0), (.i .i64 0), (.i .u64 0), (.i .u64 0), (.i .u64 0), (.i .u64 0), (.i .u64 0), (.i .u64 0), (.i .u64 0), (.b false)]))⟩,
    ⟨none, none, (.op (.store 14 (.t 9) (.t 27)))⟩])
   (.live [7, 22, 4, 3, 23, 24, 9] (.region [⟨(some 28), none, (.op (.mv (.t 7)))⟩,
    ⟨(some 29), none, (.op (.faddr 0 (.t 9)))⟩,
    ⟨(some 30), none, (.op (.faddr 0 (.t 29)))⟩,
    ⟨(some 31), none, (.op (.load none (.t 30)))⟩,
    ⟨(some 32), none, (.op (.load (some 14) (.t 9)))⟩,
    ⟨none, none, (.op (.mupd false [.int] (.t 28) (.t 31) (.t 32)))⟩]))))
   (.live [7, 22, 4, 3, 23, 24] (.region [⟨(some 33), none, (.op (.bin .int true .add (.t 24) (.c (.i .i64 1))))⟩,
    ⟨(some 24), none, (.op (.mv (.t 33)))⟩]))))))
def c8l1 : ICode :=
  .seq (.region [⟨(some 40), none, (.op (.bin .int false .lss (.t 39) (.t 38)))⟩])
   (.live [4, 10, 3, 7, 37, 38, 39, 40] (.seq (.cond (.t 40) (.skip)
   (.exit 2))
   (.live [4, 10, 3, 7, 37, 38, 39] (.seq (.block 3 (.seq (.region [⟨(some 41), none, (.op (.iaddr none 1 (.t 37) (.t 39)))⟩,
    ⟨(some 42), none, (.op (.load none (.t 41)))⟩,
    ⟨(some 12), none, (.op (.mv (.t 42)))⟩])
   (.live [4, 10, 3, 7, 37, 38, 39, 12] (.seq (.region [⟨(some 43), none, (.op (.mv (.t 7)))⟩,
    ⟨(some 44), none, (.op (.mv (.t 12)))⟩,
    ⟨(some 45), none, (.op (.mlook false [.int] (.ag [(.i .i64 0), (.i .u8 0), (.i .u8 0), (.i .u8 0), (.i .u8 0), (.i .i64 0), (.i .u64 0), (.i .u64 0), (.i .u64 0), (.i .u64 0), (.i .u64 0), (.i .u64 0), (.i .u64 0), (.b false)]) false (.t 43) (.t 44)))⟩,
    ⟨(some 13), none, (.op (.fresh [(.i .i64 0), (.i .u8 0), (.i .u8 0), (.i .u8 0), (.i .u8 0), (.i .i64 0), (.i .u64 0), (.i .u64 0), (.i .u64 0), (.i .u64 0), (.i .u64 0), (.i .u64 0), (.i .u64 0), (.b false)]))⟩,
    ⟨none, none, (.op (.store 14 (.t 13) (.t 45)))⟩])
   (.live [4, 10, 3, 7, 37, 38, 39, 13, 12] (.seq (.region [⟨(some 47), none, (.op (.load (some 2) (.t 3)))⟩,
    ⟨(some 48), none, (.op (.mv (.t 12)))⟩,
    ⟨(some 49), none, (.call 18 [(.t 47), (.t 48)])⟩,
    ⟨(some 46), none, (.op (.mv (.t 49)))⟩,
    ⟨(some 50), none, (.op (.ext (.t 46) 0))⟩,
    ⟨(some 51), none, (.op (.ext (.t 46) 1))⟩,
    ⟨(some 14), none, (.op (.fresh [(.i .i64 0), (.i .u8 0), (.i .u8 0), (.i .u8 0), (.i .u8 0), (.i .i64 0), (.i .u64 0), (.i .u64 0), (.i .u64 0), (.i .u64 0), (.i .u64 0), (.i .u64 0), (.i .u64 0), (.i .u64 0)]))⟩,
    ⟨none, none, (.op (.store 14 (.t 14) (.t 50)))⟩,
    ⟨(some 15), none, (.op (.mv (.t 51)))⟩])
   (.live [4, 10, 3, 7, 37, 38, 39, 13, 12, 15] (.block 4 (.seq (.region [⟨(some 53), none, (.op (.faddr 13 (.t 13)))⟩,
    ⟨(some 54), none, (.op (.load none (.t 53)))⟩,
    ⟨(some 55), none, (.op (.mv (.t 54)))⟩,
    ⟨(some 56), some (55, true), (.op (.faddr 0 (.t 13)))⟩,
    ⟨(some 57), some (55, true), (.op (.load (some 13) (.t 56)))⟩,
    ⟨(some 58), some (55, true), (.call 19 [(.t 57)])⟩,
    ⟨(some 59), some (55, true), (.op (.un .not (.t 58)))⟩,
    ⟨(some 60), none, (.op (.pick (.t 55) (.t 59) (.c (.b false))))⟩,
    ⟨(some 52), none, (.op (.mv (.t 60)))⟩])
   (.live [4, 10, 3, 7, 37, 38, 39, 13, 12, 15, 52] (.cond (.t 52) (.seq (.region [⟨(some 61), none, (.op (.build [(.i .i64 0), (.i .i64 0), .sn, .sn, (.i .u64 0), (.i .u64 0)] []))⟩,
    ⟨none, none, (.op (.store 6 (.t 4) (.t 61)))⟩,
    ⟨(some 5), none, (.op (.mv (.c (.b false))))⟩,
    ⟨(some 6), none, (.op (.mv (.c (.i .i64 111))))⟩])
   (.ret))
   (.seq (.region [⟨(some 63), none, (.op (.faddr 13 (.t 13)))⟩,
    ⟨(some 64), none, (.op (.load none (.t 63)))⟩,
    ⟨(some 62), none, (.op (.mv (.t 64)))⟩])
   (.live [4, 10, 3, 7, 37, 38, 39, 13, 12, 15, 62] (.cond (.t 62) (.region [⟨(some 65), none, (.op (.faddr 2 (.t 10)))⟩,
    ⟨(some 66), none, (.op (.load none (.t 65)))⟩,
    ⟨(some 67), none, (.op (.faddr 0 (.t 13)))⟩,
    ⟨(some 68), none, (.op (.load (some 13) (.t 67)))⟩,
    ⟨(some 69), none, (.op (.bslice [(.i .i64 0), (.i .u8 0), (.i .u8 0), (.i .u8 0), (.i .u8 0), (.i .i64 0), (.i .u64 0), (.i .u64 0), (.i .u64 0), (.i .u64 0), (.i .u64 0), (.i .u64 0), (.i .u64 0)] 1 [(0, 13, (.t 68))]))⟩,
    ⟨(some 70), none, (.op (.app 13 80 (.t 66) (.t 69)))⟩,
    ⟨(some 71), none, (.op (.faddr 2 (.t 10)))⟩,
    ⟨none, none, (.op (.store 1 (.t 71) (.t 70)))⟩])
   (.seq (.region [⟨(some 73), none, (.op (.mv (.t 15)))⟩,
    ⟨(some 72), none, (.op (.mv (.t 73)))⟩])
   (.live [4, 10, 3, 7, 37, 38, 39, 12, 72] (.cond (.t 72) (.region [⟨(some 74), none, (.op (.faddr 3 (.t 10)))⟩,
    ⟨(some 75), none, (.op (.load none (.t 74)))⟩,
    ⟨(some 76), none, (.op (.mv (.t 12)))⟩,
    ⟨(some 77), none, (.op (.bslice [(.i .i64 0)] 1 [(0, 1, (.t 76))]))⟩,
    ⟨(some 78), none, (.op (.app 1 8 (.t 75) (.t 77)))⟩,
    ⟨(some 79), none, (.op (.faddr 3 (.t 10)))⟩,
    ⟨none, none, (.op (.store 1 (.t 79) (.t 78)))⟩])
   (.skip))))))))))))))))))
   (.live [4, 10, 3, 7, 37, 38, 39] (.region [⟨(some 80), none, (.op (.bin .int true .add (.t 39) (.c (.i .i64 1))))⟩,
    ⟨(some 39), none, (.op (.mv (.t 80)))⟩]))))))
def c8 : IFunc := ⟨2, [.cell 4 (some 6), .tmp 5, .tmp 6],
  .seq (.region [⟨(some 3), none, (.op (.box (.t 1)))⟩,
    ⟨(some 4), none, (.op (.fresh [(.i .i64 0), (.i .i64 0), .sn, .sn, (.i .u64 0), (.i .u64 0)]))⟩,
    ⟨(some 5), none, (.op (.mv (.c (.b false))))⟩,
    ⟨(some 6), none, (.op (.mv (.c (.i .i64 0))))⟩])
   (.live [4, 3, 0] (.seq (.region [⟨(some 18), none, (.op (.mkmap none))⟩,
    ⟨(some 7), none, (.op (.mv (.t 18)))⟩])
   (.live [7, 4, 3, 0] (.seq (.seq (.region [⟨(some 19), none, (.op (.mv (.t 0)))⟩,
    ⟨(some 20), none, (.op (.nilck (.t 19)))⟩,
    ⟨(some 21), none, (.op (.faddr 0 (.t 20)))⟩,
    ⟨(some 22), none, (.op (.load none (.t 21)))⟩,
    ⟨(some 23), none, (.op (.len .slice (.t 22)))⟩,
    ⟨(some 24), none, (.op (.mv (.c (.i .i64 0))))⟩])
   (.live [7, 22, 4, 3, 23, 24] (.block 0 (.loop [7, 22, 4, 3, 23, 24] c8l0))))
   (.live [4, 3, 7] (.seq (.region [⟨(some 34), none, (.op (.build [(.i .i64 0), (.i .i64 0), .sn, .sn, (.i .u64 0), (.i .u64 0)] [(0, 1, (.c (.i .i64 1)))]))⟩,
    ⟨(some 10), none, (.op (.fresh [(.i .i64 0), (.i .i64 0), .sn, .sn, (.i .u64 0), (.i .u64 0)]))⟩,
    ⟨none, none, (.op (.store 6 (.t 10) (.t 34)))⟩])
   (.live [4, 10, 3, 7] (.seq (.seq (.region [⟨(some 35), none, (.op (.mv (.t 7)))⟩,
    ⟨(some 36), none, (.call 17 [(.t 35)])⟩,
    ⟨(some 37), none, (.call 16 [(.t 36)])⟩,
    ⟨(some 38), none, (.op (.len .slice (.t 37)))⟩,
    ⟨(some 39), none, (.op (.mv (.c (.i .i64 0))))⟩])
   (.live [4, 10, 3, 7, 37, 38, 39] (.block 2 (.loop [4, 10, 3, 7, 37, 38, 39] c8l1))))
   (.live [4, 10, 3] (.seq (.seq (.region [⟨(some 81), none, (.op (.faddr 2 (.t 10)))⟩,
    ⟨(some 82), none, (.op (.load none (.t 81)))⟩,
    ⟨(some 83), none, (.op (.len .slice (.t 82)))⟩,
    ⟨(some 84), none, (.op (.faddr 3 (.t 10)))⟩,
    ⟨(some 85), none, (.op (.load none (.t 84)))⟩,
    ⟨(some 86), none, (.op (.len .slice (.t 85)))⟩,
    ⟨(some 87), none, (.op (.bin .int false .add (.t 83) (.t 86)))⟩,
    ⟨(some 88), none, (.op (.bin .int true .eql (.t 87) (.c (.i .i64 0))))⟩])
   (.live [4, 10, 3, 88] (.cond (.t 88) (.seq (.region [⟨(some 89), none, (.op (.build [(.i .i64 0), (.i .i64 0), .sn, .sn, (.i .u64 0), (.i .u64 0)] []))⟩,
    ⟨none, none, (.op (.store 6 (.t 4) (.t 89)))⟩,
    ⟨(some 5), none, (.op (.mv (.c (.b false))))⟩,
    ⟨(some 6), none, (.op (.mv (.c (.i .i64 0))))⟩])
   (.ret))
   (.skip))))
   (.live [4, 10, 3] (.seq (.seq (.region [⟨(some 91), none, (.op (.load (some 2) (.t 3)))⟩,
    ⟨(some 92), none, (.op (.load (some 6) (.t 10)))⟩,
    ⟨(some 93), none, (.call 13 [(.t 91), (.t 92)])⟩,
    ⟨(some 90), none, (.op (.mv (.t 93)))⟩,
    ⟨(some 94), none, (.op (.ext (.t 90) 0))⟩,
    ⟨(some 95), none, (.op (.ext (.t 90) 1))⟩,
    ⟨(some 16), none, (.op (.fresh [(.i .u64 0), .sn]))⟩,
    ⟨none, none, (.op (.store 2 (.t 16) (.t 94)))⟩,
    ⟨(some 17), none, (.op (.mv (.t 95)))⟩])
   (.live [4, 10, 17] (.seq (.region [⟨(some 96), none, (.op (.mv (.t 17)))⟩,
    ⟨(some 97), none, (.op (.bin .int true .neq (.t 96) (.c (.i .i64 0))))⟩])
   (.live [4, 10, 97] (.cond (.t 97) (.seq (.region [⟨(some 98), none, (.op (.build [(.i .i64 0), (.i .i64 0), .sn, .sn, (.i .u64 0), (.i .u64 0)] []))⟩,
    ⟨none, none, (.op (.store 6 (.t 4) (.t 98)))⟩,
    ⟨(some 5), none, (.op (.mv (.c (.b false))))⟩,
    ⟨(some 6), none, (.op (.mv (.c (.i .i64 111))))⟩])
   (.ret))
   (.skip))))))
   (.live [4, 10] (.seq (.region [⟨(some 99), none, (.op (.load (some 6) (.t 10)))⟩,
    ⟨none, none, (.op (.store 6 (.t 4) (.t 99)))⟩,
    ⟨(some 5), none, (.op (.mv (.c (.b true))))⟩,
    ⟨(some 6), none, (.op (.mv (.c (.i .i64 0))))⟩])
   (.ret))))))))))))))),
  []⟩


/- (*floodgate/txn.Txn).Drop -/

def c9 : IFunc := ⟨2, [.tmp 4],
  .seq (.region [⟨(some 4), none, (.op (.mv (.c (.i .i64 0))))⟩])
   (.live [1, 0] (.seq (.region [⟨(some 5), none, (.op (.mv (.t 0)))⟩,
    ⟨(some 6), none, (.op (.mv (.t 1)))⟩,
    ⟨(some 7), none, (.op (.build [(.i .i64 0), (.i .u8 0), (.i .u8 0), (.i .u8 0), (.i .u8 0), (.i .i64 0), (.i .u64 0), (.i .u64 0), (.i .u64 0), (.i .u64 0), (.i .u64 0), (.i .u64 0), (.i .u64 0)] [(0, 1, (.t 6))]))⟩,
    ⟨(some 8), none, (.op (.build [(.i .i64 0), (.i .u8 0), (.i .u8 0), (.i .u8 0), (.i .u8 0), (.i .i64 0), (.i .u64 0), (.i .u64 0), (.i .u64 0), (.i .u64 0), (.i .u64 0), (.i .u64 0), (.i .u64 0), (.b false)] [(0, 13, (.t 7)), (13, 1, (.c (.b false)))]))⟩,
    ⟨(some 9), none, (.call 15 [(.t 5), (.t 8)])⟩,
    ⟨(some 4), none, (.op (.mv (.t 9)))⟩])
   (.ret))),
  []⟩


/- floodgate/floodgatelaw16.txnAlive -/
def c10d0 : List Stage :=
  [⟨[(⟨(some 40), none, (.op (.mv (.t 3)))⟩, 0), (⟨(some 41), none, (.op (.un .not (.t 40)))⟩, 0), (⟨(some 42), none, (.op (.mv (.t 41)))⟩, 0), (⟨(some 43), some (42, true), (.op (.mv (.t 4)))⟩, 0), (⟨(some 44), some (42, true), (.op (.bin .int true .eql (.t 43) (.c (.i .i64 0))))⟩, 0), (⟨(some 45), none, (.op (.pick (.t 42) (.t 44) (.c (.b false))))⟩, 0), (⟨(some 46), none, (.op (.mv (.t 45)))⟩, 0), (⟨(some 47), some (46, true), (.op (.mv (.t 5)))⟩, 0), (⟨(some 48), some (46, true), (.op (.bin .int true .eql (.t 47) (.c (.i .i64 0))))⟩, 0), (⟨(some 49), none, (.op (.pick (.t 46) (.t 48) (.c (.b false))))⟩, 0), (⟨(some 50), none, (.op (.mv (.t 49)))⟩, 0), (⟨(some 51), some (50, true), (.op (.mv (.t 7)))⟩, 0), (⟨(some 52), none, (.op (.pick (.t 50) (.t 51) (.c (.b false))))⟩, 0), (⟨(some 53), none, (.op (.mv (.t 52)))⟩, 0), (⟨(some 54), some (53, true), (.op (.mv (.t 8)))⟩, 0), (⟨(some 55), some (53, true), (.op (.bin .int true .eql (.t 54) (.c (.i .i64 0))))⟩, 0), (⟨(some 56), none, (.op (.pick (.t 53) (.t 55) (.c (.b false))))⟩, 0), (⟨(some 57), none, (.op (.mv (.t 56)))⟩, 0), (⟨(some 58), some (57, true), (.op (.faddr 2 (.t 6)))⟩, 0), (⟨(some 59), some (57, true), (.op (.load none (.t 58)))⟩, 0), (⟨(some 60), some (57, true), (.op (.len .slice (.t 59)))⟩, 0), (⟨(some 61), some (57, true), (.op (.bin .int true .eql (.t 60) (.c (.i .i64 1))))⟩, 0), (⟨(some 62), none, (.op (.pick (.t 57) (.t 61) (.c (.b false))))⟩, 0), (⟨(some 63), none, (.op (.mv (.t 62)))⟩, 0), (⟨(some 64), some (63, true), (.op (.faddr 2 (.t 6)))⟩, 1), (⟨(some 65), some (63, true), (.op (.load none (.t 64)))⟩, 1), (⟨(some 66), some (63, true), (.op (.iaddr none 13 (.t 65) (.c (.i .i64 0))))⟩, 1), (⟨(some 67), some (63, true), (.op (.load (some 13) (.t 66)))⟩, 1)], none, some ⟨(some 68), some (63, true), (.call 20 [(.c (.i .i64 4))])⟩⟩,
    ⟨[(⟨(some 69), some (63, true), (.op (.eqag false [.int, .int, .int, .int, .int, .int, .int, .int, .int, .int, .int, .int, .int] (.t 67) (.t 68)))⟩, 1), (⟨(some 70), none, (.op (.pick (.t 63) (.t 69) (.c (.b false))))⟩, 1), (⟨(some 71), none, (.op (.mv (.t 70)))⟩, 1), (⟨(some 72), some (71, true), (.op (.faddr 3 (.t 6)))⟩, 1), (⟨(some 73), some (71, true), (.op (.load none (.t 72)))⟩, 1), (⟨(some 74), some (71, true), (.op (.len .slice (.t 73)))⟩, 1), (⟨(some 75), some (71, true), (.op (.bin .int true .eql (.t 74) (.c (.i .i64 0))))⟩, 1), (⟨(some 76), none, (.op (.pick (.t 71) (.t 75) (.c (.b false))))⟩, 1), (⟨(some 77), none, (.op (.mv (.t 76)))⟩, 1), (⟨(some 78), some (77, true), (.op (.mv (.t 1)))⟩, 1)], none, some ⟨(some 79), some (77, true), (.call 11 [(.t 78)])⟩⟩,
    ⟨[(⟨(some 80), some (77, true), (.op (.bin .int true .eql (.t 79) (.c (.i .i64 3))))⟩, 2), (⟨(some 81), none, (.op (.pick (.t 77) (.t 80) (.c (.b false))))⟩, 2), (⟨(some 0), none, (.op (.mv (.t 81)))⟩, 2)], none, none⟩]
def c10d0w : List (ROp × Bool) :=
  [(⟨(some 40), none, (.op (.mv (.t 3)))⟩, false), (⟨(some 41), none, (.op (.un .not (.t 40)))⟩, false), (⟨(some 42), none, (.op (.mv (.t 41)))⟩, false), (⟨(some 43), some (42, true), (.op (.mv (.t 4)))⟩, false), (⟨(some 44), some (42, true), (.op (.bin .int true .eql (.t 43) (.c (.i .i64 0))))⟩, false), (⟨(some 45), none, (.op (.pick (.t 42) (.t 44) (.c (.b false))))⟩, false), (⟨(some 46), none, (.op (.mv (.t 45)))⟩, false), (⟨(some 47), some (46, true), (.op (.mv (.t 5)))⟩, false), (⟨(some 48), some (46, true), (.op (.bin .int true .eql (.t 47) (.c (.i .i64 0))))⟩, false), (⟨(some 49), none, (.op (.pick (.t 46) (.t 48) (.c (.b false))))⟩, false), (⟨(some 50), none, (.op (.mv (.t 49)))⟩, false), (⟨(some 51), some (50, true), (.op (.mv (.t 7)))⟩, false), (⟨(some 52), none, (.op (.pick (.t 50) (.t 51) (.c (.b false))))⟩, false), (⟨(some 53), none, (.op (.mv (.t 52)))⟩, false), (⟨(some 54), some (53, true), (.op (.mv (.t 8)))⟩, false), (⟨(some 55), some (53, true), (.op (.bin .int true .eql (.t 54) (.c (.i .i64 0))))⟩, false), (⟨(some 56), none, (.op (.pick (.t 53) (.t 55) (.c (.b false))))⟩, false), (⟨(some 57), none, (.op (.mv (.t 56)))⟩, false), (⟨(some 58), some (57, true), (.op (.faddr 2 (.t 6)))⟩, false), (⟨(some 59), some (57, true), (.op (.load none (.t 58)))⟩, false), (⟨(some 60), some (57, true), (.op (.len .slice (.t 59)))⟩, false), (⟨(some 61), some (57, true), (.op (.bin .int true .eql (.t 60) (.c (.i .i64 1))))⟩, false), (⟨(some 62), none, (.op (.pick (.t 57) (.t 61) (.c (.b false))))⟩, false), (⟨(some 63), none, (.op (.mv (.t 62)))⟩, false), (⟨(some 64), some (63, true), (.op (.faddr 2 (.t 6)))⟩, false), (⟨(some 65), some (63, true), (.op (.load none (.t 64)))⟩, false), (⟨(some 66), some (63, true), (.op (.iaddr none 13 (.t 65) (.c (.i .i64 0))))⟩, false), (⟨(some 67), some (63, true), (.op (.load (some 13) (.t 66)))⟩, false), (⟨(some 68), some (63, true), (.call 20 [(.c (.i .i64 4))])⟩, true), (⟨(some 69), some (63, true), (.op (.eqag false [.int, .int, .int, .int, .int, .int, .int, .int, .int, .int, .int, .int, .int] (.t 67) (.t 68)))⟩, false), (⟨(some 70), none, (.op (.pick (.t 63) (.t 69) (.c (.b false))))⟩, false), (⟨(some 71), none, (.op (.mv (.t 70)))⟩, false), (⟨(some 72), some (71, true), (.op (.faddr 3 (.t 6)))⟩, false), (⟨(some 73), some (71, true), (.op (.load none (.t 72)))⟩, false), (⟨(some 74), some (71, true), (.op (.len .slice (.t 73)))⟩, false), (⟨(some 75), some (71, true), (.op (.bin .int true .eql (.t 74) (.c (.i .i64 0))))⟩, false), (⟨(some 76), none, (.op (.pick (.t 71) (.t 75) (.c (.b false))))⟩, false), (⟨(some 77), none, (.op (.mv (.t 76)))⟩, false), (⟨(some 78), some (77, true), (.op (.mv (.t 1)))⟩, false), (⟨(some 79), some (77, true), (.call 11 [(.t 78)])⟩, false), (⟨(some 80), some (77, true), (.op (.bin .int true .eql (.t 79) (.c (.i .i64 3))))⟩, false), (⟨(some 81), none, (.op (.pick (.t 77) (.t 80) (.c (.b false))))⟩, false), (⟨(some 0), none, (.op (.mv (.t 81)))⟩, false)]
theorem c10d0_w {P : Program} {O : Orc} {S0 : Mem} {rd : Bool} {e : Env} {S : Mem} {d : List Nat} {Q : Kont} : W P O S0 rd (.draw c10d0 []) e S d Q = wFl O c10d0w e S (normK Q d) := W_draw' (by kernel_rfl) (by kernel_rfl)
attribute [go_sem] c10d0_w c10d0w
def c10 : IFunc := ⟨0, [.tmp 0],
  .seq (.region [⟨(some 0), none, (.op (.mv (.c (.b false))))⟩])
   (.live [] (.seq (.region [⟨(some 9), none, (.call 6 [])⟩,
    ⟨(some 1), none, (.op (.mv (.t 9)))⟩])
   (.live [1] (.seq (.seq (.region [⟨(some 10), none, (.op (.mv (.t 1)))⟩,
    ⟨(some 11), none, (.op (.bin .ptr true .eql (.t 10) (.c .pn)))⟩,
    ⟨(some 12), none, (.op (.mv (.t 11)))⟩,
    ⟨(some 13), some (12, false), (.op (.mv (.t 1)))⟩,
    ⟨(some 14), some (12, false), (.call 20 [(.c (.i .i64 3))])⟩,
    ⟨(some 15), some (12, false), (.call 7 [(.t 13), (.t 14)])⟩,
    ⟨(some 16), some (12, false), (.op (.bin .int true .neq (.t 15) (.c (.i .i64 0))))⟩,
    ⟨(some 17), none, (.op (.pick (.t 12) (.c (.b true)) (.t 16)))⟩,
    ⟨(some 18), none, (.op (.mv (.t 17)))⟩,
    ⟨(some 19), some (18, false), (.op (.mv (.t 1)))⟩,
    ⟨(some 20), some (18, false), (.call 9 [(.t 19), (.c (.i .i64 3))])⟩,
    ⟨(some 21), some (18, false), (.op (.bin .int true .neq (.t 20) (.c (.i .i64 0))))⟩,
    ⟨(some 22), none, (.op (.pick (.t 18) (.c (.b true)) (.t 21)))⟩])
   (.live [1, 22] (.cond (.t 22) (.seq (.region [⟨(some 0), none, (.op (.mv (.c (.b false))))⟩])
   (.ret))
   (.skip))))
   (.live [1] (.seq (.region [⟨(some 24), none, (.op (.mv (.t 1)))⟩,
    ⟨(some 25), none, (.op (.build [(.i .u64 0), .sn] [(0, 1, (.c (.i .u64 1)))]))⟩,
    ⟨(some 26), none, (.call 8 [(.t 24), (.t 25)])⟩,
    ⟨(some 23), none, (.op (.mv (.t 26)))⟩,
    ⟨(some 27), none, (.op (.ext (.t 23) 0))⟩,
    ⟨(some 28), none, (.op (.ext (.t 23) 1))⟩,
    ⟨(some 29), none, (.op (.ext (.t 23) 2))⟩,
    ⟨(some 2), none, (.op (.fresh [(.i .i64 0), (.i .i64 0), .sn, .sn, (.i .u64 0), (.i .u64 0)]))⟩,
    ⟨none, none, (.op (.store 6 (.t 2) (.t 27)))⟩,
    ⟨(some 3), none, (.op (.mv (.t 28)))⟩,
    ⟨(some 4), none, (.op (.mv (.t 29)))⟩])
   (.live [3, 4, 1] (.seq (.region [⟨(some 30), none, (.op (.mv (.t 1)))⟩,
    ⟨(some 31), none, (.call 20 [(.c (.i .i64 4))])⟩,
    ⟨(some 32), none, (.call 7 [(.t 30), (.t 31)])⟩,
    ⟨(some 5), none, (.op (.mv (.t 32)))⟩])
   (.live [3, 4, 5, 1] (.seq (.region [⟨(some 34), none, (.op (.mv (.t 1)))⟩,
    ⟨(some 35), none, (.op (.build [(.i .u64 0), .sn] [(0, 1, (.c (.i .u64 1)))]))⟩,
    ⟨(some 36), none, (.call 8 [(.t 34), (.t 35)])⟩,
    ⟨(some 33), none, (.op (.mv (.t 36)))⟩,
    ⟨(some 37), none, (.op (.ext (.t 33) 0))⟩,
    ⟨(some 38), none, (.op (.ext (.t 33) 1))⟩,
    ⟨(some 39), none, (.op (.ext (.t 33) 2))⟩,
    ⟨(some 6), none, (.op (.fresh [(.i .i64 0), (.i .i64 0), .sn, .sn, (.i .u64 0), (.i .u64 0)]))⟩,
    ⟨none, none, (.op (.store 6 (.t 6) (.t 37)))⟩,
    ⟨(some 7), none, (.op (.mv (.t 38)))⟩,
    ⟨(some 8), none, (.op (.mv (.t 39)))⟩])
   (.live [3, 4, 5, 7, 8, 6, 1] (.seq (.draw c10d0 [])
   (.ret))))))))))))),
  []⟩


/- (*floodgate/txn.Txn).Len -/

def c11 : IFunc := ⟨1, [.tmp 2],
  .seq (.region [⟨(some 2), none, (.op (.mv (.c (.i .i64 0))))⟩])
   (.live [0] (.seq (.region [⟨(some 3), none, (.op (.mv (.t 0)))⟩,
    ⟨(some 4), none, (.op (.nilck (.t 3)))⟩,
    ⟨(some 5), none, (.op (.faddr 0 (.t 4)))⟩,
    ⟨(some 6), none, (.op (.load none (.t 5)))⟩,
    ⟨(some 7), none, (.op (.len .slice (.t 6)))⟩,
    ⟨(some 2), none, (.op (.mv (.t 7)))⟩])
   (.ret))),
  []⟩


/- floodgate/floodgateref13.Right -/
def c12l0 : ICode :=
  .seq (.region [⟨(some 25), none, (.op (.bin .int false .lss (.t 24) (.t 23)))⟩])
   (.live [22, 23, 24, 3, 25] (.seq (.cond (.t 25) (.skip)
   (.exit 0))
   (.live [22, 23, 24, 3] (.seq (.block 1 (.seq (.region [⟨(some 26), none, (.op (.iaddr none 14 (.t 22) (.t 24)))⟩,
    ⟨(some 27), none, (.op (.load (some 14) (.t 26)))⟩,
    ⟨(some 5), none, (.op (.fresh [(.i .i64 0), (.i .u8 0), (.i .u8 0), (.i .u8 0), (.i .u8 0), (.i .i64 0), (.i .u64 0), (.i .u64 0), (.i .u64 0), (.i .u64 0), (.i .u64 0), (.i .u64 0), (.i .u64 0), (.i .u64 0)]))⟩,
    ⟨none, none, (.op (.store 14 (.t 5) (.t 27)))⟩])
   (.live [22, 23, 24, 5, 3] (.seq (.seq (.region [⟨(some 28), none, (.op (.faddr 13 (.t 5)))⟩,
    ⟨(some 29), none, (.op (.load none (.t 28)))⟩,
    ⟨(some 30), none, (.op (.bin .int true .gtr (.t 29) (.c (.i .u64 281474976710656))))⟩])
   (.live [22, 23, 24, 5, 3, 30] (.cond (.t 30) (.seq (.region [⟨(some 2), none, (.op (.mv (.c (.b false))))⟩])
   (.ret))
   (.skip))))
   (.live [22, 23, 24, 5, 3] (.region [⟨(some 31), none, (.op (.mv (.t 3)))⟩,
    ⟨(some 32), none, (.op (.faddr 0 (.t 5)))⟩,
    ⟨(some 33), none, (.op (.load (some 13) (.t 32)))⟩,
    ⟨(some 34), none, (.op (.bslice [(.i .i64 0), (.i .u8 0), (.i .u8 0), (.i .u8 0), (.i .u8 0), (.i .i64 0), (.i .u64 0), (.i .u64 0), (.i .u64 0), (.i .u64 0), (.i .u64 0), (.i .u64 0), (.i .u64 0)] 1 [(0, 13, (.t 33))]))⟩,
    ⟨(some 35), none, (.op (.app 13 80 (.t 31) (.t 34)))⟩,
    ⟨(some 3), none, (.op (.mv (.t 35)))⟩]))))))
   (.live [22, 23, 3, 24] (.region [⟨(some 36), none, (.op (.bin .int true .add (.t 24) (.c (.i .i64 1))))⟩,
    ⟨(some 24), none, (.op (.mv (.t 36)))⟩]))))))
def c12 : IFunc := ⟨1, [.tmp 2],
  .seq (.region [⟨(some 1), none, (.op (.box (.t 0)))⟩,
    ⟨(some 2), none, (.op (.mv (.c (.b false))))⟩])
   (.live [1] (.seq (.seq (.region [⟨(some 6), none, (.op (.faddr 0 (.t 1)))⟩,
    ⟨(some 7), none, (.op (.load none (.t 6)))⟩,
    ⟨(some 8), none, (.op (.bin .int true .lss (.t 7) (.c (.i .u64 1))))⟩,
    ⟨(some 9), none, (.op (.mv (.t 8)))⟩,
    ⟨(some 10), some (9, false), (.op (.faddr 0 (.t 1)))⟩,
    ⟨(some 11), some (9, false), (.op (.load none (.t 10)))⟩,
    ⟨(some 12), some (9, false), (.op (.bin .int true .gtr (.t 11) (.c (.i .u64 281474976710656))))⟩,
    ⟨(some 13), none, (.op (.pick (.t 9) (.c (.b true)) (.t 12)))⟩,
    ⟨(some 14), none, (.op (.mv (.t 13)))⟩,
    ⟨(some 15), some (14, false), (.op (.faddr 1 (.t 1)))⟩,
    ⟨(some 16), some (14, false), (.op (.load none (.t 15)))⟩,
    ⟨(some 17), some (14, false), (.op (.len .slice (.t 16)))⟩,
    ⟨(some 18), some (14, false), (.op (.bin .int true .gtr (.t 17) (.c (.i .i64 8))))⟩,
    ⟨(some 19), none, (.op (.pick (.t 14) (.c (.b true)) (.t 18)))⟩])
   (.live [1, 19] (.cond (.t 19) (.seq (.region [⟨(some 2), none, (.op (.mv (.c (.b false))))⟩])
   (.ret))
   (.skip))))
   (.live [1] (.seq (.region [⟨(some 20), none, (.op (.bslice [(.i .i64 0), (.i .u8 0), (.i .u8 0), (.i .u8 0), (.i .u8 0), (.i .i64 0), (.i .u64 0), (.i .u64 0), (.i .u64 0), (.i .u64 0), (.i .u64 0), (.i .u64 0), (.i .u64 0)] 0 []))⟩,
    ⟨(some 3), none, (.op (.mv (.t 20)))⟩])
   (.live [3, 1] (.seq (.seq (.region [⟨(some 21), none, (.op (.faddr 1 (.t 1)))⟩,
    ⟨(some 22), none, (.op (.load none (.t 21)))⟩,
    ⟨(some 23), none, (.op (.len .slice (.t 22)))⟩,
    ⟨(some 24), none, (.op (.mv (.c (.i .i64 0))))⟩])
   (.live [22, 23, 24, 3] (.block 0 (.loop [22, 23, 24, 3] c12l0))))
   (.live [3] (.seq (.region [⟨(some 37), none, (.op (.mv (.t 3)))⟩,
    ⟨(some 38), none, (.call 21 [(.t 37)])⟩,
    ⟨(some 39), none, (.op (.bin .int true .eql (.t 38) (.c (.i .i64 0))))⟩,
    ⟨(some 2), none, (.op (.mv (.t 39)))⟩])
   (.ret))))))))),
  []⟩


/- floodgate/book.Apply -/
def c13d0 : List Stage :=
  [⟨[(⟨(some 10), none, (.op (.faddr 0 (.t 2)))⟩, 1), (⟨(some 11), none, (.op (.load none (.t 10)))⟩, 1), (⟨(some 12), none, (.op (.faddr 1 (.t 2)))⟩, 0), (⟨(some 13), none, (.op (.load none (.t 12)))⟩, 0)], none, some ⟨(some 14), none, (.call 22 [(.t 13)])⟩⟩,
    ⟨[(⟨(some 15), none, (.op (.build [(.i .u64 0), .sn] [(0, 1, (.t 11)), (1, 1, (.t 14))]))⟩, 1)], some ⟨(some 6), none, (.op (.fresh [(.i .u64 0), .sn]))⟩, some ⟨none, none, (.op (.store 2 (.t 6) (.t 15)))⟩⟩,
    ⟨[], none, none⟩]
def c13d0w : List (ROp × Bool) :=
  [(⟨(some 10), none, (.op (.faddr 0 (.t 2)))⟩, false), (⟨(some 11), none, (.op (.load none (.t 10)))⟩, false), (⟨(some 12), none, (.op (.faddr 1 (.t 2)))⟩, false), (⟨(some 13), none, (.op (.load none (.t 12)))⟩, false), (⟨(some 14), none, (.call 22 [(.t 13)])⟩, true), (⟨(some 15), none, (.op (.build [(.i .u64 0), .sn] [(0, 1, (.t 11)), (1, 1, (.t 14))]))⟩, false), (⟨(some 6), none, (.op (.fresh [(.i .u64 0), .sn]))⟩, true), (⟨none, none, (.op (.store 2 (.t 6) (.t 15)))⟩, false)]
theorem c13d0_w {P : Program} {O : Orc} {S0 : Mem} {rd : Bool} {e : Env} {S : Mem} {d : List Nat} {Q : Kont} : W P O S0 rd (.draw c13d0 []) e S d Q = wFl O c13d0w e S (normK Q d) := W_draw' (by kernel_rfl) (by kernel_rfl)
attribute [go_sem] c13d0_w c13d0w
def c13d1 : List Stage :=
  [⟨[(⟨(some 25), none, (.op (.faddr 0 (.t 2)))⟩, 1), (⟨(some 26), none, (.op (.load none (.t 25)))⟩, 1), (⟨(some 27), none, (.op (.faddr 1 (.t 2)))⟩, 0), (⟨(some 28), none, (.op (.load none (.t 27)))⟩, 0)], none, some ⟨(some 29), none, (.call 22 [(.t 28)])⟩⟩,
    ⟨[(⟨(some 30), none, (.op (.build [(.i .u64 0), .sn] [(0, 1, (.t 26)), (1, 1, (.t 29))]))⟩, 1)], some ⟨(some 7), none, (.op (.fresh [(.i .u64 0), .sn]))⟩, some ⟨none, none, (.op (.store 2 (.t 7) (.t 30)))⟩⟩,
    ⟨[], none, none⟩]
def c13d1w : List (ROp × Bool) :=
  [(⟨(some 25), none, (.op (.faddr 0 (.t 2)))⟩, false), (⟨(some 26), none, (.op (.load none (.t 25)))⟩, false), (⟨(some 27), none, (.op (.faddr 1 (.t 2)))⟩, false), (⟨(some 28), none, (.op (.load none (.t 27)))⟩, false), (⟨(some 29), none, (.call 22 [(.t 28)])⟩, true), (⟨(some 30), none, (.op (.build [(.i .u64 0), .sn] [(0, 1, (.t 26)), (1, 1, (.t 29))]))⟩, false), (⟨(some 7), none, (.op (.fresh [(.i .u64 0), .sn]))⟩, true), (⟨none, none, (.op (.store 2 (.t 7) (.t 30)))⟩, false)]
theorem c13d1_w {P : Program} {O : Orc} {S0 : Mem} {rd : Bool} {e : Env} {S : Mem} {d : List Nat} {Q : Kont} : W P O S0 rd (.draw c13d1 []) e S d Q = wFl O c13d1w e S (normK Q d) := W_draw' (by kernel_rfl) (by kernel_rfl)
attribute [go_sem] c13d1_w c13d1w
def c13l2 : ICode :=
  .seq (.region [⟨(some 68), none, (.op (.bin .int false .lss (.t 67) (.t 66)))⟩])
   (.live [7, 4, 6, 8, 66, 67, 68] (.seq (.cond (.t 68) (.skip)
   (.exit 1))
   (.live [7, 4, 6, 8, 66, 67] (.seq (.block 2 (.seq (.region [⟨(some 69), none, (.op (.mv (.t 67)))⟩,
    ⟨(some 9), none, (.op (.mv (.t 69)))⟩])
   (.live [7, 4, 6, 8, 66, 67, 9] (.region [⟨(some 70), none, (.op (.faddr 1 (.t 7)))⟩,
    ⟨(some 71), none, (.op (.load none (.t 70)))⟩,
    ⟨(some 72), none, (.op (.mv (.t 9)))⟩,
    ⟨(some 73), none, (.op (.iaddr none 14 (.t 71) (.t 72)))⟩,
    ⟨(some 74), none, (.op (.faddr 13 (.t 73)))⟩,
    ⟨none, none, (.op (.store 1 (.t 74) (.c (.i .u64 0))))⟩]))))
   (.live [7, 4, 6, 8, 66, 67] (.region [⟨(some 75), none, (.op (.bin .int true .add (.t 67) (.c (.i .i64 1))))⟩,
    ⟨(some 67), none, (.op (.mv (.t 75)))⟩]))))))
def c13 : IFunc := ⟨2, [.cell 4 (some 2), .tmp 5],
  .seq (.region [⟨(some 2), none, (.op (.box (.t 0)))⟩,
    ⟨(some 3), none, (.op (.box (.t 1)))⟩,
    ⟨(some 4), none, (.op (.fresh [(.i .u64 0), .sn]))⟩,
    ⟨(some 5), none, (.op (.mv (.c (.i .i64 0))))⟩])
   (.live [4, 3, 2] (.seq (.draw c13d0 [])
   (.live [4, 6, 3, 2] (.seq (.seq (.region [⟨(some 16), none, (.op (.load (some 2) (.t 2)))⟩,
    ⟨(some 17), none, (.call 23 [(.t 16)])⟩,
    ⟨(some 18), none, (.op (.un .not (.t 17)))⟩,
    ⟨(some 19), none, (.op (.mv (.t 18)))⟩,
    ⟨(some 20), some (19, false), (.op (.load (some 6) (.t 3)))⟩,
    ⟨(some 21), some (19, false), (.call 24 [(.t 20)])⟩,
    ⟨(some 22), some (19, false), (.op (.un .not (.t 21)))⟩,
    ⟨(some 23), none, (.op (.pick (.t 19) (.c (.b true)) (.t 22)))⟩])
   (.live [4, 6, 3, 2, 23] (.cond (.t 23) (.seq (.region [⟨(some 24), none, (.op (.load (some 2) (.t 6)))⟩,
    ⟨none, none, (.op (.store 2 (.t 4) (.t 24)))⟩,
    ⟨(some 5), none, (.op (.mv (.c (.i .i64 131))))⟩])
   (.ret))
   (.skip))))
   (.live [4, 6, 3, 2] (.seq (.draw c13d1 [])
   (.live [4, 6, 7, 3, 2] (.seq (.region [⟨(some 8), none, (.op (.mv (.c (.b false))))⟩])
   (.live [4, 6, 7, 3, 2, 8] (.seq (.seq (.region [⟨(some 31), none, (.op (.faddr 0 (.t 3)))⟩,
    ⟨(some 32), none, (.op (.load none (.t 31)))⟩])
   (.live [4, 6, 7, 3, 2, 8, 32] (.block 0 (.seq (.region [⟨(some 34), none, (.op (.bin .int true .eql (.t 32) (.c (.i .i64 1))))⟩,
    ⟨(some 33), none, (.op (.mv (.t 34)))⟩])
   (.live [4, 6, 7, 3, 2, 8, 32, 33] (.cond (.t 33) (.region [⟨(some 36), none, (.op (.faddr 1 (.t 7)))⟩,
    ⟨(some 37), none, (.op (.load none (.t 36)))⟩,
    ⟨(some 38), none, (.op (.load (some 6) (.t 3)))⟩,
    ⟨(some 39), none, (.call 25 [(.t 37), (.t 38)])⟩,
    ⟨(some 35), none, (.op (.mv (.t 39)))⟩,
    ⟨(some 40), none, (.op (.ext (.t 35) 0))⟩,
    ⟨(some 41), none, (.op (.ext (.t 35) 1))⟩,
    ⟨(some 42), none, (.op (.faddr 1 (.t 7)))⟩,
    ⟨none, none, (.op (.store 1 (.t 42) (.t 40)))⟩,
    ⟨(some 8), none, (.op (.mv (.t 41)))⟩])
   (.seq (.region [⟨(some 44), none, (.op (.bin .int true .eql (.t 32) (.c (.i .i64 2))))⟩,
    ⟨(some 43), none, (.op (.mv (.t 44)))⟩])
   (.live [4, 6, 7, 3, 2, 8, 32, 43] (.cond (.t 43) (.region [⟨(some 46), none, (.op (.faddr 1 (.t 7)))⟩,
    ⟨(some 47), none, (.op (.load none (.t 46)))⟩,
    ⟨(some 48), none, (.op (.load (some 6) (.t 3)))⟩,
    ⟨(some 49), none, (.call 26 [(.t 47), (.t 48)])⟩,
    ⟨(some 45), none, (.op (.mv (.t 49)))⟩,
    ⟨(some 50), none, (.op (.ext (.t 45) 0))⟩,
    ⟨(some 51), none, (.op (.ext (.t 45) 1))⟩,
    ⟨(some 52), none, (.op (.faddr 1 (.t 7)))⟩,
    ⟨none, none, (.op (.store 1 (.t 52) (.t 50)))⟩,
    ⟨(some 8), none, (.op (.mv (.t 51)))⟩])
   (.seq (.region [⟨(some 54), none, (.op (.bin .int true .eql (.t 32) (.c (.i .i64 3))))⟩,
    ⟨(some 53), none, (.op (.mv (.t 54)))⟩])
   (.live [7, 4, 6, 3, 2, 8, 53] (.cond (.t 53) (.seq (.region [⟨(some 55), none, (.op (.faddr 5 (.t 3)))⟩,
    ⟨(some 56), none, (.op (.load none (.t 55)))⟩,
    ⟨(some 57), none, (.op (.faddr 0 (.t 2)))⟩,
    ⟨(some 58), none, (.op (.load none (.t 57)))⟩,
    ⟨(some 59), none, (.op (.bin .int true .add (.t 58) (.c (.i .u64 1))))⟩,
    ⟨(some 60), none, (.op (.bin .int false .eql (.t 56) (.t 59)))⟩,
    ⟨(some 8), none, (.op (.mv (.t 60)))⟩])
   (.live [7, 4, 6, 8, 3] (.seq (.region [⟨(some 61), none, (.op (.faddr 5 (.t 3)))⟩,
    ⟨(some 62), none, (.op (.load none (.t 61)))⟩,
    ⟨(some 63), none, (.op (.faddr 0 (.t 7)))⟩,
    ⟨none, none, (.op (.store 1 (.t 63) (.t 62)))⟩])
   (.live [7, 4, 6, 8] (.seq (.region [⟨(some 64), none, (.op (.faddr 1 (.t 7)))⟩,
    ⟨(some 65), none, (.op (.load none (.t 64)))⟩,
    ⟨(some 66), none, (.op (.len .slice (.t 65)))⟩,
    ⟨(some 67), none, (.op (.mv (.c (.i .i64 0))))⟩])
   (.live [7, 4, 6, 8, 66, 67] (.block 1 (.loop [7, 4, 6, 8, 66, 67] c13l2))))))))
   (.skip)))))))))))))
   (.live [4, 6, 7, 8] (.seq (.seq (.region [⟨(some 76), none, (.op (.mv (.t 8)))⟩,
    ⟨(some 77), none, (.op (.un .not (.t 76)))⟩,
    ⟨(some 78), none, (.op (.mv (.t 77)))⟩,
    ⟨(some 79), some (78, false), (.op (.load (some 2) (.t 7)))⟩,
    ⟨(some 80), some (78, false), (.call 23 [(.t 79)])⟩,
    ⟨(some 81), some (78, false), (.op (.un .not (.t 80)))⟩,
    ⟨(some 82), none, (.op (.pick (.t 78) (.c (.b true)) (.t 81)))⟩])
   (.live [4, 6, 7, 82] (.cond (.t 82) (.seq (.region [⟨(some 83), none, (.op (.load (some 2) (.t 6)))⟩,
    ⟨none, none, (.op (.store 2 (.t 4) (.t 83)))⟩,
    ⟨(some 5), none, (.op (.mv (.c (.i .i64 131))))⟩])
   (.ret))
   (.skip))))
   (.live [4, 7] (.seq (.region [⟨(some 84), none, (.op (.load (some 2) (.t 7)))⟩,
    ⟨none, none, (.op (.store 2 (.t 4) (.t 84)))⟩,
    ⟨(some 5), none, (.op (.mv (.c (.i .i64 0))))⟩])
   (.ret))))))))))))))),
  []⟩


/- (*floodgate/txn.Txn).add -/
def c15d0 : List Stage :=
  [⟨[(⟨(some 11), none, (.op (.mv (.t 0)))⟩, 2), (⟨(some 12), none, (.op (.mv (.t 0)))⟩, 1), (⟨(some 13), none, (.op (.nilck (.t 12)))⟩, 1), (⟨(some 14), none, (.op (.faddr 0 (.t 13)))⟩, 1), (⟨(some 15), none, (.op (.load none (.t 14)))⟩, 1), (⟨(some 16), none, (.op (.load (some 14) (.t 3)))⟩, 0)], none, some ⟨(some 17), none, (.op (.bslice [(.i .i64 0), (.i .u8 0), (.i .u8 0), (.i .u8 0), (.i .u8 0), (.i .i64 0), (.i .u64 0), (.i .u64 0), (.i .u64 0), (.i .u64 0), (.i .u64 0), (.i .u64 0), (.i .u64 0), (.b false)] 1 [(0, 14, (.t 16))]))⟩⟩,
    ⟨[], none, some ⟨(some 18), none, (.op (.app 14 88 (.t 15) (.t 17)))⟩⟩,
    ⟨[(⟨(some 19), none, (.op (.nilck (.t 11)))⟩, 2), (⟨(some 20), none, (.op (.faddr 0 (.t 19)))⟩, 2)], none, some ⟨none, none, (.op (.store 1 (.t 20) (.t 18)))⟩⟩,
    ⟨[], none, none⟩]
def c15d0w : List (ROp × Bool) :=
  [(⟨(some 11), none, (.op (.mv (.t 0)))⟩, false), (⟨(some 12), none, (.op (.mv (.t 0)))⟩, false), (⟨(some 13), none, (.op (.nilck (.t 12)))⟩, false), (⟨(some 14), none, (.op (.faddr 0 (.t 13)))⟩, false), (⟨(some 15), none, (.op (.load none (.t 14)))⟩, false), (⟨(some 16), none, (.op (.load (some 14) (.t 3)))⟩, false), (⟨(some 17), none, (.op (.bslice [(.i .i64 0), (.i .u8 0), (.i .u8 0), (.i .u8 0), (.i .u8 0), (.i .i64 0), (.i .u64 0), (.i .u64 0), (.i .u64 0), (.i .u64 0), (.i .u64 0), (.i .u64 0), (.i .u64 0), (.b false)] 1 [(0, 14, (.t 16))]))⟩, true), (⟨(some 18), none, (.op (.app 14 88 (.t 15) (.t 17)))⟩, false), (⟨(some 19), none, (.op (.nilck (.t 11)))⟩, false), (⟨(some 20), none, (.op (.faddr 0 (.t 19)))⟩, false), (⟨none, none, (.op (.store 1 (.t 20) (.t 18)))⟩, false)]
theorem c15d0_w {P : Program} {O : Orc} {S0 : Mem} {rd : Bool} {e : Env} {S : Mem} {d : List Nat} {Q : Kont} : W P O S0 rd (.draw c15d0 []) e S d Q = wFl O c15d0w e S (normK Q d) := W_draw' (by kernel_rfl) (by kernel_rfl)
attribute [go_sem] c15d0_w c15d0w
def c15 : IFunc := ⟨2, [.tmp 4],
  .seq (.region [⟨(some 3), none, (.op (.box (.t 1)))⟩,
    ⟨(some 4), none, (.op (.mv (.c (.i .i64 0))))⟩])
   (.live [0, 3] (.seq (.seq (.region [⟨(some 5), none, (.op (.mv (.t 0)))⟩,
    ⟨(some 6), none, (.op (.nilck (.t 5)))⟩,
    ⟨(some 7), none, (.op (.faddr 0 (.t 6)))⟩,
    ⟨(some 8), none, (.op (.load none (.t 7)))⟩,
    ⟨(some 9), none, (.op (.len .slice (.t 8)))⟩,
    ⟨(some 10), none, (.op (.bin .int true .geq (.t 9) (.c (.i .i64 64))))⟩])
   (.live [0, 3, 10] (.cond (.t 10) (.seq (.region [⟨(some 4), none, (.op (.mv (.c (.i .i64 161))))⟩])
   (.ret))
   (.skip))))
   (.live [0, 3] (.seq (.draw c15d0 [])
   (.live [] (.seq (.region [⟨(some 4), none, (.op (.mv (.c (.i .i64 0))))⟩])
   (.ret))))))),
  []⟩


/- maps.Keys[map[int]floodgate/txn.change,int,floodgate/txn.change] -/

def c17 : IFunc := ⟨1, [.tmp 2],
  .seq (.region [⟨(some 1), none, (.op (.box (.t 0)))⟩,
    ⟨(some 2), none, (.op (.mv (.c .nf)))⟩])
   (.live [1] (.seq (.region [⟨(some 3), none, (.op (.mkf (.func 29) [] [(.t 1)]))⟩,
    ⟨(some 2), none, (.op (.mv (.t 3)))⟩])
   (.ret))),
  []⟩


/- floodgate/book.Find -/

def c18 : IFunc := ⟨2, [.cell 4 (some 14), .tmp 5],
  .seq (.region [⟨(some 2), none, (.op (.box (.t 0)))⟩,
    ⟨(some 4), none, (.op (.fresh [(.i .i64 0), (.i .u8 0), (.i .u8 0), (.i .u8 0), (.i .u8 0), (.i .i64 0), (.i .u64 0), (.i .u64 0), (.i .u64 0), (.i .u64 0), (.i .u64 0), (.i .u64 0), (.i .u64 0), (.i .u64 0)]))⟩,
    ⟨(some 5), none, (.op (.mv (.c (.b false))))⟩])
   (.live [4, 2, 1] (.seq (.region [⟨(some 7), none, (.op (.faddr 1 (.t 2)))⟩,
    ⟨(some 8), none, (.op (.load none (.t 7)))⟩,
    ⟨(some 9), none, (.op (.mv (.t 1)))⟩,
    ⟨(some 10), none, (.call 30 [(.t 8), (.t 9)])⟩,
    ⟨(some 6), none, (.op (.mv (.t 10)))⟩])
   (.live [4, 6, 2] (.seq (.seq (.region [⟨(some 11), none, (.op (.mv (.t 6)))⟩,
    ⟨(some 12), none, (.op (.bin .int true .lss (.t 11) (.c (.i .i64 0))))⟩])
   (.live [4, 6, 2, 12] (.cond (.t 12) (.seq (.region [⟨(some 13), none, (.op (.build [(.i .i64 0), (.i .u8 0), (.i .u8 0), (.i .u8 0), (.i .u8 0), (.i .i64 0), (.i .u64 0), (.i .u64 0), (.i .u64 0), (.i .u64 0), (.i .u64 0), (.i .u64 0), (.i .u64 0), (.i .u64 0)] []))⟩,
    ⟨none, none, (.op (.store 14 (.t 4) (.t 13)))⟩,
    ⟨(some 5), none, (.op (.mv (.c (.b false))))⟩])
   (.ret))
   (.skip))))
   (.live [4, 6, 2] (.seq (.region [⟨(some 14), none, (.op (.faddr 1 (.t 2)))⟩,
    ⟨(some 15), none, (.op (.load none (.t 14)))⟩,
    ⟨(some 16), none, (.op (.mv (.t 6)))⟩,
    ⟨(some 17), none, (.op (.iaddr none 14 (.t 15) (.t 16)))⟩,
    ⟨(some 18), none, (.op (.load (some 14) (.t 17)))⟩,
    ⟨none, none, (.op (.store 14 (.t 4) (.t 18)))⟩,
    ⟨(some 5), none, (.op (.mv (.c (.b true))))⟩])
   (.ret))))))),
  []⟩


/- floodgate/policy.Right -/

def c19 : IFunc := ⟨1, [.tmp 2],
  .seq (.region [⟨(some 1), none, (.op (.box (.t 0)))⟩,
    ⟨(some 2), none, (.op (.mv (.c (.b false))))⟩])
   (.live [1] (.seq (.region [⟨(some 3), none, (.op (.mv (.c (.f (.func 31) [] []))))⟩])
   (.live [3, 1] (.seq (.region [⟨(some 4), none, (.op (.mv (.c (.f (.func 32) [] []))))⟩])
   (.live [4, 3, 1] (.seq (.region [⟨(some 6), none, (.op (.faddr 11 (.t 1)))⟩,
    ⟨(some 7), none, (.op (.load none (.t 6)))⟩,
    ⟨(some 8), none, (.op (.faddr 12 (.t 1)))⟩,
    ⟨(some 9), none, (.op (.load none (.t 8)))⟩,
    ⟨(some 10), none, (.op (.bslice [(.i .u64 0)] 2 [(0, 1, (.t 7)), (1, 1, (.t 9))]))⟩,
    ⟨(some 5), none, (.op (.mv (.t 10)))⟩])
   (.live [4, 5, 3, 1] (.seq (.block 0 (.seq (.region [⟨(some 12), none, (.op (.faddr 0 (.t 1)))⟩,
    ⟨(some 13), none, (.op (.load none (.t 12)))⟩,
    ⟨(some 14), none, (.op (.bin .int true .lss (.t 13) (.c (.i .i64 1))))⟩,
    ⟨(some 15), none, (.op (.mv (.t 14)))⟩,
    ⟨(some 16), some (15, false), (.op (.faddr 0 (.t 1)))⟩,
    ⟨(some 17), some (15, false), (.op (.load none (.t 16)))⟩,
    ⟨(some 18), some (15, false), (.op (.bin .int true .gtr (.t 17) (.c (.i .i64 255))))⟩,
    ⟨(some 19), none, (.op (.pick (.t 15) (.c (.b true)) (.t 18)))⟩,
    ⟨(some 20), none, (.op (.mv (.t 19)))⟩,
    ⟨(some 21), some (20, false), (.op (.faddr 1 (.t 1)))⟩,
    ⟨(some 22), some (20, false), (.op (.load (some 5) (.t 21)))⟩,
    ⟨(some 23), some (20, false), (.call 33 [(.t 22)])⟩,
    ⟨(some 24), some (20, false), (.op (.un .not (.t 23)))⟩,
    ⟨(some 25), none, (.op (.pick (.t 20) (.c (.b true)) (.t 24)))⟩,
    ⟨(some 11), none, (.op (.mv (.t 25)))⟩])
   (.live [4, 5, 3, 1, 11] (.cond (.t 11) (.seq (.region [⟨(some 2), none, (.op (.mv (.c (.b false))))⟩])
   (.ret))
   (.seq (.region [⟨(some 27), none, (.op (.mv (.t 5)))⟩,
    ⟨(some 28), none, (.op (.faddr 6 (.t 1)))⟩,
    ⟨(some 29), none, (.op (.load none (.t 28)))⟩,
    ⟨(some 30), none, (.op (.faddr 7 (.t 1)))⟩,
    ⟨(some 31), none, (.op (.load none (.t 30)))⟩,
    ⟨(some 32), none, (.op (.faddr 8 (.t 1)))⟩,
    ⟨(some 33), none, (.op (.load none (.t 32)))⟩,
    ⟨(some 34), none, (.op (.faddr 9 (.t 1)))⟩,
    ⟨(some 35), none, (.op (.load none (.t 34)))⟩,
    ⟨(some 36), none, (.op (.faddr 10 (.t 1)))⟩,
    ⟨(some 37), none, (.op (.load none (.t 36)))⟩,
    ⟨(some 38), none, (.op (.bslice [(.i .u64 0)] 5 [(0, 1, (.t 29)), (1, 1, (.t 31)), (2, 1, (.t 33)), (3, 1, (.t 35)), (4, 1, (.t 37))]))⟩,
    ⟨(some 39), none, (.op (.app 1 8 (.t 27) (.t 38)))⟩,
    ⟨(some 40), none, (.op (.mv (.t 3)))⟩,
    ⟨(some 41), none, (.call 34 [(.t 39), (.t 40)])⟩,
    ⟨(some 26), none, (.op (.mv (.t 41)))⟩])
   (.live [4, 5, 26] (.cond (.t 26) (.seq (.region [⟨(some 2), none, (.op (.mv (.c (.b false))))⟩])
   (.ret))
   (.skip))))))))
   (.live [4, 5] (.seq (.region [⟨(some 42), none, (.op (.mv (.t 5)))⟩,
    ⟨(some 43), none, (.op (.mv (.t 4)))⟩,
    ⟨(some 44), none, (.call 34 [(.t 42), (.t 43)])⟩,
    ⟨(some 45), none, (.op (.un .not (.t 44)))⟩,
    ⟨(some 2), none, (.op (.mv (.t 45)))⟩])
   (.ret))))))))))),
  []⟩


/- floodgate/floodgatelaw16.one -/

def c20 : IFunc := ⟨1, [.cell 2 (some 13)],
  .seq (.region [⟨(some 2), none, (.op (.fresh [(.i .i64 0), (.i .u8 0), (.i .u8 0), (.i .u8 0), (.i .u8 0), (.i .i64 0), (.i .u64 0), (.i .u64 0), (.i .u64 0), (.i .u64 0), (.i .u64 0), (.i .u64 0), (.i .u64 0)]))⟩])
   (.live [2, 0] (.seq (.region [⟨(some 3), none, (.op (.mv (.t 0)))⟩,
    ⟨(some 4), none, (.op (.mv (.t 0)))⟩,
    ⟨(some 5), none, (.op (.toInt .u8 (.t 4)))⟩,
    ⟨(some 6), none, (.op (.build [(.i .u8 0), (.i .u8 0), (.i .u8 0), (.i .u8 0)] [(0, 1, (.c (.i .u8 10))), (1, 1, (.t 5))]))⟩,
    ⟨(some 7), none, (.op (.build [(.i .u8 0), (.i .u8 0), (.i .u8 0), (.i .u8 0), (.i .i64 0)] [(0, 4, (.t 6)), (4, 1, (.c (.i .i64 16)))]))⟩,
    ⟨(some 8), none, (.op (.build [(.i .i64 0), (.i .u8 0), (.i .u8 0), (.i .u8 0), (.i .u8 0), (.i .i64 0), (.i .u64 0), (.i .u64 0), (.i .u64 0), (.i .u64 0), (.i .u64 0), (.i .u64 0), (.i .u64 0)] [(0, 1, (.t 3)), (1, 5, (.t 7)), (10, 1, (.c (.i .u64 9000))), (11, 1, (.c (.i .u64 1500))), (12, 1, (.c (.i .u64 1500)))]))⟩,
    ⟨none, none, (.op (.store 13 (.t 2) (.t 8)))⟩])
   (.ret))),
  []⟩


/- floodgate/floodgateref11.All -/
def c21d0 : List Stage :=
  [⟨[(⟨(some 26), none, (.op (.mv (.t 0)))⟩, 0), (⟨(some 27), none, (.op (.mv (.t 4)))⟩, 0), (⟨(some 28), none, (.op (.iaddr none 13 (.t 26) (.t 27)))⟩, 0), (⟨(some 29), none, (.op (.faddr 0 (.t 28)))⟩, 0), (⟨(some 30), none, (.op (.load none (.t 29)))⟩, 0), (⟨(some 31), none, (.op (.mv (.t 0)))⟩, 0), (⟨(some 32), none, (.op (.mv (.t 3)))⟩, 0), (⟨(some 33), none, (.op (.iaddr none 13 (.t 31) (.t 32)))⟩, 0), (⟨(some 34), none, (.op (.faddr 0 (.t 33)))⟩, 0), (⟨(some 35), none, (.op (.load none (.t 34)))⟩, 0), (⟨(some 36), none, (.op (.bin .int false .geq (.t 30) (.t 35)))⟩, 0), (⟨(some 37), none, (.op (.mv (.t 36)))⟩, 0), (⟨(some 38), some (37, false), (.op (.mv (.t 0)))⟩, 0), (⟨(some 39), some (37, false), (.op (.mv (.t 4)))⟩, 0), (⟨(some 40), some (37, false), (.op (.iaddr none 13 (.t 38) (.t 39)))⟩, 0), (⟨(some 41), some (37, false), (.op (.faddr 1 (.t 40)))⟩, 0), (⟨(some 42), some (37, false), (.op (.load (some 5) (.t 41)))⟩, 0), (⟨(some 43), some (37, false), (.op (.mv (.t 0)))⟩, 0), (⟨(some 44), some (37, false), (.op (.mv (.t 3)))⟩, 0), (⟨(some 45), some (37, false), (.op (.iaddr none 13 (.t 43) (.t 44)))⟩, 0), (⟨(some 46), some (37, false), (.op (.faddr 1 (.t 45)))⟩, 0), (⟨(some 47), some (37, false), (.op (.load (some 5) (.t 46)))⟩, 0), (⟨(some 48), some (37, false), (.op (.eqag false [.int, .int, .int, .int, .int] (.t 42) (.t 47)))⟩, 0), (⟨(some 49), none, (.op (.pick (.t 37) (.c (.b true)) (.t 48)))⟩, 0)], none, none⟩]
def c21d0w : List (ROp × Bool) :=
  [(⟨(some 26), none, (.op (.mv (.t 0)))⟩, false), (⟨(some 27), none, (.op (.mv (.t 4)))⟩, false), (⟨(some 28), none, (.op (.iaddr none 13 (.t 26) (.t 27)))⟩, false), (⟨(some 29), none, (.op (.faddr 0 (.t 28)))⟩, false), (⟨(some 30), none, (.op (.load none (.t 29)))⟩, false), (⟨(some 31), none, (.op (.mv (.t 0)))⟩, false), (⟨(some 32), none, (.op (.mv (.t 3)))⟩, false), (⟨(some 33), none, (.op (.iaddr none 13 (.t 31) (.t 32)))⟩, false), (⟨(some 34), none, (.op (.faddr 0 (.t 33)))⟩, false), (⟨(some 35), none, (.op (.load none (.t 34)))⟩, false), (⟨(some 36), none, (.op (.bin .int false .geq (.t 30) (.t 35)))⟩, false), (⟨(some 37), none, (.op (.mv (.t 36)))⟩, false), (⟨(some 38), some (37, false), (.op (.mv (.t 0)))⟩, false), (⟨(some 39), some (37, false), (.op (.mv (.t 4)))⟩, false), (⟨(some 40), some (37, false), (.op (.iaddr none 13 (.t 38) (.t 39)))⟩, false), (⟨(some 41), some (37, false), (.op (.faddr 1 (.t 40)))⟩, false), (⟨(some 42), some (37, false), (.op (.load (some 5) (.t 41)))⟩, false), (⟨(some 43), some (37, false), (.op (.mv (.t 0)))⟩, false), (⟨(some 44), some (37, false), (.op (.mv (.t 3)))⟩, false), (⟨(some 45), some (37, false), (.op (.iaddr none 13 (.t 43) (.t 44)))⟩, false), (⟨(some 46), some (37, false), (.op (.faddr 1 (.t 45)))⟩, false), (⟨(some 47), some (37, false), (.op (.load (some 5) (.t 46)))⟩, false), (⟨(some 48), some (37, false), (.op (.eqag false [.int, .int, .int, .int, .int] (.t 42) (.t 47)))⟩, false), (⟨(some 49), none, (.op (.pick (.t 37) (.c (.b true)) (.t 48)))⟩, false)]
theorem c21d0_w {P : Program} {O : Orc} {S0 : Mem} {rd : Bool} {e : Env} {S : Mem} {d : List Nat} {Q : Kont} : W P O S0 rd (.draw c21d0 []) e S d Q = wFl O c21d0w e S (normK Q d) := W_draw' (by kernel_rfl) (by kernel_rfl)
attribute [go_sem] c21d0_w c21d0w
def c21l1 : ICode :=
  .seq (.region [⟨(some 24), none, (.op (.bin .int false .lss (.t 23) (.t 22)))⟩])
   (.live [0, 3, 9, 10, 22, 23, 24] (.seq (.cond (.t 24) (.skip)
   (.exit 2))
   (.live [0, 3, 9, 10, 22, 23] (.seq (.block 3 (.seq (.region [⟨(some 25), none, (.op (.mv (.t 23)))⟩,
    ⟨(some 4), none, (.op (.mv (.t 25)))⟩])
   (.live [0, 3, 9, 10, 22, 23, 4] (.seq (.draw c21d0 [])
   (.live [0, 3, 9, 10, 22, 23, 49] (.cond (.t 49) (.seq (.region [⟨(some 2), none, (.op (.mv (.c (.i .i64 111))))⟩])
   (.ret))
   (.skip)))))))
   (.live [0, 3, 9, 10, 22, 23] (.region [⟨(some 50), none, (.op (.bin .int true .add (.t 23) (.c (.i .i64 1))))⟩,
    ⟨(some 23), none, (.op (.mv (.t 50)))⟩]))))))
def c21l2 : ICode :=
  .seq (.region [⟨(some 11), none, (.op (.bin .int false .lss (.t 10) (.t 9)))⟩])
   (.live [0, 9, 10, 11] (.seq (.cond (.t 11) (.skip)
   (.exit 0))
   (.live [0, 9, 10] (.seq (.block 1 (.seq (.region [⟨(some 12), none, (.op (.mv (.t 10)))⟩,
    ⟨(some 3), none, (.op (.mv (.t 12)))⟩])
   (.live [0, 3, 9, 10] (.seq (.seq (.region [⟨(some 13), none, (.op (.mv (.t 0)))⟩,
    ⟨(some 14), none, (.op (.mv (.t 3)))⟩,
    ⟨(some 15), none, (.op (.iaddr none 13 (.t 13) (.t 14)))⟩,
    ⟨(some 16), none, (.op (.load (some 13) (.t 15)))⟩,
    ⟨(some 17), none, (.call 35 [(.t 16)])⟩,
    ⟨(some 18), none, (.op (.un .not (.t 17)))⟩])
   (.live [0, 3, 9, 10, 18] (.cond (.t 18) (.seq (.region [⟨(some 2), none, (.op (.mv (.c (.i .i64 111))))⟩])
   (.ret))
   (.skip))))
   (.live [0, 3, 9, 10] (.seq (.region [⟨(some 19), none, (.op (.mv (.t 0)))⟩,
    ⟨(some 20), none, (.op (.mv (.t 3)))⟩,
    ⟨(some 21), none, (.op (.slice 13 (.t 19) none (some (.t 20)) none))⟩,
    ⟨(some 22), none, (.op (.len .slice (.t 21)))⟩,
    ⟨(some 23), none, (.op (.mv (.c (.i .i64 0))))⟩])
   (.live [0, 3, 9, 10, 22, 23] (.block 2 (.loop [0, 3, 9, 10, 22, 23] c21l1)))))))))
   (.live [0, 9, 10] (.region [⟨(some 51), none, (.op (.bin .int true .add (.t 10) (.c (.i .i64 1))))⟩,
    ⟨(some 10), none, (.op (.mv (.t 51)))⟩]))))))
def c21 : IFunc := ⟨1, [.tmp 2],
  .seq (.region [⟨(some 2), none, (.op (.mv (.c (.i .i64 0))))⟩])
   (.live [0] (.seq (.seq (.region [⟨(some 5), none, (.op (.mv (.t 0)))⟩,
    ⟨(some 6), none, (.op (.len .slice (.t 5)))⟩,
    ⟨(some 7), none, (.op (.bin .int true .gtr (.t 6) (.c (.i .i64 8))))⟩])
   (.live [0, 7] (.cond (.t 7) (.seq (.region [⟨(some 2), none, (.op (.mv (.c (.i .i64 111))))⟩])
   (.ret))
   (.skip))))
   (.live [0] (.seq (.seq (.region [⟨(some 8), none, (.op (.mv (.t 0)))⟩,
    ⟨(some 9), none, (.op (.len .slice (.t 8)))⟩,
    ⟨(some 10), none, (.op (.mv (.c (.i .i64 0))))⟩])
   (.live [0, 9, 10] (.block 0 (.loop [0, 9, 10] c21l2))))
   (.live [] (.seq (.region [⟨(some 2), none, (.op (.mv (.c (.i .i64 0))))⟩])
   (.ret))))))),
  []⟩


/- slices.Clone[[]floodgate/api.Entry,floodgate/api.Entry] -/

def c22 : IFunc := ⟨1, [.tmp 2],
  .seq (.region [⟨(some 2), none, (.op (.mv (.c .sn)))⟩])
   (.live [0] (.seq (.seq (.region [⟨(some 3), none, (.op (.mv (.t 0)))⟩,
    ⟨(some 4), none, (.op (.bin .slice true .eql (.t 3) (.c .sn)))⟩])
   (.live [0, 4] (.cond (.t 4) (.seq (.region [⟨(some 2), none, (.op (.mv (.c .sn)))⟩])
   (.ret))
   (.skip))))
   (.live [0] (.seq (.region [⟨(some 5), none, (.op (.bslice [(.i .i64 0), (.i .u8 0), (.i .u8 0), (.i .u8 0), (.i .u8 0), (.i .i64 0), (.i .u64 0), (.i .u64 0), (.i .u64 0), (.i .u64 0), (.i .u64 0), (.i .u64 0), (.i .u64 0), (.i .u64 0)] 0 []))⟩,
    ⟨(some 6), none, (.op (.mv (.t 0)))⟩,
    ⟨(some 7), none, (.op (.app 14 88 (.t 5) (.t 6)))⟩,
    ⟨(some 2), none, (.op (.mv (.t 7)))⟩])
   (.ret))))),
  []⟩


/- floodgate/book.Right -/

def c23 : IFunc := ⟨1, [.tmp 2],
  .seq (.region [⟨(some 1), none, (.op (.box (.t 0)))⟩,
    ⟨(some 2), none, (.op (.mv (.c (.b false))))⟩])
   (.live [1] (.seq (.seq (.region [⟨(some 3), none, (.op (.faddr 0 (.t 1)))⟩,
    ⟨(some 4), none, (.op (.load none (.t 3)))⟩,
    ⟨(some 5), none, (.op (.bin .int true .lss (.t 4) (.c (.i .u64 1))))⟩,
    ⟨(some 6), none, (.op (.mv (.t 5)))⟩,
    ⟨(some 7), some (6, false), (.op (.faddr 0 (.t 1)))⟩,
    ⟨(some 8), some (6, false), (.op (.load none (.t 7)))⟩,
    ⟨(some 9), some (6, false), (.op (.bin .int true .gtr (.t 8) (.c (.i .u64 281474976710656))))⟩,
    ⟨(some 10), none, (.op (.pick (.t 6) (.c (.b true)) (.t 9)))⟩,
    ⟨(some 11), none, (.op (.mv (.t 10)))⟩,
    ⟨(some 12), some (11, false), (.op (.faddr 1 (.t 1)))⟩,
    ⟨(some 13), some (11, false), (.op (.load none (.t 12)))⟩,
    ⟨(some 14), some (11, false), (.op (.len .slice (.t 13)))⟩,
    ⟨(some 15), some (11, false), (.op (.bin .int true .gtr (.t 14) (.c (.i .i64 8))))⟩,
    ⟨(some 16), none, (.op (.pick (.t 11) (.c (.b true)) (.t 15)))⟩,
    ⟨(some 17), none, (.op (.mv (.t 16)))⟩,
    ⟨(some 18), some (17, false), (.op (.faddr 1 (.t 1)))⟩,
    ⟨(some 19), some (17, false), (.op (.load none (.t 18)))⟩,
    ⟨(some 20), some (17, false), (.call 37 [(.t 19)])⟩,
    ⟨(some 21), some (17, false), (.call 36 [(.t 20)])⟩,
    ⟨(some 22), some (17, false), (.op (.bin .int true .neq (.t 21) (.c (.i .i64 0))))⟩,
    ⟨(some 23), none, (.op (.pick (.t 17) (.c (.b true)) (.t 22)))⟩])
   (.live [1, 23] (.cond (.t 23) (.seq (.region [⟨(some 2), none, (.op (.mv (.c (.b false))))⟩])
   (.ret))
   (.skip))))
   (.live [1] (.seq (.region [⟨(some 24), none, (.op (.faddr 1 (.t 1)))⟩,
    ⟨(some 25), none, (.op (.load none (.t 24)))⟩,
    ⟨(some 26), none, (.call 38 [(.t 25), (.c (.f (.func 39) [] []))])⟩,
    ⟨(some 27), none, (.op (.un .not (.t 26)))⟩,
    ⟨(some 2), none, (.op (.mv (.t 27)))⟩])
   (.ret))))),
  []⟩


/- floodgate/event.Right -/

def c24 : IFunc := ⟨1, [.tmp 2],
  .seq (.region [⟨(some 1), none, (.op (.box (.t 0)))⟩,
    ⟨(some 2), none, (.op (.mv (.c (.b false))))⟩])
   (.live [1] (.seq (.seq (.region [⟨(some 4), none, (.op (.faddr 0 (.t 1)))⟩,
    ⟨(some 5), none, (.op (.load none (.t 4)))⟩])
   (.live [1, 5] (.block 0 (.seq (.region [⟨(some 7), none, (.op (.bin .int true .eql (.t 5) (.c (.i .i64 1))))⟩,
    ⟨(some 6), none, (.op (.mv (.t 7)))⟩])
   (.live [1, 5, 6] (.cond (.t 6) (.seq (.region [⟨(some 8), none, (.op (.faddr 2 (.t 1)))⟩,
    ⟨(some 9), none, (.op (.load none (.t 8)))⟩,
    ⟨(some 10), none, (.op (.len .slice (.t 9)))⟩,
    ⟨(some 11), none, (.op (.faddr 3 (.t 1)))⟩,
    ⟨(some 12), none, (.op (.load none (.t 11)))⟩,
    ⟨(some 13), none, (.op (.len .slice (.t 12)))⟩,
    ⟨(some 14), none, (.op (.bin .int false .add (.t 10) (.t 13)))⟩,
    ⟨(some 15), none, (.op (.bin .int true .gtr (.t 14) (.c (.i .i64 0))))⟩,
    ⟨(some 3), none, (.op (.mv (.t 15)))⟩])
   (.live [1, 3] (.seq (.region [⟨(some 16), none, (.op (.mv (.t 3)))⟩,
    ⟨(some 17), none, (.op (.mv (.t 16)))⟩,
    ⟨(some 18), some (17, true), (.op (.faddr 2 (.t 1)))⟩,
    ⟨(some 19), some (17, true), (.op (.load none (.t 18)))⟩,
    ⟨(some 20), some (17, true), (.call 36 [(.t 19)])⟩,
    ⟨(some 21), some (17, true), (.op (.bin .int true .eql (.t 20) (.c (.i .i64 0))))⟩,
    ⟨(some 22), none, (.op (.pick (.t 17) (.t 21) (.c (.b false))))⟩,
    ⟨(some 23), none, (.op (.mv (.t 22)))⟩,
    ⟨(some 24), some (23, true), (.op (.faddr 3 (.t 1)))⟩,
    ⟨(some 25), some (23, true), (.op (.load none (.t 24)))⟩,
    ⟨(some 26), some (23, true), (.op (.faddr 2 (.t 1)))⟩,
    ⟨(some 27), some (23, true), (.op (.load none (.t 26)))⟩,
    ⟨(some 28), some (23, true), (.call 40 [(.t 25), (.t 27)])⟩,
    ⟨(some 29), none, (.op (.pick (.t 23) (.t 28) (.c (.b false))))⟩,
    ⟨(some 30), none, (.op (.mv (.t 29)))⟩,
    ⟨(some 31), some (30, true), (.op (.load (some 6) (.t 1)))⟩,
    ⟨(some 32), some (30, true), (.op (.faddr 0 (.t 1)))⟩,
    ⟨(some 33), some (30, true), (.op (.load none (.t 32)))⟩,
    ⟨(some 34), some (30, true), (.op (.faddr 2 (.t 1)))⟩,
    ⟨(some 35), some (30, true), (.op (.load none (.t 34)))⟩,
    ⟨(some 36), some (30, true), (.op (.faddr 3 (.t 1)))⟩,
    ⟨(some 37), some (30, true), (.op (.load none (.t 36)))⟩,
    ⟨(some 38), some (30, true), (.op (.build [(.i .i64 0), (.i .i64 0), .sn, .sn, (.i .u64 0), (.i .u64 0)] [(0, 1, (.t 33)), (2, 1, (.t 35)), (3, 1, (.t 37))]))⟩,
    ⟨(some 39), some (30, true), (.call 41 [(.t 31), (.t 38)])⟩,
    ⟨(some 40), none, (.op (.pick (.t 30) (.t 39) (.c (.b false))))⟩,
    ⟨(some 2), none, (.op (.mv (.t 40)))⟩])
   (.ret))))
   (.seq (.region [⟨(some 42), none, (.op (.bin .int true .eql (.t 5) (.c (.i .i64 2))))⟩,
    ⟨(some 41), none, (.op (.mv (.t 42)))⟩])
   (.live [1, 5, 41] (.cond (.t 41) (.seq (.region [⟨(some 43), none, (.op (.faddr 1 (.t 1)))⟩,
    ⟨(some 44), none, (.op (.load none (.t 43)))⟩,
    ⟨(some 45), none, (.call 42 [(.t 44)])⟩,
    ⟨(some 46), none, (.op (.mv (.t 45)))⟩,
    ⟨(some 47), some (46, true), (.op (.faddr 4 (.t 1)))⟩,
    ⟨(some 48), some (46, true), (.op (.load none (.t 47)))⟩,
    ⟨(some 49), some (46, true), (.call 43 [(.t 48)])⟩,
    ⟨(some 50), none, (.op (.pick (.t 46) (.t 49) (.c (.b false))))⟩,
    ⟨(some 51), none, (.op (.mv (.t 50)))⟩,
    ⟨(some 52), some (51, true), (.op (.load (some 6) (.t 1)))⟩,
    ⟨(some 53), some (51, true), (.op (.faddr 0 (.t 1)))⟩,
    ⟨(some 54), some (51, true), (.op (.load none (.t 53)))⟩,
    ⟨(some 55), some (51, true), (.op (.faddr 1 (.t 1)))⟩,
    ⟨(some 56), some (51, true), (.op (.load none (.t 55)))⟩,
    ⟨(some 57), some (51, true), (.op (.faddr 4 (.t 1)))⟩,
    ⟨(some 58), some (51, true), (.op (.load none (.t 57)))⟩,
    ⟨(some 59), some (51, true), (.op (.build [(.i .i64 0), (.i .i64 0), .sn, .sn, (.i .u64 0), (.i .u64 0)] [(0, 1, (.t 54)), (1, 1, (.t 56)), (4, 1, (.t 58))]))⟩,
    ⟨(some 60), some (51, true), (.call 41 [(.t 52), (.t 59)])⟩,
    ⟨(some 61), none, (.op (.pick (.t 51) (.t 60) (.c (.b false))))⟩,
    ⟨(some 2), none, (.op (.mv (.t 61)))⟩])
   (.ret))
   (.seq (.region [⟨(some 63), none, (.op (.bin .int true .eql (.t 5) (.c (.i .i64 3))))⟩,
    ⟨(some 62), none, (.op (.mv (.t 63)))⟩])
   (.live [1, 62] (.cond (.t 62) (.seq (.region [⟨(some 64), none, (.op (.faddr 5 (.t 1)))⟩,
    ⟨(some 65), none, (.op (.load none (.t 64)))⟩,
    ⟨(some 66), none, (.call 43 [(.t 65)])⟩,
    ⟨(some 67), none, (.op (.mv (.t 66)))⟩,
    ⟨(some 68), some (67, true), (.op (.load (some 6) (.t 1)))⟩,
    ⟨(some 69), some (67, true), (.op (.faddr 0 (.t 1)))⟩,
    ⟨(some 70), some (67, true), (.op (.load none (.t 69)))⟩,
    ⟨(some 71), some (67, true), (.op (.faddr 5 (.t 1)))⟩,
    ⟨(some 72), some (67, true), (.op (.load none (.t 71)))⟩,
    ⟨(some 73), some (67, true), (.op (.build [(.i .i64 0), (.i .i64 0), .sn, .sn, (.i .u64 0), (.i .u64 0)] [(0, 1, (.t 70)), (5, 1, (.t 72))]))⟩,
    ⟨(some 74), some (67, true), (.call 41 [(.t 68), (.t 73)])⟩,
    ⟨(some 75), none, (.op (.pick (.t 67) (.t 74) (.c (.b false))))⟩,
    ⟨(some 2), none, (.op (.mv (.t 75)))⟩])
   (.ret))
   (.skip)))))))))))))
   (.live [] (.seq (.region [⟨(some 2), none, (.op (.mv (.c (.b false))))⟩])
   (.ret))))),
  []⟩


/- floodgate/book.commit -/
def c25l0 : ICode :=
  .seq (.region [⟨(some 16), none, (.op (.bin .int false .lss (.t 15) (.t 14)))⟩])
   (.live [13, 3, 14, 15, 0, 16] (.seq (.cond (.t 16) (.skip)
   (.exit 0))
   (.live [13, 3, 14, 15, 0] (.seq (.block 1 (.seq (.region [⟨(some 17), none, (.op (.iaddr none 1 (.t 13) (.t 15)))⟩,
    ⟨(some 18), none, (.op (.load none (.t 17)))⟩,
    ⟨(some 7), none, (.op (.mv (.t 18)))⟩])
   (.live [13, 3, 14, 15, 0, 7] (.seq (.region [⟨(some 19), none, (.op (.mv (.t 0)))⟩,
    ⟨(some 20), none, (.op (.mv (.t 7)))⟩,
    ⟨(some 21), none, (.call 30 [(.t 19), (.t 20)])⟩,
    ⟨(some 8), none, (.op (.mv (.t 21)))⟩])
   (.live [13, 3, 14, 15, 8, 0] (.seq (.seq (.region [⟨(some 22), none, (.op (.mv (.t 8)))⟩,
    ⟨(some 23), none, (.op (.bin .int true .lss (.t 22) (.c (.i .i64 0))))⟩])
   (.live [13, 3, 14, 15, 8, 0, 23] (.cond (.t 23) (.seq (.region [⟨(some 4), none, (.op (.mv (.c .sn)))⟩,
    ⟨(some 5), none, (.op (.mv (.c (.b false))))⟩])
   (.ret))
   (.skip))))
   (.live [13, 3, 14, 15, 8, 0] (.region [⟨(some 24), none, (.op (.mv (.t 0)))⟩,
    ⟨(some 25), none, (.op (.mv (.t 8)))⟩,
    ⟨(some 26), none, (.op (.mv (.t 8)))⟩,
    ⟨(some 27), none, (.op (.bin .int true .add (.t 26) (.c (.i .i64 1))))⟩,
    ⟨(some 28), none, (.call 44 [(.t 24), (.t 25), (.t 27)])⟩,
    ⟨(some 0), none, (.op (.mv (.t 28)))⟩]))))))))
   (.live [13, 3, 14, 0, 15] (.region [⟨(some 29), none, (.op (.bin .int true .add (.t 15) (.c (.i .i64 1))))⟩,
    ⟨(some 15), none, (.op (.mv (.t 29)))⟩]))))))
def c25l1 : ICode :=
  .seq (.region [⟨(some 34), none, (.op (.bin .int false .lss (.t 33) (.t 32)))⟩])
   (.live [0, 31, 32, 33, 34] (.seq (.cond (.t 34) (.skip)
   (.exit 2))
   (.live [0, 31, 32, 33] (.seq (.block 3 (.seq (.region [⟨(some 35), none, (.op (.iaddr none 13 (.t 31) (.t 33)))⟩,
    ⟨(some 36), none, (.op (.load (some 13) (.t 35)))⟩,
    ⟨(some 10), none, (.op (.fresh [(.i .i64 0), (.i .u8 0), (.i .u8 0), (.i .u8 0), (.i .u8 0), (.i .i64 0), (.i .u64 0), (.i .u64 0), (.i .u64 0), (.i .u64 0), (.i .u64 0), (.i .u64 0), (.i .u64 0)]))⟩,
    ⟨none, none, (.op (.store 13 (.t 10) (.t 36)))⟩])
   (.live [0, 31, 32, 33, 10] (.seq (.seq (.region [⟨(some 37), none, (.op (.mv (.t 0)))⟩,
    ⟨(some 38), none, (.op (.faddr 0 (.t 10)))⟩,
    ⟨(some 39), none, (.op (.load none (.t 38)))⟩,
    ⟨(some 40), none, (.call 30 [(.t 37), (.t 39)])⟩,
    ⟨(some 11), none, (.op (.mv (.t 40)))⟩])
   (.live [0, 31, 32, 33, 10, 11] (.seq (.region [⟨(some 41), none, (.op (.mv (.t 11)))⟩,
    ⟨(some 42), none, (.op (.bin .int true .geq (.t 41) (.c (.i .i64 0))))⟩])
   (.live [0, 31, 32, 33, 10, 11, 42] (.cond (.t 42) (.seq (.region [⟨(some 43), none, (.op (.mv (.t 0)))⟩,
    ⟨(some 44), none, (.op (.mv (.t 11)))⟩,
    ⟨(some 45), none, (.op (.load (some 13) (.t 10)))⟩,
    ⟨(some 46), none, (.op (.iaddr none 14 (.t 43) (.t 44)))⟩,
    ⟨(some 47), none, (.op (.faddr 0 (.t 46)))⟩,
    ⟨none, none, (.op (.store 13 (.t 47) (.t 45)))⟩])
   (.exit 3))
   (.skip))))))
   (.live [31, 32, 33, 10, 0] (.region [⟨(some 48), none, (.op (.mv (.t 0)))⟩,
    ⟨(some 49), none, (.op (.load (some 13) (.t 10)))⟩,
    ⟨(some 50), none, (.op (.build [(.i .i64 0), (.i .u8 0), (.i .u8 0), (.i .u8 0), (.i .u8 0), (.i .i64 0), (.i .u64 0), (.i .u64 0), (.i .u64 0), (.i .u64 0), (.i .u64 0), (.i .u64 0), (.i .u64 0), (.i .u64 0)] [(0, 13, (.t 49))]))⟩,
    ⟨(some 51), none, (.op (.bslice [(.i .i64 0), (.i .u8 0), (.i .u8 0), (.i .u8 0), (.i .u8 0), (.i .i64 0), (.i .u64 0), (.i .u64 0), (.i .u64 0), (.i .u64 0), (.i .u64 0), (.i .u64 0), (.i .u64 0), (.i .u64 0)] 1 [(0, 14, (.t 50))]))⟩,
    ⟨(some 52), none, (.op (.app 14 88 (.t 48) (.t 51)))⟩,
    ⟨(some 0), none, (.op (.mv (.t 52)))⟩]))))))
   (.live [0, 31, 32, 33] (.region [⟨(some 53), none, (.op (.bin .int true .add (.t 33) (.c (.i .i64 1))))⟩,
    ⟨(some 33), none, (.op (.mv (.t 53)))⟩]))))))
def c25 : IFunc := ⟨2, [.tmp 4, .tmp 5],
  .seq (.region [⟨(some 3), none, (.op (.box (.t 1)))⟩,
    ⟨(some 4), none, (.op (.mv (.c .sn)))⟩,
    ⟨(some 5), none, (.op (.mv (.c (.b false))))⟩])
   (.live [3, 0] (.seq (.seq (.region [⟨(some 12), none, (.op (.faddr 3 (.t 3)))⟩,
    ⟨(some 13), none, (.op (.load none (.t 12)))⟩,
    ⟨(some 14), none, (.op (.len .slice (.t 13)))⟩,
    ⟨(some 15), none, (.op (.mv (.c (.i .i64 0))))⟩])
   (.live [13, 3, 14, 15, 0] (.block 0 (.loop [13, 3, 14, 15, 0] c25l0))))
   (.live [0, 3] (.seq (.seq (.region [⟨(some 30), none, (.op (.faddr 2 (.t 3)))⟩,
    ⟨(some 31), none, (.op (.load none (.t 30)))⟩,
    ⟨(some 32), none, (.op (.len .slice (.t 31)))⟩,
    ⟨(some 33), none, (.op (.mv (.c (.i .i64 0))))⟩])
   (.live [0, 31, 32, 33] (.block 2 (.loop [0, 31, 32, 33] c25l1))))
   (.live [0] (.seq (.region [⟨(some 54), none, (.op (.mv (.t 0)))⟩,
    ⟨(some 55), none, (.call 45 [(.t 54), (.c (.f (.func 46) [] []))])⟩])
   (.live [0] (.seq (.region [⟨(some 56), none, (.op (.mv (.t 0)))⟩,
    ⟨(some 4), none, (.op (.mv (.t 56)))⟩,
    ⟨(some 5), none, (.op (.mv (.c (.b true))))⟩])
   (.ret))))))))),
  []⟩


/- floodgate/book.lease -/
def c26d0 : List Stage :=
  [⟨[(⟨(some 11), none, (.op (.mv (.t 6)))⟩, 0), (⟨(some 12), none, (.op (.bin .int true .lss (.t 11) (.c (.i .i64 0))))⟩, 0), (⟨(some 13), none, (.op (.mv (.t 12)))⟩, 0), (⟨(some 14), some (13, false), (.op (.faddr 4 (.t 3)))⟩, 0), (⟨(some 15), some (13, false), (.op (.load none (.t 14)))⟩, 0), (⟨(some 16), some (13, false), (.op (.mv (.t 0)))⟩, 0), (⟨(some 17), some (13, false), (.op (.mv (.t 6)))⟩, 0), (⟨(some 18), some (13, false), (.op (.iaddr none 14 (.t 16) (.t 17)))⟩, 0), (⟨(some 19), some (13, false), (.op (.faddr 13 (.t 18)))⟩, 0), (⟨(some 20), some (13, false), (.op (.load none (.t 19)))⟩, 0), (⟨(some 21), some (13, false), (.op (.bin .int false .lss (.t 15) (.t 20)))⟩, 0), (⟨(some 22), none, (.op (.pick (.t 13) (.c (.b true)) (.t 21)))⟩, 0), (⟨(some 23), none, (.op (.mv (.t 22)))⟩, 0), (⟨(some 24), some (23, false), (.op (.faddr 4 (.t 3)))⟩, 0), (⟨(some 25), some (23, false), (.op (.load none (.t 24)))⟩, 0), (⟨(some 26), some (23, false), (.op (.mv (.t 0)))⟩, 0), (⟨(some 27), some (23, false), (.op (.mv (.t 6)))⟩, 0), (⟨(some 28), some (23, false), (.op (.iaddr none 14 (.t 26) (.t 27)))⟩, 0), (⟨(some 29), some (23, false), (.op (.faddr 0 (.t 28)))⟩, 0), (⟨(some 30), some (23, false), (.op (.faddr 10 (.t 29)))⟩, 0), (⟨(some 31), some (23, false), (.op (.load none (.t 30)))⟩, 0), (⟨(some 32), some (23, false), (.op (.bin .int false .gtr (.t 25) (.t 31)))⟩, 0), (⟨(some 33), none, (.op (.pick (.t 23) (.c (.b true)) (.t 32)))⟩, 0)], none, none⟩]
def c26d0w : List (ROp × Bool) :=
  [(⟨(some 11), none, (.op (.mv (.t 6)))⟩, false), (⟨(some 12), none, (.op (.bin .int true .lss (.t 11) (.c (.i .i64 0))))⟩, false), (⟨(some 13), none, (.op (.mv (.t 12)))⟩, false), (⟨(some 14), some (13, false), (.op (.faddr 4 (.t 3)))⟩, false), (⟨(some 15), some (13, false), (.op (.load none (.t 14)))⟩, false), (⟨(some 16), some (13, false), (.op (.mv (.t 0)))⟩, false), (⟨(some 17), some (13, false), (.op (.mv (.t 6)))⟩, false), (⟨(some 18), some (13, false), (.op (.iaddr none 14 (.t 16) (.t 17)))⟩, false), (⟨(some 19), some (13, false), (.op (.faddr 13 (.t 18)))⟩, false), (⟨(some 20), some (13, false), (.op (.load none (.t 19)))⟩, false), (⟨(some 21), some (13, false), (.op (.bin .int false .lss (.t 15) (.t 20)))⟩, false), (⟨(some 22), none, (.op (.pick (.t 13) (.c (.b true)) (.t 21)))⟩, false), (⟨(some 23), none, (.op (.mv (.t 22)))⟩, false), (⟨(some 24), some (23, false), (.op (.faddr 4 (.t 3)))⟩, false), (⟨(some 25), some (23, false), (.op (.load none (.t 24)))⟩, false), (⟨(some 26), some (23, false), (.op (.mv (.t 0)))⟩, false), (⟨(some 27), some (23, false), (.op (.mv (.t 6)))⟩, false), (⟨(some 28), some (23, false), (.op (.iaddr none 14 (.t 26) (.t 27)))⟩, false), (⟨(some 29), some (23, false), (.op (.faddr 0 (.t 28)))⟩, false), (⟨(some 30), some (23, false), (.op (.faddr 10 (.t 29)))⟩, false), (⟨(some 31), some (23, false), (.op (.load none (.t 30)))⟩, false), (⟨(some 32), some (23, false), (.op (.bin .int false .gtr (.t 25) (.t 31)))⟩, false), (⟨(some 33), none, (.op (.pick (.t 23) (.c (.b true)) (.t 32)))⟩, false)]
theorem c26d0_w {P : Program} {O : Orc} {S0 : Mem} {rd : Bool} {e : Env} {S : Mem} {d : List Nat} {Q : Kont} : W P O S0 rd (.draw c26d0 []) e S d Q = wFl O c26d0w e S (normK Q d) := W_draw' (by kernel_rfl) (by kernel_rfl)
attribute [go_sem] c26d0_w c26d0w
def c26 : IFunc := ⟨2, [.tmp 4, .tmp 5],
  .seq (.region [⟨(some 3), none, (.op (.box (.t 1)))⟩,
    ⟨(some 4), none, (.op (.mv (.c .sn)))⟩,
    ⟨(some 5), none, (.op (.mv (.c (.b false))))⟩])
   (.live [0, 3] (.seq (.region [⟨(some 7), none, (.op (.mv (.t 0)))⟩,
    ⟨(some 8), none, (.op (.faddr 1 (.t 3)))⟩,
    ⟨(some 9), none, (.op (.load none (.t 8)))⟩,
    ⟨(some 10), none, (.call 30 [(.t 7), (.t 9)])⟩,
    ⟨(some 6), none, (.op (.mv (.t 10)))⟩])
   (.live [0, 3, 6] (.seq (.seq (.draw c26d0 [])
   (.live [0, 3, 6, 33] (.cond (.t 33) (.seq (.region [⟨(some 4), none, (.op (.mv (.c .sn)))⟩,
    ⟨(some 5), none, (.op (.mv (.c (.b false))))⟩])
   (.ret))
   (.skip))))
   (.live [0, 3, 6] (.seq (.region [⟨(some 34), none, (.op (.mv (.t 0)))⟩,
    ⟨(some 35), none, (.op (.mv (.t 6)))⟩,
    ⟨(some 36), none, (.op (.faddr 4 (.t 3)))⟩,
    ⟨(some 37), none, (.op (.load none (.t 36)))⟩,
    ⟨(some 38), none, (.op (.iaddr none 14 (.t 34) (.t 35)))⟩,
    ⟨(some 39), none, (.op (.faddr 13 (.t 38)))⟩,
    ⟨none, none, (.op (.store 1 (.t 39) (.t 37)))⟩])
   (.live [0] (.seq (.region [⟨(some 40), none, (.op (.mv (.t 0)))⟩,
    ⟨(some 4), none, (.op (.mv (.t 40)))⟩,
    ⟨(some 5), none, (.op (.mv (.c (.b true))))⟩])
   (.ret))))))))),
  []⟩


/- maps.Keys[map[int]floodgate/txn.change,int,floodgate/txn.change]$1 -/
def c29l0 : ICode :=
  .seq (.region [⟨(some 6), none, (.op (.bad))⟩,
    ⟨(some 7), none, (.op (.ext (.t 6) 0))⟩])
   (.live [0, 7] (.seq (.cond (.t 7) (.skip)
   (.exit 0))
   (.live [0] (.block 1 (.seq (.region [⟨(some 8), none, (.op (.bad))⟩,
    ⟨(some 9), none, (.op (.ext (.t 8) 0))⟩,
    ⟨(some 3), none, (.op (.mv (.t 9)))⟩])
   (.live [0, 3] (.seq (.region [⟨(some 10), none, (.op (.mv (.t 0)))⟩,
    ⟨(some 11), none, (.op (.mv (.t 3)))⟩,
    ⟨(some 12), none, (.callv (.t 10) [(.t 11)])⟩,
    ⟨(some 13), none, (.op (.un .not (.t 12)))⟩])
   (.live [0, 13] (.cond (.t 13) (.ret)
   (.skip))))))))))
def c29 : IFunc := ⟨2, [],
  .seq (.region [⟨(some 4), none, (.op (.load none (.t 1)))⟩,
    ⟨(some 5), none, (.op (.bad))⟩])
   (.live [0] (.block 0 (.loop [0] c29l0))),
  []⟩


/- floodgate/book.place -/

def c30 : IFunc := ⟨2, [.tmp 4],
  .seq (.region [⟨(some 3), none, (.op (.box (.t 1)))⟩,
    ⟨(some 4), none, (.op (.mv (.c (.i .i64 0))))⟩])
   (.live [3, 0] (.seq (.region [⟨(some 5), none, (.op (.mv (.t 0)))⟩,
    ⟨(some 6), none, (.op (.mkf (.func 52) [] [(.t 3)]))⟩,
    ⟨(some 7), none, (.call 51 [(.t 5), (.t 6)])⟩,
    ⟨(some 4), none, (.op (.mv (.t 7)))⟩])
   (.ret))),
  []⟩


/- floodgate/policy.Right$1 -/

def c31 : IFunc := ⟨1, [.tmp 2],
  .seq (.region [⟨(some 2), none, (.op (.mv (.c (.b false))))⟩])
   (.live [0] (.seq (.region [⟨(some 3), none, (.op (.mv (.t 0)))⟩,
    ⟨(some 4), none, (.op (.bin .int true .gtr (.t 3) (.c (.i .u64 281474976710656))))⟩,
    ⟨(some 2), none, (.op (.mv (.t 4)))⟩])
   (.ret))),
  []⟩


/- floodgate/policy.Right$2 -/

def c32 : IFunc := ⟨1, [.tmp 2],
  .seq (.region [⟨(some 2), none, (.op (.mv (.c (.b false))))⟩])
   (.live [0] (.seq (.region [⟨(some 3), none, (.op (.mv (.t 0)))⟩,
    ⟨(some 4), none, (.op (.bin .int true .lss (.t 3) (.c (.i .u64 1500))))⟩,
    ⟨(some 2), none, (.op (.mv (.t 4)))⟩])
   (.ret))),
  []⟩


/- floodgate/addr.Right -/
def c33d0 : List Stage :=
  [⟨[(⟨(some 3), none, (.op (.faddr 4 (.t 1)))⟩, 0), (⟨(some 4), none, (.op (.load none (.t 3)))⟩, 0), (⟨(some 5), none, (.op (.bin .int true .geq (.t 4) (.c (.i .i64 0))))⟩, 0), (⟨(some 6), none, (.op (.mv (.t 5)))⟩, 0), (⟨(some 7), some (6, true), (.op (.faddr 4 (.t 1)))⟩, 0), (⟨(some 8), some (6, true), (.op (.load none (.t 7)))⟩, 0), (⟨(some 9), some (6, true), (.op (.bin .int true .leq (.t 8) (.c (.i .i64 32))))⟩, 0), (⟨(some 10), none, (.op (.pick (.t 6) (.t 9) (.c (.b false))))⟩, 0), (⟨(some 11), none, (.op (.mv (.t 10)))⟩, 0), (⟨(some 12), some (11, true), (.op (.faddr 0 (.t 1)))⟩, 0), (⟨(some 13), some (11, true), (.op (.load (some 4) (.t 12)))⟩, 0), (⟨(some 14), some (11, true), (.op (.faddr 4 (.t 1)))⟩, 0), (⟨(some 15), some (11, true), (.op (.load none (.t 14)))⟩, 0), (⟨(some 17), some (11, true), (.op (.load (some 5) (.t 1)))⟩, 1)], none, some ⟨(some 16), some (11, true), (.call 53 [(.t 13), (.t 15)])⟩⟩,
    ⟨[(⟨(some 18), some (11, true), (.op (.eqag false [.int, .int, .int, .int, .int] (.t 16) (.t 17)))⟩, 1), (⟨(some 19), none, (.op (.pick (.t 11) (.t 18) (.c (.b false))))⟩, 1), (⟨(some 2), none, (.op (.mv (.t 19)))⟩, 1)], none, none⟩]
def c33d0w : List (ROp × Bool) :=
  [(⟨(some 3), none, (.op (.faddr 4 (.t 1)))⟩, false), (⟨(some 4), none, (.op (.load none (.t 3)))⟩, false), (⟨(some 5), none, (.op (.bin .int true .geq (.t 4) (.c (.i .i64 0))))⟩, false), (⟨(some 6), none, (.op (.mv (.t 5)))⟩, false), (⟨(some 7), some (6, true), (.op (.faddr 4 (.t 1)))⟩, false), (⟨(some 8), some (6, true), (.op (.load none (.t 7)))⟩, false), (⟨(some 9), some (6, true), (.op (.bin .int true .leq (.t 8) (.c (.i .i64 32))))⟩, false), (⟨(some 10), none, (.op (.pick (.t 6) (.t 9) (.c (.b false))))⟩, false), (⟨(some 11), none, (.op (.mv (.t 10)))⟩, false), (⟨(some 12), some (11, true), (.op (.faddr 0 (.t 1)))⟩, false), (⟨(some 13), some (11, true), (.op (.load (some 4) (.t 12)))⟩, false), (⟨(some 14), some (11, true), (.op (.faddr 4 (.t 1)))⟩, false), (⟨(some 15), some (11, true), (.op (.load none (.t 14)))⟩, false), (⟨(some 17), some (11, true), (.op (.load (some 5) (.t 1)))⟩, false), (⟨(some 16), some (11, true), (.call 53 [(.t 13), (.t 15)])⟩, true), (⟨(some 18), some (11, true), (.op (.eqag false [.int, .int, .int, .int, .int] (.t 16) (.t 17)))⟩, false), (⟨(some 19), none, (.op (.pick (.t 11) (.t 18) (.c (.b false))))⟩, false), (⟨(some 2), none, (.op (.mv (.t 19)))⟩, false)]
theorem c33d0_w {P : Program} {O : Orc} {S0 : Mem} {rd : Bool} {e : Env} {S : Mem} {d : List Nat} {Q : Kont} : W P O S0 rd (.draw c33d0 []) e S d Q = wFl O c33d0w e S (normK Q d) := W_draw' (by kernel_rfl) (by kernel_rfl)
attribute [go_sem] c33d0_w c33d0w
def c33 : IFunc := ⟨1, [.tmp 2],
  .seq (.region [⟨(some 1), none, (.op (.box (.t 0)))⟩,
    ⟨(some 2), none, (.op (.mv (.c (.b false))))⟩])
   (.live [1] (.seq (.draw c33d0 [])
   (.ret))),
  []⟩


/- slices.ContainsFunc[[]uint64,uint64] -/

def c34 : IFunc := ⟨2, [.tmp 4],
  .seq (.region [⟨(some 4), none, (.op (.mv (.c (.b false))))⟩])
   (.live [1, 0] (.seq (.region [⟨(some 5), none, (.op (.mv (.t 0)))⟩,
    ⟨(some 6), none, (.op (.mv (.t 1)))⟩,
    ⟨(some 7), none, (.call 54 [(.t 5), (.t 6)])⟩,
    ⟨(some 8), none, (.op (.bin .int true .geq (.t 7) (.c (.i .i64 0))))⟩,
    ⟨(some 4), none, (.op (.mv (.t 8)))⟩])
   (.ret))),
  []⟩


/- floodgate/floodgateref11.Right -/
def c35l0 : ICode :=
  .seq (.region [⟨(some 35), none, (.op (.bin .int true .lss (.t 34) (.c (.i .i64 7))))⟩])
   (.live [33, 1, 34, 35] (.seq (.cond (.t 35) (.skip)
   (.exit 0))
   (.live [33, 1, 34] (.seq (.block 1 (.seq (.region [⟨(some 36), none, (.op (.ixa 7 1 none (.t 33) (.t 34)))⟩,
    ⟨(some 4), none, (.op (.mv (.t 36)))⟩])
   (.live [33, 1, 34, 4] (.seq (.region [⟨(some 37), none, (.op (.mv (.t 4)))⟩,
    ⟨(some 38), none, (.op (.bin .int true .gtr (.t 37) (.c (.i .u64 281474976710656))))⟩])
   (.live [33, 1, 34, 38] (.cond (.t 38) (.seq (.region [⟨(some 2), none, (.op (.mv (.c (.b false))))⟩])
   (.ret))
   (.skip)))))))
   (.live [33, 1, 34] (.region [⟨(some 39), none, (.op (.bin .int true .add (.t 34) (.c (.i .i64 1))))⟩,
    ⟨(some 34), none, (.op (.mv (.t 39)))⟩]))))))
def c35 : IFunc := ⟨1, [.tmp 2],
  .seq (.region [⟨(some 1), none, (.op (.box (.t 0)))⟩,
    ⟨(some 2), none, (.op (.mv (.c (.b false))))⟩])
   (.live [1] (.seq (.seq (.region [⟨(some 5), none, (.op (.faddr 0 (.t 1)))⟩,
    ⟨(some 6), none, (.op (.load none (.t 5)))⟩,
    ⟨(some 7), none, (.op (.bin .int true .lss (.t 6) (.c (.i .i64 1))))⟩,
    ⟨(some 8), none, (.op (.mv (.t 7)))⟩,
    ⟨(some 9), some (8, false), (.op (.faddr 0 (.t 1)))⟩,
    ⟨(some 10), some (8, false), (.op (.load none (.t 9)))⟩,
    ⟨(some 11), some (8, false), (.op (.bin .int true .gtr (.t 10) (.c (.i .i64 255))))⟩,
    ⟨(some 12), none, (.op (.pick (.t 8) (.c (.b true)) (.t 11)))⟩,
    ⟨(some 13), none, (.op (.mv (.t 12)))⟩,
    ⟨(some 14), some (13, false), (.op (.faddr 1 (.t 1)))⟩,
    ⟨(some 15), some (13, false), (.op (.load (some 5) (.t 14)))⟩,
    ⟨(some 16), some (13, false), (.call 55 [(.t 15)])⟩,
    ⟨(some 17), some (13, false), (.op (.un .not (.t 16)))⟩,
    ⟨(some 18), none, (.op (.pick (.t 13) (.c (.b true)) (.t 17)))⟩])
   (.live [1, 18] (.cond (.t 18) (.seq (.region [⟨(some 2), none, (.op (.mv (.c (.b false))))⟩])
   (.ret))
   (.skip))))
   (.live [1] (.seq (.seq (.region [⟨(some 19), none, (.op (.faddr 6 (.t 1)))⟩,
    ⟨(some 20), none, (.op (.load none (.t 19)))⟩,
    ⟨(some 21), none, (.op (.faddr 7 (.t 1)))⟩,
    ⟨(some 22), none, (.op (.load none (.t 21)))⟩,
    ⟨(some 23), none, (.op (.faddr 8 (.t 1)))⟩,
    ⟨(some 24), none, (.op (.load none (.t 23)))⟩,
    ⟨(some 25), none, (.op (.faddr 9 (.t 1)))⟩,
    ⟨(some 26), none, (.op (.load none (.t 25)))⟩,
    ⟨(some 27), none, (.op (.faddr 10 (.t 1)))⟩,
    ⟨(some 28), none, (.op (.load none (.t 27)))⟩,
    ⟨(some 29), none, (.op (.faddr 11 (.t 1)))⟩,
    ⟨(some 30), none, (.op (.load none (.t 29)))⟩,
    ⟨(some 31), none, (.op (.faddr 12 (.t 1)))⟩,
    ⟨(some 32), none, (.op (.load none (.t 31)))⟩,
    ⟨(some 33), none, (.op (.build [(.i .u64 0), (.i .u64 0), (.i .u64 0), (.i .u64 0), (.i .u64 0), (.i .u64 0), (.i .u64 0)] [(0, 1, (.t 20)), (1, 1, (.t 22)), (2, 1, (.t 24)), (3, 1, (.t 26)), (4, 1, (.t 28)), (5, 1, (.t 30)), (6, 1, (.t 32))]))⟩,
    ⟨(some 34), none, (.op (.mv (.c (.i .i64 0))))⟩])
   (.live [33, 1, 34] (.block 0 (.loop [33, 1, 34] c35l0))))
   (.live [1] (.seq (.region [⟨(some 40), none, (.op (.faddr 11 (.t 1)))⟩,
    ⟨(some 41), none, (.op (.load none (.t 40)))⟩,
    ⟨(some 42), none, (.op (.bin .int true .geq (.t 41) (.c (.i .u64 1500))))⟩,
    ⟨(some 43), none, (.op (.mv (.t 42)))⟩,
    ⟨(some 44), some (43, true), (.op (.faddr 12 (.t 1)))⟩,
    ⟨(some 45), some (43, true), (.op (.load none (.t 44)))⟩,
    ⟨(some 46), some (43, true), (.op (.bin .int true .geq (.t 45) (.c (.i .u64 1500))))⟩,
    ⟨(some 47), none, (.op (.pick (.t 43) (.t 46) (.c (.b false))))⟩,
    ⟨(some 2), none, (.op (.mv (.t 47)))⟩])
   (.ret))))))),
  []⟩


/- floodgate/policy.All -/
def c36d0 : List Stage :=
  [⟨[(⟨(some 17), none, (.op (.mv (.t 3)))⟩, 0), (⟨(some 18), none, (.op (.faddr 1 (.t 5)))⟩, 0), (⟨(some 19), none, (.op (.load (some 5) (.t 18)))⟩, 0), (⟨(some 20), none, (.op (.mlook true [.int, .int, .int, .int, .int] (.i .i64 0) false (.t 17) (.t 19)))⟩, 1), (⟨(some 21), none, (.op (.bin .int true .add (.t 20) (.c (.i .i64 1))))⟩, 1)], none, some ⟨(some 22), none, (.op (.mentry true [.int, .int, .int, .int, .int] (.i .i64 0) (.t 17) (.t 19)))⟩⟩,
    ⟨[(⟨(some 23), none, (.op (.ext (.t 22) 1))⟩, 1)], none, some ⟨none, none, (.op (.mstore (.t 17) (.t 23) (.t 21)))⟩⟩,
    ⟨[], none, none⟩]
theorem c36d0_e {P : Program} {O : Orc} {S0 : Mem} {rd : Bool} {e : Env} {S : Mem} {d : List Nat} {Q : Kont} : W P O S0 rd (.draw c36d0 []) e S d Q = drawK (evDraw O c36d0 [] e S) (normK Q d) := W_drawE (by kernel_rfl)
attribute [go_sem] c36d0_e
def c36d1 : List Stage :=
  [⟨[(⟨(some 24), none, (.op (.load (some 13) (.t 5)))⟩, 0)], none, some ⟨(some 25), none, (.call 19 [(.t 24)])⟩⟩,
    ⟨[(⟨(some 26), none, (.op (.un .not (.t 25)))⟩, 1), (⟨(some 27), none, (.op (.mv (.t 26)))⟩, 1), (⟨(some 28), some (27, false), (.op (.mv (.t 3)))⟩, 1), (⟨(some 29), some (27, false), (.op (.faddr 1 (.t 5)))⟩, 1), (⟨(some 30), some (27, false), (.op (.load (some 5) (.t 29)))⟩, 1), (⟨(some 31), some (27, false), (.op (.mlook true [.int, .int, .int, .int, .int] (.i .i64 0) false (.t 28) (.t 30)))⟩, 1), (⟨(some 32), some (27, false), (.op (.bin .int true .gtr (.t 31) (.c (.i .i64 1))))⟩, 1), (⟨(some 33), none, (.op (.pick (.t 27) (.c (.b true)) (.t 32)))⟩, 1), (⟨(some 34), none, (.op (.mv (.t 33)))⟩, 1), (⟨(some 35), some (34, false), (.op (.mv (.t 4)))⟩, 1), (⟨(some 36), some (34, false), (.op (.bin .int true .gtr (.t 35) (.c (.i .i64 0))))⟩, 1), (⟨(some 37), some (34, false), (.op (.mv (.t 36)))⟩, 1), (⟨(some 38), some (37, true), (.op (.faddr 0 (.t 5)))⟩, 1), (⟨(some 39), some (37, true), (.op (.load none (.t 38)))⟩, 1), (⟨(some 40), some (37, true), (.op (.mv (.t 0)))⟩, 1), (⟨(some 41), some (37, true), (.op (.mv (.t 4)))⟩, 1), (⟨(some 42), some (37, true), (.op (.bin .int true .sub (.t 41) (.c (.i .i64 1))))⟩, 1), (⟨(some 43), some (37, true), (.op (.iaddr none 13 (.t 40) (.t 42)))⟩, 1), (⟨(some 44), some (37, true), (.op (.faddr 0 (.t 43)))⟩, 1), (⟨(some 45), some (37, true), (.op (.load none (.t 44)))⟩, 1), (⟨(some 46), some (37, true), (.op (.bin .int false .leq (.t 39) (.t 45)))⟩, 1), (⟨(some 47), some (34, false), (.op (.pick (.t 37) (.t 46) (.c (.b false))))⟩, 1), (⟨(some 48), none, (.op (.pick (.t 34) (.c (.b true)) (.t 47)))⟩, 1)], none, none⟩]
def c36d1w : List (ROp × Bool) :=
  [(⟨(some 24), none, (.op (.load (some 13) (.t 5)))⟩, false), (⟨(some 25), none, (.call 19 [(.t 24)])⟩, false), (⟨(some 26), none, (.op (.un .not (.t 25)))⟩, false), (⟨(some 27), none, (.op (.mv (.t 26)))⟩, false), (⟨(some 28), some (27, false), (.op (.mv (.t 3)))⟩, false), (⟨(some 29), some (27, false), (.op (.faddr 1 (.t 5)))⟩, false), (⟨(some 30), some (27, false), (.op (.load (some 5) (.t 29)))⟩, false), (⟨(some 31), some (27, false), (.op (.mlook true [.int, .int, .int, .int, .int] (.i .i64 0) false (.t 28) (.t 30)))⟩, false), (⟨(some 32), some (27, false), (.op (.bin .int true .gtr (.t 31) (.c (.i .i64 1))))⟩, false), (⟨(some 33), none, (.op (.pick (.t 27) (.c (.b true)) (.t 32)))⟩, false), (⟨(some 34), none, (.op (.mv (.t 33)))⟩, false), (⟨(some 35), some (34, false), (.op (.mv (.t 4)))⟩, false), (⟨(some 36), some (34, false), (.op (.bin .int true .gtr (.t 35) (.c (.i .i64 0))))⟩, false), (⟨(some 37), some (34, false), (.op (.mv (.t 36)))⟩, false), (⟨(some 38), some (37, true), (.op (.faddr 0 (.t 5)))⟩, false), (⟨(some 39), some (37, true), (.op (.load none (.t 38)))⟩, false), (⟨(some 40), some (37, true), (.op (.mv (.t 0)))⟩, false), (⟨(some 41), some (37, true), (.op (.mv (.t 4)))⟩, false), (⟨(some 42), some (37, true), (.op (.bin .int true .sub (.t 41) (.c (.i .i64 1))))⟩, false), (⟨(some 43), some (37, true), (.op (.iaddr none 13 (.t 40) (.t 42)))⟩, false), (⟨(some 44), some (37, true), (.op (.faddr 0 (.t 43)))⟩, false), (⟨(some 45), some (37, true), (.op (.load none (.t 44)))⟩, false), (⟨(some 46), some (37, true), (.op (.bin .int false .leq (.t 39) (.t 45)))⟩, false), (⟨(some 47), some (34, false), (.op (.pick (.t 37) (.t 46) (.c (.b false))))⟩, false), (⟨(some 48), none, (.op (.pick (.t 34) (.c (.b true)) (.t 47)))⟩, false)]
theorem c36d1_w {P : Program} {O : Orc} {S0 : Mem} {rd : Bool} {e : Env} {S : Mem} {d : List Nat} {Q : Kont} : W P O S0 rd (.draw c36d1 []) e S d Q = wFl O c36d1w e S (normK Q d) := W_draw' (by kernel_rfl) (by kernel_rfl)
attribute [go_sem] c36d1_w c36d1w
def c36l2 : ICode :=
  .seq (.region [⟨(some 13), none, (.op (.bin .int false .lss (.t 12) (.t 11)))⟩])
   (.live [3, 0, 10, 11, 12, 13] (.seq (.cond (.t 13) (.skip)
   (.exit 0))
   (.live [3, 0, 10, 11, 12] (.seq (.block 1 (.seq (.region [⟨(some 14), none, (.op (.mv (.t 12)))⟩,
    ⟨(some 15), none, (.op (.iaddr none 13 (.t 10) (.t 12)))⟩,
    ⟨(some 16), none, (.op (.load (some 13) (.t 15)))⟩,
    ⟨(some 5), none, (.op (.fresh [(.i .i64 0), (.i .u8 0), (.i .u8 0), (.i .u8 0), (.i .u8 0), (.i .i64 0), (.i .u64 0), (.i .u64 0), (.i .u64 0), (.i .u64 0), (.i .u64 0), (.i .u64 0), (.i .u64 0)]))⟩,
    ⟨(some 4), none, (.op (.mv (.t 14)))⟩,
    ⟨none, none, (.op (.store 13 (.t 5) (.t 16)))⟩])
   (.live [3, 0, 10, 11, 12, 5, 4] (.seq (.draw c36d0 [])
   (.live [3, 0, 10, 11, 12, 5, 4] (.seq (.draw c36d1 [])
   (.live [3, 0, 10, 11, 12, 48] (.cond (.t 48) (.seq (.region [⟨(some 2), none, (.op (.mv (.c (.i .i64 111))))⟩])
   (.ret))
   (.skip)))))))))
   (.live [3, 0, 10, 11, 12] (.region [⟨(some 49), none, (.op (.bin .int true .add (.t 12) (.c (.i .i64 1))))⟩,
    ⟨(some 12), none, (.op (.mv (.t 49)))⟩]))))))
def c36 : IFunc := ⟨1, [.tmp 2],
  .seq (.region [⟨(some 2), none, (.op (.mv (.c (.i .i64 0))))⟩])
   (.live [0] (.seq (.seq (.region [⟨(some 6), none, (.op (.mv (.t 0)))⟩,
    ⟨(some 7), none, (.op (.len .slice (.t 6)))⟩,
    ⟨(some 8), none, (.op (.bin .int true .gtr (.t 7) (.c (.i .i64 8))))⟩])
   (.live [0, 8] (.cond (.t 8) (.seq (.region [⟨(some 2), none, (.op (.mv (.c (.i .i64 111))))⟩])
   (.ret))
   (.skip))))
   (.live [0] (.seq (.region [⟨(some 9), none, (.op (.mkmap none))⟩,
    ⟨(some 3), none, (.op (.mv (.t 9)))⟩])
   (.live [3, 0] (.seq (.seq (.region [⟨(some 10), none, (.op (.mv (.t 0)))⟩,
    ⟨(some 11), none, (.op (.len .slice (.t 10)))⟩,
    ⟨(some 12), none, (.op (.mv (.c (.i .i64 0))))⟩])
   (.live [3, 0, 10, 11, 12] (.block 0 (.loop [3, 0, 10, 11, 12] c36l2))))
   (.live [] (.seq (.region [⟨(some 2), none, (.op (.mv (.c (.i .i64 0))))⟩])
   (.ret))))))))),
  []⟩


/- floodgate/book.policies -/
def c37l0 : ICode :=
  .seq (.region [⟨(some 9), none, (.op (.bin .int false .lss (.t 8) (.t 7)))⟩])
   (.live [6, 7, 8, 3, 9] (.seq (.cond (.t 9) (.skip)
   (.exit 0))
   (.live [6, 7, 8, 3] (.seq (.block 1 (.seq (.region [⟨(some 10), none, (.op (.iaddr none 14 (.t 6) (.t 8)))⟩,
    ⟨(some 11), none, (.op (.load (some 14) (.t 10)))⟩,
    ⟨(some 5), none, (.op (.fresh [(.i .i64 0), (.i .u8 0), (.i .u8 0), (.i .u8 0), (.i .u8 0), (.i .i64 0), (.i .u64 0), (.i .u64 0), (.i .u64 0), (.i .u64 0), (.i .u64 0), (.i .u64 0), (.i .u64 0), (.i .u64 0)]))⟩,
    ⟨none, none, (.op (.store 14 (.t 5) (.t 11)))⟩])
   (.live [6, 7, 8, 5, 3] (.region [⟨(some 12), none, (.op (.mv (.t 3)))⟩,
    ⟨(some 13), none, (.op (.faddr 0 (.t 5)))⟩,
    ⟨(some 14), none, (.op (.load (some 13) (.t 13)))⟩,
    ⟨(some 15), none, (.op (.bslice [(.i .i64 0), (.i .u8 0), (.i .u8 0), (.i .u8 0), (.i .u8 0), (.i .i64 0), (.i .u64 0), (.i .u64 0), (.i .u64 0), (.i .u64 0), (.i .u64 0), (.i .u64 0), (.i .u64 0)] 1 [(0, 13, (.t 14))]))⟩,
    ⟨(some 16), none, (.op (.app 13 80 (.t 12) (.t 15)))⟩,
    ⟨(some 3), none, (.op (.mv (.t 16)))⟩]))))
   (.live [6, 7, 3, 8] (.region [⟨(some 17), none, (.op (.bin .int true .add (.t 8) (.c (.i .i64 1))))⟩,
    ⟨(some 8), none, (.op (.mv (.t 17)))⟩]))))))
def c37 : IFunc := ⟨1, [.tmp 2],
  .seq (.region [⟨(some 2), none, (.op (.mv (.c .sn)))⟩])
   (.live [0] (.seq (.region [⟨(some 3), none, (.op (.mv (.c .sn)))⟩])
   (.live [3, 0] (.seq (.seq (.region [⟨(some 6), none, (.op (.mv (.t 0)))⟩,
    ⟨(some 7), none, (.op (.len .slice (.t 6)))⟩,
    ⟨(some 8), none, (.op (.mv (.c (.i .i64 0))))⟩])
   (.live [6, 7, 8, 3] (.block 0 (.loop [6, 7, 8, 3] c37l0))))
   (.live [3] (.seq (.region [⟨(some 18), none, (.op (.mv (.t 3)))⟩,
    ⟨(some 2), none, (.op (.mv (.t 18)))⟩])
   (.ret))))))),
  []⟩


/- slices.ContainsFunc[[]floodgate/api.Entry,floodgate/api.Entry] -/

def c38 : IFunc := ⟨2, [.tmp 4],
  .seq (.region [⟨(some 4), none, (.op (.mv (.c (.b false))))⟩])
   (.live [1, 0] (.seq (.region [⟨(some 5), none, (.op (.mv (.t 0)))⟩,
    ⟨(some 6), none, (.op (.mv (.t 1)))⟩,
    ⟨(some 7), none, (.call 51 [(.t 5), (.t 6)])⟩,
    ⟨(some 8), none, (.op (.bin .int true .geq (.t 7) (.c (.i .i64 0))))⟩,
    ⟨(some 4), none, (.op (.mv (.t 8)))⟩])
   (.ret))),
  []⟩


/- floodgate/book.Right$1 -/

def c39 : IFunc := ⟨1, [.tmp 2],
  .seq (.region [⟨(some 1), none, (.op (.box (.t 0)))⟩,
    ⟨(some 2), none, (.op (.mv (.c (.b false))))⟩])
   (.live [1] (.seq (.region [⟨(some 3), none, (.op (.faddr 13 (.t 1)))⟩,
    ⟨(some 4), none, (.op (.load none (.t 3)))⟩,
    ⟨(some 5), none, (.op (.bin .int true .gtr (.t 4) (.c (.i .u64 281474976710656))))⟩,
    ⟨(some 2), none, (.op (.mv (.t 5)))⟩])
   (.ret))),
  []⟩


/- floodgate/event.drops -/
def c40l0 : ICode :=
  .seq (.region [⟨(some 13), none, (.op (.bin .int false .lss (.t 12) (.t 11)))⟩])
   (.live [2, 10, 1, 11, 12, 13] (.seq (.cond (.t 13) (.skip)
   (.exit 0))
   (.live [2, 10, 1, 11, 12] (.seq (.block 1 (.seq (.region [⟨(some 14), none, (.op (.mv (.t 12)))⟩,
    ⟨(some 15), none, (.op (.iaddr none 1 (.t 10) (.t 12)))⟩,
    ⟨(some 16), none, (.op (.load none (.t 15)))⟩,
    ⟨(some 5), none, (.op (.mv (.t 14)))⟩,
    ⟨(some 6), none, (.op (.mv (.t 16)))⟩])
   (.live [2, 10, 1, 11, 12, 5, 6] (.seq (.region [⟨(some 17), none, (.op (.mv (.t 6)))⟩,
    ⟨(some 18), none, (.call 42 [(.t 17)])⟩,
    ⟨(some 19), none, (.op (.un .not (.t 18)))⟩,
    ⟨(some 20), none, (.op (.mv (.t 19)))⟩,
    ⟨(some 21), some (20, false), (.op (.mv (.t 5)))⟩,
    ⟨(some 22), some (20, false), (.op (.bin .int true .gtr (.t 21) (.c (.i .i64 0))))⟩,
    ⟨(some 23), some (20, false), (.op (.mv (.t 22)))⟩,
    ⟨(some 24), some (23, true), (.op (.mv (.t 6)))⟩,
    ⟨(some 25), some (23, true), (.op (.load none (.t 2)))⟩,
    ⟨(some 26), some (23, true), (.op (.mv (.t 5)))⟩,
    ⟨(some 27), some (23, true), (.op (.bin .int true .sub (.t 26) (.c (.i .i64 1))))⟩,
    ⟨(some 28), some (23, true), (.op (.iaddr none 1 (.t 25) (.t 27)))⟩,
    ⟨(some 29), some (23, true), (.op (.load none (.t 28)))⟩,
    ⟨(some 30), some (23, true), (.op (.bin .int false .leq (.t 24) (.t 29)))⟩,
    ⟨(some 31), some (20, false), (.op (.pick (.t 23) (.t 30) (.c (.b false))))⟩,
    ⟨(some 32), none, (.op (.pick (.t 20) (.c (.b true)) (.t 31)))⟩])
   (.live [2, 10, 1, 11, 12, 32] (.cond (.t 32) (.seq (.region [⟨(some 4), none, (.op (.mv (.c (.b false))))⟩])
   (.ret))
   (.skip)))))))
   (.live [2, 10, 1, 11, 12] (.region [⟨(some 33), none, (.op (.bin .int true .add (.t 12) (.c (.i .i64 1))))⟩,
    ⟨(some 12), none, (.op (.mv (.t 33)))⟩]))))))
def c40 : IFunc := ⟨2, [.tmp 4],
  .seq (.region [⟨(some 2), none, (.op (.box (.t 0)))⟩,
    ⟨(some 4), none, (.op (.mv (.c (.b false))))⟩])
   (.live [2, 1] (.seq (.seq (.region [⟨(some 7), none, (.op (.load none (.t 2)))⟩,
    ⟨(some 8), none, (.op (.len .slice (.t 7)))⟩,
    ⟨(some 9), none, (.op (.bin .int true .gtr (.t 8) (.c (.i .i64 8))))⟩])
   (.live [2, 1, 9] (.cond (.t 9) (.seq (.region [⟨(some 4), none, (.op (.mv (.c (.b false))))⟩])
   (.ret))
   (.skip))))
   (.live [2, 1] (.seq (.seq (.region [⟨(some 10), none, (.op (.load none (.t 2)))⟩,
    ⟨(some 11), none, (.op (.len .slice (.t 10)))⟩,
    ⟨(some 12), none, (.op (.mv (.c (.i .i64 0))))⟩])
   (.live [2, 10, 1, 11, 12] (.block 0 (.loop [2, 10, 1, 11, 12] c40l0))))
   (.live [2, 1] (.seq (.region [⟨(some 34), none, (.op (.mv (.t 1)))⟩,
    ⟨(some 35), none, (.op (.mkf (.func 57) [] [(.t 2)]))⟩,
    ⟨(some 36), none, (.call 56 [(.t 34), (.t 35)])⟩,
    ⟨(some 37), none, (.op (.un .not (.t 36)))⟩,
    ⟨(some 4), none, (.op (.mv (.t 37)))⟩])
   (.ret))))))),
  []⟩


/- floodgate/event.Same -/

def c41 : IFunc := ⟨2, [.tmp 4],
  .seq (.region [⟨(some 2), none, (.op (.box (.t 0)))⟩,
    ⟨(some 3), none, (.op (.box (.t 1)))⟩,
    ⟨(some 4), none, (.op (.mv (.c (.b false))))⟩])
   (.live [3, 2] (.seq (.region [⟨(some 5), none, (.op (.faddr 0 (.t 2)))⟩,
    ⟨(some 6), none, (.op (.load none (.t 5)))⟩,
    ⟨(some 7), none, (.op (.faddr 0 (.t 3)))⟩,
    ⟨(some 8), none, (.op (.load none (.t 7)))⟩,
    ⟨(some 9), none, (.op (.bin .int false .eql (.t 6) (.t 8)))⟩,
    ⟨(some 10), none, (.op (.mv (.t 9)))⟩,
    ⟨(some 11), some (10, true), (.op (.faddr 1 (.t 2)))⟩,
    ⟨(some 12), some (10, true), (.op (.load none (.t 11)))⟩,
    ⟨(some 13), some (10, true), (.op (.faddr 1 (.t 3)))⟩,
    ⟨(some 14), some (10, true), (.op (.load none (.t 13)))⟩,
    ⟨(some 15), some (10, true), (.op (.bin .int false .eql (.t 12) (.t 14)))⟩,
    ⟨(some 16), none, (.op (.pick (.t 10) (.t 15) (.c (.b false))))⟩,
    ⟨(some 17), none, (.op (.mv (.t 16)))⟩,
    ⟨(some 18), some (17, true), (.op (.faddr 4 (.t 2)))⟩,
    ⟨(some 19), some (17, true), (.op (.load none (.t 18)))⟩,
    ⟨(some 20), some (17, true), (.op (.faddr 4 (.t 3)))⟩,
    ⟨(some 21), some (17, true), (.op (.load none (.t 20)))⟩,
    ⟨(some 22), some (17, true), (.op (.bin .int false .eql (.t 19) (.t 21)))⟩,
    ⟨(some 23), none, (.op (.pick (.t 17) (.t 22) (.c (.b false))))⟩,
    ⟨(some 24), none, (.op (.mv (.t 23)))⟩,
    ⟨(some 25), some (24, true), (.op (.faddr 5 (.t 2)))⟩,
    ⟨(some 26), some (24, true), (.op (.load none (.t 25)))⟩,
    ⟨(some 27), some (24, true), (.op (.faddr 5 (.t 3)))⟩,
    ⟨(some 28), some (24, true), (.op (.load none (.t 27)))⟩,
    ⟨(some 29), some (24, true), (.op (.bin .int false .eql (.t 26) (.t 28)))⟩,
    ⟨(some 30), none, (.op (.pick (.t 24) (.t 29) (.c (.b false))))⟩,
    ⟨(some 31), none, (.op (.mv (.t 30)))⟩,
    ⟨(some 32), some (31, true), (.op (.faddr 2 (.t 2)))⟩,
    ⟨(some 33), some (31, true), (.op (.load none (.t 32)))⟩,
    ⟨(some 34), some (31, true), (.op (.faddr 2 (.t 3)))⟩,
    ⟨(some 35), some (31, true), (.op (.load none (.t 34)))⟩,
    ⟨(some 36), some (31, true), (.call 59 [(.t 33), (.t 35)])⟩,
    ⟨(some 37), none, (.op (.pick (.t 31) (.t 36) (.c (.b false))))⟩,
    ⟨(some 38), none, (.op (.mv (.t 37)))⟩,
    ⟨(some 39), some (38, true), (.op (.faddr 3 (.t 2)))⟩,
    ⟨(some 40), some (38, true), (.op (.load none (.t 39)))⟩,
    ⟨(some 41), some (38, true), (.op (.faddr 3 (.t 3)))⟩,
    ⟨(some 42), some (38, true), (.op (.load none (.t 41)))⟩,
    ⟨(some 43), some (38, true), (.call 60 [(.t 40), (.t 42)])⟩,
    ⟨(some 44), none, (.op (.pick (.t 38) (.t 43) (.c (.b false))))⟩,
    ⟨(some 4), none, (.op (.mv (.t 44)))⟩])
   (.ret))),
  []⟩


/- floodgate/event.sub -/

def c42 : IFunc := ⟨1, [.tmp 2],
  .seq (.region [⟨(some 2), none, (.op (.mv (.c (.b false))))⟩])
   (.live [0] (.seq (.region [⟨(some 3), none, (.op (.mv (.t 0)))⟩,
    ⟨(some 4), none, (.op (.bin .int true .geq (.t 3) (.c (.i .i64 1))))⟩,
    ⟨(some 5), none, (.op (.mv (.t 4)))⟩,
    ⟨(some 6), some (5, true), (.op (.mv (.t 0)))⟩,
    ⟨(some 7), some (5, true), (.op (.bin .int true .leq (.t 6) (.c (.i .i64 255))))⟩,
    ⟨(some 8), none, (.op (.pick (.t 5) (.t 7) (.c (.b false))))⟩,
    ⟨(some 2), none, (.op (.mv (.t 8)))⟩])
   (.ret))),
  []⟩


/- floodgate/event.value -/

def c43 : IFunc := ⟨1, [.tmp 2],
  .seq (.region [⟨(some 2), none, (.op (.mv (.c (.b false))))⟩])
   (.live [0] (.seq (.region [⟨(some 3), none, (.op (.mv (.t 0)))⟩,
    ⟨(some 4), none, (.op (.bin .int true .geq (.t 3) (.c (.i .u64 1))))⟩,
    ⟨(some 5), none, (.op (.mv (.t 4)))⟩,
    ⟨(some 6), some (5, true), (.op (.mv (.t 0)))⟩,
    ⟨(some 7), some (5, true), (.op (.bin .int true .leq (.t 6) (.c (.i .u64 281474976710656))))⟩,
    ⟨(some 8), none, (.op (.pick (.t 5) (.t 7) (.c (.b false))))⟩,
    ⟨(some 2), none, (.op (.mv (.t 8)))⟩])
   (.ret))),
  []⟩


/- slices.Delete[[]floodgate/api.Entry,floodgate/api.Entry] -/
def c44d0 : List Stage :=
  [⟨[(⟨(some 20), none, (.op (.mv (.t 0)))⟩, 0), (⟨(some 21), none, (.op (.mv (.t 1)))⟩, 0), (⟨(some 22), none, (.op (.slice 14 (.t 20) none (some (.t 21)) none))⟩, 0), (⟨(some 23), none, (.op (.mv (.t 0)))⟩, 0), (⟨(some 24), none, (.op (.mv (.t 2)))⟩, 0), (⟨(some 25), none, (.op (.slice 14 (.t 23) (some (.t 24)) none none))⟩, 0)], none, some ⟨(some 26), none, (.op (.app 14 88 (.t 22) (.t 25)))⟩⟩,
    ⟨[(⟨(some 0), none, (.op (.mv (.t 26)))⟩, 1)], none, none⟩]
def c44d0w : List (ROp × Bool) :=
  [(⟨(some 20), none, (.op (.mv (.t 0)))⟩, false), (⟨(some 21), none, (.op (.mv (.t 1)))⟩, false), (⟨(some 22), none, (.op (.slice 14 (.t 20) none (some (.t 21)) none))⟩, false), (⟨(some 23), none, (.op (.mv (.t 0)))⟩, false), (⟨(some 24), none, (.op (.mv (.t 2)))⟩, false), (⟨(some 25), none, (.op (.slice 14 (.t 23) (some (.t 24)) none none))⟩, false), (⟨(some 26), none, (.op (.app 14 88 (.t 22) (.t 25)))⟩, false), (⟨(some 0), none, (.op (.mv (.t 26)))⟩, false)]
theorem c44d0_w {P : Program} {O : Orc} {S0 : Mem} {rd : Bool} {e : Env} {S : Mem} {d : List Nat} {Q : Kont} : W P O S0 rd (.draw c44d0 [0]) e S d Q = wFl O c44d0w e S (normK Q d) := W_draw' (by kernel_rfl) (by kernel_rfl)
attribute [go_sem] c44d0_w c44d0w
def c44 : IFunc := ⟨3, [.tmp 6],
  .seq (.region [⟨(some 6), none, (.op (.mv (.c .sn)))⟩])
   (.live [0, 1, 2] (.seq (.region [⟨(some 8), none, (.op (.mv (.t 0)))⟩,
    ⟨(some 9), none, (.op (.mv (.t 1)))⟩,
    ⟨(some 10), none, (.op (.mv (.t 2)))⟩,
    ⟨(some 11), none, (.op (.mv (.t 0)))⟩,
    ⟨(some 12), none, (.op (.len .slice (.t 11)))⟩,
    ⟨(some 13), none, (.op (.slice 14 (.t 8) (some (.t 9)) (some (.t 10)) (some (.t 12))))⟩])
   (.live [0, 1, 2] (.seq (.seq (.region [⟨(some 14), none, (.op (.mv (.t 1)))⟩,
    ⟨(some 15), none, (.op (.mv (.t 2)))⟩,
    ⟨(some 16), none, (.op (.bin .int false .eql (.t 14) (.t 15)))⟩])
   (.live [0, 1, 2, 16] (.cond (.t 16) (.seq (.region [⟨(some 17), none, (.op (.mv (.t 0)))⟩,
    ⟨(some 6), none, (.op (.mv (.t 17)))⟩])
   (.ret))
   (.skip))))
   (.live [1, 2, 0] (.seq (.region [⟨(some 18), none, (.op (.mv (.t 0)))⟩,
    ⟨(some 19), none, (.op (.len .slice (.t 18)))⟩,
    ⟨(some 7), none, (.op (.mv (.t 19)))⟩])
   (.live [7, 1, 2, 0] (.seq (.draw c44d0 [0])
   (.live [0, 7] (.seq (.region [⟨(some 27), none, (.op (.mv (.t 0)))⟩,
    ⟨(some 28), none, (.op (.mv (.t 0)))⟩,
    ⟨(some 29), none, (.op (.len .slice (.t 28)))⟩,
    ⟨(some 30), none, (.op (.mv (.t 7)))⟩,
    ⟨(some 31), none, (.op (.slice 14 (.t 27) (some (.t 29)) (some (.t 30)) none))⟩,
    ⟨none, none, (.op (.clear [(.i .i64 0), (.i .u8 0), (.i .u8 0), (.i .u8 0), (.i .u8 0), (.i .i64 0), (.i .u64 0), (.i .u64 0), (.i .u64 0), (.i .u64 0), (.i .u64 0), (.i .u64 0), (.i .u64 0), (.i .u64 0)] (.t 31)))⟩])
   (.live [0] (.seq (.region [⟨(some 32), none, (.op (.mv (.t 0)))⟩,
    ⟨(some 6), none, (.op (.mv (.t 32)))⟩])
   (.ret))))))))))))),
  []⟩


/- floodgate/book.commit$1 -/

def c46 : IFunc := ⟨2, [.tmp 4],
  .seq (.region [⟨(some 2), none, (.op (.box (.t 0)))⟩,
    ⟨(some 3), none, (.op (.box (.t 1)))⟩,
    ⟨(some 4), none, (.op (.mv (.c (.i .i64 0))))⟩])
   (.live [3, 2] (.seq (.region [⟨(some 5), none, (.op (.faddr 0 (.t 2)))⟩,
    ⟨(some 6), none, (.op (.faddr 0 (.t 5)))⟩,
    ⟨(some 7), none, (.op (.load none (.t 6)))⟩,
    ⟨(some 8), none, (.op (.faddr 0 (.t 3)))⟩,
    ⟨(some 9), none, (.op (.faddr 0 (.t 8)))⟩,
    ⟨(some 10), none, (.op (.load none (.t 9)))⟩,
    ⟨(some 11), none, (.call 47 [(.t 7), (.t 10)])⟩,
    ⟨(some 4), none, (.op (.mv (.t 11)))⟩])
   (.ret))),
  []⟩


/- cmp.Compare[int] -/

def c47 : IFunc := ⟨2, [.tmp 4],
  .seq (.region [⟨(some 4), none, (.op (.mv (.c (.i .i64 0))))⟩])
   (.live [1, 0] (.seq (.region [⟨(some 7), none, (.op (.mv (.t 0)))⟩,
    ⟨(some 8), none, (.call 62 [(.t 7)])⟩,
    ⟨(some 5), none, (.op (.mv (.t 8)))⟩])
   (.live [1, 0, 5] (.seq (.region [⟨(some 9), none, (.op (.mv (.t 1)))⟩,
    ⟨(some 10), none, (.call 62 [(.t 9)])⟩,
    ⟨(some 6), none, (.op (.mv (.t 10)))⟩])
   (.live [6, 1, 0, 5] (.seq (.seq (.region [⟨(some 11), none, (.op (.mv (.t 5)))⟩])
   (.live [6, 1, 0, 11] (.cond (.t 11) (.seq (.seq (.region [⟨(some 12), none, (.op (.mv (.t 6)))⟩])
   (.live [12] (.cond (.t 12) (.seq (.region [⟨(some 4), none, (.op (.mv (.c (.i .i64 0))))⟩])
   (.ret))
   (.skip))))
   (.live [] (.seq (.region [⟨(some 4), none, (.op (.mv (.c (.i .i64 (-1)))))⟩])
   (.ret))))
   (.skip))))
   (.live [1, 0, 6] (.seq (.seq (.region [⟨(some 13), none, (.op (.mv (.t 6)))⟩])
   (.live [1, 0, 13] (.cond (.t 13) (.seq (.region [⟨(some 4), none, (.op (.mv (.c (.i .i64 1))))⟩])
   (.ret))
   (.skip))))
   (.live [1, 0] (.seq (.seq (.region [⟨(some 14), none, (.op (.mv (.t 0)))⟩,
    ⟨(some 15), none, (.op (.mv (.t 1)))⟩,
    ⟨(some 16), none, (.op (.bin .int false .lss (.t 14) (.t 15)))⟩])
   (.live [1, 0, 16] (.cond (.t 16) (.seq (.region [⟨(some 4), none, (.op (.mv (.c (.i .i64 (-1)))))⟩])
   (.ret))
   (.skip))))
   (.live [1, 0] (.seq (.seq (.region [⟨(some 17), none, (.op (.mv (.t 0)))⟩,
    ⟨(some 18), none, (.op (.mv (.t 1)))⟩,
    ⟨(some 19), none, (.op (.bin .int false .gtr (.t 17) (.t 18)))⟩])
   (.live [19] (.cond (.t 19) (.seq (.region [⟨(some 4), none, (.op (.mv (.c (.i .i64 1))))⟩])
   (.ret))
   (.skip))))
   (.live [] (.seq (.region [⟨(some 4), none, (.op (.mv (.c (.i .i64 0))))⟩])
   (.ret))))))))))))))),
  []⟩


/- slices.IndexFunc[[]floodgate/api.Entry,floodgate/api.Entry] -/
def c51l0 : ICode :=
  .seq (.region [⟨(some 9), none, (.op (.bin .int false .lss (.t 8) (.t 7)))⟩])
   (.live [0, 1, 7, 8, 9] (.seq (.cond (.t 9) (.skip)
   (.exit 0))
   (.live [0, 1, 7, 8] (.seq (.block 1 (.seq (.region [⟨(some 10), none, (.op (.mv (.t 8)))⟩,
    ⟨(some 5), none, (.op (.mv (.t 10)))⟩])
   (.live [5, 0, 1, 7, 8] (.seq (.region [⟨(some 11), none, (.op (.mv (.t 1)))⟩,
    ⟨(some 12), none, (.op (.mv (.t 0)))⟩,
    ⟨(some 13), none, (.op (.mv (.t 5)))⟩,
    ⟨(some 14), none, (.op (.iaddr none 14 (.t 12) (.t 13)))⟩,
    ⟨(some 15), none, (.op (.load (some 14) (.t 14)))⟩,
    ⟨(some 16), none, (.callv (.t 11) [(.t 15)])⟩])
   (.live [5, 0, 1, 7, 8, 16] (.cond (.t 16) (.seq (.region [⟨(some 17), none, (.op (.mv (.t 5)))⟩,
    ⟨(some 4), none, (.op (.mv (.t 17)))⟩])
   (.ret))
   (.skip)))))))
   (.live [0, 1, 7, 8] (.region [⟨(some 18), none, (.op (.bin .int true .add (.t 8) (.c (.i .i64 1))))⟩,
    ⟨(some 8), none, (.op (.mv (.t 18)))⟩]))))))
def c51 : IFunc := ⟨2, [.tmp 4],
  .seq (.region [⟨(some 4), none, (.op (.mv (.c (.i .i64 0))))⟩])
   (.live [0, 1] (.seq (.seq (.region [⟨(some 6), none, (.op (.mv (.t 0)))⟩,
    ⟨(some 7), none, (.op (.len .slice (.t 6)))⟩,
    ⟨(some 8), none, (.op (.mv (.c (.i .i64 0))))⟩])
   (.live [0, 1, 7, 8] (.block 0 (.loop [0, 1, 7, 8] c51l0))))
   (.live [] (.seq (.region [⟨(some 4), none, (.op (.mv (.c (.i .i64 (-1)))))⟩])
   (.ret))))),
  []⟩


/- floodgate/book.place$1 -/

def c52 : IFunc := ⟨2, [.tmp 3],
  .seq (.region [⟨(some 2), none, (.op (.box (.t 0)))⟩,
    ⟨(some 3), none, (.op (.mv (.c (.b false))))⟩])
   (.live [1, 2] (.seq (.region [⟨(some 4), none, (.op (.faddr 0 (.t 2)))⟩,
    ⟨(some 5), none, (.op (.faddr 0 (.t 4)))⟩,
    ⟨(some 6), none, (.op (.load none (.t 5)))⟩,
    ⟨(some 7), none, (.op (.load none (.t 1)))⟩,
    ⟨(some 8), none, (.op (.bin .int false .eql (.t 6) (.t 7)))⟩,
    ⟨(some 3), none, (.op (.mv (.t 8)))⟩])
   (.ret))),
  []⟩


/- floodgate/addr.Cut -/

def c53 : IFunc := ⟨2, [.cell 4 (some 5)],
  .seq (.region [⟨(some 2), none, (.op (.box (.t 0)))⟩,
    ⟨(some 4), none, (.op (.fresh [(.i .u8 0), (.i .u8 0), (.i .u8 0), (.i .u8 0), (.i .i64 0)]))⟩])
   (.live [4, 1, 2] (.seq (.region [⟨(some 5), none, (.op (.load (some 4) (.t 2)))⟩,
    ⟨(some 6), none, (.call 75 [(.t 5)])⟩,
    ⟨(some 7), none, (.op (.mv (.t 1)))⟩,
    ⟨(some 8), none, (.call 76 [(.t 7)])⟩,
    ⟨(some 9), none, (.op (.bin .int false .and (.t 6) (.t 8)))⟩,
    ⟨(some 10), none, (.call 74 [(.t 9)])⟩,
    ⟨(some 11), none, (.op (.mv (.t 1)))⟩,
    ⟨(some 12), none, (.op (.mm false [(.t 11), (.c (.i .i64 32))]))⟩,
    ⟨(some 13), none, (.op (.mm true [(.c (.i .i64 0)), (.t 12)]))⟩,
    ⟨(some 14), none, (.op (.build [(.i .u8 0), (.i .u8 0), (.i .u8 0), (.i .u8 0), (.i .i64 0)] [(0, 4, (.t 10)), (4, 1, (.t 13))]))⟩,
    ⟨none, none, (.op (.store 5 (.t 4) (.t 14)))⟩])
   (.ret))),
  []⟩


/- slices.IndexFunc[[]uint64,uint64] -/
def c54l0 : ICode :=
  .seq (.region [⟨(some 9), none, (.op (.bin .int false .lss (.t 8) (.t 7)))⟩])
   (.live [0, 1, 7, 8, 9] (.seq (.cond (.t 9) (.skip)
   (.exit 0))
   (.live [0, 1, 7, 8] (.seq (.block 1 (.seq (.region [⟨(some 10), none, (.op (.mv (.t 8)))⟩,
    ⟨(some 5), none, (.op (.mv (.t 10)))⟩])
   (.live [5, 0, 1, 7, 8] (.seq (.region [⟨(some 11), none, (.op (.mv (.t 1)))⟩,
    ⟨(some 12), none, (.op (.mv (.t 0)))⟩,
    ⟨(some 13), none, (.op (.mv (.t 5)))⟩,
    ⟨(some 14), none, (.op (.iaddr none 1 (.t 12) (.t 13)))⟩,
    ⟨(some 15), none, (.op (.load none (.t 14)))⟩,
    ⟨(some 16), none, (.callv (.t 11) [(.t 15)])⟩])
   (.live [5, 0, 1, 7, 8, 16] (.cond (.t 16) (.seq (.region [⟨(some 17), none, (.op (.mv (.t 5)))⟩,
    ⟨(some 4), none, (.op (.mv (.t 17)))⟩])
   (.ret))
   (.skip)))))))
   (.live [0, 1, 7, 8] (.region [⟨(some 18), none, (.op (.bin .int true .add (.t 8) (.c (.i .i64 1))))⟩,
    ⟨(some 8), none, (.op (.mv (.t 18)))⟩]))))))
def c54 : IFunc := ⟨2, [.tmp 4],
  .seq (.region [⟨(some 4), none, (.op (.mv (.c (.i .i64 0))))⟩])
   (.live [0, 1] (.seq (.seq (.region [⟨(some 6), none, (.op (.mv (.t 0)))⟩,
    ⟨(some 7), none, (.op (.len .slice (.t 6)))⟩,
    ⟨(some 8), none, (.op (.mv (.c (.i .i64 0))))⟩])
   (.live [0, 1, 7, 8] (.block 0 (.loop [0, 1, 7, 8] c54l0))))
   (.live [] (.seq (.region [⟨(some 4), none, (.op (.mv (.c (.i .i64 (-1)))))⟩])
   (.ret))))),
  []⟩


/- floodgate/floodgateref04.Right -/
def c55d0 : List Stage :=
  [⟨[(⟨(some 3), none, (.op (.faddr 4 (.t 1)))⟩, 0), (⟨(some 4), none, (.op (.load none (.t 3)))⟩, 0), (⟨(some 6), none, (.op (.faddr 4 (.t 1)))⟩, 1), (⟨(some 7), none, (.op (.load none (.t 6)))⟩, 1)], none, some ⟨(some 5), none, (.call 77 [(.t 4)])⟩⟩,
    ⟨[(⟨(some 8), none, (.op (.bin .int false .eql (.t 5) (.t 7)))⟩, 1), (⟨(some 9), none, (.op (.mv (.t 8)))⟩, 1), (⟨(some 10), some (9, true), (.op (.faddr 0 (.t 1)))⟩, 1), (⟨(some 11), some (9, true), (.op (.load (some 4) (.t 10)))⟩, 1), (⟨(some 12), some (9, true), (.op (.faddr 4 (.t 1)))⟩, 1), (⟨(some 13), some (9, true), (.op (.load none (.t 12)))⟩, 1), (⟨(some 15), some (9, true), (.op (.load (some 5) (.t 1)))⟩, 2)], none, some ⟨(some 14), some (9, true), (.call 78 [(.t 11), (.t 13)])⟩⟩,
    ⟨[(⟨(some 16), some (9, true), (.op (.eqag false [.int, .int, .int, .int, .int] (.t 14) (.t 15)))⟩, 2), (⟨(some 17), none, (.op (.pick (.t 9) (.t 16) (.c (.b false))))⟩, 2), (⟨(some 2), none, (.op (.mv (.t 17)))⟩, 2)], none, none⟩]
def c55d0w : List (ROp × Bool) :=
  [(⟨(some 3), none, (.op (.faddr 4 (.t 1)))⟩, false), (⟨(some 4), none, (.op (.load none (.t 3)))⟩, false), (⟨(some 6), none, (.op (.faddr 4 (.t 1)))⟩, false), (⟨(some 7), none, (.op (.load none (.t 6)))⟩, false), (⟨(some 5), none, (.call 77 [(.t 4)])⟩, true), (⟨(some 8), none, (.op (.bin .int false .eql (.t 5) (.t 7)))⟩, false), (⟨(some 9), none, (.op (.mv (.t 8)))⟩, false), (⟨(some 10), some (9, true), (.op (.faddr 0 (.t 1)))⟩, false), (⟨(some 11), some (9, true), (.op (.load (some 4) (.t 10)))⟩, false), (⟨(some 12), some (9, true), (.op (.faddr 4 (.t 1)))⟩, false), (⟨(some 13), some (9, true), (.op (.load none (.t 12)))⟩, false), (⟨(some 15), some (9, true), (.op (.load (some 5) (.t 1)))⟩, false), (⟨(some 14), some (9, true), (.call 78 [(.t 11), (.t 13)])⟩, true), (⟨(some 16), some (9, true), (.op (.eqag false [.int, .int, .int, .int, .int] (.t 14) (.t 15)))⟩, false), (⟨(some 17), none, (.op (.pick (.t 9) (.t 16) (.c (.b false))))⟩, false), (⟨(some 2), none, (.op (.mv (.t 17)))⟩, false)]
theorem c55d0_w {P : Program} {O : Orc} {S0 : Mem} {rd : Bool} {e : Env} {S : Mem} {d : List Nat} {Q : Kont} : W P O S0 rd (.draw c55d0 []) e S d Q = wFl O c55d0w e S (normK Q d) := W_draw' (by kernel_rfl) (by kernel_rfl)
attribute [go_sem] c55d0_w c55d0w
def c55 : IFunc := ⟨1, [.tmp 2],
  .seq (.region [⟨(some 1), none, (.op (.box (.t 0)))⟩,
    ⟨(some 2), none, (.op (.mv (.c (.b false))))⟩])
   (.live [1] (.seq (.draw c55d0 [])
   (.ret))),
  []⟩


/- slices.ContainsFunc[[]floodgate/api.Policy,floodgate/api.Policy] -/

def c56 : IFunc := ⟨2, [.tmp 4],
  .seq (.region [⟨(some 4), none, (.op (.mv (.c (.b false))))⟩])
   (.live [1, 0] (.seq (.region [⟨(some 5), none, (.op (.mv (.t 0)))⟩,
    ⟨(some 6), none, (.op (.mv (.t 1)))⟩,
    ⟨(some 7), none, (.call 79 [(.t 5), (.t 6)])⟩,
    ⟨(some 8), none, (.op (.bin .int true .geq (.t 7) (.c (.i .i64 0))))⟩,
    ⟨(some 4), none, (.op (.mv (.t 8)))⟩])
   (.ret))),
  []⟩


/- floodgate/event.drops$1 -/

def c57 : IFunc := ⟨2, [.tmp 3],
  .seq (.region [⟨(some 2), none, (.op (.box (.t 0)))⟩,
    ⟨(some 3), none, (.op (.mv (.c (.b false))))⟩])
   (.live [2, 1] (.seq (.region [⟨(some 4), none, (.op (.load none (.t 1)))⟩,
    ⟨(some 5), none, (.op (.faddr 0 (.t 2)))⟩,
    ⟨(some 6), none, (.op (.load none (.t 5)))⟩,
    ⟨(some 7), none, (.call 58 [(.t 4), (.t 6)])⟩,
    ⟨(some 3), none, (.op (.mv (.t 7)))⟩])
   (.ret))),
  []⟩


/- slices.Contains[[]int,int] -/

def c58 : IFunc := ⟨2, [.tmp 4],
  .seq (.region [⟨(some 4), none, (.op (.mv (.c (.b false))))⟩])
   (.live [1, 0] (.seq (.region [⟨(some 5), none, (.op (.mv (.t 0)))⟩,
    ⟨(some 6), none, (.op (.mv (.t 1)))⟩,
    ⟨(some 7), none, (.call 80 [(.t 5), (.t 6)])⟩,
    ⟨(some 8), none, (.op (.bin .int true .geq (.t 7) (.c (.i .i64 0))))⟩,
    ⟨(some 4), none, (.op (.mv (.t 8)))⟩])
   (.ret))),
  []⟩


/- slices.Equal[[]floodgate/api.Policy,floodgate/api.Policy] -/
def c59d0 : List Stage :=
  [⟨[(⟨(some 16), none, (.op (.mv (.t 0)))⟩, 0), (⟨(some 17), none, (.op (.mv (.t 5)))⟩, 0), (⟨(some 18), none, (.op (.iaddr none 13 (.t 16) (.t 17)))⟩, 0), (⟨(some 19), none, (.op (.load (some 13) (.t 18)))⟩, 0), (⟨(some 20), none, (.op (.mv (.t 1)))⟩, 0), (⟨(some 21), none, (.op (.mv (.t 5)))⟩, 0), (⟨(some 22), none, (.op (.iaddr none 13 (.t 20) (.t 21)))⟩, 0), (⟨(some 23), none, (.op (.load (some 13) (.t 22)))⟩, 0), (⟨(some 24), none, (.op (.eqag true [.int, .int, .int, .int, .int, .int, .int, .int, .int, .int, .int, .int, .int] (.t 19) (.t 23)))⟩, 0)], none, none⟩]
def c59d0w : List (ROp × Bool) :=
  [(⟨(some 16), none, (.op (.mv (.t 0)))⟩, false), (⟨(some 17), none, (.op (.mv (.t 5)))⟩, false), (⟨(some 18), none, (.op (.iaddr none 13 (.t 16) (.t 17)))⟩, false), (⟨(some 19), none, (.op (.load (some 13) (.t 18)))⟩, false), (⟨(some 20), none, (.op (.mv (.t 1)))⟩, false), (⟨(some 21), none, (.op (.mv (.t 5)))⟩, false), (⟨(some 22), none, (.op (.iaddr none 13 (.t 20) (.t 21)))⟩, false), (⟨(some 23), none, (.op (.load (some 13) (.t 22)))⟩, false), (⟨(some 24), none, (.op (.eqag true [.int, .int, .int, .int, .int, .int, .int, .int, .int, .int, .int, .int, .int] (.t 19) (.t 23)))⟩, false)]
theorem c59d0_w {P : Program} {O : Orc} {S0 : Mem} {rd : Bool} {e : Env} {S : Mem} {d : List Nat} {Q : Kont} : W P O S0 rd (.draw c59d0 []) e S d Q = wFl O c59d0w e S (normK Q d) := W_draw' (by kernel_rfl) (by kernel_rfl)
attribute [go_sem] c59d0_w c59d0w
def c59l1 : ICode :=
  .seq (.region [⟨(some 14), none, (.op (.bin .int false .lss (.t 13) (.t 12)))⟩])
   (.live [0, 1, 12, 13, 14] (.seq (.cond (.t 14) (.skip)
   (.exit 0))
   (.live [0, 1, 12, 13] (.seq (.block 1 (.seq (.region [⟨(some 15), none, (.op (.mv (.t 13)))⟩,
    ⟨(some 5), none, (.op (.mv (.t 15)))⟩])
   (.live [0, 1, 12, 13, 5] (.seq (.draw c59d0 [])
   (.live [0, 1, 12, 13, 24] (.cond (.t 24) (.seq (.region [⟨(some 4), none, (.op (.mv (.c (.b false))))⟩])
   (.ret))
   (.skip)))))))
   (.live [0, 1, 12, 13] (.region [⟨(some 25), none, (.op (.bin .int true .add (.t 13) (.c (.i .i64 1))))⟩,
    ⟨(some 13), none, (.op (.mv (.t 25)))⟩]))))))
def c59 : IFunc := ⟨2, [.tmp 4],
  .seq (.region [⟨(some 4), none, (.op (.mv (.c (.b false))))⟩])
   (.live [0, 1] (.seq (.seq (.region [⟨(some 6), none, (.op (.mv (.t 0)))⟩,
    ⟨(some 7), none, (.op (.len .slice (.t 6)))⟩,
    ⟨(some 8), none, (.op (.mv (.t 1)))⟩,
    ⟨(some 9), none, (.op (.len .slice (.t 8)))⟩,
    ⟨(some 10), none, (.op (.bin .int false .neq (.t 7) (.t 9)))⟩])
   (.live [0, 1, 10] (.cond (.t 10) (.seq (.region [⟨(some 4), none, (.op (.mv (.c (.b false))))⟩])
   (.ret))
   (.skip))))
   (.live [0, 1] (.seq (.seq (.region [⟨(some 11), none, (.op (.mv (.t 0)))⟩,
    ⟨(some 12), none, (.op (.len .slice (.t 11)))⟩,
    ⟨(some 13), none, (.op (.mv (.c (.i .i64 0))))⟩])
   (.live [0, 1, 12, 13] (.block 0 (.loop [0, 1, 12, 13] c59l1))))
   (.live [] (.seq (.region [⟨(some 4), none, (.op (.mv (.c (.b true))))⟩])
   (.ret))))))),
  []⟩


/- slices.Equal[[]int,int] -/
def c60d0 : List Stage :=
  [⟨[(⟨(some 16), none, (.op (.mv (.t 0)))⟩, 0), (⟨(some 17), none, (.op (.mv (.t 5)))⟩, 0), (⟨(some 18), none, (.op (.iaddr none 1 (.t 16) (.t 17)))⟩, 0), (⟨(some 19), none, (.op (.load none (.t 18)))⟩, 0), (⟨(some 20), none, (.op (.mv (.t 1)))⟩, 0), (⟨(some 21), none, (.op (.mv (.t 5)))⟩, 0), (⟨(some 22), none, (.op (.iaddr none 1 (.t 20) (.t 21)))⟩, 0), (⟨(some 23), none, (.op (.load none (.t 22)))⟩, 0), (⟨(some 24), none, (.op (.bin .int false .neq (.t 19) (.t 23)))⟩, 0)], none, none⟩]
def c60d0w : List (ROp × Bool) :=
  [(⟨(some 16), none, (.op (.mv (.t 0)))⟩, false), (⟨(some 17), none, (.op (.mv (.t 5)))⟩, false), (⟨(some 18), none, (.op (.iaddr none 1 (.t 16) (.t 17)))⟩, false), (⟨(some 19), none, (.op (.load none (.t 18)))⟩, false), (⟨(some 20), none, (.op (.mv (.t 1)))⟩, false), (⟨(some 21), none, (.op (.mv (.t 5)))⟩, false), (⟨(some 22), none, (.op (.iaddr none 1 (.t 20) (.t 21)))⟩, false), (⟨(some 23), none, (.op (.load none (.t 22)))⟩, false), (⟨(some 24), none, (.op (.bin .int false .neq (.t 19) (.t 23)))⟩, false)]
theorem c60d0_w {P : Program} {O : Orc} {S0 : Mem} {rd : Bool} {e : Env} {S : Mem} {d : List Nat} {Q : Kont} : W P O S0 rd (.draw c60d0 []) e S d Q = wFl O c60d0w e S (normK Q d) := W_draw' (by kernel_rfl) (by kernel_rfl)
attribute [go_sem] c60d0_w c60d0w
def c60l1 : ICode :=
  .seq (.region [⟨(some 14), none, (.op (.bin .int false .lss (.t 13) (.t 12)))⟩])
   (.live [0, 1, 12, 13, 14] (.seq (.cond (.t 14) (.skip)
   (.exit 0))
   (.live [0, 1, 12, 13] (.seq (.block 1 (.seq (.region [⟨(some 15), none, (.op (.mv (.t 13)))⟩,
    ⟨(some 5), none, (.op (.mv (.t 15)))⟩])
   (.live [0, 1, 12, 13, 5] (.seq (.draw c60d0 [])
   (.live [0, 1, 12, 13, 24] (.cond (.t 24) (.seq (.region [⟨(some 4), none, (.op (.mv (.c (.b false))))⟩])
   (.ret))
   (.skip)))))))
   (.live [0, 1, 12, 13] (.region [⟨(some 25), none, (.op (.bin .int true .add (.t 13) (.c (.i .i64 1))))⟩,
    ⟨(some 13), none, (.op (.mv (.t 25)))⟩]))))))
def c60 : IFunc := ⟨2, [.tmp 4],
  .seq (.region [⟨(some 4), none, (.op (.mv (.c (.b false))))⟩])
   (.live [0, 1] (.seq (.seq (.region [⟨(some 6), none, (.op (.mv (.t 0)))⟩,
    ⟨(some 7), none, (.op (.len .slice (.t 6)))⟩,
    ⟨(some 8), none, (.op (.mv (.t 1)))⟩,
    ⟨(some 9), none, (.op (.len .slice (.t 8)))⟩,
    ⟨(some 10), none, (.op (.bin .int false .neq (.t 7) (.t 9)))⟩])
   (.live [0, 1, 10] (.cond (.t 10) (.seq (.region [⟨(some 4), none, (.op (.mv (.c (.b false))))⟩])
   (.ret))
   (.skip))))
   (.live [0, 1] (.seq (.seq (.region [⟨(some 11), none, (.op (.mv (.t 0)))⟩,
    ⟨(some 12), none, (.op (.len .slice (.t 11)))⟩,
    ⟨(some 13), none, (.op (.mv (.c (.i .i64 0))))⟩])
   (.live [0, 1, 12, 13] (.block 0 (.loop [0, 1, 12, 13] c60l1))))
   (.live [] (.seq (.region [⟨(some 4), none, (.op (.mv (.c (.b true))))⟩])
   (.ret))))))),
  []⟩


/- cmp.isNaN[int] -/

def c62 : IFunc := ⟨1, [.tmp 2],
  .seq (.region [⟨(some 2), none, (.op (.mv (.c (.b false))))⟩])
   (.live [0] (.seq (.region [⟨(some 3), none, (.op (.mv (.t 0)))⟩,
    ⟨(some 4), none, (.op (.mv (.t 0)))⟩,
    ⟨(some 5), none, (.op (.bin .int false .neq (.t 3) (.t 4)))⟩,
    ⟨(some 2), none, (.op (.mv (.t 5)))⟩])
   (.ret))),
  []⟩


/- floodgate/addr.Of -/

def c74 : IFunc := ⟨1, [.cell 2 (some 4)],
  .seq (.region [⟨(some 2), none, (.op (.fresh [(.i .u8 0), (.i .u8 0), (.i .u8 0), (.i .u8 0)]))⟩])
   (.live [2, 0] (.seq (.region [⟨(some 3), none, (.op (.mv (.t 0)))⟩,
    ⟨(some 4), none, (.op (.bin .int true .shr (.t 3) (.c (.i .u64 24))))⟩,
    ⟨(some 5), none, (.op (.toInt .u8 (.t 4)))⟩,
    ⟨(some 6), none, (.op (.mv (.t 0)))⟩,
    ⟨(some 7), none, (.op (.bin .int true .shr (.t 6) (.c (.i .u64 16))))⟩,
    ⟨(some 8), none, (.op (.toInt .u8 (.t 7)))⟩,
    ⟨(some 9), none, (.op (.mv (.t 0)))⟩,
    ⟨(some 10), none, (.op (.bin .int true .shr (.t 9) (.c (.i .u64 8))))⟩,
    ⟨(some 11), none, (.op (.toInt .u8 (.t 10)))⟩,
    ⟨(some 12), none, (.op (.mv (.t 0)))⟩,
    ⟨(some 13), none, (.op (.toInt .u8 (.t 12)))⟩,
    ⟨(some 14), none, (.op (.build [(.i .u8 0), (.i .u8 0), (.i .u8 0), (.i .u8 0)] [(0, 1, (.t 5)), (1, 1, (.t 8)), (2, 1, (.t 11)), (3, 1, (.t 13))]))⟩,
    ⟨none, none, (.op (.store 4 (.t 2) (.t 14)))⟩])
   (.ret))),
  []⟩


/- floodgate/addr.Num -/
def c75l0 : ICode :=
  .seq (.region [⟨(some 8), none, (.op (.bin .int true .lss (.t 7) (.c (.i .i64 4))))⟩])
   (.live [6, 7, 3, 8] (.seq (.cond (.t 8) (.skip)
   (.exit 0))
   (.live [6, 7, 3] (.seq (.block 1 (.seq (.region [⟨(some 9), none, (.op (.ixa 4 1 none (.t 6) (.t 7)))⟩,
    ⟨(some 5), none, (.op (.mv (.t 9)))⟩])
   (.live [6, 7, 5, 3] (.region [⟨(some 10), none, (.op (.mv (.t 3)))⟩,
    ⟨(some 11), none, (.op (.bin .int true .shl (.t 10) (.c (.i .u64 8))))⟩,
    ⟨(some 12), none, (.op (.mv (.t 5)))⟩,
    ⟨(some 13), none, (.op (.toInt .u32 (.t 12)))⟩,
    ⟨(some 14), none, (.op (.bin .int false .or (.t 11) (.t 13)))⟩,
    ⟨(some 3), none, (.op (.mv (.t 14)))⟩]))))
   (.live [6, 3, 7] (.region [⟨(some 15), none, (.op (.bin .int true .add (.t 7) (.c (.i .i64 1))))⟩,
    ⟨(some 7), none, (.op (.mv (.t 15)))⟩]))))))
def c75 : IFunc := ⟨1, [.tmp 2],
  .seq (.region [⟨(some 1), none, (.op (.box (.t 0)))⟩,
    ⟨(some 2), none, (.op (.mv (.c (.i .u32 0))))⟩])
   (.live [1] (.seq (.region [⟨(some 3), none, (.op (.mv (.c (.i .u32 0))))⟩])
   (.live [3, 1] (.seq (.seq (.region [⟨(some 6), none, (.op (.load (some 4) (.t 1)))⟩,
    ⟨(some 7), none, (.op (.mv (.c (.i .i64 0))))⟩])
   (.live [6, 7, 3] (.block 0 (.loop [6, 7, 3] c75l0))))
   (.live [3] (.seq (.region [⟨(some 16), none, (.op (.mv (.t 3)))⟩,
    ⟨(some 2), none, (.op (.mv (.t 16)))⟩])
   (.ret))))))),
  []⟩


/- floodgate/addr.mask -/

def c76 : IFunc := ⟨1, [.tmp 2],
  .seq (.region [⟨(some 2), none, (.op (.mv (.c (.i .u32 0))))⟩])
   (.live [0] (.seq (.region [⟨(some 3), none, (.op (.mv (.t 0)))⟩,
    ⟨(some 4), none, (.op (.mm false [(.t 3), (.c (.i .i64 32))]))⟩,
    ⟨(some 5), none, (.op (.mm true [(.c (.i .i64 0)), (.t 4)]))⟩,
    ⟨(some 6), none, (.op (.bin .int true .sub (.c (.i .i64 32)) (.t 5)))⟩,
    ⟨(some 7), none, (.op (.bin .int true .shl (.c (.i .u32 4294967295)) (.t 6)))⟩,
    ⟨(some 2), none, (.op (.mv (.t 7)))⟩])
   (.ret))),
  []⟩


/- floodgate/floodgateref04.bounded -/

def c77 : IFunc := ⟨1, [.tmp 2],
  .seq (.region [⟨(some 2), none, (.op (.mv (.c (.i .i64 0))))⟩])
   (.live [0] (.seq (.seq (.region [⟨(some 3), none, (.op (.mv (.t 0)))⟩,
    ⟨(some 4), none, (.op (.bin .int true .lss (.t 3) (.c (.i .i64 0))))⟩])
   (.live [0, 4] (.cond (.t 4) (.seq (.region [⟨(some 2), none, (.op (.mv (.c (.i .i64 0))))⟩])
   (.ret))
   (.skip))))
   (.live [0] (.seq (.seq (.region [⟨(some 5), none, (.op (.mv (.t 0)))⟩,
    ⟨(some 6), none, (.op (.bin .int true .gtr (.t 5) (.c (.i .i64 32))))⟩])
   (.live [0, 6] (.cond (.t 6) (.seq (.region [⟨(some 2), none, (.op (.mv (.c (.i .i64 32))))⟩])
   (.ret))
   (.skip))))
   (.live [0] (.seq (.region [⟨(some 7), none, (.op (.mv (.t 0)))⟩,
    ⟨(some 2), none, (.op (.mv (.t 7)))⟩])
   (.ret))))))),
  []⟩


/- floodgate/floodgateref04.Cut -/
def c78l0 : ICode :=
  .seq (.seq (.region [⟨(some 14), none, (.op (.mv (.t 7)))⟩,
    ⟨(some 15), none, (.op (.bin .int true .lss (.t 14) (.c (.i .i64 32))))⟩])
   (.live [4, 6, 7, 5, 15] (.cond (.t 15) (.skip)
   (.exit 0))))
   (.live [4, 6, 7, 5] (.seq (.block 1 (.region [⟨(some 18), none, (.op (.mv (.t 5)))⟩,
    ⟨(some 19), none, (.op (.bin .int true .quo (.t 18) (.c (.i .u32 2))))⟩,
    ⟨(some 5), none, (.op (.mv (.t 19)))⟩]))
   (.live [4, 6, 5, 7] (.region [⟨(some 16), none, (.op (.mv (.t 7)))⟩,
    ⟨(some 17), none, (.op (.bin .int true .add (.t 16) (.c (.i .i64 1))))⟩,
    ⟨(some 7), none, (.op (.mv (.t 17)))⟩]))))
def c78l1 : ICode :=
  .seq (.seq (.region [⟨(some 21), none, (.op (.mv (.t 8)))⟩,
    ⟨(some 22), none, (.op (.bin .int true .lss (.t 21) (.c (.i .i64 32))))⟩])
   (.live [4, 6, 8, 5, 22] (.cond (.t 22) (.skip)
   (.exit 2))))
   (.live [4, 6, 8, 5] (.seq (.block 3 (.region [⟨(some 25), none, (.op (.mv (.t 5)))⟩,
    ⟨(some 26), none, (.op (.bin .int true .mul (.t 25) (.c (.i .u32 2))))⟩,
    ⟨(some 5), none, (.op (.mv (.t 26)))⟩]))
   (.live [4, 6, 5, 8] (.region [⟨(some 23), none, (.op (.mv (.t 8)))⟩,
    ⟨(some 24), none, (.op (.bin .int true .add (.t 23) (.c (.i .i64 1))))⟩,
    ⟨(some 8), none, (.op (.mv (.t 24)))⟩]))))
def c78 : IFunc := ⟨2, [.cell 4 (some 5)],
  .seq (.region [⟨(some 2), none, (.op (.box (.t 0)))⟩,
    ⟨(some 4), none, (.op (.fresh [(.i .u8 0), (.i .u8 0), (.i .u8 0), (.i .u8 0), (.i .i64 0)]))⟩])
   (.live [4, 1, 2] (.seq (.region [⟨(some 9), none, (.op (.load (some 4) (.t 2)))⟩,
    ⟨(some 10), none, (.call 94 [(.t 9)])⟩,
    ⟨(some 5), none, (.op (.mv (.t 10)))⟩])
   (.live [4, 5, 1] (.seq (.region [⟨(some 11), none, (.op (.mv (.t 1)))⟩,
    ⟨(some 12), none, (.call 77 [(.t 11)])⟩,
    ⟨(some 6), none, (.op (.mv (.t 12)))⟩])
   (.live [4, 6, 5] (.seq (.seq (.region [⟨(some 13), none, (.op (.mv (.t 6)))⟩,
    ⟨(some 7), none, (.op (.mv (.t 13)))⟩])
   (.live [4, 6, 7, 5] (.block 0 (.loop [4, 6, 7, 5] c78l0))))
   (.live [4, 6, 5] (.seq (.seq (.region [⟨(some 20), none, (.op (.mv (.t 6)))⟩,
    ⟨(some 8), none, (.op (.mv (.t 20)))⟩])
   (.live [4, 6, 8, 5] (.block 2 (.loop [4, 6, 8, 5] c78l1))))
   (.live [4, 6, 5] (.seq (.region [⟨(some 27), none, (.op (.mv (.t 5)))⟩,
    ⟨(some 28), none, (.call 95 [(.t 27)])⟩,
    ⟨(some 29), none, (.op (.mv (.t 6)))⟩,
    ⟨(some 30), none, (.op (.build [(.i .u8 0), (.i .u8 0), (.i .u8 0), (.i .u8 0), (.i .i64 0)] [(0, 4, (.t 28)), (4, 1, (.t 29))]))⟩,
    ⟨none, none, (.op (.store 5 (.t 4) (.t 30)))⟩])
   (.ret))))))))))),
  []⟩


/- slices.IndexFunc[[]floodgate/api.Policy,floodgate/api.Policy] -/
def c79l0 : ICode :=
  .seq (.region [⟨(some 9), none, (.op (.bin .int false .lss (.t 8) (.t 7)))⟩])
   (.live [0, 1, 7, 8, 9] (.seq (.cond (.t 9) (.skip)
   (.exit 0))
   (.live [0, 1, 7, 8] (.seq (.block 1 (.seq (.region [⟨(some 10), none, (.op (.mv (.t 8)))⟩,
    ⟨(some 5), none, (.op (.mv (.t 10)))⟩])
   (.live [5, 0, 1, 7, 8] (.seq (.region [⟨(some 11), none, (.op (.mv (.t 1)))⟩,
    ⟨(some 12), none, (.op (.mv (.t 0)))⟩,
    ⟨(some 13), none, (.op (.mv (.t 5)))⟩,
    ⟨(some 14), none, (.op (.iaddr none 13 (.t 12) (.t 13)))⟩,
    ⟨(some 15), none, (.op (.load (some 13) (.t 14)))⟩,
    ⟨(some 16), none, (.callv (.t 11) [(.t 15)])⟩])
   (.live [5, 0, 1, 7, 8, 16] (.cond (.t 16) (.seq (.region [⟨(some 17), none, (.op (.mv (.t 5)))⟩,
    ⟨(some 4), none, (.op (.mv (.t 17)))⟩])
   (.ret))
   (.skip)))))))
   (.live [0, 1, 7, 8] (.region [⟨(some 18), none, (.op (.bin .int true .add (.t 8) (.c (.i .i64 1))))⟩,
    ⟨(some 8), none, (.op (.mv (.t 18)))⟩]))))))
def c79 : IFunc := ⟨2, [.tmp 4],
  .seq (.region [⟨(some 4), none, (.op (.mv (.c (.i .i64 0))))⟩])
   (.live [0, 1] (.seq (.seq (.region [⟨(some 6), none, (.op (.mv (.t 0)))⟩,
    ⟨(some 7), none, (.op (.len .slice (.t 6)))⟩,
    ⟨(some 8), none, (.op (.mv (.c (.i .i64 0))))⟩])
   (.live [0, 1, 7, 8] (.block 0 (.loop [0, 1, 7, 8] c79l0))))
   (.live [] (.seq (.region [⟨(some 4), none, (.op (.mv (.c (.i .i64 (-1)))))⟩])
   (.ret))))),
  []⟩


/- slices.Index[[]int,int] -/
def c80l0 : ICode :=
  .seq (.region [⟨(some 9), none, (.op (.bin .int false .lss (.t 8) (.t 7)))⟩])
   (.live [0, 1, 7, 8, 9] (.seq (.cond (.t 9) (.skip)
   (.exit 0))
   (.live [0, 1, 7, 8] (.seq (.block 1 (.seq (.region [⟨(some 10), none, (.op (.mv (.t 8)))⟩,
    ⟨(some 5), none, (.op (.mv (.t 10)))⟩])
   (.live [5, 0, 1, 7, 8] (.seq (.region [⟨(some 11), none, (.op (.mv (.t 1)))⟩,
    ⟨(some 12), none, (.op (.mv (.t 0)))⟩,
    ⟨(some 13), none, (.op (.mv (.t 5)))⟩,
    ⟨(some 14), none, (.op (.iaddr none 1 (.t 12) (.t 13)))⟩,
    ⟨(some 15), none, (.op (.load none (.t 14)))⟩,
    ⟨(some 16), none, (.op (.bin .int false .eql (.t 11) (.t 15)))⟩])
   (.live [5, 0, 1, 7, 8, 16] (.cond (.t 16) (.seq (.region [⟨(some 17), none, (.op (.mv (.t 5)))⟩,
    ⟨(some 4), none, (.op (.mv (.t 17)))⟩])
   (.ret))
   (.skip)))))))
   (.live [0, 1, 7, 8] (.region [⟨(some 18), none, (.op (.bin .int true .add (.t 8) (.c (.i .i64 1))))⟩,
    ⟨(some 8), none, (.op (.mv (.t 18)))⟩]))))))
def c80 : IFunc := ⟨2, [.tmp 4],
  .seq (.region [⟨(some 4), none, (.op (.mv (.c (.i .i64 0))))⟩])
   (.live [0, 1] (.seq (.seq (.region [⟨(some 6), none, (.op (.mv (.t 0)))⟩,
    ⟨(some 7), none, (.op (.len .slice (.t 6)))⟩,
    ⟨(some 8), none, (.op (.mv (.c (.i .i64 0))))⟩])
   (.live [0, 1, 7, 8] (.block 0 (.loop [0, 1, 7, 8] c80l0))))
   (.live [] (.seq (.region [⟨(some 4), none, (.op (.mv (.c (.i .i64 (-1)))))⟩])
   (.ret))))),
  []⟩


/- floodgate/floodgateref04.Num -/

def c94 : IFunc := ⟨1, [.tmp 2],
  .seq (.region [⟨(some 1), none, (.op (.box (.t 0)))⟩,
    ⟨(some 2), none, (.op (.mv (.c (.i .u32 0))))⟩])
   (.live [1] (.seq (.region [⟨(some 3), none, (.op (.iaddr (some 4) 1 (.t 1) (.c (.i .i64 0))))⟩,
    ⟨(some 4), none, (.op (.load none (.t 3)))⟩,
    ⟨(some 5), none, (.op (.toInt .u32 (.t 4)))⟩,
    ⟨(some 6), none, (.op (.bin .int true .mul (.t 5) (.c (.i .u32 16777216))))⟩,
    ⟨(some 7), none, (.op (.iaddr (some 4) 1 (.t 1) (.c (.i .i64 1))))⟩,
    ⟨(some 8), none, (.op (.load none (.t 7)))⟩,
    ⟨(some 9), none, (.op (.toInt .u32 (.t 8)))⟩,
    ⟨(some 10), none, (.op (.bin .int true .mul (.t 9) (.c (.i .u32 65536))))⟩,
    ⟨(some 11), none, (.op (.bin .int false .add (.t 6) (.t 10)))⟩,
    ⟨(some 12), none, (.op (.iaddr (some 4) 1 (.t 1) (.c (.i .i64 2))))⟩,
    ⟨(some 13), none, (.op (.load none (.t 12)))⟩,
    ⟨(some 14), none, (.op (.toInt .u32 (.t 13)))⟩,
    ⟨(some 15), none, (.op (.bin .int true .mul (.t 14) (.c (.i .u32 256))))⟩,
    ⟨(some 16), none, (.op (.bin .int false .add (.t 11) (.t 15)))⟩,
    ⟨(some 17), none, (.op (.iaddr (some 4) 1 (.t 1) (.c (.i .i64 3))))⟩,
    ⟨(some 18), none, (.op (.load none (.t 17)))⟩,
    ⟨(some 19), none, (.op (.toInt .u32 (.t 18)))⟩,
    ⟨(some 20), none, (.op (.bin .int false .add (.t 16) (.t 19)))⟩,
    ⟨(some 2), none, (.op (.mv (.t 20)))⟩])
   (.ret))),
  []⟩


/- floodgate/floodgateref04.Of -/

def c95 : IFunc := ⟨1, [.cell 2 (some 4)],
  .seq (.region [⟨(some 2), none, (.op (.fresh [(.i .u8 0), (.i .u8 0), (.i .u8 0), (.i .u8 0)]))⟩])
   (.live [2, 0] (.seq (.region [⟨(some 3), none, (.op (.mv (.t 0)))⟩,
    ⟨(some 4), none, (.op (.bin .int true .quo (.t 3) (.c (.i .u32 16777216))))⟩,
    ⟨(some 5), none, (.op (.toInt .u8 (.t 4)))⟩,
    ⟨(some 6), none, (.op (.mv (.t 0)))⟩,
    ⟨(some 7), none, (.op (.bin .int true .quo (.t 6) (.c (.i .u32 65536))))⟩,
    ⟨(some 8), none, (.op (.bin .int true .rem (.t 7) (.c (.i .u32 256))))⟩,
    ⟨(some 9), none, (.op (.toInt .u8 (.t 8)))⟩,
    ⟨(some 10), none, (.op (.mv (.t 0)))⟩,
    ⟨(some 11), none, (.op (.bin .int true .quo (.t 10) (.c (.i .u32 256))))⟩,
    ⟨(some 12), none, (.op (.bin .int true .rem (.t 11) (.c (.i .u32 256))))⟩,
    ⟨(some 13), none, (.op (.toInt .u8 (.t 12)))⟩,
    ⟨(some 14), none, (.op (.mv (.t 0)))⟩,
    ⟨(some 15), none, (.op (.bin .int true .rem (.t 14) (.c (.i .u32 256))))⟩,
    ⟨(some 16), none, (.op (.toInt .u8 (.t 15)))⟩,
    ⟨(some 17), none, (.op (.build [(.i .u8 0), (.i .u8 0), (.i .u8 0), (.i .u8 0)] [(0, 1, (.t 5)), (1, 1, (.t 9)), (2, 1, (.t 13)), (3, 1, (.t 16))]))⟩,
    ⟨none, none, (.op (.store 4 (.t 2) (.t 17)))⟩])
   (.ret))),
  []⟩


set_option maxRecDepth 1000000
theorem f4 : compFunc Try.prog 4 = some (stripF c4) := by kernel_rfl
theorem f6 : compFunc Try.prog 6 = some (stripF c6) := by kernel_rfl
theorem f7 : compFunc Try.prog 7 = some (stripF c7) := by kernel_rfl
theorem f8 : compFunc Try.prog 8 = some (stripF c8) := by kernel_rfl
theorem f9 : compFunc Try.prog 9 = some (stripF c9) := by kernel_rfl
theorem f10 : compFunc Try.prog 10 = some (stripF c10) := by kernel_rfl
theorem f11 : compFunc Try.prog 11 = some (stripF c11) := by kernel_rfl
theorem f12 : compFunc Try.prog 12 = some (stripF c12) := by kernel_rfl
theorem f13 : compFunc Try.prog 13 = some (stripF c13) := by kernel_rfl
theorem f15 : compFunc Try.prog 15 = some (stripF c15) := by kernel_rfl
theorem f17 : compFunc Try.prog 17 = some (stripF c17) := by kernel_rfl
theorem f18 : compFunc Try.prog 18 = some (stripF c18) := by kernel_rfl
theorem f19 : compFunc Try.prog 19 = some (stripF c19) := by kernel_rfl
theorem f20 : compFunc Try.prog 20 = some (stripF c20) := by kernel_rfl
theorem f21 : compFunc Try.prog 21 = some (stripF c21) := by kernel_rfl
theorem f22 : compFunc Try.prog 22 = some (stripF c22) := by kernel_rfl
theorem f23 : compFunc Try.prog 23 = some (stripF c23) := by kernel_rfl
theorem f24 : compFunc Try.prog 24 = some (stripF c24) := by kernel_rfl
theorem f25 : compFunc Try.prog 25 = some (stripF c25) := by kernel_rfl
theorem f26 : compFunc Try.prog 26 = some (stripF c26) := by kernel_rfl
theorem f29 : compFunc Try.prog 29 = some (stripF c29) := by kernel_rfl
theorem f30 : compFunc Try.prog 30 = some (stripF c30) := by kernel_rfl
theorem f31 : compFunc Try.prog 31 = some (stripF c31) := by kernel_rfl
theorem f32 : compFunc Try.prog 32 = some (stripF c32) := by kernel_rfl
theorem f33 : compFunc Try.prog 33 = some (stripF c33) := by kernel_rfl
theorem f34 : compFunc Try.prog 34 = some (stripF c34) := by kernel_rfl
theorem f35 : compFunc Try.prog 35 = some (stripF c35) := by kernel_rfl
theorem f36 : compFunc Try.prog 36 = some (stripF c36) := by kernel_rfl
theorem f37 : compFunc Try.prog 37 = some (stripF c37) := by kernel_rfl
theorem f38 : compFunc Try.prog 38 = some (stripF c38) := by kernel_rfl
theorem f39 : compFunc Try.prog 39 = some (stripF c39) := by kernel_rfl
theorem f40 : compFunc Try.prog 40 = some (stripF c40) := by kernel_rfl
theorem f41 : compFunc Try.prog 41 = some (stripF c41) := by kernel_rfl
theorem f42 : compFunc Try.prog 42 = some (stripF c42) := by kernel_rfl
theorem f43 : compFunc Try.prog 43 = some (stripF c43) := by kernel_rfl
theorem f44 : compFunc Try.prog 44 = some (stripF c44) := by kernel_rfl
theorem f46 : compFunc Try.prog 46 = some (stripF c46) := by kernel_rfl
theorem f47 : compFunc Try.prog 47 = some (stripF c47) := by kernel_rfl
theorem f51 : compFunc Try.prog 51 = some (stripF c51) := by kernel_rfl
theorem f52 : compFunc Try.prog 52 = some (stripF c52) := by kernel_rfl
theorem f53 : compFunc Try.prog 53 = some (stripF c53) := by kernel_rfl
theorem f54 : compFunc Try.prog 54 = some (stripF c54) := by kernel_rfl
theorem f55 : compFunc Try.prog 55 = some (stripF c55) := by kernel_rfl
theorem f56 : compFunc Try.prog 56 = some (stripF c56) := by kernel_rfl
theorem f57 : compFunc Try.prog 57 = some (stripF c57) := by kernel_rfl
theorem f58 : compFunc Try.prog 58 = some (stripF c58) := by kernel_rfl
theorem f59 : compFunc Try.prog 59 = some (stripF c59) := by kernel_rfl
theorem f60 : compFunc Try.prog 60 = some (stripF c60) := by kernel_rfl
theorem f62 : compFunc Try.prog 62 = some (stripF c62) := by kernel_rfl
theorem f74 : compFunc Try.prog 74 = some (stripF c74) := by kernel_rfl
theorem f75 : compFunc Try.prog 75 = some (stripF c75) := by kernel_rfl
theorem f76 : compFunc Try.prog 76 = some (stripF c76) := by kernel_rfl
theorem f77 : compFunc Try.prog 77 = some (stripF c77) := by kernel_rfl
theorem f78 : compFunc Try.prog 78 = some (stripF c78) := by kernel_rfl
theorem f79 : compFunc Try.prog 79 = some (stripF c79) := by kernel_rfl
theorem f80 : compFunc Try.prog 80 = some (stripF c80) := by kernel_rfl
theorem f94 : compFunc Try.prog 94 = some (stripF c94) := by kernel_rfl
theorem f95 : compFunc Try.prog 95 = some (stripF c95) := by kernel_rfl
end Go.Proofs.Ytmdnohpolepcoaa
