/- Proved here: the code of the functions, written out, is what the compiler makes of the program. No condition. -/
import Derived.Test.YtkfobkfhbkicaaaMc
import Derived.Test.YtkfobkfhbkicaaaRows
namespace Go.Proofs.Ytkfobkfhbkicaaa
open Go.RowKit

/- floodgate/floodgatelaw14.SlotBack -/
def c5d0 : List Stage :=
  [⟨[(⟨(some 36), none, (.op (.mv (.t 5)))⟩, 0), (⟨(some 37), none, (.op (.load (some 6) (.t 8)))⟩, 0), (⟨(some 40), none, (.op (.mv (.t 5)))⟩, 1), (⟨(some 41), none, (.op (.load (some 6) (.t 8)))⟩, 1)], none, some ⟨(some 38), none, (.call 10 [(.t 36), (.t 37)])⟩⟩,
    ⟨[(⟨(some 39), none, (.op (.bin .int true .eql (.t 38) (.c (.i .i64 0))))⟩, 2)], none, some ⟨(some 42), none, (.call 15 [(.t 40), (.t 41)])⟩⟩,
    ⟨[(⟨(some 43), none, (.op (.bin .bool false .neq (.t 39) (.t 42)))⟩, 2)], none, none⟩]
def c5d0w : List (ROp × Bool) :=
  [(⟨(some 36), none, (.op (.mv (.t 5)))⟩, false), (⟨(some 37), none, (.op (.load (some 6) (.t 8)))⟩, false), (⟨(some 40), none, (.op (.mv (.t 5)))⟩, false), (⟨(some 41), none, (.op (.load (some 6) (.t 8)))⟩, false), (⟨(some 38), none, (.call 10 [(.t 36), (.t 37)])⟩, true), (⟨(some 39), none, (.op (.bin .int true .eql (.t 38) (.c (.i .i64 0))))⟩, false), (⟨(some 42), none, (.call 15 [(.t 40), (.t 41)])⟩, false), (⟨(some 43), none, (.op (.bin .bool false .neq (.t 39) (.t 42)))⟩, false)]
theorem c5d0_w {P : Program} {O : Orc} {S0 : Mem} {rd : Bool} {e : Env} {S : Mem} {d : List Nat} {Q : Kont} : W P O S0 rd (.draw c5d0 []) e S d Q = wFl O c5d0w e S (normK Q d) := W_draw' (by kernel_rfl) (by kernel_rfl)
attribute [go_sem] c5d0_w c5d0w
def c5l1 : ICode :=
  .seq (.region [⟨(some 26), none, (.op (.bin .int false .lss (.t 25) (.t 24)))⟩])
   (.live [6, 5, 23, 24, 25, 26] (.seq (.cond (.t 26) (.skip)
   (.exit 0))
   (.live [6, 5, 23, 24, 25] (.seq (.block 1 (.seq (.region [⟨(some 27), none, (.op (.mv (.t 25)))⟩,
    ⟨(some 28), none, (.op (.iaddr none 6 (.t 23) (.t 25)))⟩,
    ⟨(some 29), none, (.op (.load (some 6) (.t 28)))⟩,
    ⟨(some 8), none, (.op (.fresh [(.i .u64 0), (.i .u32 0), (.i .u64 0), (.i .i64 0), (.i .u64 0), .sn]))⟩,
    ⟨(some 7), none, (.op (.mv (.t 27)))⟩,
    ⟨none, none, (.op (.store 6 (.t 8) (.t 29)))⟩])
   (.live [6, 5, 23, 24, 25, 8, 7] (.seq (.seq (.region [⟨(some 30), none, (.op (.load (some 6) (.t 8)))⟩,
    ⟨(some 31), none, (.call 11 [(.t 30)])⟩])
   (.live [6, 5, 23, 24, 25, 8, 7, 31] (.cond (.t 31) (.seq (.region [⟨(some 4), none, (.op (.mv (.c (.b true))))⟩])
   (.ret))
   (.skip))))
   (.live [6, 5, 23, 24, 25, 8, 7] (.seq (.region [⟨(some 32), none, (.op (.mv (.t 7)))⟩,
    ⟨(some 33), none, (.op (.toInt .u64 (.t 32)))⟩,
    ⟨(some 34), none, (.op (.bin .int true .add (.t 33) (.c (.i .u64 1))))⟩,
    ⟨(some 35), none, (.op (.faddr 0 (.t 8)))⟩,
    ⟨none, none, (.op (.store 1 (.t 35) (.t 34)))⟩])
   (.live [6, 5, 23, 24, 25, 8] (.seq (.seq (.draw c5d0 [])
   (.live [6, 5, 23, 24, 25, 8, 43] (.cond (.t 43) (.seq (.region [⟨(some 4), none, (.op (.mv (.c (.b false))))⟩])
   (.ret))
   (.skip))))
   (.live [6, 5, 23, 24, 25, 8] (.seq (.seq (.region [⟨(some 44), none, (.op (.mv (.t 5)))⟩,
    ⟨(some 45), none, (.op (.load (some 6) (.t 8)))⟩,
    ⟨(some 46), none, (.call 15 [(.t 44), (.t 45)])⟩])
   (.live [6, 5, 23, 24, 25, 8, 46] (.cond (.t 46) (.region [⟨(some 47), none, (.op (.load (some 6) (.t 8)))⟩,
    ⟨none, none, (.op (.store 6 (.t 6) (.t 47)))⟩])
   (.skip))))
   (.live [6, 5, 23, 24, 25] (.seq (.region [⟨(some 49), none, (.op (.mv (.t 5)))⟩,
    ⟨(some 50), none, (.call 7 [(.t 49)])⟩,
    ⟨(some 48), none, (.op (.mv (.t 50)))⟩,
    ⟨(some 51), none, (.op (.ext (.t 48) 0))⟩,
    ⟨(some 52), none, (.op (.ext (.t 48) 1))⟩,
    ⟨(some 9), none, (.op (.fresh [(.i .u64 0), (.i .u32 0), (.i .u64 0), (.i .i64 0), (.i .u64 0), .sn]))⟩,
    ⟨none, none, (.op (.store 6 (.t 9) (.t 51)))⟩,
    ⟨(some 10), none, (.op (.mv (.t 52)))⟩])
   (.live [6, 5, 23, 24, 25, 9, 10] (.seq (.region [⟨(some 53), none, (.op (.mv (.t 10)))⟩,
    ⟨(some 54), none, (.op (.faddr 0 (.t 6)))⟩,
    ⟨(some 55), none, (.op (.load none (.t 54)))⟩,
    ⟨(some 56), none, (.op (.bin .int true .gtr (.t 55) (.c (.i .u64 0))))⟩,
    ⟨(some 57), none, (.op (.bin .bool false .neq (.t 53) (.t 56)))⟩,
    ⟨(some 58), none, (.op (.mv (.t 57)))⟩,
    ⟨(some 59), some (58, false), (.op (.load (some 6) (.t 9)))⟩,
    ⟨(some 60), some (58, false), (.op (.load (some 6) (.t 6)))⟩,
    ⟨(some 61), some (58, false), (.call 17 [(.t 59), (.t 60)])⟩,
    ⟨(some 62), some (58, false), (.op (.un .not (.t 61)))⟩,
    ⟨(some 63), none, (.op (.pick (.t 58) (.c (.b true)) (.t 62)))⟩])
   (.live [6, 5, 23, 24, 25, 63] (.cond (.t 63) (.seq (.region [⟨(some 4), none, (.op (.mv (.c (.b false))))⟩])
   (.ret))
   (.skip)))))))))))))))))
   (.live [6, 5, 23, 24, 25] (.region [⟨(some 64), none, (.op (.bin .int true .add (.t 25) (.c (.i .i64 1))))⟩,
    ⟨(some 25), none, (.op (.mv (.t 64)))⟩]))))))
def c5 : IFunc := ⟨2, [.tmp 4],
  .seq (.region [⟨(some 4), none, (.op (.mv (.c (.b false))))⟩])
   (.live [1, 0] (.seq (.seq (.region [⟨(some 11), none, (.call 9 [])⟩,
    ⟨(some 12), none, (.op (.un .not (.t 11)))⟩])
   (.live [1, 0, 12] (.cond (.t 12) (.seq (.region [⟨(some 4), none, (.op (.mv (.c (.b false))))⟩])
   (.ret))
   (.skip))))
   (.live [1, 0] (.seq (.seq (.region [⟨(some 13), none, (.op (.mv (.t 0)))⟩,
    ⟨(some 14), none, (.op (.bin .int true .gtr (.t 13) (.c (.i .i64 200))))⟩,
    ⟨(some 15), none, (.op (.mv (.t 14)))⟩,
    ⟨(some 16), some (15, false), (.op (.mv (.t 1)))⟩,
    ⟨(some 17), some (15, false), (.op (.len .slice (.t 16)))⟩,
    ⟨(some 18), some (15, false), (.op (.bin .int true .gtr (.t 17) (.c (.i .i64 12))))⟩,
    ⟨(some 19), none, (.op (.pick (.t 15) (.c (.b true)) (.t 18)))⟩])
   (.live [1, 0, 19] (.cond (.t 19) (.seq (.region [⟨(some 4), none, (.op (.mv (.c (.b true))))⟩])
   (.ret))
   (.skip))))
   (.live [1, 0] (.seq (.region [⟨(some 20), none, (.op (.mv (.t 0)))⟩,
    ⟨(some 21), none, (.call 6 [(.t 20)])⟩,
    ⟨(some 5), none, (.op (.mv (.t 21)))⟩])
   (.live [5, 1] (.seq (.region [⟨(some 22), none, (.op (.build [(.i .u64 0), (.i .u32 0), (.i .u64 0), (.i .i64 0), (.i .u64 0), .sn] []))⟩,
    ⟨(some 6), none, (.op (.fresh [(.i .u64 0), (.i .u32 0), (.i .u64 0), (.i .i64 0), (.i .u64 0), .sn]))⟩,
    ⟨none, none, (.op (.store 6 (.t 6) (.t 22)))⟩])
   (.live [6, 5, 1] (.seq (.seq (.region [⟨(some 23), none, (.op (.mv (.t 1)))⟩,
    ⟨(some 24), none, (.op (.len .slice (.t 23)))⟩,
    ⟨(some 25), none, (.op (.mv (.c (.i .i64 0))))⟩])
   (.live [6, 5, 23, 24, 25] (.block 0 (.loop [6, 5, 23, 24, 25] c5l1))))
   (.live [] (.seq (.region [⟨(some 4), none, (.op (.mv (.c (.b true))))⟩])
   (.ret))))))))))))),
  []⟩


/- floodgate/disk.New -/

def c6 : IFunc := ⟨1, [.tmp 2],
  .seq (.region [⟨(some 2), none, (.op (.mv (.c .pn)))⟩])
   (.live [0] (.seq (.region [⟨(some 3), none, (.op (.mv (.t 0)))⟩,
    ⟨(some 4), none, (.op (.mm false [(.t 3), (.c (.i .i64 512))]))⟩,
    ⟨(some 5), none, (.op (.mm true [(.c (.i .i64 0)), (.t 4)]))⟩,
    ⟨(some 6), none, (.op (.mks [(.i .u8 0), (.i .u8 0), (.i .u8 0), (.i .u8 0), (.i .u8 0), (.i .u8 0), (.i .u8 0), (.i .u8 0), (.i .u8 0), (.i .u8 0), (.i .u8 0), (.i .u8 0), (.i .u8 0), (.i .u8 0), (.i .u8 0), (.i .u8 0), (.i .u8 0), (.i .u8 0), (.i .u8 0), (.i .u8 0), (.i .u8 0), (.i .u8 0), (.i .u8 0), (.i .u8 0), (.i .u8 0), (.i .u8 0), (.i .u8 0), (.i .u8 0), (.i .u8 0), (.i .u8 0), (.i .u8 0), (.i .u8 0), (.i .u8 0), (.i .u8 0), (.i .u8 0), (.i .u8 0), (.i .u8 0), (.i .u8 0), (.i .u8 0), (.i .u8 0), (.i .u8 0), (.i .u8 0), (.i .u8 0), (.i .u8 0), (.i .u8 0), (.i .u8 0), (.i .u8 0), (.i .u8 0), (.i .u8 0), (.i .u8 0), (.i .u8 0), (.i .u8 0), (.i .u8 0), (.i .u8 0), (.i .u8 0), (.i .u8 0), (.i .u8 0), (.i .u8 0), (.i .u8 0), (.i .u8 0), (.i .u8 0), (.i .u8 0), (.i .u8 0), (.i .u8 0)] 64 (.t 5) (.t 5)))⟩,
    ⟨(some 7), none, (.op (.build [.sn, .sn, (.i .i64 0), (.b false)] [(0, 1, (.t 6)), (2, 1, (.c (.i .i64 (-1))))]))⟩,
    ⟨(some 8), none, (.op (.box (.t 7)))⟩,
    ⟨(some 2), none, (.op (.mv (.t 8)))⟩])
   (.ret))),
  []⟩


/- floodgate/slot.Read -/
def c7l0 : ICode :=
  .seq (.region [⟨(some 10), none, (.op (.bin .int true .lss (.t 9) (.c (.i .u64 2))))⟩])
   (.live [4, 0, 2, 9, 5, 10] (.seq (.cond (.t 10) (.skip)
   (.exit 0))
   (.live [4, 0, 2, 9, 5] (.seq (.block 1 (.seq (.region [⟨(some 11), none, (.op (.mv (.t 9)))⟩,
    ⟨(some 6), none, (.op (.mv (.t 11)))⟩])
   (.live [4, 0, 2, 9, 5, 6] (.seq (.region [⟨(some 13), none, (.op (.mv (.t 0)))⟩,
    ⟨(some 14), none, (.op (.mv (.t 6)))⟩,
    ⟨(some 15), none, (.call 21 [(.t 14)])⟩,
    ⟨(some 16), none, (.call 20 [(.t 13), (.t 15)])⟩,
    ⟨(some 12), none, (.op (.mv (.t 16)))⟩,
    ⟨(some 17), none, (.op (.ext (.t 12) 0))⟩,
    ⟨(some 18), none, (.op (.ext (.t 12) 1))⟩,
    ⟨(some 7), none, (.op (.fresh [(.i .u64 0), (.i .u32 0), (.i .u64 0), (.i .i64 0), (.i .u64 0), .sn]))⟩,
    ⟨none, none, (.op (.store 6 (.t 7) (.t 17)))⟩,
    ⟨(some 8), none, (.op (.mv (.t 18)))⟩])
   (.live [4, 0, 2, 9, 7, 5, 8] (.seq (.region [⟨(some 19), none, (.op (.mv (.t 8)))⟩,
    ⟨(some 20), none, (.op (.mv (.t 19)))⟩,
    ⟨(some 21), some (20, true), (.op (.faddr 0 (.t 7)))⟩,
    ⟨(some 22), some (20, true), (.op (.load none (.t 21)))⟩,
    ⟨(some 23), some (20, true), (.op (.faddr 0 (.t 4)))⟩,
    ⟨(some 24), some (20, true), (.op (.load none (.t 23)))⟩,
    ⟨(some 25), some (20, true), (.op (.bin .int false .gtr (.t 22) (.t 24)))⟩,
    ⟨(some 26), none, (.op (.pick (.t 20) (.t 25) (.c (.b false))))⟩])
   (.live [4, 0, 2, 9, 7, 5, 26] (.cond (.t 26) (.region [⟨(some 27), none, (.op (.load (some 6) (.t 7)))⟩,
    ⟨none, none, (.op (.store 6 (.t 4) (.t 27)))⟩,
    ⟨(some 5), none, (.op (.mv (.c (.b true))))⟩])
   (.skip)))))))))
   (.live [4, 0, 2, 5, 9] (.region [⟨(some 28), none, (.op (.bin .int true .add (.t 9) (.c (.i .u64 1))))⟩,
    ⟨(some 9), none, (.op (.mv (.t 28)))⟩]))))))
def c7 : IFunc := ⟨1, [.cell 2 (some 6), .tmp 3],
  .seq (.region [⟨(some 2), none, (.op (.fresh [(.i .u64 0), (.i .u32 0), (.i .u64 0), (.i .i64 0), (.i .u64 0), .sn]))⟩,
    ⟨(some 3), none, (.op (.mv (.c (.b false))))⟩])
   (.live [0, 2] (.seq (.region [⟨(some 4), none, (.op (.fresh [(.i .u64 0), (.i .u32 0), (.i .u64 0), (.i .i64 0), (.i .u64 0), .sn]))⟩])
   (.live [4, 0, 2] (.seq (.region [⟨(some 5), none, (.op (.mv (.c (.b false))))⟩])
   (.live [4, 0, 2, 5] (.seq (.seq (.region [⟨(some 9), none, (.op (.mv (.c (.i .u64 0))))⟩])
   (.live [4, 0, 2, 9, 5] (.block 0 (.loop [4, 0, 2, 9, 5] c7l0))))
   (.live [2, 5, 4] (.seq (.region [⟨(some 29), none, (.op (.load (some 6) (.t 4)))⟩,
    ⟨(some 30), none, (.op (.mv (.t 5)))⟩,
    ⟨none, none, (.op (.store 6 (.t 2) (.t 29)))⟩,
    ⟨(some 3), none, (.op (.mv (.t 30)))⟩])
   (.ret))))))))),
  []⟩


/- floodgate/floodgatelaw14.empty -/

def c8 : IFunc := ⟨1, [.cell 2 (some 6)],
  .seq (.region [⟨(some 2), none, (.op (.fresh [(.i .u64 0), (.i .u32 0), (.i .u64 0), (.i .i64 0), (.i .u64 0), .sn]))⟩])
   (.live [2, 0] (.seq (.region [⟨(some 3), none, (.op (.mv (.t 0)))⟩,
    ⟨(some 4), none, (.op (.build [(.i .u64 0), .sn] [(0, 1, (.c (.i .u64 1)))]))⟩,
    ⟨(some 5), none, (.op (.build [(.i .u64 0), (.i .u32 0), (.i .u64 0), (.i .i64 0), (.i .u64 0), .sn] [(0, 1, (.t 3)), (1, 1, (.c (.i .u32 1))), (2, 1, (.c (.i .u64 1))), (4, 2, (.t 4))]))⟩,
    ⟨none, none, (.op (.store 6 (.t 2) (.t 5)))⟩])
   (.ret))),
  []⟩


/- floodgate/floodgatelaw14.slotAlive -/
def c9d0 : List Stage :=
  [⟨[(⟨(some 39), none, (.op (.mv (.t 3)))⟩, 0), (⟨(some 40), none, (.op (.mv (.t 39)))⟩, 0), (⟨(some 41), some (40, true), (.op (.load (some 6) (.t 2)))⟩, 1)], none, some ⟨(some 42), some (40, true), (.call 8 [(.c (.i .u64 2))])⟩⟩,
    ⟨[], none, some ⟨(some 43), some (40, true), (.call 17 [(.t 41), (.t 42)])⟩⟩,
    ⟨[(⟨(some 44), none, (.op (.pick (.t 40) (.t 43) (.c (.b false))))⟩, 2), (⟨(some 45), none, (.op (.mv (.t 44)))⟩, 2), (⟨(some 46), some (45, true), (.op (.mv (.t 4)))⟩, 2), (⟨(some 47), some (45, true), (.op (.bin .int true .eql (.t 46) (.c (.i .i64 72))))⟩, 2), (⟨(some 48), none, (.op (.pick (.t 45) (.t 47) (.c (.b false))))⟩, 2), (⟨(some 49), none, (.op (.mv (.t 48)))⟩, 2), (⟨(some 50), some (49, true), (.op (.mv (.t 6)))⟩, 2), (⟨(some 51), none, (.op (.pick (.t 49) (.t 50) (.c (.b false))))⟩, 2), (⟨(some 52), none, (.op (.mv (.t 51)))⟩, 2), (⟨(some 53), some (52, true), (.op (.load (some 6) (.t 5)))⟩, 3)], none, some ⟨(some 54), some (52, true), (.call 8 [(.c (.i .u64 2))])⟩⟩,
    ⟨[], none, some ⟨(some 55), some (52, true), (.call 17 [(.t 53), (.t 54)])⟩⟩,
    ⟨[(⟨(some 56), none, (.op (.pick (.t 52) (.t 55) (.c (.b false))))⟩, 4), (⟨(some 0), none, (.op (.mv (.t 56)))⟩, 4)], none, none⟩]
def c9d0w : List (ROp × Bool) :=
  [(⟨(some 39), none, (.op (.mv (.t 3)))⟩, false), (⟨(some 40), none, (.op (.mv (.t 39)))⟩, false), (⟨(some 41), some (40, true), (.op (.load (some 6) (.t 2)))⟩, false), (⟨(some 42), some (40, true), (.call 8 [(.c (.i .u64 2))])⟩, true), (⟨(some 43), some (40, true), (.call 17 [(.t 41), (.t 42)])⟩, false), (⟨(some 44), none, (.op (.pick (.t 40) (.t 43) (.c (.b false))))⟩, false), (⟨(some 45), none, (.op (.mv (.t 44)))⟩, false), (⟨(some 46), some (45, true), (.op (.mv (.t 4)))⟩, false), (⟨(some 47), some (45, true), (.op (.bin .int true .eql (.t 46) (.c (.i .i64 72))))⟩, false), (⟨(some 48), none, (.op (.pick (.t 45) (.t 47) (.c (.b false))))⟩, false), (⟨(some 49), none, (.op (.mv (.t 48)))⟩, false), (⟨(some 50), some (49, true), (.op (.mv (.t 6)))⟩, false), (⟨(some 51), none, (.op (.pick (.t 49) (.t 50) (.c (.b false))))⟩, false), (⟨(some 52), none, (.op (.mv (.t 51)))⟩, false), (⟨(some 53), some (52, true), (.op (.load (some 6) (.t 5)))⟩, false), (⟨(some 54), some (52, true), (.call 8 [(.c (.i .u64 2))])⟩, true), (⟨(some 55), some (52, true), (.call 17 [(.t 53), (.t 54)])⟩, false), (⟨(some 56), none, (.op (.pick (.t 52) (.t 55) (.c (.b false))))⟩, false), (⟨(some 0), none, (.op (.mv (.t 56)))⟩, false)]
theorem c9d0_w {P : Program} {O : Orc} {S0 : Mem} {rd : Bool} {e : Env} {S : Mem} {d : List Nat} {Q : Kont} : W P O S0 rd (.draw c9d0 []) e S d Q = wFl O c9d0w e S (normK Q d) := W_draw' (by kernel_rfl) (by kernel_rfl)
attribute [go_sem] c9d0_w c9d0w
def c9 : IFunc := ⟨0, [.tmp 0],
  .seq (.region [⟨(some 0), none, (.op (.mv (.c (.b false))))⟩])
   (.live [] (.seq (.region [⟨(some 7), none, (.call 6 [(.c (.i .i64 64))])⟩,
    ⟨(some 1), none, (.op (.mv (.t 7)))⟩])
   (.live [1] (.seq (.seq (.region [⟨(some 8), none, (.op (.mv (.t 1)))⟩,
    ⟨(some 9), none, (.op (.bin .ptr true .eql (.t 8) (.c .pn)))⟩,
    ⟨(some 10), none, (.op (.mv (.t 9)))⟩,
    ⟨(some 11), some (10, false), (.op (.mv (.t 1)))⟩,
    ⟨(some 12), some (10, false), (.call 8 [(.c (.i .u64 1))])⟩,
    ⟨(some 13), some (10, false), (.call 10 [(.t 11), (.t 12)])⟩,
    ⟨(some 14), some (10, false), (.op (.bin .int true .neq (.t 13) (.c (.i .i64 0))))⟩,
    ⟨(some 15), none, (.op (.pick (.t 10) (.c (.b true)) (.t 14)))⟩,
    ⟨(some 16), none, (.op (.mv (.t 15)))⟩,
    ⟨(some 17), some (16, false), (.op (.mv (.t 1)))⟩,
    ⟨(some 18), some (16, false), (.call 8 [(.c (.i .u64 2))])⟩,
    ⟨(some 19), some (16, false), (.call 10 [(.t 17), (.t 18)])⟩,
    ⟨(some 20), some (16, false), (.op (.bin .int true .neq (.t 19) (.c (.i .i64 0))))⟩,
    ⟨(some 21), none, (.op (.pick (.t 16) (.c (.b true)) (.t 20)))⟩])
   (.live [1, 21] (.cond (.t 21) (.seq (.region [⟨(some 0), none, (.op (.mv (.c (.b false))))⟩])
   (.ret))
   (.skip))))
   (.live [1] (.seq (.region [⟨(some 23), none, (.op (.mv (.t 1)))⟩,
    ⟨(some 24), none, (.call 7 [(.t 23)])⟩,
    ⟨(some 22), none, (.op (.mv (.t 24)))⟩,
    ⟨(some 25), none, (.op (.ext (.t 22) 0))⟩,
    ⟨(some 26), none, (.op (.ext (.t 22) 1))⟩,
    ⟨(some 2), none, (.op (.fresh [(.i .u64 0), (.i .u32 0), (.i .u64 0), (.i .i64 0), (.i .u64 0), .sn]))⟩,
    ⟨none, none, (.op (.store 6 (.t 2) (.t 25)))⟩,
    ⟨(some 3), none, (.op (.mv (.t 26)))⟩])
   (.live [3, 2, 1] (.seq (.region [⟨(some 27), none, (.op (.mv (.t 1)))⟩,
    ⟨(some 28), none, (.call 22 [(.t 27), (.c (.i .i64 0))])⟩])
   (.live [3, 2, 1] (.seq (.region [⟨(some 29), none, (.op (.mv (.t 1)))⟩,
    ⟨(some 30), none, (.call 8 [(.c (.i .u64 3))])⟩,
    ⟨(some 31), none, (.call 10 [(.t 29), (.t 30)])⟩,
    ⟨(some 4), none, (.op (.mv (.t 31)))⟩])
   (.live [3, 2, 4, 1] (.seq (.region [⟨(some 32), none, (.op (.mv (.t 1)))⟩,
    ⟨(some 33), none, (.call 23 [(.t 32), (.c .sn)])⟩])
   (.live [3, 2, 4, 1] (.seq (.region [⟨(some 35), none, (.op (.mv (.t 1)))⟩,
    ⟨(some 36), none, (.call 7 [(.t 35)])⟩,
    ⟨(some 34), none, (.op (.mv (.t 36)))⟩,
    ⟨(some 37), none, (.op (.ext (.t 34) 0))⟩,
    ⟨(some 38), none, (.op (.ext (.t 34) 1))⟩,
    ⟨(some 5), none, (.op (.fresh [(.i .u64 0), (.i .u32 0), (.i .u64 0), (.i .i64 0), (.i .u64 0), .sn]))⟩,
    ⟨none, none, (.op (.store 6 (.t 5) (.t 37)))⟩,
    ⟨(some 6), none, (.op (.mv (.t 38)))⟩])
   (.live [3, 2, 4, 6, 5] (.seq (.draw c9d0 [])
   (.ret))))))))))))))))),
  []⟩


/- floodgate/slot.Write -/
def c10l0 : ICode :=
  .seq (.region [⟨(some 34), none, (.op (.bin .int false .lss (.t 33) (.t 32)))⟩])
   (.live [8, 0, 31, 32, 33, 34] (.seq (.cond (.t 34) (.skip)
   (.exit 0))
   (.live [8, 0, 31, 32, 33] (.seq (.block 1 (.seq (.region [⟨(some 35), none, (.op (.mv (.t 33)))⟩,
    ⟨(some 36), none, (.op (.iaddr none 64 (.t 31) (.t 33)))⟩,
    ⟨(some 37), none, (.op (.load (some 64) (.t 36)))⟩,
    ⟨(some 10), none, (.op (.fresh [(.i .u8 0), (.i .u8 0), (.i .u8 0), (.i .u8 0), (.i .u8 0), (.i .u8 0), (.i .u8 0), (.i .u8 0), (.i .u8 0), (.i .u8 0), (.i .u8 0), (.i .u8 0), (.i .u8 0), (.i .u8 0), (.i .u8 0), (.i .u8 0), (.i .u8 0), (.i .u8 0), (.i .u8 0), (.i .u8 0), (.i .u8 0), (.i .u8 0), (.i .u8 0), (.i .u8 0), (.i .u8 0), (.i .u8 0), (.i .u8 0), (.i .u8 0), (.i .u8 0), (.i .u8 0), (.i .u8 0), (.i .u8 0), (.i .u8 0), (.i .u8 0), (.i .u8 0), (.i .u8 0), (.i .u8 0), (.i .u8 0), (.i .u8 0), (.i .u8 0), (.i .u8 0), (.i .u8 0), (.i .u8 0), (.i .u8 0), (.i .u8 0), (.i .u8 0), (.i .u8 0), (.i .u8 0), (.i .u8 0), (.i .u8 0), (.i .u8 0), (.i .u8 0), (.i .u8 0), (.i .u8 0), (.i .u8 0), (.i .u8 0), (.i .u8 0), (.i .u8 0), (.i .u8 0), (.i .u8 0), (.i .u8 0), (.i .u8 0), (.i .u8 0), (.i .u8 0)]))⟩,
    ⟨(some 9), none, (.op (.mv (.t 35)))⟩,
    ⟨none, none, (.op (.store 64 (.t 10) (.t 37)))⟩])
   (.live [8, 0, 31, 32, 33, 10, 9] (.seq (.region [⟨(some 38), none, (.op (.mv (.t 0)))⟩,
    ⟨(some 39), none, (.op (.mv (.t 8)))⟩,
    ⟨(some 40), none, (.op (.mv (.t 9)))⟩,
    ⟨(some 41), none, (.op (.bin .int false .add (.t 39) (.t 40)))⟩,
    ⟨(some 42), none, (.op (.load (some 64) (.t 10)))⟩,
    ⟨(some 43), none, (.call 25 [(.t 38), (.t 41), (.t 42)])⟩,
    ⟨(some 11), none, (.op (.mv (.t 43)))⟩])
   (.live [11, 8, 0, 31, 32, 33] (.seq (.region [⟨(some 44), none, (.op (.mv (.t 11)))⟩,
    ⟨(some 45), none, (.op (.bin .int true .neq (.t 44) (.c (.i .i64 0))))⟩])
   (.live [11, 8, 0, 31, 32, 33, 45] (.cond (.t 45) (.seq (.region [⟨(some 46), none, (.op (.mv (.t 11)))⟩,
    ⟨(some 4), none, (.op (.mv (.t 46)))⟩])
   (.ret))
   (.skip)))))))))
   (.live [8, 0, 31, 32, 33] (.region [⟨(some 47), none, (.op (.bin .int true .add (.t 33) (.c (.i .i64 1))))⟩,
    ⟨(some 33), none, (.op (.mv (.t 47)))⟩]))))))
def c10 : IFunc := ⟨2, [.tmp 4],
  .seq (.region [⟨(some 3), none, (.op (.box (.t 1)))⟩,
    ⟨(some 4), none, (.op (.mv (.c (.i .i64 0))))⟩])
   (.live [0, 3] (.seq (.region [⟨(some 13), none, (.op (.mv (.t 0)))⟩,
    ⟨(some 14), none, (.op (.load (some 6) (.t 3)))⟩,
    ⟨(some 15), none, (.call 12 [(.t 13), (.t 14)])⟩,
    ⟨(some 12), none, (.op (.mv (.t 15)))⟩,
    ⟨(some 16), none, (.op (.ext (.t 12) 0))⟩,
    ⟨(some 17), none, (.op (.ext (.t 12) 1))⟩,
    ⟨(some 5), none, (.op (.fresh [(.i .u64 0), (.i .u32 0), .sn]))⟩,
    ⟨none, none, (.op (.store 3 (.t 5) (.t 16)))⟩,
    ⟨(some 6), none, (.op (.mv (.t 17)))⟩])
   (.live [6, 0, 3, 5] (.seq (.seq (.region [⟨(some 18), none, (.op (.mv (.t 6)))⟩,
    ⟨(some 19), none, (.op (.bin .int true .neq (.t 18) (.c (.i .i64 0))))⟩])
   (.live [6, 0, 3, 5, 19] (.cond (.t 19) (.seq (.region [⟨(some 20), none, (.op (.mv (.t 6)))⟩,
    ⟨(some 4), none, (.op (.mv (.t 20)))⟩])
   (.ret))
   (.skip))))
   (.live [0, 3, 5] (.seq (.region [⟨(some 22), none, (.op (.load (some 3) (.t 5)))⟩,
    ⟨(some 23), none, (.call 24 [(.t 22)])⟩,
    ⟨(some 21), none, (.op (.mv (.t 23)))⟩,
    ⟨(some 24), none, (.op (.ext (.t 21) 0))⟩,
    ⟨(some 25), none, (.op (.ext (.t 21) 1))⟩,
    ⟨(some 7), none, (.op (.mv (.t 24)))⟩,
    ⟨(some 6), none, (.op (.mv (.t 25)))⟩])
   (.live [0, 7, 3, 6] (.seq (.seq (.region [⟨(some 26), none, (.op (.mv (.t 6)))⟩,
    ⟨(some 27), none, (.op (.bin .int true .neq (.t 26) (.c (.i .i64 0))))⟩])
   (.live [0, 7, 3, 27] (.cond (.t 27) (.seq (.region [⟨(some 4), none, (.op (.mv (.c (.i .i64 141))))⟩])
   (.ret))
   (.skip))))
   (.live [0, 7, 3] (.seq (.region [⟨(some 28), none, (.op (.faddr 0 (.t 3)))⟩,
    ⟨(some 29), none, (.op (.load none (.t 28)))⟩,
    ⟨(some 30), none, (.call 21 [(.t 29)])⟩,
    ⟨(some 8), none, (.op (.mv (.t 30)))⟩])
   (.live [8, 0, 7] (.seq (.seq (.region [⟨(some 31), none, (.op (.mv (.t 7)))⟩,
    ⟨(some 32), none, (.op (.len .slice (.t 31)))⟩,
    ⟨(some 33), none, (.op (.mv (.c (.i .i64 0))))⟩])
   (.live [8, 0, 31, 32, 33] (.block 0 (.loop [8, 0, 31, 32, 33] c10l0))))
   (.live [0] (.seq (.region [⟨(some 48), none, (.op (.mv (.t 0)))⟩,
    ⟨(some 49), none, (.call 26 [(.t 48)])⟩,
    ⟨(some 4), none, (.op (.mv (.t 49)))⟩])
   (.ret))))))))))))))),
  []⟩


/- floodgate/floodgatelaw14.great -/

def c11 : IFunc := ⟨1, [.tmp 2],
  .seq (.region [⟨(some 1), none, (.op (.box (.t 0)))⟩,
    ⟨(some 2), none, (.op (.mv (.c (.b false))))⟩])
   (.live [1] (.seq (.region [⟨(some 3), none, (.op (.faddr 4 (.t 1)))⟩,
    ⟨(some 4), none, (.op (.faddr 1 (.t 3)))⟩,
    ⟨(some 5), none, (.op (.load none (.t 4)))⟩,
    ⟨(some 6), none, (.op (.len .slice (.t 5)))⟩,
    ⟨(some 7), none, (.op (.bin .int true .gtr (.t 6) (.c (.i .i64 30))))⟩,
    ⟨(some 2), none, (.op (.mv (.t 7)))⟩])
   (.ret))),
  []⟩


/- floodgate/slot.Record -/
def c12d0 : List Stage :=
  [⟨[(⟨(some 22), none, (.op (.faddr 0 (.t 3)))⟩, 4), (⟨(some 23), none, (.op (.load none (.t 22)))⟩, 4), (⟨(some 24), none, (.op (.faddr 1 (.t 3)))⟩, 4), (⟨(some 25), none, (.op (.load none (.t 24)))⟩, 4), (⟨(some 26), none, (.op (.faddr 2 (.t 3)))⟩, 0), (⟨(some 27), none, (.op (.load none (.t 26)))⟩, 0), (⟨(some 28), none, (.op (.faddr 3 (.t 3)))⟩, 0), (⟨(some 29), none, (.op (.load none (.t 28)))⟩, 0), (⟨(some 30), none, (.op (.toInt .u64 (.t 29)))⟩, 0), (⟨(some 33), none, (.op (.mv (.t 6)))⟩, 2)], none, some ⟨(some 31), none, (.op (.bslice [(.i .u64 0)] 2 [(0, 1, (.t 27)), (1, 1, (.t 30))]))⟩⟩,
    ⟨[], none, some ⟨(some 32), none, (.call 29 [(.t 31)])⟩⟩,
    ⟨[], none, some ⟨(some 34), none, (.op (.bslice [.sn] 2 [(0, 1, (.t 32)), (1, 1, (.t 33))]))⟩⟩,
    ⟨[], none, some ⟨(some 35), none, (.call 28 [(.t 34)])⟩⟩,
    ⟨[(⟨(some 36), none, (.op (.build [(.i .u64 0), (.i .u32 0), .sn] [(0, 1, (.t 23)), (1, 1, (.t 25)), (2, 1, (.t 35))]))⟩, 4)], none, some ⟨none, none, (.op (.store 3 (.t 4) (.t 36)))⟩⟩,
    ⟨[(⟨(some 5), none, (.op (.mv (.c (.i .i64 0))))⟩, 5)], none, none⟩]
def c12d0w : List (ROp × Bool) :=
  [(⟨(some 22), none, (.op (.faddr 0 (.t 3)))⟩, false), (⟨(some 23), none, (.op (.load none (.t 22)))⟩, false), (⟨(some 24), none, (.op (.faddr 1 (.t 3)))⟩, false), (⟨(some 25), none, (.op (.load none (.t 24)))⟩, false), (⟨(some 26), none, (.op (.faddr 2 (.t 3)))⟩, false), (⟨(some 27), none, (.op (.load none (.t 26)))⟩, false), (⟨(some 28), none, (.op (.faddr 3 (.t 3)))⟩, false), (⟨(some 29), none, (.op (.load none (.t 28)))⟩, false), (⟨(some 30), none, (.op (.toInt .u64 (.t 29)))⟩, false), (⟨(some 33), none, (.op (.mv (.t 6)))⟩, false), (⟨(some 31), none, (.op (.bslice [(.i .u64 0)] 2 [(0, 1, (.t 27)), (1, 1, (.t 30))]))⟩, true), (⟨(some 32), none, (.call 29 [(.t 31)])⟩, true), (⟨(some 34), none, (.op (.bslice [.sn] 2 [(0, 1, (.t 32)), (1, 1, (.t 33))]))⟩, true), (⟨(some 35), none, (.call 28 [(.t 34)])⟩, true), (⟨(some 36), none, (.op (.build [(.i .u64 0), (.i .u32 0), .sn] [(0, 1, (.t 23)), (1, 1, (.t 25)), (2, 1, (.t 35))]))⟩, false), (⟨none, none, (.op (.store 3 (.t 4) (.t 36)))⟩, false), (⟨(some 5), none, (.op (.mv (.c (.i .i64 0))))⟩, false)]
theorem c12d0_w {P : Program} {O : Orc} {S0 : Mem} {rd : Bool} {e : Env} {S : Mem} {d : List Nat} {Q : Kont} : W P O S0 rd (.draw c12d0 []) e S d Q = wFl O c12d0w e S (normK Q d) := W_draw' (by kernel_rfl) (by kernel_rfl)
attribute [go_sem] c12d0_w c12d0w
def c12 : IFunc := ⟨2, [.cell 4 (some 3), .tmp 5],
  .seq (.region [⟨(some 3), none, (.op (.box (.t 1)))⟩,
    ⟨(some 4), none, (.op (.fresh [(.i .u64 0), (.i .u32 0), .sn]))⟩,
    ⟨(some 5), none, (.op (.mv (.c (.i .i64 0))))⟩])
   (.live [4, 3, 0] (.seq (.seq (.region [⟨(some 8), none, (.op (.mv (.t 0)))⟩,
    ⟨(some 9), none, (.op (.load (some 6) (.t 3)))⟩,
    ⟨(some 10), none, (.call 15 [(.t 8), (.t 9)])⟩,
    ⟨(some 11), none, (.op (.un .not (.t 10)))⟩])
   (.live [4, 3, 11] (.cond (.t 11) (.seq (.region [⟨(some 12), none, (.op (.build [(.i .u64 0), (.i .u32 0), .sn] []))⟩,
    ⟨none, none, (.op (.store 3 (.t 4) (.t 12)))⟩,
    ⟨(some 5), none, (.op (.mv (.c (.i .i64 141))))⟩])
   (.ret))
   (.skip))))
   (.live [4, 3] (.seq (.region [⟨(some 14), none, (.op (.faddr 4 (.t 3)))⟩,
    ⟨(some 15), none, (.op (.load (some 2) (.t 14)))⟩,
    ⟨(some 16), none, (.call 27 [(.t 15)])⟩,
    ⟨(some 13), none, (.op (.mv (.t 16)))⟩,
    ⟨(some 17), none, (.op (.ext (.t 13) 0))⟩,
    ⟨(some 18), none, (.op (.ext (.t 13) 1))⟩,
    ⟨(some 6), none, (.op (.mv (.t 17)))⟩,
    ⟨(some 7), none, (.op (.mv (.t 18)))⟩])
   (.live [4, 3, 6, 7] (.seq (.seq (.region [⟨(some 19), none, (.op (.mv (.t 7)))⟩,
    ⟨(some 20), none, (.op (.bin .int true .neq (.t 19) (.c (.i .i64 0))))⟩])
   (.live [4, 3, 6, 20] (.cond (.t 20) (.seq (.region [⟨(some 21), none, (.op (.build [(.i .u64 0), (.i .u32 0), .sn] []))⟩,
    ⟨none, none, (.op (.store 3 (.t 4) (.t 21)))⟩,
    ⟨(some 5), none, (.op (.mv (.c (.i .i64 141))))⟩])
   (.ret))
   (.skip))))
   (.live [4, 3, 6] (.seq (.draw c12d0 [])
   (.ret))))))))),
  []⟩


/- (*floodgate/disk.Disk).Len -/

def c14 : IFunc := ⟨1, [.tmp 2],
  .seq (.region [⟨(some 2), none, (.op (.mv (.c (.i .i64 0))))⟩])
   (.live [0] (.seq (.region [⟨(some 3), none, (.op (.mv (.t 0)))⟩,
    ⟨(some 4), none, (.op (.nilck (.t 3)))⟩,
    ⟨(some 5), none, (.op (.faddr 0 (.t 4)))⟩,
    ⟨(some 6), none, (.op (.load none (.t 5)))⟩,
    ⟨(some 7), none, (.op (.len .slice (.t 6)))⟩,
    ⟨(some 2), none, (.op (.mv (.t 7)))⟩])
   (.ret))),
  []⟩


/- floodgate/slot.Right -/
def c15d0 : List Stage :=
  [⟨[(⟨(some 8), none, (.op (.mv (.t 0)))⟩, 0), (⟨(some 10), none, (.op (.faddr 3 (.t 3)))⟩, 1), (⟨(some 11), none, (.op (.load none (.t 10)))⟩, 1)], none, some ⟨(some 9), none, (.call 14 [(.t 8)])⟩⟩,
    ⟨[], none, some ⟨(some 12), none, (.call 32 [(.t 9), (.t 11)])⟩⟩,
    ⟨[(⟨(some 7), none, (.op (.mv (.t 12)))⟩, 2), (⟨(some 13), none, (.op (.ext (.t 7) 0))⟩, 2), (⟨(some 14), none, (.op (.ext (.t 7) 1))⟩, 2), (⟨(some 5), none, (.op (.mv (.t 13)))⟩, 2), (⟨(some 6), none, (.op (.mv (.t 14)))⟩, 2)], none, none⟩]
def c15d0w : List (ROp × Bool) :=
  [(⟨(some 8), none, (.op (.mv (.t 0)))⟩, false), (⟨(some 10), none, (.op (.faddr 3 (.t 3)))⟩, false), (⟨(some 11), none, (.op (.load none (.t 10)))⟩, false), (⟨(some 9), none, (.call 14 [(.t 8)])⟩, true), (⟨(some 12), none, (.call 32 [(.t 9), (.t 11)])⟩, false), (⟨(some 7), none, (.op (.mv (.t 12)))⟩, false), (⟨(some 13), none, (.op (.ext (.t 7) 0))⟩, false), (⟨(some 14), none, (.op (.ext (.t 7) 1))⟩, false), (⟨(some 5), none, (.op (.mv (.t 13)))⟩, false), (⟨(some 6), none, (.op (.mv (.t 14)))⟩, false)]
theorem c15d0_w {P : Program} {O : Orc} {S0 : Mem} {rd : Bool} {e : Env} {S : Mem} {d : List Nat} {Q : Kont} : W P O S0 rd (.draw c15d0 []) e S d Q = wFl O c15d0w e S (normK Q d) := W_draw' (by kernel_rfl) (by kernel_rfl)
attribute [go_sem] c15d0_w c15d0w
def c15 : IFunc := ⟨2, [.tmp 4],
  .seq (.region [⟨(some 3), none, (.op (.box (.t 1)))⟩,
    ⟨(some 4), none, (.op (.mv (.c (.b false))))⟩])
   (.live [3, 0] (.seq (.draw c15d0 [])
   (.live [3, 6] (.seq (.region [⟨(some 15), none, (.op (.mv (.t 6)))⟩,
    ⟨(some 16), none, (.op (.bin .int true .eql (.t 15) (.c (.i .i64 0))))⟩,
    ⟨(some 17), none, (.op (.mv (.t 16)))⟩,
    ⟨(some 18), some (17, true), (.op (.faddr 0 (.t 3)))⟩,
    ⟨(some 19), some (17, true), (.op (.load none (.t 18)))⟩,
    ⟨(some 20), some (17, true), (.call 33 [(.t 19)])⟩,
    ⟨(some 21), none, (.op (.pick (.t 17) (.t 20) (.c (.b false))))⟩,
    ⟨(some 22), none, (.op (.mv (.t 21)))⟩,
    ⟨(some 23), some (22, true), (.op (.faddr 2 (.t 3)))⟩,
    ⟨(some 24), some (22, true), (.op (.load none (.t 23)))⟩,
    ⟨(some 25), some (22, true), (.call 33 [(.t 24)])⟩,
    ⟨(some 26), none, (.op (.pick (.t 22) (.t 25) (.c (.b false))))⟩,
    ⟨(some 27), none, (.op (.mv (.t 26)))⟩,
    ⟨(some 28), some (27, true), (.op (.faddr 1 (.t 3)))⟩,
    ⟨(some 29), some (27, true), (.op (.load none (.t 28)))⟩,
    ⟨(some 30), some (27, true), (.op (.bin .int true .leq (.t 29) (.c (.i .u32 2147483648))))⟩,
    ⟨(some 31), none, (.op (.pick (.t 27) (.t 30) (.c (.b false))))⟩,
    ⟨(some 32), none, (.op (.mv (.t 31)))⟩,
    ⟨(some 33), some (32, true), (.op (.faddr 4 (.t 3)))⟩,
    ⟨(some 34), some (32, true), (.op (.load (some 2) (.t 33)))⟩,
    ⟨(some 35), some (32, true), (.call 34 [(.t 34)])⟩,
    ⟨(some 36), none, (.op (.pick (.t 32) (.t 35) (.c (.b false))))⟩,
    ⟨(some 4), none, (.op (.mv (.t 36)))⟩])
   (.ret))))),
  []⟩


/- floodgate/slot.Same -/

def c17 : IFunc := ⟨2, [.tmp 4],
  .seq (.region [⟨(some 2), none, (.op (.box (.t 0)))⟩,
    ⟨(some 3), none, (.op (.box (.t 1)))⟩,
    ⟨(some 4), none, (.op (.mv (.c (.b false))))⟩])
   (.live [3, 2] (.seq (.region [⟨(some 5), none, (.op (.faddr 0 (.t 2)))⟩,
    ⟨(some 6), none, (.op (.load none (.t 5)))⟩,
    ⟨(some 7), none, (.op (.faddr 0 (.t 3)))⟩,
    ⟨(some 8), none, (.op (.load none (.t 7)))⟩,
    ⟨(some 9), none, (.op (.bin .int false .eql (.t 6) (.t 8)))⟩,
    ⟨(some 10), none, (.op (.mv (.t 9)))⟩,
    ⟨(some 11), some (10, true), (.op (.faddr 1 (.t 2)))⟩,
    ⟨(some 12), some (10, true), (.op (.load none (.t 11)))⟩,
    ⟨(some 13), some (10, true), (.op (.faddr 1 (.t 3)))⟩,
    ⟨(some 14), some (10, true), (.op (.load none (.t 13)))⟩,
    ⟨(some 15), some (10, true), (.op (.bin .int false .eql (.t 12) (.t 14)))⟩,
    ⟨(some 16), none, (.op (.pick (.t 10) (.t 15) (.c (.b false))))⟩,
    ⟨(some 17), none, (.op (.mv (.t 16)))⟩,
    ⟨(some 18), some (17, true), (.op (.faddr 2 (.t 2)))⟩,
    ⟨(some 19), some (17, true), (.op (.load none (.t 18)))⟩,
    ⟨(some 20), some (17, true), (.op (.faddr 2 (.t 3)))⟩,
    ⟨(some 21), some (17, true), (.op (.load none (.t 20)))⟩,
    ⟨(some 22), some (17, true), (.op (.bin .int false .eql (.t 19) (.t 21)))⟩,
    ⟨(some 23), none, (.op (.pick (.t 17) (.t 22) (.c (.b false))))⟩,
    ⟨(some 24), none, (.op (.mv (.t 23)))⟩,
    ⟨(some 25), some (24, true), (.op (.faddr 3 (.t 2)))⟩,
    ⟨(some 26), some (24, true), (.op (.load none (.t 25)))⟩,
    ⟨(some 27), some (24, true), (.op (.faddr 3 (.t 3)))⟩,
    ⟨(some 28), some (24, true), (.op (.load none (.t 27)))⟩,
    ⟨(some 29), some (24, true), (.op (.bin .int false .eql (.t 26) (.t 28)))⟩,
    ⟨(some 30), none, (.op (.pick (.t 24) (.t 29) (.c (.b false))))⟩,
    ⟨(some 31), none, (.op (.mv (.t 30)))⟩,
    ⟨(some 32), some (31, true), (.op (.faddr 4 (.t 2)))⟩,
    ⟨(some 33), some (31, true), (.op (.load (some 2) (.t 32)))⟩,
    ⟨(some 34), some (31, true), (.op (.faddr 4 (.t 3)))⟩,
    ⟨(some 35), some (31, true), (.op (.load (some 2) (.t 34)))⟩,
    ⟨(some 36), some (31, true), (.call 37 [(.t 33), (.t 35)])⟩,
    ⟨(some 37), none, (.op (.pick (.t 31) (.t 36) (.c (.b false))))⟩,
    ⟨(some 4), none, (.op (.mv (.t 37)))⟩])
   (.ret))),
  []⟩


/- floodgate/slot.read -/
def c20l0 : ICode :=
  .seq (.region [⟨(some 14), none, (.op (.bin .int true .lss (.t 13) (.c (.i .i64 16))))⟩])
   (.live [4, 1, 0, 13, 6, 14] (.seq (.cond (.t 14) (.skip)
   (.exit 0))
   (.live [4, 1, 0, 13, 6] (.seq (.block 1 (.seq (.region [⟨(some 15), none, (.op (.mv (.t 13)))⟩,
    ⟨(some 7), none, (.op (.mv (.t 15)))⟩])
   (.live [4, 1, 0, 13, 6, 7] (.seq (.region [⟨(some 17), none, (.op (.mv (.t 0)))⟩,
    ⟨(some 18), none, (.op (.mv (.t 1)))⟩,
    ⟨(some 19), none, (.op (.mv (.t 7)))⟩,
    ⟨(some 20), none, (.op (.bin .int false .add (.t 18) (.t 19)))⟩,
    ⟨(some 21), none, (.call 39 [(.t 17), (.t 20)])⟩,
    ⟨(some 16), none, (.op (.mv (.t 21)))⟩,
    ⟨(some 22), none, (.op (.ext (.t 16) 0))⟩,
    ⟨(some 23), none, (.op (.ext (.t 16) 1))⟩,
    ⟨(some 8), none, (.op (.fresh [(.i .u8 0), (.i .u8 0), (.i .u8 0), (.i .u8 0), (.i .u8 0), (.i .u8 0), (.i .u8 0), (.i .u8 0), (.i .u8 0), (.i .u8 0), (.i .u8 0), (.i .u8 0), (.i .u8 0), (.i .u8 0), (.i .u8 0), (.i .u8 0), (.i .u8 0), (.i .u8 0), (.i .u8 0), (.i .u8 0), (.i .u8 0), (.i .u8 0), (.i .u8 0), (.i .u8 0), (.i .u8 0), (.i .u8 0), (.i .u8 0), (.i .u8 0), (.i .u8 0), (.i .u8 0), (.i .u8 0), (.i .u8 0), (.i .u8 0), (.i .u8 0), (.i .u8 0), (.i .u8 0), (.i .u8 0), (.i .u8 0), (.i .u8 0), (.i .u8 0), (.i .u8 0), (.i .u8 0), (.i .u8 0), (.i .u8 0), (.i .u8 0), (.i .u8 0), (.i .u8 0), (.i .u8 0), (.i .u8 0), (.i .u8 0), (.i .u8 0), (.i .u8 0), (.i .u8 0), (.i .u8 0), (.i .u8 0), (.i .u8 0), (.i .u8 0), (.i .u8 0), (.i .u8 0), (.i .u8 0), (.i .u8 0), (.i .u8 0), (.i .u8 0), (.i .u8 0)]))⟩,
    ⟨none, none, (.op (.store 64 (.t 8) (.t 22)))⟩,
    ⟨(some 9), none, (.op (.mv (.t 23)))⟩])
   (.live [4, 1, 0, 13, 8, 6, 9] (.seq (.seq (.region [⟨(some 24), none, (.op (.mv (.t 9)))⟩,
    ⟨(some 25), none, (.op (.bin .int true .neq (.t 24) (.c (.i .i64 0))))⟩])
   (.live [4, 1, 0, 13, 8, 6, 25] (.cond (.t 25) (.seq (.region [⟨(some 26), none, (.op (.build [(.i .u64 0), (.i .u32 0), (.i .u64 0), (.i .i64 0), (.i .u64 0), .sn] []))⟩,
    ⟨none, none, (.op (.store 6 (.t 4) (.t 26)))⟩,
    ⟨(some 5), none, (.op (.mv (.c (.b false))))⟩])
   (.ret))
   (.skip))))
   (.live [4, 1, 0, 13, 8, 6] (.region [⟨(some 27), none, (.op (.mv (.t 6)))⟩,
    ⟨(some 28), none, (.op (.load (some 64) (.t 8)))⟩,
    ⟨(some 29), none, (.op (.bslice [(.i .u8 0), (.i .u8 0), (.i .u8 0), (.i .u8 0), (.i .u8 0), (.i .u8 0), (.i .u8 0), (.i .u8 0), (.i .u8 0), (.i .u8 0), (.i .u8 0), (.i .u8 0), (.i .u8 0), (.i .u8 0), (.i .u8 0), (.i .u8 0), (.i .u8 0), (.i .u8 0), (.i .u8 0), (.i .u8 0), (.i .u8 0), (.i .u8 0), (.i .u8 0), (.i .u8 0), (.i .u8 0), (.i .u8 0), (.i .u8 0), (.i .u8 0), (.i .u8 0), (.i .u8 0), (.i .u8 0), (.i .u8 0), (.i .u8 0), (.i .u8 0), (.i .u8 0), (.i .u8 0), (.i .u8 0), (.i .u8 0), (.i .u8 0), (.i .u8 0), (.i .u8 0), (.i .u8 0), (.i .u8 0), (.i .u8 0), (.i .u8 0), (.i .u8 0), (.i .u8 0), (.i .u8 0), (.i .u8 0), (.i .u8 0), (.i .u8 0), (.i .u8 0), (.i .u8 0), (.i .u8 0), (.i .u8 0), (.i .u8 0), (.i .u8 0), (.i .u8 0), (.i .u8 0), (.i .u8 0), (.i .u8 0), (.i .u8 0), (.i .u8 0), (.i .u8 0)] 1 [(0, 64, (.t 28))]))⟩,
    ⟨(some 30), none, (.op (.app 64 64 (.t 27) (.t 29)))⟩,
    ⟨(some 6), none, (.op (.mv (.t 30)))⟩]))))))))
   (.live [4, 1, 0, 6, 13] (.region [⟨(some 31), none, (.op (.bin .int true .add (.t 13) (.c (.i .i64 1))))⟩,
    ⟨(some 13), none, (.op (.mv (.t 31)))⟩]))))))
def c20 : IFunc := ⟨2, [.cell 4 (some 6), .tmp 5],
  .seq (.region [⟨(some 4), none, (.op (.fresh [(.i .u64 0), (.i .u32 0), (.i .u64 0), (.i .i64 0), (.i .u64 0), .sn]))⟩,
    ⟨(some 5), none, (.op (.mv (.c (.b false))))⟩])
   (.live [4, 1, 0] (.seq (.region [⟨(some 6), none, (.op (.mv (.c .sn)))⟩])
   (.live [4, 1, 0, 6] (.seq (.seq (.region [⟨(some 13), none, (.op (.mv (.c (.i .i64 0))))⟩])
   (.live [4, 1, 0, 13, 6] (.block 0 (.loop [4, 1, 0, 13, 6] c20l0))))
   (.live [4, 0, 1, 6] (.seq (.region [⟨(some 33), none, (.op (.mv (.t 6)))⟩,
    ⟨(some 34), none, (.call 40 [(.t 33)])⟩,
    ⟨(some 32), none, (.op (.mv (.t 34)))⟩,
    ⟨(some 35), none, (.op (.ext (.t 32) 0))⟩,
    ⟨(some 36), none, (.op (.ext (.t 32) 1))⟩,
    ⟨(some 37), none, (.op (.ext (.t 32) 2))⟩,
    ⟨(some 10), none, (.op (.fresh [(.i .u64 0), (.i .u32 0), .sn]))⟩,
    ⟨none, none, (.op (.store 3 (.t 10) (.t 35)))⟩,
    ⟨(some 11), none, (.op (.mv (.t 36)))⟩,
    ⟨(some 12), none, (.op (.mv (.t 37)))⟩])
   (.live [4, 10, 0, 1, 12] (.seq (.seq (.region [⟨(some 38), none, (.op (.mv (.t 12)))⟩,
    ⟨(some 39), none, (.op (.un .not (.t 38)))⟩,
    ⟨(some 40), none, (.op (.mv (.t 39)))⟩,
    ⟨(some 41), some (40, false), (.op (.faddr 0 (.t 10)))⟩,
    ⟨(some 42), some (40, false), (.op (.load none (.t 41)))⟩,
    ⟨(some 43), some (40, false), (.call 21 [(.t 42)])⟩,
    ⟨(some 44), some (40, false), (.op (.mv (.t 1)))⟩,
    ⟨(some 45), some (40, false), (.op (.bin .int false .neq (.t 43) (.t 44)))⟩,
    ⟨(some 46), none, (.op (.pick (.t 40) (.c (.b true)) (.t 45)))⟩])
   (.live [4, 10, 0, 46] (.cond (.t 46) (.seq (.region [⟨(some 47), none, (.op (.build [(.i .u64 0), (.i .u32 0), (.i .u64 0), (.i .i64 0), (.i .u64 0), .sn] []))⟩,
    ⟨none, none, (.op (.store 6 (.t 4) (.t 47)))⟩,
    ⟨(some 5), none, (.op (.mv (.c (.b false))))⟩])
   (.ret))
   (.skip))))
   (.live [4, 10, 0] (.seq (.region [⟨(some 48), none, (.op (.mv (.t 0)))⟩,
    ⟨(some 49), none, (.op (.load (some 3) (.t 10)))⟩,
    ⟨(some 50), none, (.call 41 [(.t 48), (.t 49)])⟩,
    ⟨(some 51), none, (.op (.ext (.t 50) 0))⟩,
    ⟨(some 52), none, (.op (.ext (.t 50) 1))⟩,
    ⟨none, none, (.op (.store 6 (.t 4) (.t 51)))⟩,
    ⟨(some 5), none, (.op (.mv (.t 52)))⟩])
   (.ret))))))))))),
  []⟩


/- floodgate/area.Slot -/

def c21 : IFunc := ⟨1, [.tmp 2],
  .seq (.region [⟨(some 2), none, (.op (.mv (.c (.i .i64 0))))⟩])
   (.live [0] (.seq (.region [⟨(some 3), none, (.op (.mv (.t 0)))⟩,
    ⟨(some 4), none, (.op (.bin .int true .rem (.t 3) (.c (.i .u64 2))))⟩,
    ⟨(some 5), none, (.op (.toInt .i64 (.t 4)))⟩,
    ⟨(some 6), none, (.op (.bin .int true .mul (.t 5) (.c (.i .i64 16))))⟩,
    ⟨(some 2), none, (.op (.mv (.t 6)))⟩])
   (.ret))),
  []⟩


/- (*floodgate/disk.Disk).Break -/

def c22 : IFunc := ⟨2, [],
  .region [⟨(some 4), none, (.op (.mv (.t 0)))⟩,
    ⟨(some 5), none, (.op (.mv (.t 1)))⟩,
    ⟨(some 6), none, (.op (.mm true [(.t 5), (.c (.i .i64 (-1)))]))⟩,
    ⟨(some 7), none, (.op (.nilck (.t 4)))⟩,
    ⟨(some 8), none, (.op (.faddr 2 (.t 7)))⟩,
    ⟨none, none, (.op (.store 1 (.t 8) (.t 6)))⟩],
  []⟩


/- (*floodgate/disk.Disk).Crash -/

def c23 : IFunc := ⟨2, [],
  .seq (.region [⟨(some 3), none, (.op (.box (.t 1)))⟩])
   (.live [0, 3] (.seq (.region [⟨(some 4), none, (.op (.mv (.t 0)))⟩,
    ⟨(some 5), none, (.op (.mkf (.func 43) [] [(.t 3)]))⟩,
    ⟨(some 6), none, (.call 42 [(.t 4), (.t 5)])⟩])
   (.live [0] (.region [⟨(some 7), none, (.op (.mv (.t 0)))⟩,
    ⟨(some 8), none, (.op (.mv (.t 0)))⟩,
    ⟨(some 9), none, (.op (.nilck (.t 7)))⟩,
    ⟨(some 10), none, (.op (.faddr 2 (.t 9)))⟩,
    ⟨none, none, (.op (.store 1 (.t 10) (.c (.i .i64 (-1)))))⟩,
    ⟨(some 11), none, (.op (.nilck (.t 8)))⟩,
    ⟨(some 12), none, (.op (.faddr 3 (.t 11)))⟩,
    ⟨none, none, (.op (.store 1 (.t 12) (.c (.b false))))⟩])))),
  []⟩


/- floodgate/frame.Make -/
def c24d0 : List Stage :=
  [⟨[(⟨(some 19), none, (.op (.faddr 2 (.t 1)))⟩, 0), (⟨(some 20), none, (.op (.load none (.t 19)))⟩, 0), (⟨(some 21), none, (.op (.len .slice (.t 20)))⟩, 0), (⟨(some 22), none, (.op (.toInt .u64 (.t 21)))⟩, 0), (⟨(some 24), none, (.op (.faddr 0 (.t 1)))⟩, 1), (⟨(some 25), none, (.op (.load none (.t 24)))⟩, 1), (⟨(some 27), none, (.op (.faddr 1 (.t 1)))⟩, 2), (⟨(some 28), none, (.op (.load none (.t 27)))⟩, 2), (⟨(some 29), none, (.op (.toInt .u64 (.t 28)))⟩, 2), (⟨(some 31), none, (.op (.faddr 2 (.t 1)))⟩, 3), (⟨(some 32), none, (.op (.load none (.t 31)))⟩, 3)], none, some ⟨(some 23), none, (.call 46 [(.t 22), (.c (.i .i64 2))])⟩⟩,
    ⟨[], none, some ⟨(some 26), none, (.call 46 [(.t 25), (.c (.i .i64 8))])⟩⟩,
    ⟨[], none, some ⟨(some 30), none, (.call 46 [(.t 29), (.c (.i .i64 4))])⟩⟩,
    ⟨[], none, some ⟨(some 33), none, (.op (.bslice [.sn] 4 [(0, 1, (.t 23)), (1, 1, (.t 26)), (2, 1, (.t 30)), (3, 1, (.t 32))]))⟩⟩,
    ⟨[], none, some ⟨(some 34), none, (.call 28 [(.t 33)])⟩⟩,
    ⟨[], none, some ⟨(some 35), none, (.call 45 [(.t 34)])⟩⟩,
    ⟨[(⟨(some 5), none, (.op (.mv (.t 35)))⟩, 6)], none, none⟩]
def c24d0w : List (ROp × Bool) :=
  [(⟨(some 19), none, (.op (.faddr 2 (.t 1)))⟩, false), (⟨(some 20), none, (.op (.load none (.t 19)))⟩, false), (⟨(some 21), none, (.op (.len .slice (.t 20)))⟩, false), (⟨(some 22), none, (.op (.toInt .u64 (.t 21)))⟩, false), (⟨(some 24), none, (.op (.faddr 0 (.t 1)))⟩, false), (⟨(some 25), none, (.op (.load none (.t 24)))⟩, false), (⟨(some 27), none, (.op (.faddr 1 (.t 1)))⟩, false), (⟨(some 28), none, (.op (.load none (.t 27)))⟩, false), (⟨(some 29), none, (.op (.toInt .u64 (.t 28)))⟩, false), (⟨(some 31), none, (.op (.faddr 2 (.t 1)))⟩, false), (⟨(some 32), none, (.op (.load none (.t 31)))⟩, false), (⟨(some 23), none, (.call 46 [(.t 22), (.c (.i .i64 2))])⟩, true), (⟨(some 26), none, (.call 46 [(.t 25), (.c (.i .i64 8))])⟩, true), (⟨(some 30), none, (.call 46 [(.t 29), (.c (.i .i64 4))])⟩, true), (⟨(some 33), none, (.op (.bslice [.sn] 4 [(0, 1, (.t 23)), (1, 1, (.t 26)), (2, 1, (.t 30)), (3, 1, (.t 32))]))⟩, false), (⟨(some 34), none, (.call 28 [(.t 33)])⟩, false), (⟨(some 35), none, (.call 45 [(.t 34)])⟩, false), (⟨(some 5), none, (.op (.mv (.t 35)))⟩, false)]
theorem c24d0_w {P : Program} {O : Orc} {S0 : Mem} {rd : Bool} {e : Env} {S : Mem} {d : List Nat} {Q : Kont} : W P O S0 rd (.draw c24d0 []) e S d Q = wFl O c24d0w e S (normK Q d) := W_draw' (by kernel_rfl) (by kernel_rfl)
attribute [go_sem] c24d0_w c24d0w
def c24d1 : List Stage :=
  [⟨[(⟨(some 43), none, (.op (.mv (.t 6)))⟩, 0), (⟨(some 44), none, (.op (.mv (.t 7)))⟩, 0), (⟨(some 45), none, (.op (.iaddr none 64 (.t 43) (.t 44)))⟩, 0), (⟨(some 46), none, (.op (.sla 64 1 (.t 45) none none none))⟩, 0), (⟨(some 47), none, (.op (.mv (.t 5)))⟩, 0), (⟨(some 48), none, (.op (.mv (.t 7)))⟩, 0), (⟨(some 49), none, (.op (.bin .int true .mul (.t 48) (.c (.i .i64 64))))⟩, 0), (⟨(some 50), none, (.op (.slice 1 (.t 47) (some (.t 49)) none none))⟩, 0)], none, some ⟨(some 51), none, (.op (.copy 1 (.t 46) (.t 50)))⟩⟩,
    ⟨[], none, none⟩]
def c24d1w : List (ROp × Bool) :=
  [(⟨(some 43), none, (.op (.mv (.t 6)))⟩, false), (⟨(some 44), none, (.op (.mv (.t 7)))⟩, false), (⟨(some 45), none, (.op (.iaddr none 64 (.t 43) (.t 44)))⟩, false), (⟨(some 46), none, (.op (.sla 64 1 (.t 45) none none none))⟩, false), (⟨(some 47), none, (.op (.mv (.t 5)))⟩, false), (⟨(some 48), none, (.op (.mv (.t 7)))⟩, false), (⟨(some 49), none, (.op (.bin .int true .mul (.t 48) (.c (.i .i64 64))))⟩, false), (⟨(some 50), none, (.op (.slice 1 (.t 47) (some (.t 49)) none none))⟩, false), (⟨(some 51), none, (.op (.copy 1 (.t 46) (.t 50)))⟩, false)]
theorem c24d1_w {P : Program} {O : Orc} {S0 : Mem} {rd : Bool} {e : Env} {S : Mem} {d : List Nat} {Q : Kont} : W P O S0 rd (.draw c24d1 []) e S d Q = wFl O c24d1w e S (normK Q d) := W_draw' (by kernel_rfl) (by kernel_rfl)
attribute [go_sem] c24d1_w c24d1w
def c24l2 : ICode :=
  .seq (.region [⟨(some 41), none, (.op (.bin .int false .lss (.t 40) (.t 39)))⟩])
   (.live [6, 5, 39, 40, 41] (.seq (.cond (.t 41) (.skip)
   (.exit 0))
   (.live [6, 5, 39, 40] (.seq (.block 1 (.seq (.region [⟨(some 42), none, (.op (.mv (.t 40)))⟩,
    ⟨(some 7), none, (.op (.mv (.t 42)))⟩])
   (.live [6, 5, 39, 40, 7] (.draw c24d1 []))))
   (.live [6, 5, 39, 40] (.region [⟨(some 52), none, (.op (.bin .int true .add (.t 40) (.c (.i .i64 1))))⟩,
    ⟨(some 40), none, (.op (.mv (.t 52)))⟩]))))))
def c24 : IFunc := ⟨1, [.tmp 2, .tmp 3],
  .seq (.region [⟨(some 1), none, (.op (.box (.t 0)))⟩,
    ⟨(some 2), none, (.op (.mv (.c .sn)))⟩,
    ⟨(some 3), none, (.op (.mv (.c (.i .i64 0))))⟩])
   (.live [1] (.seq (.region [⟨(some 8), none, (.op (.faddr 2 (.t 1)))⟩,
    ⟨(some 9), none, (.op (.load none (.t 8)))⟩,
    ⟨(some 10), none, (.op (.len .slice (.t 9)))⟩,
    ⟨(some 11), none, (.call 44 [(.t 10)])⟩,
    ⟨(some 4), none, (.op (.mv (.t 11)))⟩])
   (.live [4, 1] (.seq (.seq (.region [⟨(some 12), none, (.op (.mv (.t 4)))⟩,
    ⟨(some 13), none, (.op (.bin .int true .eql (.t 12) (.c (.i .i64 0))))⟩,
    ⟨(some 14), none, (.op (.mv (.t 13)))⟩,
    ⟨(some 15), some (14, false), (.op (.faddr 0 (.t 1)))⟩,
    ⟨(some 16), some (14, false), (.op (.load none (.t 15)))⟩,
    ⟨(some 17), some (14, false), (.op (.bin .int true .eql (.t 16) (.c (.i .u64 0))))⟩,
    ⟨(some 18), none, (.op (.pick (.t 14) (.c (.b true)) (.t 17)))⟩])
   (.live [4, 1, 18] (.cond (.t 18) (.seq (.region [⟨(some 2), none, (.op (.mv (.c .sn)))⟩,
    ⟨(some 3), none, (.op (.mv (.c (.i .i64 81))))⟩])
   (.ret))
   (.skip))))
   (.live [4, 1] (.seq (.draw c24d0 [])
   (.live [5, 4] (.seq (.region [⟨(some 36), none, (.op (.mv (.t 4)))⟩,
    ⟨(some 37), none, (.op (.mks [(.i .u8 0), (.i .u8 0), (.i .u8 0), (.i .u8 0), (.i .u8 0), (.i .u8 0), (.i .u8 0), (.i .u8 0), (.i .u8 0), (.i .u8 0), (.i .u8 0), (.i .u8 0), (.i .u8 0), (.i .u8 0), (.i .u8 0), (.i .u8 0), (.i .u8 0), (.i .u8 0), (.i .u8 0), (.i .u8 0), (.i .u8 0), (.i .u8 0), (.i .u8 0), (.i .u8 0), (.i .u8 0), (.i .u8 0), (.i .u8 0), (.i .u8 0), (.i .u8 0), (.i .u8 0), (.i .u8 0), (.i .u8 0), (.i .u8 0), (.i .u8 0), (.i .u8 0), (.i .u8 0), (.i .u8 0), (.i .u8 0), (.i .u8 0), (.i .u8 0), (.i .u8 0), (.i .u8 0), (.i .u8 0), (.i .u8 0), (.i .u8 0), (.i .u8 0), (.i .u8 0), (.i .u8 0), (.i .u8 0), (.i .u8 0), (.i .u8 0), (.i .u8 0), (.i .u8 0), (.i .u8 0), (.i .u8 0), (.i .u8 0), (.i .u8 0), (.i .u8 0), (.i .u8 0), (.i .u8 0), (.i .u8 0), (.i .u8 0), (.i .u8 0), (.i .u8 0)] 64 (.t 36) (.t 36)))⟩,
    ⟨(some 6), none, (.op (.mv (.t 37)))⟩])
   (.live [6, 5] (.seq (.seq (.region [⟨(some 38), none, (.op (.mv (.t 6)))⟩,
    ⟨(some 39), none, (.op (.len .slice (.t 38)))⟩,
    ⟨(some 40), none, (.op (.mv (.c (.i .i64 0))))⟩])
   (.live [6, 5, 39, 40] (.block 0 (.loop [6, 5, 39, 40] c24l2))))
   (.live [6] (.seq (.region [⟨(some 53), none, (.op (.mv (.t 6)))⟩,
    ⟨(some 2), none, (.op (.mv (.t 53)))⟩,
    ⟨(some 3), none, (.op (.mv (.c (.i .i64 0))))⟩])
   (.ret))))))))))))),
  []⟩


/- (*floodgate/disk.Disk).Write -/
def c25d0 : List Stage :=
  [⟨[(⟨(some 16), none, (.op (.mv (.t 0)))⟩, 2), (⟨(some 17), none, (.op (.mv (.t 0)))⟩, 1), (⟨(some 18), none, (.op (.nilck (.t 17)))⟩, 1), (⟨(some 19), none, (.op (.faddr 1 (.t 18)))⟩, 1), (⟨(some 20), none, (.op (.load none (.t 19)))⟩, 1), (⟨(some 21), none, (.op (.mv (.t 1)))⟩, 0), (⟨(some 22), none, (.op (.load (some 64) (.t 5)))⟩, 0), (⟨(some 23), none, (.op (.build [(.i .i64 0), (.i .u8 0), (.i .u8 0), (.i .u8 0), (.i .u8 0), (.i .u8 0), (.i .u8 0), (.i .u8 0), (.i .u8 0), (.i .u8 0), (.i .u8 0), (.i .u8 0), (.i .u8 0), (.i .u8 0), (.i .u8 0), (.i .u8 0), (.i .u8 0), (.i .u8 0), (.i .u8 0), (.i .u8 0), (.i .u8 0), (.i .u8 0), (.i .u8 0), (.i .u8 0), (.i .u8 0), (.i .u8 0), (.i .u8 0), (.i .u8 0), (.i .u8 0), (.i .u8 0), (.i .u8 0), (.i .u8 0), (.i .u8 0), (.i .u8 0), (.i .u8 0), (.i .u8 0), (.i .u8 0), (.i .u8 0), (.i .u8 0), (.i .u8 0), (.i .u8 0), (.i .u8 0), (.i .u8 0), (.i .u8 0), (.i .u8 0), (.i .u8 0), (.i .u8 0), (.i .u8 0), (.i .u8 0), (.i .u8 0), (.i .u8 0), (.i .u8 0), (.i .u8 0), (.i .u8 0), (.i .u8 0), (.i .u8 0), (.i .u8 0), (.i .u8 0), (.i .u8 0), (.i .u8 0), (.i .u8 0), (.i .u8 0), (.i .u8 0), (.i .u8 0), (.i .u8 0)] [(0, 1, (.t 21)), (1, 64, (.t 22))]))⟩, 0)], none, some ⟨(some 24), none, (.op (.bslice [(.i .i64 0), (.i .u8 0), (.i .u8 0), (.i .u8 0), (.i .u8 0), (.i .u8 0), (.i .u8 0), (.i .u8 0), (.i .u8 0), (.i .u8 0), (.i .u8 0), (.i .u8 0), (.i .u8 0), (.i .u8 0), (.i .u8 0), (.i .u8 0), (.i .u8 0), (.i .u8 0), (.i .u8 0), (.i .u8 0), (.i .u8 0), (.i .u8 0), (.i .u8 0), (.i .u8 0), (.i .u8 0), (.i .u8 0), (.i .u8 0), (.i .u8 0), (.i .u8 0), (.i .u8 0), (.i .u8 0), (.i .u8 0), (.i .u8 0), (.i .u8 0), (.i .u8 0), (.i .u8 0), (.i .u8 0), (.i .u8 0), (.i .u8 0), (.i .u8 0), (.i .u8 0), (.i .u8 0), (.i .u8 0), (.i .u8 0), (.i .u8 0), (.i .u8 0), (.i .u8 0), (.i .u8 0), (.i .u8 0), (.i .u8 0), (.i .u8 0), (.i .u8 0), (.i .u8 0), (.i .u8 0), (.i .u8 0), (.i .u8 0), (.i .u8 0), (.i .u8 0), (.i .u8 0), (.i .u8 0), (.i .u8 0), (.i .u8 0), (.i .u8 0), (.i .u8 0), (.i .u8 0)] 1 [(0, 65, (.t 23))]))⟩⟩,
    ⟨[], none, some ⟨(some 25), none, (.op (.app 65 72 (.t 20) (.t 24)))⟩⟩,
    ⟨[(⟨(some 26), none, (.op (.nilck (.t 16)))⟩, 2), (⟨(some 27), none, (.op (.faddr 1 (.t 26)))⟩, 2)], none, some ⟨none, none, (.op (.store 1 (.t 27) (.t 25)))⟩⟩,
    ⟨[], none, none⟩]
def c25d0w : List (ROp × Bool) :=
  [(⟨(some 16), none, (.op (.mv (.t 0)))⟩, false), (⟨(some 17), none, (.op (.mv (.t 0)))⟩, false), (⟨(some 18), none, (.op (.nilck (.t 17)))⟩, false), (⟨(some 19), none, (.op (.faddr 1 (.t 18)))⟩, false), (⟨(some 20), none, (.op (.load none (.t 19)))⟩, false), (⟨(some 21), none, (.op (.mv (.t 1)))⟩, false), (⟨(some 22), none, (.op (.load (some 64) (.t 5)))⟩, false), (⟨(some 23), none, (.op (.build [(.i .i64 0), (.i .u8 0), (.i .u8 0), (.i .u8 0), (.i .u8 0), (.i .u8 0), (.i .u8 0), (.i .u8 0), (.i .u8 0), (.i .u8 0), (.i .u8 0), (.i .u8 0), (.i .u8 0), (.i .u8 0), (.i .u8 0), (.i .u8 0), (.i .u8 0), (.i .u8 0), (.i .u8 0), (.i .u8 0), (.i .u8 0), (.i .u8 0), (.i .u8 0), (.i .u8 0), (.i .u8 0), (.i .u8 0), (.i .u8 0), (.i .u8 0), (.i .u8 0), (.i .u8 0), (.i .u8 0), (.i .u8 0), (.i .u8 0), (.i .u8 0), (.i .u8 0), (.i .u8 0), (.i .u8 0), (.i .u8 0), (.i .u8 0), (.i .u8 0), (.i .u8 0), (.i .u8 0), (.i .u8 0), (.i .u8 0), (.i .u8 0), (.i .u8 0), (.i .u8 0), (.i .u8 0), (.i .u8 0), (.i .u8 0), (.i .u8 0), (.i .u8 0), (.i .u8 0), (.i .u8 0), (.i .u8 0), (.i .u8 0), (.i .u8 0), (.i .u8 0), (.i .u8 0), (.i .u8 0), (.i .u8 0), (.i .u8 0), (.i .u8 0), (.i .u8 0), (.i .u8 0)] [(0, 1, (.t 21)), (1, 64, (.t 22))]))⟩, false), (⟨(some 24), none, (.op (.bslice [(.i .i64 0), (.i .u8 0), (.i .u8 0), (.i .u8 0), (.i .u8 0), (.i .u8 0), (.i .u8 0), (.i .u8 0), (.i .u8 0), (.i .u8 0), (.i .u8 0), (.i .u8 0), (.i .u8 0), (.i .u8 0), (.i .u8 0), (.i .u8 0), (.i .u8 0), (.i .u8 0), (.i .u8 0), (.i .u8 0), (.i .u8 0), (.i .u8 0), (.i .u8 0), (.i .u8 0), (.i .u8 0), (.i .u8 0), (.i .u8 0), (.i .u8 0), (.i .u8 0), (.i .u8 0), (.i .u8 0), (.i .u8 0), (.i .u8 0), (.i .u8 0), (.i .u8 0), (.i .u8 0), (.i .u8 0), (.i .u8 0), (.i .u8 0), (.i .u8 0), (.i .u8 0), (.i .u8 0), (.i .u8 0), (.i .u8 0), (.i .u8 0), (.i .u8 0), (.i .u8 0), (.i .u8 0), (.i .u8 0), (.i .u8 0), (.i .u8 0), (.i .u8 0), (.i .u8 0), (.i .u8 0), (.i .u8 0), (.i .u8 0), (.i .u8 0), (.i .u8 0), (.i .u8 0), (.i .u8 0), (.i .u8 0), (.i .u8 0), (.i .u8 0), (.i .u8 0), (.i .u8 0)] 1 [(0, 65, (.t 23))]))⟩, true), (⟨(some 25), none, (.op (.app 65 72 (.t 20) (.t 24)))⟩, false), (⟨(some 26), none, (.op (.nilck (.t 16)))⟩, false), (⟨(some 27), none, (.op (.faddr 1 (.t 26)))⟩, false), (⟨none, none, (.op (.store 1 (.t 27) (.t 25)))⟩, false)]
theorem c25d0_w {P : Program} {O : Orc} {S0 : Mem} {rd : Bool} {e : Env} {S : Mem} {d : List Nat} {Q : Kont} : W P O S0 rd (.draw c25d0 []) e S d Q = wFl O c25d0w e S (normK Q d) := W_draw' (by kernel_rfl) (by kernel_rfl)
attribute [go_sem] c25d0_w c25d0w
def c25 : IFunc := ⟨3, [.tmp 6],
  .seq (.region [⟨(some 5), none, (.op (.box (.t 2)))⟩,
    ⟨(some 6), none, (.op (.mv (.c (.i .i64 0))))⟩])
   (.live [0, 1, 5] (.seq (.seq (.region [⟨(some 8), none, (.op (.mv (.t 0)))⟩,
    ⟨(some 9), none, (.op (.mv (.t 1)))⟩,
    ⟨(some 10), none, (.call 47 [(.t 8), (.t 9)])⟩,
    ⟨(some 11), none, (.op (.un .not (.t 10)))⟩])
   (.live [0, 1, 5, 11] (.cond (.t 11) (.seq (.region [⟨(some 6), none, (.op (.mv (.c (.i .i64 71))))⟩])
   (.ret))
   (.skip))))
   (.live [0, 1, 5] (.seq (.region [⟨(some 12), none, (.op (.mv (.t 0)))⟩,
    ⟨(some 13), none, (.call 48 [(.t 12)])⟩,
    ⟨(some 7), none, (.op (.mv (.t 13)))⟩])
   (.live [7, 0, 1, 5] (.seq (.seq (.region [⟨(some 14), none, (.op (.mv (.t 7)))⟩,
    ⟨(some 15), none, (.op (.bin .int true .eql (.t 14) (.c (.i .i64 0))))⟩])
   (.live [7, 0, 1, 5, 15] (.cond (.t 15) (.draw c25d0 [])
   (.skip))))
   (.live [7] (.seq (.region [⟨(some 28), none, (.op (.mv (.t 7)))⟩,
    ⟨(some 6), none, (.op (.mv (.t 28)))⟩])
   (.ret))))))))),
  []⟩


/- (*floodgate/disk.Disk).Sync -/

def c26 : IFunc := ⟨1, [.tmp 2],
  .seq (.region [⟨(some 2), none, (.op (.mv (.c (.i .i64 0))))⟩])
   (.live [0] (.seq (.region [⟨(some 4), none, (.op (.mv (.t 0)))⟩,
    ⟨(some 5), none, (.call 48 [(.t 4)])⟩,
    ⟨(some 3), none, (.op (.mv (.t 5)))⟩])
   (.live [3, 0] (.seq (.seq (.region [⟨(some 6), none, (.op (.mv (.t 3)))⟩,
    ⟨(some 7), none, (.op (.bin .int true .eql (.t 6) (.c (.i .i64 0))))⟩])
   (.live [3, 0, 7] (.cond (.t 7) (.region [⟨(some 8), none, (.op (.mv (.t 0)))⟩,
    ⟨(some 9), none, (.call 42 [(.t 8), (.c (.f (.func 49) [] []))])⟩])
   (.skip))))
   (.live [3] (.seq (.region [⟨(some 10), none, (.op (.mv (.t 3)))⟩,
    ⟨(some 2), none, (.op (.mv (.t 10)))⟩])
   (.ret))))))),
  []⟩


/- floodgate/book.Bytes -/
def c27d0 : List Stage :=
  [⟨[(⟨(some 20), none, (.op (.mv (.t 4)))⟩, 1), (⟨(some 21), none, (.op (.faddr 0 (.t 6)))⟩, 0), (⟨(some 22), none, (.op (.load (some 13) (.t 21)))⟩, 0), (⟨(some 25), none, (.op (.faddr 13 (.t 6)))⟩, 2), (⟨(some 26), none, (.op (.load none (.t 25)))⟩, 2)], none, some ⟨(some 23), none, (.call 50 [(.t 22)])⟩⟩,
    ⟨[], none, some ⟨(some 24), none, (.op (.app 1 8 (.t 20) (.t 23)))⟩⟩,
    ⟨[], some ⟨(some 27), none, (.op (.bslice [(.i .u64 0)] 1 [(0, 1, (.t 26))]))⟩, some ⟨(some 28), none, (.op (.app 1 8 (.t 24) (.t 27)))⟩⟩,
    ⟨[(⟨(some 4), none, (.op (.mv (.t 28)))⟩, 3)], none, none⟩]
theorem c27d0_e {P : Program} {O : Orc} {S0 : Mem} {rd : Bool} {e : Env} {S : Mem} {d : List Nat} {Q : Kont} : W P O S0 rd (.draw c27d0 [4]) e S d Q = drawK (evDraw O c27d0 [4] e S) (normK Q d) := W_drawE (by kernel_rfl)
attribute [go_sem] c27d0_e
def c27l1 : ICode :=
  .seq (.region [⟨(some 17), none, (.op (.bin .int false .lss (.t 16) (.t 15)))⟩])
   (.live [14, 15, 16, 4, 17] (.seq (.cond (.t 17) (.skip)
   (.exit 0))
   (.live [14, 15, 16, 4] (.seq (.block 1 (.seq (.region [⟨(some 18), none, (.op (.iaddr none 14 (.t 14) (.t 16)))⟩,
    ⟨(some 19), none, (.op (.load (some 14) (.t 18)))⟩,
    ⟨(some 6), none, (.op (.fresh [(.i .i64 0), (.i .u8 0), (.i .u8 0), (.i .u8 0), (.i .u8 0), (.i .i64 0), (.i .u64 0), (.i .u64 0), (.i .u64 0), (.i .u64 0), (.i .u64 0), (.i .u64 0), (.i .u64 0), (.i .u64 0)]))⟩,
    ⟨none, none, (.op (.store 14 (.t 6) (.t 19)))⟩])
   (.live [14, 15, 16, 6, 4] (.draw c27d0 [4]))))
   (.live [14, 15, 4, 16] (.region [⟨(some 29), none, (.op (.bin .int true .add (.t 16) (.c (.i .i64 1))))⟩,
    ⟨(some 16), none, (.op (.mv (.t 29)))⟩]))))))
def c27 : IFunc := ⟨1, [.tmp 2, .tmp 3],
  .seq (.region [⟨(some 1), none, (.op (.box (.t 0)))⟩,
    ⟨(some 2), none, (.op (.mv (.c .sn)))⟩,
    ⟨(some 3), none, (.op (.mv (.c (.i .i64 0))))⟩])
   (.live [1] (.seq (.seq (.region [⟨(some 7), none, (.op (.load (some 2) (.t 1)))⟩,
    ⟨(some 8), none, (.call 34 [(.t 7)])⟩,
    ⟨(some 9), none, (.op (.un .not (.t 8)))⟩])
   (.live [1, 9] (.cond (.t 9) (.seq (.region [⟨(some 2), none, (.op (.mv (.c .sn)))⟩,
    ⟨(some 3), none, (.op (.mv (.c (.i .i64 131))))⟩])
   (.ret))
   (.skip))))
   (.live [1] (.seq (.region [⟨(some 10), none, (.op (.faddr 0 (.t 1)))⟩,
    ⟨(some 11), none, (.op (.load none (.t 10)))⟩,
    ⟨(some 12), none, (.op (.bslice [(.i .u64 0)] 1 [(0, 1, (.t 11))]))⟩,
    ⟨(some 4), none, (.op (.mv (.t 12)))⟩])
   (.live [4, 1] (.seq (.seq (.region [⟨(some 13), none, (.op (.faddr 1 (.t 1)))⟩,
    ⟨(some 14), none, (.op (.load none (.t 13)))⟩,
    ⟨(some 15), none, (.op (.len .slice (.t 14)))⟩,
    ⟨(some 16), none, (.op (.mv (.c (.i .i64 0))))⟩])
   (.live [14, 15, 16, 4] (.block 0 (.loop [14, 15, 16, 4] c27l1))))
   (.live [4] (.seq (.region [⟨(some 30), none, (.op (.mv (.t 4)))⟩,
    ⟨(some 31), none, (.call 29 [(.t 30)])⟩,
    ⟨(some 2), none, (.op (.mv (.t 31)))⟩,
    ⟨(some 3), none, (.op (.mv (.c (.i .i64 0))))⟩])
   (.ret))))))))),
  []⟩


/- slices.Concat[[]byte,byte] -/
def c28l0 : ICode :=
  .seq (.region [⟨(some 12), none, (.op (.bin .int false .lss (.t 11) (.t 10)))⟩])
   (.live [9, 0, 10, 11, 3, 12] (.seq (.cond (.t 12) (.skip)
   (.exit 0))
   (.live [9, 0, 10, 11, 3] (.seq (.block 1 (.seq (.region [⟨(some 13), none, (.op (.iaddr none 1 (.t 9) (.t 11)))⟩,
    ⟨(some 14), none, (.op (.load none (.t 13)))⟩,
    ⟨(some 5), none, (.op (.mv (.t 14)))⟩])
   (.live [9, 0, 10, 11, 5, 3] (.seq (.region [⟨(some 15), none, (.op (.mv (.t 3)))⟩,
    ⟨(some 16), none, (.op (.mv (.t 5)))⟩,
    ⟨(some 17), none, (.op (.len .slice (.t 16)))⟩,
    ⟨(some 18), none, (.op (.bin .int false .add (.t 15) (.t 17)))⟩,
    ⟨(some 3), none, (.op (.mv (.t 18)))⟩])
   (.live [9, 0, 10, 3, 11] (.seq (.region [⟨(some 19), none, (.op (.mv (.t 3)))⟩,
    ⟨(some 20), none, (.op (.bin .int true .lss (.t 19) (.c (.i .i64 0))))⟩])
   (.live [9, 0, 10, 3, 11, 20] (.cond (.t 20) (.region [⟨(some 21), none, (.op (.bad))⟩,
    ⟨none, none, (.op (.bad))⟩])
   (.skip)))))))))
   (.live [9, 0, 10, 3, 11] (.region [⟨(some 22), none, (.op (.bin .int true .add (.t 11) (.c (.i .i64 1))))⟩,
    ⟨(some 11), none, (.op (.mv (.t 22)))⟩]))))))
def c28l1 : ICode :=
  .seq (.region [⟨(some 28), none, (.op (.bin .int false .lss (.t 27) (.t 26)))⟩])
   (.live [25, 26, 27, 6, 28] (.seq (.cond (.t 28) (.skip)
   (.exit 2))
   (.live [25, 26, 27, 6] (.seq (.block 3 (.seq (.region [⟨(some 29), none, (.op (.iaddr none 1 (.t 25) (.t 27)))⟩,
    ⟨(some 30), none, (.op (.load none (.t 29)))⟩,
    ⟨(some 8), none, (.op (.mv (.t 30)))⟩])
   (.live [25, 26, 27, 8, 6] (.region [⟨(some 31), none, (.op (.mv (.t 6)))⟩,
    ⟨(some 32), none, (.op (.mv (.t 8)))⟩,
    ⟨(some 33), none, (.op (.app 1 1 (.t 31) (.t 32)))⟩,
    ⟨(some 6), none, (.op (.mv (.t 33)))⟩]))))
   (.live [25, 26, 6, 27] (.region [⟨(some 34), none, (.op (.bin .int true .add (.t 27) (.c (.i .i64 1))))⟩,
    ⟨(some 27), none, (.op (.mv (.t 34)))⟩]))))))
def c28 : IFunc := ⟨1, [.tmp 2],
  .seq (.region [⟨(some 2), none, (.op (.mv (.c .sn)))⟩])
   (.live [0] (.seq (.region [⟨(some 3), none, (.op (.mv (.c (.i .i64 0))))⟩])
   (.live [0, 3] (.seq (.seq (.region [⟨(some 9), none, (.op (.mv (.t 0)))⟩,
    ⟨(some 10), none, (.op (.len .slice (.t 9)))⟩,
    ⟨(some 11), none, (.op (.mv (.c (.i .i64 0))))⟩])
   (.live [9, 0, 10, 11, 3] (.block 0 (.loop [9, 0, 10, 11, 3] c28l0))))
   (.live [0, 3] (.seq (.region [⟨(some 23), none, (.op (.mv (.t 3)))⟩,
    ⟨(some 24), none, (.call 51 [(.c .sn), (.t 23)])⟩,
    ⟨(some 6), none, (.op (.mv (.t 24)))⟩])
   (.live [6, 0] (.seq (.seq (.region [⟨(some 25), none, (.op (.mv (.t 0)))⟩,
    ⟨(some 26), none, (.op (.len .slice (.t 25)))⟩,
    ⟨(some 27), none, (.op (.mv (.c (.i .i64 0))))⟩])
   (.live [25, 26, 27, 6] (.block 2 (.loop [25, 26, 27, 6] c28l1))))
   (.live [6] (.seq (.region [⟨(some 35), none, (.op (.mv (.t 6)))⟩,
    ⟨(some 2), none, (.op (.mv (.t 35)))⟩])
   (.ret))))))))))),
  []⟩


/- floodgate/leb.Nums -/
def c29l0 : ICode :=
  .seq (.region [⟨(some 9), none, (.op (.bin .int false .lss (.t 8) (.t 7)))⟩])
   (.live [6, 7, 8, 3, 9] (.seq (.cond (.t 9) (.skip)
   (.exit 0))
   (.live [6, 7, 8, 3] (.seq (.block 1 (.seq (.region [⟨(some 10), none, (.op (.iaddr none 1 (.t 6) (.t 8)))⟩,
    ⟨(some 11), none, (.op (.load none (.t 10)))⟩,
    ⟨(some 5), none, (.op (.mv (.t 11)))⟩])
   (.live [6, 7, 8, 5, 3] (.region [⟨(some 12), none, (.op (.mv (.t 3)))⟩,
    ⟨(some 13), none, (.op (.mv (.t 5)))⟩,
    ⟨(some 14), none, (.call 52 [(.t 13)])⟩,
    ⟨(some 15), none, (.op (.app 1 1 (.t 12) (.t 14)))⟩,
    ⟨(some 3), none, (.op (.mv (.t 15)))⟩]))))
   (.live [6, 7, 3, 8] (.region [⟨(some 16), none, (.op (.bin .int true .add (.t 8) (.c (.i .i64 1))))⟩,
    ⟨(some 8), none, (.op (.mv (.t 16)))⟩]))))))
def c29 : IFunc := ⟨1, [.tmp 2],
  .seq (.region [⟨(some 2), none, (.op (.mv (.c .sn)))⟩])
   (.live [0] (.seq (.region [⟨(some 3), none, (.op (.mv (.c .sn)))⟩])
   (.live [3, 0] (.seq (.seq (.region [⟨(some 6), none, (.op (.mv (.t 0)))⟩,
    ⟨(some 7), none, (.op (.len .slice (.t 6)))⟩,
    ⟨(some 8), none, (.op (.mv (.c (.i .i64 0))))⟩])
   (.live [6, 7, 8, 3] (.block 0 (.loop [6, 7, 8, 3] c29l0))))
   (.live [3] (.seq (.region [⟨(some 17), none, (.op (.mv (.t 3)))⟩,
    ⟨(some 2), none, (.op (.mv (.t 17)))⟩])
   (.ret))))))),
  []⟩


/- floodgate/area.Seg -/

def c32 : IFunc := ⟨2, [.tmp 4, .tmp 5],
  .seq (.region [⟨(some 4), none, (.op (.mv (.c (.i .i64 0))))⟩,
    ⟨(some 5), none, (.op (.mv (.c (.i .i64 0))))⟩])
   (.live [1, 0] (.seq (.seq (.region [⟨(some 9), none, (.op (.mv (.t 0)))⟩,
    ⟨(some 10), none, (.op (.mv (.t 1)))⟩,
    ⟨(some 11), none, (.op (.bslice [(.i .i64 0)] 1 [(0, 1, (.t 10))]))⟩,
    ⟨(some 12), none, (.call 55 [(.t 9), (.t 11)])⟩,
    ⟨(some 8), none, (.op (.mv (.t 12)))⟩,
    ⟨(some 13), none, (.op (.ext (.t 8) 0))⟩,
    ⟨(some 14), none, (.op (.ext (.t 8) 1))⟩,
    ⟨(some 6), none, (.op (.mv (.t 13)))⟩,
    ⟨(some 7), none, (.op (.mv (.t 14)))⟩])
   (.live [7, 1] (.seq (.region [⟨(some 15), none, (.op (.mv (.t 7)))⟩,
    ⟨(some 16), none, (.op (.bin .int true .neq (.t 15) (.c (.i .i64 0))))⟩])
   (.live [7, 1, 16] (.cond (.t 16) (.seq (.region [⟨(some 17), none, (.op (.mv (.t 7)))⟩,
    ⟨(some 4), none, (.op (.mv (.c (.i .i64 0))))⟩,
    ⟨(some 5), none, (.op (.mv (.t 17)))⟩])
   (.ret))
   (.skip))))))
   (.live [1] (.seq (.region [⟨(some 18), none, (.op (.mv (.t 1)))⟩,
    ⟨(some 19), none, (.op (.bin .int true .mul (.t 18) (.c (.i .i64 16))))⟩,
    ⟨(some 20), none, (.op (.bin .int true .add (.c (.i .i64 32)) (.t 19)))⟩,
    ⟨(some 4), none, (.op (.mv (.t 20)))⟩,
    ⟨(some 5), none, (.op (.mv (.c (.i .i64 0))))⟩])
   (.ret))))),
  []⟩


/- floodgate/slot.value -/

def c33 : IFunc := ⟨1, [.tmp 2],
  .seq (.region [⟨(some 2), none, (.op (.mv (.c (.b false))))⟩])
   (.live [0] (.seq (.region [⟨(some 3), none, (.op (.mv (.t 0)))⟩,
    ⟨(some 4), none, (.op (.bin .int true .geq (.t 3) (.c (.i .u64 1))))⟩,
    ⟨(some 5), none, (.op (.mv (.t 4)))⟩,
    ⟨(some 6), some (5, true), (.op (.mv (.t 0)))⟩,
    ⟨(some 7), some (5, true), (.op (.bin .int true .leq (.t 6) (.c (.i .u64 281474976710656))))⟩,
    ⟨(some 8), none, (.op (.pick (.t 5) (.t 7) (.c (.b false))))⟩,
    ⟨(some 2), none, (.op (.mv (.t 8)))⟩])
   (.ret))),
  []⟩


/- floodgate/book.Right -/

def c34 : IFunc := ⟨1, [.tmp 2],
  .seq (.region [⟨(some 1), none, (.op (.box (.t 0)))⟩,
    ⟨(some 2), none, (.op (.mv (.c (.b false))))⟩])
   (.live [1] (.seq (.seq (.region [⟨(some 3), none, (.op (.faddr 0 (.t 1)))⟩,
    ⟨(some 4), none, (.op (.load none (.t 3)))⟩,
    ⟨(some 5), none, (.op (.bin .int true .lss (.t 4) (.c (.i .u64 1))))⟩,
    ⟨(some 6), none, (.op (.mv (.t 5)))⟩,
    ⟨(some 7), some (6, false), (.op (.faddr 0 (.t 1)))⟩,
    ⟨(some 8), some (6, false), (.op (.load none (.t 7)))⟩,
    ⟨(some 9), some (6, false), (.op (.bin .int true .gtr (.t 8) (.c (.i .u64 281474976710656))))⟩,
    ⟨(some 10), none, (.op (.pick (.t 6) (.c (.b true)) (.t 9)))⟩,
    ⟨(some 11), none, (.op (.mv (.t 10)))⟩,
    ⟨(some 12), some (11, false), (.op (.faddr 1 (.t 1)))⟩,
    ⟨(some 13), some (11, false), (.op (.load none (.t 12)))⟩,
    ⟨(some 14), some (11, false), (.op (.len .slice (.t 13)))⟩,
    ⟨(some 15), some (11, false), (.op (.bin .int true .gtr (.t 14) (.c (.i .i64 8))))⟩,
    ⟨(some 16), none, (.op (.pick (.t 11) (.c (.b true)) (.t 15)))⟩,
    ⟨(some 17), none, (.op (.mv (.t 16)))⟩,
    ⟨(some 18), some (17, false), (.op (.faddr 1 (.t 1)))⟩,
    ⟨(some 19), some (17, false), (.op (.load none (.t 18)))⟩,
    ⟨(some 20), some (17, false), (.call 57 [(.t 19)])⟩,
    ⟨(some 21), some (17, false), (.call 56 [(.t 20)])⟩,
    ⟨(some 22), some (17, false), (.op (.bin .int true .neq (.t 21) (.c (.i .i64 0))))⟩,
    ⟨(some 23), none, (.op (.pick (.t 17) (.c (.b true)) (.t 22)))⟩])
   (.live [1, 23] (.cond (.t 23) (.seq (.region [⟨(some 2), none, (.op (.mv (.c (.b false))))⟩])
   (.ret))
   (.skip))))
   (.live [1] (.seq (.region [⟨(some 24), none, (.op (.faddr 1 (.t 1)))⟩,
    ⟨(some 25), none, (.op (.load none (.t 24)))⟩,
    ⟨(some 26), none, (.call 58 [(.t 25), (.c (.f (.func 59) [] []))])⟩,
    ⟨(some 27), none, (.op (.un .not (.t 26)))⟩,
    ⟨(some 2), none, (.op (.mv (.t 27)))⟩])
   (.ret))))),
  []⟩


/- floodgate/book.Same -/

def c37 : IFunc := ⟨2, [.tmp 4],
  .seq (.region [⟨(some 2), none, (.op (.box (.t 0)))⟩,
    ⟨(some 3), none, (.op (.box (.t 1)))⟩,
    ⟨(some 4), none, (.op (.mv (.c (.b false))))⟩])
   (.live [3, 2] (.seq (.region [⟨(some 5), none, (.op (.faddr 0 (.t 2)))⟩,
    ⟨(some 6), none, (.op (.load none (.t 5)))⟩,
    ⟨(some 7), none, (.op (.faddr 0 (.t 3)))⟩,
    ⟨(some 8), none, (.op (.load none (.t 7)))⟩,
    ⟨(some 9), none, (.op (.bin .int false .eql (.t 6) (.t 8)))⟩,
    ⟨(some 10), none, (.op (.mv (.t 9)))⟩,
    ⟨(some 11), some (10, true), (.op (.faddr 1 (.t 2)))⟩,
    ⟨(some 12), some (10, true), (.op (.load none (.t 11)))⟩,
    ⟨(some 13), some (10, true), (.op (.faddr 1 (.t 3)))⟩,
    ⟨(some 14), some (10, true), (.op (.load none (.t 13)))⟩,
    ⟨(some 15), some (10, true), (.call 62 [(.t 12), (.t 14)])⟩,
    ⟨(some 16), none, (.op (.pick (.t 10) (.t 15) (.c (.b false))))⟩,
    ⟨(some 4), none, (.op (.mv (.t 16)))⟩])
   (.ret))),
  []⟩


/- (*floodgate/disk.Disk).Read -/
def c39l0 : ICode :=
  .seq (.region [⟨(some 22), none, (.op (.bin .int false .lss (.t 21) (.t 20)))⟩])
   (.live [6, 1, 7, 19, 4, 20, 21, 22] (.seq (.cond (.t 22) (.skip)
   (.exit 0))
   (.live [6, 1, 7, 19, 4, 20, 21] (.seq (.block 1 (.seq (.region [⟨(some 23), none, (.op (.iaddr none 65 (.t 19) (.t 21)))⟩,
    ⟨(some 24), none, (.op (.load (some 65) (.t 23)))⟩,
    ⟨(some 9), none, (.op (.fresh [(.i .i64 0), (.i .u8 0), (.i .u8 0), (.i .u8 0), (.i .u8 0), (.i .u8 0), (.i .u8 0), (.i .u8 0), (.i .u8 0), (.i .u8 0), (.i .u8 0), (.i .u8 0), (.i .u8 0), (.i .u8 0), (.i .u8 0), (.i .u8 0), (.i .u8 0), (.i .u8 0), (.i .u8 0), (.i .u8 0), (.i .u8 0), (.i .u8 0), (.i .u8 0), (.i .u8 0), (.i .u8 0), (.i .u8 0), (.i .u8 0), (.i .u8 0), (.i .u8 0), (.i .u8 0), (.i .u8 0), (.i .u8 0), (.i .u8 0), (.i .u8 0), (.i .u8 0), (.i .u8 0), (.i .u8 0), (.i .u8 0), (.i .u8 0), (.i .u8 0), (.i .u8 0), (.i .u8 0), (.i .u8 0), (.i .u8 0), (.i .u8 0), (.i .u8 0), (.i .u8 0), (.i .u8 0), (.i .u8 0), (.i .u8 0), (.i .u8 0), (.i .u8 0), (.i .u8 0), (.i .u8 0), (.i .u8 0), (.i .u8 0), (.i .u8 0), (.i .u8 0), (.i .u8 0), (.i .u8 0), (.i .u8 0), (.i .u8 0), (.i .u8 0), (.i .u8 0), (.i .u8 0)]))⟩,
    ⟨none, none, (.op (.store 65 (.t 9) (.t 24)))⟩])
   (.live [6, 1, 7, 19, 4, 20, 21, 9] (.seq (.region [⟨(some 25), none, (.op (.mv (.t 7)))⟩,
    ⟨(some 26), none, (.op (.bin .int true .eql (.t 25) (.c (.i .i64 0))))⟩,
    ⟨(some 27), none, (.op (.mv (.t 26)))⟩,
    ⟨(some 28), some (27, true), (.op (.faddr 0 (.t 9)))⟩,
    ⟨(some 29), some (27, true), (.op (.load none (.t 28)))⟩,
    ⟨(some 30), some (27, true), (.op (.mv (.t 1)))⟩,
    ⟨(some 31), some (27, true), (.op (.bin .int false .eql (.t 29) (.t 30)))⟩,
    ⟨(some 32), none, (.op (.pick (.t 27) (.t 31) (.c (.b false))))⟩])
   (.live [6, 1, 7, 19, 4, 20, 21, 9, 32] (.cond (.t 32) (.region [⟨(some 33), none, (.op (.faddr 1 (.t 9)))⟩,
    ⟨(some 34), none, (.op (.load (some 64) (.t 33)))⟩,
    ⟨none, none, (.op (.store 64 (.t 6) (.t 34)))⟩])
   (.skip)))))))
   (.live [6, 1, 7, 19, 4, 20, 21] (.region [⟨(some 35), none, (.op (.bin .int true .add (.t 21) (.c (.i .i64 1))))⟩,
    ⟨(some 21), none, (.op (.mv (.t 35)))⟩]))))))
def c39 : IFunc := ⟨2, [.cell 4 (some 64), .tmp 5],
  .seq (.region [⟨(some 4), none, (.op (.fresh [(.i .u8 0), (.i .u8 0), (.i .u8 0), (.i .u8 0), (.i .u8 0), (.i .u8 0), (.i .u8 0), (.i .u8 0), (.i .u8 0), (.i .u8 0), (.i .u8 0), (.i .u8 0), (.i .u8 0), (.i .u8 0), (.i .u8 0), (.i .u8 0), (.i .u8 0), (.i .u8 0), (.i .u8 0), (.i .u8 0), (.i .u8 0), (.i .u8 0), (.i .u8 0), (.i .u8 0), (.i .u8 0), (.i .u8 0), (.i .u8 0), (.i .u8 0), (.i .u8 0), (.i .u8 0), (.i .u8 0), (.i .u8 0), (.i .u8 0), (.i .u8 0), (.i .u8 0), (.i .u8 0), (.i .u8 0), (.i .u8 0), (.i .u8 0), (.i .u8 0), (.i .u8 0), (.i .u8 0), (.i .u8 0), (.i .u8 0), (.i .u8 0), (.i .u8 0), (.i .u8 0), (.i .u8 0), (.i .u8 0), (.i .u8 0), (.i .u8 0), (.i .u8 0), (.i .u8 0), (.i .u8 0), (.i .u8 0), (.i .u8 0), (.i .u8 0), (.i .u8 0), (.i .u8 0), (.i .u8 0), (.i .u8 0), (.i .u8 0), (.i .u8 0), (.i .u8 0)]))⟩,
    ⟨(some 5), none, (.op (.mv (.c (.i .i64 0))))⟩])
   (.live [1, 4, 0] (.seq (.region [⟨(some 11), none, (.op (.mv (.t 0)))⟩,
    ⟨(some 12), none, (.op (.mv (.t 1)))⟩,
    ⟨(some 13), none, (.call 63 [(.t 11), (.t 12)])⟩,
    ⟨(some 10), none, (.op (.mv (.t 13)))⟩,
    ⟨(some 14), none, (.op (.ext (.t 10) 0))⟩,
    ⟨(some 15), none, (.op (.ext (.t 10) 1))⟩,
    ⟨(some 6), none, (.op (.fresh [(.i .u8 0), (.i .u8 0), (.i .u8 0), (.i .u8 0), (.i .u8 0), (.i .u8 0), (.i .u8 0), (.i .u8 0), (.i .u8 0), (.i .u8 0), (.i .u8 0), (.i .u8 0), (.i .u8 0), (.i .u8 0), (.i .u8 0), (.i .u8 0), (.i .u8 0), (.i .u8 0), (.i .u8 0), (.i .u8 0), (.i .u8 0), (.i .u8 0), (.i .u8 0), (.i .u8 0), (.i .u8 0), (.i .u8 0), (.i .u8 0), (.i .u8 0), (.i .u8 0), (.i .u8 0), (.i .u8 0), (.i .u8 0), (.i .u8 0), (.i .u8 0), (.i .u8 0), (.i .u8 0), (.i .u8 0), (.i .u8 0), (.i .u8 0), (.i .u8 0), (.i .u8 0), (.i .u8 0), (.i .u8 0), (.i .u8 0), (.i .u8 0), (.i .u8 0), (.i .u8 0), (.i .u8 0), (.i .u8 0), (.i .u8 0), (.i .u8 0), (.i .u8 0), (.i .u8 0), (.i .u8 0), (.i .u8 0), (.i .u8 0), (.i .u8 0), (.i .u8 0), (.i .u8 0), (.i .u8 0), (.i .u8 0), (.i .u8 0), (.i .u8 0), (.i .u8 0)]))⟩,
    ⟨none, none, (.op (.store 64 (.t 6) (.t 14)))⟩,
    ⟨(some 7), none, (.op (.mv (.t 15)))⟩])
   (.live [6, 1, 7, 4, 0] (.seq (.seq (.region [⟨(some 16), none, (.op (.mv (.t 0)))⟩,
    ⟨(some 17), none, (.op (.nilck (.t 16)))⟩,
    ⟨(some 18), none, (.op (.faddr 1 (.t 17)))⟩,
    ⟨(some 19), none, (.op (.load none (.t 18)))⟩,
    ⟨(some 20), none, (.op (.len .slice (.t 19)))⟩,
    ⟨(some 21), none, (.op (.mv (.c (.i .i64 0))))⟩])
   (.live [6, 1, 7, 19, 4, 20, 21] (.block 0 (.loop [6, 1, 7, 19, 4, 20, 21] c39l0))))
   (.live [4, 7, 6] (.seq (.region [⟨(some 36), none, (.op (.load (some 64) (.t 6)))⟩,
    ⟨(some 37), none, (.op (.mv (.t 7)))⟩,
    ⟨none, none, (.op (.store 64 (.t 4) (.t 36)))⟩,
    ⟨(some 5), none, (.op (.mv (.t 37)))⟩])
   (.ret))))))),
  []⟩


/- floodgate/frame.Open -/
def c40l0 : ICode :=
  .seq (.region [⟨(some 40), none, (.op (.bin .int false .lss (.t 39) (.t 38)))⟩])
   (.live [37, 2, 6, 5, 38, 39, 7, 40] (.seq (.cond (.t 40) (.skip)
   (.exit 0))
   (.live [37, 2, 6, 5, 38, 39, 7] (.seq (.block 1 (.seq (.region [⟨(some 41), none, (.op (.iaddr none 64 (.t 37) (.t 39)))⟩,
    ⟨(some 42), none, (.op (.load (some 64) (.t 41)))⟩,
    ⟨(some 9), none, (.op (.fresh [(.i .u8 0), (.i .u8 0), (.i .u8 0), (.i .u8 0), (.i .u8 0), (.i .u8 0), (.i .u8 0), (.i .u8 0), (.i .u8 0), (.i .u8 0), (.i .u8 0), (.i .u8 0), (.i .u8 0), (.i .u8 0), (.i .u8 0), (.i .u8 0), (.i .u8 0), (.i .u8 0), (.i .u8 0), (.i .u8 0), (.i .u8 0), (.i .u8 0), (.i .u8 0), (.i .u8 0), (.i .u8 0), (.i .u8 0), (.i .u8 0), (.i .u8 0), (.i .u8 0), (.i .u8 0), (.i .u8 0), (.i .u8 0), (.i .u8 0), (.i .u8 0), (.i .u8 0), (.i .u8 0), (.i .u8 0), (.i .u8 0), (.i .u8 0), (.i .u8 0), (.i .u8 0), (.i .u8 0), (.i .u8 0), (.i .u8 0), (.i .u8 0), (.i .u8 0), (.i .u8 0), (.i .u8 0), (.i .u8 0), (.i .u8 0), (.i .u8 0), (.i .u8 0), (.i .u8 0), (.i .u8 0), (.i .u8 0), (.i .u8 0), (.i .u8 0), (.i .u8 0), (.i .u8 0), (.i .u8 0), (.i .u8 0), (.i .u8 0), (.i .u8 0), (.i .u8 0)]))⟩,
    ⟨none, none, (.op (.store 64 (.t 9) (.t 42)))⟩])
   (.live [37, 2, 6, 5, 38, 39, 9, 7] (.region [⟨(some 43), none, (.op (.mv (.t 7)))⟩,
    ⟨(some 44), none, (.op (.sla 64 1 (.t 9) none none none))⟩,
    ⟨(some 45), none, (.op (.app 1 1 (.t 43) (.t 44)))⟩,
    ⟨(some 7), none, (.op (.mv (.t 45)))⟩]))))
   (.live [37, 2, 6, 5, 38, 7, 39] (.region [⟨(some 46), none, (.op (.bin .int true .add (.t 39) (.c (.i .i64 1))))⟩,
    ⟨(some 39), none, (.op (.mv (.t 46)))⟩]))))))
def c40d1 : List Stage :=
  [⟨[(⟨(some 67), none, (.op (.mv (.t 11)))⟩, 0), (⟨(some 68), none, (.op (.slice 1 (.t 67) (some (.c (.i .i64 2))) (some (.c (.i .i64 10))) none))⟩, 0), (⟨(some 70), none, (.op (.mv (.t 11)))⟩, 1), (⟨(some 71), none, (.op (.slice 1 (.t 70) (some (.c (.i .i64 10))) (some (.c (.i .i64 14))) none))⟩, 1), (⟨(some 74), none, (.op (.mv (.t 11)))⟩, 2), (⟨(some 75), none, (.op (.slice 1 (.t 74) (some (.c (.i .i64 14))) none none))⟩, 2)], none, some ⟨(some 69), none, (.call 64 [(.t 68)])⟩⟩,
    ⟨[], none, some ⟨(some 72), none, (.call 64 [(.t 71)])⟩⟩,
    ⟨[(⟨(some 73), none, (.op (.toInt .u32 (.t 72)))⟩, 2), (⟨(some 76), none, (.op (.build [(.i .u64 0), (.i .u32 0), .sn] [(0, 1, (.t 69)), (1, 1, (.t 73)), (2, 1, (.t 75))]))⟩, 2)], some ⟨(some 14), none, (.op (.fresh [(.i .u64 0), (.i .u32 0), .sn]))⟩, some ⟨none, none, (.op (.store 3 (.t 14) (.t 76)))⟩⟩,
    ⟨[], none, none⟩]
def c40d1w : List (ROp × Bool) :=
  [(⟨(some 67), none, (.op (.mv (.t 11)))⟩, false), (⟨(some 68), none, (.op (.slice 1 (.t 67) (some (.c (.i .i64 2))) (some (.c (.i .i64 10))) none))⟩, false), (⟨(some 70), none, (.op (.mv (.t 11)))⟩, false), (⟨(some 71), none, (.op (.slice 1 (.t 70) (some (.c (.i .i64 10))) (some (.c (.i .i64 14))) none))⟩, false), (⟨(some 74), none, (.op (.mv (.t 11)))⟩, false), (⟨(some 75), none, (.op (.slice 1 (.t 74) (some (.c (.i .i64 14))) none none))⟩, false), (⟨(some 69), none, (.call 64 [(.t 68)])⟩, true), (⟨(some 72), none, (.call 64 [(.t 71)])⟩, true), (⟨(some 73), none, (.op (.toInt .u32 (.t 72)))⟩, false), (⟨(some 76), none, (.op (.build [(.i .u64 0), (.i .u32 0), .sn] [(0, 1, (.t 69)), (1, 1, (.t 73)), (2, 1, (.t 75))]))⟩, false), (⟨(some 14), none, (.op (.fresh [(.i .u64 0), (.i .u32 0), .sn]))⟩, true), (⟨none, none, (.op (.store 3 (.t 14) (.t 76)))⟩, false)]
theorem c40d1_w {P : Program} {O : Orc} {S0 : Mem} {rd : Bool} {e : Env} {S : Mem} {d : List Nat} {Q : Kont} : W P O S0 rd (.draw c40d1 []) e S d Q = wFl O c40d1w e S (normK Q d) := W_draw' (by kernel_rfl) (by kernel_rfl)
attribute [go_sem] c40d1_w c40d1w
def c40 : IFunc := ⟨1, [.cell 2 (some 3), .tmp 3, .tmp 4],
  .seq (.region [⟨(some 2), none, (.op (.fresh [(.i .u64 0), (.i .u32 0), .sn]))⟩,
    ⟨(some 3), none, (.op (.mv (.c (.i .i64 0))))⟩,
    ⟨(some 4), none, (.op (.mv (.c (.b false))))⟩])
   (.live [2, 0] (.seq (.seq (.region [⟨(some 15), none, (.op (.mv (.t 0)))⟩,
    ⟨(some 16), none, (.op (.len .slice (.t 15)))⟩,
    ⟨(some 17), none, (.op (.bin .int true .eql (.t 16) (.c (.i .i64 0))))⟩])
   (.live [2, 0, 17] (.cond (.t 17) (.seq (.region [⟨(some 18), none, (.op (.build [(.i .u64 0), (.i .u32 0), .sn] []))⟩,
    ⟨none, none, (.op (.store 3 (.t 2) (.t 18)))⟩,
    ⟨(some 3), none, (.op (.mv (.c (.i .i64 0))))⟩,
    ⟨(some 4), none, (.op (.mv (.c (.b false))))⟩])
   (.ret))
   (.skip))))
   (.live [2, 0] (.seq (.region [⟨(some 19), none, (.op (.mv (.t 0)))⟩,
    ⟨(some 20), none, (.op (.iaddr none 64 (.t 19) (.c (.i .i64 0))))⟩,
    ⟨(some 21), none, (.op (.sla 64 1 (.t 20) none (some (.c (.i .i64 2))) none))⟩,
    ⟨(some 22), none, (.call 64 [(.t 21)])⟩,
    ⟨(some 23), none, (.op (.toInt .i64 (.t 22)))⟩,
    ⟨(some 5), none, (.op (.mv (.t 23)))⟩])
   (.live [2, 5, 0] (.seq (.region [⟨(some 24), none, (.op (.mv (.t 5)))⟩,
    ⟨(some 25), none, (.call 44 [(.t 24)])⟩,
    ⟨(some 6), none, (.op (.mv (.t 25)))⟩])
   (.live [2, 6, 5, 0] (.seq (.seq (.region [⟨(some 26), none, (.op (.mv (.t 6)))⟩,
    ⟨(some 27), none, (.op (.bin .int true .eql (.t 26) (.c (.i .i64 0))))⟩,
    ⟨(some 28), none, (.op (.mv (.t 27)))⟩,
    ⟨(some 29), some (28, false), (.op (.mv (.t 6)))⟩,
    ⟨(some 30), some (28, false), (.op (.mv (.t 0)))⟩,
    ⟨(some 31), some (28, false), (.op (.len .slice (.t 30)))⟩,
    ⟨(some 32), some (28, false), (.op (.bin .int false .gtr (.t 29) (.t 31)))⟩,
    ⟨(some 33), none, (.op (.pick (.t 28) (.c (.b true)) (.t 32)))⟩])
   (.live [2, 6, 5, 0, 33] (.cond (.t 33) (.seq (.region [⟨(some 34), none, (.op (.build [(.i .u64 0), (.i .u32 0), .sn] []))⟩,
    ⟨none, none, (.op (.store 3 (.t 2) (.t 34)))⟩,
    ⟨(some 3), none, (.op (.mv (.c (.i .i64 0))))⟩,
    ⟨(some 4), none, (.op (.mv (.c (.b false))))⟩])
   (.ret))
   (.skip))))
   (.live [2, 6, 5, 0] (.seq (.region [⟨(some 7), none, (.op (.mv (.c .sn)))⟩])
   (.live [2, 6, 5, 7, 0] (.seq (.seq (.region [⟨(some 35), none, (.op (.mv (.t 0)))⟩,
    ⟨(some 36), none, (.op (.mv (.t 6)))⟩,
    ⟨(some 37), none, (.op (.slice 64 (.t 35) none (some (.t 36)) none))⟩,
    ⟨(some 38), none, (.op (.len .slice (.t 37)))⟩,
    ⟨(some 39), none, (.op (.mv (.c (.i .i64 0))))⟩])
   (.live [37, 2, 6, 5, 38, 39, 7] (.block 0 (.loop [37, 2, 6, 5, 38, 39, 7] c40l0))))
   (.live [2, 6, 7, 5] (.seq (.region [⟨(some 47), none, (.op (.mv (.t 5)))⟩,
    ⟨(some 48), none, (.op (.bin .int true .add (.c (.i .i64 14)) (.t 47)))⟩,
    ⟨(some 49), none, (.op (.bin .int true .add (.t 48) (.c (.i .i64 4))))⟩,
    ⟨(some 10), none, (.op (.mv (.t 49)))⟩])
   (.live [2, 6, 10, 7] (.seq (.region [⟨(some 51), none, (.op (.mv (.t 7)))⟩,
    ⟨(some 52), none, (.op (.mv (.t 10)))⟩,
    ⟨(some 53), none, (.op (.slice 1 (.t 51) none (some (.t 52)) none))⟩,
    ⟨(some 54), none, (.call 65 [(.t 53)])⟩,
    ⟨(some 50), none, (.op (.mv (.t 54)))⟩,
    ⟨(some 55), none, (.op (.ext (.t 50) 0))⟩,
    ⟨(some 56), none, (.op (.ext (.t 50) 1))⟩,
    ⟨(some 11), none, (.op (.mv (.t 55)))⟩,
    ⟨(some 12), none, (.op (.mv (.t 56)))⟩])
   (.live [2, 6, 11, 12, 10, 7] (.seq (.region [⟨(some 57), none, (.op (.mv (.t 7)))⟩,
    ⟨(some 58), none, (.op (.mv (.t 10)))⟩,
    ⟨(some 59), none, (.op (.slice 1 (.t 57) (some (.t 58)) none none))⟩,
    ⟨(some 60), none, (.call 66 [(.t 59), (.c (.f (.func 67) [] []))])⟩,
    ⟨(some 13), none, (.op (.mv (.t 60)))⟩])
   (.live [2, 6, 11, 13, 12] (.seq (.seq (.region [⟨(some 61), none, (.op (.mv (.t 12)))⟩,
    ⟨(some 62), none, (.op (.un .not (.t 61)))⟩,
    ⟨(some 63), none, (.op (.mv (.t 62)))⟩,
    ⟨(some 64), some (63, false), (.op (.mv (.t 13)))⟩,
    ⟨(some 65), none, (.op (.pick (.t 63) (.c (.b true)) (.t 64)))⟩])
   (.live [2, 6, 11, 65] (.cond (.t 65) (.seq (.region [⟨(some 66), none, (.op (.build [(.i .u64 0), (.i .u32 0), .sn] []))⟩,
    ⟨none, none, (.op (.store 3 (.t 2) (.t 66)))⟩,
    ⟨(some 3), none, (.op (.mv (.c (.i .i64 0))))⟩,
    ⟨(some 4), none, (.op (.mv (.c (.b false))))⟩])
   (.ret))
   (.skip))))
   (.live [2, 6, 11] (.seq (.draw c40d1 [])
   (.live [2, 6, 14] (.seq (.seq (.region [⟨(some 77), none, (.op (.faddr 0 (.t 14)))⟩,
    ⟨(some 78), none, (.op (.load none (.t 77)))⟩,
    ⟨(some 79), none, (.op (.bin .int true .eql (.t 78) (.c (.i .u64 0))))⟩])
   (.live [2, 6, 14, 79] (.cond (.t 79) (.seq (.region [⟨(some 80), none, (.op (.build [(.i .u64 0), (.i .u32 0), .sn] []))⟩,
    ⟨none, none, (.op (.store 3 (.t 2) (.t 80)))⟩,
    ⟨(some 3), none, (.op (.mv (.c (.i .i64 0))))⟩,
    ⟨(some 4), none, (.op (.mv (.c (.b false))))⟩])
   (.ret))
   (.skip))))
   (.live [2, 6, 14] (.seq (.region [⟨(some 81), none, (.op (.load (some 3) (.t 14)))⟩,
    ⟨(some 82), none, (.op (.mv (.t 6)))⟩,
    ⟨none, none, (.op (.store 3 (.t 2) (.t 81)))⟩,
    ⟨(some 3), none, (.op (.mv (.t 82)))⟩,
    ⟨(some 4), none, (.op (.mv (.c (.b true))))⟩])
   (.ret))))))))))))))))))))))))))),
  []⟩


/- floodgate/slot.check -/
def c41d0 : List Stage :=
  [⟨[(⟨(some 60), none, (.op (.load (some 6) (.t 14)))⟩, 1), (⟨(some 61), none, (.op (.mv (.t 12)))⟩, 0), (⟨(some 62), none, (.op (.mv (.t 61)))⟩, 0), (⟨(some 63), some (62, true), (.op (.mv (.t 8)))⟩, 0), (⟨(some 64), some (62, true), (.op (.bin .int true .eql (.t 63) (.c (.i .i64 0))))⟩, 0), (⟨(some 65), none, (.op (.pick (.t 62) (.t 64) (.c (.b false))))⟩, 0), (⟨(some 66), none, (.op (.mv (.t 65)))⟩, 0), (⟨(some 67), some (66, true), (.op (.mv (.t 0)))⟩, 0), (⟨(some 68), some (66, true), (.op (.load (some 6) (.t 14)))⟩, 0)], none, some ⟨(some 69), some (66, true), (.call 15 [(.t 67), (.t 68)])⟩⟩,
    ⟨[(⟨(some 70), none, (.op (.pick (.t 66) (.t 69) (.c (.b false))))⟩, 2)], none, some ⟨none, none, (.op (.store 6 (.t 4) (.t 60)))⟩⟩,
    ⟨[(⟨(some 5), none, (.op (.mv (.t 70)))⟩, 2)], none, none⟩]
def c41d0w : List (ROp × Bool) :=
  [(⟨(some 60), none, (.op (.load (some 6) (.t 14)))⟩, false), (⟨(some 61), none, (.op (.mv (.t 12)))⟩, false), (⟨(some 62), none, (.op (.mv (.t 61)))⟩, false), (⟨(some 63), some (62, true), (.op (.mv (.t 8)))⟩, false), (⟨(some 64), some (62, true), (.op (.bin .int true .eql (.t 63) (.c (.i .i64 0))))⟩, false), (⟨(some 65), none, (.op (.pick (.t 62) (.t 64) (.c (.b false))))⟩, false), (⟨(some 66), none, (.op (.mv (.t 65)))⟩, false), (⟨(some 67), some (66, true), (.op (.mv (.t 0)))⟩, false), (⟨(some 68), some (66, true), (.op (.load (some 6) (.t 14)))⟩, false), (⟨(some 69), some (66, true), (.call 15 [(.t 67), (.t 68)])⟩, true), (⟨(some 70), none, (.op (.pick (.t 66) (.t 69) (.c (.b false))))⟩, false), (⟨none, none, (.op (.store 6 (.t 4) (.t 60)))⟩, false), (⟨(some 5), none, (.op (.mv (.t 70)))⟩, false)]
theorem c41d0_w {P : Program} {O : Orc} {S0 : Mem} {rd : Bool} {e : Env} {S : Mem} {d : List Nat} {Q : Kont} : W P O S0 rd (.draw c41d0 []) e S d Q = wFl O c41d0w e S (normK Q d) := W_draw' (by kernel_rfl) (by kernel_rfl)
attribute [go_sem] c41d0_w c41d0w
def c41 : IFunc := ⟨2, [.cell 4 (some 6), .tmp 5],
  .seq (.region [⟨(some 3), none, (.op (.box (.t 1)))⟩,
    ⟨(some 4), none, (.op (.fresh [(.i .u64 0), (.i .u32 0), (.i .u64 0), (.i .i64 0), (.i .u64 0), .sn]))⟩,
    ⟨(some 5), none, (.op (.mv (.c (.b false))))⟩])
   (.live [4, 0, 3] (.seq (.region [⟨(some 16), none, (.op (.faddr 2 (.t 3)))⟩,
    ⟨(some 17), none, (.op (.load none (.t 16)))⟩,
    ⟨(some 18), none, (.call 68 [(.t 17)])⟩,
    ⟨(some 15), none, (.op (.mv (.t 18)))⟩,
    ⟨(some 19), none, (.op (.ext (.t 15) 0))⟩,
    ⟨(some 20), none, (.op (.ext (.t 15) 1))⟩,
    ⟨(some 21), none, (.op (.ext (.t 15) 2))⟩,
    ⟨(some 6), none, (.op (.mv (.t 19)))⟩,
    ⟨(some 7), none, (.op (.mv (.t 20)))⟩,
    ⟨(some 8), none, (.op (.mv (.t 21)))⟩])
   (.live [4, 0, 6, 3, 7, 8] (.seq (.seq (.region [⟨(some 22), none, (.op (.mv (.t 8)))⟩,
    ⟨(some 23), none, (.op (.bin .int true .neq (.t 22) (.c (.i .i64 0))))⟩])
   (.live [4, 0, 6, 3, 7, 23] (.cond (.t 23) (.seq (.region [⟨(some 24), none, (.op (.build [(.i .u64 0), (.i .u32 0), (.i .u64 0), (.i .i64 0), (.i .u64 0), .sn] []))⟩,
    ⟨none, none, (.op (.store 6 (.t 4) (.t 24)))⟩,
    ⟨(some 5), none, (.op (.mv (.c (.b false))))⟩])
   (.ret))
   (.skip))))
   (.live [4, 0, 6, 3, 7] (.seq (.region [⟨(some 26), none, (.op (.faddr 2 (.t 3)))⟩,
    ⟨(some 27), none, (.op (.load none (.t 26)))⟩,
    ⟨(some 28), none, (.op (.mv (.t 7)))⟩,
    ⟨(some 29), none, (.op (.slice 1 (.t 27) (some (.t 28)) none none))⟩,
    ⟨(some 30), none, (.call 68 [(.t 29)])⟩,
    ⟨(some 25), none, (.op (.mv (.t 30)))⟩,
    ⟨(some 31), none, (.op (.ext (.t 25) 0))⟩,
    ⟨(some 32), none, (.op (.ext (.t 25) 1))⟩,
    ⟨(some 33), none, (.op (.ext (.t 25) 2))⟩,
    ⟨(some 9), none, (.op (.mv (.t 31)))⟩,
    ⟨(some 10), none, (.op (.mv (.t 32)))⟩,
    ⟨(some 8), none, (.op (.mv (.t 33)))⟩])
   (.live [4, 0, 6, 3, 10, 7, 9, 8] (.seq (.seq (.region [⟨(some 34), none, (.op (.mv (.t 8)))⟩,
    ⟨(some 35), none, (.op (.bin .int true .neq (.t 34) (.c (.i .i64 0))))⟩])
   (.live [4, 0, 6, 3, 10, 7, 9, 35] (.cond (.t 35) (.seq (.region [⟨(some 36), none, (.op (.build [(.i .u64 0), (.i .u32 0), (.i .u64 0), (.i .i64 0), (.i .u64 0), .sn] []))⟩,
    ⟨none, none, (.op (.store 6 (.t 4) (.t 36)))⟩,
    ⟨(some 5), none, (.op (.mv (.c (.b false))))⟩])
   (.ret))
   (.skip))))
   (.live [4, 0, 6, 3, 10, 7, 9] (.seq (.region [⟨(some 38), none, (.op (.mv (.t 9)))⟩,
    ⟨(some 39), none, (.call 69 [(.t 38)])⟩,
    ⟨(some 37), none, (.op (.mv (.t 39)))⟩,
    ⟨(some 40), none, (.op (.ext (.t 37) 0))⟩,
    ⟨(some 41), none, (.op (.ext (.t 37) 1))⟩,
    ⟨(some 11), none, (.op (.mv (.t 40)))⟩,
    ⟨(some 12), none, (.op (.mv (.t 41)))⟩])
   (.live [4, 12, 0, 11, 6, 3, 10, 7] (.seq (.region [⟨(some 43), none, (.op (.faddr 2 (.t 3)))⟩,
    ⟨(some 44), none, (.op (.load none (.t 43)))⟩,
    ⟨(some 45), none, (.op (.mv (.t 7)))⟩,
    ⟨(some 46), none, (.op (.mv (.t 10)))⟩,
    ⟨(some 47), none, (.op (.bin .int false .add (.t 45) (.t 46)))⟩,
    ⟨(some 48), none, (.op (.slice 1 (.t 44) (some (.t 47)) none none))⟩,
    ⟨(some 49), none, (.call 70 [(.t 48)])⟩,
    ⟨(some 42), none, (.op (.mv (.t 49)))⟩,
    ⟨(some 50), none, (.op (.ext (.t 42) 0))⟩,
    ⟨(some 51), none, (.op (.ext (.t 42) 1))⟩,
    ⟨(some 13), none, (.op (.fresh [(.i .u64 0), .sn]))⟩,
    ⟨none, none, (.op (.store 2 (.t 13) (.t 50)))⟩,
    ⟨(some 8), none, (.op (.mv (.t 51)))⟩])
   (.live [4, 12, 8, 0, 13, 11, 6, 3] (.seq (.region [⟨(some 52), none, (.op (.faddr 0 (.t 3)))⟩,
    ⟨(some 53), none, (.op (.load none (.t 52)))⟩,
    ⟨(some 54), none, (.op (.faddr 1 (.t 3)))⟩,
    ⟨(some 55), none, (.op (.load none (.t 54)))⟩,
    ⟨(some 56), none, (.op (.mv (.t 6)))⟩,
    ⟨(some 57), none, (.op (.mv (.t 11)))⟩,
    ⟨(some 58), none, (.op (.load (some 2) (.t 13)))⟩,
    ⟨(some 59), none, (.op (.build [(.i .u64 0), (.i .u32 0), (.i .u64 0), (.i .i64 0), (.i .u64 0), .sn] [(0, 1, (.t 53)), (1, 1, (.t 55)), (2, 1, (.t 56)), (3, 1, (.t 57)), (4, 2, (.t 58))]))⟩,
    ⟨(some 14), none, (.op (.fresh [(.i .u64 0), (.i .u32 0), (.i .u64 0), (.i .i64 0), (.i .u64 0), .sn]))⟩,
    ⟨none, none, (.op (.store 6 (.t 14) (.t 59)))⟩])
   (.live [4, 12, 8, 0, 14] (.seq (.draw c41d0 [])
   (.ret))))))))))))))))),
  []⟩


/- (*floodgate/disk.Disk).keep -/
def c42d0 : List Stage :=
  [⟨[(⟨(some 19), none, (.op (.mv (.t 0)))⟩, 0), (⟨(some 20), none, (.op (.nilck (.t 19)))⟩, 0), (⟨(some 21), none, (.op (.faddr 0 (.t 20)))⟩, 0), (⟨(some 22), none, (.op (.load none (.t 21)))⟩, 0), (⟨(some 23), none, (.op (.faddr 0 (.t 5)))⟩, 0), (⟨(some 24), none, (.op (.load none (.t 23)))⟩, 0), (⟨(some 25), none, (.op (.faddr 1 (.t 5)))⟩, 0), (⟨(some 26), none, (.op (.load (some 64) (.t 25)))⟩, 0), (⟨(some 27), none, (.op (.iaddr none 64 (.t 22) (.t 24)))⟩, 0)], none, some ⟨none, none, (.op (.store 64 (.t 27) (.t 26)))⟩⟩,
    ⟨[], none, none⟩]
def c42d0w : List (ROp × Bool) :=
  [(⟨(some 19), none, (.op (.mv (.t 0)))⟩, false), (⟨(some 20), none, (.op (.nilck (.t 19)))⟩, false), (⟨(some 21), none, (.op (.faddr 0 (.t 20)))⟩, false), (⟨(some 22), none, (.op (.load none (.t 21)))⟩, false), (⟨(some 23), none, (.op (.faddr 0 (.t 5)))⟩, false), (⟨(some 24), none, (.op (.load none (.t 23)))⟩, false), (⟨(some 25), none, (.op (.faddr 1 (.t 5)))⟩, false), (⟨(some 26), none, (.op (.load (some 64) (.t 25)))⟩, false), (⟨(some 27), none, (.op (.iaddr none 64 (.t 22) (.t 24)))⟩, false), (⟨none, none, (.op (.store 64 (.t 27) (.t 26)))⟩, false)]
theorem c42d0_w {P : Program} {O : Orc} {S0 : Mem} {rd : Bool} {e : Env} {S : Mem} {d : List Nat} {Q : Kont} : W P O S0 rd (.draw c42d0 []) e S d Q = wFl O c42d0w e S (normK Q d) := W_draw' (by kernel_rfl) (by kernel_rfl)
attribute [go_sem] c42d0_w c42d0w
def c42l1 : ICode :=
  .seq (.region [⟨(some 12), none, (.op (.bin .int false .lss (.t 11) (.t 10)))⟩])
   (.live [0, 1, 9, 10, 11, 12] (.seq (.cond (.t 12) (.skip)
   (.exit 0))
   (.live [0, 1, 9, 10, 11] (.seq (.block 1 (.seq (.region [⟨(some 13), none, (.op (.mv (.t 11)))⟩,
    ⟨(some 14), none, (.op (.iaddr none 65 (.t 9) (.t 11)))⟩,
    ⟨(some 15), none, (.op (.load (some 65) (.t 14)))⟩,
    ⟨(some 5), none, (.op (.fresh [(.i .i64 0), (.i .u8 0), (.i .u8 0), (.i .u8 0), (.i .u8 0), (.i .u8 0), (.i .u8 0), (.i .u8 0), (.i .u8 0), (.i .u8 0), (.i .u8 0), (.i .u8 0), (.i .u8 0), (.i .u8 0), (.i .u8 0), (.i .u8 0), (.i .u8 0), (.i .u8 0), (.i .u8 0), (.i .u8 0), (.i .u8 0), (.i .u8 0), (.i .u8 0), (.i .u8 0), (.i .u8 0), (.i .u8 0), (.i .u8 0), (.i .u8 0), (.i .u8 0), (.i .u8 0), (.i .u8 0), (.i .u8 0), (.i .u8 0), (.i .u8 0), (.i .u8 0), (.i .u8 0), (.i .u8 0), (.i .u8 0), (.i .u8 0), (.i .u8 0), (.i .u8 0), (.i .u8 0), (.i .u8 0), (.i .u8 0), (.i .u8 0), (.i .u8 0), (.i .u8 0), (.i .u8 0), (.i .u8 0), (.i .u8 0), (.i .u8 0), (.i .u8 0), (.i .u8 0), (.i .u8 0), (.i .u8 0), (.i .u8 0), (.i .u8 0), (.i .u8 0), (.i .u8 0), (.i .u8 0), (.i .u8 0), (.i .u8 0), (.i .u8 0), (.i .u8 0), (.i .u8 0)]))⟩,
    ⟨(some 4), none, (.op (.mv (.t 13)))⟩,
    ⟨none, none, (.op (.store 65 (.t 5) (.t 15)))⟩])
   (.live [0, 1, 9, 10, 11, 5, 4] (.seq (.region [⟨(some 16), none, (.op (.mv (.t 1)))⟩,
    ⟨(some 17), none, (.op (.mv (.t 4)))⟩,
    ⟨(some 18), none, (.callv (.t 16) [(.t 17)])⟩])
   (.live [0, 1, 9, 10, 11, 5, 18] (.cond (.t 18) (.draw c42d0 [])
   (.skip)))))))
   (.live [0, 1, 9, 10, 11] (.region [⟨(some 28), none, (.op (.bin .int true .add (.t 11) (.c (.i .i64 1))))⟩,
    ⟨(some 11), none, (.op (.mv (.t 28)))⟩]))))))
def c42 : IFunc := ⟨2, [],
  .seq (.seq (.region [⟨(some 6), none, (.op (.mv (.t 0)))⟩,
    ⟨(some 7), none, (.op (.nilck (.t 6)))⟩,
    ⟨(some 8), none, (.op (.faddr 1 (.t 7)))⟩,
    ⟨(some 9), none, (.op (.load none (.t 8)))⟩,
    ⟨(some 10), none, (.op (.len .slice (.t 9)))⟩,
    ⟨(some 11), none, (.op (.mv (.c (.i .i64 0))))⟩])
   (.live [0, 1, 9, 10, 11] (.block 0 (.loop [0, 1, 9, 10, 11] c42l1))))
   (.live [0] (.region [⟨(some 29), none, (.op (.mv (.t 0)))⟩,
    ⟨(some 30), none, (.op (.nilck (.t 29)))⟩,
    ⟨(some 31), none, (.op (.faddr 1 (.t 30)))⟩,
    ⟨none, none, (.op (.store 1 (.t 31) (.c .sn)))⟩])),
  []⟩


/- (*floodgate/disk.Disk).Crash$1 -/

def c43 : IFunc := ⟨2, [.tmp 3],
  .seq (.region [⟨(some 3), none, (.op (.mv (.c (.b false))))⟩])
   (.live [0, 1] (.seq (.region [⟨(some 4), none, (.op (.mv (.t 0)))⟩,
    ⟨(some 5), none, (.op (.load none (.t 1)))⟩,
    ⟨(some 6), none, (.op (.len .slice (.t 5)))⟩,
    ⟨(some 7), none, (.op (.bin .int false .lss (.t 4) (.t 6)))⟩,
    ⟨(some 8), none, (.op (.mv (.t 7)))⟩,
    ⟨(some 9), some (8, true), (.op (.load none (.t 1)))⟩,
    ⟨(some 10), some (8, true), (.op (.mv (.t 0)))⟩,
    ⟨(some 11), some (8, true), (.op (.iaddr none 1 (.t 9) (.t 10)))⟩,
    ⟨(some 12), some (8, true), (.op (.load none (.t 11)))⟩,
    ⟨(some 13), none, (.op (.pick (.t 8) (.t 12) (.c (.b false))))⟩,
    ⟨(some 3), none, (.op (.mv (.t 13)))⟩])
   (.ret))),
  []⟩


/- floodgate/frame.Size -/

def c44 : IFunc := ⟨1, [.tmp 2],
  .seq (.region [⟨(some 2), none, (.op (.mv (.c (.i .i64 0))))⟩])
   (.live [0] (.seq (.seq (.region [⟨(some 3), none, (.op (.mv (.t 0)))⟩,
    ⟨(some 4), none, (.op (.bin .int true .lss (.t 3) (.c (.i .i64 0))))⟩,
    ⟨(some 5), none, (.op (.mv (.t 4)))⟩,
    ⟨(some 6), some (5, false), (.op (.mv (.t 0)))⟩,
    ⟨(some 7), some (5, false), (.op (.bin .int true .gtr (.t 6) (.c (.i .i64 700))))⟩,
    ⟨(some 8), none, (.op (.pick (.t 5) (.c (.b true)) (.t 7)))⟩])
   (.live [0, 8] (.cond (.t 8) (.seq (.region [⟨(some 2), none, (.op (.mv (.c (.i .i64 0))))⟩])
   (.ret))
   (.skip))))
   (.live [0] (.seq (.region [⟨(some 9), none, (.op (.mv (.t 0)))⟩,
    ⟨(some 10), none, (.op (.bin .int true .add (.c (.i .i64 14)) (.t 9)))⟩,
    ⟨(some 11), none, (.op (.bin .int true .add (.t 10) (.c (.i .i64 4))))⟩,
    ⟨(some 12), none, (.op (.bin .int true .add (.t 11) (.c (.i .i64 64))))⟩,
    ⟨(some 13), none, (.op (.bin .int true .sub (.t 12) (.c (.i .i64 1))))⟩,
    ⟨(some 14), none, (.op (.bin .int true .quo (.t 13) (.c (.i .i64 64))))⟩,
    ⟨(some 2), none, (.op (.mv (.t 14)))⟩])
   (.ret))))),
  []⟩


/- floodgate/crc.Seal -/

def c45 : IFunc := ⟨1, [.tmp 2],
  .seq (.region [⟨(some 2), none, (.op (.mv (.c .sn)))⟩])
   (.live [0] (.seq (.region [⟨(some 3), none, (.op (.mv (.t 0)))⟩,
    ⟨(some 4), none, (.op (.mv (.t 0)))⟩,
    ⟨(some 5), none, (.op (.bslice [.sn] 1 [(0, 1, (.t 4))]))⟩,
    ⟨(some 6), none, (.call 72 [(.t 5)])⟩,
    ⟨(some 7), none, (.call 71 [(.t 6)])⟩,
    ⟨(some 8), none, (.op (.bslice [.sn] 2 [(0, 1, (.t 3)), (1, 1, (.t 7))]))⟩,
    ⟨(some 9), none, (.call 28 [(.t 8)])⟩,
    ⟨(some 2), none, (.op (.mv (.t 9)))⟩])
   (.ret))),
  []⟩


/- floodgate/frame.number -/
def c46ra0 : ICode :=
  .region [⟨(some 6), none, (.op (.mv (.t 11)))⟩]
def c46rb0 : ICode :=
  .block 1 (.seq (.region [⟨(some 13), none, (.op (.load none (.t 5)))⟩,
    ⟨(some 14), none, (.op (.mv (.t 6)))⟩,
    ⟨(some 15), none, (.op (.load none (.t 2)))⟩,
    ⟨(some 16), none, (.op (.toInt .u8 (.t 15)))⟩,
    ⟨(some 17), none, (.op (.iaddr none 1 (.t 13) (.t 14)))⟩,
    ⟨none, none, (.op (.store 1 (.t 17) (.t 16)))⟩])
   (.live [2] (.region [⟨(some 18), none, (.op (.load none (.t 2)))⟩,
    ⟨(some 19), none, (.op (.bin .int true .shr (.t 18) (.c (.i .u64 8))))⟩,
    ⟨none, none, (.op (.store 1 (.t 2) (.t 19)))⟩])))
def c46 : IFunc := ⟨2, [.tmp 4],
  .seq (.region [⟨(some 2), none, (.op (.box (.t 0)))⟩,
    ⟨(some 4), none, (.op (.mv (.c .sn)))⟩])
   (.live [11, 6, 15, 13, 14, 17, 16, 18, 2, 19, 1] (.seq (.region [⟨(some 7), none, (.op (.mv (.t 1)))⟩,
    ⟨(some 8), none, (.op (.mks [(.i .u8 0)] 1 (.t 7) (.t 7)))⟩,
    ⟨(some 5), none, (.op (.fresh [.sn]))⟩,
    ⟨none, none, (.op (.store 1 (.t 5) (.t 8)))⟩])
   (.live [5, 11, 6, 15, 13, 14, 17, 16, 18, 2, 19] (.seq (.seq (.region [⟨(some 9), none, (.op (.load none (.t 5)))⟩,
    ⟨(some 10), none, (.call 73 [(.t 9)])⟩])
   (.live [5, 11, 6, 15, 13, 14, 17, 16, 18, 2, 19, 10] (.block 0 (.rf (.t 10) 46 [true, true, false, true, false] [11, 5, 6, 2, 15, 13, 14, 17, 16, 2, 18, 2, 19]))))
   (.live [5] (.seq (.region [⟨(some 20), none, (.op (.load none (.t 5)))⟩,
    ⟨(some 4), none, (.op (.mv (.t 20)))⟩])
   (.ret))))))),
  [([true, true, false, true, false], [11, 12], c46ra0, c46rb0)]⟩


/- (*floodgate/disk.Disk).there -/

def c47 : IFunc := ⟨2, [.tmp 4],
  .seq (.region [⟨(some 4), none, (.op (.mv (.c (.b false))))⟩])
   (.live [0, 1] (.seq (.region [⟨(some 5), none, (.op (.mv (.t 1)))⟩,
    ⟨(some 6), none, (.op (.bin .int true .geq (.t 5) (.c (.i .i64 0))))⟩,
    ⟨(some 7), none, (.op (.mv (.t 6)))⟩,
    ⟨(some 8), some (7, true), (.op (.mv (.t 1)))⟩,
    ⟨(some 9), some (7, true), (.op (.mv (.t 0)))⟩,
    ⟨(some 10), some (7, true), (.op (.nilck (.t 9)))⟩,
    ⟨(some 11), some (7, true), (.op (.faddr 0 (.t 10)))⟩,
    ⟨(some 12), some (7, true), (.op (.load none (.t 11)))⟩,
    ⟨(some 13), some (7, true), (.op (.len .slice (.t 12)))⟩,
    ⟨(some 14), some (7, true), (.op (.bin .int false .lss (.t 8) (.t 13)))⟩,
    ⟨(some 15), none, (.op (.pick (.t 7) (.t 14) (.c (.b false))))⟩,
    ⟨(some 4), none, (.op (.mv (.t 15)))⟩])
   (.ret))),
  []⟩


/- (*floodgate/disk.Disk).act -/

def c48 : IFunc := ⟨1, [.tmp 2],
  .seq (.region [⟨(some 2), none, (.op (.mv (.c (.i .i64 0))))⟩])
   (.live [0] (.seq (.block 0 (.seq (.region [⟨(some 4), none, (.op (.mv (.t 0)))⟩,
    ⟨(some 5), none, (.op (.nilck (.t 4)))⟩,
    ⟨(some 6), none, (.op (.faddr 3 (.t 5)))⟩,
    ⟨(some 7), none, (.op (.load none (.t 6)))⟩,
    ⟨(some 3), none, (.op (.mv (.t 7)))⟩])
   (.live [0, 3] (.cond (.t 3) (.skip)
   (.seq (.region [⟨(some 9), none, (.op (.mv (.t 0)))⟩,
    ⟨(some 10), none, (.op (.nilck (.t 9)))⟩,
    ⟨(some 11), none, (.op (.faddr 2 (.t 10)))⟩,
    ⟨(some 12), none, (.op (.load none (.t 11)))⟩,
    ⟨(some 13), none, (.op (.bin .int true .eql (.t 12) (.c (.i .i64 (-1)))))⟩,
    ⟨(some 8), none, (.op (.mv (.t 13)))⟩])
   (.live [0, 8] (.cond (.t 8) (.seq (.region [⟨(some 2), none, (.op (.mv (.c (.i .i64 0))))⟩])
   (.ret))
   (.seq (.region [⟨(some 15), none, (.op (.mv (.t 0)))⟩,
    ⟨(some 16), none, (.op (.nilck (.t 15)))⟩,
    ⟨(some 17), none, (.op (.faddr 2 (.t 16)))⟩,
    ⟨(some 18), none, (.op (.load none (.t 17)))⟩,
    ⟨(some 19), none, (.op (.bin .int true .gtr (.t 18) (.c (.i .i64 0))))⟩,
    ⟨(some 14), none, (.op (.mv (.t 19)))⟩])
   (.live [0, 14] (.cond (.t 14) (.seq (.region [⟨(some 20), none, (.op (.mv (.t 0)))⟩,
    ⟨(some 21), none, (.op (.nilck (.t 20)))⟩,
    ⟨(some 22), none, (.op (.faddr 2 (.t 21)))⟩,
    ⟨(some 23), none, (.op (.load none (.t 22)))⟩,
    ⟨(some 24), none, (.op (.bin .int true .sub (.t 23) (.c (.i .i64 1))))⟩,
    ⟨(some 25), none, (.op (.nilck (.t 20)))⟩,
    ⟨(some 26), none, (.op (.faddr 2 (.t 25)))⟩,
    ⟨none, none, (.op (.store 1 (.t 26) (.t 24)))⟩])
   (.live [] (.seq (.region [⟨(some 2), none, (.op (.mv (.c (.i .i64 0))))⟩])
   (.ret))))
   (.skip)))))))))))
   (.live [0] (.seq (.region [⟨(some 27), none, (.op (.mv (.t 0)))⟩,
    ⟨(some 28), none, (.op (.nilck (.t 27)))⟩,
    ⟨(some 29), none, (.op (.faddr 3 (.t 28)))⟩,
    ⟨none, none, (.op (.store 1 (.t 29) (.c (.b true))))⟩])
   (.live [] (.seq (.region [⟨(some 2), none, (.op (.mv (.c (.i .i64 72))))⟩])
   (.ret))))))),
  []⟩


/- (*floodgate/disk.Disk).Sync$1 -/

def c49 : IFunc := ⟨1, [.tmp 2],
  .seq (.region [⟨(some 2), none, (.op (.mv (.c (.b false))))⟩])
   (.live [] (.seq (.region [⟨(some 2), none, (.op (.mv (.c (.b true))))⟩])
   (.ret))),
  []⟩


/- floodgate/policy.Nums -/
def c50d0 : List Stage :=
  [⟨[(⟨(some 6), none, (.op (.faddr 0 (.t 1)))⟩, 1), (⟨(some 7), none, (.op (.load none (.t 6)))⟩, 1), (⟨(some 8), none, (.op (.toInt .u64 (.t 7)))⟩, 1), (⟨(some 9), none, (.op (.faddr 1 (.t 1)))⟩, 0), (⟨(some 10), none, (.op (.faddr 0 (.t 9)))⟩, 0), (⟨(some 11), none, (.op (.load (some 4) (.t 10)))⟩, 0), (⟨(some 14), none, (.op (.faddr 1 (.t 1)))⟩, 1), (⟨(some 15), none, (.op (.faddr 4 (.t 14)))⟩, 1), (⟨(some 16), none, (.op (.load none (.t 15)))⟩, 1), (⟨(some 17), none, (.op (.toInt .u64 (.t 16)))⟩, 1), (⟨(some 18), none, (.op (.faddr 6 (.t 1)))⟩, 1), (⟨(some 19), none, (.op (.load none (.t 18)))⟩, 1), (⟨(some 20), none, (.op (.faddr 7 (.t 1)))⟩, 1), (⟨(some 21), none, (.op (.load none (.t 20)))⟩, 1), (⟨(some 22), none, (.op (.faddr 8 (.t 1)))⟩, 1), (⟨(some 23), none, (.op (.load none (.t 22)))⟩, 1), (⟨(some 24), none, (.op (.faddr 9 (.t 1)))⟩, 1), (⟨(some 25), none, (.op (.load none (.t 24)))⟩, 1), (⟨(some 26), none, (.op (.faddr 10 (.t 1)))⟩, 1), (⟨(some 27), none, (.op (.load none (.t 26)))⟩, 1), (⟨(some 28), none, (.op (.faddr 11 (.t 1)))⟩, 1), (⟨(some 29), none, (.op (.load none (.t 28)))⟩, 1), (⟨(some 30), none, (.op (.faddr 12 (.t 1)))⟩, 1), (⟨(some 31), none, (.op (.load none (.t 30)))⟩, 1)], none, some ⟨(some 12), none, (.call 75 [(.t 11)])⟩⟩,
    ⟨[(⟨(some 13), none, (.op (.toInt .u64 (.t 12)))⟩, 1)], none, some ⟨(some 32), none, (.op (.bslice [(.i .u64 0)] 10 [(0, 1, (.t 8)), (1, 1, (.t 13)), (2, 1, (.t 17)), (3, 1, (.t 19)), (4, 1, (.t 21)), (5, 1, (.t 23)), (6, 1, (.t 25)), (7, 1, (.t 27)), (8, 1, (.t 29)), (9, 1, (.t 31))]))⟩⟩,
    ⟨[(⟨(some 2), none, (.op (.mv (.t 32)))⟩, 2)], none, none⟩]
def c50d0w : List (ROp × Bool) :=
  [(⟨(some 6), none, (.op (.faddr 0 (.t 1)))⟩, false), (⟨(some 7), none, (.op (.load none (.t 6)))⟩, false), (⟨(some 8), none, (.op (.toInt .u64 (.t 7)))⟩, false), (⟨(some 9), none, (.op (.faddr 1 (.t 1)))⟩, false), (⟨(some 10), none, (.op (.faddr 0 (.t 9)))⟩, false), (⟨(some 11), none, (.op (.load (some 4) (.t 10)))⟩, false), (⟨(some 14), none, (.op (.faddr 1 (.t 1)))⟩, false), (⟨(some 15), none, (.op (.faddr 4 (.t 14)))⟩, false), (⟨(some 16), none, (.op (.load none (.t 15)))⟩, false), (⟨(some 17), none, (.op (.toInt .u64 (.t 16)))⟩, false), (⟨(some 18), none, (.op (.faddr 6 (.t 1)))⟩, false), (⟨(some 19), none, (.op (.load none (.t 18)))⟩, false), (⟨(some 20), none, (.op (.faddr 7 (.t 1)))⟩, false), (⟨(some 21), none, (.op (.load none (.t 20)))⟩, false), (⟨(some 22), none, (.op (.faddr 8 (.t 1)))⟩, false), (⟨(some 23), none, (.op (.load none (.t 22)))⟩, false), (⟨(some 24), none, (.op (.faddr 9 (.t 1)))⟩, false), (⟨(some 25), none, (.op (.load none (.t 24)))⟩, false), (⟨(some 26), none, (.op (.faddr 10 (.t 1)))⟩, false), (⟨(some 27), none, (.op (.load none (.t 26)))⟩, false), (⟨(some 28), none, (.op (.faddr 11 (.t 1)))⟩, false), (⟨(some 29), none, (.op (.load none (.t 28)))⟩, false), (⟨(some 30), none, (.op (.faddr 12 (.t 1)))⟩, false), (⟨(some 31), none, (.op (.load none (.t 30)))⟩, false), (⟨(some 12), none, (.call 75 [(.t 11)])⟩, true), (⟨(some 13), none, (.op (.toInt .u64 (.t 12)))⟩, false), (⟨(some 32), none, (.op (.bslice [(.i .u64 0)] 10 [(0, 1, (.t 8)), (1, 1, (.t 13)), (2, 1, (.t 17)), (3, 1, (.t 19)), (4, 1, (.t 21)), (5, 1, (.t 23)), (6, 1, (.t 25)), (7, 1, (.t 27)), (8, 1, (.t 29)), (9, 1, (.t 31))]))⟩, false), (⟨(some 2), none, (.op (.mv (.t 32)))⟩, false)]
theorem c50d0_w {P : Program} {O : Orc} {S0 : Mem} {rd : Bool} {e : Env} {S : Mem} {d : List Nat} {Q : Kont} : W P O S0 rd (.draw c50d0 []) e S d Q = wFl O c50d0w e S (normK Q d) := W_draw' (by kernel_rfl) (by kernel_rfl)
attribute [go_sem] c50d0_w c50d0w
def c50 : IFunc := ⟨1, [.tmp 2],
  .seq (.region [⟨(some 1), none, (.op (.box (.t 0)))⟩,
    ⟨(some 2), none, (.op (.mv (.c .sn)))⟩])
   (.live [1] (.seq (.seq (.region [⟨(some 3), none, (.op (.load (some 13) (.t 1)))⟩,
    ⟨(some 4), none, (.call 74 [(.t 3)])⟩,
    ⟨(some 5), none, (.op (.un .not (.t 4)))⟩])
   (.live [1, 5] (.cond (.t 5) (.seq (.region [⟨(some 2), none, (.op (.mv (.c .sn)))⟩])
   (.ret))
   (.skip))))
   (.live [1] (.seq (.draw c50d0 [])
   (.ret))))),
  []⟩


/- slices.Grow[[]byte,byte] -/

def c51 : IFunc := ⟨2, [.tmp 4],
  .seq (.region [⟨(some 4), none, (.op (.mv (.c .sn)))⟩])
   (.live [0, 1] (.seq (.seq (.region [⟨(some 5), none, (.op (.mv (.t 1)))⟩,
    ⟨(some 6), none, (.op (.bin .int true .lss (.t 5) (.c (.i .i64 0))))⟩])
   (.live [0, 1, 6] (.cond (.t 6) (.region [⟨(some 7), none, (.op (.bad))⟩,
    ⟨none, none, (.op (.bad))⟩])
   (.skip))))
   (.live [0, 1] (.seq (.seq (.region [⟨(some 8), none, (.op (.mv (.t 1)))⟩,
    ⟨(some 9), none, (.op (.mv (.t 0)))⟩,
    ⟨(some 10), none, (.op (.cap (.t 9)))⟩,
    ⟨(some 11), none, (.op (.mv (.t 0)))⟩,
    ⟨(some 12), none, (.op (.len .slice (.t 11)))⟩,
    ⟨(some 13), none, (.op (.bin .int false .sub (.t 10) (.t 12)))⟩,
    ⟨(some 14), none, (.op (.bin .int false .sub (.t 8) (.t 13)))⟩,
    ⟨(some 1), none, (.op (.mv (.t 14)))⟩])
   (.live [0, 1] (.seq (.region [⟨(some 15), none, (.op (.mv (.t 1)))⟩,
    ⟨(some 16), none, (.op (.bin .int true .gtr (.t 15) (.c (.i .i64 0))))⟩])
   (.live [0, 1, 16] (.cond (.t 16) (.region [⟨(some 17), none, (.op (.mv (.t 0)))⟩,
    ⟨(some 18), none, (.op (.mv (.t 0)))⟩,
    ⟨(some 19), none, (.op (.cap (.t 18)))⟩,
    ⟨(some 20), none, (.op (.slice 1 (.t 17) none (some (.t 19)) none))⟩,
    ⟨(some 21), none, (.op (.mv (.t 1)))⟩,
    ⟨(some 22), none, (.op (.appz [(.i .u8 0)] 1 (.t 20) (.t 21)))⟩,
    ⟨(some 23), none, (.op (.mv (.t 0)))⟩,
    ⟨(some 24), none, (.op (.len .slice (.t 23)))⟩,
    ⟨(some 25), none, (.op (.slice 1 (.t 22) none (some (.t 24)) none))⟩,
    ⟨(some 0), none, (.op (.mv (.t 25)))⟩])
   (.skip))))))
   (.live [0] (.seq (.region [⟨(some 26), none, (.op (.mv (.t 0)))⟩,
    ⟨(some 4), none, (.op (.mv (.t 26)))⟩])
   (.ret))))))),
  []⟩


/- floodgate/leb.Put -/
def c52l0 : ICode :=
  .seq (.seq (.region [⟨(some 5), none, (.op (.mv (.t 0)))⟩,
    ⟨(some 6), none, (.op (.bin .int true .geq (.t 5) (.c (.i .u64 128))))⟩])
   (.live [0, 3, 6] (.cond (.t 6) (.skip)
   (.exit 0))))
   (.live [0, 3] (.block 1 (.seq (.region [⟨(some 7), none, (.op (.mv (.t 3)))⟩,
    ⟨(some 8), none, (.op (.mv (.t 0)))⟩,
    ⟨(some 9), none, (.op (.toInt .u8 (.t 8)))⟩,
    ⟨(some 10), none, (.op (.bin .int true .or (.t 9) (.c (.i .u8 128))))⟩,
    ⟨(some 11), none, (.op (.bslice [(.i .u8 0)] 1 [(0, 1, (.t 10))]))⟩,
    ⟨(some 12), none, (.op (.app 1 1 (.t 7) (.t 11)))⟩,
    ⟨(some 3), none, (.op (.mv (.t 12)))⟩])
   (.live [3, 0] (.region [⟨(some 13), none, (.op (.mv (.t 0)))⟩,
    ⟨(some 14), none, (.op (.bin .int true .shr (.t 13) (.c (.i .u64 7))))⟩,
    ⟨(some 0), none, (.op (.mv (.t 14)))⟩])))))
def c52 : IFunc := ⟨1, [.tmp 2],
  .seq (.region [⟨(some 2), none, (.op (.mv (.c .sn)))⟩])
   (.live [0] (.seq (.region [⟨(some 4), none, (.op (.mks [(.i .u8 0)] 1 (.c (.i .i64 0)) (.c (.i .i64 10))))⟩,
    ⟨(some 3), none, (.op (.mv (.t 4)))⟩])
   (.live [0, 3] (.seq (.block 0 (.loop [0, 3] c52l0))
   (.live [0, 3] (.seq (.region [⟨(some 15), none, (.op (.mv (.t 3)))⟩,
    ⟨(some 16), none, (.op (.mv (.t 0)))⟩,
    ⟨(some 17), none, (.op (.toInt .u8 (.t 16)))⟩,
    ⟨(some 18), none, (.op (.bslice [(.i .u8 0)] 1 [(0, 1, (.t 17))]))⟩,
    ⟨(some 19), none, (.op (.app 1 1 (.t 15) (.t 18)))⟩,
    ⟨(some 2), none, (.op (.mv (.t 19)))⟩])
   (.ret))))))),
  []⟩


/- floodgate/area.there -/
def c55l0 : ICode :=
  .seq (.region [⟨(some 18), none, (.op (.bin .int false .lss (.t 17) (.t 16)))⟩])
   (.live [6, 15, 16, 17, 7, 18] (.seq (.cond (.t 18) (.skip)
   (.exit 0))
   (.live [6, 15, 16, 17, 7] (.seq (.block 1 (.seq (.region [⟨(some 19), none, (.op (.iaddr none 1 (.t 15) (.t 17)))⟩,
    ⟨(some 20), none, (.op (.load none (.t 19)))⟩,
    ⟨(some 9), none, (.op (.mv (.t 20)))⟩])
   (.live [6, 15, 16, 17, 7, 9] (.seq (.region [⟨(some 21), none, (.op (.mv (.t 9)))⟩,
    ⟨(some 22), none, (.op (.bin .int true .lss (.t 21) (.c (.i .i64 0))))⟩,
    ⟨(some 23), none, (.op (.mv (.t 22)))⟩,
    ⟨(some 24), some (23, false), (.op (.mv (.t 9)))⟩,
    ⟨(some 25), some (23, false), (.op (.mv (.t 6)))⟩,
    ⟨(some 26), some (23, false), (.op (.bin .int false .geq (.t 24) (.t 25)))⟩,
    ⟨(some 27), none, (.op (.pick (.t 23) (.c (.b true)) (.t 26)))⟩])
   (.live [6, 15, 16, 17, 7, 27] (.cond (.t 27) (.region [⟨(some 7), none, (.op (.mv (.c (.i .i64 91))))⟩])
   (.skip)))))))
   (.live [6, 15, 16, 7, 17] (.region [⟨(some 28), none, (.op (.bin .int true .add (.t 17) (.c (.i .i64 1))))⟩,
    ⟨(some 17), none, (.op (.mv (.t 28)))⟩]))))))
def c55 : IFunc := ⟨2, [.tmp 4, .tmp 5],
  .seq (.region [⟨(some 4), none, (.op (.mv (.c (.i .i64 0))))⟩,
    ⟨(some 5), none, (.op (.mv (.c (.i .i64 0))))⟩])
   (.live [1, 0] (.seq (.region [⟨(some 11), none, (.op (.mv (.t 0)))⟩,
    ⟨(some 12), none, (.call 78 [(.t 11)])⟩,
    ⟨(some 10), none, (.op (.mv (.t 12)))⟩,
    ⟨(some 13), none, (.op (.ext (.t 10) 0))⟩,
    ⟨(some 14), none, (.op (.ext (.t 10) 1))⟩,
    ⟨(some 6), none, (.op (.mv (.t 13)))⟩,
    ⟨(some 7), none, (.op (.mv (.t 14)))⟩])
   (.live [6, 7, 1] (.seq (.seq (.region [⟨(some 15), none, (.op (.mv (.t 1)))⟩,
    ⟨(some 16), none, (.op (.len .slice (.t 15)))⟩,
    ⟨(some 17), none, (.op (.mv (.c (.i .i64 0))))⟩])
   (.live [6, 15, 16, 17, 7] (.block 0 (.loop [6, 15, 16, 17, 7] c55l0))))
   (.live [7, 6] (.seq (.region [⟨(some 29), none, (.op (.mv (.t 6)))⟩,
    ⟨(some 30), none, (.op (.mv (.t 7)))⟩,
    ⟨(some 4), none, (.op (.mv (.t 29)))⟩,
    ⟨(some 5), none, (.op (.mv (.t 30)))⟩])
   (.ret))))))),
  []⟩


/- floodgate/policy.All -/
def c56d0 : List Stage :=
  [⟨[(⟨(some 17), none, (.op (.mv (.t 3)))⟩, 0), (⟨(some 18), none, (.op (.faddr 1 (.t 5)))⟩, 0), (⟨(some 19), none, (.op (.load (some 5) (.t 18)))⟩, 0), (⟨(some 20), none, (.op (.mlook true [.int, .int, .int, .int, .int] (.i .i64 0) false (.t 17) (.t 19)))⟩, 1), (⟨(some 21), none, (.op (.bin .int true .add (.t 20) (.c (.i .i64 1))))⟩, 1)], none, some ⟨(some 22), none, (.op (.mentry true [.int, .int, .int, .int, .int] (.i .i64 0) (.t 17) (.t 19)))⟩⟩,
    ⟨[(⟨(some 23), none, (.op (.ext (.t 22) 1))⟩, 1)], none, some ⟨none, none, (.op (.mstore (.t 17) (.t 23) (.t 21)))⟩⟩,
    ⟨[], none, none⟩]
theorem c56d0_e {P : Program} {O : Orc} {S0 : Mem} {rd : Bool} {e : Env} {S : Mem} {d : List Nat} {Q : Kont} : W P O S0 rd (.draw c56d0 []) e S d Q = drawK (evDraw O c56d0 [] e S) (normK Q d) := W_drawE (by kernel_rfl)
attribute [go_sem] c56d0_e
def c56d1 : List Stage :=
  [⟨[(⟨(some 24), none, (.op (.load (some 13) (.t 5)))⟩, 0)], none, some ⟨(some 25), none, (.call 74 [(.t 24)])⟩⟩,
    ⟨[(⟨(some 26), none, (.op (.un .not (.t 25)))⟩, 1), (⟨(some 27), none, (.op (.mv (.t 26)))⟩, 1), (⟨(some 28), some (27, false), (.op (.mv (.t 3)))⟩, 1), (⟨(some 29), some (27, false), (.op (.faddr 1 (.t 5)))⟩, 1), (⟨(some 30), some (27, false), (.op (.load (some 5) (.t 29)))⟩, 1), (⟨(some 31), some (27, false), (.op (.mlook true [.int, .int, .int, .int, .int] (.i .i64 0) false (.t 28) (.t 30)))⟩, 1), (⟨(some 32), some (27, false), (.op (.bin .int true .gtr (.t 31) (.c (.i .i64 1))))⟩, 1), (⟨(some 33), none, (.op (.pick (.t 27) (.c (.b true)) (.t 32)))⟩, 1), (⟨(some 34), none, (.op (.mv (.t 33)))⟩, 1), (⟨(some 35), some (34, false), (.op (.mv (.t 4)))⟩, 1), (⟨(some 36), some (34, false), (.op (.bin .int true .gtr (.t 35) (.c (.i .i64 0))))⟩, 1), (⟨(some 37), some (34, false), (.op (.mv (.t 36)))⟩, 1), (⟨(some 38), some (37, true), (.op (.faddr 0 (.t 5)))⟩, 1), (⟨(some 39), some (37, true), (.op (.load none (.t 38)))⟩, 1), (⟨(some 40), some (37, true), (.op (.mv (.t 0)))⟩, 1), (⟨(some 41), some (37, true), (.op (.mv (.t 4)))⟩, 1), (⟨(some 42), some (37, true), (.op (.bin .int true .sub (.t 41) (.c (.i .i64 1))))⟩, 1), (⟨(some 43), some (37, true), (.op (.iaddr none 13 (.t 40) (.t 42)))⟩, 1), (⟨(some 44), some (37, true), (.op (.faddr 0 (.t 43)))⟩, 1), (⟨(some 45), some (37, true), (.op (.load none (.t 44)))⟩, 1), (⟨(some 46), some (37, true), (.op (.bin .int false .leq (.t 39) (.t 45)))⟩, 1), (⟨(some 47), some (34, false), (.op (.pick (.t 37) (.t 46) (.c (.b false))))⟩, 1), (⟨(some 48), none, (.op (.pick (.t 34) (.c (.b true)) (.t 47)))⟩, 1)], none, none⟩]
def c56d1w : List (ROp × Bool) :=
  [(⟨(some 24), none, (.op (.load (some 13) (.t 5)))⟩, false), (⟨(some 25), none, (.call 74 [(.t 24)])⟩, false), (⟨(some 26), none, (.op (.un .not (.t 25)))⟩, false), (⟨(some 27), none, (.op (.mv (.t 26)))⟩, false), (⟨(some 28), some (27, false), (.op (.mv (.t 3)))⟩, false), (⟨(some 29), some (27, false), (.op (.faddr 1 (.t 5)))⟩, false), (⟨(some 30), some (27, false), (.op (.load (some 5) (.t 29)))⟩, false), (⟨(some 31), some (27, false), (.op (.mlook true [.int, .int, .int, .int, .int] (.i .i64 0) false (.t 28) (.t 30)))⟩, false), (⟨(some 32), some (27, false), (.op (.bin .int true .gtr (.t 31) (.c (.i .i64 1))))⟩, false), (⟨(some 33), none, (.op (.pick (.t 27) (.c (.b true)) (.t 32)))⟩, false), (⟨(some 34), none, (.op (.mv (.t 33)))⟩, false), (⟨(some 35), some (34, false), (.op (.mv (.t 4)))⟩, false), (⟨(some 36), some (34, false), (.op (.bin .int true .gtr (.t 35) (.c (.i .i64 0))))⟩, false), (⟨(some 37), some (34, false), (.op (.mv (.t 36)))⟩, false), (⟨(some 38), some (37, true), (.op (.faddr 0 (.t 5)))⟩, false), (⟨(some 39), some (37, true), (.op (.load none (.t 38)))⟩, false), (⟨(some 40), some (37, true), (.op (.mv (.t 0)))⟩, false), (⟨(some 41), some (37, true), (.op (.mv (.t 4)))⟩, false), (⟨(some 42), some (37, true), (.op (.bin .int true .sub (.t 41) (.c (.i .i64 1))))⟩, false), (⟨(some 43), some (37, true), (.op (.iaddr none 13 (.t 40) (.t 42)))⟩, false), (⟨(some 44), some (37, true), (.op (.faddr 0 (.t 43)))⟩, false), (⟨(some 45), some (37, true), (.op (.load none (.t 44)))⟩, false), (⟨(some 46), some (37, true), (.op (.bin .int false .leq (.t 39) (.t 45)))⟩, false), (⟨(some 47), some (34, false), (.op (.pick (.t 37) (.t 46) (.c (.b false))))⟩, false), (⟨(some 48), none, (.op (.pick (.t 34) (.c (.b true)) (.t 47)))⟩, false)]
theorem c56d1_w {P : Program} {O : Orc} {S0 : Mem} {rd : Bool} {e : Env} {S : Mem} {d : List Nat} {Q : Kont} : W P O S0 rd (.draw c56d1 []) e S d Q = wFl O c56d1w e S (normK Q d) := W_draw' (by kernel_rfl) (by kernel_rfl)
attribute [go_sem] c56d1_w c56d1w
def c56l2 : ICode :=
  .seq (.region [⟨(some 13), none, (.op (.bin .int false .lss (.t 12) (.t 11)))⟩])
   (.live [3, 0, 10, 11, 12, 13] (.seq (.cond (.t 13) (.skip)
   (.exit 0))
   (.live [3, 0, 10, 11, 12] (.seq (.block 1 (.seq (.region [⟨(some 14), none, (.op (.mv (.t 12)))⟩,
    ⟨(some 15), none, (.op (.iaddr none 13 (.t 10) (.t 12)))⟩,
    ⟨(some 16), none, (.op (.load (some 13) (.t 15)))⟩,
    ⟨(some 5), none, (.op (.fresh [(.i .i64 0), (.i .u8 0), (.i .u8 0), (.i .u8 0), (.i .u8 0), (.i .i64 0), (.i .u64 0), (.i .u64 0), (.i .u64 0), (.i .u64 0), (.i .u64 0), (.i .u64 0), (.i .u64 0)]))⟩,
    ⟨(some 4), none, (.op (.mv (.t 14)))⟩,
    ⟨none, none, (.op (.store 13 (.t 5) (.t 16)))⟩])
   (.live [3, 0, 10, 11, 12, 5, 4] (.seq (.draw c56d0 [])
   (.live [3, 0, 10, 11, 12, 5, 4] (.seq (.draw c56d1 [])
   (.live [3, 0, 10, 11, 12, 48] (.cond (.t 48) (.seq (.region [⟨(some 2), none, (.op (.mv (.c (.i .i64 111))))⟩])
   (.ret))
   (.skip)))))))))
   (.live [3, 0, 10, 11, 12] (.region [⟨(some 49), none, (.op (.bin .int true .add (.t 12) (.c (.i .i64 1))))⟩,
    ⟨(some 12), none, (.op (.mv (.t 49)))⟩]))))))
def c56 : IFunc := ⟨1, [.tmp 2],
  .seq (.region [⟨(some 2), none, (.op (.mv (.c (.i .i64 0))))⟩])
   (.live [0] (.seq (.seq (.region [⟨(some 6), none, (.op (.mv (.t 0)))⟩,
    ⟨(some 7), none, (.op (.len .slice (.t 6)))⟩,
    ⟨(some 8), none, (.op (.bin .int true .gtr (.t 7) (.c (.i .i64 8))))⟩])
   (.live [0, 8] (.cond (.t 8) (.seq (.region [⟨(some 2), none, (.op (.mv (.c (.i .i64 111))))⟩])
   (.ret))
   (.skip))))
   (.live [0] (.seq (.region [⟨(some 9), none, (.op (.mkmap none))⟩,
    ⟨(some 3), none, (.op (.mv (.t 9)))⟩])
   (.live [3, 0] (.seq (.seq (.region [⟨(some 10), none, (.op (.mv (.t 0)))⟩,
    ⟨(some 11), none, (.op (.len .slice (.t 10)))⟩,
    ⟨(some 12), none, (.op (.mv (.c (.i .i64 0))))⟩])
   (.live [3, 0, 10, 11, 12] (.block 0 (.loop [3, 0, 10, 11, 12] c56l2))))
   (.live [] (.seq (.region [⟨(some 2), none, (.op (.mv (.c (.i .i64 0))))⟩])
   (.ret))))))))),
  []⟩


/- floodgate/book.policies -/
def c57l0 : ICode :=
  .seq (.region [⟨(some 9), none, (.op (.bin .int false .lss (.t 8) (.t 7)))⟩])
   (.live [6, 7, 8, 3, 9] (.seq (.cond (.t 9) (.skip)
   (.exit 0))
   (.live [6, 7, 8, 3] (.seq (.block 1 (.seq (.region [⟨(some 10), none, (.op (.iaddr none 14 (.t 6) (.t 8)))⟩,
    ⟨(some 11), none, (.op (.load (some 14) (.t 10)))⟩,
    ⟨(some 5), none, (.op (.fresh [(.i .i64 0), (.i .u8 0), (.i .u8 0), (.i .u8 0), (.i .u8 0), (.i .i64 0), (.i .u64 0), (.i .u64 0), (.i .u64 0), (.i .u64 0), (.i .u64 0), (.i .u64 0), (.i .u64 0), (.i .u64 0)]))⟩,
    ⟨none, none, (.op (.store 14 (.t 5) (.t 11)))⟩])
   (.live [6, 7, 8, 5, 3] (.region [⟨(some 12), none, (.op (.mv (.t 3)))⟩,
    ⟨(some 13), none, (.op (.faddr 0 (.t 5)))⟩,
    ⟨(some 14), none, (.op (.load (some 13) (.t 13)))⟩,
    ⟨(some 15), none, (.op (.bslice [(.i .i64 0), (.i .u8 0), (.i .u8 0), (.i .u8 0), (.i .u8 0), (.i .i64 0), (.i .u64 0), (.i .u64 0), (.i .u64 0), (.i .u64 0), (.i .u64 0), (.i .u64 0), (.i .u64 0)] 1 [(0, 13, (.t 14))]))⟩,
    ⟨(some 16), none, (.op (.app 13 80 (.t 12) (.t 15)))⟩,
    ⟨(some 3), none, (.op (.mv (.t 16)))⟩]))))
   (.live [6, 7, 3, 8] (.region [⟨(some 17), none, (.op (.bin .int true .add (.t 8) (.c (.i .i64 1))))⟩,
    ⟨(some 8), none, (.op (.mv (.t 17)))⟩]))))))
def c57 : IFunc := ⟨1, [.tmp 2],
  .seq (.region [⟨(some 2), none, (.op (.mv (.c .sn)))⟩])
   (.live [0] (.seq (.region [⟨(some 3), none, (.op (.mv (.c .sn)))⟩])
   (.live [3, 0] (.seq (.seq (.region [⟨(some 6), none, (.op (.mv (.t 0)))⟩,
    ⟨(some 7), none, (.op (.len .slice (.t 6)))⟩,
    ⟨(some 8), none, (.op (.mv (.c (.i .i64 0))))⟩])
   (.live [6, 7, 8, 3] (.block 0 (.loop [6, 7, 8, 3] c57l0))))
   (.live [3] (.seq (.region [⟨(some 18), none, (.op (.mv (.t 3)))⟩,
    ⟨(some 2), none, (.op (.mv (.t 18)))⟩])
   (.ret))))))),
  []⟩


/- slices.ContainsFunc[[]floodgate/api.Entry,floodgate/api.Entry] -/

def c58 : IFunc := ⟨2, [.tmp 4],
  .seq (.region [⟨(some 4), none, (.op (.mv (.c (.b false))))⟩])
   (.live [1, 0] (.seq (.region [⟨(some 5), none, (.op (.mv (.t 0)))⟩,
    ⟨(some 6), none, (.op (.mv (.t 1)))⟩,
    ⟨(some 7), none, (.call 79 [(.t 5), (.t 6)])⟩,
    ⟨(some 8), none, (.op (.bin .int true .geq (.t 7) (.c (.i .i64 0))))⟩,
    ⟨(some 4), none, (.op (.mv (.t 8)))⟩])
   (.ret))),
  []⟩


/- floodgate/book.Right$1 -/

def c59 : IFunc := ⟨1, [.tmp 2],
  .seq (.region [⟨(some 1), none, (.op (.box (.t 0)))⟩,
    ⟨(some 2), none, (.op (.mv (.c (.b false))))⟩])
   (.live [1] (.seq (.region [⟨(some 3), none, (.op (.faddr 13 (.t 1)))⟩,
    ⟨(some 4), none, (.op (.load none (.t 3)))⟩,
    ⟨(some 5), none, (.op (.bin .int true .gtr (.t 4) (.c (.i .u64 281474976710656))))⟩,
    ⟨(some 2), none, (.op (.mv (.t 5)))⟩])
   (.ret))),
  []⟩


/- slices.Equal[[]floodgate/api.Entry,floodgate/api.Entry] -/
def c62d0 : List Stage :=
  [⟨[(⟨(some 16), none, (.op (.mv (.t 0)))⟩, 0), (⟨(some 17), none, (.op (.mv (.t 5)))⟩, 0), (⟨(some 18), none, (.op (.iaddr none 14 (.t 16) (.t 17)))⟩, 0), (⟨(some 19), none, (.op (.load (some 14) (.t 18)))⟩, 0), (⟨(some 20), none, (.op (.mv (.t 1)))⟩, 0), (⟨(some 21), none, (.op (.mv (.t 5)))⟩, 0), (⟨(some 22), none, (.op (.iaddr none 14 (.t 20) (.t 21)))⟩, 0), (⟨(some 23), none, (.op (.load (some 14) (.t 22)))⟩, 0), (⟨(some 24), none, (.op (.eqag true [.int, .int, .int, .int, .int, .int, .int, .int, .int, .int, .int, .int, .int, .int] (.t 19) (.t 23)))⟩, 0)], none, none⟩]
def c62d0w : List (ROp × Bool) :=
  [(⟨(some 16), none, (.op (.mv (.t 0)))⟩, false), (⟨(some 17), none, (.op (.mv (.t 5)))⟩, false), (⟨(some 18), none, (.op (.iaddr none 14 (.t 16) (.t 17)))⟩, false), (⟨(some 19), none, (.op (.load (some 14) (.t 18)))⟩, false), (⟨(some 20), none, (.op (.mv (.t 1)))⟩, false), (⟨(some 21), none, (.op (.mv (.t 5)))⟩, false), (⟨(some 22), none, (.op (.iaddr none 14 (.t 20) (.t 21)))⟩, false), (⟨(some 23), none, (.op (.load (some 14) (.t 22)))⟩, false), (⟨(some 24), none, (.op (.eqag true [.int, .int, .int, .int, .int, .int, .int, .int, .int, .int, .int, .int, .int, .int] (.t 19) (.t 23)))⟩, false)]
theorem c62d0_w {P : Program} {O : Orc} {S0 : Mem} {rd : Bool} {e : Env} {S : Mem} {d : List Nat} {Q : Kont} : W P O S0 rd (.draw c62d0 []) e S d Q = wFl O c62d0w e S (normK Q d) := W_draw' (by kernel_rfl) (by kernel_rfl)
attribute [go_sem] c62d0_w c62d0w
def c62l1 : ICode :=
  .seq (.region [⟨(some 14), none, (.op (.bin .int false .lss (.t 13) (.t 12)))⟩])
   (.live [0, 1, 12, 13, 14] (.seq (.cond (.t 14) (.skip)
   (.exit 0))
   (.live [0, 1, 12, 13] (.seq (.block 1 (.seq (.region [⟨(some 15), none, (.op (.mv (.t 13)))⟩,
    ⟨(some 5), none, (.op (.mv (.t 15)))⟩])
   (.live [0, 1, 12, 13, 5] (.seq (.draw c62d0 [])
   (.live [0, 1, 12, 13, 24] (.cond (.t 24) (.seq (.region [⟨(some 4), none, (.op (.mv (.c (.b false))))⟩])
   (.ret))
   (.skip)))))))
   (.live [0, 1, 12, 13] (.region [⟨(some 25), none, (.op (.bin .int true .add (.t 13) (.c (.i .i64 1))))⟩,
    ⟨(some 13), none, (.op (.mv (.t 25)))⟩]))))))
def c62 : IFunc := ⟨2, [.tmp 4],
  .seq (.region [⟨(some 4), none, (.op (.mv (.c (.b false))))⟩])
   (.live [0, 1] (.seq (.seq (.region [⟨(some 6), none, (.op (.mv (.t 0)))⟩,
    ⟨(some 7), none, (.op (.len .slice (.t 6)))⟩,
    ⟨(some 8), none, (.op (.mv (.t 1)))⟩,
    ⟨(some 9), none, (.op (.len .slice (.t 8)))⟩,
    ⟨(some 10), none, (.op (.bin .int false .neq (.t 7) (.t 9)))⟩])
   (.live [0, 1, 10] (.cond (.t 10) (.seq (.region [⟨(some 4), none, (.op (.mv (.c (.b false))))⟩])
   (.ret))
   (.skip))))
   (.live [0, 1] (.seq (.seq (.region [⟨(some 11), none, (.op (.mv (.t 0)))⟩,
    ⟨(some 12), none, (.op (.len .slice (.t 11)))⟩,
    ⟨(some 13), none, (.op (.mv (.c (.i .i64 0))))⟩])
   (.live [0, 1, 12, 13] (.block 0 (.loop [0, 1, 12, 13] c62l1))))
   (.live [] (.seq (.region [⟨(some 4), none, (.op (.mv (.c (.b true))))⟩])
   (.ret))))))),
  []⟩


/- (*floodgate/disk.Disk).Stable -/

def c63 : IFunc := ⟨2, [.cell 4 (some 64), .tmp 5],
  .seq (.region [⟨(some 4), none, (.op (.fresh [(.i .u8 0), (.i .u8 0), (.i .u8 0), (.i .u8 0), (.i .u8 0), (.i .u8 0), (.i .u8 0), (.i .u8 0), (.i .u8 0), (.i .u8 0), (.i .u8 0), (.i .u8 0), (.i .u8 0), (.i .u8 0), (.i .u8 0), (.i .u8 0), (.i .u8 0), (.i .u8 0), (.i .u8 0), (.i .u8 0), (.i .u8 0), (.i .u8 0), (.i .u8 0), (.i .u8 0), (.i .u8 0), (.i .u8 0), (.i .u8 0), (.i .u8 0), (.i .u8 0), (.i .u8 0), (.i .u8 0), (.i .u8 0), (.i .u8 0), (.i .u8 0), (.i .u8 0), (.i .u8 0), (.i .u8 0), (.i .u8 0), (.i .u8 0), (.i .u8 0), (.i .u8 0), (.i .u8 0), (.i .u8 0), (.i .u8 0), (.i .u8 0), (.i .u8 0), (.i .u8 0), (.i .u8 0), (.i .u8 0), (.i .u8 0), (.i .u8 0), (.i .u8 0), (.i .u8 0), (.i .u8 0), (.i .u8 0), (.i .u8 0), (.i .u8 0), (.i .u8 0), (.i .u8 0), (.i .u8 0), (.i .u8 0), (.i .u8 0), (.i .u8 0), (.i .u8 0)]))⟩,
    ⟨(some 5), none, (.op (.mv (.c (.i .i64 0))))⟩])
   (.live [4, 1, 0] (.seq (.seq (.region [⟨(some 6), none, (.op (.mv (.t 0)))⟩,
    ⟨(some 7), none, (.op (.mv (.t 1)))⟩,
    ⟨(some 8), none, (.call 47 [(.t 6), (.t 7)])⟩,
    ⟨(some 9), none, (.op (.un .not (.t 8)))⟩])
   (.live [4, 1, 0, 9] (.cond (.t 9) (.seq (.region [⟨(some 10), none, (.op (.build [(.i .u8 0), (.i .u8 0), (.i .u8 0), (.i .u8 0), (.i .u8 0), (.i .u8 0), (.i .u8 0), (.i .u8 0), (.i .u8 0), (.i .u8 0), (.i .u8 0), (.i .u8 0), (.i .u8 0), (.i .u8 0), (.i .u8 0), (.i .u8 0), (.i .u8 0), (.i .u8 0), (.i .u8 0), (.i .u8 0), (.i .u8 0), (.i .u8 0), (.i .u8 0), (.i .u8 0), (.i .u8 0), (.i .u8 0), (.i .u8 0), (.i .u8 0), (.i .u8 0), (.i .u8 0), (.i .u8 0), (.i .u8 0), (.i .u8 0), (.i .u8 0), (.i .u8 0), (.i .u8 0), (.i .u8 0), (.i .u8 0), (.i .u8 0), (.i .u8 0), (.i .u8 0), (.i .u8 0), (.i .u8 0), (.i .u8 0), (.i .u8 0), (.i .u8 0), (.i .u8 0), (.i .u8 0), (.i .u8 0), (.i .u8 0), (.i .u8 0), (.i .u8 0), (.i .u8 0), (.i .u8 0), (.i .u8 0), (.i .u8 0), (.i .u8 0), (.i .u8 0), (.i .u8 0), (.i .u8 0), (.i .u8 0), (.i .u8 0), (.i .u8 0), (.i .u8 0)] []))⟩,
    ⟨none, none, (.op (.store 64 (.t 4) (.t 10)))⟩,
    ⟨(some 5), none, (.op (.mv (.c (.i .i64 71))))⟩])
   (.ret))
   (.skip))))
   (.live [4, 1, 0] (.seq (.region [⟨(some 11), none, (.op (.mv (.t 0)))⟩,
    ⟨(some 12), none, (.op (.nilck (.t 11)))⟩,
    ⟨(some 13), none, (.op (.faddr 0 (.t 12)))⟩,
    ⟨(some 14), none, (.op (.load none (.t 13)))⟩,
    ⟨(some 15), none, (.op (.mv (.t 1)))⟩,
    ⟨(some 16), none, (.op (.iaddr none 64 (.t 14) (.t 15)))⟩,
    ⟨(some 17), none, (.op (.load (some 64) (.t 16)))⟩,
    ⟨none, none, (.op (.store 64 (.t 4) (.t 17)))⟩,
    ⟨(some 5), none, (.op (.mv (.c (.i .i64 0))))⟩])
   (.ret))))),
  []⟩


/- floodgate/frame.value -/
def c64l0 : ICode :=
  .seq (.region [⟨(some 9), none, (.op (.bin .int false .lss (.t 8) (.t 7)))⟩])
   (.live [6, 7, 8, 3, 9] (.seq (.cond (.t 9) (.skip)
   (.exit 0))
   (.live [6, 7, 8, 3] (.seq (.block 1 (.seq (.region [⟨(some 10), none, (.op (.iaddr none 1 (.t 6) (.t 8)))⟩,
    ⟨(some 11), none, (.op (.load none (.t 10)))⟩,
    ⟨(some 5), none, (.op (.mv (.t 11)))⟩])
   (.live [6, 7, 8, 5, 3] (.region [⟨(some 12), none, (.op (.mv (.t 3)))⟩,
    ⟨(some 13), none, (.op (.bin .int true .shl (.t 12) (.c (.i .u64 8))))⟩,
    ⟨(some 14), none, (.op (.mv (.t 5)))⟩,
    ⟨(some 15), none, (.op (.toInt .u64 (.t 14)))⟩,
    ⟨(some 16), none, (.op (.bin .int false .or (.t 13) (.t 15)))⟩,
    ⟨(some 3), none, (.op (.mv (.t 16)))⟩]))))
   (.live [6, 7, 3, 8] (.region [⟨(some 17), none, (.op (.bin .int true .add (.t 8) (.c (.i .i64 1))))⟩,
    ⟨(some 8), none, (.op (.mv (.t 17)))⟩]))))))
def c64 : IFunc := ⟨1, [.tmp 2],
  .seq (.region [⟨(some 2), none, (.op (.mv (.c (.i .u64 0))))⟩])
   (.live [0] (.seq (.region [⟨(some 3), none, (.op (.mv (.c (.i .u64 0))))⟩])
   (.live [3, 0] (.seq (.seq (.region [⟨(some 6), none, (.op (.mv (.t 0)))⟩,
    ⟨(some 7), none, (.op (.len .slice (.t 6)))⟩,
    ⟨(some 8), none, (.op (.mv (.c (.i .i64 0))))⟩])
   (.live [6, 7, 8, 3] (.block 0 (.loop [6, 7, 8, 3] c64l0))))
   (.live [3] (.seq (.region [⟨(some 18), none, (.op (.mv (.t 3)))⟩,
    ⟨(some 2), none, (.op (.mv (.t 18)))⟩])
   (.ret))))))),
  []⟩


/- floodgate/crc.Open -/
def c65d0 : List Stage :=
  [⟨[(⟨(some 8), none, (.op (.mv (.t 4)))⟩, 0), (⟨(some 9), none, (.op (.bin .int true .lss (.t 8) (.c (.i .i64 0))))⟩, 0), (⟨(some 10), none, (.op (.mv (.t 9)))⟩, 0), (⟨(some 11), some (10, false), (.op (.mv (.t 0)))⟩, 0), (⟨(some 12), some (10, false), (.op (.mv (.t 4)))⟩, 0), (⟨(some 13), some (10, false), (.op (.slice 1 (.t 11) none (some (.t 12)) none))⟩, 0), (⟨(some 17), some (10, false), (.op (.mv (.t 0)))⟩, 3), (⟨(some 18), some (10, false), (.op (.mv (.t 4)))⟩, 3), (⟨(some 19), some (10, false), (.op (.slice 1 (.t 17) (some (.t 18)) none none))⟩, 3)], none, some ⟨(some 14), some (10, false), (.op (.bslice [.sn] 1 [(0, 1, (.t 13))]))⟩⟩,
    ⟨[], none, some ⟨(some 15), some (10, false), (.call 72 [(.t 14)])⟩⟩,
    ⟨[], none, some ⟨(some 16), some (10, false), (.call 71 [(.t 15)])⟩⟩,
    ⟨[], none, some ⟨(some 20), some (10, false), (.call 80 [(.t 16), (.t 19)])⟩⟩,
    ⟨[(⟨(some 21), some (10, false), (.op (.un .not (.t 20)))⟩, 4), (⟨(some 22), none, (.op (.pick (.t 10) (.c (.b true)) (.t 21)))⟩, 4)], none, none⟩]
def c65d0w : List (ROp × Bool) :=
  [(⟨(some 8), none, (.op (.mv (.t 4)))⟩, false), (⟨(some 9), none, (.op (.bin .int true .lss (.t 8) (.c (.i .i64 0))))⟩, false), (⟨(some 10), none, (.op (.mv (.t 9)))⟩, false), (⟨(some 11), some (10, false), (.op (.mv (.t 0)))⟩, false), (⟨(some 12), some (10, false), (.op (.mv (.t 4)))⟩, false), (⟨(some 13), some (10, false), (.op (.slice 1 (.t 11) none (some (.t 12)) none))⟩, false), (⟨(some 17), some (10, false), (.op (.mv (.t 0)))⟩, false), (⟨(some 18), some (10, false), (.op (.mv (.t 4)))⟩, false), (⟨(some 19), some (10, false), (.op (.slice 1 (.t 17) (some (.t 18)) none none))⟩, false), (⟨(some 14), some (10, false), (.op (.bslice [.sn] 1 [(0, 1, (.t 13))]))⟩, true), (⟨(some 15), some (10, false), (.call 72 [(.t 14)])⟩, true), (⟨(some 16), some (10, false), (.call 71 [(.t 15)])⟩, true), (⟨(some 20), some (10, false), (.call 80 [(.t 16), (.t 19)])⟩, false), (⟨(some 21), some (10, false), (.op (.un .not (.t 20)))⟩, false), (⟨(some 22), none, (.op (.pick (.t 10) (.c (.b true)) (.t 21)))⟩, false)]
theorem c65d0_w {P : Program} {O : Orc} {S0 : Mem} {rd : Bool} {e : Env} {S : Mem} {d : List Nat} {Q : Kont} : W P O S0 rd (.draw c65d0 []) e S d Q = wFl O c65d0w e S (normK Q d) := W_draw' (by kernel_rfl) (by kernel_rfl)
attribute [go_sem] c65d0_w c65d0w
def c65 : IFunc := ⟨1, [.tmp 2, .tmp 3],
  .seq (.region [⟨(some 2), none, (.op (.mv (.c .sn)))⟩,
    ⟨(some 3), none, (.op (.mv (.c (.b false))))⟩])
   (.live [0] (.seq (.region [⟨(some 5), none, (.op (.mv (.t 0)))⟩,
    ⟨(some 6), none, (.op (.len .slice (.t 5)))⟩,
    ⟨(some 7), none, (.op (.bin .int true .sub (.t 6) (.c (.i .i64 4))))⟩,
    ⟨(some 4), none, (.op (.mv (.t 7)))⟩])
   (.live [4, 0] (.seq (.seq (.draw c65d0 [])
   (.live [4, 0, 22] (.cond (.t 22) (.seq (.region [⟨(some 2), none, (.op (.mv (.c .sn)))⟩,
    ⟨(some 3), none, (.op (.mv (.c (.b false))))⟩])
   (.ret))
   (.skip))))
   (.live [4, 0] (.seq (.region [⟨(some 23), none, (.op (.mv (.t 0)))⟩,
    ⟨(some 24), none, (.op (.mv (.t 4)))⟩,
    ⟨(some 25), none, (.op (.slice 1 (.t 23) none (some (.t 24)) none))⟩,
    ⟨(some 26), none, (.call 81 [(.t 25)])⟩,
    ⟨(some 2), none, (.op (.mv (.t 26)))⟩,
    ⟨(some 3), none, (.op (.mv (.c (.b true))))⟩])
   (.ret))))))),
  []⟩


/- slices.ContainsFunc[[]byte,byte] -/

def c66 : IFunc := ⟨2, [.tmp 4],
  .seq (.region [⟨(some 4), none, (.op (.mv (.c (.b false))))⟩])
   (.live [1, 0] (.seq (.region [⟨(some 5), none, (.op (.mv (.t 0)))⟩,
    ⟨(some 6), none, (.op (.mv (.t 1)))⟩,
    ⟨(some 7), none, (.call 82 [(.t 5), (.t 6)])⟩,
    ⟨(some 8), none, (.op (.bin .int true .geq (.t 7) (.c (.i .i64 0))))⟩,
    ⟨(some 4), none, (.op (.mv (.t 8)))⟩])
   (.ret))),
  []⟩


/- floodgate/frame.Open$1 -/

def c67 : IFunc := ⟨1, [.tmp 2],
  .seq (.region [⟨(some 2), none, (.op (.mv (.c (.b false))))⟩])
   (.live [0] (.seq (.region [⟨(some 3), none, (.op (.mv (.t 0)))⟩,
    ⟨(some 4), none, (.op (.bin .int true .neq (.t 3) (.c (.i .u8 0))))⟩,
    ⟨(some 2), none, (.op (.mv (.t 4)))⟩])
   (.ret))),
  []⟩


/- floodgate/leb.Get -/
def c68l0 : ICode :=
  .seq (.region [⟨(some 16), none, (.op (.bin .int false .lss (.t 15) (.t 14)))⟩])
   (.live [13, 14, 15, 5, 16] (.seq (.cond (.t 16) (.skip)
   (.exit 0))
   (.live [13, 14, 15, 5] (.seq (.block 1 (.seq (.region [⟨(some 17), none, (.op (.mv (.t 15)))⟩,
    ⟨(some 18), none, (.op (.iaddr none 1 (.t 13) (.t 15)))⟩,
    ⟨(some 19), none, (.op (.load none (.t 18)))⟩,
    ⟨(some 6), none, (.op (.mv (.t 17)))⟩,
    ⟨(some 7), none, (.op (.mv (.t 19)))⟩])
   (.live [13, 14, 15, 6, 7, 5] (.seq (.region [⟨(some 20), none, (.op (.mv (.t 7)))⟩,
    ⟨(some 21), none, (.op (.bin .int true .and (.t 20) (.c (.i .u8 127))))⟩,
    ⟨(some 22), none, (.op (.toInt .u64 (.t 21)))⟩,
    ⟨(some 8), none, (.op (.mv (.t 22)))⟩])
   (.live [13, 14, 15, 6, 7, 8, 5] (.seq (.seq (.region [⟨(some 23), none, (.op (.mv (.t 8)))⟩,
    ⟨(some 24), none, (.op (.mv (.t 6)))⟩,
    ⟨(some 25), none, (.op (.bin .int true .mul (.c (.i .i64 7)) (.t 24)))⟩,
    ⟨(some 26), none, (.op (.bin .int false .shl (.t 23) (.t 25)))⟩,
    ⟨(some 27), none, (.op (.mv (.t 6)))⟩,
    ⟨(some 28), none, (.op (.bin .int true .mul (.c (.i .i64 7)) (.t 27)))⟩,
    ⟨(some 29), none, (.op (.bin .int false .shr (.t 26) (.t 28)))⟩,
    ⟨(some 30), none, (.op (.mv (.t 8)))⟩,
    ⟨(some 31), none, (.op (.bin .int false .neq (.t 29) (.t 30)))⟩])
   (.live [13, 14, 15, 6, 7, 8, 5, 31] (.cond (.t 31) (.exit 0)
   (.skip))))
   (.live [13, 14, 15, 6, 7, 8, 5] (.seq (.region [⟨(some 32), none, (.op (.mv (.t 5)))⟩,
    ⟨(some 33), none, (.op (.mv (.t 8)))⟩,
    ⟨(some 34), none, (.op (.mv (.t 6)))⟩,
    ⟨(some 35), none, (.op (.bin .int true .mul (.c (.i .i64 7)) (.t 34)))⟩,
    ⟨(some 36), none, (.op (.bin .int false .shl (.t 33) (.t 35)))⟩,
    ⟨(some 37), none, (.op (.bin .int false .or (.t 32) (.t 36)))⟩,
    ⟨(some 5), none, (.op (.mv (.t 37)))⟩])
   (.live [13, 14, 5, 15, 6, 7] (.seq (.seq (.region [⟨(some 38), none, (.op (.mv (.t 7)))⟩,
    ⟨(some 39), none, (.op (.bin .int true .and (.t 38) (.c (.i .u8 128))))⟩,
    ⟨(some 40), none, (.op (.bin .int true .neq (.t 39) (.c (.i .u8 0))))⟩])
   (.live [13, 14, 5, 15, 6, 40] (.cond (.t 40) (.exit 1)
   (.skip))))
   (.live [6, 5] (.seq (.seq (.region [⟨(some 41), none, (.op (.mv (.t 5)))⟩,
    ⟨(some 42), none, (.call 83 [(.t 41)])⟩,
    ⟨(some 43), none, (.op (.mv (.t 6)))⟩,
    ⟨(some 44), none, (.op (.bin .int true .add (.t 43) (.c (.i .i64 1))))⟩,
    ⟨(some 45), none, (.op (.bin .int false .neq (.t 42) (.t 44)))⟩])
   (.live [6, 5, 45] (.cond (.t 45) (.exit 0)
   (.skip))))
   (.live [6, 5] (.seq (.region [⟨(some 46), none, (.op (.mv (.t 5)))⟩,
    ⟨(some 47), none, (.op (.mv (.t 6)))⟩,
    ⟨(some 48), none, (.op (.bin .int true .add (.t 47) (.c (.i .i64 1))))⟩,
    ⟨(some 2), none, (.op (.mv (.t 46)))⟩,
    ⟨(some 3), none, (.op (.mv (.t 48)))⟩,
    ⟨(some 4), none, (.op (.mv (.c (.i .i64 0))))⟩])
   (.ret)))))))))))))))
   (.live [13, 14, 5, 15] (.region [⟨(some 49), none, (.op (.bin .int true .add (.t 15) (.c (.i .i64 1))))⟩,
    ⟨(some 15), none, (.op (.mv (.t 49)))⟩]))))))
def c68 : IFunc := ⟨1, [.tmp 2, .tmp 3, .tmp 4],
  .seq (.region [⟨(some 2), none, (.op (.mv (.c (.i .u64 0))))⟩,
    ⟨(some 3), none, (.op (.mv (.c (.i .i64 0))))⟩,
    ⟨(some 4), none, (.op (.mv (.c (.i .i64 0))))⟩])
   (.live [0] (.seq (.region [⟨(some 5), none, (.op (.mv (.c (.i .u64 0))))⟩])
   (.live [5, 0] (.seq (.seq (.region [⟨(some 9), none, (.op (.mv (.t 0)))⟩,
    ⟨(some 10), none, (.op (.mv (.t 0)))⟩,
    ⟨(some 11), none, (.op (.len .slice (.t 10)))⟩,
    ⟨(some 12), none, (.op (.mm false [(.t 11), (.c (.i .i64 10))]))⟩,
    ⟨(some 13), none, (.op (.slice 1 (.t 9) none (some (.t 12)) none))⟩,
    ⟨(some 14), none, (.op (.len .slice (.t 13)))⟩,
    ⟨(some 15), none, (.op (.mv (.c (.i .i64 0))))⟩])
   (.live [13, 14, 15, 5] (.block 0 (.loop [13, 14, 15, 5] c68l0))))
   (.live [] (.seq (.region [⟨(some 2), none, (.op (.mv (.c (.i .u64 0))))⟩,
    ⟨(some 3), none, (.op (.mv (.c (.i .i64 0))))⟩,
    ⟨(some 4), none, (.op (.mv (.c (.i .i64 21))))⟩])
   (.ret))))))),
  []⟩


/- floodgate/sat.Int -/

def c69 : IFunc := ⟨1, [.tmp 2, .tmp 3],
  .seq (.region [⟨(some 2), none, (.op (.mv (.c (.i .i64 0))))⟩,
    ⟨(some 3), none, (.op (.mv (.c (.b false))))⟩])
   (.live [0] (.seq (.seq (.region [⟨(some 4), none, (.op (.mv (.t 0)))⟩,
    ⟨(some 5), none, (.op (.bin .int true .gtr (.t 4) (.c (.i .u64 9223372036854775807))))⟩])
   (.live [0, 5] (.cond (.t 5) (.seq (.region [⟨(some 2), none, (.op (.mv (.c (.i .i64 0))))⟩,
    ⟨(some 3), none, (.op (.mv (.c (.b false))))⟩])
   (.ret))
   (.skip))))
   (.live [0] (.seq (.region [⟨(some 6), none, (.op (.mv (.t 0)))⟩,
    ⟨(some 7), none, (.op (.toInt .i64 (.t 6)))⟩,
    ⟨(some 2), none, (.op (.mv (.t 7)))⟩,
    ⟨(some 3), none, (.op (.mv (.c (.b true))))⟩])
   (.ret))))),
  []⟩


/- floodgate/book.Read -/
def c70d0 : List Stage :=
  [⟨[(⟨(some 41), none, (.op (.faddr 1 (.t 6)))⟩, 1), (⟨(some 42), none, (.op (.load none (.t 41)))⟩, 1), (⟨(some 43), none, (.op (.load (some 13) (.t 8)))⟩, 0), (⟨(some 44), none, (.op (.mv (.t 7)))⟩, 0), (⟨(some 45), none, (.op (.iaddr none 1 (.t 44) (.c (.i .i64 10))))⟩, 0), (⟨(some 46), none, (.op (.load none (.t 45)))⟩, 0), (⟨(some 47), none, (.op (.build [(.i .i64 0), (.i .u8 0), (.i .u8 0), (.i .u8 0), (.i .u8 0), (.i .i64 0), (.i .u64 0), (.i .u64 0), (.i .u64 0), (.i .u64 0), (.i .u64 0), (.i .u64 0), (.i .u64 0), (.i .u64 0)] [(0, 13, (.t 43)), (13, 1, (.t 46))]))⟩, 0)], none, some ⟨(some 48), none, (.op (.bslice [(.i .i64 0), (.i .u8 0), (.i .u8 0), (.i .u8 0), (.i .u8 0), (.i .i64 0), (.i .u64 0), (.i .u64 0), (.i .u64 0), (.i .u64 0), (.i .u64 0), (.i .u64 0), (.i .u64 0), (.i .u64 0)] 1 [(0, 14, (.t 47))]))⟩⟩,
    ⟨[], none, some ⟨(some 49), none, (.op (.app 14 88 (.t 42) (.t 48)))⟩⟩,
    ⟨[(⟨(some 50), none, (.op (.faddr 1 (.t 6)))⟩, 2)], none, some ⟨none, none, (.op (.store 1 (.t 50) (.t 49)))⟩⟩,
    ⟨[], none, none⟩]
def c70d0w : List (ROp × Bool) :=
  [(⟨(some 41), none, (.op (.faddr 1 (.t 6)))⟩, false), (⟨(some 42), none, (.op (.load none (.t 41)))⟩, false), (⟨(some 43), none, (.op (.load (some 13) (.t 8)))⟩, false), (⟨(some 44), none, (.op (.mv (.t 7)))⟩, false), (⟨(some 45), none, (.op (.iaddr none 1 (.t 44) (.c (.i .i64 10))))⟩, false), (⟨(some 46), none, (.op (.load none (.t 45)))⟩, false), (⟨(some 47), none, (.op (.build [(.i .i64 0), (.i .u8 0), (.i .u8 0), (.i .u8 0), (.i .u8 0), (.i .i64 0), (.i .u64 0), (.i .u64 0), (.i .u64 0), (.i .u64 0), (.i .u64 0), (.i .u64 0), (.i .u64 0), (.i .u64 0)] [(0, 13, (.t 43)), (13, 1, (.t 46))]))⟩, false), (⟨(some 48), none, (.op (.bslice [(.i .i64 0), (.i .u8 0), (.i .u8 0), (.i .u8 0), (.i .u8 0), (.i .i64 0), (.i .u64 0), (.i .u64 0), (.i .u64 0), (.i .u64 0), (.i .u64 0), (.i .u64 0), (.i .u64 0), (.i .u64 0)] 1 [(0, 14, (.t 47))]))⟩, true), (⟨(some 49), none, (.op (.app 14 88 (.t 42) (.t 48)))⟩, false), (⟨(some 50), none, (.op (.faddr 1 (.t 6)))⟩, false), (⟨none, none, (.op (.store 1 (.t 50) (.t 49)))⟩, false)]
theorem c70d0_w {P : Program} {O : Orc} {S0 : Mem} {rd : Bool} {e : Env} {S : Mem} {d : List Nat} {Q : Kont} : W P O S0 rd (.draw c70d0 []) e S d Q = wFl O c70d0w e S (normK Q d) := W_draw' (by kernel_rfl) (by kernel_rfl)
attribute [go_sem] c70d0_w c70d0w
def c70ra0 : ICode :=
  .region [⟨(some 7), none, (.op (.mv (.t 31)))⟩]
def c70rb0 : ICode :=
  .block 1 (.seq (.region [⟨(some 33), none, (.op (.mv (.t 7)))⟩,
    ⟨(some 34), none, (.op (.slice 1 (.t 33) none (some (.c (.i .i64 10))) none))⟩,
    ⟨(some 35), none, (.call 86 [(.t 34)])⟩,
    ⟨(some 32), none, (.op (.mv (.t 35)))⟩,
    ⟨(some 36), none, (.op (.ext (.t 32) 0))⟩,
    ⟨(some 37), none, (.op (.ext (.t 32) 1))⟩,
    ⟨(some 8), none, (.op (.fresh [(.i .i64 0), (.i .u8 0), (.i .u8 0), (.i .u8 0), (.i .u8 0), (.i .i64 0), (.i .u64 0), (.i .u64 0), (.i .u64 0), (.i .u64 0), (.i .u64 0), (.i .u64 0), (.i .u64 0)]))⟩,
    ⟨none, none, (.op (.store 13 (.t 8) (.t 36)))⟩,
    ⟨(some 9), none, (.op (.mv (.t 37)))⟩])
   (.live [2, 3, 8, 7, 6, 9] (.seq (.seq (.region [⟨(some 38), none, (.op (.mv (.t 9)))⟩,
    ⟨(some 39), none, (.op (.bin .int true .neq (.t 38) (.c (.i .i64 0))))⟩])
   (.live [2, 3, 8, 7, 6, 39] (.cond (.t 39) (.seq (.region [⟨(some 40), none, (.op (.build [(.i .u64 0), .sn] []))⟩,
    ⟨none, none, (.op (.store 2 (.t 2) (.t 40)))⟩,
    ⟨none, none, (.op (.store 1 (.t 3) (.c (.i .i64 131))))⟩])
   (.ret))
   (.skip))))
   (.live [8, 7, 6] (.draw c70d0 [])))))
def c70 : IFunc := ⟨1, [.cell 2 (some 2), .cell 3 none],
  .seq (.region [⟨(some 2), none, (.op (.fresh [(.i .u64 0), .sn]))⟩,
    ⟨(some 3), none, (.op (.fresh [(.i .i64 0)]))⟩])
   (.live [2, 3, 31, 33, 34, 35, 32, 36, 37, 9, 38, 39, 40, 41, 8, 7, 44, 45, 43, 46, 47, 42, 48, 50, 49, 0] (.seq (.region [⟨(some 11), none, (.op (.mv (.t 0)))⟩,
    ⟨(some 12), none, (.call 84 [(.t 11)])⟩,
    ⟨(some 10), none, (.op (.mv (.t 12)))⟩,
    ⟨(some 13), none, (.op (.ext (.t 10) 0))⟩,
    ⟨(some 14), none, (.op (.ext (.t 10) 1))⟩,
    ⟨(some 4), none, (.op (.mv (.t 13)))⟩,
    ⟨(some 5), none, (.op (.mv (.t 14)))⟩])
   (.live [2, 3, 31, 33, 34, 35, 32, 36, 37, 9, 38, 39, 40, 41, 8, 7, 44, 45, 43, 46, 47, 42, 48, 50, 49, 4, 5] (.seq (.seq (.region [⟨(some 15), none, (.op (.mv (.t 5)))⟩,
    ⟨(some 16), none, (.op (.bin .int true .neq (.t 15) (.c (.i .i64 0))))⟩,
    ⟨(some 17), none, (.op (.mv (.t 16)))⟩,
    ⟨(some 18), some (17, false), (.op (.mv (.t 4)))⟩,
    ⟨(some 19), some (17, false), (.op (.len .slice (.t 18)))⟩,
    ⟨(some 20), some (17, false), (.op (.bin .int true .rem (.t 19) (.c (.i .i64 11))))⟩,
    ⟨(some 21), some (17, false), (.op (.bin .int true .neq (.t 20) (.c (.i .i64 1))))⟩,
    ⟨(some 22), none, (.op (.pick (.t 17) (.c (.b true)) (.t 21)))⟩])
   (.live [2, 3, 31, 33, 34, 35, 32, 36, 37, 9, 38, 39, 40, 41, 8, 7, 44, 45, 43, 46, 47, 42, 48, 50, 49, 4, 22] (.cond (.t 22) (.seq (.region [⟨(some 23), none, (.op (.build [(.i .u64 0), .sn] []))⟩,
    ⟨none, none, (.op (.store 2 (.t 2) (.t 23)))⟩,
    ⟨none, none, (.op (.store 1 (.t 3) (.c (.i .i64 131))))⟩])
   (.ret))
   (.skip))))
   (.live [2, 3, 31, 33, 34, 35, 32, 36, 37, 9, 38, 39, 40, 41, 8, 7, 44, 45, 43, 46, 47, 42, 48, 50, 49, 4] (.seq (.region [⟨(some 24), none, (.op (.mv (.t 4)))⟩,
    ⟨(some 25), none, (.op (.iaddr none 1 (.t 24) (.c (.i .i64 0))))⟩,
    ⟨(some 26), none, (.op (.load none (.t 25)))⟩,
    ⟨(some 27), none, (.op (.build [(.i .u64 0), .sn] [(0, 1, (.t 26))]))⟩,
    ⟨(some 6), none, (.op (.fresh [(.i .u64 0), .sn]))⟩,
    ⟨none, none, (.op (.store 2 (.t 6) (.t 27)))⟩])
   (.live [2, 3, 6, 31, 33, 34, 35, 32, 36, 37, 9, 38, 39, 40, 41, 8, 7, 44, 45, 43, 46, 47, 42, 48, 50, 49, 4] (.seq (.seq (.region [⟨(some 28), none, (.op (.mv (.t 4)))⟩,
    ⟨(some 29), none, (.op (.slice 1 (.t 28) (some (.c (.i .i64 1))) none none))⟩,
    ⟨(some 30), none, (.call 85 [(.t 29), (.c (.i .i64 11))])⟩])
   (.live [2, 3, 6, 31, 33, 34, 35, 32, 36, 37, 9, 38, 39, 40, 41, 8, 7, 44, 45, 43, 46, 47, 42, 48, 50, 49, 30] (.block 0 (.rf (.t 30) 70 [true, true, true, true, false, true, false] [31, 7, 33, 34, 35, 32, 32, 8, 36, 37, 9, 38, 39, 2, 40, 3, 6, 41, 8, 7, 44, 45, 43, 46, 47, 42, 48, 6, 50, 49]))))
   (.live [2, 3, 6] (.seq (.seq (.region [⟨(some 51), none, (.op (.load (some 2) (.t 6)))⟩,
    ⟨(some 52), none, (.call 34 [(.t 51)])⟩,
    ⟨(some 53), none, (.op (.un .not (.t 52)))⟩])
   (.live [2, 3, 6, 53] (.cond (.t 53) (.seq (.region [⟨(some 54), none, (.op (.build [(.i .u64 0), .sn] []))⟩,
    ⟨none, none, (.op (.store 2 (.t 2) (.t 54)))⟩,
    ⟨none, none, (.op (.store 1 (.t 3) (.c (.i .i64 131))))⟩])
   (.ret))
   (.skip))))
   (.live [2, 3, 6] (.seq (.region [⟨(some 55), none, (.op (.load (some 2) (.t 6)))⟩,
    ⟨none, none, (.op (.store 2 (.t 2) (.t 55)))⟩,
    ⟨none, none, (.op (.store 1 (.t 3) (.c (.i .i64 0))))⟩])
   (.ret))))))))))))),
  [([true, true, true, true, false, true, false], [31], c70ra0, c70rb0)]⟩


/- floodgate/crc.tail -/

def c71 : IFunc := ⟨1, [.tmp 2],
  .seq (.region [⟨(some 2), none, (.op (.mv (.c .sn)))⟩])
   (.live [0] (.seq (.region [⟨(some 3), none, (.op (.mv (.t 0)))⟩,
    ⟨(some 4), none, (.op (.bin .int true .shr (.t 3) (.c (.i .u64 24))))⟩,
    ⟨(some 5), none, (.op (.toInt .u8 (.t 4)))⟩,
    ⟨(some 6), none, (.op (.mv (.t 0)))⟩,
    ⟨(some 7), none, (.op (.bin .int true .shr (.t 6) (.c (.i .u64 16))))⟩,
    ⟨(some 8), none, (.op (.toInt .u8 (.t 7)))⟩,
    ⟨(some 9), none, (.op (.mv (.t 0)))⟩,
    ⟨(some 10), none, (.op (.bin .int true .shr (.t 9) (.c (.i .u64 8))))⟩,
    ⟨(some 11), none, (.op (.toInt .u8 (.t 10)))⟩,
    ⟨(some 12), none, (.op (.mv (.t 0)))⟩,
    ⟨(some 13), none, (.op (.toInt .u8 (.t 12)))⟩,
    ⟨(some 14), none, (.op (.bslice [(.i .u8 0)] 4 [(0, 1, (.t 5)), (1, 1, (.t 8)), (2, 1, (.t 11)), (3, 1, (.t 13))]))⟩,
    ⟨(some 2), none, (.op (.mv (.t 14)))⟩])
   (.ret))),
  []⟩


/- floodgate/crc.Of -/
def c72l0 : ICode :=
  .seq (.region [⟨(some 9), none, (.op (.bin .int false .lss (.t 8) (.t 7)))⟩])
   (.live [6, 7, 8, 3, 9] (.seq (.cond (.t 9) (.skip)
   (.exit 0))
   (.live [6, 7, 8, 3] (.seq (.block 1 (.seq (.region [⟨(some 10), none, (.op (.iaddr none 1 (.t 6) (.t 8)))⟩,
    ⟨(some 11), none, (.op (.load none (.t 10)))⟩,
    ⟨(some 5), none, (.op (.mv (.t 11)))⟩])
   (.live [6, 7, 8, 5, 3] (.region [⟨(some 12), none, (.op (.mv (.t 3)))⟩,
    ⟨(some 13), none, (.op (.mv (.t 5)))⟩,
    ⟨(some 14), none, (.call 87 [(.t 12), (.t 13)])⟩,
    ⟨(some 3), none, (.op (.mv (.t 14)))⟩]))))
   (.live [6, 7, 3, 8] (.region [⟨(some 15), none, (.op (.bin .int true .add (.t 8) (.c (.i .i64 1))))⟩,
    ⟨(some 8), none, (.op (.mv (.t 15)))⟩]))))))
def c72 : IFunc := ⟨1, [.tmp 2],
  .seq (.region [⟨(some 2), none, (.op (.mv (.c (.i .u32 0))))⟩])
   (.live [0] (.seq (.region [⟨(some 3), none, (.op (.mv (.c (.i .u32 0))))⟩])
   (.live [3, 0] (.seq (.seq (.region [⟨(some 6), none, (.op (.mv (.t 0)))⟩,
    ⟨(some 7), none, (.op (.len .slice (.t 6)))⟩,
    ⟨(some 8), none, (.op (.mv (.c (.i .i64 0))))⟩])
   (.live [6, 7, 8, 3] (.block 0 (.loop [6, 7, 8, 3] c72l0))))
   (.live [3] (.seq (.region [⟨(some 16), none, (.op (.mv (.t 3)))⟩,
    ⟨(some 2), none, (.op (.mv (.t 16)))⟩])
   (.ret))))))),
  []⟩


/- slices.Backward[[]byte,byte] -/

def c73 : IFunc := ⟨1, [.tmp 2],
  .seq (.region [⟨(some 1), none, (.op (.box (.t 0)))⟩,
    ⟨(some 2), none, (.op (.mv (.c .nf)))⟩])
   (.live [1] (.seq (.region [⟨(some 3), none, (.op (.mkf (.func 88) [] [(.t 1)]))⟩,
    ⟨(some 2), none, (.op (.mv (.t 3)))⟩])
   (.ret))),
  []⟩


/- floodgate/policy.Right -/

def c74 : IFunc := ⟨1, [.tmp 2],
  .seq (.region [⟨(some 1), none, (.op (.box (.t 0)))⟩,
    ⟨(some 2), none, (.op (.mv (.c (.b false))))⟩])
   (.live [1] (.seq (.region [⟨(some 3), none, (.op (.mv (.c (.f (.func 89) [] []))))⟩])
   (.live [3, 1] (.seq (.region [⟨(some 4), none, (.op (.mv (.c (.f (.func 90) [] []))))⟩])
   (.live [4, 3, 1] (.seq (.region [⟨(some 6), none, (.op (.faddr 11 (.t 1)))⟩,
    ⟨(some 7), none, (.op (.load none (.t 6)))⟩,
    ⟨(some 8), none, (.op (.faddr 12 (.t 1)))⟩,
    ⟨(some 9), none, (.op (.load none (.t 8)))⟩,
    ⟨(some 10), none, (.op (.bslice [(.i .u64 0)] 2 [(0, 1, (.t 7)), (1, 1, (.t 9))]))⟩,
    ⟨(some 5), none, (.op (.mv (.t 10)))⟩])
   (.live [4, 5, 3, 1] (.seq (.block 0 (.seq (.region [⟨(some 12), none, (.op (.faddr 0 (.t 1)))⟩,
    ⟨(some 13), none, (.op (.load none (.t 12)))⟩,
    ⟨(some 14), none, (.op (.bin .int true .lss (.t 13) (.c (.i .i64 1))))⟩,
    ⟨(some 15), none, (.op (.mv (.t 14)))⟩,
    ⟨(some 16), some (15, false), (.op (.faddr 0 (.t 1)))⟩,
    ⟨(some 17), some (15, false), (.op (.load none (.t 16)))⟩,
    ⟨(some 18), some (15, false), (.op (.bin .int true .gtr (.t 17) (.c (.i .i64 255))))⟩,
    ⟨(some 19), none, (.op (.pick (.t 15) (.c (.b true)) (.t 18)))⟩,
    ⟨(some 20), none, (.op (.mv (.t 19)))⟩,
    ⟨(some 21), some (20, false), (.op (.faddr 1 (.t 1)))⟩,
    ⟨(some 22), some (20, false), (.op (.load (some 5) (.t 21)))⟩,
    ⟨(some 23), some (20, false), (.call 91 [(.t 22)])⟩,
    ⟨(some 24), some (20, false), (.op (.un .not (.t 23)))⟩,
    ⟨(some 25), none, (.op (.pick (.t 20) (.c (.b true)) (.t 24)))⟩,
    ⟨(some 11), none, (.op (.mv (.t 25)))⟩])
   (.live [4, 5, 3, 1, 11] (.cond (.t 11) (.seq (.region [⟨(some 2), none, (.op (.mv (.c (.b false))))⟩])
   (.ret))
   (.seq (.region [⟨(some 27), none, (.op (.mv (.t 5)))⟩,
    ⟨(some 28), none, (.op (.faddr 6 (.t 1)))⟩,
    ⟨(some 29), none, (.op (.load none (.t 28)))⟩,
    ⟨(some 30), none, (.op (.faddr 7 (.t 1)))⟩,
    ⟨(some 31), none, (.op (.load none (.t 30)))⟩,
    ⟨(some 32), none, (.op (.faddr 8 (.t 1)))⟩,
    ⟨(some 33), none, (.op (.load none (.t 32)))⟩,
    ⟨(some 34), none, (.op (.faddr 9 (.t 1)))⟩,
    ⟨(some 35), none, (.op (.load none (.t 34)))⟩,
    ⟨(some 36), none, (.op (.faddr 10 (.t 1)))⟩,
    ⟨(some 37), none, (.op (.load none (.t 36)))⟩,
    ⟨(some 38), none, (.op (.bslice [(.i .u64 0)] 5 [(0, 1, (.t 29)), (1, 1, (.t 31)), (2, 1, (.t 33)), (3, 1, (.t 35)), (4, 1, (.t 37))]))⟩,
    ⟨(some 39), none, (.op (.app 1 8 (.t 27) (.t 38)))⟩,
    ⟨(some 40), none, (.op (.mv (.t 3)))⟩,
    ⟨(some 41), none, (.call 92 [(.t 39), (.t 40)])⟩,
    ⟨(some 26), none, (.op (.mv (.t 41)))⟩])
   (.live [4, 5, 26] (.cond (.t 26) (.seq (.region [⟨(some 2), none, (.op (.mv (.c (.b false))))⟩])
   (.ret))
   (.skip))))))))
   (.live [4, 5] (.seq (.region [⟨(some 42), none, (.op (.mv (.t 5)))⟩,
    ⟨(some 43), none, (.op (.mv (.t 4)))⟩,
    ⟨(some 44), none, (.call 92 [(.t 42), (.t 43)])⟩,
    ⟨(some 45), none, (.op (.un .not (.t 44)))⟩,
    ⟨(some 2), none, (.op (.mv (.t 45)))⟩])
   (.ret))))))))))),
  []⟩


/- floodgate/addr.Num -/
def c75l0 : ICode :=
  .seq (.region [⟨(some 8), none, (.op (.bin .int true .lss (.t 7) (.c (.i .i64 4))))⟩])
   (.live [6, 7, 3, 8] (.seq (.cond (.t 8) (.skip)
   (.exit 0))
   (.live [6, 7, 3] (.seq (.block 1 (.seq (.region [⟨(some 9), none, (.op (.ixa 4 1 none (.t 6) (.t 7)))⟩,
    ⟨(some 5), none, (.op (.mv (.t 9)))⟩])
   (.live [6, 7, 5, 3] (.region [⟨(some 10), none, (.op (.mv (.t 3)))⟩,
    ⟨(some 11), none, (.op (.bin .int true .shl (.t 10) (.c (.i .u64 8))))⟩,
    ⟨(some 12), none, (.op (.mv (.t 5)))⟩,
    ⟨(some 13), none, (.op (.toInt .u32 (.t 12)))⟩,
    ⟨(some 14), none, (.op (.bin .int false .or (.t 11) (.t 13)))⟩,
    ⟨(some 3), none, (.op (.mv (.t 14)))⟩]))))
   (.live [6, 3, 7] (.region [⟨(some 15), none, (.op (.bin .int true .add (.t 7) (.c (.i .i64 1))))⟩,
    ⟨(some 7), none, (.op (.mv (.t 15)))⟩]))))))
def c75 : IFunc := ⟨1, [.tmp 2],
  .seq (.region [⟨(some 1), none, (.op (.box (.t 0)))⟩,
    ⟨(some 2), none, (.op (.mv (.c (.i .u32 0))))⟩])
   (.live [1] (.seq (.region [⟨(some 3), none, (.op (.mv (.c (.i .u32 0))))⟩])
   (.live [3, 1] (.seq (.seq (.region [⟨(some 6), none, (.op (.load (some 4) (.t 1)))⟩,
    ⟨(some 7), none, (.op (.mv (.c (.i .i64 0))))⟩])
   (.live [6, 7, 3] (.block 0 (.loop [6, 7, 3] c75l0))))
   (.live [3] (.seq (.region [⟨(some 16), none, (.op (.mv (.t 3)))⟩,
    ⟨(some 2), none, (.op (.mv (.t 16)))⟩])
   (.ret))))))),
  []⟩


/- floodgate/area.Segs -/

def c78 : IFunc := ⟨1, [.tmp 2, .tmp 3],
  .seq (.region [⟨(some 2), none, (.op (.mv (.c (.i .i64 0))))⟩,
    ⟨(some 3), none, (.op (.mv (.c (.i .i64 0))))⟩])
   (.live [0] (.seq (.seq (.region [⟨(some 4), none, (.op (.mv (.t 0)))⟩,
    ⟨(some 5), none, (.op (.bin .int true .lss (.t 4) (.c (.i .i64 64))))⟩,
    ⟨(some 6), none, (.op (.mv (.t 5)))⟩,
    ⟨(some 7), some (6, false), (.op (.mv (.t 0)))⟩,
    ⟨(some 8), some (6, false), (.op (.bin .int true .gtr (.t 7) (.c (.i .i64 512))))⟩,
    ⟨(some 9), none, (.op (.pick (.t 6) (.c (.b true)) (.t 8)))⟩])
   (.live [0, 9] (.cond (.t 9) (.seq (.region [⟨(some 2), none, (.op (.mv (.c (.i .i64 0))))⟩,
    ⟨(some 3), none, (.op (.mv (.c (.i .i64 91))))⟩])
   (.ret))
   (.skip))))
   (.live [0] (.seq (.region [⟨(some 10), none, (.op (.mv (.t 0)))⟩,
    ⟨(some 11), none, (.op (.bin .int true .sub (.t 10) (.c (.i .i64 32))))⟩,
    ⟨(some 12), none, (.op (.bin .int true .quo (.t 11) (.c (.i .i64 16))))⟩,
    ⟨(some 2), none, (.op (.mv (.t 12)))⟩,
    ⟨(some 3), none, (.op (.mv (.c (.i .i64 0))))⟩])
   (.ret))))),
  []⟩


/- slices.IndexFunc[[]floodgate/api.Entry,floodgate/api.Entry] -/
def c79l0 : ICode :=
  .seq (.region [⟨(some 9), none, (.op (.bin .int false .lss (.t 8) (.t 7)))⟩])
   (.live [0, 1, 7, 8, 9] (.seq (.cond (.t 9) (.skip)
   (.exit 0))
   (.live [0, 1, 7, 8] (.seq (.block 1 (.seq (.region [⟨(some 10), none, (.op (.mv (.t 8)))⟩,
    ⟨(some 5), none, (.op (.mv (.t 10)))⟩])
   (.live [5, 0, 1, 7, 8] (.seq (.region [⟨(some 11), none, (.op (.mv (.t 1)))⟩,
    ⟨(some 12), none, (.op (.mv (.t 0)))⟩,
    ⟨(some 13), none, (.op (.mv (.t 5)))⟩,
    ⟨(some 14), none, (.op (.iaddr none 14 (.t 12) (.t 13)))⟩,
    ⟨(some 15), none, (.op (.load (some 14) (.t 14)))⟩,
    ⟨(some 16), none, (.callv (.t 11) [(.t 15)])⟩])
   (.live [5, 0, 1, 7, 8, 16] (.cond (.t 16) (.seq (.region [⟨(some 17), none, (.op (.mv (.t 5)))⟩,
    ⟨(some 4), none, (.op (.mv (.t 17)))⟩])
   (.ret))
   (.skip)))))))
   (.live [0, 1, 7, 8] (.region [⟨(some 18), none, (.op (.bin .int true .add (.t 8) (.c (.i .i64 1))))⟩,
    ⟨(some 8), none, (.op (.mv (.t 18)))⟩]))))))
def c79 : IFunc := ⟨2, [.tmp 4],
  .seq (.region [⟨(some 4), none, (.op (.mv (.c (.i .i64 0))))⟩])
   (.live [0, 1] (.seq (.seq (.region [⟨(some 6), none, (.op (.mv (.t 0)))⟩,
    ⟨(some 7), none, (.op (.len .slice (.t 6)))⟩,
    ⟨(some 8), none, (.op (.mv (.c (.i .i64 0))))⟩])
   (.live [0, 1, 7, 8] (.block 0 (.loop [0, 1, 7, 8] c79l0))))
   (.live [] (.seq (.region [⟨(some 4), none, (.op (.mv (.c (.i .i64 (-1)))))⟩])
   (.ret))))),
  []⟩


/- slices.Equal[[]byte,byte] -/
def c80d0 : List Stage :=
  [⟨[(⟨(some 16), none, (.op (.mv (.t 0)))⟩, 0), (⟨(some 17), none, (.op (.mv (.t 5)))⟩, 0), (⟨(some 18), none, (.op (.iaddr none 1 (.t 16) (.t 17)))⟩, 0), (⟨(some 19), none, (.op (.load none (.t 18)))⟩, 0), (⟨(some 20), none, (.op (.mv (.t 1)))⟩, 0), (⟨(some 21), none, (.op (.mv (.t 5)))⟩, 0), (⟨(some 22), none, (.op (.iaddr none 1 (.t 20) (.t 21)))⟩, 0), (⟨(some 23), none, (.op (.load none (.t 22)))⟩, 0), (⟨(some 24), none, (.op (.bin .int false .neq (.t 19) (.t 23)))⟩, 0)], none, none⟩]
def c80d0w : List (ROp × Bool) :=
  [(⟨(some 16), none, (.op (.mv (.t 0)))⟩, false), (⟨(some 17), none, (.op (.mv (.t 5)))⟩, false), (⟨(some 18), none, (.op (.iaddr none 1 (.t 16) (.t 17)))⟩, false), (⟨(some 19), none, (.op (.load none (.t 18)))⟩, false), (⟨(some 20), none, (.op (.mv (.t 1)))⟩, false), (⟨(some 21), none, (.op (.mv (.t 5)))⟩, false), (⟨(some 22), none, (.op (.iaddr none 1 (.t 20) (.t 21)))⟩, false), (⟨(some 23), none, (.op (.load none (.t 22)))⟩, false), (⟨(some 24), none, (.op (.bin .int false .neq (.t 19) (.t 23)))⟩, false)]
theorem c80d0_w {P : Program} {O : Orc} {S0 : Mem} {rd : Bool} {e : Env} {S : Mem} {d : List Nat} {Q : Kont} : W P O S0 rd (.draw c80d0 []) e S d Q = wFl O c80d0w e S (normK Q d) := W_draw' (by kernel_rfl) (by kernel_rfl)
attribute [go_sem] c80d0_w c80d0w
def c80l1 : ICode :=
  .seq (.region [⟨(some 14), none, (.op (.bin .int false .lss (.t 13) (.t 12)))⟩])
   (.live [0, 1, 12, 13, 14] (.seq (.cond (.t 14) (.skip)
   (.exit 0))
   (.live [0, 1, 12, 13] (.seq (.block 1 (.seq (.region [⟨(some 15), none, (.op (.mv (.t 13)))⟩,
    ⟨(some 5), none, (.op (.mv (.t 15)))⟩])
   (.live [0, 1, 12, 13, 5] (.seq (.draw c80d0 [])
   (.live [0, 1, 12, 13, 24] (.cond (.t 24) (.seq (.region [⟨(some 4), none, (.op (.mv (.c (.b false))))⟩])
   (.ret))
   (.skip)))))))
   (.live [0, 1, 12, 13] (.region [⟨(some 25), none, (.op (.bin .int true .add (.t 13) (.c (.i .i64 1))))⟩,
    ⟨(some 13), none, (.op (.mv (.t 25)))⟩]))))))
def c80 : IFunc := ⟨2, [.tmp 4],
  .seq (.region [⟨(some 4), none, (.op (.mv (.c (.b false))))⟩])
   (.live [0, 1] (.seq (.seq (.region [⟨(some 6), none, (.op (.mv (.t 0)))⟩,
    ⟨(some 7), none, (.op (.len .slice (.t 6)))⟩,
    ⟨(some 8), none, (.op (.mv (.t 1)))⟩,
    ⟨(some 9), none, (.op (.len .slice (.t 8)))⟩,
    ⟨(some 10), none, (.op (.bin .int false .neq (.t 7) (.t 9)))⟩])
   (.live [0, 1, 10] (.cond (.t 10) (.seq (.region [⟨(some 4), none, (.op (.mv (.c (.b false))))⟩])
   (.ret))
   (.skip))))
   (.live [0, 1] (.seq (.seq (.region [⟨(some 11), none, (.op (.mv (.t 0)))⟩,
    ⟨(some 12), none, (.op (.len .slice (.t 11)))⟩,
    ⟨(some 13), none, (.op (.mv (.c (.i .i64 0))))⟩])
   (.live [0, 1, 12, 13] (.block 0 (.loop [0, 1, 12, 13] c80l1))))
   (.live [] (.seq (.region [⟨(some 4), none, (.op (.mv (.c (.b true))))⟩])
   (.ret))))))),
  []⟩


/- slices.Clone[[]byte,byte] -/

def c81 : IFunc := ⟨1, [.tmp 2],
  .seq (.region [⟨(some 2), none, (.op (.mv (.c .sn)))⟩])
   (.live [0] (.seq (.seq (.region [⟨(some 3), none, (.op (.mv (.t 0)))⟩,
    ⟨(some 4), none, (.op (.bin .slice true .eql (.t 3) (.c .sn)))⟩])
   (.live [0, 4] (.cond (.t 4) (.seq (.region [⟨(some 2), none, (.op (.mv (.c .sn)))⟩])
   (.ret))
   (.skip))))
   (.live [0] (.seq (.region [⟨(some 5), none, (.op (.bslice [(.i .u8 0)] 0 []))⟩,
    ⟨(some 6), none, (.op (.mv (.t 0)))⟩,
    ⟨(some 7), none, (.op (.app 1 1 (.t 5) (.t 6)))⟩,
    ⟨(some 2), none, (.op (.mv (.t 7)))⟩])
   (.ret))))),
  []⟩


/- slices.IndexFunc[[]byte,byte] -/
def c82l0 : ICode :=
  .seq (.region [⟨(some 9), none, (.op (.bin .int false .lss (.t 8) (.t 7)))⟩])
   (.live [0, 1, 7, 8, 9] (.seq (.cond (.t 9) (.skip)
   (.exit 0))
   (.live [0, 1, 7, 8] (.seq (.block 1 (.seq (.region [⟨(some 10), none, (.op (.mv (.t 8)))⟩,
    ⟨(some 5), none, (.op (.mv (.t 10)))⟩])
   (.live [5, 0, 1, 7, 8] (.seq (.region [⟨(some 11), none, (.op (.mv (.t 1)))⟩,
    ⟨(some 12), none, (.op (.mv (.t 0)))⟩,
    ⟨(some 13), none, (.op (.mv (.t 5)))⟩,
    ⟨(some 14), none, (.op (.iaddr none 1 (.t 12) (.t 13)))⟩,
    ⟨(some 15), none, (.op (.load none (.t 14)))⟩,
    ⟨(some 16), none, (.callv (.t 11) [(.t 15)])⟩])
   (.live [5, 0, 1, 7, 8, 16] (.cond (.t 16) (.seq (.region [⟨(some 17), none, (.op (.mv (.t 5)))⟩,
    ⟨(some 4), none, (.op (.mv (.t 17)))⟩])
   (.ret))
   (.skip)))))))
   (.live [0, 1, 7, 8] (.region [⟨(some 18), none, (.op (.bin .int true .add (.t 8) (.c (.i .i64 1))))⟩,
    ⟨(some 8), none, (.op (.mv (.t 18)))⟩]))))))
def c82 : IFunc := ⟨2, [.tmp 4],
  .seq (.region [⟨(some 4), none, (.op (.mv (.c (.i .i64 0))))⟩])
   (.live [0, 1] (.seq (.seq (.region [⟨(some 6), none, (.op (.mv (.t 0)))⟩,
    ⟨(some 7), none, (.op (.len .slice (.t 6)))⟩,
    ⟨(some 8), none, (.op (.mv (.c (.i .i64 0))))⟩])
   (.live [0, 1, 7, 8] (.block 0 (.loop [0, 1, 7, 8] c82l0))))
   (.live [] (.seq (.region [⟨(some 4), none, (.op (.mv (.c (.i .i64 (-1)))))⟩])
   (.ret))))),
  []⟩


/- floodgate/leb.Size -/

def c83 : IFunc := ⟨1, [.tmp 2],
  .seq (.region [⟨(some 2), none, (.op (.mv (.c (.i .i64 0))))⟩])
   (.live [0] (.seq (.region [⟨(some 3), none, (.op (.mv (.t 0)))⟩,
    ⟨(some 4), none, (.call 94 [(.t 3)])⟩,
    ⟨(some 5), none, (.op (.bin .int true .add (.t 4) (.c (.i .i64 7))))⟩,
    ⟨(some 6), none, (.op (.bin .int true .sub (.t 5) (.c (.i .i64 1))))⟩,
    ⟨(some 7), none, (.op (.bin .int true .quo (.t 6) (.c (.i .i64 7))))⟩,
    ⟨(some 8), none, (.op (.mm true [(.c (.i .i64 1)), (.t 7)]))⟩,
    ⟨(some 2), none, (.op (.mv (.t 8)))⟩])
   (.ret))),
  []⟩


/- floodgate/leb.All -/
def c84l0 : ICode :=
  .seq (.seq (.region [⟨(some 8), none, (.op (.mv (.t 0)))⟩,
    ⟨(some 9), none, (.op (.len .slice (.t 8)))⟩,
    ⟨(some 10), none, (.op (.bin .int true .gtr (.t 9) (.c (.i .i64 0))))⟩])
   (.live [0, 4, 10] (.cond (.t 10) (.skip)
   (.exit 0))))
   (.live [0, 4] (.block 1 (.seq (.region [⟨(some 12), none, (.op (.mv (.t 0)))⟩,
    ⟨(some 13), none, (.call 68 [(.t 12)])⟩,
    ⟨(some 11), none, (.op (.mv (.t 13)))⟩,
    ⟨(some 14), none, (.op (.ext (.t 11) 0))⟩,
    ⟨(some 15), none, (.op (.ext (.t 11) 1))⟩,
    ⟨(some 16), none, (.op (.ext (.t 11) 2))⟩,
    ⟨(some 5), none, (.op (.mv (.t 14)))⟩,
    ⟨(some 6), none, (.op (.mv (.t 15)))⟩,
    ⟨(some 7), none, (.op (.mv (.t 16)))⟩])
   (.live [6, 0, 5, 4, 7] (.seq (.seq (.region [⟨(some 17), none, (.op (.mv (.t 7)))⟩,
    ⟨(some 18), none, (.op (.bin .int true .neq (.t 17) (.c (.i .i64 0))))⟩,
    ⟨(some 19), none, (.op (.mv (.t 18)))⟩,
    ⟨(some 20), some (19, false), (.op (.mv (.t 4)))⟩,
    ⟨(some 21), some (19, false), (.op (.len .slice (.t 20)))⟩,
    ⟨(some 22), some (19, false), (.op (.bin .int true .geq (.t 21) (.c (.i .i64 128))))⟩,
    ⟨(some 23), none, (.op (.pick (.t 19) (.c (.b true)) (.t 22)))⟩])
   (.live [6, 0, 5, 4, 23] (.cond (.t 23) (.seq (.region [⟨(some 2), none, (.op (.mv (.c .sn)))⟩,
    ⟨(some 3), none, (.op (.mv (.c (.i .i64 21))))⟩])
   (.ret))
   (.skip))))
   (.live [6, 0, 5, 4] (.seq (.region [⟨(some 24), none, (.op (.mv (.t 4)))⟩,
    ⟨(some 25), none, (.op (.mv (.t 5)))⟩,
    ⟨(some 26), none, (.op (.bslice [(.i .u64 0)] 1 [(0, 1, (.t 25))]))⟩,
    ⟨(some 27), none, (.op (.app 1 8 (.t 24) (.t 26)))⟩,
    ⟨(some 4), none, (.op (.mv (.t 27)))⟩])
   (.live [4, 6, 0] (.region [⟨(some 28), none, (.op (.mv (.t 0)))⟩,
    ⟨(some 29), none, (.op (.mv (.t 6)))⟩,
    ⟨(some 30), none, (.op (.slice 1 (.t 28) (some (.t 29)) none none))⟩,
    ⟨(some 0), none, (.op (.mv (.t 30)))⟩])))))))))
def c84 : IFunc := ⟨1, [.tmp 2, .tmp 3],
  .seq (.region [⟨(some 2), none, (.op (.mv (.c .sn)))⟩,
    ⟨(some 3), none, (.op (.mv (.c (.i .i64 0))))⟩])
   (.live [0] (.seq (.region [⟨(some 4), none, (.op (.mv (.c .sn)))⟩])
   (.live [0, 4] (.seq (.block 0 (.loop [0, 4] c84l0))
   (.live [4] (.seq (.region [⟨(some 31), none, (.op (.mv (.t 4)))⟩,
    ⟨(some 2), none, (.op (.mv (.t 31)))⟩,
    ⟨(some 3), none, (.op (.mv (.c (.i .i64 0))))⟩])
   (.ret))))))),
  []⟩


/- slices.Chunk[[]uint64,uint64] -/

def c85 : IFunc := ⟨2, [.tmp 4],
  .seq (.region [⟨(some 2), none, (.op (.box (.t 0)))⟩,
    ⟨(some 3), none, (.op (.box (.t 1)))⟩,
    ⟨(some 4), none, (.op (.mv (.c .nf)))⟩])
   (.live [2, 3] (.seq (.seq (.region [⟨(some 5), none, (.op (.load none (.t 3)))⟩,
    ⟨(some 6), none, (.op (.bin .int true .lss (.t 5) (.c (.i .i64 1))))⟩])
   (.live [2, 3, 6] (.cond (.t 6) (.region [⟨(some 7), none, (.op (.bad))⟩,
    ⟨none, none, (.op (.bad))⟩])
   (.skip))))
   (.live [2, 3] (.seq (.region [⟨(some 8), none, (.op (.mkf (.func 95) [] [(.t 2), (.t 3)]))⟩,
    ⟨(some 4), none, (.op (.mv (.t 8)))⟩])
   (.ret))))),
  []⟩


/- floodgate/policy.Of -/
def c86d0 : List Stage :=
  [⟨[(⟨(some 33), none, (.op (.mv (.t 4)))⟩, 1), (⟨(some 34), none, (.op (.mv (.t 0)))⟩, 0), (⟨(some 35), none, (.op (.iaddr none 1 (.t 34) (.c (.i .i64 1))))⟩, 0), (⟨(some 36), none, (.op (.load none (.t 35)))⟩, 0), (⟨(some 37), none, (.op (.toInt .u32 (.t 36)))⟩, 0), (⟨(some 39), none, (.op (.mv (.t 6)))⟩, 1), (⟨(some 41), none, (.op (.mv (.t 0)))⟩, 1), (⟨(some 42), none, (.op (.iaddr none 1 (.t 41) (.c (.i .i64 3))))⟩, 1), (⟨(some 43), none, (.op (.load none (.t 42)))⟩, 1), (⟨(some 44), none, (.op (.mv (.t 0)))⟩, 1), (⟨(some 45), none, (.op (.iaddr none 1 (.t 44) (.c (.i .i64 4))))⟩, 1), (⟨(some 46), none, (.op (.load none (.t 45)))⟩, 1), (⟨(some 47), none, (.op (.mv (.t 0)))⟩, 1), (⟨(some 48), none, (.op (.iaddr none 1 (.t 47) (.c (.i .i64 5))))⟩, 1), (⟨(some 49), none, (.op (.load none (.t 48)))⟩, 1), (⟨(some 50), none, (.op (.mv (.t 0)))⟩, 1), (⟨(some 51), none, (.op (.iaddr none 1 (.t 50) (.c (.i .i64 6))))⟩, 1), (⟨(some 52), none, (.op (.load none (.t 51)))⟩, 1), (⟨(some 53), none, (.op (.mv (.t 0)))⟩, 1), (⟨(some 54), none, (.op (.iaddr none 1 (.t 53) (.c (.i .i64 7))))⟩, 1), (⟨(some 55), none, (.op (.load none (.t 54)))⟩, 1), (⟨(some 56), none, (.op (.mv (.t 0)))⟩, 1), (⟨(some 57), none, (.op (.iaddr none 1 (.t 56) (.c (.i .i64 8))))⟩, 1), (⟨(some 58), none, (.op (.load none (.t 57)))⟩, 1), (⟨(some 59), none, (.op (.mv (.t 0)))⟩, 1), (⟨(some 60), none, (.op (.iaddr none 1 (.t 59) (.c (.i .i64 9))))⟩, 1), (⟨(some 61), none, (.op (.load none (.t 60)))⟩, 1)], none, some ⟨(some 38), none, (.call 96 [(.t 37)])⟩⟩,
    ⟨[(⟨(some 40), none, (.op (.build [(.i .u8 0), (.i .u8 0), (.i .u8 0), (.i .u8 0), (.i .i64 0)] [(0, 4, (.t 38)), (4, 1, (.t 39))]))⟩, 1), (⟨(some 62), none, (.op (.build [(.i .i64 0), (.i .u8 0), (.i .u8 0), (.i .u8 0), (.i .u8 0), (.i .i64 0), (.i .u64 0), (.i .u64 0), (.i .u64 0), (.i .u64 0), (.i .u64 0), (.i .u64 0), (.i .u64 0)] [(0, 1, (.t 33)), (1, 5, (.t 40)), (6, 1, (.t 43)), (7, 1, (.t 46)), (8, 1, (.t 49)), (9, 1, (.t 52)), (10, 1, (.t 55)), (11, 1, (.t 58)), (12, 1, (.t 61))]))⟩, 1)], some ⟨(some 8), none, (.op (.fresh [(.i .i64 0), (.i .u8 0), (.i .u8 0), (.i .u8 0), (.i .u8 0), (.i .i64 0), (.i .u64 0), (.i .u64 0), (.i .u64 0), (.i .u64 0), (.i .u64 0), (.i .u64 0), (.i .u64 0)]))⟩, some ⟨none, none, (.op (.store 13 (.t 8) (.t 62)))⟩⟩,
    ⟨[], none, none⟩]
def c86d0w : List (ROp × Bool) :=
  [(⟨(some 33), none, (.op (.mv (.t 4)))⟩, false), (⟨(some 34), none, (.op (.mv (.t 0)))⟩, false), (⟨(some 35), none, (.op (.iaddr none 1 (.t 34) (.c (.i .i64 1))))⟩, false), (⟨(some 36), none, (.op (.load none (.t 35)))⟩, false), (⟨(some 37), none, (.op (.toInt .u32 (.t 36)))⟩, false), (⟨(some 39), none, (.op (.mv (.t 6)))⟩, false), (⟨(some 41), none, (.op (.mv (.t 0)))⟩, false), (⟨(some 42), none, (.op (.iaddr none 1 (.t 41) (.c (.i .i64 3))))⟩, false), (⟨(some 43), none, (.op (.load none (.t 42)))⟩, false), (⟨(some 44), none, (.op (.mv (.t 0)))⟩, false), (⟨(some 45), none, (.op (.iaddr none 1 (.t 44) (.c (.i .i64 4))))⟩, false), (⟨(some 46), none, (.op (.load none (.t 45)))⟩, false), (⟨(some 47), none, (.op (.mv (.t 0)))⟩, false), (⟨(some 48), none, (.op (.iaddr none 1 (.t 47) (.c (.i .i64 5))))⟩, false), (⟨(some 49), none, (.op (.load none (.t 48)))⟩, false), (⟨(some 50), none, (.op (.mv (.t 0)))⟩, false), (⟨(some 51), none, (.op (.iaddr none 1 (.t 50) (.c (.i .i64 6))))⟩, false), (⟨(some 52), none, (.op (.load none (.t 51)))⟩, false), (⟨(some 53), none, (.op (.mv (.t 0)))⟩, false), (⟨(some 54), none, (.op (.iaddr none 1 (.t 53) (.c (.i .i64 7))))⟩, false), (⟨(some 55), none, (.op (.load none (.t 54)))⟩, false), (⟨(some 56), none, (.op (.mv (.t 0)))⟩, false), (⟨(some 57), none, (.op (.iaddr none 1 (.t 56) (.c (.i .i64 8))))⟩, false), (⟨(some 58), none, (.op (.load none (.t 57)))⟩, false), (⟨(some 59), none, (.op (.mv (.t 0)))⟩, false), (⟨(some 60), none, (.op (.iaddr none 1 (.t 59) (.c (.i .i64 9))))⟩, false), (⟨(some 61), none, (.op (.load none (.t 60)))⟩, false), (⟨(some 38), none, (.call 96 [(.t 37)])⟩, true), (⟨(some 40), none, (.op (.build [(.i .u8 0), (.i .u8 0), (.i .u8 0), (.i .u8 0), (.i .i64 0)] [(0, 4, (.t 38)), (4, 1, (.t 39))]))⟩, false), (⟨(some 62), none, (.op (.build [(.i .i64 0), (.i .u8 0), (.i .u8 0), (.i .u8 0), (.i .u8 0), (.i .i64 0), (.i .u64 0), (.i .u64 0), (.i .u64 0), (.i .u64 0), (.i .u64 0), (.i .u64 0), (.i .u64 0)] [(0, 1, (.t 33)), (1, 5, (.t 40)), (6, 1, (.t 43)), (7, 1, (.t 46)), (8, 1, (.t 49)), (9, 1, (.t 52)), (10, 1, (.t 55)), (11, 1, (.t 58)), (12, 1, (.t 61))]))⟩, false), (⟨(some 8), none, (.op (.fresh [(.i .i64 0), (.i .u8 0), (.i .u8 0), (.i .u8 0), (.i .u8 0), (.i .i64 0), (.i .u64 0), (.i .u64 0), (.i .u64 0), (.i .u64 0), (.i .u64 0), (.i .u64 0), (.i .u64 0)]))⟩, true), (⟨none, none, (.op (.store 13 (.t 8) (.t 62)))⟩, false)]
theorem c86d0_w {P : Program} {O : Orc} {S0 : Mem} {rd : Bool} {e : Env} {S : Mem} {d : List Nat} {Q : Kont} : W P O S0 rd (.draw c86d0 []) e S d Q = wFl O c86d0w e S (normK Q d) := W_draw' (by kernel_rfl) (by kernel_rfl)
attribute [go_sem] c86d0_w c86d0w
def c86 : IFunc := ⟨1, [.cell 2 (some 13), .tmp 3],
  .seq (.region [⟨(some 2), none, (.op (.fresh [(.i .i64 0), (.i .u8 0), (.i .u8 0), (.i .u8 0), (.i .u8 0), (.i .i64 0), (.i .u64 0), (.i .u64 0), (.i .u64 0), (.i .u64 0), (.i .u64 0), (.i .u64 0), (.i .u64 0)]))⟩,
    ⟨(some 3), none, (.op (.mv (.c (.i .i64 0))))⟩])
   (.live [2, 0] (.seq (.seq (.region [⟨(some 9), none, (.op (.mv (.t 0)))⟩,
    ⟨(some 10), none, (.op (.len .slice (.t 9)))⟩,
    ⟨(some 11), none, (.op (.bin .int true .neq (.t 10) (.c (.i .i64 10))))⟩,
    ⟨(some 12), none, (.op (.mv (.t 11)))⟩,
    ⟨(some 13), some (12, false), (.op (.mv (.t 0)))⟩,
    ⟨(some 14), some (12, false), (.op (.iaddr none 1 (.t 13) (.c (.i .i64 1))))⟩,
    ⟨(some 15), some (12, false), (.op (.load none (.t 14)))⟩,
    ⟨(some 16), some (12, false), (.op (.bin .int true .gtr (.t 15) (.c (.i .u64 4294967295))))⟩,
    ⟨(some 17), none, (.op (.pick (.t 12) (.c (.b true)) (.t 16)))⟩])
   (.live [2, 0, 17] (.cond (.t 17) (.seq (.region [⟨(some 18), none, (.op (.build [(.i .i64 0), (.i .u8 0), (.i .u8 0), (.i .u8 0), (.i .u8 0), (.i .i64 0), (.i .u64 0), (.i .u64 0), (.i .u64 0), (.i .u64 0), (.i .u64 0), (.i .u64 0), (.i .u64 0)] []))⟩,
    ⟨none, none, (.op (.store 13 (.t 2) (.t 18)))⟩,
    ⟨(some 3), none, (.op (.mv (.c (.i .i64 111))))⟩])
   (.ret))
   (.skip))))
   (.live [2, 0] (.seq (.region [⟨(some 20), none, (.op (.mv (.t 0)))⟩,
    ⟨(some 21), none, (.op (.iaddr none 1 (.t 20) (.c (.i .i64 0))))⟩,
    ⟨(some 22), none, (.op (.load none (.t 21)))⟩,
    ⟨(some 23), none, (.call 69 [(.t 22)])⟩,
    ⟨(some 19), none, (.op (.mv (.t 23)))⟩,
    ⟨(some 24), none, (.op (.ext (.t 19) 0))⟩,
    ⟨(some 25), none, (.op (.ext (.t 19) 1))⟩,
    ⟨(some 4), none, (.op (.mv (.t 24)))⟩,
    ⟨(some 5), none, (.op (.mv (.t 25)))⟩])
   (.live [2, 5, 4, 0] (.seq (.region [⟨(some 27), none, (.op (.mv (.t 0)))⟩,
    ⟨(some 28), none, (.op (.iaddr none 1 (.t 27) (.c (.i .i64 2))))⟩,
    ⟨(some 29), none, (.op (.load none (.t 28)))⟩,
    ⟨(some 30), none, (.call 69 [(.t 29)])⟩,
    ⟨(some 26), none, (.op (.mv (.t 30)))⟩,
    ⟨(some 31), none, (.op (.ext (.t 26) 0))⟩,
    ⟨(some 32), none, (.op (.ext (.t 26) 1))⟩,
    ⟨(some 6), none, (.op (.mv (.t 31)))⟩,
    ⟨(some 7), none, (.op (.mv (.t 32)))⟩])
   (.live [2, 7, 5, 4, 6, 0] (.seq (.draw c86d0 [])
   (.live [2, 8, 7, 5] (.seq (.seq (.region [⟨(some 63), none, (.op (.mv (.t 5)))⟩,
    ⟨(some 64), none, (.op (.un .not (.t 63)))⟩,
    ⟨(some 65), none, (.op (.mv (.t 64)))⟩,
    ⟨(some 66), some (65, false), (.op (.mv (.t 7)))⟩,
    ⟨(some 67), some (65, false), (.op (.un .not (.t 66)))⟩,
    ⟨(some 68), none, (.op (.pick (.t 65) (.c (.b true)) (.t 67)))⟩,
    ⟨(some 69), none, (.op (.mv (.t 68)))⟩,
    ⟨(some 70), some (69, false), (.op (.load (some 13) (.t 8)))⟩,
    ⟨(some 71), some (69, false), (.call 74 [(.t 70)])⟩,
    ⟨(some 72), some (69, false), (.op (.un .not (.t 71)))⟩,
    ⟨(some 73), none, (.op (.pick (.t 69) (.c (.b true)) (.t 72)))⟩])
   (.live [2, 8, 73] (.cond (.t 73) (.seq (.region [⟨(some 74), none, (.op (.build [(.i .i64 0), (.i .u8 0), (.i .u8 0), (.i .u8 0), (.i .u8 0), (.i .i64 0), (.i .u64 0), (.i .u64 0), (.i .u64 0), (.i .u64 0), (.i .u64 0), (.i .u64 0), (.i .u64 0)] []))⟩,
    ⟨none, none, (.op (.store 13 (.t 2) (.t 74)))⟩,
    ⟨(some 3), none, (.op (.mv (.c (.i .i64 111))))⟩])
   (.ret))
   (.skip))))
   (.live [2, 8] (.seq (.region [⟨(some 75), none, (.op (.load (some 13) (.t 8)))⟩,
    ⟨none, none, (.op (.store 13 (.t 2) (.t 75)))⟩,
    ⟨(some 3), none, (.op (.mv (.c (.i .i64 0))))⟩])
   (.ret))))))))))))),
  []⟩


/- floodgate/crc.More -/
def c87l0 : ICode :=
  .seq (.region [⟨(some 13), none, (.op (.bin .int false .lss (.t 12) (.t 11)))⟩])
   (.live [10, 11, 12, 5, 13] (.seq (.cond (.t 13) (.skip)
   (.exit 0))
   (.live [10, 11, 12, 5] (.seq (.block 1 (.seq (.region [⟨(some 14), none, (.op (.iaddr none 1 (.t 10) (.t 12)))⟩,
    ⟨(some 15), none, (.op (.load none (.t 14)))⟩,
    ⟨(some 7), none, (.op (.mv (.t 15)))⟩])
   (.live [10, 11, 12, 7, 5] (.region [⟨(some 16), none, (.op (.mv (.t 5)))⟩,
    ⟨(some 17), none, (.op (.mv (.t 7)))⟩,
    ⟨(some 18), none, (.call 97 [(.t 16), (.t 17)])⟩,
    ⟨(some 5), none, (.op (.mv (.t 18)))⟩]))))
   (.live [10, 11, 5, 12] (.region [⟨(some 19), none, (.op (.bin .int true .add (.t 12) (.c (.i .i64 1))))⟩,
    ⟨(some 12), none, (.op (.mv (.t 19)))⟩]))))))
def c87 : IFunc := ⟨2, [.tmp 4],
  .seq (.region [⟨(some 4), none, (.op (.mv (.c (.i .u32 0))))⟩])
   (.live [1, 0] (.seq (.region [⟨(some 8), none, (.op (.mv (.t 0)))⟩,
    ⟨(some 9), none, (.op (.un .xor (.t 8)))⟩,
    ⟨(some 5), none, (.op (.mv (.t 9)))⟩])
   (.live [5, 1] (.seq (.seq (.region [⟨(some 10), none, (.op (.mv (.t 1)))⟩,
    ⟨(some 11), none, (.op (.len .slice (.t 10)))⟩,
    ⟨(some 12), none, (.op (.mv (.c (.i .i64 0))))⟩])
   (.live [10, 11, 12, 5] (.block 0 (.loop [10, 11, 12, 5] c87l0))))
   (.live [5] (.seq (.region [⟨(some 20), none, (.op (.mv (.t 5)))⟩,
    ⟨(some 21), none, (.op (.un .xor (.t 20)))⟩,
    ⟨(some 4), none, (.op (.mv (.t 21)))⟩])
   (.ret))))))),
  []⟩


/- slices.Backward[[]byte,byte]$1 -/
def c88l0 : ICode :=
  .seq (.seq (.region [⟨(some 7), none, (.op (.mv (.t 3)))⟩,
    ⟨(some 8), none, (.op (.bin .int true .geq (.t 7) (.c (.i .i64 0))))⟩])
   (.live [1, 0, 3, 8] (.cond (.t 8) (.skip)
   (.exit 0))))
   (.live [1, 0, 3] (.seq (.block 1 (.seq (.region [⟨(some 11), none, (.op (.mv (.t 0)))⟩,
    ⟨(some 12), none, (.op (.mv (.t 3)))⟩,
    ⟨(some 13), none, (.op (.load none (.t 1)))⟩,
    ⟨(some 14), none, (.op (.mv (.t 3)))⟩,
    ⟨(some 15), none, (.op (.iaddr none 1 (.t 13) (.t 14)))⟩,
    ⟨(some 16), none, (.op (.load none (.t 15)))⟩,
    ⟨(some 17), none, (.callv (.t 11) [(.t 12), (.t 16)])⟩,
    ⟨(some 18), none, (.op (.un .not (.t 17)))⟩])
   (.live [1, 0, 3, 18] (.cond (.t 18) (.ret)
   (.skip)))))
   (.live [1, 0, 3] (.region [⟨(some 9), none, (.op (.mv (.t 3)))⟩,
    ⟨(some 10), none, (.op (.bin .int true .sub (.t 9) (.c (.i .i64 1))))⟩,
    ⟨(some 3), none, (.op (.mv (.t 10)))⟩]))))
def c88 : IFunc := ⟨2, [],
  .seq (.region [⟨(some 4), none, (.op (.load none (.t 1)))⟩,
    ⟨(some 5), none, (.op (.len .slice (.t 4)))⟩,
    ⟨(some 6), none, (.op (.bin .int true .sub (.t 5) (.c (.i .i64 1))))⟩,
    ⟨(some 3), none, (.op (.mv (.t 6)))⟩])
   (.live [1, 0, 3] (.block 0 (.loop [1, 0, 3] c88l0))),
  []⟩


/- floodgate/policy.Right$1 -/

def c89 : IFunc := ⟨1, [.tmp 2],
  .seq (.region [⟨(some 2), none, (.op (.mv (.c (.b false))))⟩])
   (.live [0] (.seq (.region [⟨(some 3), none, (.op (.mv (.t 0)))⟩,
    ⟨(some 4), none, (.op (.bin .int true .gtr (.t 3) (.c (.i .u64 281474976710656))))⟩,
    ⟨(some 2), none, (.op (.mv (.t 4)))⟩])
   (.ret))),
  []⟩


/- floodgate/policy.Right$2 -/

def c90 : IFunc := ⟨1, [.tmp 2],
  .seq (.region [⟨(some 2), none, (.op (.mv (.c (.b false))))⟩])
   (.live [0] (.seq (.region [⟨(some 3), none, (.op (.mv (.t 0)))⟩,
    ⟨(some 4), none, (.op (.bin .int true .lss (.t 3) (.c (.i .u64 1500))))⟩,
    ⟨(some 2), none, (.op (.mv (.t 4)))⟩])
   (.ret))),
  []⟩


/- floodgate/addr.Right -/
def c91d0 : List Stage :=
  [⟨[(⟨(some 3), none, (.op (.faddr 4 (.t 1)))⟩, 0), (⟨(some 4), none, (.op (.load none (.t 3)))⟩, 0), (⟨(some 5), none, (.op (.bin .int true .geq (.t 4) (.c (.i .i64 0))))⟩, 0), (⟨(some 6), none, (.op (.mv (.t 5)))⟩, 0), (⟨(some 7), some (6, true), (.op (.faddr 4 (.t 1)))⟩, 0), (⟨(some 8), some (6, true), (.op (.load none (.t 7)))⟩, 0), (⟨(some 9), some (6, true), (.op (.bin .int true .leq (.t 8) (.c (.i .i64 32))))⟩, 0), (⟨(some 10), none, (.op (.pick (.t 6) (.t 9) (.c (.b false))))⟩, 0), (⟨(some 11), none, (.op (.mv (.t 10)))⟩, 0), (⟨(some 12), some (11, true), (.op (.faddr 0 (.t 1)))⟩, 0), (⟨(some 13), some (11, true), (.op (.load (some 4) (.t 12)))⟩, 0), (⟨(some 14), some (11, true), (.op (.faddr 4 (.t 1)))⟩, 0), (⟨(some 15), some (11, true), (.op (.load none (.t 14)))⟩, 0), (⟨(some 17), some (11, true), (.op (.load (some 5) (.t 1)))⟩, 1)], none, some ⟨(some 16), some (11, true), (.call 98 [(.t 13), (.t 15)])⟩⟩,
    ⟨[(⟨(some 18), some (11, true), (.op (.eqag false [.int, .int, .int, .int, .int] (.t 16) (.t 17)))⟩, 1), (⟨(some 19), none, (.op (.pick (.t 11) (.t 18) (.c (.b false))))⟩, 1), (⟨(some 2), none, (.op (.mv (.t 19)))⟩, 1)], none, none⟩]
def c91d0w : List (ROp × Bool) :=
  [(⟨(some 3), none, (.op (.faddr 4 (.t 1)))⟩, false), (⟨(some 4), none, (.op (.load none (.t 3)))⟩, false), (⟨(some 5), none, (.op (.bin .int true .geq (.t 4) (.c (.i .i64 0))))⟩, false), (⟨(some 6), none, (.op (.mv (.t 5)))⟩, false), (⟨(some 7), some (6, true), (.op (.faddr 4 (.t 1)))⟩, false), (⟨(some 8), some (6, true), (.op (.load none (.t 7)))⟩, false), (⟨(some 9), some (6, true), (.op (.bin .int true .leq (.t 8) (.c (.i .i64 32))))⟩, false), (⟨(some 10), none, (.op (.pick (.t 6) (.t 9) (.c (.b false))))⟩, false), (⟨(some 11), none, (.op (.mv (.t 10)))⟩, false), (⟨(some 12), some (11, true), (.op (.faddr 0 (.t 1)))⟩, false), (⟨(some 13), some (11, true), (.op (.load (some 4) (.t 12)))⟩, false), (⟨(some 14), some (11, true), (.op (.faddr 4 (.t 1)))⟩, false), (⟨(some 15), some (11, true), (.op (.load none (.t 14)))⟩, false), (⟨(some 17), some (11, true), (.op (.load (some 5) (.t 1)))⟩, false), (⟨(some 16), some (11, true), (.call 98 [(.t 13), (.t 15)])⟩, true), (⟨(some 18), some (11, true), (.op (.eqag false [.int, .int, .int, .int, .int] (.t 16) (.t 17)))⟩, false), (⟨(some 19), none, (.op (.pick (.t 11) (.t 18) (.c (.b false))))⟩, false), (⟨(some 2), none, (.op (.mv (.t 19)))⟩, false)]
theorem c91d0_w {P : Program} {O : Orc} {S0 : Mem} {rd : Bool} {e : Env} {S : Mem} {d : List Nat} {Q : Kont} : W P O S0 rd (.draw c91d0 []) e S d Q = wFl O c91d0w e S (normK Q d) := W_draw' (by kernel_rfl) (by kernel_rfl)
attribute [go_sem] c91d0_w c91d0w
def c91 : IFunc := ⟨1, [.tmp 2],
  .seq (.region [⟨(some 1), none, (.op (.box (.t 0)))⟩,
    ⟨(some 2), none, (.op (.mv (.c (.b false))))⟩])
   (.live [1] (.seq (.draw c91d0 [])
   (.ret))),
  []⟩


/- slices.ContainsFunc[[]uint64,uint64] -/

def c92 : IFunc := ⟨2, [.tmp 4],
  .seq (.region [⟨(some 4), none, (.op (.mv (.c (.b false))))⟩])
   (.live [1, 0] (.seq (.region [⟨(some 5), none, (.op (.mv (.t 0)))⟩,
    ⟨(some 6), none, (.op (.mv (.t 1)))⟩,
    ⟨(some 7), none, (.call 99 [(.t 5), (.t 6)])⟩,
    ⟨(some 8), none, (.op (.bin .int true .geq (.t 7) (.c (.i .i64 0))))⟩,
    ⟨(some 4), none, (.op (.mv (.t 8)))⟩])
   (.ret))),
  []⟩


/- floodgate/sat.Log -/

def c94 : IFunc := ⟨1, [.tmp 2],
  .seq (.region [⟨(some 2), none, (.op (.mv (.c (.i .i64 0))))⟩])
   (.live [0] (.seq (.region [⟨(some 3), none, (.op (.mv (.t 0)))⟩,
    ⟨(some 4), none, (.call 102 [(.t 3)])⟩,
    ⟨(some 2), none, (.op (.mv (.t 4)))⟩])
   (.ret))),
  []⟩


/- slices.Chunk[[]uint64,uint64]$1 -/
def c95d0 : List Stage :=
  [⟨[(⟨(some 13), none, (.op (.load none (.t 2)))⟩, 0), (⟨(some 14), none, (.op (.load none (.t 1)))⟩, 0), (⟨(some 15), none, (.op (.mv (.t 4)))⟩, 0), (⟨(some 16), none, (.op (.slice 1 (.t 14) (some (.t 15)) none none))⟩, 0), (⟨(some 17), none, (.op (.len .slice (.t 16)))⟩, 0), (⟨(some 18), none, (.op (.mm false [(.t 13), (.t 17)]))⟩, 0), (⟨(some 5), none, (.op (.mv (.t 18)))⟩, 0)], none, none⟩]
def c95d0w : List (ROp × Bool) :=
  [(⟨(some 13), none, (.op (.load none (.t 2)))⟩, false), (⟨(some 14), none, (.op (.load none (.t 1)))⟩, false), (⟨(some 15), none, (.op (.mv (.t 4)))⟩, false), (⟨(some 16), none, (.op (.slice 1 (.t 14) (some (.t 15)) none none))⟩, false), (⟨(some 17), none, (.op (.len .slice (.t 16)))⟩, false), (⟨(some 18), none, (.op (.mm false [(.t 13), (.t 17)]))⟩, false), (⟨(some 5), none, (.op (.mv (.t 18)))⟩, false)]
theorem c95d0_w {P : Program} {O : Orc} {S0 : Mem} {rd : Bool} {e : Env} {S : Mem} {d : List Nat} {Q : Kont} : W P O S0 rd (.draw c95d0 []) e S d Q = wFl O c95d0w e S (normK Q d) := W_draw' (by kernel_rfl) (by kernel_rfl)
attribute [go_sem] c95d0_w c95d0w
def c95l1 : ICode :=
  .seq (.seq (.region [⟨(some 6), none, (.op (.mv (.t 4)))⟩,
    ⟨(some 7), none, (.op (.load none (.t 1)))⟩,
    ⟨(some 8), none, (.op (.len .slice (.t 7)))⟩,
    ⟨(some 9), none, (.op (.bin .int false .lss (.t 6) (.t 8)))⟩])
   (.live [2, 1, 0, 4, 9] (.cond (.t 9) (.skip)
   (.exit 0))))
   (.live [2, 1, 0, 4] (.seq (.block 1 (.seq (.draw c95d0 [])
   (.live [2, 1, 0, 4, 5] (.seq (.region [⟨(some 19), none, (.op (.mv (.t 0)))⟩,
    ⟨(some 20), none, (.op (.load none (.t 1)))⟩,
    ⟨(some 21), none, (.op (.mv (.t 4)))⟩,
    ⟨(some 22), none, (.op (.mv (.t 4)))⟩,
    ⟨(some 23), none, (.op (.mv (.t 5)))⟩,
    ⟨(some 24), none, (.op (.bin .int false .add (.t 22) (.t 23)))⟩,
    ⟨(some 25), none, (.op (.mv (.t 4)))⟩,
    ⟨(some 26), none, (.op (.mv (.t 5)))⟩,
    ⟨(some 27), none, (.op (.bin .int false .add (.t 25) (.t 26)))⟩,
    ⟨(some 28), none, (.op (.slice 1 (.t 20) (some (.t 21)) (some (.t 24)) (some (.t 27))))⟩,
    ⟨(some 29), none, (.callv (.t 19) [(.t 28)])⟩,
    ⟨(some 30), none, (.op (.un .not (.t 29)))⟩])
   (.live [2, 1, 0, 4, 30] (.cond (.t 30) (.ret)
   (.skip)))))))
   (.live [2, 1, 0, 4] (.region [⟨(some 10), none, (.op (.mv (.t 4)))⟩,
    ⟨(some 11), none, (.op (.load none (.t 2)))⟩,
    ⟨(some 12), none, (.op (.bin .int false .add (.t 10) (.t 11)))⟩,
    ⟨(some 4), none, (.op (.mv (.t 12)))⟩]))))
def c95 : IFunc := ⟨3, [],
  .seq (.region [⟨(some 4), none, (.op (.mv (.c (.i .i64 0))))⟩])
   (.live [2, 1, 0, 4] (.block 0 (.loop [2, 1, 0, 4] c95l1))),
  []⟩


/- floodgate/addr.Of -/

def c96 : IFunc := ⟨1, [.cell 2 (some 4)],
  .seq (.region [⟨(some 2), none, (.op (.fresh [(.i .u8 0), (.i .u8 0), (.i .u8 0), (.i .u8 0)]))⟩])
   (.live [2, 0] (.seq (.region [⟨(some 3), none, (.op (.mv (.t 0)))⟩,
    ⟨(some 4), none, (.op (.bin .int true .shr (.t 3) (.c (.i .u64 24))))⟩,
    ⟨(some 5), none, (.op (.toInt .u8 (.t 4)))⟩,
    ⟨(some 6), none, (.op (.mv (.t 0)))⟩,
    ⟨(some 7), none, (.op (.bin .int true .shr (.t 6) (.c (.i .u64 16))))⟩,
    ⟨(some 8), none, (.op (.toInt .u8 (.t 7)))⟩,
    ⟨(some 9), none, (.op (.mv (.t 0)))⟩,
    ⟨(some 10), none, (.op (.bin .int true .shr (.t 9) (.c (.i .u64 8))))⟩,
    ⟨(some 11), none, (.op (.toInt .u8 (.t 10)))⟩,
    ⟨(some 12), none, (.op (.mv (.t 0)))⟩,
    ⟨(some 13), none, (.op (.toInt .u8 (.t 12)))⟩,
    ⟨(some 14), none, (.op (.build [(.i .u8 0), (.i .u8 0), (.i .u8 0), (.i .u8 0)] [(0, 1, (.t 5)), (1, 1, (.t 8)), (2, 1, (.t 11)), (3, 1, (.t 13))]))⟩,
    ⟨none, none, (.op (.store 4 (.t 2) (.t 14)))⟩])
   (.ret))),
  []⟩


/- floodgate/crc.step -/
def c97k0 : ICode :=
  .seq (.skip)
   (.live [5, 0] (.seq (.region [⟨(some 12), none, (.op (.mv (.t 0)))⟩,
    ⟨(some 13), none, (.op (.bin .int true .shr (.t 12) (.c (.i .u64 31))))⟩,
    ⟨(some 6), none, (.op (.mv (.t 13)))⟩])
   (.live [5, 6, 0] (.seq (.region [⟨(some 14), none, (.op (.mv (.t 0)))⟩,
    ⟨(some 15), none, (.op (.bin .int true .shl (.t 14) (.c (.i .u64 1))))⟩,
    ⟨(some 16), none, (.op (.mv (.t 6)))⟩,
    ⟨(some 17), none, (.op (.bin .int true .mul (.c (.i .u32 79764919)) (.t 16)))⟩,
    ⟨(some 18), none, (.op (.bin .int false .xor (.t 15) (.t 17)))⟩,
    ⟨(some 0), none, (.op (.mv (.t 18)))⟩])
   (.live [0, 5] (.seq (.seq (.region [⟨(some 19), none, (.op (.mv (.t 5)))⟩,
    ⟨(some 20), none, (.op (.bin .int true .add (.t 19) (.c (.i .i64 1))))⟩,
    ⟨(some 5), none, (.op (.mv (.t 20)))⟩])
   (.live [5, 0] (.seq (.region [⟨(some 21), none, (.op (.mv (.t 5)))⟩,
    ⟨(some 22), none, (.op (.bin .int true .lss (.t 21) (.c (.i .i64 8))))⟩])
   (.live [5, 0, 22] (.cond (.t 22) (.goto 0)
   (.skip))))))
   (.live [0] (.seq (.region [⟨(some 23), none, (.op (.mv (.t 0)))⟩,
    ⟨(some 4), none, (.op (.mv (.t 23)))⟩])
   (.ret)))))))))
def c97 : IFunc := ⟨2, [.tmp 4],
  .seq (.region [⟨(some 4), none, (.op (.mv (.c (.i .u32 0))))⟩])
   (.live [1, 0] (.scope [5, 0] (.seq (.region [⟨(some 7), none, (.op (.mv (.t 0)))⟩,
    ⟨(some 8), none, (.op (.mv (.t 1)))⟩,
    ⟨(some 9), none, (.op (.toInt .u32 (.t 8)))⟩,
    ⟨(some 10), none, (.op (.bin .int true .shl (.t 9) (.c (.i .u64 24))))⟩,
    ⟨(some 11), none, (.op (.bin .int false .xor (.t 7) (.t 10)))⟩,
    ⟨(some 0), none, (.op (.mv (.t 11)))⟩])
   (.live [0] (.seq (.region [⟨(some 5), none, (.op (.mv (.c (.i .i64 0))))⟩])
   (.live [5, 0] (.seq (.skip)
   (.live [5, 0] (.seq (.region [⟨(some 12), none, (.op (.mv (.t 0)))⟩,
    ⟨(some 13), none, (.op (.bin .int true .shr (.t 12) (.c (.i .u64 31))))⟩,
    ⟨(some 6), none, (.op (.mv (.t 13)))⟩])
   (.live [5, 6, 0] (.seq (.region [⟨(some 14), none, (.op (.mv (.t 0)))⟩,
    ⟨(some 15), none, (.op (.bin .int true .shl (.t 14) (.c (.i .u64 1))))⟩,
    ⟨(some 16), none, (.op (.mv (.t 6)))⟩,
    ⟨(some 17), none, (.op (.bin .int true .mul (.c (.i .u32 79764919)) (.t 16)))⟩,
    ⟨(some 18), none, (.op (.bin .int false .xor (.t 15) (.t 17)))⟩,
    ⟨(some 0), none, (.op (.mv (.t 18)))⟩])
   (.live [0, 5] (.seq (.seq (.region [⟨(some 19), none, (.op (.mv (.t 5)))⟩,
    ⟨(some 20), none, (.op (.bin .int true .add (.t 19) (.c (.i .i64 1))))⟩,
    ⟨(some 5), none, (.op (.mv (.t 20)))⟩])
   (.live [5, 0] (.seq (.region [⟨(some 21), none, (.op (.mv (.t 5)))⟩,
    ⟨(some 22), none, (.op (.bin .int true .lss (.t 21) (.c (.i .i64 8))))⟩])
   (.live [5, 0, 22] (.cond (.t 22) (.goto 0)
   (.skip))))))
   (.live [0] (.seq (.region [⟨(some 23), none, (.op (.mv (.t 0)))⟩,
    ⟨(some 4), none, (.op (.mv (.t 23)))⟩])
   (.ret)))))))))))))) 0 c97k0)),
  []⟩


/- floodgate/addr.Cut -/

def c98 : IFunc := ⟨2, [.cell 4 (some 5)],
  .seq (.region [⟨(some 2), none, (.op (.box (.t 0)))⟩,
    ⟨(some 4), none, (.op (.fresh [(.i .u8 0), (.i .u8 0), (.i .u8 0), (.i .u8 0), (.i .i64 0)]))⟩])
   (.live [4, 1, 2] (.seq (.region [⟨(some 5), none, (.op (.load (some 4) (.t 2)))⟩,
    ⟨(some 6), none, (.call 75 [(.t 5)])⟩,
    ⟨(some 7), none, (.op (.mv (.t 1)))⟩,
    ⟨(some 8), none, (.call 103 [(.t 7)])⟩,
    ⟨(some 9), none, (.op (.bin .int false .and (.t 6) (.t 8)))⟩,
    ⟨(some 10), none, (.call 96 [(.t 9)])⟩,
    ⟨(some 11), none, (.op (.mv (.t 1)))⟩,
    ⟨(some 12), none, (.op (.mm false [(.t 11), (.c (.i .i64 32))]))⟩,
    ⟨(some 13), none, (.op (.mm true [(.c (.i .i64 0)), (.t 12)]))⟩,
    ⟨(some 14), none, (.op (.build [(.i .u8 0), (.i .u8 0), (.i .u8 0), (.i .u8 0), (.i .i64 0)] [(0, 4, (.t 10)), (4, 1, (.t 13))]))⟩,
    ⟨none, none, (.op (.store 5 (.t 4) (.t 14)))⟩])
   (.ret))),
  []⟩


/- slices.IndexFunc[[]uint64,uint64] -/
def c99l0 : ICode :=
  .seq (.region [⟨(some 9), none, (.op (.bin .int false .lss (.t 8) (.t 7)))⟩])
   (.live [0, 1, 7, 8, 9] (.seq (.cond (.t 9) (.skip)
   (.exit 0))
   (.live [0, 1, 7, 8] (.seq (.block 1 (.seq (.region [⟨(some 10), none, (.op (.mv (.t 8)))⟩,
    ⟨(some 5), none, (.op (.mv (.t 10)))⟩])
   (.live [5, 0, 1, 7, 8] (.seq (.region [⟨(some 11), none, (.op (.mv (.t 1)))⟩,
    ⟨(some 12), none, (.op (.mv (.t 0)))⟩,
    ⟨(some 13), none, (.op (.mv (.t 5)))⟩,
    ⟨(some 14), none, (.op (.iaddr none 1 (.t 12) (.t 13)))⟩,
    ⟨(some 15), none, (.op (.load none (.t 14)))⟩,
    ⟨(some 16), none, (.callv (.t 11) [(.t 15)])⟩])
   (.live [5, 0, 1, 7, 8, 16] (.cond (.t 16) (.seq (.region [⟨(some 17), none, (.op (.mv (.t 5)))⟩,
    ⟨(some 4), none, (.op (.mv (.t 17)))⟩])
   (.ret))
   (.skip)))))))
   (.live [0, 1, 7, 8] (.region [⟨(some 18), none, (.op (.bin .int true .add (.t 8) (.c (.i .i64 1))))⟩,
    ⟨(some 8), none, (.op (.mv (.t 18)))⟩]))))))
def c99 : IFunc := ⟨2, [.tmp 4],
  .seq (.region [⟨(some 4), none, (.op (.mv (.c (.i .i64 0))))⟩])
   (.live [0, 1] (.seq (.seq (.region [⟨(some 6), none, (.op (.mv (.t 0)))⟩,
    ⟨(some 7), none, (.op (.len .slice (.t 6)))⟩,
    ⟨(some 8), none, (.op (.mv (.c (.i .i64 0))))⟩])
   (.live [0, 1, 7, 8] (.block 0 (.loop [0, 1, 7, 8] c99l0))))
   (.live [] (.seq (.region [⟨(some 4), none, (.op (.mv (.c (.i .i64 (-1)))))⟩])
   (.ret))))),
  []⟩


/- math/bits.Len64 -/

def c102 : IFunc := ⟨1, [.tmp 2],
  .seq (.region [⟨(some 2), none, (.op (.mv (.c (.i .i64 0))))⟩])
   (.live [0, 2] (.seq (.seq (.region [⟨(some 3), none, (.op (.mv (.t 0)))⟩,
    ⟨(some 4), none, (.op (.bin .int true .geq (.t 3) (.c (.i .u64 4294967296))))⟩])
   (.live [0, 2, 4] (.cond (.t 4) (.seq (.region [⟨(some 5), none, (.op (.mv (.t 0)))⟩,
    ⟨(some 6), none, (.op (.bin .int true .shr (.t 5) (.c (.i .u64 32))))⟩,
    ⟨(some 0), none, (.op (.mv (.t 6)))⟩])
   (.region [⟨(some 2), none, (.op (.mv (.c (.i .i64 32))))⟩]))
   (.skip))))
   (.live [2, 0] (.seq (.seq (.region [⟨(some 7), none, (.op (.mv (.t 0)))⟩,
    ⟨(some 8), none, (.op (.bin .int true .geq (.t 7) (.c (.i .u64 65536))))⟩])
   (.live [2, 0, 8] (.cond (.t 8) (.seq (.region [⟨(some 9), none, (.op (.mv (.t 0)))⟩,
    ⟨(some 10), none, (.op (.bin .int true .shr (.t 9) (.c (.i .u64 16))))⟩,
    ⟨(some 0), none, (.op (.mv (.t 10)))⟩])
   (.live [0, 2] (.region [⟨(some 11), none, (.op (.mv (.t 2)))⟩,
    ⟨(some 12), none, (.op (.bin .int true .add (.t 11) (.c (.i .i64 16))))⟩,
    ⟨(some 2), none, (.op (.mv (.t 12)))⟩])))
   (.skip))))
   (.live [2, 0] (.seq (.seq (.region [⟨(some 13), none, (.op (.mv (.t 0)))⟩,
    ⟨(some 14), none, (.op (.bin .int true .geq (.t 13) (.c (.i .u64 256))))⟩])
   (.live [2, 0, 14] (.cond (.t 14) (.seq (.region [⟨(some 15), none, (.op (.mv (.t 0)))⟩,
    ⟨(some 16), none, (.op (.bin .int true .shr (.t 15) (.c (.i .u64 8))))⟩,
    ⟨(some 0), none, (.op (.mv (.t 16)))⟩])
   (.live [0, 2] (.region [⟨(some 17), none, (.op (.mv (.t 2)))⟩,
    ⟨(some 18), none, (.op (.bin .int true .add (.t 17) (.c (.i .i64 8))))⟩,
    ⟨(some 2), none, (.op (.mv (.t 18)))⟩])))
   (.skip))))
   (.live [0, 2] (.seq (.region [⟨(some 19), none, (.op (.mv (.t 2)))⟩,
    ⟨(some 20), none, (.op (.mv (.t 0)))⟩,
    ⟨(some 21), none, (.op (.toInt .u8 (.t 20)))⟩,
    ⟨(some 22), none, (.op (.ixs (.c (.s [0, 1, 2, 2, 3, 3, 3, 3, 4, 4, 4, 4, 4, 4, 4, 4, 5, 5, 5, 5, 5, 5, 5, 5, 5, 5, 5, 5, 5, 5, 5, 5, 6, 6, 6, 6, 6, 6, 6, 6, 6, 6, 6, 6, 6, 6, 6, 6, 6, 6, 6, 6, 6, 6, 6, 6, 6, 6, 6, 6, 6, 6, 6, 6, 7, 7, 7, 7, 7, 7, 7, 7, 7, 7, 7, 7, 7, 7, 7, 7, 7, 7, 7, 7, 7, 7, 7, 7, 7, 7, 7, 7, 7, 7, 7, 7, 7, 7, 7, 7, 7, 7, 7, 7, 7, 7, 7, 7, 7, 7, 7, 7, 7, 7, 7, 7, 7, 7, 7, 7, 7, 7, 7, 7, 7, 7, 7, 7, 8, 8, 8, 8, 8, 8, 8, 8, 8, 8, 8, 8, 8, 8, 8, 8, 8, 8, 8, 8, 8, 8, 8, 8, 8, 8, 8, 8, 8, 8, 8, 8, 8, 8, 8, 8, 8, 8, 8, 8, 8, 8, 8, 8, 8, 8, 8, 8, 8, 8, 8, 8, 8, 8, 8, 8, 8, 8, 8, 8, 8, 8, 8, 8, 8, 8, 8, 8, 8, 8, 8, 8, 8, 8, 8, 8, 8, 8, 8, 8, 8, 8, 8, 8, 8, 8, 8, 8, 8, 8, 8, 8, 8, 8, 8, 8, 8, 8, 8, 8, 8, 8, 8, 8, 8, 8, 8, 8, 8, 8, 8, 8, 8, 8, 8, 8, 8, 8, 8, 8, 8, 8, 8, 8, 8, 8, 8, 8])) (.t 21)))⟩,
    ⟨(some 23), none, (.op (.toInt .i64 (.t 22)))⟩,
    ⟨(some 24), none, (.op (.bin .int false .add (.t 19) (.t 23)))⟩,
    ⟨(some 2), none, (.op (.mv (.t 24)))⟩])
   (.ret))))))))),
  []⟩


/- floodgate/addr.mask -/

def c103 : IFunc := ⟨1, [.tmp 2],
  .seq (.region [⟨(some 2), none, (.op (.mv (.c (.i .u32 0))))⟩])
   (.live [0] (.seq (.region [⟨(some 3), none, (.op (.mv (.t 0)))⟩,
    ⟨(some 4), none, (.op (.mm false [(.t 3), (.c (.i .i64 32))]))⟩,
    ⟨(some 5), none, (.op (.mm true [(.c (.i .i64 0)), (.t 4)]))⟩,
    ⟨(some 6), none, (.op (.bin .int true .sub (.c (.i .i64 32)) (.t 5)))⟩,
    ⟨(some 7), none, (.op (.bin .int true .shl (.c (.i .u32 4294967295)) (.t 6)))⟩,
    ⟨(some 2), none, (.op (.mv (.t 7)))⟩])
   (.ret))),
  []⟩


set_option maxRecDepth 1000000
theorem f5 : compFunc Try.prog 5 = some (stripF c5) := by kernel_rfl
theorem f6 : compFunc Try.prog 6 = some (stripF c6) := by kernel_rfl
theorem f7 : compFunc Try.prog 7 = some (stripF c7) := by kernel_rfl
theorem f8 : compFunc Try.prog 8 = some (stripF c8) := by kernel_rfl
theorem f9 : compFunc Try.prog 9 = some (stripF c9) := by kernel_rfl
theorem f10 : compFunc Try.prog 10 = some (stripF c10) := by kernel_rfl
theorem f11 : compFunc Try.prog 11 = some (stripF c11) := by kernel_rfl
theorem f12 : compFunc Try.prog 12 = some (stripF c12) := by kernel_rfl
theorem f14 : compFunc Try.prog 14 = some (stripF c14) := by kernel_rfl
theorem f15 : compFunc Try.prog 15 = some (stripF c15) := by kernel_rfl
theorem f17 : compFunc Try.prog 17 = some (stripF c17) := by kernel_rfl
theorem f20 : compFunc Try.prog 20 = some (stripF c20) := by kernel_rfl
theorem f21 : compFunc Try.prog 21 = some (stripF c21) := by kernel_rfl
theorem f22 : compFunc Try.prog 22 = some (stripF c22) := by kernel_rfl
theorem f23 : compFunc Try.prog 23 = some (stripF c23) := by kernel_rfl
theorem f24 : compFunc Try.prog 24 = some (stripF c24) := by kernel_rfl
theorem f25 : compFunc Try.prog 25 = some (stripF c25) := by kernel_rfl
theorem f26 : compFunc Try.prog 26 = some (stripF c26) := by kernel_rfl
theorem f27 : compFunc Try.prog 27 = some (stripF c27) := by kernel_rfl
theorem f28 : compFunc Try.prog 28 = some (stripF c28) := by kernel_rfl
theorem f29 : compFunc Try.prog 29 = some (stripF c29) := by kernel_rfl
theorem f32 : compFunc Try.prog 32 = some (stripF c32) := by kernel_rfl
theorem f33 : compFunc Try.prog 33 = some (stripF c33) := by kernel_rfl
theorem f34 : compFunc Try.prog 34 = some (stripF c34) := by kernel_rfl
theorem f37 : compFunc Try.prog 37 = some (stripF c37) := by kernel_rfl
theorem f39 : compFunc Try.prog 39 = some (stripF c39) := by kernel_rfl
theorem f40 : compFunc Try.prog 40 = some (stripF c40) := by kernel_rfl
theorem f41 : compFunc Try.prog 41 = some (stripF c41) := by kernel_rfl
theorem f42 : compFunc Try.prog 42 = some (stripF c42) := by kernel_rfl
theorem f43 : compFunc Try.prog 43 = some (stripF c43) := by kernel_rfl
theorem f44 : compFunc Try.prog 44 = some (stripF c44) := by kernel_rfl
theorem f45 : compFunc Try.prog 45 = some (stripF c45) := by kernel_rfl
theorem f46 : compFunc Try.prog 46 = some (stripF c46) := by kernel_rfl
theorem f47 : compFunc Try.prog 47 = some (stripF c47) := by kernel_rfl
theorem f48 : compFunc Try.prog 48 = some (stripF c48) := by kernel_rfl
theorem f49 : compFunc Try.prog 49 = some (stripF c49) := by kernel_rfl
theorem f50 : compFunc Try.prog 50 = some (stripF c50) := by kernel_rfl
theorem f51 : compFunc Try.prog 51 = some (stripF c51) := by kernel_rfl
theorem f52 : compFunc Try.prog 52 = some (stripF c52) := by kernel_rfl
theorem f55 : compFunc Try.prog 55 = some (stripF c55) := by kernel_rfl
theorem f56 : compFunc Try.prog 56 = some (stripF c56) := by kernel_rfl
theorem f57 : compFunc Try.prog 57 = some (stripF c57) := by kernel_rfl
theorem f58 : compFunc Try.prog 58 = some (stripF c58) := by kernel_rfl
theorem f59 : compFunc Try.prog 59 = some (stripF c59) := by kernel_rfl
theorem f62 : compFunc Try.prog 62 = some (stripF c62) := by kernel_rfl
theorem f63 : compFunc Try.prog 63 = some (stripF c63) := by kernel_rfl
theorem f64 : compFunc Try.prog 64 = some (stripF c64) := by kernel_rfl
theorem f65 : compFunc Try.prog 65 = some (stripF c65) := by kernel_rfl
theorem f66 : compFunc Try.prog 66 = some (stripF c66) := by kernel_rfl
theorem f67 : compFunc Try.prog 67 = some (stripF c67) := by kernel_rfl
theorem f68 : compFunc Try.prog 68 = some (stripF c68) := by kernel_rfl
theorem f69 : compFunc Try.prog 69 = some (stripF c69) := by kernel_rfl
theorem f70 : compFunc Try.prog 70 = some (stripF c70) := by kernel_rfl
theorem f71 : compFunc Try.prog 71 = some (stripF c71) := by kernel_rfl
theorem f72 : compFunc Try.prog 72 = some (stripF c72) := by kernel_rfl
theorem f73 : compFunc Try.prog 73 = some (stripF c73) := by kernel_rfl
theorem f74 : compFunc Try.prog 74 = some (stripF c74) := by kernel_rfl
theorem f75 : compFunc Try.prog 75 = some (stripF c75) := by kernel_rfl
theorem f78 : compFunc Try.prog 78 = some (stripF c78) := by kernel_rfl
theorem f79 : compFunc Try.prog 79 = some (stripF c79) := by kernel_rfl
theorem f80 : compFunc Try.prog 80 = some (stripF c80) := by kernel_rfl
theorem f81 : compFunc Try.prog 81 = some (stripF c81) := by kernel_rfl
theorem f82 : compFunc Try.prog 82 = some (stripF c82) := by kernel_rfl
theorem f83 : compFunc Try.prog 83 = some (stripF c83) := by kernel_rfl
theorem f84 : compFunc Try.prog 84 = some (stripF c84) := by kernel_rfl
theorem f85 : compFunc Try.prog 85 = some (stripF c85) := by kernel_rfl
theorem f86 : compFunc Try.prog 86 = some (stripF c86) := by kernel_rfl
theorem f87 : compFunc Try.prog 87 = some (stripF c87) := by kernel_rfl
theorem f88 : compFunc Try.prog 88 = some (stripF c88) := by kernel_rfl
theorem f89 : compFunc Try.prog 89 = some (stripF c89) := by kernel_rfl
theorem f90 : compFunc Try.prog 90 = some (stripF c90) := by kernel_rfl
theorem f91 : compFunc Try.prog 91 = some (stripF c91) := by kernel_rfl
theorem f92 : compFunc Try.prog 92 = some (stripF c92) := by kernel_rfl
theorem f94 : compFunc Try.prog 94 = some (stripF c94) := by kernel_rfl
theorem f95 : compFunc Try.prog 95 = some (stripF c95) := by kernel_rfl
theorem f96 : compFunc Try.prog 96 = some (stripF c96) := by kernel_rfl
theorem f97 : compFunc Try.prog 97 = some (stripF c97) := by kernel_rfl
theorem f98 : compFunc Try.prog 98 = some (stripF c98) := by kernel_rfl
theorem f99 : compFunc Try.prog 99 = some (stripF c99) := by kernel_rfl
theorem f102 : compFunc Try.prog 102 = some (stripF c102) := by kernel_rfl
theorem f103 : compFunc Try.prog 103 = some (stripF c103) := by kernel_rfl
end Go.Proofs.Ytkfobkfhbkicaaa
