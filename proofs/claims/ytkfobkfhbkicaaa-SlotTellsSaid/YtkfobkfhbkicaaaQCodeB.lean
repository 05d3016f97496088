/- Proved here: the code of the functions, written out, is what the compiler makes of the program. No condition. -/
import Derived.Test.YtkfobkfhbkicaaaMc
import Derived.Test.YtkfobkfhbkicaaaRows
namespace Go.Proofs.Ytkfobkfhbkicaaa
open Go.RowKit

/- slices.Chunk[[]uint64,uint64]$1 -/
def c95d0 : List Stage :=
  [⟨[(⟨(some 13), none, (.op (.load none (.t 2)))⟩, 0), (⟨(some 14), none, (.op (.load none (.t 1)))⟩, 0), (⟨(some 15), none, (.op (.mv (.t 4)))⟩, 0), (⟨(some 16), none, (.op (.slice 1 (.t 14) (some (.t 15)) none none))⟩, 0), (⟨(some 17), none, (.op (.len .slice (.t 16)))⟩, 0), (⟨(some 18), none, (.op (.mm false [(.t 13), (.t 17)]))⟩, 0), (⟨(some 5), none, (.op (.mv (.t 18)))⟩, 0)], none, none⟩]
def c95d0w : List (ROp × Bool) :=
  [(⟨(some 13), none, (.op (.load none (.t 2)))⟩, false), (⟨(some 14), none, (.op (.load none (.t 1)))⟩, false), (⟨(some 15), none, (.op (.mv (.t 4)))⟩, false), (⟨(some 16), none, (.op (.slice 1 (.t 14) (some (.t 15)) none none))⟩, false), (⟨(some 17), none, (.op (.len .slice (.t 16)))⟩, false), (⟨(some 18), none, (.op (.mm false [(.t 13), (.t 17)]))⟩, false), (⟨(some 5), none, (.op (.mv (.t 18)))⟩, false)]
theorem c95d0_w {P : Program} {O : Orc} {S0 : Mem} {rd : Bool} {e : Env} {S : Mem} {d : List Nat} {Q : Kont} : W P O S0 rd (.draw c95d0 []) e S d Q = wFl O c95d0w e S (normK Q d) := W_draw' (by kernel_rfl) (by kernel_rfl)
attribute [go_sem] c95d0_w c95d0w
def c95l1 : ICode :=
  .seq (.seq (.region [⟨(some 6), none, (.op (.mv (.t 4)))⟩,
    ⟨(some 7), none, (.op (.load none (.t 1)))⟩,
    ⟨(some 8), none, (.op (.len .slice (.t 7)))⟩,
    ⟨(some 9), none, (.op (.bin .int false .lss (.t 6) (.t 8)))⟩])
   (.live [2, 1, 0, 4, 9] (.cond (.t 9) (.skip)
   (.exit 0))))
   (.live [2, 1, 0, 4] (.seq (.block 1 (.seq (.draw c95d0 [])
   (.live [2, 1, 0, 4, 5] (.seq (.region [⟨(some 19), none, (.op (.mv (.t 0)))⟩,
    ⟨(some 20), none, (.op (.load none (.t 1)))⟩,
    ⟨(some 21), none, (.op (.mv (.t 4)))⟩,
    ⟨(some 22), none, (.op (.mv (.t 4)))⟩,
    ⟨(some 23), none, (.op (.mv (.t 5)))⟩,
    ⟨(some 24), none, (.op (.bin .int false .add (.t 22) (.t 23)))⟩,
    ⟨(some 25), none, (.op (.mv (.t 4)))⟩,
    ⟨(some 26), none, (.op (.mv (.t 5)))⟩,
    ⟨(some 27), none, (.op (.bin .int false .add (.t 25) (.t 26)))⟩,
    ⟨(some 28), none, (.op (.slice 1 (.t 20) (some (.t 21)) (some (.t 24)) (some (.t 27))))⟩,
    ⟨(some 29), none, (.callv (.t 19) [(.t 28)])⟩,
    ⟨(some 30), none, (.op (.un .not (.t 29)))⟩])
   (.live [2, 1, 0, 4, 30] (.cond (.t 30) (.ret)
   (.skip)))))))
   (.live [2, 1, 0, 4] (.region [⟨(some 10), none, (.op (.mv (.t 4)))⟩,
    ⟨(some 11), none, (.op (.load none (.t 2)))⟩,
    ⟨(some 12), none, (.op (.bin .int false .add (.t 10) (.t 11)))⟩,
    ⟨(some 4), none, (.op (.mv (.t 12)))⟩]))))
def c95 : IFunc := ⟨3, [],
  .seq (.region [⟨(some 4), none, (.op (.mv (.c (.i .i64 0))))⟩])
   (.live [2, 1, 0, 4] (.block 0 (.loop [2, 1, 0, 4] c95l1))),
  []⟩


/- floodgate/addr.Of -/

def c96 : IFunc := ⟨1, [.cell 2 (some 4)],
  .seq (.region [⟨(some 2), none, (.op (.fresh [(.i .u8 0), (.i .u8 0), (.i .u8 0), (.i .u8 0)]))⟩])
   (.live [2, 0] (.seq (.region [⟨(some 3), none, (.op (.mv (.t 0)))⟩,
    ⟨(some 4), none, (.op (.bin .int true .shr (.t 3) (.c (.i .u64 24))))⟩,
    ⟨(some 5), none, (.op (.toInt .u8 (.t 4)))⟩,
    ⟨(some 6), none, (.op (.mv (.t 0)))⟩,
    ⟨(some 7), none, (.op (.bin .int true .shr (.t 6) (.c (.i .u64 16))))⟩,
    ⟨(some 8), none, (.op (.toInt .u8 (.t 7)))⟩,
    ⟨(some 9), none, (.op (.mv (.t 0)))⟩,
    ⟨(some 10), none, (.op (.bin .int true .shr (.t 9) (.c (.i .u64 8))))⟩,
    ⟨(some 11), none, (.op (.toInt .u8 (.t 10)))⟩,
    ⟨(some 12), none, (.op (.mv (.t 0)))⟩,
    ⟨(some 13), none, (.op (.toInt .u8 (.t 12)))⟩,
    ⟨(some 14), none, (.op (.build [(.i .u8 0), (.i .u8 0), (.i .u8 0), (.i .u8 0)] [(0, 1, (.t 5)), (1, 1, (.t 8)), (2, 1, (.t 11)), (3, 1, (.t 13))]))⟩,
    ⟨none, none, (.op (.store 4 (.t 2) (.t 14)))⟩])
   (.ret))),
  []⟩


/- floodgate/crc.step -/
def c97k0 : ICode :=
  .seq (.skip)
   (.live [5, 0] (.seq (.region [⟨(some 12), none, (.op (.mv (.t 0)))⟩,
    ⟨(some 13), none, (.op (.bin .int true .shr (.t 12) (.c (.i .u64 31))))⟩,
    ⟨(some 6), none, (.op (.mv (.t 13)))⟩])
   (.live [5, 6, 0] (.seq (.region [⟨(some 14), none, (.op (.mv (.t 0)))⟩,
    ⟨(some 15), none, (.op (.bin .int true .shl (.t 14) (.c (.i .u64 1))))⟩,
    ⟨(some 16), none, (.op (.mv (.t 6)))⟩,
    ⟨(some 17), none, (.op (.bin .int true .mul (.c (.i .u32 79764919)) (.t 16)))⟩,
    ⟨(some 18), none, (.op (.bin .int false .xor (.t 15) (.t 17)))⟩,
    ⟨(some 0), none, (.op (.mv (.t 18)))⟩])
   (.live [0, 5] (.seq (.seq (.region [⟨(some 19), none, (.op (.mv (.t 5)))⟩,
    ⟨(some 20), none, (.op (.bin .int true .add (.t 19) (.c (.i .i64 1))))⟩,
    ⟨(some 5), none, (.op (.mv (.t 20)))⟩])
   (.live [5, 0] (.seq (.region [⟨(some 21), none, (.op (.mv (.t 5)))⟩,
    ⟨(some 22), none, (.op (.bin .int true .lss (.t 21) (.c (.i .i64 8))))⟩])
   (.live [5, 0, 22] (.cond (.t 22) (.goto 0)
   (.skip))))))
   (.live [0] (.seq (.region [⟨(some 23), none, (.op (.mv (.t 0)))⟩,
    ⟨(some 4), none, (.op (.mv (.t 23)))⟩])
   (.ret)))))))))
def c97 : IFunc := ⟨2, [.tmp 4],
  .seq (.region [⟨(some 4), none, (.op (.mv (.c (.i .u32 0))))⟩])
   (.live [1, 0] (.scope [5, 0] (.seq (.region [⟨(some 7), none, (.op (.mv (.t 0)))⟩,
    ⟨(some 8), none, (.op (.mv (.t 1)))⟩,
    ⟨(some 9), none, (.op (.toInt .u32 (.t 8)))⟩,
    ⟨(some 10), none, (.op (.bin .int true .shl (.t 9) (.c (.i .u64 24))))⟩,
    ⟨(some 11), none, (.op (.bin .int false .xor (.t 7) (.t 10)))⟩,
    ⟨(some 0), none, (.op (.mv (.t 11)))⟩])
   (.live [0] (.seq (.region [⟨(some 5), none, (.op (.mv (.c (.i .i64 0))))⟩])
   (.live [5, 0] (.seq (.skip)
   (.live [5, 0] (.seq (.region [⟨(some 12), none, (.op (.mv (.t 0)))⟩,
    ⟨(some 13), none, (.op (.bin .int true .shr (.t 12) (.c (.i .u64 31))))⟩,
    ⟨(some 6), none, (.op (.mv (.t 13)))⟩])
   (.live [5, 6, 0] (.seq (.region [⟨(some 14), none, (.op (.mv (.t 0)))⟩,
    ⟨(some 15), none, (.op (.bin .int true .shl (.t 14) (.c (.i .u64 1))))⟩,
    ⟨(some 16), none, (.op (.mv (.t 6)))⟩,
    ⟨(some 17), none, (.op (.bin .int true .mul (.c (.i .u32 79764919)) (.t 16)))⟩,
    ⟨(some 18), none, (.op (.bin .int false .xor (.t 15) (.t 17)))⟩,
    ⟨(some 0), none, (.op (.mv (.t 18)))⟩])
   (.live [0, 5] (.seq (.seq (.region [⟨(some 19), none, (.op (.mv (.t 5)))⟩,
    ⟨(some 20), none, (.op (.bin .int true .add (.t 19) (.c (.i .i64 1))))⟩,
    ⟨(some 5), none, (.op (.mv (.t 20)))⟩])
   (.live [5, 0] (.seq (.region [⟨(some 21), none, (.op (.mv (.t 5)))⟩,
    ⟨(some 22), none, (.op (.bin .int true .lss (.t 21) (.c (.i .i64 8))))⟩])
   (.live [5, 0, 22] (.cond (.t 22) (.goto 0)
   (.skip))))))
   (.live [0] (.seq (.region [⟨(some 23), none, (.op (.mv (.t 0)))⟩,
    ⟨(some 4), none, (.op (.mv (.t 23)))⟩])
   (.ret)))))))))))))) 0 c97k0)),
  []⟩


/- floodgate/addr.Cut -/

def c98 : IFunc := ⟨2, [.cell 4 (some 5)],
  .seq (.region [⟨(some 2), none, (.op (.box (.t 0)))⟩,
    ⟨(some 4), none, (.op (.fresh [(.i .u8 0), (.i .u8 0), (.i .u8 0), (.i .u8 0), (.i .i64 0)]))⟩])
   (.live [4, 1, 2] (.seq (.region [⟨(some 5), none, (.op (.load (some 4) (.t 2)))⟩,
    ⟨(some 6), none, (.call 75 [(.t 5)])⟩,
    ⟨(some 7), none, (.op (.mv (.t 1)))⟩,
    ⟨(some 8), none, (.call 103 [(.t 7)])⟩,
    ⟨(some 9), none, (.op (.bin .int false .and (.t 6) (.t 8)))⟩,
    ⟨(some 10), none, (.call 96 [(.t 9)])⟩,
    ⟨(some 11), none, (.op (.mv (.t 1)))⟩,
    ⟨(some 12), none, (.op (.mm false [(.t 11), (.c (.i .i64 32))]))⟩,
    ⟨(some 13), none, (.op (.mm true [(.c (.i .i64 0)), (.t 12)]))⟩,
    ⟨(some 14), none, (.op (.build [(.i .u8 0), (.i .u8 0), (.i .u8 0), (.i .u8 0), (.i .i64 0)] [(0, 4, (.t 10)), (4, 1, (.t 13))]))⟩,
    ⟨none, none, (.op (.store 5 (.t 4) (.t 14)))⟩])
   (.ret))),
  []⟩


/- slices.IndexFunc[[]uint64,uint64] -/
def c99l0 : ICode :=
  .seq (.region [⟨(some 9), none, (.op (.bin .int false .lss (.t 8) (.t 7)))⟩])
   (.live [0, 1, 7, 8, 9] (.seq (.cond (.t 9) (.skip)
   (.exit 0))
   (.live [0, 1, 7, 8] (.seq (.block 1 (.seq (.region [⟨(some 10), none, (.op (.mv (.t 8)))⟩,
    ⟨(some 5), none, (.op (.mv (.t 10)))⟩])
   (.live [5, 0, 1, 7, 8] (.seq (.region [⟨(some 11), none, (.op (.mv (.t 1)))⟩,
    ⟨(some 12), none, (.op (.mv (.t 0)))⟩,
    ⟨(some 13), none, (.op (.mv (.t 5)))⟩,
    ⟨(some 14), none, (.op (.iaddr none 1 (.t 12) (.t 13)))⟩,
    ⟨(some 15), none, (.op (.load none (.t 14)))⟩,
    ⟨(some 16), none, (.callv (.t 11) [(.t 15)])⟩])
   (.live [5, 0, 1, 7, 8, 16] (.cond (.t 16) (.seq (.region [⟨(some 17), none, (.op (.mv (.t 5)))⟩,
    ⟨(some 4), none, (.op (.mv (.t 17)))⟩])
   (.ret))
   (.skip)))))))
   (.live [0, 1, 7, 8] (.region [⟨(some 18), none, (.op (.bin .int true .add (.t 8) (.c (.i .i64 1))))⟩,
    ⟨(some 8), none, (.op (.mv (.t 18)))⟩]))))))
def c99 : IFunc := ⟨2, [.tmp 4],
  .seq (.region [⟨(some 4), none, (.op (.mv (.c (.i .i64 0))))⟩])
   (.live [0, 1] (.seq (.seq (.region [⟨(some 6), none, (.op (.mv (.t 0)))⟩,
    ⟨(some 7), none, (.op (.len .slice (.t 6)))⟩,
    ⟨(some 8), none, (.op (.mv (.c (.i .i64 0))))⟩])
   (.live [0, 1, 7, 8] (.block 0 (.loop [0, 1, 7, 8] c99l0))))
   (.live [] (.seq (.region [⟨(some 4), none, (.op (.mv (.c (.i .i64 (-1)))))⟩])
   (.ret))))),
  []⟩


/- floodgate/floodgateref04.bounded -/

def c100 : IFunc := ⟨1, [.tmp 2],
  .seq (.region [⟨(some 2), none, (.op (.mv (.c (.i .i64 0))))⟩])
   (.live [0] (.seq (.seq (.region [⟨(some 3), none, (.op (.mv (.t 0)))⟩,
    ⟨(some 4), none, (.op (.bin .int true .lss (.t 3) (.c (.i .i64 0))))⟩])
   (.live [0, 4] (.cond (.t 4) (.seq (.region [⟨(some 2), none, (.op (.mv (.c (.i .i64 0))))⟩])
   (.ret))
   (.skip))))
   (.live [0] (.seq (.seq (.region [⟨(some 5), none, (.op (.mv (.t 0)))⟩,
    ⟨(some 6), none, (.op (.bin .int true .gtr (.t 5) (.c (.i .i64 32))))⟩])
   (.live [0, 6] (.cond (.t 6) (.seq (.region [⟨(some 2), none, (.op (.mv (.c (.i .i64 32))))⟩])
   (.ret))
   (.skip))))
   (.live [0] (.seq (.region [⟨(some 7), none, (.op (.mv (.t 0)))⟩,
    ⟨(some 2), none, (.op (.mv (.t 7)))⟩])
   (.ret))))))),
  []⟩


/- floodgate/floodgateref04.Cut -/
def c101l0 : ICode :=
  .seq (.seq (.region [⟨(some 14), none, (.op (.mv (.t 7)))⟩,
    ⟨(some 15), none, (.op (.bin .int true .lss (.t 14) (.c (.i .i64 32))))⟩])
   (.live [4, 6, 7, 5, 15] (.cond (.t 15) (.skip)
   (.exit 0))))
   (.live [4, 6, 7, 5] (.seq (.block 1 (.region [⟨(some 18), none, (.op (.mv (.t 5)))⟩,
    ⟨(some 19), none, (.op (.bin .int true .quo (.t 18) (.c (.i .u32 2))))⟩,
    ⟨(some 5), none, (.op (.mv (.t 19)))⟩]))
   (.live [4, 6, 5, 7] (.region [⟨(some 16), none, (.op (.mv (.t 7)))⟩,
    ⟨(some 17), none, (.op (.bin .int true .add (.t 16) (.c (.i .i64 1))))⟩,
    ⟨(some 7), none, (.op (.mv (.t 17)))⟩]))))
def c101l1 : ICode :=
  .seq (.seq (.region [⟨(some 21), none, (.op (.mv (.t 8)))⟩,
    ⟨(some 22), none, (.op (.bin .int true .lss (.t 21) (.c (.i .i64 32))))⟩])
   (.live [4, 6, 8, 5, 22] (.cond (.t 22) (.skip)
   (.exit 2))))
   (.live [4, 6, 8, 5] (.seq (.block 3 (.region [⟨(some 25), none, (.op (.mv (.t 5)))⟩,
    ⟨(some 26), none, (.op (.bin .int true .mul (.t 25) (.c (.i .u32 2))))⟩,
    ⟨(some 5), none, (.op (.mv (.t 26)))⟩]))
   (.live [4, 6, 5, 8] (.region [⟨(some 23), none, (.op (.mv (.t 8)))⟩,
    ⟨(some 24), none, (.op (.bin .int true .add (.t 23) (.c (.i .i64 1))))⟩,
    ⟨(some 8), none, (.op (.mv (.t 24)))⟩]))))
def c101 : IFunc := ⟨2, [.cell 4 (some 5)],
  .seq (.region [⟨(some 2), none, (.op (.box (.t 0)))⟩,
    ⟨(some 4), none, (.op (.fresh [(.i .u8 0), (.i .u8 0), (.i .u8 0), (.i .u8 0), (.i .i64 0)]))⟩])
   (.live [4, 1, 2] (.seq (.region [⟨(some 9), none, (.op (.load (some 4) (.t 2)))⟩,
    ⟨(some 10), none, (.call 77 [(.t 9)])⟩,
    ⟨(some 5), none, (.op (.mv (.t 10)))⟩])
   (.live [4, 5, 1] (.seq (.region [⟨(some 11), none, (.op (.mv (.t 1)))⟩,
    ⟨(some 12), none, (.call 100 [(.t 11)])⟩,
    ⟨(some 6), none, (.op (.mv (.t 12)))⟩])
   (.live [4, 6, 5] (.seq (.seq (.region [⟨(some 13), none, (.op (.mv (.t 6)))⟩,
    ⟨(some 7), none, (.op (.mv (.t 13)))⟩])
   (.live [4, 6, 7, 5] (.block 0 (.loop [4, 6, 7, 5] c101l0))))
   (.live [4, 6, 5] (.seq (.seq (.region [⟨(some 20), none, (.op (.mv (.t 6)))⟩,
    ⟨(some 8), none, (.op (.mv (.t 20)))⟩])
   (.live [4, 6, 8, 5] (.block 2 (.loop [4, 6, 8, 5] c101l1))))
   (.live [4, 6, 5] (.seq (.region [⟨(some 27), none, (.op (.mv (.t 5)))⟩,
    ⟨(some 28), none, (.call 104 [(.t 27)])⟩,
    ⟨(some 29), none, (.op (.mv (.t 6)))⟩,
    ⟨(some 30), none, (.op (.build [(.i .u8 0), (.i .u8 0), (.i .u8 0), (.i .u8 0), (.i .i64 0)] [(0, 4, (.t 28)), (4, 1, (.t 29))]))⟩,
    ⟨none, none, (.op (.store 5 (.t 4) (.t 30)))⟩])
   (.ret))))))))))),
  []⟩


/- math/bits.Len64 -/

def c102 : IFunc := ⟨1, [.tmp 2],
  .seq (.region [⟨(some 2), none, (.op (.mv (.c (.i .i64 0))))⟩])
   (.live [0, 2] (.seq (.seq (.region [⟨(some 3), none, (.op (.mv (.t 0)))⟩,
    ⟨(some 4), none, (.op (.bin .int true .geq (.t 3) (.c (.i .u64 4294967296))))⟩])
   (.live [0, 2, 4] (.cond (.t 4) (.seq (.region [⟨(some 5), none, (.op (.mv (.t 0)))⟩,
    ⟨(some 6), none, (.op (.bin .int true .shr (.t 5) (.c (.i .u64 32))))⟩,
    ⟨(some 0), none, (.op (.mv (.t 6)))⟩])
   (.region [⟨(some 2), none, (.op (.mv (.c (.i .i64 32))))⟩]))
   (.skip))))
   (.live [2, 0] (.seq (.seq (.region [⟨(some 7), none, (.op (.mv (.t 0)))⟩,
    ⟨(some 8), none, (.op (.bin .int true .geq (.t 7) (.c (.i .u64 65536))))⟩])
   (.live [2, 0, 8] (.cond (.t 8) (.seq (.region [⟨(some 9), none, (.op (.mv (.t 0)))⟩,
    ⟨(some 10), none, (.op (.bin .int true .shr (.t 9) (.c (.i .u64 16))))⟩,
    ⟨(some 0), none, (.op (.mv (.t 10)))⟩])
   (.live [0, 2] (.region [⟨(some 11), none, (.op (.mv (.t 2)))⟩,
    ⟨(some 12), none, (.op (.bin .int true .add (.t 11) (.c (.i .i64 16))))⟩,
    ⟨(some 2), none, (.op (.mv (.t 12)))⟩])))
   (.skip))))
   (.live [2, 0] (.seq (.seq (.region [⟨(some 13), none, (.op (.mv (.t 0)))⟩,
    ⟨(some 14), none, (.op (.bin .int true .geq (.t 13) (.c (.i .u64 256))))⟩])
   (.live [2, 0, 14] (.cond (.t 14) (.seq (.region [⟨(some 15), none, (.op (.mv (.t 0)))⟩,
    ⟨(some 16), none, (.op (.bin .int true .shr (.t 15) (.c (.i .u64 8))))⟩,
    ⟨(some 0), none, (.op (.mv (.t 16)))⟩])
   (.live [0, 2] (.region [⟨(some 17), none, (.op (.mv (.t 2)))⟩,
    ⟨(some 18), none, (.op (.bin .int true .add (.t 17) (.c (.i .i64 8))))⟩,
    ⟨(some 2), none, (.op (.mv (.t 18)))⟩])))
   (.skip))))
   (.live [0, 2] (.seq (.region [⟨(some 19), none, (.op (.mv (.t 2)))⟩,
    ⟨(some 20), none, (.op (.mv (.t 0)))⟩,
    ⟨(some 21), none, (.op (.toInt .u8 (.t 20)))⟩,
    ⟨(some 22), none, (.op (.ixs (.c (.s [0, 1, 2, 2, 3, 3, 3, 3, 4, 4, 4, 4, 4, 4, 4, 4, 5, 5, 5, 5, 5, 5, 5, 5, 5, 5, 5, 5, 5, 5, 5, 5, 6, 6, 6, 6, 6, 6, 6, 6, 6, 6, 6, 6, 6, 6, 6, 6, 6, 6, 6, 6, 6, 6, 6, 6, 6, 6, 6, 6, 6, 6, 6, 6, 7, 7, 7, 7, 7, 7, 7, 7, 7, 7, 7, 7, 7, 7, 7, 7, 7, 7, 7, 7, 7, 7, 7, 7, 7, 7, 7, 7, 7, 7, 7, 7, 7, 7, 7, 7, 7, 7, 7, 7, 7, 7, 7, 7, 7, 7, 7, 7, 7, 7, 7, 7, 7, 7, 7, 7, 7, 7, 7, 7, 7, 7, 7, 7, 8, 8, 8, 8, 8, 8, 8, 8, 8, 8, 8, 8, 8, 8, 8, 8, 8, 8, 8, 8, 8, 8, 8, 8, 8, 8, 8, 8, 8, 8, 8, 8, 8, 8, 8, 8, 8, 8, 8, 8, 8, 8, 8, 8, 8, 8, 8, 8, 8, 8, 8, 8, 8, 8, 8, 8, 8, 8, 8, 8, 8, 8, 8, 8, 8, 8, 8, 8, 8, 8, 8, 8, 8, 8, 8, 8, 8, 8, 8, 8, 8, 8, 8, 8, 8, 8, 8, 8, 8, 8, 8, 8, 8, 8, 8, 8, 8, 8, 8, 8, 8, 8, 8, 8, 8, 8, 8, 8, 8, 8, 8, 8, 8, 8, 8, 8, 8, 8, 8, 8, 8, 8, 8, 8, 8, 8, 8, 8])) (.t 21)))⟩,
    ⟨(some 23), none, (.op (.toInt .i64 (.t 22)))⟩,
    ⟨(some 24), none, (.op (.bin .int false .add (.t 19) (.t 23)))⟩,
    ⟨(some 2), none, (.op (.mv (.t 24)))⟩])
   (.ret))))))))),
  []⟩


/- floodgate/addr.mask -/

def c103 : IFunc := ⟨1, [.tmp 2],
  .seq (.region [⟨(some 2), none, (.op (.mv (.c (.i .u32 0))))⟩])
   (.live [0] (.seq (.region [⟨(some 3), none, (.op (.mv (.t 0)))⟩,
    ⟨(some 4), none, (.op (.mm false [(.t 3), (.c (.i .i64 32))]))⟩,
    ⟨(some 5), none, (.op (.mm true [(.c (.i .i64 0)), (.t 4)]))⟩,
    ⟨(some 6), none, (.op (.bin .int true .sub (.c (.i .i64 32)) (.t 5)))⟩,
    ⟨(some 7), none, (.op (.bin .int true .shl (.c (.i .u32 4294967295)) (.t 6)))⟩,
    ⟨(some 2), none, (.op (.mv (.t 7)))⟩])
   (.ret))),
  []⟩


/- floodgate/floodgateref04.Of -/

def c104 : IFunc := ⟨1, [.cell 2 (some 4)],
  .seq (.region [⟨(some 2), none, (.op (.fresh [(.i .u8 0), (.i .u8 0), (.i .u8 0), (.i .u8 0)]))⟩])
   (.live [2, 0] (.seq (.region [⟨(some 3), none, (.op (.mv (.t 0)))⟩,
    ⟨(some 4), none, (.op (.bin .int true .quo (.t 3) (.c (.i .u32 16777216))))⟩,
    ⟨(some 5), none, (.op (.toInt .u8 (.t 4)))⟩,
    ⟨(some 6), none, (.op (.mv (.t 0)))⟩,
    ⟨(some 7), none, (.op (.bin .int true .quo (.t 6) (.c (.i .u32 65536))))⟩,
    ⟨(some 8), none, (.op (.bin .int true .rem (.t 7) (.c (.i .u32 256))))⟩,
    ⟨(some 9), none, (.op (.toInt .u8 (.t 8)))⟩,
    ⟨(some 10), none, (.op (.mv (.t 0)))⟩,
    ⟨(some 11), none, (.op (.bin .int true .quo (.t 10) (.c (.i .u32 256))))⟩,
    ⟨(some 12), none, (.op (.bin .int true .rem (.t 11) (.c (.i .u32 256))))⟩,
    ⟨(some 13), none, (.op (.toInt .u8 (.t 12)))⟩,
    ⟨(some 14), none, (.op (.mv (.t 0)))⟩,
    ⟨(some 15), none, (.op (.bin .int true .rem (.t 14) (.c (.i .u32 256))))⟩,
    ⟨(some 16), none, (.op (.toInt .u8 (.t 15)))⟩,
    ⟨(some 17), none, (.op (.build [(.i .u8 0), (.i .u8 0), (.i .u8 0), (.i .u8 0)] [(0, 1, (.t 5)), (1, 1, (.t 9)), (2, 1, (.t 13)), (3, 1, (.t 16))]))⟩,
    ⟨none, none, (.op (.store 4 (.t 2) (.t 17)))⟩])
   (.ret))),
  []⟩


set_option maxRecDepth 1000000
theorem f95 : compFunc Try.prog 95 = some (stripF c95) := by kernel_rfl
theorem f96 : compFunc Try.prog 96 = some (stripF c96) := by kernel_rfl
theorem f97 : compFunc Try.prog 97 = some (stripF c97) := by kernel_rfl
theorem f98 : compFunc Try.prog 98 = some (stripF c98) := by kernel_rfl
theorem f99 : compFunc Try.prog 99 = some (stripF c99) := by kernel_rfl
theorem f100 : compFunc Try.prog 100 = some (stripF c100) := by kernel_rfl
theorem f101 : compFunc Try.prog 101 = some (stripF c101) := by kernel_rfl
theorem f102 : compFunc Try.prog 102 = some (stripF c102) := by kernel_rfl
theorem f103 : compFunc Try.prog 103 = some (stripF c103) := by kernel_rfl
theorem f104 : compFunc Try.prog 104 = some (stripF c104) := by kernel_rfl
end Go.Proofs.Ytkfobkfhbkicaaa
