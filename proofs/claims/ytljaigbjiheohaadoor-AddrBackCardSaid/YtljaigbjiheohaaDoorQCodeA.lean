/- Proved here: the code of the functions, written out, is what the compiler makes of the program. No condition. -/
import Derived.Test.YtljaigbjiheohaaDoorMc
import Derived.Test.YtljaigbjiheohaaDoorRows
namespace Go.Proofs.YtljaigbjiheohaaDoor
open Go.RowKit

/- floodgate/floodgatelaw04.AddrBack -/
def c8d0 : List Stage :=
  [⟨[(⟨(some 17), none, (.op (.mv (.t 6)))⟩, 0), (⟨(some 18), none, (.op (.bin .int true .neq (.t 17) (.c (.i .i64 0))))⟩, 0), (⟨(some 19), none, (.op (.mv (.t 18)))⟩, 0), (⟨(some 20), some (19, false), (.op (.load (some 4) (.t 5)))⟩, 0), (⟨(some 21), some (19, false), (.op (.load (some 4) (.t 2)))⟩, 0), (⟨(some 22), some (19, false), (.op (.eqag true [.int, .int, .int, .int] (.t 20) (.t 21)))⟩, 0), (⟨(some 23), none, (.op (.pick (.t 19) (.c (.b true)) (.t 22)))⟩, 0), (⟨(some 24), none, (.op (.mv (.t 23)))⟩, 0), (⟨(some 25), some (24, false), (.op (.load (some 4) (.t 2)))⟩, 0), (⟨(some 28), some (24, false), (.op (.load (some 4) (.t 2)))⟩, 2)], none, some ⟨(some 26), some (24, false), (.call 13 [(.t 25)])⟩⟩,
    ⟨[], none, some ⟨(some 27), some (24, false), (.call 11 [(.t 26)])⟩⟩,
    ⟨[(⟨(some 29), some (24, false), (.op (.eqag true [.int, .int, .int, .int] (.t 27) (.t 28)))⟩, 2), (⟨(some 30), none, (.op (.pick (.t 24) (.c (.b true)) (.t 29)))⟩, 2)], none, none⟩]
def c8d0w : List (ROp × Bool) :=
  [(⟨(some 17), none, (.op (.mv (.t 6)))⟩, false), (⟨(some 18), none, (.op (.bin .int true .neq (.t 17) (.c (.i .i64 0))))⟩, false), (⟨(some 19), none, (.op (.mv (.t 18)))⟩, false), (⟨(some 20), some (19, false), (.op (.load (some 4) (.t 5)))⟩, false), (⟨(some 21), some (19, false), (.op (.load (some 4) (.t 2)))⟩, false), (⟨(some 22), some (19, false), (.op (.eqag true [.int, .int, .int, .int] (.t 20) (.t 21)))⟩, false), (⟨(some 23), none, (.op (.pick (.t 19) (.c (.b true)) (.t 22)))⟩, false), (⟨(some 24), none, (.op (.mv (.t 23)))⟩, false), (⟨(some 25), some (24, false), (.op (.load (some 4) (.t 2)))⟩, false), (⟨(some 28), some (24, false), (.op (.load (some 4) (.t 2)))⟩, false), (⟨(some 26), some (24, false), (.call 13 [(.t 25)])⟩, true), (⟨(some 27), some (24, false), (.call 11 [(.t 26)])⟩, true), (⟨(some 29), some (24, false), (.op (.eqag true [.int, .int, .int, .int] (.t 27) (.t 28)))⟩, false), (⟨(some 30), none, (.op (.pick (.t 24) (.c (.b true)) (.t 29)))⟩, false)]
theorem c8d0_w {P : Program} {O : Orc} {S0 : Mem} {rd : Bool} {e : Env} {S : Mem} {d : List Nat} {Q : Kont} : W P O S0 rd (.draw c8d0 []) e S d Q = wFl O c8d0w e S (normK Q d) := W_draw' (by kernel_rfl) (by kernel_rfl)
attribute [go_sem] c8d0_w c8d0w
def c8 : IFunc := ⟨2, [.tmp 4],
  .seq (.region [⟨(some 2), none, (.op (.box (.t 0)))⟩,
    ⟨(some 3), none, (.op (.box (.t 1)))⟩,
    ⟨(some 4), none, (.op (.mv (.c (.b false))))⟩])
   (.live [3, 2] (.seq (.seq (.region [⟨(some 9), none, (.call 10 [])⟩,
    ⟨(some 10), none, (.op (.un .not (.t 9)))⟩])
   (.live [3, 2, 10] (.cond (.t 10) (.seq (.region [⟨(some 4), none, (.op (.mv (.c (.b false))))⟩])
   (.ret))
   (.skip))))
   (.live [3, 2] (.seq (.region [⟨(some 12), none, (.op (.load (some 4) (.t 2)))⟩,
    ⟨(some 13), none, (.call 28 [(.t 12)])⟩,
    ⟨(some 14), none, (.call 24 [(.t 13)])⟩,
    ⟨(some 11), none, (.op (.mv (.t 14)))⟩,
    ⟨(some 15), none, (.op (.ext (.t 11) 0))⟩,
    ⟨(some 16), none, (.op (.ext (.t 11) 1))⟩,
    ⟨(some 5), none, (.op (.fresh [(.i .u8 0), (.i .u8 0), (.i .u8 0), (.i .u8 0)]))⟩,
    ⟨none, none, (.op (.store 4 (.t 5) (.t 15)))⟩,
    ⟨(some 6), none, (.op (.mv (.t 16)))⟩])
   (.live [3, 6, 5, 2] (.seq (.seq (.draw c8d0 [])
   (.live [3, 30] (.cond (.t 30) (.seq (.region [⟨(some 4), none, (.op (.mv (.c (.b false))))⟩])
   (.ret))
   (.skip))))
   (.live [3] (.seq (.region [⟨(some 32), none, (.op (.load (some 5) (.t 3)))⟩,
    ⟨(some 33), none, (.call 30 [(.t 32)])⟩,
    ⟨(some 34), none, (.call 26 [(.t 33)])⟩,
    ⟨(some 31), none, (.op (.mv (.t 34)))⟩,
    ⟨(some 35), none, (.op (.ext (.t 31) 0))⟩,
    ⟨(some 36), none, (.op (.ext (.t 31) 1))⟩,
    ⟨(some 7), none, (.op (.fresh [(.i .u8 0), (.i .u8 0), (.i .u8 0), (.i .u8 0), (.i .i64 0)]))⟩,
    ⟨none, none, (.op (.store 5 (.t 7) (.t 35)))⟩,
    ⟨(some 8), none, (.op (.mv (.t 36)))⟩])
   (.live [7, 8, 3] (.seq (.seq (.region [⟨(some 37), none, (.op (.load (some 5) (.t 3)))⟩,
    ⟨(some 38), none, (.call 18 [(.t 37)])⟩,
    ⟨(some 39), none, (.op (.un .not (.t 38)))⟩])
   (.live [7, 8, 3, 39] (.cond (.t 39) (.seq (.region [⟨(some 40), none, (.op (.mv (.t 8)))⟩,
    ⟨(some 41), none, (.op (.bin .int true .eql (.t 40) (.c (.i .i64 41))))⟩,
    ⟨(some 42), none, (.op (.mv (.t 41)))⟩,
    ⟨(some 43), some (42, true), (.op (.load (some 5) (.t 7)))⟩,
    ⟨(some 44), some (42, true), (.op (.build [(.i .u8 0), (.i .u8 0), (.i .u8 0), (.i .u8 0), (.i .i64 0)] []))⟩,
    ⟨(some 45), some (42, true), (.op (.eqag false [.int, .int, .int, .int, .int] (.t 43) (.t 44)))⟩,
    ⟨(some 46), none, (.op (.pick (.t 42) (.t 45) (.c (.b false))))⟩,
    ⟨(some 4), none, (.op (.mv (.t 46)))⟩])
   (.ret))
   (.skip))))
   (.live [3, 7, 8] (.seq (.region [⟨(some 47), none, (.op (.mv (.t 8)))⟩,
    ⟨(some 48), none, (.op (.bin .int true .eql (.t 47) (.c (.i .i64 0))))⟩,
    ⟨(some 49), none, (.op (.mv (.t 48)))⟩,
    ⟨(some 50), some (49, true), (.op (.load (some 5) (.t 7)))⟩,
    ⟨(some 51), some (49, true), (.op (.load (some 5) (.t 3)))⟩,
    ⟨(some 52), some (49, true), (.op (.eqag false [.int, .int, .int, .int, .int] (.t 50) (.t 51)))⟩,
    ⟨(some 53), none, (.op (.pick (.t 49) (.t 52) (.c (.b false))))⟩,
    ⟨(some 4), none, (.op (.mv (.t 53)))⟩])
   (.ret))))))))))))),
  []⟩


/- floodgate/floodgatelaw04.addrAlive -/

def c10 : IFunc := ⟨0, [.tmp 0],
  .seq (.region [⟨(some 0), none, (.op (.mv (.c (.b false))))⟩])
   (.live [] (.seq (.region [⟨(some 5), none, (.call 24 [(.c (.s [49, 48, 46, 49, 46, 50, 46, 51]))])⟩,
    ⟨(some 4), none, (.op (.mv (.t 5)))⟩,
    ⟨(some 6), none, (.op (.ext (.t 4) 0))⟩,
    ⟨(some 7), none, (.op (.ext (.t 4) 1))⟩,
    ⟨(some 1), none, (.op (.fresh [(.i .u8 0), (.i .u8 0), (.i .u8 0), (.i .u8 0)]))⟩,
    ⟨none, none, (.op (.store 4 (.t 1) (.t 6)))⟩,
    ⟨(some 2), none, (.op (.mv (.t 7)))⟩])
   (.live [1, 2] (.seq (.region [⟨(some 8), none, (.op (.load (some 4) (.t 1)))⟩,
    ⟨(some 9), none, (.call 17 [(.t 8), (.c (.i .i64 8))])⟩,
    ⟨(some 3), none, (.op (.fresh [(.i .u8 0), (.i .u8 0), (.i .u8 0), (.i .u8 0), (.i .i64 0)]))⟩,
    ⟨none, none, (.op (.store 5 (.t 3) (.t 9)))⟩])
   (.live [3, 1, 2] (.seq (.region [⟨(some 10), none, (.op (.mv (.t 2)))⟩,
    ⟨(some 11), none, (.op (.bin .int true .eql (.t 10) (.c (.i .i64 0))))⟩,
    ⟨(some 12), none, (.op (.mv (.t 11)))⟩,
    ⟨(some 13), some (12, true), (.op (.load (some 5) (.t 3)))⟩,
    ⟨(some 14), some (12, true), (.call 30 [(.t 13)])⟩,
    ⟨(some 15), some (12, true), (.op (.bin .str true .eql (.t 14) (.c (.s [49, 48, 46, 48, 46, 48, 46, 48, 47, 56]))))⟩,
    ⟨(some 16), none, (.op (.pick (.t 12) (.t 15) (.c (.b false))))⟩,
    ⟨(some 17), none, (.op (.mv (.t 16)))⟩,
    ⟨(some 18), some (17, true), (.op (.load (some 4) (.t 1)))⟩,
    ⟨(some 19), some (17, true), (.op (.load (some 5) (.t 3)))⟩,
    ⟨(some 20), some (17, true), (.call 20 [(.t 18), (.t 19)])⟩,
    ⟨(some 21), none, (.op (.pick (.t 17) (.t 20) (.c (.b false))))⟩,
    ⟨(some 22), none, (.op (.mv (.t 21)))⟩,
    ⟨(some 23), some (22, true), (.op (.load (some 5) (.t 3)))⟩,
    ⟨(some 24), some (22, true), (.call 18 [(.t 23)])⟩,
    ⟨(some 25), none, (.op (.pick (.t 22) (.t 24) (.c (.b false))))⟩,
    ⟨(some 0), none, (.op (.mv (.t 25)))⟩])
   (.ret))))))),
  []⟩


/- floodgate/addr.Of -/

def c11 : IFunc := ⟨1, [.cell 2 (some 4)],
  .seq (.region [⟨(some 2), none, (.op (.fresh [(.i .u8 0), (.i .u8 0), (.i .u8 0), (.i .u8 0)]))⟩])
   (.live [2, 0] (.seq (.region [⟨(some 3), none, (.op (.mv (.t 0)))⟩,
    ⟨(some 4), none, (.op (.bin .int true .shr (.t 3) (.c (.i .u64 24))))⟩,
    ⟨(some 5), none, (.op (.toInt .u8 (.t 4)))⟩,
    ⟨(some 6), none, (.op (.mv (.t 0)))⟩,
    ⟨(some 7), none, (.op (.bin .int true .shr (.t 6) (.c (.i .u64 16))))⟩,
    ⟨(some 8), none, (.op (.toInt .u8 (.t 7)))⟩,
    ⟨(some 9), none, (.op (.mv (.t 0)))⟩,
    ⟨(some 10), none, (.op (.bin .int true .shr (.t 9) (.c (.i .u64 8))))⟩,
    ⟨(some 11), none, (.op (.toInt .u8 (.t 10)))⟩,
    ⟨(some 12), none, (.op (.mv (.t 0)))⟩,
    ⟨(some 13), none, (.op (.toInt .u8 (.t 12)))⟩,
    ⟨(some 14), none, (.op (.build [(.i .u8 0), (.i .u8 0), (.i .u8 0), (.i .u8 0)] [(0, 1, (.t 5)), (1, 1, (.t 8)), (2, 1, (.t 11)), (3, 1, (.t 13))]))⟩,
    ⟨none, none, (.op (.store 4 (.t 2) (.t 14)))⟩])
   (.ret))),
  []⟩


/- floodgate/addr.Num -/
def c13l0 : ICode :=
  .seq (.region [⟨(some 8), none, (.op (.bin .int true .lss (.t 7) (.c (.i .i64 4))))⟩])
   (.live [6, 7, 3, 8] (.seq (.cond (.t 8) (.skip)
   (.exit 0))
   (.live [6, 7, 3] (.seq (.block 1 (.seq (.region [⟨(some 9), none, (.op (.ixa 4 1 none (.t 6) (.t 7)))⟩,
    ⟨(some 5), none, (.op (.mv (.t 9)))⟩])
   (.live [6, 7, 5, 3] (.region [⟨(some 10), none, (.op (.mv (.t 3)))⟩,
    ⟨(some 11), none, (.op (.bin .int true .shl (.t 10) (.c (.i .u64 8))))⟩,
    ⟨(some 12), none, (.op (.mv (.t 5)))⟩,
    ⟨(some 13), none, (.op (.toInt .u32 (.t 12)))⟩,
    ⟨(some 14), none, (.op (.bin .int false .or (.t 11) (.t 13)))⟩,
    ⟨(some 3), none, (.op (.mv (.t 14)))⟩]))))
   (.live [6, 3, 7] (.region [⟨(some 15), none, (.op (.bin .int true .add (.t 7) (.c (.i .i64 1))))⟩,
    ⟨(some 7), none, (.op (.mv (.t 15)))⟩]))))))
def c13 : IFunc := ⟨1, [.tmp 2],
  .seq (.region [⟨(some 1), none, (.op (.box (.t 0)))⟩,
    ⟨(some 2), none, (.op (.mv (.c (.i .u32 0))))⟩])
   (.live [1] (.seq (.region [⟨(some 3), none, (.op (.mv (.c (.i .u32 0))))⟩])
   (.live [3, 1] (.seq (.seq (.region [⟨(some 6), none, (.op (.load (some 4) (.t 1)))⟩,
    ⟨(some 7), none, (.op (.mv (.c (.i .i64 0))))⟩])
   (.live [6, 7, 3] (.block 0 (.loop [6, 7, 3] c13l0))))
   (.live [3] (.seq (.region [⟨(some 16), none, (.op (.mv (.t 3)))⟩,
    ⟨(some 2), none, (.op (.mv (.t 16)))⟩])
   (.ret))))))),
  []⟩


/- floodgate/addr.Cut -/

def c17 : IFunc := ⟨2, [.cell 4 (some 5)],
  .seq (.region [⟨(some 2), none, (.op (.box (.t 0)))⟩,
    ⟨(some 4), none, (.op (.fresh [(.i .u8 0), (.i .u8 0), (.i .u8 0), (.i .u8 0), (.i .i64 0)]))⟩])
   (.live [4, 1, 2] (.seq (.region [⟨(some 5), none, (.op (.load (some 4) (.t 2)))⟩,
    ⟨(some 6), none, (.call 13 [(.t 5)])⟩,
    ⟨(some 7), none, (.op (.mv (.t 1)))⟩,
    ⟨(some 8), none, (.call 32 [(.t 7)])⟩,
    ⟨(some 9), none, (.op (.bin .int false .and (.t 6) (.t 8)))⟩,
    ⟨(some 10), none, (.call 11 [(.t 9)])⟩,
    ⟨(some 11), none, (.op (.mv (.t 1)))⟩,
    ⟨(some 12), none, (.op (.mm false [(.t 11), (.c (.i .i64 32))]))⟩,
    ⟨(some 13), none, (.op (.mm true [(.c (.i .i64 0)), (.t 12)]))⟩,
    ⟨(some 14), none, (.op (.build [(.i .u8 0), (.i .u8 0), (.i .u8 0), (.i .u8 0), (.i .i64 0)] [(0, 4, (.t 10)), (4, 1, (.t 13))]))⟩,
    ⟨none, none, (.op (.store 5 (.t 4) (.t 14)))⟩])
   (.ret))),
  []⟩


/- floodgate/addr.Right -/
def c18d0 : List Stage :=
  [⟨[(⟨(some 3), none, (.op (.faddr 4 (.t 1)))⟩, 0), (⟨(some 4), none, (.op (.load none (.t 3)))⟩, 0), (⟨(some 5), none, (.op (.bin .int true .geq (.t 4) (.c (.i .i64 0))))⟩, 0), (⟨(some 6), none, (.op (.mv (.t 5)))⟩, 0), (⟨(some 7), some (6, true), (.op (.faddr 4 (.t 1)))⟩, 0), (⟨(some 8), some (6, true), (.op (.load none (.t 7)))⟩, 0), (⟨(some 9), some (6, true), (.op (.bin .int true .leq (.t 8) (.c (.i .i64 32))))⟩, 0), (⟨(some 10), none, (.op (.pick (.t 6) (.t 9) (.c (.b false))))⟩, 0), (⟨(some 11), none, (.op (.mv (.t 10)))⟩, 0), (⟨(some 12), some (11, true), (.op (.faddr 0 (.t 1)))⟩, 0), (⟨(some 13), some (11, true), (.op (.load (some 4) (.t 12)))⟩, 0), (⟨(some 14), some (11, true), (.op (.faddr 4 (.t 1)))⟩, 0), (⟨(some 15), some (11, true), (.op (.load none (.t 14)))⟩, 0), (⟨(some 17), some (11, true), (.op (.load (some 5) (.t 1)))⟩, 1)], none, some ⟨(some 16), some (11, true), (.call 17 [(.t 13), (.t 15)])⟩⟩,
    ⟨[(⟨(some 18), some (11, true), (.op (.eqag false [.int, .int, .int, .int, .int] (.t 16) (.t 17)))⟩, 1), (⟨(some 19), none, (.op (.pick (.t 11) (.t 18) (.c (.b false))))⟩, 1), (⟨(some 2), none, (.op (.mv (.t 19)))⟩, 1)], none, none⟩]
def c18d0w : List (ROp × Bool) :=
  [(⟨(some 3), none, (.op (.faddr 4 (.t 1)))⟩, false), (⟨(some 4), none, (.op (.load none (.t 3)))⟩, false), (⟨(some 5), none, (.op (.bin .int true .geq (.t 4) (.c (.i .i64 0))))⟩, false), (⟨(some 6), none, (.op (.mv (.t 5)))⟩, false), (⟨(some 7), some (6, true), (.op (.faddr 4 (.t 1)))⟩, false), (⟨(some 8), some (6, true), (.op (.load none (.t 7)))⟩, false), (⟨(some 9), some (6, true), (.op (.bin .int true .leq (.t 8) (.c (.i .i64 32))))⟩, false), (⟨(some 10), none, (.op (.pick (.t 6) (.t 9) (.c (.b false))))⟩, false), (⟨(some 11), none, (.op (.mv (.t 10)))⟩, false), (⟨(some 12), some (11, true), (.op (.faddr 0 (.t 1)))⟩, false), (⟨(some 13), some (11, true), (.op (.load (some 4) (.t 12)))⟩, false), (⟨(some 14), some (11, true), (.op (.faddr 4 (.t 1)))⟩, false), (⟨(some 15), some (11, true), (.op (.load none (.t 14)))⟩, false), (⟨(some 17), some (11, true), (.op (.load (some 5) (.t 1)))⟩, false), (⟨(some 16), some (11, true), (.call 17 [(.t 13), (.t 15)])⟩, true), (⟨(some 18), some (11, true), (.op (.eqag false [.int, .int, .int, .int, .int] (.t 16) (.t 17)))⟩, false), (⟨(some 19), none, (.op (.pick (.t 11) (.t 18) (.c (.b false))))⟩, false), (⟨(some 2), none, (.op (.mv (.t 19)))⟩, false)]
theorem c18d0_w {P : Program} {O : Orc} {S0 : Mem} {rd : Bool} {e : Env} {S : Mem} {d : List Nat} {Q : Kont} : W P O S0 rd (.draw c18d0 []) e S d Q = wFl O c18d0w e S (normK Q d) := W_draw' (by kernel_rfl) (by kernel_rfl)
attribute [go_sem] c18d0_w c18d0w
def c18 : IFunc := ⟨1, [.tmp 2],
  .seq (.region [⟨(some 1), none, (.op (.box (.t 0)))⟩,
    ⟨(some 2), none, (.op (.mv (.c (.b false))))⟩])
   (.live [1] (.seq (.draw c18d0 [])
   (.ret))),
  []⟩


/- floodgate/addr.In -/
def c20d0 : List Stage :=
  [⟨[(⟨(some 5), none, (.op (.load (some 5) (.t 3)))⟩, 0)], none, some ⟨(some 6), none, (.call 18 [(.t 5)])⟩⟩,
    ⟨[(⟨(some 7), none, (.op (.mv (.t 6)))⟩, 1), (⟨(some 8), some (7, true), (.op (.load (some 4) (.t 2)))⟩, 1), (⟨(some 9), some (7, true), (.op (.faddr 4 (.t 3)))⟩, 1), (⟨(some 10), some (7, true), (.op (.load none (.t 9)))⟩, 1), (⟨(some 12), some (7, true), (.op (.load (some 5) (.t 3)))⟩, 2)], none, some ⟨(some 11), some (7, true), (.call 17 [(.t 8), (.t 10)])⟩⟩,
    ⟨[(⟨(some 13), some (7, true), (.op (.eqag false [.int, .int, .int, .int, .int] (.t 11) (.t 12)))⟩, 2), (⟨(some 14), none, (.op (.pick (.t 7) (.t 13) (.c (.b false))))⟩, 2), (⟨(some 4), none, (.op (.mv (.t 14)))⟩, 2)], none, none⟩]
def c20d0w : List (ROp × Bool) :=
  [(⟨(some 5), none, (.op (.load (some 5) (.t 3)))⟩, false), (⟨(some 6), none, (.call 18 [(.t 5)])⟩, false), (⟨(some 7), none, (.op (.mv (.t 6)))⟩, false), (⟨(some 8), some (7, true), (.op (.load (some 4) (.t 2)))⟩, false), (⟨(some 9), some (7, true), (.op (.faddr 4 (.t 3)))⟩, false), (⟨(some 10), some (7, true), (.op (.load none (.t 9)))⟩, false), (⟨(some 12), some (7, true), (.op (.load (some 5) (.t 3)))⟩, false), (⟨(some 11), some (7, true), (.call 17 [(.t 8), (.t 10)])⟩, true), (⟨(some 13), some (7, true), (.op (.eqag false [.int, .int, .int, .int, .int] (.t 11) (.t 12)))⟩, false), (⟨(some 14), none, (.op (.pick (.t 7) (.t 13) (.c (.b false))))⟩, false), (⟨(some 4), none, (.op (.mv (.t 14)))⟩, false)]
theorem c20d0_w {P : Program} {O : Orc} {S0 : Mem} {rd : Bool} {e : Env} {S : Mem} {d : List Nat} {Q : Kont} : W P O S0 rd (.draw c20d0 []) e S d Q = wFl O c20d0w e S (normK Q d) := W_draw' (by kernel_rfl) (by kernel_rfl)
attribute [go_sem] c20d0_w c20d0w
def c20 : IFunc := ⟨2, [.tmp 4],
  .seq (.region [⟨(some 2), none, (.op (.box (.t 0)))⟩,
    ⟨(some 3), none, (.op (.box (.t 1)))⟩,
    ⟨(some 4), none, (.op (.mv (.c (.b false))))⟩])
   (.live [2, 3] (.seq (.draw c20d0 [])
   (.ret))),
  []⟩


/- floodgate/addr.Parse -/
def c24l0 : ICode :=
  .seq (.region [⟨(some 12), none, (.op (.bin .int true .lss (.t 11) (.c (.i .i64 4))))⟩])
   (.live [2, 4, 11, 0, 12] (.seq (.cond (.t 12) (.skip)
   (.exit 0))
   (.live [2, 4, 11, 0] (.seq (.block 1 (.seq (.region [⟨(some 13), none, (.op (.mv (.t 11)))⟩,
    ⟨(some 5), none, (.op (.mv (.t 13)))⟩])
   (.live [2, 4, 11, 5, 0] (.seq (.region [⟨(some 15), none, (.op (.mv (.t 0)))⟩,
    ⟨(some 16), none, (.call 34 [(.t 15), (.c (.s [46]))])⟩,
    ⟨(some 14), none, (.op (.mv (.t 16)))⟩,
    ⟨(some 17), none, (.op (.ext (.t 14) 0))⟩,
    ⟨(some 18), none, (.op (.ext (.t 14) 1))⟩,
    ⟨(some 19), none, (.op (.ext (.t 14) 2))⟩,
    ⟨(some 6), none, (.op (.mv (.t 17)))⟩,
    ⟨(some 7), none, (.op (.mv (.t 18)))⟩,
    ⟨(some 8), none, (.op (.mv (.t 19)))⟩])
   (.live [2, 4, 11, 7, 5, 8, 6] (.seq (.region [⟨(some 21), none, (.op (.mv (.t 6)))⟩,
    ⟨(some 22), none, (.call 35 [(.t 21), (.c (.i .i64 255))])⟩,
    ⟨(some 20), none, (.op (.mv (.t 22)))⟩,
    ⟨(some 23), none, (.op (.ext (.t 20) 0))⟩,
    ⟨(some 24), none, (.op (.ext (.t 20) 1))⟩,
    ⟨(some 9), none, (.op (.mv (.t 23)))⟩,
    ⟨(some 10), none, (.op (.mv (.t 24)))⟩])
   (.live [2, 4, 11, 7, 9, 5, 8, 10] (.seq (.seq (.region [⟨(some 25), none, (.op (.mv (.t 10)))⟩,
    ⟨(some 26), none, (.op (.un .not (.t 25)))⟩,
    ⟨(some 27), none, (.op (.mv (.t 26)))⟩,
    ⟨(some 28), some (27, false), (.op (.mv (.t 8)))⟩,
    ⟨(some 29), some (27, false), (.op (.mv (.t 5)))⟩,
    ⟨(some 30), some (27, false), (.op (.bin .int true .lss (.t 29) (.c (.i .i64 3))))⟩,
    ⟨(some 31), some (27, false), (.op (.bin .bool false .neq (.t 28) (.t 30)))⟩,
    ⟨(some 32), none, (.op (.pick (.t 27) (.c (.b true)) (.t 31)))⟩])
   (.live [2, 4, 11, 7, 9, 5, 32] (.cond (.t 32) (.seq (.region [⟨(some 33), none, (.op (.build [(.i .u8 0), (.i .u8 0), (.i .u8 0), (.i .u8 0)] []))⟩,
    ⟨none, none, (.op (.store 4 (.t 2) (.t 33)))⟩,
    ⟨(some 3), none, (.op (.mv (.c (.i .i64 41))))⟩])
   (.ret))
   (.skip))))
   (.live [2, 4, 11, 7, 9, 5] (.seq (.region [⟨(some 34), none, (.op (.mv (.t 5)))⟩,
    ⟨(some 35), none, (.op (.mv (.t 9)))⟩,
    ⟨(some 36), none, (.op (.toInt .u8 (.t 35)))⟩,
    ⟨(some 37), none, (.op (.iaddr (some 4) 1 (.t 4) (.t 34)))⟩,
    ⟨none, none, (.op (.store 1 (.t 37) (.t 36)))⟩])
   (.live [2, 4, 11, 7] (.region [⟨(some 38), none, (.op (.mv (.t 7)))⟩,
    ⟨(some 0), none, (.op (.mv (.t 38)))⟩]))))))))))))
   (.live [2, 4, 0, 11] (.region [⟨(some 39), none, (.op (.bin .int true .add (.t 11) (.c (.i .i64 1))))⟩,
    ⟨(some 11), none, (.op (.mv (.t 39)))⟩]))))))
def c24 : IFunc := ⟨1, [.cell 2 (some 4), .tmp 3],
  .seq (.region [⟨(some 2), none, (.op (.fresh [(.i .u8 0), (.i .u8 0), (.i .u8 0), (.i .u8 0)]))⟩,
    ⟨(some 3), none, (.op (.mv (.c (.i .i64 0))))⟩])
   (.live [2, 0] (.seq (.region [⟨(some 4), none, (.op (.fresh [(.i .u8 0), (.i .u8 0), (.i .u8 0), (.i .u8 0)]))⟩])
   (.live [2, 4, 0] (.seq (.seq (.region [⟨(some 11), none, (.op (.mv (.c (.i .i64 0))))⟩])
   (.live [2, 4, 11, 0] (.block 0 (.loop [2, 4, 11, 0] c24l0))))
   (.live [2, 4] (.seq (.region [⟨(some 40), none, (.op (.load (some 4) (.t 4)))⟩,
    ⟨none, none, (.op (.store 4 (.t 2) (.t 40)))⟩,
    ⟨(some 3), none, (.op (.mv (.c (.i .i64 0))))⟩])
   (.ret))))))),
  []⟩


/- floodgate/addr.ParseNet -/

def c26 : IFunc := ⟨1, [.cell 2 (some 5), .tmp 3],
  .seq (.region [⟨(some 2), none, (.op (.fresh [(.i .u8 0), (.i .u8 0), (.i .u8 0), (.i .u8 0), (.i .i64 0)]))⟩,
    ⟨(some 3), none, (.op (.mv (.c (.i .i64 0))))⟩])
   (.live [2, 0] (.seq (.region [⟨(some 13), none, (.op (.mv (.t 0)))⟩,
    ⟨(some 14), none, (.call 34 [(.t 13), (.c (.s [47]))])⟩,
    ⟨(some 12), none, (.op (.mv (.t 14)))⟩,
    ⟨(some 15), none, (.op (.ext (.t 12) 0))⟩,
    ⟨(some 16), none, (.op (.ext (.t 12) 1))⟩,
    ⟨(some 17), none, (.op (.ext (.t 12) 2))⟩,
    ⟨(some 4), none, (.op (.mv (.t 15)))⟩,
    ⟨(some 5), none, (.op (.mv (.t 16)))⟩,
    ⟨(some 6), none, (.op (.mv (.t 17)))⟩])
   (.live [2, 5, 4] (.seq (.region [⟨(some 19), none, (.op (.mv (.t 4)))⟩,
    ⟨(some 20), none, (.call 24 [(.t 19)])⟩,
    ⟨(some 18), none, (.op (.mv (.t 20)))⟩,
    ⟨(some 21), none, (.op (.ext (.t 18) 0))⟩,
    ⟨(some 22), none, (.op (.ext (.t 18) 1))⟩,
    ⟨(some 7), none, (.op (.fresh [(.i .u8 0), (.i .u8 0), (.i .u8 0), (.i .u8 0)]))⟩,
    ⟨none, none, (.op (.store 4 (.t 7) (.t 21)))⟩,
    ⟨(some 8), none, (.op (.mv (.t 22)))⟩])
   (.live [2, 8, 7, 5] (.seq (.region [⟨(some 24), none, (.op (.mv (.t 5)))⟩,
    ⟨(some 25), none, (.call 35 [(.t 24), (.c (.i .i64 32))])⟩,
    ⟨(some 23), none, (.op (.mv (.t 25)))⟩,
    ⟨(some 26), none, (.op (.ext (.t 23) 0))⟩,
    ⟨(some 27), none, (.op (.ext (.t 23) 1))⟩,
    ⟨(some 9), none, (.op (.mv (.t 26)))⟩,
    ⟨(some 10), none, (.op (.mv (.t 27)))⟩])
   (.live [2, 10, 8, 9, 7] (.seq (.region [⟨(some 28), none, (.op (.load (some 4) (.t 7)))⟩,
    ⟨(some 29), none, (.op (.mv (.t 9)))⟩,
    ⟨(some 30), none, (.op (.build [(.i .u8 0), (.i .u8 0), (.i .u8 0), (.i .u8 0), (.i .i64 0)] [(0, 4, (.t 28)), (4, 1, (.t 29))]))⟩,
    ⟨(some 11), none, (.op (.fresh [(.i .u8 0), (.i .u8 0), (.i .u8 0), (.i .u8 0), (.i .i64 0)]))⟩,
    ⟨none, none, (.op (.store 5 (.t 11) (.t 30)))⟩])
   (.live [2, 11, 10, 8] (.seq (.seq (.region [⟨(some 31), none, (.op (.mv (.t 8)))⟩,
    ⟨(some 32), none, (.op (.bin .int true .neq (.t 31) (.c (.i .i64 0))))⟩,
    ⟨(some 33), none, (.op (.mv (.t 32)))⟩,
    ⟨(some 34), some (33, false), (.op (.mv (.t 10)))⟩,
    ⟨(some 35), some (33, false), (.op (.un .not (.t 34)))⟩,
    ⟨(some 36), none, (.op (.pick (.t 33) (.c (.b true)) (.t 35)))⟩,
    ⟨(some 37), none, (.op (.mv (.t 36)))⟩,
    ⟨(some 38), some (37, false), (.op (.load (some 5) (.t 11)))⟩,
    ⟨(some 39), some (37, false), (.call 18 [(.t 38)])⟩,
    ⟨(some 40), some (37, false), (.op (.un .not (.t 39)))⟩,
    ⟨(some 41), none, (.op (.pick (.t 37) (.c (.b true)) (.t 40)))⟩])
   (.live [2, 11, 41] (.cond (.t 41) (.seq (.region [⟨(some 42), none, (.op (.build [(.i .u8 0), (.i .u8 0), (.i .u8 0), (.i .u8 0), (.i .i64 0)] []))⟩,
    ⟨none, none, (.op (.store 5 (.t 2) (.t 42)))⟩,
    ⟨(some 3), none, (.op (.mv (.c (.i .i64 41))))⟩])
   (.ret))
   (.skip))))
   (.live [2, 11] (.seq (.region [⟨(some 43), none, (.op (.load (some 5) (.t 11)))⟩,
    ⟨none, none, (.op (.store 5 (.t 2) (.t 43)))⟩,
    ⟨(some 3), none, (.op (.mv (.c (.i .i64 0))))⟩])
   (.ret))))))))))))),
  []⟩


/- floodgate/addr.Text -/
def c28l0 : ICode :=
  .seq (.region [⟨(some 8), none, (.op (.bin .int true .lss (.t 7) (.c (.i .i64 4))))⟩])
   (.live [6, 7, 3, 8] (.seq (.cond (.t 8) (.skip)
   (.exit 0))
   (.live [6, 7, 3] (.seq (.block 1 (.seq (.region [⟨(some 9), none, (.op (.ixa 4 1 none (.t 6) (.t 7)))⟩,
    ⟨(some 5), none, (.op (.mv (.t 9)))⟩])
   (.live [6, 7, 5, 3] (.region [⟨(some 10), none, (.op (.mv (.t 3)))⟩,
    ⟨(some 11), none, (.op (.mv (.t 5)))⟩,
    ⟨(some 12), none, (.op (.toInt .i64 (.t 11)))⟩,
    ⟨(some 13), none, (.call 37 [(.t 12)])⟩,
    ⟨(some 14), none, (.op (.bslice [(.s [])] 1 [(0, 1, (.t 13))]))⟩,
    ⟨(some 15), none, (.op (.app 1 16 (.t 10) (.t 14)))⟩,
    ⟨(some 3), none, (.op (.mv (.t 15)))⟩]))))
   (.live [6, 3, 7] (.region [⟨(some 16), none, (.op (.bin .int true .add (.t 7) (.c (.i .i64 1))))⟩,
    ⟨(some 7), none, (.op (.mv (.t 16)))⟩]))))))
def c28 : IFunc := ⟨1, [.tmp 2],
  .seq (.region [⟨(some 1), none, (.op (.box (.t 0)))⟩,
    ⟨(some 2), none, (.op (.mv (.c (.s []))))⟩])
   (.live [1] (.seq (.region [⟨(some 3), none, (.op (.mv (.c .sn)))⟩])
   (.live [3, 1] (.seq (.seq (.region [⟨(some 6), none, (.op (.load (some 4) (.t 1)))⟩,
    ⟨(some 7), none, (.op (.mv (.c (.i .i64 0))))⟩])
   (.live [6, 7, 3] (.block 0 (.loop [6, 7, 3] c28l0))))
   (.live [3] (.seq (.region [⟨(some 17), none, (.op (.mv (.t 3)))⟩,
    ⟨(some 18), none, (.call 38 [(.t 17), (.c (.s [46]))])⟩,
    ⟨(some 2), none, (.op (.mv (.t 18)))⟩])
   (.ret))))))),
  []⟩


/- floodgate/addr.NetText -/
def c30d0 : List Stage :=
  [⟨[(⟨(some 6), none, (.op (.faddr 0 (.t 1)))⟩, 0), (⟨(some 7), none, (.op (.load (some 4) (.t 6)))⟩, 0), (⟨(some 10), none, (.op (.faddr 4 (.t 1)))⟩, 1), (⟨(some 11), none, (.op (.load none (.t 10)))⟩, 1)], none, some ⟨(some 8), none, (.call 28 [(.t 7)])⟩⟩,
    ⟨[(⟨(some 9), none, (.op (.bin .str true .add (.t 8) (.c (.s [47]))))⟩, 2)], none, some ⟨(some 12), none, (.call 37 [(.t 11)])⟩⟩,
    ⟨[(⟨(some 13), none, (.op (.bin .str false .add (.t 9) (.t 12)))⟩, 2), (⟨(some 2), none, (.op (.mv (.t 13)))⟩, 2)], none, none⟩]
def c30d0w : List (ROp × Bool) :=
  [(⟨(some 6), none, (.op (.faddr 0 (.t 1)))⟩, false), (⟨(some 7), none, (.op (.load (some 4) (.t 6)))⟩, false), (⟨(some 10), none, (.op (.faddr 4 (.t 1)))⟩, false), (⟨(some 11), none, (.op (.load none (.t 10)))⟩, false), (⟨(some 8), none, (.call 28 [(.t 7)])⟩, true), (⟨(some 9), none, (.op (.bin .str true .add (.t 8) (.c (.s [47]))))⟩, false), (⟨(some 12), none, (.call 37 [(.t 11)])⟩, false), (⟨(some 13), none, (.op (.bin .str false .add (.t 9) (.t 12)))⟩, false), (⟨(some 2), none, (.op (.mv (.t 13)))⟩, false)]
theorem c30d0_w {P : Program} {O : Orc} {S0 : Mem} {rd : Bool} {e : Env} {S : Mem} {d : List Nat} {Q : Kont} : W P O S0 rd (.draw c30d0 []) e S d Q = wFl O c30d0w e S (normK Q d) := W_draw' (by kernel_rfl) (by kernel_rfl)
attribute [go_sem] c30d0_w c30d0w
def c30 : IFunc := ⟨1, [.tmp 2],
  .seq (.region [⟨(some 1), none, (.op (.box (.t 0)))⟩,
    ⟨(some 2), none, (.op (.mv (.c (.s []))))⟩])
   (.live [1] (.seq (.seq (.region [⟨(some 3), none, (.op (.load (some 5) (.t 1)))⟩,
    ⟨(some 4), none, (.call 18 [(.t 3)])⟩,
    ⟨(some 5), none, (.op (.un .not (.t 4)))⟩])
   (.live [1, 5] (.cond (.t 5) (.seq (.region [⟨(some 2), none, (.op (.mv (.c (.s []))))⟩])
   (.ret))
   (.skip))))
   (.live [1] (.seq (.draw c30d0 [])
   (.ret))))),
  []⟩


/- floodgate/addr.mask -/

def c32 : IFunc := ⟨1, [.tmp 2],
  .seq (.region [⟨(some 2), none, (.op (.mv (.c (.i .u32 0))))⟩])
   (.live [0] (.seq (.region [⟨(some 3), none, (.op (.mv (.t 0)))⟩,
    ⟨(some 4), none, (.op (.mm false [(.t 3), (.c (.i .i64 32))]))⟩,
    ⟨(some 5), none, (.op (.mm true [(.c (.i .i64 0)), (.t 4)]))⟩,
    ⟨(some 6), none, (.op (.bin .int true .sub (.c (.i .i64 32)) (.t 5)))⟩,
    ⟨(some 7), none, (.op (.bin .int true .shl (.c (.i .u32 4294967295)) (.t 6)))⟩,
    ⟨(some 2), none, (.op (.mv (.t 7)))⟩])
   (.ret))),
  []⟩


/- strings.Cut -/

def c34 : IFunc := ⟨2, [.tmp 4, .tmp 5, .tmp 6],
  .seq (.region [⟨(some 4), none, (.op (.mv (.c (.s []))))⟩,
    ⟨(some 5), none, (.op (.mv (.c (.s []))))⟩,
    ⟨(some 6), none, (.op (.mv (.c (.b false))))⟩])
   (.live [1, 0] (.seq (.region [⟨(some 7), none, (.op (.mv (.t 0)))⟩,
    ⟨(some 8), none, (.op (.mv (.t 1)))⟩,
    ⟨(some 9), none, (.call 40 [(.t 7), (.t 8)])⟩,
    ⟨(some 10), none, (.op (.ext (.t 9) 0))⟩,
    ⟨(some 11), none, (.op (.ext (.t 9) 1))⟩,
    ⟨(some 12), none, (.op (.ext (.t 9) 2))⟩,
    ⟨(some 4), none, (.op (.mv (.t 10)))⟩,
    ⟨(some 5), none, (.op (.mv (.t 11)))⟩,
    ⟨(some 6), none, (.op (.mv (.t 12)))⟩])
   (.ret))),
  []⟩


/- floodgate/addr.number -/

def c35 : IFunc := ⟨2, [.tmp 4, .tmp 5],
  .seq (.region [⟨(some 4), none, (.op (.mv (.c (.i .i64 0))))⟩,
    ⟨(some 5), none, (.op (.mv (.c (.b false))))⟩])
   (.live [0, 1] (.seq (.region [⟨(some 9), none, (.op (.mv (.t 0)))⟩,
    ⟨(some 10), none, (.call 41 [(.t 9)])⟩,
    ⟨(some 8), none, (.op (.mv (.t 10)))⟩,
    ⟨(some 11), none, (.op (.ext (.t 8) 0))⟩,
    ⟨(some 12), none, (.op (.ext (.t 8) 1))⟩,
    ⟨(some 6), none, (.op (.mv (.t 11)))⟩,
    ⟨(some 7), none, (.op (.mv (.t 12)))⟩])
   (.live [0, 6, 1, 7] (.seq (.region [⟨(some 13), none, (.op (.mv (.t 6)))⟩,
    ⟨(some 14), none, (.op (.mv (.t 7)))⟩,
    ⟨(some 15), none, (.op (.bin .iface true .eql (.t 14) (.c .ni)))⟩,
    ⟨(some 16), none, (.op (.mv (.t 15)))⟩,
    ⟨(some 17), some (16, true), (.op (.mv (.t 6)))⟩,
    ⟨(some 18), some (16, true), (.op (.bin .int true .geq (.t 17) (.c (.i .i64 0))))⟩,
    ⟨(some 19), none, (.op (.pick (.t 16) (.t 18) (.c (.b false))))⟩,
    ⟨(some 20), none, (.op (.mv (.t 19)))⟩,
    ⟨(some 21), some (20, true), (.op (.mv (.t 6)))⟩,
    ⟨(some 22), some (20, true), (.op (.mv (.t 1)))⟩,
    ⟨(some 23), some (20, true), (.op (.bin .int false .leq (.t 21) (.t 22)))⟩,
    ⟨(some 24), none, (.op (.pick (.t 20) (.t 23) (.c (.b false))))⟩,
    ⟨(some 25), none, (.op (.mv (.t 24)))⟩,
    ⟨(some 26), some (25, true), (.op (.mv (.t 6)))⟩,
    ⟨(some 27), some (25, true), (.call 37 [(.t 26)])⟩,
    ⟨(some 28), some (25, true), (.op (.mv (.t 0)))⟩,
    ⟨(some 29), some (25, true), (.op (.bin .str false .eql (.t 27) (.t 28)))⟩,
    ⟨(some 30), none, (.op (.pick (.t 25) (.t 29) (.c (.b false))))⟩,
    ⟨(some 4), none, (.op (.mv (.t 13)))⟩,
    ⟨(some 5), none, (.op (.mv (.t 30)))⟩])
   (.ret))))),
  []⟩


/- strconv.Itoa -/

def c37 : IFunc := ⟨1, [.tmp 2],
  .seq (.region [⟨(some 2), none, (.op (.mv (.c (.s []))))⟩])
   (.live [0] (.seq (.region [⟨(some 3), none, (.op (.mv (.t 0)))⟩,
    ⟨(some 4), none, (.call 42 [(.t 3)])⟩,
    ⟨(some 2), none, (.op (.mv (.t 4)))⟩])
   (.ret))),
  []⟩


/- strings.Join -/
def c38l0 : ICode :=
  .seq (.region [⟨(some 42), none, (.op (.bin .int false .lss (.t 41) (.t 40)))⟩])
   (.live [39, 1, 0, 40, 41, 5, 42] (.seq (.cond (.t 42) (.skip)
   (.exit 1))
   (.live [39, 1, 0, 40, 41, 5] (.seq (.block 2 (.seq (.region [⟨(some 43), none, (.op (.iaddr none 1 (.t 39) (.t 41)))⟩,
    ⟨(some 44), none, (.op (.load none (.t 43)))⟩,
    ⟨(some 7), none, (.op (.mv (.t 44)))⟩])
   (.live [39, 1, 0, 40, 41, 7, 5] (.seq (.seq (.region [⟨(some 45), none, (.op (.mv (.t 7)))⟩,
    ⟨(some 46), none, (.op (.len .str (.t 45)))⟩,
    ⟨(some 47), none, (.op (.mv (.t 5)))⟩,
    ⟨(some 48), none, (.op (.bin .int true .sub (.c (.i .i64 9223372036854775807)) (.t 47)))⟩,
    ⟨(some 49), none, (.op (.bin .int false .gtr (.t 46) (.t 48)))⟩])
   (.live [39, 1, 0, 40, 41, 7, 5, 49] (.cond (.t 49) (.region [⟨(some 50), none, (.op (.bad))⟩,
    ⟨none, none, (.op (.bad))⟩])
   (.skip))))
   (.live [39, 1, 0, 40, 41, 7, 5] (.region [⟨(some 51), none, (.op (.mv (.t 5)))⟩,
    ⟨(some 52), none, (.op (.mv (.t 7)))⟩,
    ⟨(some 53), none, (.op (.len .str (.t 52)))⟩,
    ⟨(some 54), none, (.op (.bin .int false .add (.t 51) (.t 53)))⟩,
    ⟨(some 5), none, (.op (.mv (.t 54)))⟩]))))))
   (.live [39, 1, 0, 40, 5, 41] (.region [⟨(some 55), none, (.op (.bin .int true .add (.t 41) (.c (.i .i64 1))))⟩,
    ⟨(some 41), none, (.op (.mv (.t 55)))⟩]))))))
def c38l1 : ICode :=
  .seq (.region [⟨(some 66), none, (.op (.bin .int false .lss (.t 65) (.t 64)))⟩])
   (.live [8, 1, 63, 64, 65, 66] (.seq (.cond (.t 66) (.skip)
   (.exit 3))
   (.live [8, 1, 63, 64, 65] (.seq (.block 4 (.seq (.region [⟨(some 67), none, (.op (.iaddr none 1 (.t 63) (.t 65)))⟩,
    ⟨(some 68), none, (.op (.load none (.t 67)))⟩,
    ⟨(some 10), none, (.op (.mv (.t 68)))⟩])
   (.live [8, 1, 63, 64, 65, 10] (.seq (.region [⟨(some 69), none, (.op (.mv (.t 1)))⟩,
    ⟨(some 70), none, (.call 44 [(.t 8), (.t 69)])⟩])
   (.live [8, 1, 63, 64, 65, 10] (.region [⟨(some 71), none, (.op (.mv (.t 10)))⟩,
    ⟨(some 72), none, (.call 44 [(.t 8), (.t 71)])⟩]))))))
   (.live [8, 1, 63, 64, 65] (.region [⟨(some 73), none, (.op (.bin .int true .add (.t 65) (.c (.i .i64 1))))⟩,
    ⟨(some 65), none, (.op (.mv (.t 73)))⟩]))))))
def c38 : IFunc := ⟨2, [.tmp 4],
  .seq (.region [⟨(some 4), none, (.op (.mv (.c (.s []))))⟩])
   (.live [0, 1] (.seq (.seq (.region [⟨(some 11), none, (.op (.mv (.t 0)))⟩,
    ⟨(some 12), none, (.op (.len .slice (.t 11)))⟩])
   (.live [0, 1, 12] (.block 0 (.seq (.region [⟨(some 14), none, (.op (.bin .int true .eql (.t 12) (.c (.i .i64 0))))⟩,
    ⟨(some 13), none, (.op (.mv (.t 14)))⟩])
   (.live [0, 1, 12, 13] (.cond (.t 13) (.seq (.region [⟨(some 4), none, (.op (.mv (.c (.s []))))⟩])
   (.ret))
   (.seq (.region [⟨(some 16), none, (.op (.bin .int true .eql (.t 12) (.c (.i .i64 1))))⟩,
    ⟨(some 15), none, (.op (.mv (.t 16)))⟩])
   (.live [0, 1, 15] (.cond (.t 15) (.seq (.region [⟨(some 17), none, (.op (.mv (.t 0)))⟩,
    ⟨(some 18), none, (.op (.iaddr none 1 (.t 17) (.c (.i .i64 0))))⟩,
    ⟨(some 19), none, (.op (.load none (.t 18)))⟩,
    ⟨(some 4), none, (.op (.mv (.t 19)))⟩])
   (.ret))
   (.skip))))))))))
   (.live [1, 0] (.seq (.region [⟨(some 5), none, (.op (.mv (.c (.i .i64 0))))⟩])
   (.live [1, 0, 5] (.seq (.seq (.region [⟨(some 20), none, (.op (.mv (.t 1)))⟩,
    ⟨(some 21), none, (.op (.len .str (.t 20)))⟩,
    ⟨(some 22), none, (.op (.bin .int true .gtr (.t 21) (.c (.i .i64 0))))⟩])
   (.live [1, 0, 5, 22] (.cond (.t 22) (.seq (.seq (.region [⟨(some 23), none, (.op (.mv (.t 1)))⟩,
    ⟨(some 24), none, (.op (.len .str (.t 23)))⟩,
    ⟨(some 25), none, (.op (.mv (.t 0)))⟩,
    ⟨(some 26), none, (.op (.len .slice (.t 25)))⟩,
    ⟨(some 27), none, (.op (.bin .int true .sub (.t 26) (.c (.i .i64 1))))⟩,
    ⟨(some 28), none, (.op (.bin .int true .quo (.c (.i .i64 9223372036854775807)) (.t 27)))⟩,
    ⟨(some 29), none, (.op (.bin .int false .geq (.t 24) (.t 28)))⟩])
   (.live [1, 0, 5, 29] (.cond (.t 29) (.region [⟨(some 30), none, (.op (.bad))⟩,
    ⟨none, none, (.op (.bad))⟩])
   (.skip))))
   (.live [1, 0, 5] (.region [⟨(some 31), none, (.op (.mv (.t 5)))⟩,
    ⟨(some 32), none, (.op (.mv (.t 1)))⟩,
    ⟨(some 33), none, (.op (.len .str (.t 32)))⟩,
    ⟨(some 34), none, (.op (.mv (.t 0)))⟩,
    ⟨(some 35), none, (.op (.len .slice (.t 34)))⟩,
    ⟨(some 36), none, (.op (.bin .int true .sub (.t 35) (.c (.i .i64 1))))⟩,
    ⟨(some 37), none, (.op (.bin .int false .mul (.t 33) (.t 36)))⟩,
    ⟨(some 38), none, (.op (.bin .int false .add (.t 31) (.t 37)))⟩,
    ⟨(some 5), none, (.op (.mv (.t 38)))⟩])))
   (.skip))))
   (.live [1, 0, 5] (.seq (.seq (.region [⟨(some 39), none, (.op (.mv (.t 0)))⟩,
    ⟨(some 40), none, (.op (.len .slice (.t 39)))⟩,
    ⟨(some 41), none, (.op (.mv (.c (.i .i64 0))))⟩])
   (.live [39, 1, 0, 40, 41, 5] (.block 1 (.loop [39, 1, 0, 40, 41, 5] c38l0))))
   (.live [1, 0, 5] (.seq (.region [⟨(some 8), none, (.op (.fresh [.pn, .sn]))⟩])
   (.live [8, 1, 0, 5] (.seq (.region [⟨(some 56), none, (.op (.mv (.t 5)))⟩,
    ⟨(some 57), none, (.call 43 [(.t 8), (.t 56)])⟩])
   (.live [8, 1, 0] (.seq (.region [⟨(some 58), none, (.op (.mv (.t 0)))⟩,
    ⟨(some 59), none, (.op (.iaddr none 1 (.t 58) (.c (.i .i64 0))))⟩,
    ⟨(some 60), none, (.op (.load none (.t 59)))⟩,
    ⟨(some 61), none, (.call 44 [(.t 8), (.t 60)])⟩])
   (.live [8, 1, 0] (.seq (.seq (.region [⟨(some 62), none, (.op (.mv (.t 0)))⟩,
    ⟨(some 63), none, (.op (.slice 1 (.t 62) (some (.c (.i .i64 1))) none none))⟩,
    ⟨(some 64), none, (.op (.len .slice (.t 63)))⟩,
    ⟨(some 65), none, (.op (.mv (.c (.i .i64 0))))⟩])
   (.live [8, 1, 63, 64, 65] (.block 3 (.loop [8, 1, 63, 64, 65] c38l1))))
   (.live [8] (.seq (.region [⟨(some 74), none, (.call 45 [(.t 8)])⟩,
    ⟨(some 4), none, (.op (.mv (.t 74)))⟩])
   (.ret))))))))))))))))))),
  []⟩


/- internal/stringslite.Cut -/
def c40d0 : List Stage :=
  [⟨[(⟨(some 13), none, (.op (.mv (.t 0)))⟩, 0), (⟨(some 14), none, (.op (.mv (.t 7)))⟩, 0), (⟨(some 15), none, (.op (.sls (.t 13) none (some (.t 14))))⟩, 0), (⟨(some 16), none, (.op (.mv (.t 0)))⟩, 0), (⟨(some 17), none, (.op (.mv (.t 7)))⟩, 0), (⟨(some 18), none, (.op (.mv (.t 1)))⟩, 0), (⟨(some 19), none, (.op (.len .str (.t 18)))⟩, 0), (⟨(some 20), none, (.op (.bin .int false .add (.t 17) (.t 19)))⟩, 0), (⟨(some 21), none, (.op (.sls (.t 16) (some (.t 20)) none))⟩, 0), (⟨(some 4), none, (.op (.mv (.t 15)))⟩, 0), (⟨(some 5), none, (.op (.mv (.t 21)))⟩, 0), (⟨(some 6), none, (.op (.mv (.c (.b true))))⟩, 0)], none, none⟩]
def c40d0w : List (ROp × Bool) :=
  [(⟨(some 13), none, (.op (.mv (.t 0)))⟩, false), (⟨(some 14), none, (.op (.mv (.t 7)))⟩, false), (⟨(some 15), none, (.op (.sls (.t 13) none (some (.t 14))))⟩, false), (⟨(some 16), none, (.op (.mv (.t 0)))⟩, false), (⟨(some 17), none, (.op (.mv (.t 7)))⟩, false), (⟨(some 18), none, (.op (.mv (.t 1)))⟩, false), (⟨(some 19), none, (.op (.len .str (.t 18)))⟩, false), (⟨(some 20), none, (.op (.bin .int false .add (.t 17) (.t 19)))⟩, false), (⟨(some 21), none, (.op (.sls (.t 16) (some (.t 20)) none))⟩, false), (⟨(some 4), none, (.op (.mv (.t 15)))⟩, false), (⟨(some 5), none, (.op (.mv (.t 21)))⟩, false), (⟨(some 6), none, (.op (.mv (.c (.b true))))⟩, false)]
theorem c40d0_w {P : Program} {O : Orc} {S0 : Mem} {rd : Bool} {e : Env} {S : Mem} {d : List Nat} {Q : Kont} : W P O S0 rd (.draw c40d0 []) e S d Q = wFl O c40d0w e S (normK Q d) := W_draw' (by kernel_rfl) (by kernel_rfl)
attribute [go_sem] c40d0_w c40d0w
def c40 : IFunc := ⟨2, [.tmp 4, .tmp 5, .tmp 6],
  .seq (.region [⟨(some 4), none, (.op (.mv (.c (.s []))))⟩,
    ⟨(some 5), none, (.op (.mv (.c (.s []))))⟩,
    ⟨(some 6), none, (.op (.mv (.c (.b false))))⟩])
   (.live [0, 1] (.seq (.seq (.region [⟨(some 8), none, (.op (.mv (.t 0)))⟩,
    ⟨(some 9), none, (.op (.mv (.t 1)))⟩,
    ⟨(some 10), none, (.call 46 [(.t 8), (.t 9)])⟩,
    ⟨(some 7), none, (.op (.mv (.t 10)))⟩])
   (.live [0, 7, 1] (.seq (.region [⟨(some 11), none, (.op (.mv (.t 7)))⟩,
    ⟨(some 12), none, (.op (.bin .int true .geq (.t 11) (.c (.i .i64 0))))⟩])
   (.live [0, 7, 1, 12] (.cond (.t 12) (.seq (.draw c40d0 [])
   (.ret))
   (.skip))))))
   (.live [0] (.seq (.region [⟨(some 22), none, (.op (.mv (.t 0)))⟩,
    ⟨(some 4), none, (.op (.mv (.t 22)))⟩,
    ⟨(some 5), none, (.op (.mv (.c (.s []))))⟩,
    ⟨(some 6), none, (.op (.mv (.c (.b false))))⟩])
   (.ret))))),
  []⟩


/- strconv.Atoi -/

def c41 : IFunc := ⟨1, [.tmp 2, .tmp 3],
  .seq (.region [⟨(some 2), none, (.op (.mv (.c (.i .i64 0))))⟩,
    ⟨(some 3), none, (.op (.mv (.c .ni)))⟩])
   (.live [0] (.seq (.region [⟨(some 7), none, (.op (.mv (.t 0)))⟩,
    ⟨(some 8), none, (.call 47 [(.t 7)])⟩,
    ⟨(some 6), none, (.op (.mv (.t 8)))⟩,
    ⟨(some 9), none, (.op (.ext (.t 6) 0))⟩,
    ⟨(some 10), none, (.op (.ext (.t 6) 1))⟩,
    ⟨(some 4), none, (.op (.mv (.t 9)))⟩,
    ⟨(some 5), none, (.op (.mv (.t 10)))⟩])
   (.live [5, 0, 4] (.seq (.seq (.region [⟨(some 11), none, (.op (.mv (.t 5)))⟩,
    ⟨(some 12), none, (.op (.bin .iface true .neq (.t 11) (.c .ni)))⟩])
   (.live [5, 0, 4, 12] (.cond (.t 12) (.seq (.region [⟨(some 13), none, (.op (.mv (.t 4)))⟩,
    ⟨(some 14), none, (.op (.mv (.t 0)))⟩,
    ⟨(some 15), none, (.op (.mv (.t 5)))⟩,
    ⟨(some 16), none, (.call 48 [(.c (.s [65, 116, 111, 105])), (.t 14), (.c (.i .i64 0)), (.c (.i .i64 0)), (.t 15)])⟩,
    ⟨(some 2), none, (.op (.mv (.t 13)))⟩,
    ⟨(some 3), none, (.op (.mv (.t 16)))⟩])
   (.ret))
   (.skip))))
   (.live [4] (.seq (.region [⟨(some 17), none, (.op (.mv (.t 4)))⟩,
    ⟨(some 2), none, (.op (.mv (.t 17)))⟩,
    ⟨(some 3), none, (.op (.mv (.c .ni)))⟩])
   (.ret))))))),
  []⟩


/- internal/strconv.Itoa -/

def c42 : IFunc := ⟨1, [.tmp 2],
  .seq (.region [⟨(some 2), none, (.op (.mv (.c (.s []))))⟩])
   (.live [0] (.seq (.region [⟨(some 3), none, (.op (.mv (.t 0)))⟩,
    ⟨(some 4), none, (.call 49 [(.t 3), (.c (.i .i64 10))])⟩,
    ⟨(some 2), none, (.op (.mv (.t 4)))⟩])
   (.ret))),
  []⟩


/- (*strings.Builder).Grow -/
def c43d0 : List Stage :=
  [⟨[(⟨(some 9), none, (.op (.mv (.t 0)))⟩, 0), (⟨(some 10), none, (.op (.nilck (.t 9)))⟩, 0), (⟨(some 11), none, (.op (.faddr 1 (.t 10)))⟩, 0), (⟨(some 12), none, (.op (.load none (.t 11)))⟩, 0), (⟨(some 13), none, (.op (.cap (.t 12)))⟩, 0), (⟨(some 14), none, (.op (.mv (.t 0)))⟩, 0), (⟨(some 15), none, (.op (.nilck (.t 14)))⟩, 0), (⟨(some 16), none, (.op (.faddr 1 (.t 15)))⟩, 0), (⟨(some 17), none, (.op (.load none (.t 16)))⟩, 0), (⟨(some 18), none, (.op (.len .slice (.t 17)))⟩, 0), (⟨(some 19), none, (.op (.bin .int false .sub (.t 13) (.t 18)))⟩, 0), (⟨(some 20), none, (.op (.mv (.t 1)))⟩, 0), (⟨(some 21), none, (.op (.bin .int false .lss (.t 19) (.t 20)))⟩, 0)], none, none⟩]
def c43d0w : List (ROp × Bool) :=
  [(⟨(some 9), none, (.op (.mv (.t 0)))⟩, false), (⟨(some 10), none, (.op (.nilck (.t 9)))⟩, false), (⟨(some 11), none, (.op (.faddr 1 (.t 10)))⟩, false), (⟨(some 12), none, (.op (.load none (.t 11)))⟩, false), (⟨(some 13), none, (.op (.cap (.t 12)))⟩, false), (⟨(some 14), none, (.op (.mv (.t 0)))⟩, false), (⟨(some 15), none, (.op (.nilck (.t 14)))⟩, false), (⟨(some 16), none, (.op (.faddr 1 (.t 15)))⟩, false), (⟨(some 17), none, (.op (.load none (.t 16)))⟩, false), (⟨(some 18), none, (.op (.len .slice (.t 17)))⟩, false), (⟨(some 19), none, (.op (.bin .int false .sub (.t 13) (.t 18)))⟩, false), (⟨(some 20), none, (.op (.mv (.t 1)))⟩, false), (⟨(some 21), none, (.op (.bin .int false .lss (.t 19) (.t 20)))⟩, false)]
theorem c43d0_w {P : Program} {O : Orc} {S0 : Mem} {rd : Bool} {e : Env} {S : Mem} {d : List Nat} {Q : Kont} : W P O S0 rd (.draw c43d0 []) e S d Q = wFl O c43d0w e S (normK Q d) := W_draw' (by kernel_rfl) (by kernel_rfl)
attribute [go_sem] c43d0_w c43d0w
def c43 : IFunc := ⟨2, [],
  .seq (.region [⟨(some 4), none, (.op (.mv (.t 0)))⟩,
    ⟨(some 5), none, (.call 50 [(.t 4)])⟩])
   (.live [1, 0] (.seq (.seq (.region [⟨(some 6), none, (.op (.mv (.t 1)))⟩,
    ⟨(some 7), none, (.op (.bin .int true .lss (.t 6) (.c (.i .i64 0))))⟩])
   (.live [1, 0, 7] (.cond (.t 7) (.region [⟨(some 8), none, (.op (.bad))⟩,
    ⟨none, none, (.op (.bad))⟩])
   (.skip))))
   (.live [1, 0] (.seq (.draw c43d0 [])
   (.live [1, 0, 21] (.cond (.t 21) (.region [⟨(some 22), none, (.op (.mv (.t 0)))⟩,
    ⟨(some 23), none, (.op (.mv (.t 1)))⟩,
    ⟨(some 24), none, (.call 51 [(.t 22), (.t 23)])⟩])
   (.skip))))))),
  []⟩


/- (*strings.Builder).WriteString -/

def c44 : IFunc := ⟨2, [.tmp 4, .tmp 5],
  .seq (.region [⟨(some 4), none, (.op (.mv (.c (.i .i64 0))))⟩,
    ⟨(some 5), none, (.op (.mv (.c .ni)))⟩])
   (.live [1, 0] (.seq (.region [⟨(some 6), none, (.op (.mv (.t 0)))⟩,
    ⟨(some 7), none, (.call 50 [(.t 6)])⟩])
   (.live [1, 0] (.seq (.region [⟨(some 8), none, (.op (.mv (.t 0)))⟩,
    ⟨(some 9), none, (.op (.mv (.t 0)))⟩,
    ⟨(some 10), none, (.op (.nilck (.t 9)))⟩,
    ⟨(some 11), none, (.op (.faddr 1 (.t 10)))⟩,
    ⟨(some 12), none, (.op (.load none (.t 11)))⟩,
    ⟨(some 13), none, (.op (.mv (.t 1)))⟩,
    ⟨(some 14), none, (.op (.app 1 1 (.t 12) (.t 13)))⟩,
    ⟨(some 15), none, (.op (.nilck (.t 8)))⟩,
    ⟨(some 16), none, (.op (.faddr 1 (.t 15)))⟩,
    ⟨none, none, (.op (.store 1 (.t 16) (.t 14)))⟩])
   (.live [1] (.seq (.region [⟨(some 17), none, (.op (.mv (.t 1)))⟩,
    ⟨(some 18), none, (.op (.len .str (.t 17)))⟩,
    ⟨(some 4), none, (.op (.mv (.t 18)))⟩,
    ⟨(some 5), none, (.op (.mv (.c .ni)))⟩])
   (.ret))))))),
  []⟩


/- (*strings.Builder).String -/
def c45d0 : List Stage :=
  [⟨[(⟨(some 3), none, (.op (.mv (.t 0)))⟩, 0), (⟨(some 4), none, (.op (.nilck (.t 3)))⟩, 0), (⟨(some 5), none, (.op (.faddr 1 (.t 4)))⟩, 0), (⟨(some 6), none, (.op (.load none (.t 5)))⟩, 0), (⟨(some 8), none, (.op (.mv (.t 0)))⟩, 1), (⟨(some 9), none, (.op (.nilck (.t 8)))⟩, 1), (⟨(some 10), none, (.op (.faddr 1 (.t 9)))⟩, 1), (⟨(some 11), none, (.op (.load none (.t 10)))⟩, 1), (⟨(some 12), none, (.op (.len .slice (.t 11)))⟩, 1)], none, some ⟨(some 7), none, (.op (.bad))⟩⟩,
    ⟨[], none, some ⟨(some 13), none, (.op (.bad))⟩⟩,
    ⟨[(⟨(some 2), none, (.op (.mv (.t 13)))⟩, 2)], none, none⟩]
def c45d0w : List (ROp × Bool) :=
  [(⟨(some 3), none, (.op (.mv (.t 0)))⟩, false), (⟨(some 4), none, (.op (.nilck (.t 3)))⟩, false), (⟨(some 5), none, (.op (.faddr 1 (.t 4)))⟩, false), (⟨(some 6), none, (.op (.load none (.t 5)))⟩, false), (⟨(some 8), none, (.op (.mv (.t 0)))⟩, false), (⟨(some 9), none, (.op (.nilck (.t 8)))⟩, false), (⟨(some 10), none, (.op (.faddr 1 (.t 9)))⟩, false), (⟨(some 11), none, (.op (.load none (.t 10)))⟩, false), (⟨(some 12), none, (.op (.len .slice (.t 11)))⟩, false), (⟨(some 7), none, (.op (.bad))⟩, true), (⟨(some 13), none, (.op (.bad))⟩, false), (⟨(some 2), none, (.op (.mv (.t 13)))⟩, false)]
theorem c45d0_w {P : Program} {O : Orc} {S0 : Mem} {rd : Bool} {e : Env} {S : Mem} {d : List Nat} {Q : Kont} : W P O S0 rd (.draw c45d0 []) e S d Q = wFl O c45d0w e S (normK Q d) := W_draw' (by kernel_rfl) (by kernel_rfl)
attribute [go_sem] c45d0_w c45d0w
def c45 : IFunc := ⟨1, [.tmp 2],
  .seq (.region [⟨(some 2), none, (.op (.mv (.c (.s []))))⟩])
   (.live [0] (.seq (.draw c45d0 [])
   (.ret))),
  []⟩


/- internal/stringslite.Index -/
def c46l0 : ICode :=
  .seq (.seq (.region [⟨(some 57), none, (.op (.mv (.t 8)))⟩,
    ⟨(some 58), none, (.op (.mv (.t 9)))⟩,
    ⟨(some 59), none, (.op (.bin .int false .lss (.t 57) (.t 58)))⟩])
   (.live [1, 0, 9, 5, 7, 6, 10, 8, 59] (.cond (.t 59) (.skip)
   (.exit 1))))
   (.live [1, 0, 9, 5, 7, 6, 10, 8] (.block 2 (.seq (.seq (.region [⟨(some 60), none, (.op (.mv (.t 0)))⟩,
    ⟨(some 61), none, (.op (.mv (.t 8)))⟩,
    ⟨(some 62), none, (.op (.ixs (.t 60) (.t 61)))⟩,
    ⟨(some 63), none, (.op (.mv (.t 6)))⟩,
    ⟨(some 64), none, (.op (.bin .int false .neq (.t 62) (.t 63)))⟩])
   (.live [1, 0, 9, 5, 7, 6, 10, 8, 64] (.cond (.t 64) (.seq (.region [⟨(some 65), none, (.op (.mv (.t 0)))⟩,
    ⟨(some 66), none, (.op (.mv (.t 8)))⟩,
    ⟨(some 67), none, (.op (.bin .int true .add (.t 66) (.c (.i .i64 1))))⟩,
    ⟨(some 68), none, (.op (.mv (.t 9)))⟩,
    ⟨(some 69), none, (.op (.sls (.t 65) (some (.t 67)) (some (.t 68))))⟩,
    ⟨(some 70), none, (.op (.mv (.t 6)))⟩,
    ⟨(some 71), none, (.call 52 [(.t 69), (.t 70)])⟩,
    ⟨(some 11), none, (.op (.mv (.t 71)))⟩])
   (.live [1, 0, 9, 5, 7, 6, 10, 11, 8] (.seq (.seq (.region [⟨(some 72), none, (.op (.mv (.t 11)))⟩,
    ⟨(some 73), none, (.op (.bin .int true .lss (.t 72) (.c (.i .i64 0))))⟩])
   (.live [1, 0, 9, 5, 7, 6, 10, 11, 8, 73] (.cond (.t 73) (.seq (.region [⟨(some 4), none, (.op (.mv (.c (.i .i64 (-1)))))⟩])
   (.ret))
   (.skip))))
   (.live [1, 0, 9, 5, 7, 6, 10, 11, 8] (.region [⟨(some 74), none, (.op (.mv (.t 8)))⟩,
    ⟨(some 75), none, (.op (.mv (.t 11)))⟩,
    ⟨(some 76), none, (.op (.bin .int true .add (.t 75) (.c (.i .i64 1))))⟩,
    ⟨(some 77), none, (.op (.bin .int false .add (.t 74) (.t 76)))⟩,
    ⟨(some 8), none, (.op (.mv (.t 77)))⟩])))))
   (.skip))))
   (.live [8, 1, 0, 9, 5, 7, 6, 10] (.seq (.seq (.region [⟨(some 78), none, (.op (.mv (.t 0)))⟩,
    ⟨(some 79), none, (.op (.mv (.t 8)))⟩,
    ⟨(some 80), none, (.op (.bin .int true .add (.t 79) (.c (.i .i64 1))))⟩,
    ⟨(some 81), none, (.op (.ixs (.t 78) (.t 80)))⟩,
    ⟨(some 82), none, (.op (.mv (.t 7)))⟩,
    ⟨(some 83), none, (.op (.bin .int false .eql (.t 81) (.t 82)))⟩,
    ⟨(some 84), none, (.op (.mv (.t 83)))⟩,
    ⟨(some 85), some (84, true), (.op (.mv (.t 0)))⟩,
    ⟨(some 86), some (84, true), (.op (.mv (.t 8)))⟩,
    ⟨(some 87), some (84, true), (.op (.mv (.t 8)))⟩,
    ⟨(some 88), some (84, true), (.op (.mv (.t 5)))⟩,
    ⟨(some 89), some (84, true), (.op (.bin .int false .add (.t 87) (.t 88)))⟩,
    ⟨(some 90), some (84, true), (.op (.sls (.t 85) (some (.t 86)) (some (.t 89))))⟩,
    ⟨(some 91), some (84, true), (.op (.mv (.t 1)))⟩,
    ⟨(some 92), some (84, true), (.op (.bin .str false .eql (.t 90) (.t 91)))⟩,
    ⟨(some 93), none, (.op (.pick (.t 84) (.t 92) (.c (.b false))))⟩])
   (.live [8, 1, 0, 9, 5, 7, 6, 10, 93] (.cond (.t 93) (.seq (.region [⟨(some 94), none, (.op (.mv (.t 8)))⟩,
    ⟨(some 4), none, (.op (.mv (.t 94)))⟩])
   (.ret))
   (.skip))))
   (.live [1, 0, 9, 5, 7, 6, 10, 8] (.seq (.region [⟨(some 95), none, (.op (.mv (.t 8)))⟩,
    ⟨(some 96), none, (.op (.bin .int true .add (.t 95) (.c (.i .i64 1))))⟩,
    ⟨(some 8), none, (.op (.mv (.t 96)))⟩])
   (.live [8, 1, 0, 9, 5, 7, 6, 10] (.seq (.region [⟨(some 97), none, (.op (.mv (.t 10)))⟩,
    ⟨(some 98), none, (.op (.bin .int true .add (.t 97) (.c (.i .i64 1))))⟩,
    ⟨(some 10), none, (.op (.mv (.t 98)))⟩])
   (.live [8, 1, 0, 9, 5, 7, 6, 10] (.seq (.region [⟨(some 99), none, (.op (.mv (.t 5)))⟩,
    ⟨(some 100), none, (.op (.bad))⟩,
    ⟨(some 101), none, (.op (.bin .int false .leq (.t 99) (.t 100)))⟩,
    ⟨(some 102), none, (.op (.mv (.t 101)))⟩,
    ⟨(some 103), some (102, true), (.op (.mv (.t 10)))⟩,
    ⟨(some 104), some (102, true), (.op (.mv (.t 8)))⟩,
    ⟨(some 105), some (102, true), (.call 54 [(.t 104)])⟩,
    ⟨(some 106), some (102, true), (.op (.bin .int false .gtr (.t 103) (.t 105)))⟩,
    ⟨(some 107), none, (.op (.pick (.t 102) (.t 106) (.c (.b false))))⟩])
   (.live [8, 1, 0, 9, 5, 7, 6, 10, 107] (.cond (.t 107) (.seq (.region [⟨(some 108), none, (.op (.mv (.t 0)))⟩,
    ⟨(some 109), none, (.op (.mv (.t 8)))⟩,
    ⟨(some 110), none, (.op (.sls (.t 108) (some (.t 109)) none))⟩,
    ⟨(some 111), none, (.op (.mv (.t 1)))⟩,
    ⟨(some 112), none, (.op (.bad))⟩,
    ⟨(some 12), none, (.op (.mv (.t 112)))⟩])
   (.live [8, 12] (.seq (.seq (.region [⟨(some 113), none, (.op (.mv (.t 12)))⟩,
    ⟨(some 114), none, (.op (.bin .int true .geq (.t 113) (.c (.i .i64 0))))⟩])
   (.live [8, 12, 114] (.cond (.t 114) (.seq (.region [⟨(some 115), none, (.op (.mv (.t 12)))⟩,
    ⟨(some 116), none, (.op (.mv (.t 8)))⟩,
    ⟨(some 117), none, (.op (.bin .int false .add (.t 115) (.t 116)))⟩,
    ⟨(some 4), none, (.op (.mv (.t 117)))⟩])
   (.ret))
   (.skip))))
   (.live [] (.seq (.region [⟨(some 4), none, (.op (.mv (.c (.i .i64 (-1)))))⟩])
   (.ret))))))
   (.seq (.region [⟨(some 118), none, (.op (.mv (.t 5)))⟩,
    ⟨(some 119), none, (.op (.bad))⟩,
    ⟨(some 120), none, (.op (.bin .int false .gtr (.t 118) (.t 119)))⟩,
    ⟨(some 121), none, (.op (.mv (.t 120)))⟩,
    ⟨(some 122), some (121, true), (.op (.mv (.t 10)))⟩,
    ⟨(some 123), some (121, true), (.op (.mv (.t 8)))⟩,
    ⟨(some 124), some (121, true), (.op (.bin .int true .shr (.t 123) (.c (.i .u64 4))))⟩,
    ⟨(some 125), some (121, true), (.op (.bin .int true .add (.c (.i .i64 4)) (.t 124)))⟩,
    ⟨(some 126), some (121, true), (.op (.bin .int false .geq (.t 122) (.t 125)))⟩,
    ⟨(some 127), none, (.op (.pick (.t 121) (.t 126) (.c (.b false))))⟩,
    ⟨(some 128), none, (.op (.mv (.t 127)))⟩,
    ⟨(some 129), some (128, true), (.op (.mv (.t 8)))⟩,
    ⟨(some 130), some (128, true), (.op (.mv (.t 9)))⟩,
    ⟨(some 131), some (128, true), (.op (.bin .int false .lss (.t 129) (.t 130)))⟩,
    ⟨(some 132), none, (.op (.pick (.t 128) (.t 131) (.c (.b false))))⟩])
   (.live [8, 1, 0, 9, 5, 7, 6, 10, 132] (.cond (.t 132) (.seq (.region [⟨(some 133), none, (.op (.mv (.t 0)))⟩,
    ⟨(some 134), none, (.op (.mv (.t 8)))⟩,
    ⟨(some 135), none, (.op (.sls (.t 133) (some (.t 134)) none))⟩,
    ⟨(some 136), none, (.op (.mv (.t 1)))⟩,
    ⟨(some 137), none, (.call 55 [(.t 135), (.t 136)])⟩,
    ⟨(some 13), none, (.op (.mv (.t 137)))⟩])
   (.live [13, 8] (.seq (.seq (.region [⟨(some 138), none, (.op (.mv (.t 13)))⟩,
    ⟨(some 139), none, (.op (.bin .int true .lss (.t 138) (.c (.i .i64 0))))⟩])
   (.live [13, 8, 139] (.cond (.t 139) (.seq (.region [⟨(some 4), none, (.op (.mv (.c (.i .i64 (-1)))))⟩])
   (.ret))
   (.skip))))
   (.live [13, 8] (.seq (.region [⟨(some 140), none, (.op (.mv (.t 8)))⟩,
    ⟨(some 141), none, (.op (.mv (.t 13)))⟩,
    ⟨(some 142), none, (.op (.bin .int false .add (.t 140) (.t 141)))⟩,
    ⟨(some 4), none, (.op (.mv (.t 142)))⟩])
   (.ret))))))
   (.skip)))))))))))))))))
def c46 : IFunc := ⟨2, [.tmp 4],
  .seq (.region [⟨(some 4), none, (.op (.mv (.c (.i .i64 0))))⟩])
   (.live [1, 0] (.seq (.region [⟨(some 14), none, (.op (.mv (.t 1)))⟩,
    ⟨(some 15), none, (.op (.len .str (.t 14)))⟩,
    ⟨(some 5), none, (.op (.mv (.t 15)))⟩])
   (.live [1, 0, 5] (.seq (.block 0 (.seq (.region [⟨(some 17), none, (.op (.mv (.t 5)))⟩,
    ⟨(some 18), none, (.op (.bin .int true .eql (.t 17) (.c (.i .i64 0))))⟩,
    ⟨(some 19), none, (.op (.mv (.t 18)))⟩,
    ⟨(some 20), some (19, false), (.op (.mv (.t 1)))⟩,
    ⟨(some 21), some (19, false), (.op (.mv (.t 0)))⟩,
    ⟨(some 22), some (19, false), (.op (.bin .str false .eql (.t 20) (.t 21)))⟩,
    ⟨(some 23), none, (.op (.pick (.t 19) (.c (.b true)) (.t 22)))⟩,
    ⟨(some 16), none, (.op (.mv (.t 23)))⟩])
   (.live [1, 0, 5, 16] (.cond (.t 16) (.seq (.region [⟨(some 4), none, (.op (.mv (.c (.i .i64 0))))⟩])
   (.ret))
   (.seq (.region [⟨(some 25), none, (.op (.mv (.t 5)))⟩,
    ⟨(some 26), none, (.op (.bin .int true .eql (.t 25) (.c (.i .i64 1))))⟩,
    ⟨(some 24), none, (.op (.mv (.t 26)))⟩])
   (.live [1, 0, 5, 24] (.cond (.t 24) (.seq (.region [⟨(some 27), none, (.op (.mv (.t 0)))⟩,
    ⟨(some 28), none, (.op (.mv (.t 1)))⟩,
    ⟨(some 29), none, (.op (.ixs (.t 28) (.c (.i .i64 0))))⟩,
    ⟨(some 30), none, (.call 52 [(.t 27), (.t 29)])⟩,
    ⟨(some 4), none, (.op (.mv (.t 30)))⟩])
   (.ret))
   (.seq (.region [⟨(some 32), none, (.op (.mv (.t 5)))⟩,
    ⟨(some 33), none, (.op (.mv (.t 0)))⟩,
    ⟨(some 34), none, (.op (.len .str (.t 33)))⟩,
    ⟨(some 35), none, (.op (.bin .int false .geq (.t 32) (.t 34)))⟩,
    ⟨(some 31), none, (.op (.mv (.t 35)))⟩])
   (.live [1, 0, 5, 31] (.cond (.t 31) (.seq (.region [⟨(some 4), none, (.op (.mv (.c (.i .i64 (-1)))))⟩])
   (.ret))
   (.seq (.region [⟨(some 37), none, (.op (.mv (.t 5)))⟩,
    ⟨(some 38), none, (.op (.bad))⟩,
    ⟨(some 39), none, (.op (.bin .int false .leq (.t 37) (.t 38)))⟩,
    ⟨(some 40), none, (.op (.mv (.t 39)))⟩,
    ⟨(some 41), some (40, true), (.op (.mv (.t 0)))⟩,
    ⟨(some 42), some (40, true), (.op (.len .str (.t 41)))⟩,
    ⟨(some 43), some (40, true), (.op (.bin .int true .leq (.t 42) (.c (.i .i64 64))))⟩,
    ⟨(some 44), none, (.op (.pick (.t 40) (.t 43) (.c (.b false))))⟩,
    ⟨(some 36), none, (.op (.mv (.t 44)))⟩])
   (.live [1, 0, 5, 36] (.cond (.t 36) (.seq (.region [⟨(some 45), none, (.op (.mv (.t 0)))⟩,
    ⟨(some 46), none, (.op (.mv (.t 1)))⟩,
    ⟨(some 47), none, (.op (.bad))⟩,
    ⟨(some 4), none, (.op (.mv (.t 47)))⟩])
   (.ret))
   (.skip))))))))))))))
   (.live [1, 0, 5] (.seq (.region [⟨(some 48), none, (.op (.mv (.t 1)))⟩,
    ⟨(some 49), none, (.op (.ixs (.t 48) (.c (.i .i64 0))))⟩,
    ⟨(some 6), none, (.op (.mv (.t 49)))⟩])
   (.live [1, 0, 5, 6] (.seq (.region [⟨(some 50), none, (.op (.mv (.t 1)))⟩,
    ⟨(some 51), none, (.op (.ixs (.t 50) (.c (.i .i64 1))))⟩,
    ⟨(some 7), none, (.op (.mv (.t 51)))⟩])
   (.live [1, 0, 5, 7, 6] (.seq (.region [⟨(some 8), none, (.op (.mv (.c (.i .i64 0))))⟩])
   (.live [1, 0, 5, 7, 6, 8] (.seq (.region [⟨(some 52), none, (.op (.mv (.t 0)))⟩,
    ⟨(some 53), none, (.op (.len .str (.t 52)))⟩,
    ⟨(some 54), none, (.op (.mv (.t 5)))⟩,
    ⟨(some 55), none, (.op (.bin .int false .sub (.t 53) (.t 54)))⟩,
    ⟨(some 56), none, (.op (.bin .int true .add (.t 55) (.c (.i .i64 1))))⟩,
    ⟨(some 9), none, (.op (.mv (.t 56)))⟩])
   (.live [1, 0, 9, 5, 7, 6, 8] (.seq (.region [⟨(some 10), none, (.op (.mv (.c (.i .i64 0))))⟩])
   (.live [1, 0, 9, 5, 7, 6, 10, 8] (.seq (.block 1 (.loop [1, 0, 9, 5, 7, 6, 10, 8] c46l0))
   (.live [] (.seq (.region [⟨(some 4), none, (.op (.mv (.c (.i .i64 (-1)))))⟩])
   (.ret))))))))))))))))))),
  []⟩


/- internal/strconv.Atoi -/
def c47l0 : ICode :=
  .seq (.region [⟨(some 50), none, (.op (.bin .int false .lss (.t 49) (.t 48)))⟩])
   (.live [47, 5, 48, 49, 6, 50] (.seq (.cond (.t 50) (.skip)
   (.exit 0))
   (.live [47, 5, 48, 49, 6] (.seq (.block 1 (.seq (.region [⟨(some 51), none, (.op (.iaddr none 1 (.t 47) (.t 49)))⟩,
    ⟨(some 52), none, (.op (.load none (.t 51)))⟩,
    ⟨(some 8), none, (.op (.mv (.t 52)))⟩])
   (.live [47, 5, 48, 49, 6, 8] (.seq (.region [⟨(some 53), none, (.op (.mv (.t 8)))⟩,
    ⟨(some 54), none, (.op (.bin .int true .sub (.t 53) (.c (.i .u8 48))))⟩,
    ⟨(some 8), none, (.op (.mv (.t 54)))⟩])
   (.live [47, 5, 48, 49, 8, 6] (.seq (.seq (.region [⟨(some 55), none, (.op (.mv (.t 8)))⟩,
    ⟨(some 56), none, (.op (.bin .int true .gtr (.t 55) (.c (.i .u8 9))))⟩])
   (.live [47, 5, 48, 49, 8, 6, 56] (.cond (.t 56) (.seq (.region [⟨(some 57), none, (.op (.bad))⟩,
    ⟨(some 2), none, (.op (.mv (.c (.i .i64 0))))⟩,
    ⟨(some 3), none, (.op (.mv (.t 57)))⟩])
   (.ret))
   (.skip))))
   (.live [47, 5, 48, 49, 8, 6] (.region [⟨(some 58), none, (.op (.mv (.t 6)))⟩,
    ⟨(some 59), none, (.op (.bin .int true .mul (.t 58) (.c (.i .i64 10))))⟩,
    ⟨(some 60), none, (.op (.mv (.t 8)))⟩,
    ⟨(some 61), none, (.op (.toInt .i64 (.t 60)))⟩,
    ⟨(some 62), none, (.op (.bin .int false .add (.t 59) (.t 61)))⟩,
    ⟨(some 6), none, (.op (.mv (.t 62)))⟩]))))))))
   (.live [47, 5, 48, 6, 49] (.region [⟨(some 63), none, (.op (.bin .int true .add (.t 49) (.c (.i .i64 1))))⟩,
    ⟨(some 49), none, (.op (.mv (.t 63)))⟩]))))))
def c47 : IFunc := ⟨1, [.tmp 2, .tmp 3],
  .seq (.region [⟨(some 2), none, (.op (.mv (.c (.i .i64 0))))⟩,
    ⟨(some 3), none, (.op (.mv (.c .ni)))⟩])
   (.live [0] (.seq (.region [⟨(some 11), none, (.op (.mv (.t 0)))⟩,
    ⟨(some 12), none, (.op (.len .str (.t 11)))⟩,
    ⟨(some 4), none, (.op (.mv (.t 12)))⟩])
   (.live [0, 4] (.seq (.seq (.region [⟨(some 13), none, (.op (.mv (.c (.b false))))⟩,
    ⟨(some 14), some (13, true), (.op (.mv (.t 4)))⟩,
    ⟨(some 15), some (13, true), (.op (.bin .int true .lss (.c (.i .i64 0)) (.t 14)))⟩,
    ⟨(some 16), some (13, true), (.op (.mv (.t 15)))⟩,
    ⟨(some 17), some (16, true), (.op (.mv (.t 4)))⟩,
    ⟨(some 18), some (16, true), (.op (.bin .int true .lss (.t 17) (.c (.i .i64 10))))⟩,
    ⟨(some 19), some (13, true), (.op (.pick (.t 16) (.t 18) (.c (.b false))))⟩,
    ⟨(some 20), none, (.op (.pick (.t 13) (.t 19) (.c (.b false))))⟩,
    ⟨(some 21), none, (.op (.mv (.t 20)))⟩,
    ⟨(some 22), some (21, false), (.op (.mv (.c (.b true))))⟩,
    ⟨(some 23), some (22, true), (.op (.mv (.t 4)))⟩,
    ⟨(some 24), some (22, true), (.op (.bin .int true .lss (.c (.i .i64 0)) (.t 23)))⟩,
    ⟨(some 25), some (22, true), (.op (.mv (.t 24)))⟩,
    ⟨(some 26), some (25, true), (.op (.mv (.t 4)))⟩,
    ⟨(some 27), some (25, true), (.op (.bin .int true .lss (.t 26) (.c (.i .i64 19))))⟩,
    ⟨(some 28), some (22, true), (.op (.pick (.t 25) (.t 27) (.c (.b false))))⟩,
    ⟨(some 29), some (21, false), (.op (.pick (.t 22) (.t 28) (.c (.b false))))⟩,
    ⟨(some 30), none, (.op (.pick (.t 21) (.c (.b true)) (.t 29)))⟩])
   (.live [0, 30] (.cond (.t 30) (.seq (.region [⟨(some 31), none, (.op (.mv (.t 0)))⟩,
    ⟨(some 5), none, (.op (.mv (.t 31)))⟩])
   (.live [5, 0] (.seq (.seq (.region [⟨(some 32), none, (.op (.mv (.t 0)))⟩,
    ⟨(some 33), none, (.op (.ixs (.t 32) (.c (.i .i64 0))))⟩,
    ⟨(some 34), none, (.op (.bin .int true .eql (.t 33) (.c (.i .u8 45))))⟩,
    ⟨(some 35), none, (.op (.mv (.t 34)))⟩,
    ⟨(some 36), some (35, false), (.op (.mv (.t 0)))⟩,
    ⟨(some 37), some (35, false), (.op (.ixs (.t 36) (.c (.i .i64 0))))⟩,
    ⟨(some 38), some (35, false), (.op (.bin .int true .eql (.t 37) (.c (.i .u8 43))))⟩,
    ⟨(some 39), none, (.op (.pick (.t 35) (.c (.b true)) (.t 38)))⟩])
   (.live [5, 0, 39] (.cond (.t 39) (.seq (.region [⟨(some 40), none, (.op (.mv (.t 0)))⟩,
    ⟨(some 41), none, (.op (.sls (.t 40) (some (.c (.i .i64 1))) none))⟩,
    ⟨(some 0), none, (.op (.mv (.t 41)))⟩])
   (.live [5, 0] (.seq (.region [⟨(some 42), none, (.op (.mv (.t 0)))⟩,
    ⟨(some 43), none, (.op (.len .str (.t 42)))⟩,
    ⟨(some 44), none, (.op (.bin .int true .lss (.t 43) (.c (.i .i64 1))))⟩])
   (.live [5, 0, 44] (.cond (.t 44) (.seq (.region [⟨(some 45), none, (.op (.bad))⟩,
    ⟨(some 2), none, (.op (.mv (.c (.i .i64 0))))⟩,
    ⟨(some 3), none, (.op (.mv (.t 45)))⟩])
   (.ret))
   (.skip))))))
   (.skip))))
   (.live [5, 0] (.seq (.region [⟨(some 6), none, (.op (.mv (.c (.i .i64 0))))⟩])
   (.live [5, 6, 0] (.seq (.seq (.region [⟨(some 46), none, (.op (.mv (.t 0)))⟩,
    ⟨(some 47), none, (.op (.toBytes (.t 46)))⟩,
    ⟨(some 48), none, (.op (.len .slice (.t 47)))⟩,
    ⟨(some 49), none, (.op (.mv (.c (.i .i64 0))))⟩])
   (.live [47, 5, 48, 49, 6] (.block 0 (.loop [47, 5, 48, 49, 6] c47l0))))
   (.live [6, 5] (.seq (.seq (.region [⟨(some 64), none, (.op (.mv (.t 5)))⟩,
    ⟨(some 65), none, (.op (.ixs (.t 64) (.c (.i .i64 0))))⟩,
    ⟨(some 66), none, (.op (.bin .int true .eql (.t 65) (.c (.i .u8 45))))⟩])
   (.live [6, 66] (.cond (.t 66) (.region [⟨(some 67), none, (.op (.mv (.t 6)))⟩,
    ⟨(some 68), none, (.op (.un .neg (.t 67)))⟩,
    ⟨(some 6), none, (.op (.mv (.t 68)))⟩])
   (.skip))))
   (.live [6] (.seq (.region [⟨(some 69), none, (.op (.mv (.t 6)))⟩,
    ⟨(some 2), none, (.op (.mv (.t 69)))⟩,
    ⟨(some 3), none, (.op (.mv (.c .ni)))⟩])
   (.ret))))))))))))
   (.skip))))
   (.live [0] (.seq (.region [⟨(some 71), none, (.op (.mv (.t 0)))⟩,
    ⟨(some 72), none, (.call 56 [(.t 71), (.c (.i .i64 10)), (.c (.i .i64 0))])⟩,
    ⟨(some 70), none, (.op (.mv (.t 72)))⟩,
    ⟨(some 73), none, (.op (.ext (.t 70) 0))⟩,
    ⟨(some 74), none, (.op (.ext (.t 70) 1))⟩,
    ⟨(some 9), none, (.op (.mv (.t 73)))⟩,
    ⟨(some 10), none, (.op (.mv (.t 74)))⟩])
   (.live [10, 9] (.seq (.region [⟨(some 75), none, (.op (.mv (.t 9)))⟩,
    ⟨(some 76), none, (.op (.mv (.t 10)))⟩,
    ⟨(some 2), none, (.op (.mv (.t 75)))⟩,
    ⟨(some 3), none, (.op (.mv (.t 76)))⟩])
   (.ret))))))))),
  []⟩


/- strconv.toError -/

def c48 : IFunc := ⟨5, [.tmp 10],
  .seq (.region [⟨(some 10), none, (.op (.mv (.c .ni)))⟩])
   (.live [1, 0, 2, 3, 4] (.seq (.seq (.region [⟨(some 11), none, (.op (.mv (.t 4)))⟩])
   (.live [1, 0, 2, 3, 4, 11] (.block 0 (.seq (.region [⟨(some 13), none, (.op (.bad))⟩,
    ⟨(some 14), none, (.op (.bin .iface false .eql (.t 11) (.t 13)))⟩,
    ⟨(some 12), none, (.op (.mv (.t 14)))⟩])
   (.live [1, 0, 2, 3, 4, 11, 12] (.cond (.t 12) (.seq (.region [⟨(some 15), none, (.op (.mv (.t 0)))⟩,
    ⟨(some 16), none, (.op (.mv (.t 1)))⟩,
    ⟨(some 17), none, (.call 57 [(.t 15), (.t 16)])⟩,
    ⟨(some 18), none, (.op (.bad))⟩,
    ⟨(some 10), none, (.op (.mv (.t 18)))⟩])
   (.ret))
   (.seq (.region [⟨(some 20), none, (.op (.bad))⟩,
    ⟨(some 21), none, (.op (.bin .iface false .eql (.t 11) (.t 20)))⟩,
    ⟨(some 19), none, (.op (.mv (.t 21)))⟩])
   (.live [1, 0, 2, 3, 4, 11, 19] (.cond (.t 19) (.seq (.region [⟨(some 22), none, (.op (.mv (.t 0)))⟩,
    ⟨(some 23), none, (.op (.mv (.t 1)))⟩,
    ⟨(some 24), none, (.call 58 [(.t 22), (.t 23)])⟩,
    ⟨(some 25), none, (.op (.bad))⟩,
    ⟨(some 10), none, (.op (.mv (.t 25)))⟩])
   (.ret))
   (.seq (.region [⟨(some 27), none, (.op (.bad))⟩,
    ⟨(some 28), none, (.op (.bin .iface false .eql (.t 11) (.t 27)))⟩,
    ⟨(some 26), none, (.op (.mv (.t 28)))⟩])
   (.live [2, 1, 0, 3, 4, 11, 26] (.cond (.t 26) (.seq (.region [⟨(some 29), none, (.op (.mv (.t 0)))⟩,
    ⟨(some 30), none, (.op (.mv (.t 1)))⟩,
    ⟨(some 31), none, (.op (.mv (.t 2)))⟩,
    ⟨(some 32), none, (.call 59 [(.t 29), (.t 30), (.t 31)])⟩,
    ⟨(some 33), none, (.op (.bad))⟩,
    ⟨(some 10), none, (.op (.mv (.t 33)))⟩])
   (.ret))
   (.seq (.region [⟨(some 35), none, (.op (.bad))⟩,
    ⟨(some 36), none, (.op (.bin .iface false .eql (.t 11) (.t 35)))⟩,
    ⟨(some 34), none, (.op (.mv (.t 36)))⟩])
   (.live [3, 1, 0, 4, 34] (.cond (.t 34) (.seq (.region [⟨(some 37), none, (.op (.mv (.t 0)))⟩,
    ⟨(some 38), none, (.op (.mv (.t 1)))⟩,
    ⟨(some 39), none, (.op (.mv (.t 3)))⟩,
    ⟨(some 40), none, (.call 60 [(.t 37), (.t 38), (.t 39)])⟩,
    ⟨(some 41), none, (.op (.bad))⟩,
    ⟨(some 10), none, (.op (.mv (.t 41)))⟩])
   (.ret))
   (.skip))))))))))))))))
   (.live [4] (.seq (.region [⟨(some 42), none, (.op (.mv (.t 4)))⟩,
    ⟨(some 10), none, (.op (.mv (.t 42)))⟩])
   (.ret))))),
  []⟩


/- internal/strconv.FormatInt -/

def c49 : IFunc := ⟨2, [.tmp 4],
  .seq (.region [⟨(some 4), none, (.op (.mv (.c (.s []))))⟩])
   (.live [0, 1] (.seq (.seq (.region [⟨(some 10), none, (.op (.mv (.t 1)))⟩,
    ⟨(some 11), none, (.op (.bin .int true .eql (.t 10) (.c (.i .i64 10))))⟩])
   (.live [0, 1, 11] (.cond (.t 11) (.seq (.seq (.region [⟨(some 12), none, (.op (.mv (.t 0)))⟩,
    ⟨(some 13), none, (.op (.bin .int true .leq (.c (.i .i64 0)) (.t 12)))⟩,
    ⟨(some 14), none, (.op (.mv (.t 13)))⟩,
    ⟨(some 15), some (14, true), (.op (.mv (.t 0)))⟩,
    ⟨(some 16), some (14, true), (.op (.bin .int true .lss (.t 15) (.c (.i .i64 100))))⟩,
    ⟨(some 17), none, (.op (.pick (.t 14) (.t 16) (.c (.b false))))⟩])
   (.live [0, 17] (.cond (.t 17) (.seq (.region [⟨(some 18), none, (.op (.mv (.t 0)))⟩,
    ⟨(some 19), none, (.call 61 [(.t 18)])⟩,
    ⟨(some 4), none, (.op (.mv (.t 19)))⟩])
   (.ret))
   (.skip))))
   (.live [0] (.seq (.region [⟨(some 5), none, (.op (.fresh [(.i .u8 0), (.i .u8 0), (.i .u8 0), (.i .u8 0), (.i .u8 0), (.i .u8 0), (.i .u8 0), (.i .u8 0), (.i .u8 0), (.i .u8 0), (.i .u8 0), (.i .u8 0), (.i .u8 0), (.i .u8 0), (.i .u8 0), (.i .u8 0), (.i .u8 0), (.i .u8 0), (.i .u8 0), (.i .u8 0), (.i .u8 0), (.i .u8 0), (.i .u8 0), (.i .u8 0)]))⟩])
   (.live [5, 0] (.seq (.region [⟨(some 20), none, (.op (.mv (.t 0)))⟩,
    ⟨(some 21), none, (.op (.toInt .u64 (.t 20)))⟩,
    ⟨(some 6), none, (.op (.mv (.t 21)))⟩])
   (.live [5, 0, 6] (.seq (.seq (.region [⟨(some 22), none, (.op (.mv (.t 0)))⟩,
    ⟨(some 23), none, (.op (.bin .int true .lss (.t 22) (.c (.i .i64 0))))⟩])
   (.live [5, 0, 6, 23] (.cond (.t 23) (.region [⟨(some 24), none, (.op (.mv (.t 6)))⟩,
    ⟨(some 25), none, (.op (.un .neg (.t 24)))⟩,
    ⟨(some 6), none, (.op (.mv (.t 25)))⟩])
   (.skip))))
   (.live [5, 0, 6] (.seq (.region [⟨(some 26), none, (.op (.mv (.t 6)))⟩,
    ⟨(some 27), none, (.call 62 [(.t 26)])⟩,
    ⟨(some 7), none, (.op (.mv (.t 27)))⟩])
   (.live [5, 7, 0, 6] (.seq (.region [⟨(some 28), none, (.op (.mv (.t 7)))⟩,
    ⟨(some 29), none, (.op (.bin .int true .add (.c (.i .i64 1)) (.t 28)))⟩,
    ⟨(some 30), none, (.op (.sla 24 1 (.t 5) (some (.c (.i .i64 1))) (some (.t 29)) none))⟩,
    ⟨(some 31), none, (.op (.mv (.t 6)))⟩,
    ⟨(some 32), none, (.call 63 [(.t 30), (.t 31)])⟩])
   (.live [5, 7, 0] (.seq (.seq (.region [⟨(some 33), none, (.op (.mv (.t 0)))⟩,
    ⟨(some 34), none, (.op (.bin .int true .lss (.t 33) (.c (.i .i64 0))))⟩])
   (.live [5, 7, 34] (.cond (.t 34) (.seq (.region [⟨(some 35), none, (.op (.iaddr (some 24) 1 (.t 5) (.c (.i .i64 0))))⟩,
    ⟨none, none, (.op (.store 1 (.t 35) (.c (.i .u8 45))))⟩])
   (.live [5, 7] (.seq (.region [⟨(some 36), none, (.op (.mv (.t 7)))⟩,
    ⟨(some 37), none, (.op (.bin .int true .add (.c (.i .i64 1)) (.t 36)))⟩,
    ⟨(some 38), none, (.op (.sla 24 1 (.t 5) none (some (.t 37)) none))⟩,
    ⟨(some 39), none, (.op (.toStr (.t 38)))⟩,
    ⟨(some 4), none, (.op (.mv (.t 39)))⟩])
   (.ret))))
   (.skip))))
   (.live [5, 7] (.seq (.region [⟨(some 40), none, (.op (.mv (.t 7)))⟩,
    ⟨(some 41), none, (.op (.bin .int true .add (.c (.i .i64 1)) (.t 40)))⟩,
    ⟨(some 42), none, (.op (.sla 24 1 (.t 5) (some (.c (.i .i64 1))) (some (.t 41)) none))⟩,
    ⟨(some 43), none, (.op (.toStr (.t 42)))⟩,
    ⟨(some 4), none, (.op (.mv (.t 43)))⟩])
   (.ret))))))))))))))))
   (.skip))))
   (.live [0, 1] (.seq (.region [⟨(some 45), none, (.op (.mv (.t 0)))⟩,
    ⟨(some 46), none, (.op (.toInt .u64 (.t 45)))⟩,
    ⟨(some 47), none, (.op (.mv (.t 1)))⟩,
    ⟨(some 48), none, (.op (.mv (.t 0)))⟩,
    ⟨(some 49), none, (.op (.bin .int true .lss (.t 48) (.c (.i .i64 0))))⟩,
    ⟨(some 50), none, (.call 64 [(.c .sn), (.t 46), (.t 47), (.t 49), (.c (.b false))])⟩,
    ⟨(some 44), none, (.op (.mv (.t 50)))⟩,
    ⟨(some 51), none, (.op (.ext (.t 44) 0))⟩,
    ⟨(some 52), none, (.op (.ext (.t 44) 1))⟩,
    ⟨(some 8), none, (.op (.mv (.t 51)))⟩,
    ⟨(some 9), none, (.op (.mv (.t 52)))⟩])
   (.live [9] (.seq (.region [⟨(some 53), none, (.op (.mv (.t 9)))⟩,
    ⟨(some 4), none, (.op (.mv (.t 53)))⟩])
   (.ret))))))),
  []⟩


/- (*strings.Builder).copyCheck -/

def c50 : IFunc := ⟨1, [],
  .seq (.region [⟨(some 2), none, (.op (.mv (.t 0)))⟩,
    ⟨(some 3), none, (.op (.nilck (.t 2)))⟩,
    ⟨(some 4), none, (.op (.faddr 0 (.t 3)))⟩,
    ⟨(some 5), none, (.op (.load none (.t 4)))⟩,
    ⟨(some 6), none, (.op (.bin .ptr true .eql (.t 5) (.c .pn)))⟩])
   (.live [0, 6] (.cond (.t 6) (.region [⟨(some 7), none, (.op (.mv (.t 0)))⟩,
    ⟨(some 8), none, (.op (.mv (.t 0)))⟩,
    ⟨(some 9), none, (.op (.bad))⟩,
    ⟨(some 10), none, (.op (.bad))⟩,
    ⟨(some 11), none, (.op (.bad))⟩,
    ⟨(some 12), none, (.op (.nilck (.t 7)))⟩,
    ⟨(some 13), none, (.op (.faddr 0 (.t 12)))⟩,
    ⟨none, none, (.op (.store 1 (.t 13) (.t 11)))⟩])
   (.seq (.region [⟨(some 14), none, (.op (.mv (.t 0)))⟩,
    ⟨(some 15), none, (.op (.nilck (.t 14)))⟩,
    ⟨(some 16), none, (.op (.faddr 0 (.t 15)))⟩,
    ⟨(some 17), none, (.op (.load none (.t 16)))⟩,
    ⟨(some 18), none, (.op (.mv (.t 0)))⟩,
    ⟨(some 19), none, (.op (.bin .ptr false .neq (.t 17) (.t 18)))⟩])
   (.live [19] (.cond (.t 19) (.bad)
   (.skip)))))),
  []⟩


/- (*strings.Builder).grow -/
def c51d0 : List Stage :=
  [⟨[(⟨(some 5), none, (.op (.mv (.t 0)))⟩, 0), (⟨(some 6), none, (.op (.nilck (.t 5)))⟩, 0), (⟨(some 7), none, (.op (.faddr 1 (.t 6)))⟩, 0), (⟨(some 8), none, (.op (.load none (.t 7)))⟩, 0), (⟨(some 9), none, (.op (.cap (.t 8)))⟩, 0), (⟨(some 10), none, (.op (.bin .int true .mul (.c (.i .i64 2)) (.t 9)))⟩, 0), (⟨(some 11), none, (.op (.mv (.t 1)))⟩, 0), (⟨(some 12), none, (.op (.bin .int false .add (.t 10) (.t 11)))⟩, 0), (⟨(some 14), none, (.op (.mv (.t 0)))⟩, 1), (⟨(some 15), none, (.op (.nilck (.t 14)))⟩, 1), (⟨(some 16), none, (.op (.faddr 1 (.t 15)))⟩, 1), (⟨(some 17), none, (.op (.load none (.t 16)))⟩, 1), (⟨(some 18), none, (.op (.len .slice (.t 17)))⟩, 1)], none, some ⟨(some 13), none, (.op (.mkno (.t 12)))⟩⟩,
    ⟨[(⟨(some 19), none, (.op (.slice 1 (.t 13) none (some (.t 18)) none))⟩, 1), (⟨(some 4), none, (.op (.mv (.t 19)))⟩, 1)], none, none⟩]
def c51d0w : List (ROp × Bool) :=
  [(⟨(some 5), none, (.op (.mv (.t 0)))⟩, false), (⟨(some 6), none, (.op (.nilck (.t 5)))⟩, false), (⟨(some 7), none, (.op (.faddr 1 (.t 6)))⟩, false), (⟨(some 8), none, (.op (.load none (.t 7)))⟩, false), (⟨(some 9), none, (.op (.cap (.t 8)))⟩, false), (⟨(some 10), none, (.op (.bin .int true .mul (.c (.i .i64 2)) (.t 9)))⟩, false), (⟨(some 11), none, (.op (.mv (.t 1)))⟩, false), (⟨(some 12), none, (.op (.bin .int false .add (.t 10) (.t 11)))⟩, false), (⟨(some 14), none, (.op (.mv (.t 0)))⟩, false), (⟨(some 15), none, (.op (.nilck (.t 14)))⟩, false), (⟨(some 16), none, (.op (.faddr 1 (.t 15)))⟩, false), (⟨(some 17), none, (.op (.load none (.t 16)))⟩, false), (⟨(some 18), none, (.op (.len .slice (.t 17)))⟩, false), (⟨(some 13), none, (.op (.mkno (.t 12)))⟩, true), (⟨(some 19), none, (.op (.slice 1 (.t 13) none (some (.t 18)) none))⟩, false), (⟨(some 4), none, (.op (.mv (.t 19)))⟩, false)]
theorem c51d0_w {P : Program} {O : Orc} {S0 : Mem} {rd : Bool} {e : Env} {S : Mem} {d : List Nat} {Q : Kont} : W P O S0 rd (.draw c51d0 []) e S d Q = wFl O c51d0w e S (normK Q d) := W_draw' (by kernel_rfl) (by kernel_rfl)
attribute [go_sem] c51d0_w c51d0w
def c51 : IFunc := ⟨2, [],
  .seq (.draw c51d0 [])
   (.live [4, 0] (.seq (.region [⟨(some 20), none, (.op (.mv (.t 4)))⟩,
    ⟨(some 21), none, (.op (.mv (.t 0)))⟩,
    ⟨(some 22), none, (.op (.nilck (.t 21)))⟩,
    ⟨(some 23), none, (.op (.faddr 1 (.t 22)))⟩,
    ⟨(some 24), none, (.op (.load none (.t 23)))⟩,
    ⟨(some 25), none, (.op (.copy 1 (.t 20) (.t 24)))⟩])
   (.live [4, 0] (.region [⟨(some 26), none, (.op (.mv (.t 0)))⟩,
    ⟨(some 27), none, (.op (.mv (.t 4)))⟩,
    ⟨(some 28), none, (.op (.nilck (.t 26)))⟩,
    ⟨(some 29), none, (.op (.faddr 1 (.t 28)))⟩,
    ⟨none, none, (.op (.store 1 (.t 29) (.t 27)))⟩])))),
  []⟩


/- internal/stringslite.IndexByte -/

def c52 : IFunc := ⟨2, [.tmp 4],
  .seq (.region [⟨(some 4), none, (.op (.mv (.c (.i .i64 0))))⟩])
   (.live [1, 0] (.seq (.region [⟨(some 5), none, (.op (.mv (.t 0)))⟩,
    ⟨(some 6), none, (.op (.mv (.t 1)))⟩,
    ⟨(some 7), none, (.op (.ixbyte (.t 5) (.t 6)))⟩,
    ⟨(some 4), none, (.op (.mv (.t 7)))⟩])
   (.ret))),
  []⟩


/- internal/bytealg.Cutover -/

def c54 : IFunc := ⟨1, [.tmp 2],
  .seq (.region [⟨(some 2), none, (.op (.mv (.c (.i .i64 0))))⟩])
   (.live [0] (.seq (.region [⟨(some 3), none, (.op (.mv (.t 0)))⟩,
    ⟨(some 4), none, (.op (.bin .int true .add (.t 3) (.c (.i .i64 16))))⟩,
    ⟨(some 5), none, (.op (.bin .int true .quo (.t 4) (.c (.i .i64 8))))⟩,
    ⟨(some 2), none, (.op (.mv (.t 5)))⟩])
   (.ret))),
  []⟩


/- internal/bytealg.IndexRabinKarp[string] -/
def c55l0 : ICode :=
  .seq (.seq (.region [⟨(some 18), none, (.op (.mv (.t 9)))⟩,
    ⟨(some 19), none, (.op (.mv (.t 7)))⟩,
    ⟨(some 20), none, (.op (.bin .int false .lss (.t 18) (.t 19)))⟩])
   (.live [0, 7, 1, 5, 6, 9, 8, 20] (.cond (.t 20) (.skip)
   (.exit 0))))
   (.live [0, 7, 1, 5, 6, 9, 8] (.seq (.block 1 (.region [⟨(some 23), none, (.op (.mv (.t 8)))⟩,
    ⟨(some 24), none, (.op (.bin .int true .mul (.t 23) (.c (.i .u32 16777619))))⟩,
    ⟨(some 25), none, (.op (.mv (.t 0)))⟩,
    ⟨(some 26), none, (.op (.mv (.t 9)))⟩,
    ⟨(some 27), none, (.op (.ixs (.t 25) (.t 26)))⟩,
    ⟨(some 28), none, (.op (.toInt .u32 (.t 27)))⟩,
    ⟨(some 29), none, (.op (.bin .int false .add (.t 24) (.t 28)))⟩,
    ⟨(some 8), none, (.op (.mv (.t 29)))⟩]))
   (.live [0, 7, 1, 5, 6, 8, 9] (.region [⟨(some 21), none, (.op (.mv (.t 9)))⟩,
    ⟨(some 22), none, (.op (.bin .int true .add (.t 21) (.c (.i .i64 1))))⟩,
    ⟨(some 9), none, (.op (.mv (.t 22)))⟩]))))
def c55l1 : ICode :=
  .seq (.seq (.region [⟨(some 41), none, (.op (.mv (.t 10)))⟩,
    ⟨(some 42), none, (.op (.mv (.t 0)))⟩,
    ⟨(some 43), none, (.op (.len .str (.t 42)))⟩,
    ⟨(some 44), none, (.op (.bin .int false .lss (.t 41) (.t 43)))⟩])
   (.live [7, 1, 0, 5, 6, 10, 8, 44] (.cond (.t 44) (.skip)
   (.exit 2))))
   (.live [7, 1, 0, 5, 6, 10, 8] (.block 3 (.seq (.region [⟨(some 45), none, (.op (.mv (.t 8)))⟩,
    ⟨(some 46), none, (.op (.bin .int true .mul (.t 45) (.c (.i .u32 16777619))))⟩,
    ⟨(some 8), none, (.op (.mv (.t 46)))⟩])
   (.live [7, 1, 0, 5, 6, 10, 8] (.seq (.region [⟨(some 47), none, (.op (.mv (.t 8)))⟩,
    ⟨(some 48), none, (.op (.mv (.t 0)))⟩,
    ⟨(some 49), none, (.op (.mv (.t 10)))⟩,
    ⟨(some 50), none, (.op (.ixs (.t 48) (.t 49)))⟩,
    ⟨(some 51), none, (.op (.toInt .u32 (.t 50)))⟩,
    ⟨(some 52), none, (.op (.bin .int false .add (.t 47) (.t 51)))⟩,
    ⟨(some 8), none, (.op (.mv (.t 52)))⟩])
   (.live [7, 1, 0, 5, 6, 10, 8] (.seq (.region [⟨(some 53), none, (.op (.mv (.t 8)))⟩,
    ⟨(some 54), none, (.op (.mv (.t 6)))⟩,
    ⟨(some 55), none, (.op (.mv (.t 0)))⟩,
    ⟨(some 56), none, (.op (.mv (.t 10)))⟩,
    ⟨(some 57), none, (.op (.mv (.t 7)))⟩,
    ⟨(some 58), none, (.op (.bin .int false .sub (.t 56) (.t 57)))⟩,
    ⟨(some 59), none, (.op (.ixs (.t 55) (.t 58)))⟩,
    ⟨(some 60), none, (.op (.toInt .u32 (.t 59)))⟩,
    ⟨(some 61), none, (.op (.bin .int false .mul (.t 54) (.t 60)))⟩,
    ⟨(some 62), none, (.op (.bin .int false .sub (.t 53) (.t 61)))⟩,
    ⟨(some 8), none, (.op (.mv (.t 62)))⟩])
   (.live [7, 1, 0, 5, 6, 8, 10] (.seq (.region [⟨(some 63), none, (.op (.mv (.t 10)))⟩,
    ⟨(some 64), none, (.op (.bin .int true .add (.t 63) (.c (.i .i64 1))))⟩,
    ⟨(some 10), none, (.op (.mv (.t 64)))⟩])
   (.live [7, 10, 1, 0, 5, 6, 8] (.seq (.region [⟨(some 65), none, (.op (.mv (.t 8)))⟩,
    ⟨(some 66), none, (.op (.mv (.t 5)))⟩,
    ⟨(some 67), none, (.op (.bin .int false .eql (.t 65) (.t 66)))⟩,
    ⟨(some 68), none, (.op (.mv (.t 67)))⟩,
    ⟨(some 69), some (68, true), (.op (.mv (.t 0)))⟩,
    ⟨(some 70), some (68, true), (.op (.mv (.t 10)))⟩,
    ⟨(some 71), some (68, true), (.op (.mv (.t 7)))⟩,
    ⟨(some 72), some (68, true), (.op (.bin .int false .sub (.t 70) (.t 71)))⟩,
    ⟨(some 73), some (68, true), (.op (.mv (.t 10)))⟩,
    ⟨(some 74), some (68, true), (.op (.sls (.t 69) (some (.t 72)) (some (.t 73))))⟩,
    ⟨(some 75), some (68, true), (.op (.mv (.t 1)))⟩,
    ⟨(some 76), some (68, true), (.op (.bin .str false .eql (.t 74) (.t 75)))⟩,
    ⟨(some 77), none, (.op (.pick (.t 68) (.t 76) (.c (.b false))))⟩])
   (.live [7, 10, 1, 0, 5, 6, 8, 77] (.cond (.t 77) (.seq (.region [⟨(some 78), none, (.op (.mv (.t 10)))⟩,
    ⟨(some 79), none, (.op (.mv (.t 7)))⟩,
    ⟨(some 80), none, (.op (.bin .int false .sub (.t 78) (.t 79)))⟩,
    ⟨(some 4), none, (.op (.mv (.t 80)))⟩])
   (.ret))
   (.skip))))))))))))))
def c55 : IFunc := ⟨2, [.tmp 4],
  .seq (.region [⟨(some 4), none, (.op (.mv (.c (.i .i64 0))))⟩])
   (.live [0, 1] (.seq (.region [⟨(some 12), none, (.op (.mv (.t 1)))⟩,
    ⟨(some 13), none, (.call 68 [(.t 12)])⟩,
    ⟨(some 11), none, (.op (.mv (.t 13)))⟩,
    ⟨(some 14), none, (.op (.ext (.t 11) 0))⟩,
    ⟨(some 15), none, (.op (.ext (.t 11) 1))⟩,
    ⟨(some 5), none, (.op (.mv (.t 14)))⟩,
    ⟨(some 6), none, (.op (.mv (.t 15)))⟩])
   (.live [0, 1, 5, 6] (.seq (.region [⟨(some 16), none, (.op (.mv (.t 1)))⟩,
    ⟨(some 17), none, (.op (.len .str (.t 16)))⟩,
    ⟨(some 7), none, (.op (.mv (.t 17)))⟩])
   (.live [0, 7, 1, 5, 6] (.seq (.region [⟨(some 8), none, (.op (.mv (.c (.i .u32 0))))⟩])
   (.live [0, 7, 1, 5, 6, 8] (.seq (.seq (.region [⟨(some 9), none, (.op (.mv (.c (.i .i64 0))))⟩])
   (.live [0, 7, 1, 5, 6, 9, 8] (.block 0 (.loop [0, 7, 1, 5, 6, 9, 8] c55l0))))
   (.live [7, 1, 0, 5, 6, 8] (.seq (.seq (.region [⟨(some 30), none, (.op (.mv (.t 8)))⟩,
    ⟨(some 31), none, (.op (.mv (.t 5)))⟩,
    ⟨(some 32), none, (.op (.bin .int false .eql (.t 30) (.t 31)))⟩,
    ⟨(some 33), none, (.op (.mv (.t 32)))⟩,
    ⟨(some 34), some (33, true), (.op (.mv (.t 0)))⟩,
    ⟨(some 35), some (33, true), (.op (.mv (.t 7)))⟩,
    ⟨(some 36), some (33, true), (.op (.sls (.t 34) none (some (.t 35))))⟩,
    ⟨(some 37), some (33, true), (.op (.mv (.t 1)))⟩,
    ⟨(some 38), some (33, true), (.op (.bin .str false .eql (.t 36) (.t 37)))⟩,
    ⟨(some 39), none, (.op (.pick (.t 33) (.t 38) (.c (.b false))))⟩])
   (.live [7, 1, 0, 5, 6, 8, 39] (.cond (.t 39) (.seq (.region [⟨(some 4), none, (.op (.mv (.c (.i .i64 0))))⟩])
   (.ret))
   (.skip))))
   (.live [7, 1, 0, 5, 6, 8] (.seq (.seq (.region [⟨(some 40), none, (.op (.mv (.t 7)))⟩,
    ⟨(some 10), none, (.op (.mv (.t 40)))⟩])
   (.live [7, 1, 0, 5, 6, 10, 8] (.block 2 (.loop [7, 1, 0, 5, 6, 10, 8] c55l1))))
   (.live [] (.seq (.region [⟨(some 4), none, (.op (.mv (.c (.i .i64 (-1)))))⟩])
   (.ret))))))))))))))),
  []⟩


/- internal/strconv.ParseInt -/

def c56 : IFunc := ⟨3, [.tmp 6, .tmp 7],
  .seq (.region [⟨(some 6), none, (.op (.mv (.c (.i .i64 0))))⟩,
    ⟨(some 7), none, (.op (.mv (.c .ni)))⟩])
   (.live [2, 1, 0] (.seq (.seq (.region [⟨(some 12), none, (.op (.mv (.t 0)))⟩,
    ⟨(some 13), none, (.op (.bin .str true .eql (.t 12) (.c (.s []))))⟩])
   (.live [2, 1, 0, 13] (.cond (.t 13) (.seq (.region [⟨(some 14), none, (.op (.bad))⟩,
    ⟨(some 6), none, (.op (.mv (.c (.i .i64 0))))⟩,
    ⟨(some 7), none, (.op (.mv (.t 14)))⟩])
   (.ret))
   (.skip))))
   (.live [2, 1, 0] (.seq (.region [⟨(some 8), none, (.op (.mv (.c (.b false))))⟩])
   (.live [8, 2, 1, 0] (.seq (.seq (.region [⟨(some 15), none, (.op (.mv (.t 0)))⟩,
    ⟨(some 16), none, (.op (.ixs (.t 15) (.c (.i .i64 0))))⟩])
   (.live [8, 2, 1, 0, 16] (.block 0 (.seq (.region [⟨(some 18), none, (.op (.bin .int true .eql (.t 16) (.c (.i .u8 43))))⟩,
    ⟨(some 17), none, (.op (.mv (.t 18)))⟩])
   (.live [8, 2, 1, 0, 16, 17] (.cond (.t 17) (.region [⟨(some 19), none, (.op (.mv (.t 0)))⟩,
    ⟨(some 20), none, (.op (.sls (.t 19) (some (.c (.i .i64 1))) none))⟩,
    ⟨(some 0), none, (.op (.mv (.t 20)))⟩])
   (.seq (.region [⟨(some 22), none, (.op (.bin .int true .eql (.t 16) (.c (.i .u8 45))))⟩,
    ⟨(some 21), none, (.op (.mv (.t 22)))⟩])
   (.live [2, 1, 0, 8, 21] (.cond (.t 21) (.seq (.region [⟨(some 23), none, (.op (.mv (.t 0)))⟩,
    ⟨(some 24), none, (.op (.sls (.t 23) (some (.c (.i .i64 1))) none))⟩,
    ⟨(some 0), none, (.op (.mv (.t 24)))⟩])
   (.region [⟨(some 8), none, (.op (.mv (.c (.b true))))⟩]))
   (.skip))))))))))
   (.live [8, 2, 1, 0] (.seq (.region [⟨(some 9), none, (.op (.mv (.c (.i .u64 0))))⟩])
   (.live [8, 2, 1, 0] (.seq (.region [⟨(some 26), none, (.op (.mv (.t 0)))⟩,
    ⟨(some 27), none, (.op (.mv (.t 1)))⟩,
    ⟨(some 28), none, (.op (.mv (.t 2)))⟩,
    ⟨(some 29), none, (.call 69 [(.t 26), (.t 27), (.t 28)])⟩,
    ⟨(some 25), none, (.op (.mv (.t 29)))⟩,
    ⟨(some 30), none, (.op (.ext (.t 25) 0))⟩,
    ⟨(some 31), none, (.op (.ext (.t 25) 1))⟩,
    ⟨(some 9), none, (.op (.mv (.t 30)))⟩,
    ⟨(some 7), none, (.op (.mv (.t 31)))⟩])
   (.live [7, 8, 9, 2] (.seq (.seq (.region [⟨(some 32), none, (.op (.mv (.t 7)))⟩,
    ⟨(some 33), none, (.op (.bin .iface true .neq (.t 32) (.c .ni)))⟩,
    ⟨(some 34), none, (.op (.mv (.t 33)))⟩,
    ⟨(some 35), some (34, true), (.op (.mv (.t 7)))⟩,
    ⟨(some 36), some (34, true), (.op (.bad))⟩,
    ⟨(some 37), some (34, true), (.op (.bin .iface false .neq (.t 35) (.t 36)))⟩,
    ⟨(some 38), none, (.op (.pick (.t 34) (.t 37) (.c (.b false))))⟩])
   (.live [7, 8, 9, 2, 38] (.cond (.t 38) (.seq (.region [⟨(some 39), none, (.op (.mv (.t 7)))⟩,
    ⟨(some 6), none, (.op (.mv (.c (.i .i64 0))))⟩,
    ⟨(some 7), none, (.op (.mv (.t 39)))⟩])
   (.ret))
   (.skip))))
   (.live [8, 9, 2] (.seq (.seq (.region [⟨(some 40), none, (.op (.mv (.t 2)))⟩,
    ⟨(some 41), none, (.op (.bin .int true .eql (.t 40) (.c (.i .i64 0))))⟩])
   (.live [8, 9, 2, 41] (.cond (.t 41) (.region [⟨(some 2), none, (.op (.mv (.c (.i .i64 64))))⟩])
   (.skip))))
   (.live [8, 9, 2] (.seq (.region [⟨(some 42), none, (.op (.mv (.t 2)))⟩,
    ⟨(some 43), none, (.op (.bin .int true .sub (.t 42) (.c (.i .i64 1))))⟩,
    ⟨(some 44), none, (.op (.toInt .u64 (.t 43)))⟩,
    ⟨(some 45), none, (.op (.bin .int true .shl (.c (.i .u64 1)) (.t 44)))⟩,
    ⟨(some 10), none, (.op (.mv (.t 45)))⟩])
   (.live [10, 8, 9] (.seq (.seq (.region [⟨(some 46), none, (.op (.mv (.t 8)))⟩,
    ⟨(some 47), none, (.op (.un .not (.t 46)))⟩,
    ⟨(some 48), none, (.op (.mv (.t 47)))⟩,
    ⟨(some 49), some (48, true), (.op (.mv (.t 9)))⟩,
    ⟨(some 50), some (48, true), (.op (.mv (.t 10)))⟩,
    ⟨(some 51), some (48, true), (.op (.bin .int false .geq (.t 49) (.t 50)))⟩,
    ⟨(some 52), none, (.op (.pick (.t 48) (.t 51) (.c (.b false))))⟩])
   (.live [10, 8, 9, 52] (.cond (.t 52) (.seq (.region [⟨(some 53), none, (.op (.mv (.t 10)))⟩,
    ⟨(some 54), none, (.op (.bin .int true .sub (.t 53) (.c (.i .u64 1))))⟩,
    ⟨(some 55), none, (.op (.toInt .i64 (.t 54)))⟩,
    ⟨(some 56), none, (.op (.bad))⟩,
    ⟨(some 6), none, (.op (.mv (.t 55)))⟩,
    ⟨(some 7), none, (.op (.mv (.t 56)))⟩])
   (.ret))
   (.skip))))
   (.live [10, 8, 9] (.seq (.seq (.region [⟨(some 57), none, (.op (.mv (.t 8)))⟩,
    ⟨(some 58), none, (.op (.mv (.t 57)))⟩,
    ⟨(some 59), some (58, true), (.op (.mv (.t 9)))⟩,
    ⟨(some 60), some (58, true), (.op (.mv (.t 10)))⟩,
    ⟨(some 61), some (58, true), (.op (.bin .int false .gtr (.t 59) (.t 60)))⟩,
    ⟨(some 62), none, (.op (.pick (.t 58) (.t 61) (.c (.b false))))⟩])
   (.live [10, 8, 9, 62] (.cond (.t 62) (.seq (.region [⟨(some 63), none, (.op (.mv (.t 10)))⟩,
    ⟨(some 64), none, (.op (.toInt .i64 (.t 63)))⟩,
    ⟨(some 65), none, (.op (.un .neg (.t 64)))⟩,
    ⟨(some 66), none, (.op (.bad))⟩,
    ⟨(some 6), none, (.op (.mv (.t 65)))⟩,
    ⟨(some 7), none, (.op (.mv (.t 66)))⟩])
   (.ret))
   (.skip))))
   (.live [8, 9] (.seq (.region [⟨(some 67), none, (.op (.mv (.t 9)))⟩,
    ⟨(some 68), none, (.op (.toInt .i64 (.t 67)))⟩,
    ⟨(some 11), none, (.op (.mv (.t 68)))⟩])
   (.live [11, 8] (.seq (.seq (.region [⟨(some 69), none, (.op (.mv (.t 8)))⟩])
   (.live [11, 69] (.cond (.t 69) (.region [⟨(some 70), none, (.op (.mv (.t 11)))⟩,
    ⟨(some 71), none, (.op (.un .neg (.t 70)))⟩,
    ⟨(some 11), none, (.op (.mv (.t 71)))⟩])
   (.skip))))
   (.live [11] (.seq (.region [⟨(some 72), none, (.op (.mv (.t 11)))⟩,
    ⟨(some 6), none, (.op (.mv (.t 72)))⟩,
    ⟨(some 7), none, (.op (.mv (.c .ni)))⟩])
   (.ret))))))))))))))))))))))))))),
  []⟩


/- strconv.syntaxError -/

def c57 : IFunc := ⟨2, [.tmp 4],
  .seq (.region [⟨(some 4), none, (.op (.mv (.c .pn)))⟩])
   (.live [4] (.seq (.bad)
   (.ret))),
  []⟩


/- strconv.rangeError -/

def c58 : IFunc := ⟨2, [.tmp 4],
  .seq (.region [⟨(some 4), none, (.op (.mv (.c .pn)))⟩])
   (.live [4] (.seq (.bad)
   (.ret))),
  []⟩


/- strconv.baseError -/

def c59 : IFunc := ⟨3, [.tmp 6],
  .seq (.region [⟨(some 6), none, (.op (.mv (.c .pn)))⟩])
   (.live [2, 1, 0] (.seq (.region [⟨(some 7), none, (.op (.mv (.t 0)))⟩,
    ⟨(some 8), none, (.op (.mv (.t 1)))⟩,
    ⟨(some 9), none, (.call 70 [(.t 8)])⟩,
    ⟨(some 10), none, (.op (.mv (.t 2)))⟩,
    ⟨(some 11), none, (.call 37 [(.t 10)])⟩,
    ⟨(some 12), none, (.op (.bin .str true .add (.c (.s [105, 110, 118, 97, 108, 105, 100, 32, 98, 97, 115, 101, 32])) (.t 11)))⟩,
    ⟨(some 13), none, (.call 71 [(.t 12)])⟩,
    ⟨(some 14), none, (.op (.build [(.s []), (.s []), .ni] [(0, 1, (.t 7)), (1, 1, (.t 9)), (2, 1, (.t 13))]))⟩,
    ⟨(some 15), none, (.op (.box (.t 14)))⟩,
    ⟨(some 6), none, (.op (.mv (.t 15)))⟩])
   (.ret))),
  []⟩


/- strconv.bitSizeError -/

def c60 : IFunc := ⟨3, [.tmp 6],
  .seq (.region [⟨(some 6), none, (.op (.mv (.c .pn)))⟩])
   (.live [2, 1, 0] (.seq (.region [⟨(some 7), none, (.op (.mv (.t 0)))⟩,
    ⟨(some 8), none, (.op (.mv (.t 1)))⟩,
    ⟨(some 9), none, (.call 70 [(.t 8)])⟩,
    ⟨(some 10), none, (.op (.mv (.t 2)))⟩,
    ⟨(some 11), none, (.call 37 [(.t 10)])⟩,
    ⟨(some 12), none, (.op (.bin .str true .add (.c (.s [105, 110, 118, 97, 108, 105, 100, 32, 98, 105, 116, 32, 115, 105, 122, 101, 32])) (.t 11)))⟩,
    ⟨(some 13), none, (.call 71 [(.t 12)])⟩,
    ⟨(some 14), none, (.op (.build [(.s []), (.s []), .ni] [(0, 1, (.t 7)), (1, 1, (.t 9)), (2, 1, (.t 13))]))⟩,
    ⟨(some 15), none, (.op (.box (.t 14)))⟩,
    ⟨(some 6), none, (.op (.mv (.t 15)))⟩])
   (.ret))),
  []⟩


/- internal/strconv.small -/

def c61 : IFunc := ⟨1, [.tmp 2],
  .seq (.region [⟨(some 2), none, (.op (.mv (.c (.s []))))⟩])
   (.live [0] (.seq (.seq (.region [⟨(some 3), none, (.op (.mv (.t 0)))⟩,
    ⟨(some 4), none, (.op (.bin .int true .lss (.t 3) (.c (.i .i64 10))))⟩])
   (.live [0, 4] (.cond (.t 4) (.seq (.region [⟨(some 5), none, (.op (.mv (.t 0)))⟩,
    ⟨(some 6), none, (.op (.mv (.t 0)))⟩,
    ⟨(some 7), none, (.op (.bin .int true .add (.t 6) (.c (.i .i64 1))))⟩,
    ⟨(some 8), none, (.op (.sls (.c (.s [48, 49, 50, 51, 52, 53, 54, 55, 56, 57, 97, 98, 99, 100, 101, 102, 103, 104, 105, 106, 107, 108, 109, 110, 111, 112, 113, 114, 115, 116, 117, 118, 119, 120, 121, 122])) (some (.t 5)) (some (.t 7))))⟩,
    ⟨(some 2), none, (.op (.mv (.t 8)))⟩])
   (.ret))
   (.skip))))
   (.live [0] (.seq (.region [⟨(some 9), none, (.op (.mv (.t 0)))⟩,
    ⟨(some 10), none, (.op (.bin .int true .mul (.t 9) (.c (.i .i64 2))))⟩,
    ⟨(some 11), none, (.op (.mv (.t 0)))⟩,
    ⟨(some 12), none, (.op (.bin .int true .mul (.t 11) (.c (.i .i64 2))))⟩,
    ⟨(some 13), none, (.op (.bin .int true .add (.t 12) (.c (.i .i64 2))))⟩,
    ⟨(some 14), none, (.op (.sls (.c (.s [48, 48, 48, 49, 48, 50, 48, 51, 48, 52, 48, 53, 48, 54, 48, 55, 48, 56, 48, 57, 49, 48, 49, 49, 49, 50, 49, 51, 49, 52, 49, 53, 49, 54, 49, 55, 49, 56, 49, 57, 50, 48, 50, 49, 50, 50, 50, 51, 50, 52, 50, 53, 50, 54, 50, 55, 50, 56, 50, 57, 51, 48, 51, 49, 51, 50, 51, 51, 51, 52, 51, 53, 51, 54, 51, 55, 51, 56, 51, 57, 52, 48, 52, 49, 52, 50, 52, 51, 52, 52, 52, 53, 52, 54, 52, 55, 52, 56, 52, 57, 53, 48, 53, 49, 53, 50, 53, 51, 53, 52, 53, 53, 53, 54, 53, 55, 53, 56, 53, 57, 54, 48, 54, 49, 54, 50, 54, 51, 54, 52, 54, 53, 54, 54, 54, 55, 54, 56, 54, 57, 55, 48, 55, 49, 55, 50, 55, 51, 55, 52, 55, 53, 55, 54, 55, 55, 55, 56, 55, 57, 56, 48, 56, 49, 56, 50, 56, 51, 56, 52, 56, 53, 56, 54, 56, 55, 56, 56, 56, 57, 57, 48, 57, 49, 57, 50, 57, 51, 57, 52, 57, 53, 57, 54, 57, 55, 57, 56, 57, 57])) (some (.t 10)) (some (.t 13))))⟩,
    ⟨(some 2), none, (.op (.mv (.t 14)))⟩])
   (.ret))))),
  []⟩


/- internal/strconv.numDigits -/

def c62 : IFunc := ⟨1, [.tmp 2],
  .seq (.region [⟨(some 2), none, (.op (.mv (.c (.i .i64 0))))⟩])
   (.live [0] (.seq (.region [⟨(some 4), none, (.op (.mv (.t 0)))⟩,
    ⟨(some 5), none, (.call 73 [(.t 4)])⟩,
    ⟨(some 6), none, (.call 72 [(.t 5)])⟩,
    ⟨(some 3), none, (.op (.mv (.t 6)))⟩])
   (.live [3, 0] (.seq (.region [⟨(some 7), none, (.op (.mv (.t 3)))⟩,
    ⟨(some 8), none, (.op (.mv (.t 0)))⟩,
    ⟨(some 9), none, (.op (.mv (.t 3)))⟩,
    ⟨(some 10), none, (.op (.bad))⟩,
    ⟨(some 11), none, (.op (.load none (.t 10)))⟩,
    ⟨(some 12), none, (.op (.bin .int false .geq (.t 8) (.t 11)))⟩,
    ⟨(some 13), none, (.call 74 [(.t 12)])⟩,
    ⟨(some 14), none, (.op (.bin .int false .add (.t 7) (.t 13)))⟩,
    ⟨(some 2), none, (.op (.mv (.t 14)))⟩])
   (.ret))))),
  []⟩


/- internal/strconv.formatBits -/
def c64l0 : ICode :=
  .seq (.seq (.region [⟨(some 44), none, (.op (.mv (.t 1)))⟩,
    ⟨(some 45), none, (.op (.mv (.t 15)))⟩,
    ⟨(some 46), none, (.op (.bin .int false .geq (.t 44) (.t 45)))⟩])
   (.live [14, 12, 16, 11, 0, 10, 4, 3, 15, 1, 13, 46] (.cond (.t 46) (.skip)
   (.exit 0))))
   (.live [14, 12, 16, 11, 0, 10, 4, 3, 15, 1, 13] (.block 1 (.seq (.region [⟨(some 47), none, (.op (.mv (.t 13)))⟩,
    ⟨(some 48), none, (.op (.bin .int true .sub (.t 47) (.c (.i .i64 1))))⟩,
    ⟨(some 13), none, (.op (.mv (.t 48)))⟩])
   (.live [14, 12, 16, 11, 0, 10, 4, 3, 15, 13, 1] (.seq (.region [⟨(some 49), none, (.op (.mv (.t 13)))⟩,
    ⟨(some 50), none, (.op (.mv (.t 1)))⟩,
    ⟨(some 51), none, (.op (.mv (.t 16)))⟩,
    ⟨(some 52), none, (.op (.bin .int false .and (.t 50) (.t 51)))⟩,
    ⟨(some 53), none, (.op (.ixs (.c (.s [48, 49, 50, 51, 52, 53, 54, 55, 56, 57, 97, 98, 99, 100, 101, 102, 103, 104, 105, 106, 107, 108, 109, 110, 111, 112, 113, 114, 115, 116, 117, 118, 119, 120, 121, 122])) (.t 52)))⟩,
    ⟨(some 54), none, (.op (.iaddr (some 65) 1 (.t 12) (.t 49)))⟩,
    ⟨none, none, (.op (.store 1 (.t 54) (.t 53)))⟩])
   (.live [14, 12, 16, 11, 0, 10, 4, 3, 15, 13, 1] (.region [⟨(some 55), none, (.op (.mv (.t 1)))⟩,
    ⟨(some 56), none, (.op (.mv (.t 14)))⟩,
    ⟨(some 57), none, (.op (.bin .int false .shr (.t 55) (.t 56)))⟩,
    ⟨(some 1), none, (.op (.mv (.t 57)))⟩])))))))
def c64l1 : ICode :=
  .seq (.seq (.region [⟨(some 66), none, (.op (.mv (.t 1)))⟩,
    ⟨(some 67), none, (.op (.mv (.t 17)))⟩,
    ⟨(some 68), none, (.op (.bin .int false .geq (.t 66) (.t 67)))⟩])
   (.live [12, 17, 11, 0, 10, 4, 3, 1, 13, 68] (.cond (.t 68) (.skip)
   (.exit 2))))
   (.live [12, 17, 11, 0, 10, 4, 3, 1, 13] (.block 3 (.seq (.region [⟨(some 69), none, (.op (.mv (.t 13)))⟩,
    ⟨(some 70), none, (.op (.bin .int true .sub (.t 69) (.c (.i .i64 1))))⟩,
    ⟨(some 13), none, (.op (.mv (.t 70)))⟩])
   (.live [12, 17, 11, 0, 10, 4, 3, 13, 1] (.seq (.region [⟨(some 71), none, (.op (.mv (.t 1)))⟩,
    ⟨(some 72), none, (.op (.mv (.t 17)))⟩,
    ⟨(some 73), none, (.op (.bin .int false .quo (.t 71) (.t 72)))⟩,
    ⟨(some 18), none, (.op (.mv (.t 73)))⟩])
   (.live [12, 17, 11, 0, 10, 4, 3, 13, 18, 1] (.seq (.region [⟨(some 74), none, (.op (.mv (.t 13)))⟩,
    ⟨(some 75), none, (.op (.mv (.t 1)))⟩,
    ⟨(some 76), none, (.op (.mv (.t 18)))⟩,
    ⟨(some 77), none, (.op (.mv (.t 17)))⟩,
    ⟨(some 78), none, (.op (.bin .int false .mul (.t 76) (.t 77)))⟩,
    ⟨(some 79), none, (.op (.bin .int false .sub (.t 75) (.t 78)))⟩,
    ⟨(some 80), none, (.op (.ixs (.c (.s [48, 49, 50, 51, 52, 53, 54, 55, 56, 57, 97, 98, 99, 100, 101, 102, 103, 104, 105, 106, 107, 108, 109, 110, 111, 112, 113, 114, 115, 116, 117, 118, 119, 120, 121, 122])) (.t 79)))⟩,
    ⟨(some 81), none, (.op (.iaddr (some 65) 1 (.t 12) (.t 74)))⟩,
    ⟨none, none, (.op (.store 1 (.t 81) (.t 80)))⟩])
   (.live [12, 17, 11, 0, 10, 4, 3, 13, 18] (.region [⟨(some 82), none, (.op (.mv (.t 18)))⟩,
    ⟨(some 1), none, (.op (.mv (.t 82)))⟩])))))))))
def c64 : IFunc := ⟨5, [.tmp 10, .tmp 11],
  .seq (.region [⟨(some 10), none, (.op (.mv (.c .sn)))⟩,
    ⟨(some 11), none, (.op (.mv (.c (.s []))))⟩])
   (.live [11, 0, 10, 4, 3, 2, 1] (.seq (.seq (.region [⟨(some 19), none, (.op (.mv (.t 2)))⟩,
    ⟨(some 20), none, (.op (.bin .int true .lss (.t 19) (.c (.i .i64 2))))⟩,
    ⟨(some 21), none, (.op (.mv (.t 20)))⟩,
    ⟨(some 22), some (21, false), (.op (.mv (.t 2)))⟩,
    ⟨(some 23), some (21, false), (.op (.bin .int true .eql (.t 22) (.c (.i .i64 10))))⟩,
    ⟨(some 24), none, (.op (.pick (.t 21) (.c (.b true)) (.t 23)))⟩,
    ⟨(some 25), none, (.op (.mv (.t 24)))⟩,
    ⟨(some 26), some (25, false), (.op (.mv (.t 2)))⟩,
    ⟨(some 27), some (25, false), (.op (.bin .int true .gtr (.t 26) (.c (.i .i64 36))))⟩,
    ⟨(some 28), none, (.op (.pick (.t 25) (.c (.b true)) (.t 27)))⟩])
   (.live [11, 0, 10, 4, 3, 2, 1, 28] (.cond (.t 28) (.region [⟨(some 29), none, (.op (.bad))⟩,
    ⟨none, none, (.op (.bad))⟩])
   (.skip))))
   (.live [11, 0, 10, 4, 3, 2, 1] (.seq (.region [⟨(some 12), none, (.op (.fresh [(.i .u8 0), (.i .u8 0), (.i .u8 0), (.i .u8 0), (.i .u8 0), (.i .u8 0), (.i .u8 0), (.i .u8 0), (.i .u8 0), (.i .u8 0), (.i .u8 0), (.i .u8 0), (.i .u8 0), (.i .u8 0), (.i .u8 0), (.i .u8 0), (.i .u8 0), (.i .u8 0), (.i .u8 0), (.i .u8 0), (.i .u8 0), (.i .u8 0), (.i .u8 0), (.i .u8 0), (.i .u8 0), (.i .u8 0), (.i .u8 0), (.i .u8 0), (.i .u8 0), (.i .u8 0), (.i .u8 0), (.i .u8 0), (.i .u8 0), (.i .u8 0), (.i .u8 0), (.i .u8 0), (.i .u8 0), (.i .u8 0), (.i .u8 0), (.i .u8 0), (.i .u8 0), (.i .u8 0), (.i .u8 0), (.i .u8 0), (.i .u8 0), (.i .u8 0), (.i .u8 0), (.i .u8 0), (.i .u8 0), (.i .u8 0), (.i .u8 0), (.i .u8 0), (.i .u8 0), (.i .u8 0), (.i .u8 0), (.i .u8 0), (.i .u8 0), (.i .u8 0), (.i .u8 0), (.i .u8 0), (.i .u8 0), (.i .u8 0), (.i .u8 0), (.i .u8 0), (.i .u8 0)]))⟩])
   (.live [12, 11, 0, 10, 4, 3, 2, 1] (.seq (.region [⟨(some 13), none, (.op (.mv (.c (.i .i64 65))))⟩])
   (.live [12, 11, 0, 10, 4, 3, 13, 2, 1] (.seq (.seq (.region [⟨(some 30), none, (.op (.mv (.t 3)))⟩])
   (.live [12, 11, 0, 10, 4, 3, 13, 2, 1, 30] (.cond (.t 30) (.region [⟨(some 31), none, (.op (.mv (.t 1)))⟩,
    ⟨(some 32), none, (.op (.un .neg (.t 31)))⟩,
    ⟨(some 1), none, (.op (.mv (.t 32)))⟩])
   (.skip))))
   (.live [12, 11, 0, 10, 4, 3, 1, 13, 2] (.seq (.seq (.region [⟨(some 33), none, (.op (.mv (.t 2)))⟩,
    ⟨(some 34), none, (.call 75 [(.t 33)])⟩])
   (.live [12, 11, 0, 10, 4, 3, 1, 13, 2, 34] (.cond (.t 34) (.seq (.region [⟨(some 35), none, (.op (.mv (.t 2)))⟩,
    ⟨(some 36), none, (.op (.toInt .u64 (.t 35)))⟩,
    ⟨(some 37), none, (.call 76 [(.t 36)])⟩,
    ⟨(some 38), none, (.op (.toInt .u64 (.t 37)))⟩,
    ⟨(some 14), none, (.op (.mv (.t 38)))⟩])
   (.live [14, 12, 11, 0, 10, 4, 3, 1, 13, 2] (.seq (.region [⟨(some 39), none, (.op (.mv (.t 2)))⟩,
    ⟨(some 40), none, (.op (.toInt .u64 (.t 39)))⟩,
    ⟨(some 15), none, (.op (.mv (.t 40)))⟩])
   (.live [14, 12, 11, 0, 10, 4, 3, 15, 1, 13, 2] (.seq (.region [⟨(some 41), none, (.op (.mv (.t 2)))⟩,
    ⟨(some 42), none, (.op (.toInt .u64 (.t 41)))⟩,
    ⟨(some 43), none, (.op (.bin .int true .sub (.t 42) (.c (.i .u64 1))))⟩,
    ⟨(some 16), none, (.op (.mv (.t 43)))⟩])
   (.live [14, 12, 16, 11, 0, 10, 4, 3, 15, 1, 13] (.seq (.block 0 (.loop [14, 12, 16, 11, 0, 10, 4, 3, 15, 1, 13] c64l0))
   (.live [11, 12, 0, 10, 4, 3, 1, 13] (.seq (.region [⟨(some 58), none, (.op (.mv (.t 13)))⟩,
    ⟨(some 59), none, (.op (.bin .int true .sub (.t 58) (.c (.i .i64 1))))⟩,
    ⟨(some 13), none, (.op (.mv (.t 59)))⟩])
   (.live [11, 12, 0, 10, 4, 13, 3, 1] (.region [⟨(some 60), none, (.op (.mv (.t 13)))⟩,
    ⟨(some 61), none, (.op (.mv (.t 1)))⟩,
    ⟨(some 62), none, (.op (.ixs (.c (.s [48, 49, 50, 51, 52, 53, 54, 55, 56, 57, 97, 98, 99, 100, 101, 102, 103, 104, 105, 106, 107, 108, 109, 110, 111, 112, 113, 114, 115, 116, 117, 118, 119, 120, 121, 122])) (.t 61)))⟩,
    ⟨(some 63), none, (.op (.iaddr (some 65) 1 (.t 12) (.t 60)))⟩,
    ⟨none, none, (.op (.store 1 (.t 63) (.t 62)))⟩])))))))))))
   (.seq (.region [⟨(some 64), none, (.op (.mv (.t 2)))⟩,
    ⟨(some 65), none, (.op (.toInt .u64 (.t 64)))⟩,
    ⟨(some 17), none, (.op (.mv (.t 65)))⟩])
   (.live [12, 17, 11, 0, 10, 4, 3, 1, 13] (.seq (.block 2 (.loop [12, 17, 11, 0, 10, 4, 3, 1, 13] c64l1))
   (.live [11, 12, 0, 10, 4, 3, 1, 13] (.seq (.region [⟨(some 83), none, (.op (.mv (.t 13)))⟩,
    ⟨(some 84), none, (.op (.bin .int true .sub (.t 83) (.c (.i .i64 1))))⟩,
    ⟨(some 13), none, (.op (.mv (.t 84)))⟩])
   (.live [11, 12, 0, 10, 4, 13, 3, 1] (.region [⟨(some 85), none, (.op (.mv (.t 13)))⟩,
    ⟨(some 86), none, (.op (.mv (.t 1)))⟩,
    ⟨(some 87), none, (.op (.ixs (.c (.s [48, 49, 50, 51, 52, 53, 54, 55, 56, 57, 97, 98, 99, 100, 101, 102, 103, 104, 105, 106, 107, 108, 109, 110, 111, 112, 113, 114, 115, 116, 117, 118, 119, 120, 121, 122])) (.t 86)))⟩,
    ⟨(some 88), none, (.op (.iaddr (some 65) 1 (.t 12) (.t 85)))⟩,
    ⟨none, none, (.op (.store 1 (.t 88) (.t 87)))⟩]))))))))))
   (.live [11, 12, 0, 10, 4, 13, 3] (.seq (.seq (.region [⟨(some 89), none, (.op (.mv (.t 3)))⟩])
   (.live [11, 12, 0, 10, 4, 13, 89] (.cond (.t 89) (.seq (.region [⟨(some 90), none, (.op (.mv (.t 13)))⟩,
    ⟨(some 91), none, (.op (.bin .int true .sub (.t 90) (.c (.i .i64 1))))⟩,
    ⟨(some 13), none, (.op (.mv (.t 91)))⟩])
   (.live [11, 12, 13, 0, 10, 4] (.region [⟨(some 92), none, (.op (.mv (.t 13)))⟩,
    ⟨(some 93), none, (.op (.iaddr (some 65) 1 (.t 12) (.t 92)))⟩,
    ⟨none, none, (.op (.store 1 (.t 93) (.c (.i .u8 45))))⟩])))
   (.skip))))
   (.live [11, 12, 13, 0, 10, 4] (.seq (.seq (.region [⟨(some 94), none, (.op (.mv (.t 4)))⟩])
   (.live [11, 12, 13, 0, 10, 94] (.cond (.t 94) (.seq (.region [⟨(some 95), none, (.op (.mv (.t 0)))⟩,
    ⟨(some 96), none, (.op (.mv (.t 13)))⟩,
    ⟨(some 97), none, (.op (.sla 65 1 (.t 12) (some (.t 96)) none none))⟩,
    ⟨(some 98), none, (.op (.app 1 1 (.t 95) (.t 97)))⟩,
    ⟨(some 10), none, (.op (.mv (.t 98)))⟩])
   (.ret))
   (.skip))))
   (.live [10, 12, 13] (.seq (.region [⟨(some 99), none, (.op (.mv (.t 13)))⟩,
    ⟨(some 100), none, (.op (.sla 65 1 (.t 12) (some (.t 99)) none none))⟩,
    ⟨(some 101), none, (.op (.toStr (.t 100)))⟩,
    ⟨(some 11), none, (.op (.mv (.t 101)))⟩])
   (.ret))))))))))))))))),
  []⟩


/- internal/bytealg.hashStr[string] -/
def c68l0 : ICode :=
  .seq (.seq (.region [⟨(some 9), none, (.op (.mv (.t 5)))⟩,
    ⟨(some 10), none, (.op (.mv (.t 0)))⟩,
    ⟨(some 11), none, (.op (.len .str (.t 10)))⟩,
    ⟨(some 12), none, (.op (.bin .int false .lss (.t 9) (.t 11)))⟩])
   (.live [0, 5, 4, 12] (.cond (.t 12) (.skip)
   (.exit 0))))
   (.live [0, 5, 4] (.seq (.block 1 (.region [⟨(some 15), none, (.op (.mv (.t 4)))⟩,
    ⟨(some 16), none, (.op (.bin .int true .mul (.t 15) (.c (.i .u32 16777619))))⟩,
    ⟨(some 17), none, (.op (.mv (.t 0)))⟩,
    ⟨(some 18), none, (.op (.mv (.t 5)))⟩,
    ⟨(some 19), none, (.op (.ixs (.t 17) (.t 18)))⟩,
    ⟨(some 20), none, (.op (.toInt .u32 (.t 19)))⟩,
    ⟨(some 21), none, (.op (.bin .int false .add (.t 16) (.t 20)))⟩,
    ⟨(some 4), none, (.op (.mv (.t 21)))⟩]))
   (.live [0, 4, 5] (.region [⟨(some 13), none, (.op (.mv (.t 5)))⟩,
    ⟨(some 14), none, (.op (.bin .int true .add (.t 13) (.c (.i .i64 1))))⟩,
    ⟨(some 5), none, (.op (.mv (.t 14)))⟩]))))
def c68l1 : ICode :=
  .seq (.seq (.region [⟨(some 24), none, (.op (.mv (.t 8)))⟩,
    ⟨(some 25), none, (.op (.bin .int true .gtr (.t 24) (.c (.i .i64 0))))⟩])
   (.live [4, 8, 7, 6, 25] (.cond (.t 25) (.skip)
   (.exit 2))))
   (.live [4, 8, 7, 6] (.seq (.block 3 (.seq (.seq (.region [⟨(some 28), none, (.op (.mv (.t 8)))⟩,
    ⟨(some 29), none, (.op (.bin .int true .and (.t 28) (.c (.i .i64 1))))⟩,
    ⟨(some 30), none, (.op (.bin .int true .neq (.t 29) (.c (.i .i64 0))))⟩])
   (.live [4, 8, 7, 6, 30] (.cond (.t 30) (.region [⟨(some 31), none, (.op (.mv (.t 6)))⟩,
    ⟨(some 32), none, (.op (.mv (.t 7)))⟩,
    ⟨(some 33), none, (.op (.bin .int false .mul (.t 31) (.t 32)))⟩,
    ⟨(some 6), none, (.op (.mv (.t 33)))⟩])
   (.skip))))
   (.live [4, 6, 8, 7] (.region [⟨(some 34), none, (.op (.mv (.t 7)))⟩,
    ⟨(some 35), none, (.op (.mv (.t 7)))⟩,
    ⟨(some 36), none, (.op (.bin .int false .mul (.t 34) (.t 35)))⟩,
    ⟨(some 7), none, (.op (.mv (.t 36)))⟩]))))
   (.live [4, 7, 6, 8] (.region [⟨(some 26), none, (.op (.mv (.t 8)))⟩,
    ⟨(some 27), none, (.op (.bin .int true .shr (.t 26) (.c (.i .u64 1))))⟩,
    ⟨(some 8), none, (.op (.mv (.t 27)))⟩]))))
def c68 : IFunc := ⟨1, [.tmp 2, .tmp 3],
  .seq (.region [⟨(some 2), none, (.op (.mv (.c (.i .u32 0))))⟩,
    ⟨(some 3), none, (.op (.mv (.c (.i .u32 0))))⟩])
   (.live [0] (.seq (.region [⟨(some 4), none, (.op (.mv (.c (.i .u32 0))))⟩])
   (.live [0, 4] (.seq (.seq (.region [⟨(some 5), none, (.op (.mv (.c (.i .i64 0))))⟩])
   (.live [0, 5, 4] (.block 0 (.loop [0, 5, 4] c68l0))))
   (.live [4, 0] (.seq (.region [⟨(some 6), none, (.op (.mv (.c (.i .u32 1))))⟩,
    ⟨(some 7), none, (.op (.mv (.c (.i .u32 16777619))))⟩])
   (.live [4, 7, 6, 0] (.seq (.seq (.region [⟨(some 22), none, (.op (.mv (.t 0)))⟩,
    ⟨(some 23), none, (.op (.len .str (.t 22)))⟩,
    ⟨(some 8), none, (.op (.mv (.t 23)))⟩])
   (.live [4, 8, 7, 6] (.block 2 (.loop [4, 8, 7, 6] c68l1))))
   (.live [6, 4] (.seq (.region [⟨(some 37), none, (.op (.mv (.t 4)))⟩,
    ⟨(some 38), none, (.op (.mv (.t 6)))⟩,
    ⟨(some 2), none, (.op (.mv (.t 37)))⟩,
    ⟨(some 3), none, (.op (.mv (.t 38)))⟩])
   (.ret))))))))))),
  []⟩


/- internal/strconv.ParseUint -/
def c69l0 : ICode :=
  .seq (.region [⟨(some 102), none, (.op (.bin .int false .lss (.t 101) (.t 100)))⟩])
   (.live [11, 1, 13, 10, 8, 99, 9, 100, 101, 12, 102] (.seq (.cond (.t 102) (.skip)
   (.exit 3))
   (.live [11, 1, 13, 10, 8, 99, 9, 100, 101, 12] (.seq (.block 4 (.seq (.region [⟨(some 103), none, (.op (.iaddr none 1 (.t 99) (.t 101)))⟩,
    ⟨(some 104), none, (.op (.load none (.t 103)))⟩,
    ⟨(some 15), none, (.op (.mv (.t 104)))⟩])
   (.live [11, 1, 13, 10, 8, 99, 9, 100, 101, 12, 15] (.seq (.region [⟨(some 16), none, (.op (.mv (.c (.i .u8 0))))⟩])
   (.live [11, 1, 13, 10, 8, 99, 9, 100, 101, 12, 15] (.seq (.block 5 (.seq (.region [⟨(some 107), none, (.op (.mv (.t 15)))⟩,
    ⟨(some 108), none, (.op (.bin .int true .eql (.t 107) (.c (.i .u8 95))))⟩,
    ⟨(some 109), none, (.op (.mv (.t 108)))⟩,
    ⟨(some 110), some (109, true), (.op (.mv (.t 8)))⟩,
    ⟨(some 111), none, (.op (.pick (.t 109) (.t 110) (.c (.b false))))⟩,
    ⟨(some 106), none, (.op (.mv (.t 111)))⟩])
   (.live [11, 1, 13, 10, 8, 99, 9, 100, 101, 12, 15, 106] (.cond (.t 106) (.seq (.region [⟨(some 12), none, (.op (.mv (.c (.b true))))⟩])
   (.exit 4))
   (.seq (.region [⟨(some 113), none, (.op (.mv (.t 15)))⟩,
    ⟨(some 114), none, (.op (.bin .int true .leq (.c (.i .u8 48)) (.t 113)))⟩,
    ⟨(some 115), none, (.op (.mv (.t 114)))⟩,
    ⟨(some 116), some (115, true), (.op (.mv (.t 15)))⟩,
    ⟨(some 117), some (115, true), (.op (.bin .int true .leq (.t 116) (.c (.i .u8 57))))⟩,
    ⟨(some 118), none, (.op (.pick (.t 115) (.t 117) (.c (.b false))))⟩,
    ⟨(some 112), none, (.op (.mv (.t 118)))⟩])
   (.live [11, 1, 10, 8, 99, 9, 100, 12, 101, 13, 15, 112] (.cond (.t 112) (.region [⟨(some 119), none, (.op (.mv (.t 15)))⟩,
    ⟨(some 120), none, (.op (.bin .int true .sub (.t 119) (.c (.i .u8 48))))⟩,
    ⟨(some 16), none, (.op (.mv (.t 120)))⟩])
   (.seq (.region [⟨(some 122), none, (.op (.mv (.t 15)))⟩,
    ⟨(some 123), none, (.call 77 [(.t 122)])⟩,
    ⟨(some 124), none, (.op (.bin .int true .leq (.c (.i .u8 97)) (.t 123)))⟩,
    ⟨(some 125), none, (.op (.mv (.t 124)))⟩,
    ⟨(some 126), some (125, true), (.op (.mv (.t 15)))⟩,
    ⟨(some 127), some (125, true), (.call 77 [(.t 126)])⟩,
    ⟨(some 128), some (125, true), (.op (.bin .int true .leq (.t 127) (.c (.i .u8 122))))⟩,
    ⟨(some 129), none, (.op (.pick (.t 125) (.t 128) (.c (.b false))))⟩,
    ⟨(some 121), none, (.op (.mv (.t 129)))⟩])
   (.live [11, 1, 10, 8, 99, 9, 100, 12, 101, 13, 15, 121] (.cond (.t 121) (.region [⟨(some 130), none, (.op (.mv (.t 15)))⟩,
    ⟨(some 131), none, (.call 77 [(.t 130)])⟩,
    ⟨(some 132), none, (.op (.bin .int true .sub (.t 131) (.c (.i .u8 97))))⟩,
    ⟨(some 133), none, (.op (.bin .int true .add (.t 132) (.c (.i .u8 10))))⟩,
    ⟨(some 16), none, (.op (.mv (.t 133)))⟩])
   (.seq (.region [⟨(some 105), none, (.op (.bad))⟩,
    ⟨(some 6), none, (.op (.mv (.c (.i .u64 0))))⟩,
    ⟨(some 7), none, (.op (.mv (.t 105)))⟩])
   (.ret))))))))))))
   (.live [11, 1, 10, 8, 99, 9, 100, 12, 101, 16, 13] (.seq (.seq (.region [⟨(some 134), none, (.op (.mv (.t 16)))⟩,
    ⟨(some 135), none, (.op (.mv (.t 1)))⟩,
    ⟨(some 136), none, (.op (.toInt .u8 (.t 135)))⟩,
    ⟨(some 137), none, (.op (.bin .int false .geq (.t 134) (.t 136)))⟩])
   (.live [11, 1, 10, 8, 99, 9, 100, 12, 101, 16, 13, 137] (.cond (.t 137) (.seq (.region [⟨(some 138), none, (.op (.bad))⟩,
    ⟨(some 6), none, (.op (.mv (.c (.i .u64 0))))⟩,
    ⟨(some 7), none, (.op (.mv (.t 138)))⟩])
   (.ret))
   (.skip))))
   (.live [11, 1, 10, 8, 99, 9, 100, 12, 101, 16, 13] (.seq (.seq (.region [⟨(some 139), none, (.op (.mv (.t 13)))⟩,
    ⟨(some 140), none, (.op (.mv (.t 10)))⟩,
    ⟨(some 141), none, (.op (.bin .int false .geq (.t 139) (.t 140)))⟩])
   (.live [11, 1, 10, 8, 99, 9, 100, 12, 101, 16, 13, 141] (.cond (.t 141) (.seq (.region [⟨(some 142), none, (.op (.mv (.t 11)))⟩,
    ⟨(some 143), none, (.op (.bad))⟩,
    ⟨(some 6), none, (.op (.mv (.t 142)))⟩,
    ⟨(some 7), none, (.op (.mv (.t 143)))⟩])
   (.ret))
   (.skip))))
   (.live [11, 1, 10, 8, 99, 9, 100, 12, 101, 16, 13] (.seq (.region [⟨(some 144), none, (.op (.mv (.t 13)))⟩,
    ⟨(some 145), none, (.op (.mv (.t 1)))⟩,
    ⟨(some 146), none, (.op (.toInt .u64 (.t 145)))⟩,
    ⟨(some 147), none, (.op (.bin .int false .mul (.t 144) (.t 146)))⟩,
    ⟨(some 13), none, (.op (.mv (.t 147)))⟩])
   (.live [11, 1, 10, 8, 99, 9, 100, 12, 101, 13, 16] (.seq (.region [⟨(some 148), none, (.op (.mv (.t 13)))⟩,
    ⟨(some 149), none, (.op (.mv (.t 16)))⟩,
    ⟨(some 150), none, (.op (.toInt .u64 (.t 149)))⟩,
    ⟨(some 151), none, (.op (.bin .int false .add (.t 148) (.t 150)))⟩,
    ⟨(some 17), none, (.op (.mv (.t 151)))⟩])
   (.live [11, 1, 10, 8, 99, 9, 100, 12, 101, 17, 13] (.seq (.seq (.region [⟨(some 152), none, (.op (.mv (.t 17)))⟩,
    ⟨(some 153), none, (.op (.mv (.t 13)))⟩,
    ⟨(some 154), none, (.op (.bin .int false .lss (.t 152) (.t 153)))⟩,
    ⟨(some 155), none, (.op (.mv (.t 154)))⟩,
    ⟨(some 156), some (155, false), (.op (.mv (.t 17)))⟩,
    ⟨(some 157), some (155, false), (.op (.mv (.t 11)))⟩,
    ⟨(some 158), some (155, false), (.op (.bin .int false .gtr (.t 156) (.t 157)))⟩,
    ⟨(some 159), none, (.op (.pick (.t 155) (.c (.b true)) (.t 158)))⟩])
   (.live [11, 1, 10, 8, 99, 9, 100, 12, 101, 17, 159] (.cond (.t 159) (.seq (.region [⟨(some 160), none, (.op (.mv (.t 11)))⟩,
    ⟨(some 161), none, (.op (.bad))⟩,
    ⟨(some 6), none, (.op (.mv (.t 160)))⟩,
    ⟨(some 7), none, (.op (.mv (.t 161)))⟩])
   (.ret))
   (.skip))))
   (.live [11, 1, 10, 8, 99, 9, 100, 12, 101, 17] (.region [⟨(some 162), none, (.op (.mv (.t 17)))⟩,
    ⟨(some 13), none, (.op (.mv (.t 162)))⟩]))))))))))))))))))
   (.live [11, 1, 13, 10, 8, 99, 9, 100, 12, 101] (.region [⟨(some 163), none, (.op (.bin .int true .add (.t 101) (.c (.i .i64 1))))⟩,
    ⟨(some 101), none, (.op (.mv (.t 163)))⟩]))))))
def c69 : IFunc := ⟨3, [.tmp 6, .tmp 7],
  .seq (.region [⟨(some 6), none, (.op (.mv (.c (.i .u64 0))))⟩,
    ⟨(some 7), none, (.op (.mv (.c .ni)))⟩])
   (.live [1, 0, 2] (.seq (.seq (.region [⟨(some 18), none, (.op (.mv (.t 0)))⟩,
    ⟨(some 19), none, (.op (.bin .str true .eql (.t 18) (.c (.s []))))⟩])
   (.live [1, 0, 2, 19] (.cond (.t 19) (.seq (.region [⟨(some 20), none, (.op (.bad))⟩,
    ⟨(some 6), none, (.op (.mv (.c (.i .u64 0))))⟩,
    ⟨(some 7), none, (.op (.mv (.t 20)))⟩])
   (.ret))
   (.skip))))
   (.live [1, 0, 2] (.seq (.region [⟨(some 21), none, (.op (.mv (.t 1)))⟩,
    ⟨(some 22), none, (.op (.bin .int true .eql (.t 21) (.c (.i .i64 0))))⟩,
    ⟨(some 8), none, (.op (.mv (.t 22)))⟩])
   (.live [1, 8, 0, 2] (.seq (.region [⟨(some 23), none, (.op (.mv (.t 0)))⟩,
    ⟨(some 9), none, (.op (.mv (.t 23)))⟩])
   (.live [1, 8, 9, 0, 2] (.seq (.block 0 (.seq (.region [⟨(some 26), none, (.op (.mv (.t 1)))⟩,
    ⟨(some 27), none, (.op (.bin .int true .leq (.c (.i .i64 2)) (.t 26)))⟩,
    ⟨(some 28), none, (.op (.mv (.t 27)))⟩,
    ⟨(some 29), some (28, true), (.op (.mv (.t 1)))⟩,
    ⟨(some 30), some (28, true), (.op (.bin .int true .leq (.t 29) (.c (.i .i64 36))))⟩,
    ⟨(some 31), none, (.op (.pick (.t 28) (.t 30) (.c (.b false))))⟩,
    ⟨(some 25), none, (.op (.mv (.t 31)))⟩])
   (.live [1, 8, 9, 0, 2, 25] (.cond (.t 25) (.skip)
   (.seq (.region [⟨(some 33), none, (.op (.mv (.t 1)))⟩,
    ⟨(some 34), none, (.op (.bin .int true .eql (.t 33) (.c (.i .i64 0))))⟩,
    ⟨(some 32), none, (.op (.mv (.t 34)))⟩])
   (.live [8, 9, 2, 0, 32] (.cond (.t 32) (.seq (.region [⟨(some 1), none, (.op (.mv (.c (.i .i64 10))))⟩])
   (.live [8, 9, 2, 0, 1] (.seq (.region [⟨(some 35), none, (.op (.mv (.t 0)))⟩,
    ⟨(some 36), none, (.op (.ixs (.t 35) (.c (.i .i64 0))))⟩,
    ⟨(some 37), none, (.op (.bin .int true .eql (.t 36) (.c (.i .u8 48))))⟩])
   (.live [8, 9, 2, 0, 1, 37] (.cond (.t 37) (.block 1 (.seq (.region [⟨(some 41), none, (.op (.mv (.t 0)))⟩,
    ⟨(some 42), none, (.op (.len .str (.t 41)))⟩,
    ⟨(some 43), none, (.op (.bin .int true .geq (.t 42) (.c (.i .i64 3))))⟩,
    ⟨(some 44), none, (.op (.mv (.t 43)))⟩,
    ⟨(some 45), some (44, true), (.op (.mv (.t 0)))⟩,
    ⟨(some 46), some (44, true), (.op (.ixs (.t 45) (.c (.i .i64 1))))⟩,
    ⟨(some 47), some (44, true), (.call 77 [(.t 46)])⟩,
    ⟨(some 48), some (44, true), (.op (.bin .int true .eql (.t 47) (.c (.i .u8 98))))⟩,
    ⟨(some 49), none, (.op (.pick (.t 44) (.t 48) (.c (.b false))))⟩,
    ⟨(some 40), none, (.op (.mv (.t 49)))⟩])
   (.live [8, 9, 2, 0, 40] (.cond (.t 40) (.seq (.region [⟨(some 1), none, (.op (.mv (.c (.i .i64 2))))⟩])
   (.live [1, 8, 9, 2, 0] (.region [⟨(some 50), none, (.op (.mv (.t 0)))⟩,
    ⟨(some 51), none, (.op (.sls (.t 50) (some (.c (.i .i64 2))) none))⟩,
    ⟨(some 0), none, (.op (.mv (.t 51)))⟩])))
   (.seq (.region [⟨(some 53), none, (.op (.mv (.t 0)))⟩,
    ⟨(some 54), none, (.op (.len .str (.t 53)))⟩,
    ⟨(some 55), none, (.op (.bin .int true .geq (.t 54) (.c (.i .i64 3))))⟩,
    ⟨(some 56), none, (.op (.mv (.t 55)))⟩,
    ⟨(some 57), some (56, true), (.op (.mv (.t 0)))⟩,
    ⟨(some 58), some (56, true), (.op (.ixs (.t 57) (.c (.i .i64 1))))⟩,
    ⟨(some 59), some (56, true), (.call 77 [(.t 58)])⟩,
    ⟨(some 60), some (56, true), (.op (.bin .int true .eql (.t 59) (.c (.i .u8 111))))⟩,
    ⟨(some 61), none, (.op (.pick (.t 56) (.t 60) (.c (.b false))))⟩,
    ⟨(some 52), none, (.op (.mv (.t 61)))⟩])
   (.live [8, 9, 2, 0, 52] (.cond (.t 52) (.seq (.region [⟨(some 1), none, (.op (.mv (.c (.i .i64 8))))⟩])
   (.live [1, 8, 9, 2, 0] (.region [⟨(some 62), none, (.op (.mv (.t 0)))⟩,
    ⟨(some 63), none, (.op (.sls (.t 62) (some (.c (.i .i64 2))) none))⟩,
    ⟨(some 0), none, (.op (.mv (.t 63)))⟩])))
   (.seq (.region [⟨(some 65), none, (.op (.mv (.t 0)))⟩,
    ⟨(some 66), none, (.op (.len .str (.t 65)))⟩,
    ⟨(some 67), none, (.op (.bin .int true .geq (.t 66) (.c (.i .i64 3))))⟩,
    ⟨(some 68), none, (.op (.mv (.t 67)))⟩,
    ⟨(some 69), some (68, true), (.op (.mv (.t 0)))⟩,
    ⟨(some 70), some (68, true), (.op (.ixs (.t 69) (.c (.i .i64 1))))⟩,
    ⟨(some 71), some (68, true), (.call 77 [(.t 70)])⟩,
    ⟨(some 72), some (68, true), (.op (.bin .int true .eql (.t 71) (.c (.i .u8 120))))⟩,
    ⟨(some 73), none, (.op (.pick (.t 68) (.t 72) (.c (.b false))))⟩,
    ⟨(some 64), none, (.op (.mv (.t 73)))⟩])
   (.live [8, 9, 2, 0, 64] (.cond (.t 64) (.seq (.region [⟨(some 1), none, (.op (.mv (.c (.i .i64 16))))⟩])
   (.live [1, 8, 9, 2, 0] (.region [⟨(some 74), none, (.op (.mv (.t 0)))⟩,
    ⟨(some 75), none, (.op (.sls (.t 74) (some (.c (.i .i64 2))) none))⟩,
    ⟨(some 0), none, (.op (.mv (.t 75)))⟩])))
   (.seq (.region [⟨(some 1), none, (.op (.mv (.c (.i .i64 8))))⟩])
   (.live [1, 8, 9, 2, 0] (.region [⟨(some 38), none, (.op (.mv (.t 0)))⟩,
    ⟨(some 39), none, (.op (.sls (.t 38) (some (.c (.i .i64 1))) none))⟩,
    ⟨(some 0), none, (.op (.mv (.t 39)))⟩])))))))))))))
   (.skip))))))
   (.seq (.region [⟨(some 24), none, (.op (.bad))⟩,
    ⟨(some 6), none, (.op (.mv (.c (.i .u64 0))))⟩,
    ⟨(some 7), none, (.op (.mv (.t 24)))⟩])
   (.ret)))))))))
   (.live [1, 8, 9, 0, 2] (.seq (.seq (.region [⟨(some 76), none, (.op (.mv (.t 2)))⟩,
    ⟨(some 77), none, (.op (.bin .int true .eql (.t 76) (.c (.i .i64 0))))⟩])
   (.live [1, 8, 9, 0, 2, 77] (.cond (.t 77) (.region [⟨(some 2), none, (.op (.mv (.c (.i .i64 64))))⟩])
   (.seq (.region [⟨(some 78), none, (.op (.mv (.t 2)))⟩,
    ⟨(some 79), none, (.op (.bin .int true .lss (.t 78) (.c (.i .i64 0))))⟩,
    ⟨(some 80), none, (.op (.mv (.t 79)))⟩,
    ⟨(some 81), some (80, false), (.op (.mv (.t 2)))⟩,
    ⟨(some 82), some (80, false), (.op (.bin .int true .gtr (.t 81) (.c (.i .i64 64))))⟩,
    ⟨(some 83), none, (.op (.pick (.t 80) (.c (.b true)) (.t 82)))⟩])
   (.live [1, 8, 9, 0, 2, 83] (.cond (.t 83) (.seq (.region [⟨(some 84), none, (.op (.bad))⟩,
    ⟨(some 6), none, (.op (.mv (.c (.i .u64 0))))⟩,
    ⟨(some 7), none, (.op (.mv (.t 84)))⟩])
   (.ret))
   (.skip)))))))
   (.live [1, 8, 9, 0, 2] (.seq (.region [⟨(some 10), none, (.op (.mv (.c (.i .u64 0))))⟩])
   (.live [1, 8, 9, 0, 2] (.seq (.seq (.region [⟨(some 85), none, (.op (.mv (.t 1)))⟩])
   (.live [1, 8, 9, 0, 2, 85] (.block 2 (.seq (.region [⟨(some 91), none, (.op (.bin .int true .eql (.t 85) (.c (.i .i64 10))))⟩,
    ⟨(some 90), none, (.op (.mv (.t 91)))⟩])
   (.live [1, 8, 9, 0, 2, 85, 90] (.cond (.t 90) (.region [⟨(some 10), none, (.op (.mv (.c (.i .u64 1844674407370955162))))⟩])
   (.seq (.region [⟨(some 93), none, (.op (.bin .int true .eql (.t 85) (.c (.i .i64 16))))⟩,
    ⟨(some 92), none, (.op (.mv (.t 93)))⟩])
   (.live [1, 8, 9, 0, 2, 92] (.cond (.t 92) (.region [⟨(some 10), none, (.op (.mv (.c (.i .u64 1152921504606846976))))⟩])
   (.region [⟨(some 86), none, (.op (.mv (.t 1)))⟩,
    ⟨(some 87), none, (.op (.toInt .u64 (.t 86)))⟩,
    ⟨(some 88), none, (.op (.bin .int true .quo (.c (.i .u64 18446744073709551615)) (.t 87)))⟩,
    ⟨(some 89), none, (.op (.bin .int true .add (.t 88) (.c (.i .u64 1))))⟩,
    ⟨(some 10), none, (.op (.mv (.t 89)))⟩]))))))))))
   (.live [1, 10, 8, 9, 0, 2] (.seq (.region [⟨(some 94), none, (.op (.mv (.t 2)))⟩,
    ⟨(some 95), none, (.op (.toInt .u64 (.t 94)))⟩,
    ⟨(some 96), none, (.op (.bin .int true .shl (.c (.i .u64 1)) (.t 95)))⟩,
    ⟨(some 97), none, (.op (.bin .int true .sub (.t 96) (.c (.i .u64 1))))⟩,
    ⟨(some 11), none, (.op (.mv (.t 97)))⟩])
   (.live [11, 1, 10, 8, 9, 0] (.seq (.region [⟨(some 12), none, (.op (.mv (.c (.b false))))⟩])
   (.live [11, 1, 10, 8, 9, 12, 0] (.seq (.region [⟨(some 13), none, (.op (.mv (.c (.i .u64 0))))⟩])
   (.live [11, 1, 13, 10, 8, 9, 12, 0] (.seq (.seq (.region [⟨(some 98), none, (.op (.mv (.t 0)))⟩,
    ⟨(some 99), none, (.op (.toBytes (.t 98)))⟩,
    ⟨(some 100), none, (.op (.len .slice (.t 99)))⟩,
    ⟨(some 101), none, (.op (.mv (.c (.i .i64 0))))⟩])
   (.live [11, 1, 13, 10, 8, 99, 9, 100, 101, 12] (.block 3 (.loop [11, 1, 13, 10, 8, 99, 9, 100, 101, 12] c69l0))))
   (.live [13, 9, 12] (.seq (.seq (.region [⟨(some 164), none, (.op (.mv (.t 12)))⟩,
    ⟨(some 165), none, (.op (.mv (.t 164)))⟩,
    ⟨(some 166), some (165, true), (.op (.mv (.t 9)))⟩,
    ⟨(some 167), some (165, true), (.call 78 [(.t 166)])⟩,
    ⟨(some 168), some (165, true), (.op (.un .not (.t 167)))⟩,
    ⟨(some 169), none, (.op (.pick (.t 165) (.t 168) (.c (.b false))))⟩])
   (.live [13, 169] (.cond (.t 169) (.seq (.region [⟨(some 170), none, (.op (.bad))⟩,
    ⟨(some 6), none, (.op (.mv (.c (.i .u64 0))))⟩,
    ⟨(some 7), none, (.op (.mv (.t 170)))⟩])
   (.ret))
   (.skip))))
   (.live [13] (.seq (.region [⟨(some 171), none, (.op (.mv (.t 13)))⟩,
    ⟨(some 6), none, (.op (.mv (.t 171)))⟩,
    ⟨(some 7), none, (.op (.mv (.c .ni)))⟩])
   (.ret))))))))))))))))))))))))))),
  []⟩


/- internal/stringslite.Clone -/

def c70 : IFunc := ⟨1, [.tmp 2],
  .seq (.region [⟨(some 2), none, (.op (.mv (.c (.s []))))⟩])
   (.live [0] (.seq (.seq (.region [⟨(some 4), none, (.op (.mv (.t 0)))⟩,
    ⟨(some 5), none, (.op (.len .str (.t 4)))⟩,
    ⟨(some 6), none, (.op (.bin .int true .eql (.t 5) (.c (.i .i64 0))))⟩])
   (.live [0, 6] (.cond (.t 6) (.seq (.region [⟨(some 2), none, (.op (.mv (.c (.s []))))⟩])
   (.ret))
   (.skip))))
   (.live [0] (.seq (.region [⟨(some 7), none, (.op (.mv (.t 0)))⟩,
    ⟨(some 8), none, (.op (.len .str (.t 7)))⟩,
    ⟨(some 9), none, (.op (.mks [(.i .u8 0)] 1 (.t 8) (.t 8)))⟩,
    ⟨(some 3), none, (.op (.mv (.t 9)))⟩])
   (.live [3, 0] (.seq (.region [⟨(some 10), none, (.op (.mv (.t 3)))⟩,
    ⟨(some 11), none, (.op (.mv (.t 0)))⟩,
    ⟨(some 12), none, (.op (.copy 1 (.t 10) (.t 11)))⟩])
   (.live [3] (.seq (.region [⟨(some 13), none, (.op (.mv (.t 3)))⟩,
    ⟨(some 14), none, (.op (.iaddr none 1 (.t 13) (.c (.i .i64 0))))⟩,
    ⟨(some 15), none, (.op (.mv (.t 3)))⟩,
    ⟨(some 16), none, (.op (.len .slice (.t 15)))⟩,
    ⟨(some 17), none, (.op (.bad))⟩,
    ⟨(some 2), none, (.op (.mv (.t 17)))⟩])
   (.ret))))))))),
  []⟩


/- errors.New -/

def c71 : IFunc := ⟨1, [.tmp 2],
  .seq (.region [⟨(some 2), none, (.op (.mv (.c .ni)))⟩])
   (.live [0] (.seq (.region [⟨(some 3), none, (.op (.mv (.t 0)))⟩,
    ⟨(some 4), none, (.op (.build [(.s [])] [(0, 1, (.t 3))]))⟩,
    ⟨(some 5), none, (.op (.box (.t 4)))⟩,
    ⟨(some 6), none, (.op (.bad))⟩,
    ⟨(some 2), none, (.op (.mv (.t 6)))⟩])
   (.ret))),
  []⟩


/- internal/strconv.log10Pow2 -/

def c72 : IFunc := ⟨1, [.tmp 2],
  .seq (.region [⟨(some 2), none, (.op (.mv (.c (.i .i64 0))))⟩])
   (.live [0] (.seq (.region [⟨(some 3), none, (.op (.mv (.t 0)))⟩,
    ⟨(some 4), none, (.op (.bin .int true .mul (.t 3) (.c (.i .i64 78913))))⟩,
    ⟨(some 5), none, (.op (.bin .int true .shr (.t 4) (.c (.i .u64 18))))⟩,
    ⟨(some 2), none, (.op (.mv (.t 5)))⟩])
   (.ret))),
  []⟩


/- math/bits.Len64 -/

def c73 : IFunc := ⟨1, [.tmp 2],
  .seq (.region [⟨(some 2), none, (.op (.mv (.c (.i .i64 0))))⟩])
   (.live [0, 2] (.seq (.seq (.region [⟨(some 3), none, (.op (.mv (.t 0)))⟩,
    ⟨(some 4), none, (.op (.bin .int true .geq (.t 3) (.c (.i .u64 4294967296))))⟩])
   (.live [0, 2, 4] (.cond (.t 4) (.seq (.region [⟨(some 5), none, (.op (.mv (.t 0)))⟩,
    ⟨(some 6), none, (.op (.bin .int true .shr (.t 5) (.c (.i .u64 32))))⟩,
    ⟨(some 0), none, (.op (.mv (.t 6)))⟩])
   (.region [⟨(some 2), none, (.op (.mv (.c (.i .i64 32))))⟩]))
   (.skip))))
   (.live [2, 0] (.seq (.seq (.region [⟨(some 7), none, (.op (.mv (.t 0)))⟩,
    ⟨(some 8), none, (.op (.bin .int true .geq (.t 7) (.c (.i .u64 65536))))⟩])
   (.live [2, 0, 8] (.cond (.t 8) (.seq (.region [⟨(some 9), none, (.op (.mv (.t 0)))⟩,
    ⟨(some 10), none, (.op (.bin .int true .shr (.t 9) (.c (.i .u64 16))))⟩,
    ⟨(some 0), none, (.op (.mv (.t 10)))⟩])
   (.live [0, 2] (.region [⟨(some 11), none, (.op (.mv (.t 2)))⟩,
    ⟨(some 12), none, (.op (.bin .int true .add (.t 11) (.c (.i .i64 16))))⟩,
    ⟨(some 2), none, (.op (.mv (.t 12)))⟩])))
   (.skip))))
   (.live [2, 0] (.seq (.seq (.region [⟨(some 13), none, (.op (.mv (.t 0)))⟩,
    ⟨(some 14), none, (.op (.bin .int true .geq (.t 13) (.c (.i .u64 256))))⟩])
   (.live [2, 0, 14] (.cond (.t 14) (.seq (.region [⟨(some 15), none, (.op (.mv (.t 0)))⟩,
    ⟨(some 16), none, (.op (.bin .int true .shr (.t 15) (.c (.i .u64 8))))⟩,
    ⟨(some 0), none, (.op (.mv (.t 16)))⟩])
   (.live [0, 2] (.region [⟨(some 17), none, (.op (.mv (.t 2)))⟩,
    ⟨(some 18), none, (.op (.bin .int true .add (.t 17) (.c (.i .i64 8))))⟩,
    ⟨(some 2), none, (.op (.mv (.t 18)))⟩])))
   (.skip))))
   (.live [0, 2] (.seq (.region [⟨(some 19), none, (.op (.mv (.t 2)))⟩,
    ⟨(some 20), none, (.op (.mv (.t 0)))⟩,
    ⟨(some 21), none, (.op (.toInt .u8 (.t 20)))⟩,
    ⟨(some 22), none, (.op (.ixs (.c (.s [0, 1, 2, 2, 3, 3, 3, 3, 4, 4, 4, 4, 4, 4, 4, 4, 5, 5, 5, 5, 5, 5, 5, 5, 5, 5, 5, 5, 5, 5, 5, 5, 6, 6, 6, 6, 6, 6, 6, 6, 6, 6, 6, 6, 6, 6, 6, 6, 6, 6, 6, 6, 6, 6, 6, 6, 6, 6, 6, 6, 6, 6, 6, 6, 7, 7, 7, 7, 7, 7, 7, 7, 7, 7, 7, 7, 7, 7, 7, 7, 7, 7, 7, 7, 7, 7, 7, 7, 7, 7, 7, 7, 7, 7, 7, 7, 7, 7, 7, 7, 7, 7, 7, 7, 7, 7, 7, 7, 7, 7, 7, 7, 7, 7, 7, 7, 7, 7, 7, 7, 7, 7, 7, 7, 7, 7, 7, 7, 8, 8, 8, 8, 8, 8, 8, 8, 8, 8, 8, 8, 8, 8, 8, 8, 8, 8, 8, 8, 8, 8, 8, 8, 8, 8, 8, 8, 8, 8, 8, 8, 8, 8, 8, 8, 8, 8, 8, 8, 8, 8, 8, 8, 8, 8, 8, 8, 8, 8, 8, 8, 8, 8, 8, 8, 8, 8, 8, 8, 8, 8, 8, 8, 8, 8, 8, 8, 8, 8, 8, 8, 8, 8, 8, 8, 8, 8, 8, 8, 8, 8, 8, 8, 8, 8, 8, 8, 8, 8, 8, 8, 8, 8, 8, 8, 8, 8, 8, 8, 8, 8, 8, 8, 8, 8, 8, 8, 8, 8, 8, 8, 8, 8, 8, 8, 8, 8, 8, 8, 8, 8, 8, 8, 8, 8, 8, 8])) (.t 21)))⟩,
    ⟨(some 23), none, (.op (.toInt .i64 (.t 22)))⟩,
    ⟨(some 24), none, (.op (.bin .int false .add (.t 19) (.t 23)))⟩,
    ⟨(some 2), none, (.op (.mv (.t 24)))⟩])
   (.ret))))))))),
  []⟩


/- internal/strconv.bool2[int] -/

def c74 : IFunc := ⟨1, [.tmp 2],
  .seq (.region [⟨(some 2), none, (.op (.mv (.c (.i .i64 0))))⟩])
   (.live [0] (.seq (.seq (.region [⟨(some 3), none, (.op (.mv (.t 0)))⟩])
   (.live [3] (.cond (.t 3) (.seq (.region [⟨(some 2), none, (.op (.mv (.c (.i .i64 1))))⟩])
   (.ret))
   (.skip))))
   (.live [] (.seq (.region [⟨(some 2), none, (.op (.mv (.c (.i .i64 0))))⟩])
   (.ret))))),
  []⟩


/- internal/strconv.isPowerOfTwo -/

def c75 : IFunc := ⟨1, [.tmp 2],
  .seq (.region [⟨(some 2), none, (.op (.mv (.c (.b false))))⟩])
   (.live [0] (.seq (.region [⟨(some 3), none, (.op (.mv (.t 0)))⟩,
    ⟨(some 4), none, (.op (.mv (.t 0)))⟩,
    ⟨(some 5), none, (.op (.bin .int true .sub (.t 4) (.c (.i .i64 1))))⟩,
    ⟨(some 6), none, (.op (.bin .int false .and (.t 3) (.t 5)))⟩,
    ⟨(some 7), none, (.op (.bin .int true .eql (.t 6) (.c (.i .i64 0))))⟩,
    ⟨(some 2), none, (.op (.mv (.t 7)))⟩])
   (.ret))),
  []⟩


/- math/bits.TrailingZeros -/

def c76 : IFunc := ⟨1, [.tmp 2],
  .seq (.region [⟨(some 2), none, (.op (.mv (.c (.i .i64 0))))⟩])
   (.live [0] (.seq (.cond (.c (.b false)) (.seq (.region [⟨(some 3), none, (.op (.mv (.t 0)))⟩,
    ⟨(some 4), none, (.op (.toInt .u32 (.t 3)))⟩,
    ⟨(some 5), none, (.call 79 [(.t 4)])⟩,
    ⟨(some 2), none, (.op (.mv (.t 5)))⟩])
   (.ret))
   (.skip))
   (.live [0] (.seq (.region [⟨(some 6), none, (.op (.mv (.t 0)))⟩,
    ⟨(some 7), none, (.call 80 [(.t 6)])⟩,
    ⟨(some 2), none, (.op (.mv (.t 7)))⟩])
   (.ret))))),
  []⟩


/- internal/strconv.lower -/

def c77 : IFunc := ⟨1, [.tmp 2],
  .seq (.region [⟨(some 2), none, (.op (.mv (.c (.i .u8 0))))⟩])
   (.live [0] (.seq (.region [⟨(some 3), none, (.op (.mv (.t 0)))⟩,
    ⟨(some 4), none, (.op (.bin .int true .or (.t 3) (.c (.i .u8 32))))⟩,
    ⟨(some 2), none, (.op (.mv (.t 4)))⟩])
   (.ret))),
  []⟩


/- internal/strconv.underscoreOK -/
def c78l0 : ICode :=
  .seq (.seq (.region [⟨(some 51), none, (.op (.mv (.t 4)))⟩,
    ⟨(some 52), none, (.op (.mv (.t 0)))⟩,
    ⟨(some 53), none, (.op (.len .str (.t 52)))⟩,
    ⟨(some 54), none, (.op (.bin .int false .lss (.t 51) (.t 53)))⟩])
   (.live [0, 5, 4, 3, 54] (.cond (.t 54) (.skip)
   (.exit 0))))
   (.live [0, 5, 4, 3] (.seq (.block 1 (.seq (.seq (.region [⟨(some 57), none, (.op (.mv (.t 0)))⟩,
    ⟨(some 58), none, (.op (.mv (.t 4)))⟩,
    ⟨(some 59), none, (.op (.ixs (.t 57) (.t 58)))⟩,
    ⟨(some 60), none, (.op (.bin .int true .leq (.c (.i .u8 48)) (.t 59)))⟩,
    ⟨(some 61), none, (.op (.mv (.t 60)))⟩,
    ⟨(some 62), some (61, true), (.op (.mv (.t 0)))⟩,
    ⟨(some 63), some (61, true), (.op (.mv (.t 4)))⟩,
    ⟨(some 64), some (61, true), (.op (.ixs (.t 62) (.t 63)))⟩,
    ⟨(some 65), some (61, true), (.op (.bin .int true .leq (.t 64) (.c (.i .u8 57))))⟩,
    ⟨(some 66), none, (.op (.pick (.t 61) (.t 65) (.c (.b false))))⟩,
    ⟨(some 67), none, (.op (.mv (.t 66)))⟩,
    ⟨(some 68), some (67, false), (.op (.mv (.t 5)))⟩,
    ⟨(some 69), some (67, false), (.op (.mv (.t 68)))⟩,
    ⟨(some 70), some (69, true), (.op (.mv (.t 0)))⟩,
    ⟨(some 71), some (69, true), (.op (.mv (.t 4)))⟩,
    ⟨(some 72), some (69, true), (.op (.ixs (.t 70) (.t 71)))⟩,
    ⟨(some 73), some (69, true), (.call 77 [(.t 72)])⟩,
    ⟨(some 74), some (69, true), (.op (.bin .int true .leq (.c (.i .u8 97)) (.t 73)))⟩,
    ⟨(some 75), some (67, false), (.op (.pick (.t 69) (.t 74) (.c (.b false))))⟩,
    ⟨(some 76), some (67, false), (.op (.mv (.t 75)))⟩,
    ⟨(some 77), some (76, true), (.op (.mv (.t 0)))⟩,
    ⟨(some 78), some (76, true), (.op (.mv (.t 4)))⟩,
    ⟨(some 79), some (76, true), (.op (.ixs (.t 77) (.t 78)))⟩,
    ⟨(some 80), some (76, true), (.call 77 [(.t 79)])⟩,
    ⟨(some 81), some (76, true), (.op (.bin .int true .leq (.t 80) (.c (.i .u8 102))))⟩,
    ⟨(some 82), some (67, false), (.op (.pick (.t 76) (.t 81) (.c (.b false))))⟩,
    ⟨(some 83), none, (.op (.pick (.t 67) (.c (.b true)) (.t 82)))⟩])
   (.live [0, 5, 4, 3, 83] (.cond (.t 83) (.seq (.region [⟨(some 3), none, (.op (.mv (.c (.i .i32 48))))⟩])
   (.exit 1))
   (.skip))))
   (.live [0, 5, 4, 3] (.seq (.seq (.region [⟨(some 84), none, (.op (.mv (.t 0)))⟩,
    ⟨(some 85), none, (.op (.mv (.t 4)))⟩,
    ⟨(some 86), none, (.op (.ixs (.t 84) (.t 85)))⟩,
    ⟨(some 87), none, (.op (.bin .int true .eql (.t 86) (.c (.i .u8 95))))⟩])
   (.live [0, 5, 4, 3, 87] (.cond (.t 87) (.seq (.seq (.region [⟨(some 88), none, (.op (.mv (.t 3)))⟩,
    ⟨(some 89), none, (.op (.bin .int true .neq (.t 88) (.c (.i .i32 48))))⟩])
   (.live [0, 5, 4, 89] (.cond (.t 89) (.seq (.region [⟨(some 2), none, (.op (.mv (.c (.b false))))⟩])
   (.ret))
   (.skip))))
   (.live [0, 5, 4] (.seq (.region [⟨(some 3), none, (.op (.mv (.c (.i .i32 95))))⟩])
   (.exit 1))))
   (.skip))))
   (.live [0, 5, 4, 3] (.seq (.seq (.region [⟨(some 90), none, (.op (.mv (.t 3)))⟩,
    ⟨(some 91), none, (.op (.bin .int true .eql (.t 90) (.c (.i .i32 95))))⟩])
   (.live [0, 5, 4, 91] (.cond (.t 91) (.seq (.region [⟨(some 2), none, (.op (.mv (.c (.b false))))⟩])
   (.ret))
   (.skip))))
   (.region [⟨(some 3), none, (.op (.mv (.c (.i .i32 33))))⟩])))))))
   (.live [0, 5, 3, 4] (.region [⟨(some 55), none, (.op (.mv (.t 4)))⟩,
    ⟨(some 56), none, (.op (.bin .int true .add (.t 55) (.c (.i .i64 1))))⟩,
    ⟨(some 4), none, (.op (.mv (.t 56)))⟩]))))
def c78 : IFunc := ⟨1, [.tmp 2],
  .seq (.region [⟨(some 2), none, (.op (.mv (.c (.b false))))⟩])
   (.live [0] (.seq (.region [⟨(some 3), none, (.op (.mv (.c (.i .i32 94))))⟩])
   (.live [3, 0] (.seq (.region [⟨(some 4), none, (.op (.mv (.c (.i .i64 0))))⟩])
   (.live [4, 3, 0] (.seq (.seq (.region [⟨(some 6), none, (.op (.mv (.t 0)))⟩,
    ⟨(some 7), none, (.op (.len .str (.t 6)))⟩,
    ⟨(some 8), none, (.op (.bin .int true .geq (.t 7) (.c (.i .i64 1))))⟩,
    ⟨(some 9), none, (.op (.mv (.t 8)))⟩,
    ⟨(some 10), some (9, true), (.op (.mv (.t 0)))⟩,
    ⟨(some 11), some (9, true), (.op (.ixs (.t 10) (.c (.i .i64 0))))⟩,
    ⟨(some 12), some (9, true), (.op (.bin .int true .eql (.t 11) (.c (.i .u8 45))))⟩,
    ⟨(some 13), some (9, true), (.op (.mv (.t 12)))⟩,
    ⟨(some 14), some (13, false), (.op (.mv (.t 0)))⟩,
    ⟨(some 15), some (13, false), (.op (.ixs (.t 14) (.c (.i .i64 0))))⟩,
    ⟨(some 16), some (13, false), (.op (.bin .int true .eql (.t 15) (.c (.i .u8 43))))⟩,
    ⟨(some 17), some (9, true), (.op (.pick (.t 13) (.c (.b true)) (.t 16)))⟩,
    ⟨(some 18), none, (.op (.pick (.t 9) (.t 17) (.c (.b false))))⟩])
   (.live [4, 3, 0, 18] (.cond (.t 18) (.region [⟨(some 19), none, (.op (.mv (.t 0)))⟩,
    ⟨(some 20), none, (.op (.sls (.t 19) (some (.c (.i .i64 1))) none))⟩,
    ⟨(some 0), none, (.op (.mv (.t 20)))⟩])
   (.skip))))
   (.live [0, 4, 3] (.seq (.region [⟨(some 5), none, (.op (.mv (.c (.b false))))⟩])
   (.live [0, 5, 4, 3] (.seq (.seq (.region [⟨(some 21), none, (.op (.mv (.t 0)))⟩,
    ⟨(some 22), none, (.op (.len .str (.t 21)))⟩,
    ⟨(some 23), none, (.op (.bin .int true .geq (.t 22) (.c (.i .i64 2))))⟩,
    ⟨(some 24), none, (.op (.mv (.t 23)))⟩,
    ⟨(some 25), some (24, true), (.op (.mv (.t 0)))⟩,
    ⟨(some 26), some (24, true), (.op (.ixs (.t 25) (.c (.i .i64 0))))⟩,
    ⟨(some 27), some (24, true), (.op (.bin .int true .eql (.t 26) (.c (.i .u8 48))))⟩,
    ⟨(some 28), none, (.op (.pick (.t 24) (.t 27) (.c (.b false))))⟩,
    ⟨(some 29), none, (.op (.mv (.t 28)))⟩,
    ⟨(some 30), some (29, true), (.op (.mv (.t 0)))⟩,
    ⟨(some 31), some (29, true), (.op (.ixs (.t 30) (.c (.i .i64 1))))⟩,
    ⟨(some 32), some (29, true), (.call 77 [(.t 31)])⟩,
    ⟨(some 33), some (29, true), (.op (.bin .int true .eql (.t 32) (.c (.i .u8 98))))⟩,
    ⟨(some 34), some (29, true), (.op (.mv (.t 33)))⟩,
    ⟨(some 35), some (34, false), (.op (.mv (.t 0)))⟩,
    ⟨(some 36), some (34, false), (.op (.ixs (.t 35) (.c (.i .i64 1))))⟩,
    ⟨(some 37), some (34, false), (.call 77 [(.t 36)])⟩,
    ⟨(some 38), some (34, false), (.op (.bin .int true .eql (.t 37) (.c (.i .u8 111))))⟩,
    ⟨(some 39), some (29, true), (.op (.pick (.t 34) (.c (.b true)) (.t 38)))⟩,
    ⟨(some 40), some (29, true), (.op (.mv (.t 39)))⟩,
    ⟨(some 41), some (40, false), (.op (.mv (.t 0)))⟩,
    ⟨(some 42), some (40, false), (.op (.ixs (.t 41) (.c (.i .i64 1))))⟩,
    ⟨(some 43), some (40, false), (.call 77 [(.t 42)])⟩,
    ⟨(some 44), some (40, false), (.op (.bin .int true .eql (.t 43) (.c (.i .u8 120))))⟩,
    ⟨(some 45), some (29, true), (.op (.pick (.t 40) (.c (.b true)) (.t 44)))⟩,
    ⟨(some 46), none, (.op (.pick (.t 29) (.t 45) (.c (.b false))))⟩])
   (.live [0, 5, 4, 3, 46] (.cond (.t 46) (.seq (.region [⟨(some 4), none, (.op (.mv (.c (.i .i64 2))))⟩])
   (.live [0, 4] (.seq (.region [⟨(some 3), none, (.op (.mv (.c (.i .i32 48))))⟩])
   (.live [0, 4, 3] (.region [⟨(some 47), none, (.op (.mv (.t 0)))⟩,
    ⟨(some 48), none, (.op (.ixs (.t 47) (.c (.i .i64 1))))⟩,
    ⟨(some 49), none, (.call 77 [(.t 48)])⟩,
    ⟨(some 50), none, (.op (.bin .int true .eql (.t 49) (.c (.i .u8 120))))⟩,
    ⟨(some 5), none, (.op (.mv (.t 50)))⟩])))))
   (.skip))))
   (.live [0, 5, 4, 3] (.seq (.block 0 (.loop [0, 5, 4, 3] c78l0))
   (.live [3] (.seq (.region [⟨(some 92), none, (.op (.mv (.t 3)))⟩,
    ⟨(some 93), none, (.op (.bin .int true .neq (.t 92) (.c (.i .i32 95))))⟩,
    ⟨(some 2), none, (.op (.mv (.t 93)))⟩])
   (.ret))))))))))))))),
  []⟩


/- math/bits.TrailingZeros32 -/

def c79 : IFunc := ⟨1, [.tmp 2],
  .seq (.region [⟨(some 2), none, (.op (.mv (.c (.i .i64 0))))⟩])
   (.live [0] (.seq (.seq (.region [⟨(some 3), none, (.op (.mv (.t 0)))⟩,
    ⟨(some 4), none, (.op (.bin .int true .eql (.t 3) (.c (.i .u32 0))))⟩])
   (.live [0, 4] (.cond (.t 4) (.seq (.region [⟨(some 2), none, (.op (.mv (.c (.i .i64 32))))⟩])
   (.ret))
   (.skip))))
   (.live [0] (.seq (.region [⟨(some 5), none, (.op (.mv (.t 0)))⟩,
    ⟨(some 6), none, (.op (.mv (.t 0)))⟩,
    ⟨(some 7), none, (.op (.un .neg (.t 6)))⟩,
    ⟨(some 8), none, (.op (.bin .int false .and (.t 5) (.t 7)))⟩,
    ⟨(some 9), none, (.op (.bin .int true .mul (.t 8) (.c (.i .u32 125613361))))⟩,
    ⟨(some 10), none, (.op (.bin .int true .shr (.t 9) (.c (.i .u64 27))))⟩,
    ⟨(some 11), none, (.op (.bad))⟩,
    ⟨(some 12), none, (.op (.load none (.t 11)))⟩,
    ⟨(some 13), none, (.op (.toInt .i64 (.t 12)))⟩,
    ⟨(some 2), none, (.op (.mv (.t 13)))⟩])
   (.ret))))),
  []⟩


/- math/bits.TrailingZeros64 -/

def c80 : IFunc := ⟨1, [.tmp 2],
  .seq (.region [⟨(some 2), none, (.op (.mv (.c (.i .i64 0))))⟩])
   (.live [0] (.seq (.seq (.region [⟨(some 3), none, (.op (.mv (.t 0)))⟩,
    ⟨(some 4), none, (.op (.bin .int true .eql (.t 3) (.c (.i .u64 0))))⟩])
   (.live [0, 4] (.cond (.t 4) (.seq (.region [⟨(some 2), none, (.op (.mv (.c (.i .i64 64))))⟩])
   (.ret))
   (.skip))))
   (.live [0] (.seq (.region [⟨(some 5), none, (.op (.mv (.t 0)))⟩,
    ⟨(some 6), none, (.op (.mv (.t 0)))⟩,
    ⟨(some 7), none, (.op (.un .neg (.t 6)))⟩,
    ⟨(some 8), none, (.op (.bin .int false .and (.t 5) (.t 7)))⟩,
    ⟨(some 9), none, (.op (.bin .int true .mul (.t 8) (.c (.i .u64 285870213051353865))))⟩,
    ⟨(some 10), none, (.op (.bin .int true .shr (.t 9) (.c (.i .u64 58))))⟩,
    ⟨(some 11), none, (.op (.bad))⟩,
    ⟨(some 12), none, (.op (.load none (.t 11)))⟩,
    ⟨(some 13), none, (.op (.toInt .i64 (.t 12)))⟩,
    ⟨(some 2), none, (.op (.mv (.t 13)))⟩])
   (.ret))))),
  []⟩


set_option maxRecDepth 1000000
theorem f8 : compFunc Tryd.prog 8 = some (stripF c8) := by kernel_rfl
theorem f10 : compFunc Tryd.prog 10 = some (stripF c10) := by kernel_rfl
theorem f11 : compFunc Tryd.prog 11 = some (stripF c11) := by kernel_rfl
theorem f13 : compFunc Tryd.prog 13 = some (stripF c13) := by kernel_rfl
theorem f17 : compFunc Tryd.prog 17 = some (stripF c17) := by kernel_rfl
theorem f18 : compFunc Tryd.prog 18 = some (stripF c18) := by kernel_rfl
theorem f20 : compFunc Tryd.prog 20 = some (stripF c20) := by kernel_rfl
theorem f24 : compFunc Tryd.prog 24 = some (stripF c24) := by kernel_rfl
theorem f26 : compFunc Tryd.prog 26 = some (stripF c26) := by kernel_rfl
theorem f28 : compFunc Tryd.prog 28 = some (stripF c28) := by kernel_rfl
theorem f30 : compFunc Tryd.prog 30 = some (stripF c30) := by kernel_rfl
theorem f32 : compFunc Tryd.prog 32 = some (stripF c32) := by kernel_rfl
theorem f34 : compFunc Tryd.prog 34 = some (stripF c34) := by kernel_rfl
theorem f35 : compFunc Tryd.prog 35 = some (stripF c35) := by kernel_rfl
theorem f37 : compFunc Tryd.prog 37 = some (stripF c37) := by kernel_rfl
theorem f38 : compFunc Tryd.prog 38 = some (stripF c38) := by kernel_rfl
theorem f40 : compFunc Tryd.prog 40 = some (stripF c40) := by kernel_rfl
theorem f41 : compFunc Tryd.prog 41 = some (stripF c41) := by kernel_rfl
theorem f42 : compFunc Tryd.prog 42 = some (stripF c42) := by kernel_rfl
theorem f43 : compFunc Tryd.prog 43 = some (stripF c43) := by kernel_rfl
theorem f44 : compFunc Tryd.prog 44 = some (stripF c44) := by kernel_rfl
theorem f45 : compFunc Tryd.prog 45 = some (stripF c45) := by kernel_rfl
theorem f46 : compFunc Tryd.prog 46 = some (stripF c46) := by kernel_rfl
theorem f47 : compFunc Tryd.prog 47 = some (stripF c47) := by kernel_rfl
theorem f48 : compFunc Tryd.prog 48 = some (stripF c48) := by kernel_rfl
theorem f49 : compFunc Tryd.prog 49 = some (stripF c49) := by kernel_rfl
theorem f50 : compFunc Tryd.prog 50 = some (stripF c50) := by kernel_rfl
theorem f51 : compFunc Tryd.prog 51 = some (stripF c51) := by kernel_rfl
theorem f52 : compFunc Tryd.prog 52 = some (stripF c52) := by kernel_rfl
theorem f54 : compFunc Tryd.prog 54 = some (stripF c54) := by kernel_rfl
theorem f55 : compFunc Tryd.prog 55 = some (stripF c55) := by kernel_rfl
theorem f56 : compFunc Tryd.prog 56 = some (stripF c56) := by kernel_rfl
theorem f57 : compFunc Tryd.prog 57 = some (stripF c57) := by kernel_rfl
theorem f58 : compFunc Tryd.prog 58 = some (stripF c58) := by kernel_rfl
theorem f59 : compFunc Tryd.prog 59 = some (stripF c59) := by kernel_rfl
theorem f60 : compFunc Tryd.prog 60 = some (stripF c60) := by kernel_rfl
theorem f61 : compFunc Tryd.prog 61 = some (stripF c61) := by kernel_rfl
theorem f62 : compFunc Tryd.prog 62 = some (stripF c62) := by kernel_rfl
theorem f64 : compFunc Tryd.prog 64 = some (stripF c64) := by kernel_rfl
theorem f68 : compFunc Tryd.prog 68 = some (stripF c68) := by kernel_rfl
theorem f69 : compFunc Tryd.prog 69 = some (stripF c69) := by kernel_rfl
theorem f70 : compFunc Tryd.prog 70 = some (stripF c70) := by kernel_rfl
theorem f71 : compFunc Tryd.prog 71 = some (stripF c71) := by kernel_rfl
theorem f72 : compFunc Tryd.prog 72 = some (stripF c72) := by kernel_rfl
theorem f73 : compFunc Tryd.prog 73 = some (stripF c73) := by kernel_rfl
theorem f74 : compFunc Tryd.prog 74 = some (stripF c74) := by kernel_rfl
theorem f75 : compFunc Tryd.prog 75 = some (stripF c75) := by kernel_rfl
theorem f76 : compFunc Tryd.prog 76 = some (stripF c76) := by kernel_rfl
theorem f77 : compFunc Tryd.prog 77 = some (stripF c77) := by kernel_rfl
theorem f78 : compFunc Tryd.prog 78 = some (stripF c78) := by kernel_rfl
theorem f79 : compFunc Tryd.prog 79 = some (stripF c79) := by kernel_rfl
theorem f80 : compFunc Tryd.prog 80 = some (stripF c80) := by kernel_rfl
end Go.Proofs.YtljaigbjiheohaaDoor
