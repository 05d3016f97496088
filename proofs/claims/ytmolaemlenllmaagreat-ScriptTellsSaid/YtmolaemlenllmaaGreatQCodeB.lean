/- Proved here: the code of the functions, written out, is what the compiler makes of the program. No condition. -/
import Derived.Test.YtmolaemlenllmaaGreatMc
import Derived.Test.YtmolaemlenllmaaGreatRows
namespace Go.Proofs.YtmolaemlenllmaaGreat
open Go.RowKit

/- floodgate/area.there -/
def c217l0 : ICode :=
  .seq (.region [⟨(some 18), none, (.op (.bin .int false .lss (.t 17) (.t 16)))⟩])
   (.live [6, 15, 16, 17, 7, 18] (.seq (.cond (.t 18) (.skip)
   (.exit 0))
   (.live [6, 15, 16, 17, 7] (.seq (.block 1 (.seq (.region [⟨(some 19), none, (.op (.iaddr none 1 (.t 15) (.t 17)))⟩,
    ⟨(some 20), none, (.op (.load none (.t 19)))⟩,
    ⟨(some 9), none, (.op (.mv (.t 20)))⟩])
   (.live [6, 15, 16, 17, 7, 9] (.seq (.region [⟨(some 21), none, (.op (.mv (.t 9)))⟩,
    ⟨(some 22), none, (.op (.bin .int true .lss (.t 21) (.c (.i .i64 0))))⟩,
    ⟨(some 23), none, (.op (.mv (.t 22)))⟩,
    ⟨(some 24), some (23, false), (.op (.mv (.t 9)))⟩,
    ⟨(some 25), some (23, false), (.op (.mv (.t 6)))⟩,
    ⟨(some 26), some (23, false), (.op (.bin .int false .geq (.t 24) (.t 25)))⟩,
    ⟨(some 27), none, (.op (.pick (.t 23) (.c (.b true)) (.t 26)))⟩])
   (.live [6, 15, 16, 17, 7, 27] (.cond (.t 27) (.region [⟨(some 7), none, (.op (.mv (.c (.i .i64 91))))⟩])
   (.skip)))))))
   (.live [6, 15, 16, 7, 17] (.region [⟨(some 28), none, (.op (.bin .int true .add (.t 17) (.c (.i .i64 1))))⟩,
    ⟨(some 17), none, (.op (.mv (.t 28)))⟩]))))))
def c217 : IFunc := ⟨2, [.tmp 4, .tmp 5],
  .seq (.region [⟨(some 4), none, (.op (.mv (.c (.i .i64 0))))⟩,
    ⟨(some 5), none, (.op (.mv (.c (.i .i64 0))))⟩])
   (.live [1, 0] (.seq (.region [⟨(some 11), none, (.op (.mv (.t 0)))⟩,
    ⟨(some 12), none, (.call 106 [(.t 11)])⟩,
    ⟨(some 10), none, (.op (.mv (.t 12)))⟩,
    ⟨(some 13), none, (.op (.ext (.t 10) 0))⟩,
    ⟨(some 14), none, (.op (.ext (.t 10) 1))⟩,
    ⟨(some 6), none, (.op (.mv (.t 13)))⟩,
    ⟨(some 7), none, (.op (.mv (.t 14)))⟩])
   (.live [6, 7, 1] (.seq (.seq (.region [⟨(some 15), none, (.op (.mv (.t 1)))⟩,
    ⟨(some 16), none, (.op (.len .slice (.t 15)))⟩,
    ⟨(some 17), none, (.op (.mv (.c (.i .i64 0))))⟩])
   (.live [6, 15, 16, 17, 7] (.block 0 (.loop [6, 15, 16, 17, 7] c217l0))))
   (.live [7, 6] (.seq (.region [⟨(some 29), none, (.op (.mv (.t 6)))⟩,
    ⟨(some 30), none, (.op (.mv (.t 7)))⟩,
    ⟨(some 4), none, (.op (.mv (.t 29)))⟩,
    ⟨(some 5), none, (.op (.mv (.t 30)))⟩])
   (.ret))))))),
  []⟩


/- (*floodgate/disk.Disk).there -/

def c218 : IFunc := ⟨2, [.tmp 4],
  .seq (.region [⟨(some 4), none, (.op (.mv (.c (.b false))))⟩])
   (.live [0, 1] (.seq (.region [⟨(some 5), none, (.op (.mv (.t 1)))⟩,
    ⟨(some 6), none, (.op (.bin .int true .geq (.t 5) (.c (.i .i64 0))))⟩,
    ⟨(some 7), none, (.op (.mv (.t 6)))⟩,
    ⟨(some 8), some (7, true), (.op (.mv (.t 1)))⟩,
    ⟨(some 9), some (7, true), (.op (.mv (.t 0)))⟩,
    ⟨(some 10), some (7, true), (.op (.nilck (.t 9)))⟩,
    ⟨(some 11), some (7, true), (.op (.faddr 0 (.t 10)))⟩,
    ⟨(some 12), some (7, true), (.op (.load none (.t 11)))⟩,
    ⟨(some 13), some (7, true), (.op (.len .slice (.t 12)))⟩,
    ⟨(some 14), some (7, true), (.op (.bin .int false .lss (.t 8) (.t 13)))⟩,
    ⟨(some 15), none, (.op (.pick (.t 7) (.t 14) (.c (.b false))))⟩,
    ⟨(some 4), none, (.op (.mv (.t 15)))⟩])
   (.ret))),
  []⟩


/- (*floodgate/disk.Disk).act -/

def c219 : IFunc := ⟨1, [.tmp 2],
  .seq (.region [⟨(some 2), none, (.op (.mv (.c (.i .i64 0))))⟩])
   (.live [0] (.seq (.block 0 (.seq (.region [⟨(some 4), none, (.op (.mv (.t 0)))⟩,
    ⟨(some 5), none, (.op (.nilck (.t 4)))⟩,
    ⟨(some 6), none, (.op (.faddr 3 (.t 5)))⟩,
    ⟨(some 7), none, (.op (.load none (.t 6)))⟩,
    ⟨(some 3), none, (.op (.mv (.t 7)))⟩])
   (.live [0, 3] (.cond (.t 3) (.skip)
   (.seq (.region [⟨(some 9), none, (.op (.mv (.t 0)))⟩,
    ⟨(some 10), none, (.op (.nilck (.t 9)))⟩,
    ⟨(some 11), none, (.op (.faddr 2 (.t 10)))⟩,
    ⟨(some 12), none, (.op (.load none (.t 11)))⟩,
    ⟨(some 13), none, (.op (.bin .int true .eql (.t 12) (.c (.i .i64 (-1)))))⟩,
    ⟨(some 8), none, (.op (.mv (.t 13)))⟩])
   (.live [0, 8] (.cond (.t 8) (.seq (.region [⟨(some 2), none, (.op (.mv (.c (.i .i64 0))))⟩])
   (.ret))
   (.seq (.region [⟨(some 15), none, (.op (.mv (.t 0)))⟩,
    ⟨(some 16), none, (.op (.nilck (.t 15)))⟩,
    ⟨(some 17), none, (.op (.faddr 2 (.t 16)))⟩,
    ⟨(some 18), none, (.op (.load none (.t 17)))⟩,
    ⟨(some 19), none, (.op (.bin .int true .gtr (.t 18) (.c (.i .i64 0))))⟩,
    ⟨(some 14), none, (.op (.mv (.t 19)))⟩])
   (.live [0, 14] (.cond (.t 14) (.seq (.region [⟨(some 20), none, (.op (.mv (.t 0)))⟩,
    ⟨(some 21), none, (.op (.nilck (.t 20)))⟩,
    ⟨(some 22), none, (.op (.faddr 2 (.t 21)))⟩,
    ⟨(some 23), none, (.op (.load none (.t 22)))⟩,
    ⟨(some 24), none, (.op (.bin .int true .sub (.t 23) (.c (.i .i64 1))))⟩,
    ⟨(some 25), none, (.op (.nilck (.t 20)))⟩,
    ⟨(some 26), none, (.op (.faddr 2 (.t 25)))⟩,
    ⟨none, none, (.op (.store 1 (.t 26) (.t 24)))⟩])
   (.live [] (.seq (.region [⟨(some 2), none, (.op (.mv (.c (.i .i64 0))))⟩])
   (.ret))))
   (.skip)))))))))))
   (.live [0] (.seq (.region [⟨(some 27), none, (.op (.mv (.t 0)))⟩,
    ⟨(some 28), none, (.op (.nilck (.t 27)))⟩,
    ⟨(some 29), none, (.op (.faddr 3 (.t 28)))⟩,
    ⟨none, none, (.op (.store 1 (.t 29) (.c (.b true))))⟩])
   (.live [] (.seq (.region [⟨(some 2), none, (.op (.mv (.c (.i .i64 72))))⟩])
   (.ret))))))),
  []⟩


/- (*floodgate/disk.Disk).Sync$1 -/

def c220 : IFunc := ⟨1, [.tmp 2],
  .seq (.region [⟨(some 2), none, (.op (.mv (.c (.b false))))⟩])
   (.live [] (.seq (.region [⟨(some 2), none, (.op (.mv (.c (.b true))))⟩])
   (.ret))),
  []⟩


/- floodgate/slot.Right -/
def c234d0 : List Stage :=
  [⟨[(⟨(some 8), none, (.op (.mv (.t 0)))⟩, 0), (⟨(some 10), none, (.op (.faddr 3 (.t 3)))⟩, 1), (⟨(some 11), none, (.op (.load none (.t 10)))⟩, 1)], none, some ⟨(some 9), none, (.call 107 [(.t 8)])⟩⟩,
    ⟨[], none, some ⟨(some 12), none, (.call 170 [(.t 9), (.t 11)])⟩⟩,
    ⟨[(⟨(some 7), none, (.op (.mv (.t 12)))⟩, 2), (⟨(some 13), none, (.op (.ext (.t 7) 0))⟩, 2), (⟨(some 14), none, (.op (.ext (.t 7) 1))⟩, 2), (⟨(some 5), none, (.op (.mv (.t 13)))⟩, 2), (⟨(some 6), none, (.op (.mv (.t 14)))⟩, 2)], none, none⟩]
def c234d0w : List (ROp × Bool) :=
  [(⟨(some 8), none, (.op (.mv (.t 0)))⟩, false), (⟨(some 10), none, (.op (.faddr 3 (.t 3)))⟩, false), (⟨(some 11), none, (.op (.load none (.t 10)))⟩, false), (⟨(some 9), none, (.call 107 [(.t 8)])⟩, true), (⟨(some 12), none, (.call 170 [(.t 9), (.t 11)])⟩, false), (⟨(some 7), none, (.op (.mv (.t 12)))⟩, false), (⟨(some 13), none, (.op (.ext (.t 7) 0))⟩, false), (⟨(some 14), none, (.op (.ext (.t 7) 1))⟩, false), (⟨(some 5), none, (.op (.mv (.t 13)))⟩, false), (⟨(some 6), none, (.op (.mv (.t 14)))⟩, false)]
theorem c234d0_w {P : Program} {O : Orc} {S0 : Mem} {rd : Bool} {e : Env} {S : Mem} {d : List Nat} {Q : Kont} : W P O S0 rd (.draw c234d0 []) e S d Q = wFl O c234d0w e S (normK Q d) := W_draw' (by kernel_rfl) (by kernel_rfl)
attribute [go_sem] c234d0_w c234d0w
def c234 : IFunc := ⟨2, [.tmp 4],
  .seq (.region [⟨(some 3), none, (.op (.box (.t 1)))⟩,
    ⟨(some 4), none, (.op (.mv (.c (.b false))))⟩])
   (.live [3, 0] (.seq (.draw c234d0 [])
   (.live [3, 6] (.seq (.region [⟨(some 15), none, (.op (.mv (.t 6)))⟩,
    ⟨(some 16), none, (.op (.bin .int true .eql (.t 15) (.c (.i .i64 0))))⟩,
    ⟨(some 17), none, (.op (.mv (.t 16)))⟩,
    ⟨(some 18), some (17, true), (.op (.faddr 0 (.t 3)))⟩,
    ⟨(some 19), some (17, true), (.op (.load none (.t 18)))⟩,
    ⟨(some 20), some (17, true), (.call 258 [(.t 19)])⟩,
    ⟨(some 21), none, (.op (.pick (.t 17) (.t 20) (.c (.b false))))⟩,
    ⟨(some 22), none, (.op (.mv (.t 21)))⟩,
    ⟨(some 23), some (22, true), (.op (.faddr 2 (.t 3)))⟩,
    ⟨(some 24), some (22, true), (.op (.load none (.t 23)))⟩,
    ⟨(some 25), some (22, true), (.call 258 [(.t 24)])⟩,
    ⟨(some 26), none, (.op (.pick (.t 22) (.t 25) (.c (.b false))))⟩,
    ⟨(some 27), none, (.op (.mv (.t 26)))⟩,
    ⟨(some 28), some (27, true), (.op (.faddr 1 (.t 3)))⟩,
    ⟨(some 29), some (27, true), (.op (.load none (.t 28)))⟩,
    ⟨(some 30), some (27, true), (.op (.bin .int true .leq (.t 29) (.c (.i .u32 2147483648))))⟩,
    ⟨(some 31), none, (.op (.pick (.t 27) (.t 30) (.c (.b false))))⟩,
    ⟨(some 32), none, (.op (.mv (.t 31)))⟩,
    ⟨(some 33), some (32, true), (.op (.faddr 4 (.t 3)))⟩,
    ⟨(some 34), some (32, true), (.op (.load (some 2) (.t 33)))⟩,
    ⟨(some 35), some (32, true), (.call 161 [(.t 34)])⟩,
    ⟨(some 36), none, (.op (.pick (.t 32) (.t 35) (.c (.b false))))⟩,
    ⟨(some 4), none, (.op (.mv (.t 36)))⟩])
   (.ret))))),
  []⟩


/- floodgate/book.Bytes -/
def c235d0 : List Stage :=
  [⟨[(⟨(some 20), none, (.op (.mv (.t 4)))⟩, 1), (⟨(some 21), none, (.op (.faddr 0 (.t 6)))⟩, 0), (⟨(some 22), none, (.op (.load (some 13) (.t 21)))⟩, 0), (⟨(some 25), none, (.op (.faddr 13 (.t 6)))⟩, 2), (⟨(some 26), none, (.op (.load none (.t 25)))⟩, 2)], none, some ⟨(some 23), none, (.call 167 [(.t 22)])⟩⟩,
    ⟨[], none, some ⟨(some 24), none, (.op (.app 1 8 (.t 20) (.t 23)))⟩⟩,
    ⟨[], some ⟨(some 27), none, (.op (.bslice [(.i .u64 0)] 1 [(0, 1, (.t 26))]))⟩, some ⟨(some 28), none, (.op (.app 1 8 (.t 24) (.t 27)))⟩⟩,
    ⟨[(⟨(some 4), none, (.op (.mv (.t 28)))⟩, 3)], none, none⟩]
theorem c235d0_e {P : Program} {O : Orc} {S0 : Mem} {rd : Bool} {e : Env} {S : Mem} {d : List Nat} {Q : Kont} : W P O S0 rd (.draw c235d0 [4]) e S d Q = drawK (evDraw O c235d0 [4] e S) (normK Q d) := W_drawE (by kernel_rfl)
attribute [go_sem] c235d0_e
def c235l1 : ICode :=
  .seq (.region [⟨(some 17), none, (.op (.bin .int false .lss (.t 16) (.t 15)))⟩])
   (.live [14, 15, 16, 4, 17] (.seq (.cond (.t 17) (.skip)
   (.exit 0))
   (.live [14, 15, 16, 4] (.seq (.block 1 (.seq (.region [⟨(some 18), none, (.op (.iaddr none 14 (.t 14) (.t 16)))⟩,
    ⟨(some 19), none, (.op (.load (some 14) (.t 18)))⟩,
    ⟨(some 6), none, (.op (.fresh [(.i .i64 0), (.i .u8 0), (.i .u8 0), (.i .u8 0), (.i .u8 0), (.i .i64 0), (.i .u64 0), (.i .u64 0), (.i .u64 0), (.i .u64 0), (.i .u64 0), (.i .u64 0), (.i .u64 0), (.i .u64 0)]))⟩,
    ⟨none, none, (.op (.store 14 (.t 6) (.t 19)))⟩])
   (.live [14, 15, 16, 6, 4] (.draw c235d0 [4]))))
   (.live [14, 15, 4, 16] (.region [⟨(some 29), none, (.op (.bin .int true .add (.t 16) (.c (.i .i64 1))))⟩,
    ⟨(some 16), none, (.op (.mv (.t 29)))⟩]))))))
def c235 : IFunc := ⟨1, [.tmp 2, .tmp 3],
  .seq (.region [⟨(some 1), none, (.op (.box (.t 0)))⟩,
    ⟨(some 2), none, (.op (.mv (.c .sn)))⟩,
    ⟨(some 3), none, (.op (.mv (.c (.i .i64 0))))⟩])
   (.live [1] (.seq (.seq (.region [⟨(some 7), none, (.op (.load (some 2) (.t 1)))⟩,
    ⟨(some 8), none, (.call 161 [(.t 7)])⟩,
    ⟨(some 9), none, (.op (.un .not (.t 8)))⟩])
   (.live [1, 9] (.cond (.t 9) (.seq (.region [⟨(some 2), none, (.op (.mv (.c .sn)))⟩,
    ⟨(some 3), none, (.op (.mv (.c (.i .i64 131))))⟩])
   (.ret))
   (.skip))))
   (.live [1] (.seq (.region [⟨(some 10), none, (.op (.faddr 0 (.t 1)))⟩,
    ⟨(some 11), none, (.op (.load none (.t 10)))⟩,
    ⟨(some 12), none, (.op (.bslice [(.i .u64 0)] 1 [(0, 1, (.t 11))]))⟩,
    ⟨(some 4), none, (.op (.mv (.t 12)))⟩])
   (.live [4, 1] (.seq (.seq (.region [⟨(some 13), none, (.op (.faddr 1 (.t 1)))⟩,
    ⟨(some 14), none, (.op (.load none (.t 13)))⟩,
    ⟨(some 15), none, (.op (.len .slice (.t 14)))⟩,
    ⟨(some 16), none, (.op (.mv (.c (.i .i64 0))))⟩])
   (.live [14, 15, 16, 4] (.block 0 (.loop [14, 15, 16, 4] c235l1))))
   (.live [4] (.seq (.region [⟨(some 30), none, (.op (.mv (.t 4)))⟩,
    ⟨(some 31), none, (.call 21 [(.t 30)])⟩,
    ⟨(some 2), none, (.op (.mv (.t 31)))⟩,
    ⟨(some 3), none, (.op (.mv (.c (.i .i64 0))))⟩])
   (.ret))))))))),
  []⟩


/- slices.IndexFunc[[]floodgate/api.Entry,floodgate/api.Entry] -/
def c236l0 : ICode :=
  .seq (.region [⟨(some 9), none, (.op (.bin .int false .lss (.t 8) (.t 7)))⟩])
   (.live [0, 1, 7, 8, 9] (.seq (.cond (.t 9) (.skip)
   (.exit 0))
   (.live [0, 1, 7, 8] (.seq (.block 1 (.seq (.region [⟨(some 10), none, (.op (.mv (.t 8)))⟩,
    ⟨(some 5), none, (.op (.mv (.t 10)))⟩])
   (.live [5, 0, 1, 7, 8] (.seq (.region [⟨(some 11), none, (.op (.mv (.t 1)))⟩,
    ⟨(some 12), none, (.op (.mv (.t 0)))⟩,
    ⟨(some 13), none, (.op (.mv (.t 5)))⟩,
    ⟨(some 14), none, (.op (.iaddr none 14 (.t 12) (.t 13)))⟩,
    ⟨(some 15), none, (.op (.load (some 14) (.t 14)))⟩,
    ⟨(some 16), none, (.callv (.t 11) [(.t 15)])⟩])
   (.live [5, 0, 1, 7, 8, 16] (.cond (.t 16) (.seq (.region [⟨(some 17), none, (.op (.mv (.t 5)))⟩,
    ⟨(some 4), none, (.op (.mv (.t 17)))⟩])
   (.ret))
   (.skip)))))))
   (.live [0, 1, 7, 8] (.region [⟨(some 18), none, (.op (.bin .int true .add (.t 8) (.c (.i .i64 1))))⟩,
    ⟨(some 8), none, (.op (.mv (.t 18)))⟩]))))))
def c236 : IFunc := ⟨2, [.tmp 4],
  .seq (.region [⟨(some 4), none, (.op (.mv (.c (.i .i64 0))))⟩])
   (.live [0, 1] (.seq (.seq (.region [⟨(some 6), none, (.op (.mv (.t 0)))⟩,
    ⟨(some 7), none, (.op (.len .slice (.t 6)))⟩,
    ⟨(some 8), none, (.op (.mv (.c (.i .i64 0))))⟩])
   (.live [0, 1, 7, 8] (.block 0 (.loop [0, 1, 7, 8] c236l0))))
   (.live [] (.seq (.region [⟨(some 4), none, (.op (.mv (.c (.i .i64 (-1)))))⟩])
   (.ret))))),
  []⟩


/- floodgate/crc.tail -/

def c245 : IFunc := ⟨1, [.tmp 2],
  .seq (.region [⟨(some 2), none, (.op (.mv (.c .sn)))⟩])
   (.live [0] (.seq (.region [⟨(some 3), none, (.op (.mv (.t 0)))⟩,
    ⟨(some 4), none, (.op (.bin .int true .shr (.t 3) (.c (.i .u64 24))))⟩,
    ⟨(some 5), none, (.op (.toInt .u8 (.t 4)))⟩,
    ⟨(some 6), none, (.op (.mv (.t 0)))⟩,
    ⟨(some 7), none, (.op (.bin .int true .shr (.t 6) (.c (.i .u64 16))))⟩,
    ⟨(some 8), none, (.op (.toInt .u8 (.t 7)))⟩,
    ⟨(some 9), none, (.op (.mv (.t 0)))⟩,
    ⟨(some 10), none, (.op (.bin .int true .shr (.t 9) (.c (.i .u64 8))))⟩,
    ⟨(some 11), none, (.op (.toInt .u8 (.t 10)))⟩,
    ⟨(some 12), none, (.op (.mv (.t 0)))⟩,
    ⟨(some 13), none, (.op (.toInt .u8 (.t 12)))⟩,
    ⟨(some 14), none, (.op (.bslice [(.i .u8 0)] 4 [(0, 1, (.t 5)), (1, 1, (.t 8)), (2, 1, (.t 11)), (3, 1, (.t 13))]))⟩,
    ⟨(some 2), none, (.op (.mv (.t 14)))⟩])
   (.ret))),
  []⟩


/- floodgate/crc.Of -/
def c246l0 : ICode :=
  .seq (.region [⟨(some 9), none, (.op (.bin .int false .lss (.t 8) (.t 7)))⟩])
   (.live [6, 7, 8, 3, 9] (.seq (.cond (.t 9) (.skip)
   (.exit 0))
   (.live [6, 7, 8, 3] (.seq (.block 1 (.seq (.region [⟨(some 10), none, (.op (.iaddr none 1 (.t 6) (.t 8)))⟩,
    ⟨(some 11), none, (.op (.load none (.t 10)))⟩,
    ⟨(some 5), none, (.op (.mv (.t 11)))⟩])
   (.live [6, 7, 8, 5, 3] (.region [⟨(some 12), none, (.op (.mv (.t 3)))⟩,
    ⟨(some 13), none, (.op (.mv (.t 5)))⟩,
    ⟨(some 14), none, (.call 269 [(.t 12), (.t 13)])⟩,
    ⟨(some 3), none, (.op (.mv (.t 14)))⟩]))))
   (.live [6, 7, 3, 8] (.region [⟨(some 15), none, (.op (.bin .int true .add (.t 8) (.c (.i .i64 1))))⟩,
    ⟨(some 8), none, (.op (.mv (.t 15)))⟩]))))))
def c246 : IFunc := ⟨1, [.tmp 2],
  .seq (.region [⟨(some 2), none, (.op (.mv (.c (.i .u32 0))))⟩])
   (.live [0] (.seq (.region [⟨(some 3), none, (.op (.mv (.c (.i .u32 0))))⟩])
   (.live [3, 0] (.seq (.seq (.region [⟨(some 6), none, (.op (.mv (.t 0)))⟩,
    ⟨(some 7), none, (.op (.len .slice (.t 6)))⟩,
    ⟨(some 8), none, (.op (.mv (.c (.i .i64 0))))⟩])
   (.live [6, 7, 8, 3] (.block 0 (.loop [6, 7, 8, 3] c246l0))))
   (.live [3] (.seq (.region [⟨(some 16), none, (.op (.mv (.t 3)))⟩,
    ⟨(some 2), none, (.op (.mv (.t 16)))⟩])
   (.ret))))))),
  []⟩


/- slices.Backward[[]byte,byte] -/

def c247 : IFunc := ⟨1, [.tmp 2],
  .seq (.region [⟨(some 1), none, (.op (.box (.t 0)))⟩,
    ⟨(some 2), none, (.op (.mv (.c .nf)))⟩])
   (.live [1] (.seq (.region [⟨(some 3), none, (.op (.mkf (.func 270) [] [(.t 1)]))⟩,
    ⟨(some 2), none, (.op (.mv (.t 3)))⟩])
   (.ret))),
  []⟩


/- floodgate/slot.value -/

def c258 : IFunc := ⟨1, [.tmp 2],
  .seq (.region [⟨(some 2), none, (.op (.mv (.c (.b false))))⟩])
   (.live [0] (.seq (.region [⟨(some 3), none, (.op (.mv (.t 0)))⟩,
    ⟨(some 4), none, (.op (.bin .int true .geq (.t 3) (.c (.i .u64 1))))⟩,
    ⟨(some 5), none, (.op (.mv (.t 4)))⟩,
    ⟨(some 6), some (5, true), (.op (.mv (.t 0)))⟩,
    ⟨(some 7), some (5, true), (.op (.bin .int true .leq (.t 6) (.c (.i .u64 281474976710656))))⟩,
    ⟨(some 8), none, (.op (.pick (.t 5) (.t 7) (.c (.b false))))⟩,
    ⟨(some 2), none, (.op (.mv (.t 8)))⟩])
   (.ret))),
  []⟩


/- floodgate/crc.More -/
def c269l0 : ICode :=
  .seq (.region [⟨(some 13), none, (.op (.bin .int false .lss (.t 12) (.t 11)))⟩])
   (.live [10, 11, 12, 5, 13] (.seq (.cond (.t 13) (.skip)
   (.exit 0))
   (.live [10, 11, 12, 5] (.seq (.block 1 (.seq (.region [⟨(some 14), none, (.op (.iaddr none 1 (.t 10) (.t 12)))⟩,
    ⟨(some 15), none, (.op (.load none (.t 14)))⟩,
    ⟨(some 7), none, (.op (.mv (.t 15)))⟩])
   (.live [10, 11, 12, 7, 5] (.region [⟨(some 16), none, (.op (.mv (.t 5)))⟩,
    ⟨(some 17), none, (.op (.mv (.t 7)))⟩,
    ⟨(some 18), none, (.call 292 [(.t 16), (.t 17)])⟩,
    ⟨(some 5), none, (.op (.mv (.t 18)))⟩]))))
   (.live [10, 11, 5, 12] (.region [⟨(some 19), none, (.op (.bin .int true .add (.t 12) (.c (.i .i64 1))))⟩,
    ⟨(some 12), none, (.op (.mv (.t 19)))⟩]))))))
def c269 : IFunc := ⟨2, [.tmp 4],
  .seq (.region [⟨(some 4), none, (.op (.mv (.c (.i .u32 0))))⟩])
   (.live [1, 0] (.seq (.region [⟨(some 8), none, (.op (.mv (.t 0)))⟩,
    ⟨(some 9), none, (.op (.un .xor (.t 8)))⟩,
    ⟨(some 5), none, (.op (.mv (.t 9)))⟩])
   (.live [5, 1] (.seq (.seq (.region [⟨(some 10), none, (.op (.mv (.t 1)))⟩,
    ⟨(some 11), none, (.op (.len .slice (.t 10)))⟩,
    ⟨(some 12), none, (.op (.mv (.c (.i .i64 0))))⟩])
   (.live [10, 11, 12, 5] (.block 0 (.loop [10, 11, 12, 5] c269l0))))
   (.live [5] (.seq (.region [⟨(some 20), none, (.op (.mv (.t 5)))⟩,
    ⟨(some 21), none, (.op (.un .xor (.t 20)))⟩,
    ⟨(some 4), none, (.op (.mv (.t 21)))⟩])
   (.ret))))))),
  []⟩


/- slices.Backward[[]byte,byte]$1 -/
def c270l0 : ICode :=
  .seq (.seq (.region [⟨(some 7), none, (.op (.mv (.t 3)))⟩,
    ⟨(some 8), none, (.op (.bin .int true .geq (.t 7) (.c (.i .i64 0))))⟩])
   (.live [1, 0, 3, 8] (.cond (.t 8) (.skip)
   (.exit 0))))
   (.live [1, 0, 3] (.seq (.block 1 (.seq (.region [⟨(some 11), none, (.op (.mv (.t 0)))⟩,
    ⟨(some 12), none, (.op (.mv (.t 3)))⟩,
    ⟨(some 13), none, (.op (.load none (.t 1)))⟩,
    ⟨(some 14), none, (.op (.mv (.t 3)))⟩,
    ⟨(some 15), none, (.op (.iaddr none 1 (.t 13) (.t 14)))⟩,
    ⟨(some 16), none, (.op (.load none (.t 15)))⟩,
    ⟨(some 17), none, (.callv (.t 11) [(.t 12), (.t 16)])⟩,
    ⟨(some 18), none, (.op (.un .not (.t 17)))⟩])
   (.live [1, 0, 3, 18] (.cond (.t 18) (.ret)
   (.skip)))))
   (.live [1, 0, 3] (.region [⟨(some 9), none, (.op (.mv (.t 3)))⟩,
    ⟨(some 10), none, (.op (.bin .int true .sub (.t 9) (.c (.i .i64 1))))⟩,
    ⟨(some 3), none, (.op (.mv (.t 10)))⟩]))))
def c270 : IFunc := ⟨2, [],
  .seq (.region [⟨(some 4), none, (.op (.load none (.t 1)))⟩,
    ⟨(some 5), none, (.op (.len .slice (.t 4)))⟩,
    ⟨(some 6), none, (.op (.bin .int true .sub (.t 5) (.c (.i .i64 1))))⟩,
    ⟨(some 3), none, (.op (.mv (.t 6)))⟩])
   (.live [1, 0, 3] (.block 0 (.loop [1, 0, 3] c270l0))),
  []⟩


/- floodgate/crc.step -/
def c292k0 : ICode :=
  .seq (.skip)
   (.live [5, 0] (.seq (.region [⟨(some 12), none, (.op (.mv (.t 0)))⟩,
    ⟨(some 13), none, (.op (.bin .int true .shr (.t 12) (.c (.i .u64 31))))⟩,
    ⟨(some 6), none, (.op (.mv (.t 13)))⟩])
   (.live [5, 6, 0] (.seq (.region [⟨(some 14), none, (.op (.mv (.t 0)))⟩,
    ⟨(some 15), none, (.op (.bin .int true .shl (.t 14) (.c (.i .u64 1))))⟩,
    ⟨(some 16), none, (.op (.mv (.t 6)))⟩,
    ⟨(some 17), none, (.op (.bin .int true .mul (.c (.i .u32 79764919)) (.t 16)))⟩,
    ⟨(some 18), none, (.op (.bin .int false .xor (.t 15) (.t 17)))⟩,
    ⟨(some 0), none, (.op (.mv (.t 18)))⟩])
   (.live [0, 5] (.seq (.seq (.region [⟨(some 19), none, (.op (.mv (.t 5)))⟩,
    ⟨(some 20), none, (.op (.bin .int true .add (.t 19) (.c (.i .i64 1))))⟩,
    ⟨(some 5), none, (.op (.mv (.t 20)))⟩])
   (.live [5, 0] (.seq (.region [⟨(some 21), none, (.op (.mv (.t 5)))⟩,
    ⟨(some 22), none, (.op (.bin .int true .lss (.t 21) (.c (.i .i64 8))))⟩])
   (.live [5, 0, 22] (.cond (.t 22) (.goto 0)
   (.skip))))))
   (.live [0] (.seq (.region [⟨(some 23), none, (.op (.mv (.t 0)))⟩,
    ⟨(some 4), none, (.op (.mv (.t 23)))⟩])
   (.ret)))))))))
def c292 : IFunc := ⟨2, [.tmp 4],
  .seq (.region [⟨(some 4), none, (.op (.mv (.c (.i .u32 0))))⟩])
   (.live [1, 0] (.scope [5, 0] (.seq (.region [⟨(some 7), none, (.op (.mv (.t 0)))⟩,
    ⟨(some 8), none, (.op (.mv (.t 1)))⟩,
    ⟨(some 9), none, (.op (.toInt .u32 (.t 8)))⟩,
    ⟨(some 10), none, (.op (.bin .int true .shl (.t 9) (.c (.i .u64 24))))⟩,
    ⟨(some 11), none, (.op (.bin .int false .xor (.t 7) (.t 10)))⟩,
    ⟨(some 0), none, (.op (.mv (.t 11)))⟩])
   (.live [0] (.seq (.region [⟨(some 5), none, (.op (.mv (.c (.i .i64 0))))⟩])
   (.live [5, 0] (.seq (.skip)
   (.live [5, 0] (.seq (.region [⟨(some 12), none, (.op (.mv (.t 0)))⟩,
    ⟨(some 13), none, (.op (.bin .int true .shr (.t 12) (.c (.i .u64 31))))⟩,
    ⟨(some 6), none, (.op (.mv (.t 13)))⟩])
   (.live [5, 6, 0] (.seq (.region [⟨(some 14), none, (.op (.mv (.t 0)))⟩,
    ⟨(some 15), none, (.op (.bin .int true .shl (.t 14) (.c (.i .u64 1))))⟩,
    ⟨(some 16), none, (.op (.mv (.t 6)))⟩,
    ⟨(some 17), none, (.op (.bin .int true .mul (.c (.i .u32 79764919)) (.t 16)))⟩,
    ⟨(some 18), none, (.op (.bin .int false .xor (.t 15) (.t 17)))⟩,
    ⟨(some 0), none, (.op (.mv (.t 18)))⟩])
   (.live [0, 5] (.seq (.seq (.region [⟨(some 19), none, (.op (.mv (.t 5)))⟩,
    ⟨(some 20), none, (.op (.bin .int true .add (.t 19) (.c (.i .i64 1))))⟩,
    ⟨(some 5), none, (.op (.mv (.t 20)))⟩])
   (.live [5, 0] (.seq (.region [⟨(some 21), none, (.op (.mv (.t 5)))⟩,
    ⟨(some 22), none, (.op (.bin .int true .lss (.t 21) (.c (.i .i64 8))))⟩])
   (.live [5, 0, 22] (.cond (.t 22) (.goto 0)
   (.skip))))))
   (.live [0] (.seq (.region [⟨(some 23), none, (.op (.mv (.t 0)))⟩,
    ⟨(some 4), none, (.op (.mv (.t 23)))⟩])
   (.ret)))))))))))))) 0 c292k0)),
  []⟩


set_option maxRecDepth 1000000
theorem f217 : compFunc Tryz.prog 217 = some (stripF c217) := by kernel_rfl
theorem f218 : compFunc Tryz.prog 218 = some (stripF c218) := by kernel_rfl
theorem f219 : compFunc Tryz.prog 219 = some (stripF c219) := by kernel_rfl
theorem f220 : compFunc Tryz.prog 220 = some (stripF c220) := by kernel_rfl
theorem f234 : compFunc Tryz.prog 234 = some (stripF c234) := by kernel_rfl
theorem f235 : compFunc Tryz.prog 235 = some (stripF c235) := by kernel_rfl
theorem f236 : compFunc Tryz.prog 236 = some (stripF c236) := by kernel_rfl
theorem f245 : compFunc Tryz.prog 245 = some (stripF c245) := by kernel_rfl
theorem f246 : compFunc Tryz.prog 246 = some (stripF c246) := by kernel_rfl
theorem f247 : compFunc Tryz.prog 247 = some (stripF c247) := by kernel_rfl
theorem f258 : compFunc Tryz.prog 258 = some (stripF c258) := by kernel_rfl
theorem f269 : compFunc Tryz.prog 269 = some (stripF c269) := by kernel_rfl
theorem f270 : compFunc Tryz.prog 270 = some (stripF c270) := by kernel_rfl
theorem f292 : compFunc Tryz.prog 292 = some (stripF c292) := by kernel_rfl
end Go.Proofs.YtmolaemlenllmaaGreat
