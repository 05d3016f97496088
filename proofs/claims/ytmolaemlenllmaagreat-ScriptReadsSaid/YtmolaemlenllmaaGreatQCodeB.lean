/- Proved here: the code of the functions, written out, is what the compiler makes of the program. No condition. -/
import Derived.Test.YtmolaemlenllmaaGreatMc
import Derived.Test.YtmolaemlenllmaaGreatRows
namespace Go.Proofs.YtmolaemlenllmaaGreat
open Go.RowKit

/- floodgate/frame.Make -/
def c168d0 : List Stage :=
  [⟨[(⟨(some 19), none, (.op (.faddr 2 (.t 1)))⟩, 0), (⟨(some 20), none, (.op (.load none (.t 19)))⟩, 0), (⟨(some 21), none, (.op (.len .slice (.t 20)))⟩, 0), (⟨(some 22), none, (.op (.toInt .u64 (.t 21)))⟩, 0), (⟨(some 24), none, (.op (.faddr 0 (.t 1)))⟩, 1), (⟨(some 25), none, (.op (.load none (.t 24)))⟩, 1), (⟨(some 27), none, (.op (.faddr 1 (.t 1)))⟩, 2), (⟨(some 28), none, (.op (.load none (.t 27)))⟩, 2), (⟨(some 29), none, (.op (.toInt .u64 (.t 28)))⟩, 2), (⟨(some 31), none, (.op (.faddr 2 (.t 1)))⟩, 3), (⟨(some 32), none, (.op (.load none (.t 31)))⟩, 3)], none, some ⟨(some 23), none, (.call 215 [(.t 22), (.c (.i .i64 2))])⟩⟩,
    ⟨[], none, some ⟨(some 26), none, (.call 215 [(.t 25), (.c (.i .i64 8))])⟩⟩,
    ⟨[], none, some ⟨(some 30), none, (.call 215 [(.t 29), (.c (.i .i64 4))])⟩⟩,
    ⟨[], none, some ⟨(some 33), none, (.op (.bslice [.sn] 4 [(0, 1, (.t 23)), (1, 1, (.t 26)), (2, 1, (.t 30)), (3, 1, (.t 32))]))⟩⟩,
    ⟨[], none, some ⟨(some 34), none, (.call 42 [(.t 33)])⟩⟩,
    ⟨[], none, some ⟨(some 35), none, (.call 214 [(.t 34)])⟩⟩,
    ⟨[(⟨(some 5), none, (.op (.mv (.t 35)))⟩, 6)], none, none⟩]
def c168d0w : List (ROp × Bool) :=
  [(⟨(some 19), none, (.op (.faddr 2 (.t 1)))⟩, false), (⟨(some 20), none, (.op (.load none (.t 19)))⟩, false), (⟨(some 21), none, (.op (.len .slice (.t 20)))⟩, false), (⟨(some 22), none, (.op (.toInt .u64 (.t 21)))⟩, false), (⟨(some 24), none, (.op (.faddr 0 (.t 1)))⟩, false), (⟨(some 25), none, (.op (.load none (.t 24)))⟩, false), (⟨(some 27), none, (.op (.faddr 1 (.t 1)))⟩, false), (⟨(some 28), none, (.op (.load none (.t 27)))⟩, false), (⟨(some 29), none, (.op (.toInt .u64 (.t 28)))⟩, false), (⟨(some 31), none, (.op (.faddr 2 (.t 1)))⟩, false), (⟨(some 32), none, (.op (.load none (.t 31)))⟩, false), (⟨(some 23), none, (.call 215 [(.t 22), (.c (.i .i64 2))])⟩, true), (⟨(some 26), none, (.call 215 [(.t 25), (.c (.i .i64 8))])⟩, true), (⟨(some 30), none, (.call 215 [(.t 29), (.c (.i .i64 4))])⟩, true), (⟨(some 33), none, (.op (.bslice [.sn] 4 [(0, 1, (.t 23)), (1, 1, (.t 26)), (2, 1, (.t 30)), (3, 1, (.t 32))]))⟩, false), (⟨(some 34), none, (.call 42 [(.t 33)])⟩, false), (⟨(some 35), none, (.call 214 [(.t 34)])⟩, false), (⟨(some 5), none, (.op (.mv (.t 35)))⟩, false)]
theorem c168d0_w {P : Program} {O : Orc} {S0 : Mem} {rd : Bool} {e : Env} {S : Mem} {d : List Nat} {Q : Kont} : W P O S0 rd (.draw c168d0 []) e S d Q = wFl O c168d0w e S (normK Q d) := W_draw' (by kernel_rfl) (by kernel_rfl)
attribute [go_sem] c168d0_w c168d0w
def c168d1 : List Stage :=
  [⟨[(⟨(some 43), none, (.op (.mv (.t 6)))⟩, 0), (⟨(some 44), none, (.op (.mv (.t 7)))⟩, 0), (⟨(some 45), none, (.op (.iaddr none 64 (.t 43) (.t 44)))⟩, 0), (⟨(some 46), none, (.op (.sla 64 1 (.t 45) none none none))⟩, 0), (⟨(some 47), none, (.op (.mv (.t 5)))⟩, 0), (⟨(some 48), none, (.op (.mv (.t 7)))⟩, 0), (⟨(some 49), none, (.op (.bin .int true .mul (.t 48) (.c (.i .i64 64))))⟩, 0), (⟨(some 50), none, (.op (.slice 1 (.t 47) (some (.t 49)) none none))⟩, 0)], none, some ⟨(some 51), none, (.op (.copy 1 (.t 46) (.t 50)))⟩⟩,
    ⟨[], none, none⟩]
def c168d1w : List (ROp × Bool) :=
  [(⟨(some 43), none, (.op (.mv (.t 6)))⟩, false), (⟨(some 44), none, (.op (.mv (.t 7)))⟩, false), (⟨(some 45), none, (.op (.iaddr none 64 (.t 43) (.t 44)))⟩, false), (⟨(some 46), none, (.op (.sla 64 1 (.t 45) none none none))⟩, false), (⟨(some 47), none, (.op (.mv (.t 5)))⟩, false), (⟨(some 48), none, (.op (.mv (.t 7)))⟩, false), (⟨(some 49), none, (.op (.bin .int true .mul (.t 48) (.c (.i .i64 64))))⟩, false), (⟨(some 50), none, (.op (.slice 1 (.t 47) (some (.t 49)) none none))⟩, false), (⟨(some 51), none, (.op (.copy 1 (.t 46) (.t 50)))⟩, false)]
theorem c168d1_w {P : Program} {O : Orc} {S0 : Mem} {rd : Bool} {e : Env} {S : Mem} {d : List Nat} {Q : Kont} : W P O S0 rd (.draw c168d1 []) e S d Q = wFl O c168d1w e S (normK Q d) := W_draw' (by kernel_rfl) (by kernel_rfl)
attribute [go_sem] c168d1_w c168d1w
def c168l2 : ICode :=
  .seq (.region [⟨(some 41), none, (.op (.bin .int false .lss (.t 40) (.t 39)))⟩])
   (.live [6, 5, 39, 40, 41] (.seq (.cond (.t 41) (.skip)
   (.exit 0))
   (.live [6, 5, 39, 40] (.seq (.block 1 (.seq (.region [⟨(some 42), none, (.op (.mv (.t 40)))⟩,
    ⟨(some 7), none, (.op (.mv (.t 42)))⟩])
   (.live [6, 5, 39, 40, 7] (.draw c168d1 []))))
   (.live [6, 5, 39, 40] (.region [⟨(some 52), none, (.op (.bin .int true .add (.t 40) (.c (.i .i64 1))))⟩,
    ⟨(some 40), none, (.op (.mv (.t 52)))⟩]))))))
def c168 : IFunc := ⟨1, [.tmp 2, .tmp 3],
  .seq (.region [⟨(some 1), none, (.op (.box (.t 0)))⟩,
    ⟨(some 2), none, (.op (.mv (.c .sn)))⟩,
    ⟨(some 3), none, (.op (.mv (.c (.i .i64 0))))⟩])
   (.live [1] (.seq (.region [⟨(some 8), none, (.op (.faddr 2 (.t 1)))⟩,
    ⟨(some 9), none, (.op (.load none (.t 8)))⟩,
    ⟨(some 10), none, (.op (.len .slice (.t 9)))⟩,
    ⟨(some 11), none, (.call 213 [(.t 10)])⟩,
    ⟨(some 4), none, (.op (.mv (.t 11)))⟩])
   (.live [4, 1] (.seq (.seq (.region [⟨(some 12), none, (.op (.mv (.t 4)))⟩,
    ⟨(some 13), none, (.op (.bin .int true .eql (.t 12) (.c (.i .i64 0))))⟩,
    ⟨(some 14), none, (.op (.mv (.t 13)))⟩,
    ⟨(some 15), some (14, false), (.op (.faddr 0 (.t 1)))⟩,
    ⟨(some 16), some (14, false), (.op (.load none (.t 15)))⟩,
    ⟨(some 17), some (14, false), (.op (.bin .int true .eql (.t 16) (.c (.i .u64 0))))⟩,
    ⟨(some 18), none, (.op (.pick (.t 14) (.c (.b true)) (.t 17)))⟩])
   (.live [4, 1, 18] (.cond (.t 18) (.seq (.region [⟨(some 2), none, (.op (.mv (.c .sn)))⟩,
    ⟨(some 3), none, (.op (.mv (.c (.i .i64 81))))⟩])
   (.ret))
   (.skip))))
   (.live [4, 1] (.seq (.draw c168d0 [])
   (.live [5, 4] (.seq (.region [⟨(some 36), none, (.op (.mv (.t 4)))⟩,
    ⟨(some 37), none, (.op (.mks [(.i .u8 0), (.i .u8 0), (.i .u8 0), (.i .u8 0), (.i .u8 0), (.i .u8 0), (.i .u8 0), (.i .u8 0), (.i .u8 0), (.i .u8 0), (.i .u8 0), (.i .u8 0), (.i .u8 0), (.i .u8 0), (.i .u8 0), (.i .u8 0), (.i .u8 0), (.i .u8 0), (.i .u8 0), (.i .u8 0), (.i .u8 0), (.i .u8 0), (.i .u8 0), (.i .u8 0), (.i .u8 0), (.i .u8 0), (.i .u8 0), (.i .u8 0), (.i .u8 0), (.i .u8 0), (.i .u8 0), (.i .u8 0), (.i .u8 0), (.i .u8 0), (.i .u8 0), (.i .u8 0), (.i .u8 0), (.i .u8 0), (.i .u8 0), (.i .u8 0), (.i .u8 0), (.i .u8 0), (.i .u8 0), (.i .u8 0), (.i .u8 0), (.i .u8 0), (.i .u8 0), (.i .u8 0), (.i .u8 0), (.i .u8 0), (.i .u8 0), (.i .u8 0), (.i .u8 0), (.i .u8 0), (.i .u8 0), (.i .u8 0), (.i .u8 0), (.i .u8 0), (.i .u8 0), (.i .u8 0), (.i .u8 0), (.i .u8 0), (.i .u8 0), (.i .u8 0)] 64 (.t 36) (.t 36)))⟩,
    ⟨(some 6), none, (.op (.mv (.t 37)))⟩])
   (.live [6, 5] (.seq (.seq (.region [⟨(some 38), none, (.op (.mv (.t 6)))⟩,
    ⟨(some 39), none, (.op (.len .slice (.t 38)))⟩,
    ⟨(some 40), none, (.op (.mv (.c (.i .i64 0))))⟩])
   (.live [6, 5, 39, 40] (.block 0 (.loop [6, 5, 39, 40] c168l2))))
   (.live [6] (.seq (.region [⟨(some 53), none, (.op (.mv (.t 6)))⟩,
    ⟨(some 2), none, (.op (.mv (.t 53)))⟩,
    ⟨(some 3), none, (.op (.mv (.c (.i .i64 0))))⟩])
   (.ret))))))))))))),
  []⟩


/- floodgate/area.Seg -/

def c170 : IFunc := ⟨2, [.tmp 4, .tmp 5],
  .seq (.region [⟨(some 4), none, (.op (.mv (.c (.i .i64 0))))⟩,
    ⟨(some 5), none, (.op (.mv (.c (.i .i64 0))))⟩])
   (.live [1, 0] (.seq (.seq (.region [⟨(some 9), none, (.op (.mv (.t 0)))⟩,
    ⟨(some 10), none, (.op (.mv (.t 1)))⟩,
    ⟨(some 11), none, (.op (.bslice [(.i .i64 0)] 1 [(0, 1, (.t 10))]))⟩,
    ⟨(some 12), none, (.call 217 [(.t 9), (.t 11)])⟩,
    ⟨(some 8), none, (.op (.mv (.t 12)))⟩,
    ⟨(some 13), none, (.op (.ext (.t 8) 0))⟩,
    ⟨(some 14), none, (.op (.ext (.t 8) 1))⟩,
    ⟨(some 6), none, (.op (.mv (.t 13)))⟩,
    ⟨(some 7), none, (.op (.mv (.t 14)))⟩])
   (.live [7, 1] (.seq (.region [⟨(some 15), none, (.op (.mv (.t 7)))⟩,
    ⟨(some 16), none, (.op (.bin .int true .neq (.t 15) (.c (.i .i64 0))))⟩])
   (.live [7, 1, 16] (.cond (.t 16) (.seq (.region [⟨(some 17), none, (.op (.mv (.t 7)))⟩,
    ⟨(some 4), none, (.op (.mv (.c (.i .i64 0))))⟩,
    ⟨(some 5), none, (.op (.mv (.t 17)))⟩])
   (.ret))
   (.skip))))))
   (.live [1] (.seq (.region [⟨(some 18), none, (.op (.mv (.t 1)))⟩,
    ⟨(some 19), none, (.op (.bin .int true .mul (.t 18) (.c (.i .i64 16))))⟩,
    ⟨(some 20), none, (.op (.bin .int true .add (.c (.i .i64 32)) (.t 19)))⟩,
    ⟨(some 4), none, (.op (.mv (.t 20)))⟩,
    ⟨(some 5), none, (.op (.mv (.c (.i .i64 0))))⟩])
   (.ret))))),
  []⟩


/- (*floodgate/disk.Disk).Write -/
def c171d0 : List Stage :=
  [⟨[(⟨(some 16), none, (.op (.mv (.t 0)))⟩, 2), (⟨(some 17), none, (.op (.mv (.t 0)))⟩, 1), (⟨(some 18), none, (.op (.nilck (.t 17)))⟩, 1), (⟨(some 19), none, (.op (.faddr 1 (.t 18)))⟩, 1), (⟨(some 20), none, (.op (.load none (.t 19)))⟩, 1), (⟨(some 21), none, (.op (.mv (.t 1)))⟩, 0), (⟨(some 22), none, (.op (.load (some 64) (.t 5)))⟩, 0), (⟨(some 23), none, (.op (.build [(.i .i64 0), (.i .u8 0), (.i .u8 0), (.i .u8 0), (.i .u8 0), (.i .u8 0), (.i .u8 0), (.i .u8 0), (.i .u8 0), (.i .u8 0), (.i .u8 0), (.i .u8 0), (.i .u8 0), (.i .u8 0), (.i .u8 0), (.i .u8 0), (.i .u8 0), (.i .u8 0), (.i .u8 0), (.i .u8 0), (.i .u8 0), (.i .u8 0), (.i .u8 0), (.i .u8 0), (.i .u8 0), (.i .u8 0), (.i .u8 0), (.i .u8 0), (.i .u8 0), (.i .u8 0), (.i .u8 0), (.i .u8 0), (.i .u8 0), (.i .u8 0), (.i .u8 0), (.i .u8 0), (.i .u8 0), (.i .u8 0), (.i .u8 0), (.i .u8 0), (.i .u8 0), (.i .u8 0), (.i .u8 0), (.i .u8 0), (.i .u8 0), (.i .u8 0), (.i .u8 0), (.i .u8 0), (.i .u8 0), (.i .u8 0), (.i .u8 0), (.i .u8 0), (.i .u8 0), (.i .u8 0), (.i .u8 0), (.i .u8 0), (.i .u8 0), (.i .u8 0), (.i .u8 0), (.i .u8 0), (.i .u8 0), (.i .u8 0), (.i .u8 0), (.i .u8 0), (.i .u8 0)] [(0, 1, (.t 21)), (1, 64, (.t 22))]))⟩, 0)], none, some ⟨(some 24), none, (.op (.bslice [(.i .i64 0), (.i .u8 0), (.i .u8 0), (.i .u8 0), (.i .u8 0), (.i .u8 0), (.i .u8 0), (.i .u8 0), (.i .u8 0), (.i .u8 0), (.i .u8 0), (.i .u8 0), (.i .u8 0), (.i .u8 0), (.i .u8 0), (.i .u8 0), (.i .u8 0), (.i .u8 0), (.i .u8 0), (.i .u8 0), (.i .u8 0), (.i .u8 0), (.i .u8 0), (.i .u8 0), (.i .u8 0), (.i .u8 0), (.i .u8 0), (.i .u8 0), (.i .u8 0), (.i .u8 0), (.i .u8 0), (.i .u8 0), (.i .u8 0), (.i .u8 0), (.i .u8 0), (.i .u8 0), (.i .u8 0), (.i .u8 0), (.i .u8 0), (.i .u8 0), (.i .u8 0), (.i .u8 0), (.i .u8 0), (.i .u8 0), (.i .u8 0), (.i .u8 0), (.i .u8 0), (.i .u8 0), (.i .u8 0), (.i .u8 0), (.i .u8 0), (.i .u8 0), (.i .u8 0), (.i .u8 0), (.i .u8 0), (.i .u8 0), (.i .u8 0), (.i .u8 0), (.i .u8 0), (.i .u8 0), (.i .u8 0), (.i .u8 0), (.i .u8 0), (.i .u8 0), (.i .u8 0)] 1 [(0, 65, (.t 23))]))⟩⟩,
    ⟨[], none, some ⟨(some 25), none, (.op (.app 65 72 (.t 20) (.t 24)))⟩⟩,
    ⟨[(⟨(some 26), none, (.op (.nilck (.t 16)))⟩, 2), (⟨(some 27), none, (.op (.faddr 1 (.t 26)))⟩, 2)], none, some ⟨none, none, (.op (.store 1 (.t 27) (.t 25)))⟩⟩,
    ⟨[], none, none⟩]
def c171d0w : List (ROp × Bool) :=
  [(⟨(some 16), none, (.op (.mv (.t 0)))⟩, false), (⟨(some 17), none, (.op (.mv (.t 0)))⟩, false), (⟨(some 18), none, (.op (.nilck (.t 17)))⟩, false), (⟨(some 19), none, (.op (.faddr 1 (.t 18)))⟩, false), (⟨(some 20), none, (.op (.load none (.t 19)))⟩, false), (⟨(some 21), none, (.op (.mv (.t 1)))⟩, false), (⟨(some 22), none, (.op (.load (some 64) (.t 5)))⟩, false), (⟨(some 23), none, (.op (.build [(.i .i64 0), (.i .u8 0), (.i .u8 0), (.i .u8 0), (.i .u8 0), (.i .u8 0), (.i .u8 0), (.i .u8 0), (.i .u8 0), (.i .u8 0), (.i .u8 0), (.i .u8 0), (.i .u8 0), (.i .u8 0), (.i .u8 0), (.i .u8 0), (.i .u8 0), (.i .u8 0), (.i .u8 0), (.i .u8 0), (.i .u8 0), (.i .u8 0), (.i .u8 0), (.i .u8 0), (.i .u8 0), (.i .u8 0), (.i .u8 0), (.i .u8 0), (.i .u8 0), (.i .u8 0), (.i .u8 0), (.i .u8 0), (.i .u8 0), (.i .u8 0), (.i .u8 0), (.i .u8 0), (.i .u8 0), (.i .u8 0), (.i .u8 0), (.i .u8 0), (.i .u8 0), (.i .u8 0), (.i .u8 0), (.i .u8 0), (.i .u8 0), (.i .u8 0), (.i .u8 0), (.i .u8 0), (.i .u8 0), (.i .u8 0), (.i .u8 0), (.i .u8 0), (.i .u8 0), (.i .u8 0), (.i .u8 0), (.i .u8 0), (.i .u8 0), (.i .u8 0), (.i .u8 0), (.i .u8 0), (.i .u8 0), (.i .u8 0), (.i .u8 0), (.i .u8 0), (.i .u8 0)] [(0, 1, (.t 21)), (1, 64, (.t 22))]))⟩, false), (⟨(some 24), none, (.op (.bslice [(.i .i64 0), (.i .u8 0), (.i .u8 0), (.i .u8 0), (.i .u8 0), (.i .u8 0), (.i .u8 0), (.i .u8 0), (.i .u8 0), (.i .u8 0), (.i .u8 0), (.i .u8 0), (.i .u8 0), (.i .u8 0), (.i .u8 0), (.i .u8 0), (.i .u8 0), (.i .u8 0), (.i .u8 0), (.i .u8 0), (.i .u8 0), (.i .u8 0), (.i .u8 0), (.i .u8 0), (.i .u8 0), (.i .u8 0), (.i .u8 0), (.i .u8 0), (.i .u8 0), (.i .u8 0), (.i .u8 0), (.i .u8 0), (.i .u8 0), (.i .u8 0), (.i .u8 0), (.i .u8 0), (.i .u8 0), (.i .u8 0), (.i .u8 0), (.i .u8 0), (.i .u8 0), (.i .u8 0), (.i .u8 0), (.i .u8 0), (.i .u8 0), (.i .u8 0), (.i .u8 0), (.i .u8 0), (.i .u8 0), (.i .u8 0), (.i .u8 0), (.i .u8 0), (.i .u8 0), (.i .u8 0), (.i .u8 0), (.i .u8 0), (.i .u8 0), (.i .u8 0), (.i .u8 0), (.i .u8 0), (.i .u8 0), (.i .u8 0), (.i .u8 0), (.i .u8 0), (.i .u8 0)] 1 [(0, 65, (.t 23))]))⟩, true), (⟨(some 25), none, (.op (.app 65 72 (.t 20) (.t 24)))⟩, false), (⟨(some 26), none, (.op (.nilck (.t 16)))⟩, false), (⟨(some 27), none, (.op (.faddr 1 (.t 26)))⟩, false), (⟨none, none, (.op (.store 1 (.t 27) (.t 25)))⟩, false)]
theorem c171d0_w {P : Program} {O : Orc} {S0 : Mem} {rd : Bool} {e : Env} {S : Mem} {d : List Nat} {Q : Kont} : W P O S0 rd (.draw c171d0 []) e S d Q = wFl O c171d0w e S (normK Q d) := W_draw' (by kernel_rfl) (by kernel_rfl)
attribute [go_sem] c171d0_w c171d0w
def c171 : IFunc := ⟨3, [.tmp 6],
  .seq (.region [⟨(some 5), none, (.op (.box (.t 2)))⟩,
    ⟨(some 6), none, (.op (.mv (.c (.i .i64 0))))⟩])
   (.live [0, 1, 5] (.seq (.seq (.region [⟨(some 8), none, (.op (.mv (.t 0)))⟩,
    ⟨(some 9), none, (.op (.mv (.t 1)))⟩,
    ⟨(some 10), none, (.call 218 [(.t 8), (.t 9)])⟩,
    ⟨(some 11), none, (.op (.un .not (.t 10)))⟩])
   (.live [0, 1, 5, 11] (.cond (.t 11) (.seq (.region [⟨(some 6), none, (.op (.mv (.c (.i .i64 71))))⟩])
   (.ret))
   (.skip))))
   (.live [0, 1, 5] (.seq (.region [⟨(some 12), none, (.op (.mv (.t 0)))⟩,
    ⟨(some 13), none, (.call 219 [(.t 12)])⟩,
    ⟨(some 7), none, (.op (.mv (.t 13)))⟩])
   (.live [7, 0, 1, 5] (.seq (.seq (.region [⟨(some 14), none, (.op (.mv (.t 7)))⟩,
    ⟨(some 15), none, (.op (.bin .int true .eql (.t 14) (.c (.i .i64 0))))⟩])
   (.live [7, 0, 1, 5, 15] (.cond (.t 15) (.draw c171d0 [])
   (.skip))))
   (.live [7] (.seq (.region [⟨(some 28), none, (.op (.mv (.t 7)))⟩,
    ⟨(some 6), none, (.op (.mv (.t 28)))⟩])
   (.ret))))))))),
  []⟩


/- (*floodgate/disk.Disk).Sync -/

def c172 : IFunc := ⟨1, [.tmp 2],
  .seq (.region [⟨(some 2), none, (.op (.mv (.c (.i .i64 0))))⟩])
   (.live [0] (.seq (.region [⟨(some 4), none, (.op (.mv (.t 0)))⟩,
    ⟨(some 5), none, (.call 219 [(.t 4)])⟩,
    ⟨(some 3), none, (.op (.mv (.t 5)))⟩])
   (.live [3, 0] (.seq (.seq (.region [⟨(some 6), none, (.op (.mv (.t 3)))⟩,
    ⟨(some 7), none, (.op (.bin .int true .eql (.t 6) (.c (.i .i64 0))))⟩])
   (.live [3, 0, 7] (.cond (.t 7) (.region [⟨(some 8), none, (.op (.mv (.t 0)))⟩,
    ⟨(some 9), none, (.call 139 [(.t 8), (.c (.f (.func 220) [] []))])⟩])
   (.skip))))
   (.live [3] (.seq (.region [⟨(some 10), none, (.op (.mv (.t 3)))⟩,
    ⟨(some 2), none, (.op (.mv (.t 10)))⟩])
   (.ret))))))),
  []⟩


/- floodgate/area.Used -/

def c180 : IFunc := ⟨3, [.tmp 6, .tmp 7],
  .seq (.region [⟨(some 6), none, (.op (.mv (.c (.i .i64 0))))⟩,
    ⟨(some 7), none, (.op (.mv (.c (.i .i64 0))))⟩])
   (.live [1, 2, 0] (.seq (.region [⟨(some 11), none, (.op (.mv (.t 0)))⟩,
    ⟨(some 12), none, (.op (.mv (.t 1)))⟩,
    ⟨(some 13), none, (.op (.mv (.t 2)))⟩,
    ⟨(some 14), none, (.op (.bslice [(.i .i64 0)] 2 [(0, 1, (.t 12)), (1, 1, (.t 13))]))⟩,
    ⟨(some 15), none, (.call 217 [(.t 11), (.t 14)])⟩,
    ⟨(some 10), none, (.op (.mv (.t 15)))⟩,
    ⟨(some 16), none, (.op (.ext (.t 10) 0))⟩,
    ⟨(some 17), none, (.op (.ext (.t 10) 1))⟩,
    ⟨(some 8), none, (.op (.mv (.t 16)))⟩,
    ⟨(some 9), none, (.op (.mv (.t 17)))⟩])
   (.live [9, 8, 1, 2] (.seq (.seq (.region [⟨(some 18), none, (.op (.mv (.t 9)))⟩,
    ⟨(some 19), none, (.op (.bin .int true .neq (.t 18) (.c (.i .i64 0))))⟩])
   (.live [9, 8, 1, 2, 19] (.cond (.t 19) (.seq (.region [⟨(some 20), none, (.op (.mv (.t 9)))⟩,
    ⟨(some 6), none, (.op (.mv (.c (.i .i64 0))))⟩,
    ⟨(some 7), none, (.op (.mv (.t 20)))⟩])
   (.ret))
   (.skip))))
   (.live [8, 1, 2] (.seq (.region [⟨(some 21), none, (.op (.mv (.t 2)))⟩,
    ⟨(some 22), none, (.op (.mv (.t 1)))⟩,
    ⟨(some 23), none, (.op (.bin .int false .sub (.t 21) (.t 22)))⟩,
    ⟨(some 24), none, (.op (.mv (.t 8)))⟩,
    ⟨(some 25), none, (.op (.bin .int false .add (.t 23) (.t 24)))⟩,
    ⟨(some 26), none, (.op (.mv (.t 8)))⟩,
    ⟨(some 27), none, (.op (.bin .int false .rem (.t 25) (.t 26)))⟩,
    ⟨(some 28), none, (.op (.bin .int true .add (.t 27) (.c (.i .i64 1))))⟩,
    ⟨(some 6), none, (.op (.mv (.t 28)))⟩,
    ⟨(some 7), none, (.op (.mv (.c (.i .i64 0))))⟩])
   (.ret))))))),
  []⟩


/- math/bits.Len64 -/

def c194 : IFunc := ⟨1, [.tmp 2],
  .seq (.region [⟨(some 2), none, (.op (.mv (.c (.i .i64 0))))⟩])
   (.live [0, 2] (.seq (.seq (.region [⟨(some 3), none, (.op (.mv (.t 0)))⟩,
    ⟨(some 4), none, (.op (.bin .int true .geq (.t 3) (.c (.i .u64 4294967296))))⟩])
   (.live [0, 2, 4] (.cond (.t 4) (.seq (.region [⟨(some 5), none, (.op (.mv (.t 0)))⟩,
    ⟨(some 6), none, (.op (.bin .int true .shr (.t 5) (.c (.i .u64 32))))⟩,
    ⟨(some 0), none, (.op (.mv (.t 6)))⟩])
   (.region [⟨(some 2), none, (.op (.mv (.c (.i .i64 32))))⟩]))
   (.skip))))
   (.live [2, 0] (.seq (.seq (.region [⟨(some 7), none, (.op (.mv (.t 0)))⟩,
    ⟨(some 8), none, (.op (.bin .int true .geq (.t 7) (.c (.i .u64 65536))))⟩])
   (.live [2, 0, 8] (.cond (.t 8) (.seq (.region [⟨(some 9), none, (.op (.mv (.t 0)))⟩,
    ⟨(some 10), none, (.op (.bin .int true .shr (.t 9) (.c (.i .u64 16))))⟩,
    ⟨(some 0), none, (.op (.mv (.t 10)))⟩])
   (.live [0, 2] (.region [⟨(some 11), none, (.op (.mv (.t 2)))⟩,
    ⟨(some 12), none, (.op (.bin .int true .add (.t 11) (.c (.i .i64 16))))⟩,
    ⟨(some 2), none, (.op (.mv (.t 12)))⟩])))
   (.skip))))
   (.live [2, 0] (.seq (.seq (.region [⟨(some 13), none, (.op (.mv (.t 0)))⟩,
    ⟨(some 14), none, (.op (.bin .int true .geq (.t 13) (.c (.i .u64 256))))⟩])
   (.live [2, 0, 14] (.cond (.t 14) (.seq (.region [⟨(some 15), none, (.op (.mv (.t 0)))⟩,
    ⟨(some 16), none, (.op (.bin .int true .shr (.t 15) (.c (.i .u64 8))))⟩,
    ⟨(some 0), none, (.op (.mv (.t 16)))⟩])
   (.live [0, 2] (.region [⟨(some 17), none, (.op (.mv (.t 2)))⟩,
    ⟨(some 18), none, (.op (.bin .int true .add (.t 17) (.c (.i .i64 8))))⟩,
    ⟨(some 2), none, (.op (.mv (.t 18)))⟩])))
   (.skip))))
   (.live [0, 2] (.seq (.region [⟨(some 19), none, (.op (.mv (.t 2)))⟩,
    ⟨(some 20), none, (.op (.mv (.t 0)))⟩,
    ⟨(some 21), none, (.op (.toInt .u8 (.t 20)))⟩,
    ⟨(some 22), none, (.op (.ixs (.c (.s [0, 1, 2, 2, 3, 3, 3, 3, 4, 4, 4, 4, 4, 4, 4, 4, 5, 5, 5, 5, 5, 5, 5, 5, 5, 5, 5, 5, 5, 5, 5, 5, 6, 6, 6, 6, 6, 6, 6, 6, 6, 6, 6, 6, 6, 6, 6, 6, 6, 6, 6, 6, 6, 6, 6, 6, 6, 6, 6, 6, 6, 6, 6, 6, 7, 7, 7, 7, 7, 7, 7, 7, 7, 7, 7, 7, 7, 7, 7, 7, 7, 7, 7, 7, 7, 7, 7, 7, 7, 7, 7, 7, 7, 7, 7, 7, 7, 7, 7, 7, 7, 7, 7, 7, 7, 7, 7, 7, 7, 7, 7, 7, 7, 7, 7, 7, 7, 7, 7, 7, 7, 7, 7, 7, 7, 7, 7, 7, 8, 8, 8, 8, 8, 8, 8, 8, 8, 8, 8, 8, 8, 8, 8, 8, 8, 8, 8, 8, 8, 8, 8, 8, 8, 8, 8, 8, 8, 8, 8, 8, 8, 8, 8, 8, 8, 8, 8, 8, 8, 8, 8, 8, 8, 8, 8, 8, 8, 8, 8, 8, 8, 8, 8, 8, 8, 8, 8, 8, 8, 8, 8, 8, 8, 8, 8, 8, 8, 8, 8, 8, 8, 8, 8, 8, 8, 8, 8, 8, 8, 8, 8, 8, 8, 8, 8, 8, 8, 8, 8, 8, 8, 8, 8, 8, 8, 8, 8, 8, 8, 8, 8, 8, 8, 8, 8, 8, 8, 8, 8, 8, 8, 8, 8, 8, 8, 8, 8, 8, 8, 8, 8, 8, 8, 8, 8, 8])) (.t 21)))⟩,
    ⟨(some 23), none, (.op (.toInt .i64 (.t 22)))⟩,
    ⟨(some 24), none, (.op (.bin .int false .add (.t 19) (.t 23)))⟩,
    ⟨(some 2), none, (.op (.mv (.t 24)))⟩])
   (.ret))))))))),
  []⟩


/- floodgate/slot.Record -/
def c195d0 : List Stage :=
  [⟨[(⟨(some 22), none, (.op (.faddr 0 (.t 3)))⟩, 4), (⟨(some 23), none, (.op (.load none (.t 22)))⟩, 4), (⟨(some 24), none, (.op (.faddr 1 (.t 3)))⟩, 4), (⟨(some 25), none, (.op (.load none (.t 24)))⟩, 4), (⟨(some 26), none, (.op (.faddr 2 (.t 3)))⟩, 0), (⟨(some 27), none, (.op (.load none (.t 26)))⟩, 0), (⟨(some 28), none, (.op (.faddr 3 (.t 3)))⟩, 0), (⟨(some 29), none, (.op (.load none (.t 28)))⟩, 0), (⟨(some 30), none, (.op (.toInt .u64 (.t 29)))⟩, 0), (⟨(some 33), none, (.op (.mv (.t 6)))⟩, 2)], none, some ⟨(some 31), none, (.op (.bslice [(.i .u64 0)] 2 [(0, 1, (.t 27)), (1, 1, (.t 30))]))⟩⟩,
    ⟨[], none, some ⟨(some 32), none, (.call 21 [(.t 31)])⟩⟩,
    ⟨[], none, some ⟨(some 34), none, (.op (.bslice [.sn] 2 [(0, 1, (.t 32)), (1, 1, (.t 33))]))⟩⟩,
    ⟨[], none, some ⟨(some 35), none, (.call 42 [(.t 34)])⟩⟩,
    ⟨[(⟨(some 36), none, (.op (.build [(.i .u64 0), (.i .u32 0), .sn] [(0, 1, (.t 23)), (1, 1, (.t 25)), (2, 1, (.t 35))]))⟩, 4)], none, some ⟨none, none, (.op (.store 3 (.t 4) (.t 36)))⟩⟩,
    ⟨[(⟨(some 5), none, (.op (.mv (.c (.i .i64 0))))⟩, 5)], none, none⟩]
def c195d0w : List (ROp × Bool) :=
  [(⟨(some 22), none, (.op (.faddr 0 (.t 3)))⟩, false), (⟨(some 23), none, (.op (.load none (.t 22)))⟩, false), (⟨(some 24), none, (.op (.faddr 1 (.t 3)))⟩, false), (⟨(some 25), none, (.op (.load none (.t 24)))⟩, false), (⟨(some 26), none, (.op (.faddr 2 (.t 3)))⟩, false), (⟨(some 27), none, (.op (.load none (.t 26)))⟩, false), (⟨(some 28), none, (.op (.faddr 3 (.t 3)))⟩, false), (⟨(some 29), none, (.op (.load none (.t 28)))⟩, false), (⟨(some 30), none, (.op (.toInt .u64 (.t 29)))⟩, false), (⟨(some 33), none, (.op (.mv (.t 6)))⟩, false), (⟨(some 31), none, (.op (.bslice [(.i .u64 0)] 2 [(0, 1, (.t 27)), (1, 1, (.t 30))]))⟩, true), (⟨(some 32), none, (.call 21 [(.t 31)])⟩, true), (⟨(some 34), none, (.op (.bslice [.sn] 2 [(0, 1, (.t 32)), (1, 1, (.t 33))]))⟩, true), (⟨(some 35), none, (.call 42 [(.t 34)])⟩, true), (⟨(some 36), none, (.op (.build [(.i .u64 0), (.i .u32 0), .sn] [(0, 1, (.t 23)), (1, 1, (.t 25)), (2, 1, (.t 35))]))⟩, false), (⟨none, none, (.op (.store 3 (.t 4) (.t 36)))⟩, false), (⟨(some 5), none, (.op (.mv (.c (.i .i64 0))))⟩, false)]
theorem c195d0_w {P : Program} {O : Orc} {S0 : Mem} {rd : Bool} {e : Env} {S : Mem} {d : List Nat} {Q : Kont} : W P O S0 rd (.draw c195d0 []) e S d Q = wFl O c195d0w e S (normK Q d) := W_draw' (by kernel_rfl) (by kernel_rfl)
attribute [go_sem] c195d0_w c195d0w
def c195 : IFunc := ⟨2, [.cell 4 (some 3), .tmp 5],
  .seq (.region [⟨(some 3), none, (.op (.box (.t 1)))⟩,
    ⟨(some 4), none, (.op (.fresh [(.i .u64 0), (.i .u32 0), .sn]))⟩,
    ⟨(some 5), none, (.op (.mv (.c (.i .i64 0))))⟩])
   (.live [4, 3, 0] (.seq (.seq (.region [⟨(some 8), none, (.op (.mv (.t 0)))⟩,
    ⟨(some 9), none, (.op (.load (some 6) (.t 3)))⟩,
    ⟨(some 10), none, (.call 234 [(.t 8), (.t 9)])⟩,
    ⟨(some 11), none, (.op (.un .not (.t 10)))⟩])
   (.live [4, 3, 11] (.cond (.t 11) (.seq (.region [⟨(some 12), none, (.op (.build [(.i .u64 0), (.i .u32 0), .sn] []))⟩,
    ⟨none, none, (.op (.store 3 (.t 4) (.t 12)))⟩,
    ⟨(some 5), none, (.op (.mv (.c (.i .i64 141))))⟩])
   (.ret))
   (.skip))))
   (.live [4, 3] (.seq (.region [⟨(some 14), none, (.op (.faddr 4 (.t 3)))⟩,
    ⟨(some 15), none, (.op (.load (some 2) (.t 14)))⟩,
    ⟨(some 16), none, (.call 235 [(.t 15)])⟩,
    ⟨(some 13), none, (.op (.mv (.t 16)))⟩,
    ⟨(some 17), none, (.op (.ext (.t 13) 0))⟩,
    ⟨(some 18), none, (.op (.ext (.t 13) 1))⟩,
    ⟨(some 6), none, (.op (.mv (.t 17)))⟩,
    ⟨(some 7), none, (.op (.mv (.t 18)))⟩])
   (.live [4, 3, 6, 7] (.seq (.seq (.region [⟨(some 19), none, (.op (.mv (.t 7)))⟩,
    ⟨(some 20), none, (.op (.bin .int true .neq (.t 19) (.c (.i .i64 0))))⟩])
   (.live [4, 3, 6, 20] (.cond (.t 20) (.seq (.region [⟨(some 21), none, (.op (.build [(.i .u64 0), (.i .u32 0), .sn] []))⟩,
    ⟨none, none, (.op (.store 3 (.t 4) (.t 21)))⟩,
    ⟨(some 5), none, (.op (.mv (.c (.i .i64 141))))⟩])
   (.ret))
   (.skip))))
   (.live [4, 3, 6] (.seq (.draw c195d0 [])
   (.ret))))))))),
  []⟩


/- floodgate/area.Slot -/

def c196 : IFunc := ⟨1, [.tmp 2],
  .seq (.region [⟨(some 2), none, (.op (.mv (.c (.i .i64 0))))⟩])
   (.live [0] (.seq (.region [⟨(some 3), none, (.op (.mv (.t 0)))⟩,
    ⟨(some 4), none, (.op (.bin .int true .rem (.t 3) (.c (.i .u64 2))))⟩,
    ⟨(some 5), none, (.op (.toInt .i64 (.t 4)))⟩,
    ⟨(some 6), none, (.op (.bin .int true .mul (.t 5) (.c (.i .i64 16))))⟩,
    ⟨(some 2), none, (.op (.mv (.t 6)))⟩])
   (.ret))),
  []⟩


/- floodgate/policy.All -/
def c200d0 : List Stage :=
  [⟨[(⟨(some 17), none, (.op (.mv (.t 3)))⟩, 0), (⟨(some 18), none, (.op (.faddr 1 (.t 5)))⟩, 0), (⟨(some 19), none, (.op (.load (some 5) (.t 18)))⟩, 0), (⟨(some 20), none, (.op (.mlook true [.int, .int, .int, .int, .int] (.i .i64 0) false (.t 17) (.t 19)))⟩, 1), (⟨(some 21), none, (.op (.bin .int true .add (.t 20) (.c (.i .i64 1))))⟩, 1)], none, some ⟨(some 22), none, (.op (.mentry true [.int, .int, .int, .int, .int] (.i .i64 0) (.t 17) (.t 19)))⟩⟩,
    ⟨[(⟨(some 23), none, (.op (.ext (.t 22) 1))⟩, 1)], none, some ⟨none, none, (.op (.mstore (.t 17) (.t 23) (.t 21)))⟩⟩,
    ⟨[], none, none⟩]
theorem c200d0_e {P : Program} {O : Orc} {S0 : Mem} {rd : Bool} {e : Env} {S : Mem} {d : List Nat} {Q : Kont} : W P O S0 rd (.draw c200d0 []) e S d Q = drawK (evDraw O c200d0 [] e S) (normK Q d) := W_drawE (by kernel_rfl)
attribute [go_sem] c200d0_e
def c200d1 : List Stage :=
  [⟨[(⟨(some 24), none, (.op (.load (some 13) (.t 5)))⟩, 0)], none, some ⟨(some 25), none, (.call 188 [(.t 24)])⟩⟩,
    ⟨[(⟨(some 26), none, (.op (.un .not (.t 25)))⟩, 1), (⟨(some 27), none, (.op (.mv (.t 26)))⟩, 1), (⟨(some 28), some (27, false), (.op (.mv (.t 3)))⟩, 1), (⟨(some 29), some (27, false), (.op (.faddr 1 (.t 5)))⟩, 1), (⟨(some 30), some (27, false), (.op (.load (some 5) (.t 29)))⟩, 1), (⟨(some 31), some (27, false), (.op (.mlook true [.int, .int, .int, .int, .int] (.i .i64 0) false (.t 28) (.t 30)))⟩, 1), (⟨(some 32), some (27, false), (.op (.bin .int true .gtr (.t 31) (.c (.i .i64 1))))⟩, 1), (⟨(some 33), none, (.op (.pick (.t 27) (.c (.b true)) (.t 32)))⟩, 1), (⟨(some 34), none, (.op (.mv (.t 33)))⟩, 1), (⟨(some 35), some (34, false), (.op (.mv (.t 4)))⟩, 1), (⟨(some 36), some (34, false), (.op (.bin .int true .gtr (.t 35) (.c (.i .i64 0))))⟩, 1), (⟨(some 37), some (34, false), (.op (.mv (.t 36)))⟩, 1), (⟨(some 38), some (37, true), (.op (.faddr 0 (.t 5)))⟩, 1), (⟨(some 39), some (37, true), (.op (.load none (.t 38)))⟩, 1), (⟨(some 40), some (37, true), (.op (.mv (.t 0)))⟩, 1), (⟨(some 41), some (37, true), (.op (.mv (.t 4)))⟩, 1), (⟨(some 42), some (37, true), (.op (.bin .int true .sub (.t 41) (.c (.i .i64 1))))⟩, 1), (⟨(some 43), some (37, true), (.op (.iaddr none 13 (.t 40) (.t 42)))⟩, 1), (⟨(some 44), some (37, true), (.op (.faddr 0 (.t 43)))⟩, 1), (⟨(some 45), some (37, true), (.op (.load none (.t 44)))⟩, 1), (⟨(some 46), some (37, true), (.op (.bin .int false .leq (.t 39) (.t 45)))⟩, 1), (⟨(some 47), some (34, false), (.op (.pick (.t 37) (.t 46) (.c (.b false))))⟩, 1), (⟨(some 48), none, (.op (.pick (.t 34) (.c (.b true)) (.t 47)))⟩, 1)], none, none⟩]
def c200d1w : List (ROp × Bool) :=
  [(⟨(some 24), none, (.op (.load (some 13) (.t 5)))⟩, false), (⟨(some 25), none, (.call 188 [(.t 24)])⟩, false), (⟨(some 26), none, (.op (.un .not (.t 25)))⟩, false), (⟨(some 27), none, (.op (.mv (.t 26)))⟩, false), (⟨(some 28), some (27, false), (.op (.mv (.t 3)))⟩, false), (⟨(some 29), some (27, false), (.op (.faddr 1 (.t 5)))⟩, false), (⟨(some 30), some (27, false), (.op (.load (some 5) (.t 29)))⟩, false), (⟨(some 31), some (27, false), (.op (.mlook true [.int, .int, .int, .int, .int] (.i .i64 0) false (.t 28) (.t 30)))⟩, false), (⟨(some 32), some (27, false), (.op (.bin .int true .gtr (.t 31) (.c (.i .i64 1))))⟩, false), (⟨(some 33), none, (.op (.pick (.t 27) (.c (.b true)) (.t 32)))⟩, false), (⟨(some 34), none, (.op (.mv (.t 33)))⟩, false), (⟨(some 35), some (34, false), (.op (.mv (.t 4)))⟩, false), (⟨(some 36), some (34, false), (.op (.bin .int true .gtr (.t 35) (.c (.i .i64 0))))⟩, false), (⟨(some 37), some (34, false), (.op (.mv (.t 36)))⟩, false), (⟨(some 38), some (37, true), (.op (.faddr 0 (.t 5)))⟩, false), (⟨(some 39), some (37, true), (.op (.load none (.t 38)))⟩, false), (⟨(some 40), some (37, true), (.op (.mv (.t 0)))⟩, false), (⟨(some 41), some (37, true), (.op (.mv (.t 4)))⟩, false), (⟨(some 42), some (37, true), (.op (.bin .int true .sub (.t 41) (.c (.i .i64 1))))⟩, false), (⟨(some 43), some (37, true), (.op (.iaddr none 13 (.t 40) (.t 42)))⟩, false), (⟨(some 44), some (37, true), (.op (.faddr 0 (.t 43)))⟩, false), (⟨(some 45), some (37, true), (.op (.load none (.t 44)))⟩, false), (⟨(some 46), some (37, true), (.op (.bin .int false .leq (.t 39) (.t 45)))⟩, false), (⟨(some 47), some (34, false), (.op (.pick (.t 37) (.t 46) (.c (.b false))))⟩, false), (⟨(some 48), none, (.op (.pick (.t 34) (.c (.b true)) (.t 47)))⟩, false)]
theorem c200d1_w {P : Program} {O : Orc} {S0 : Mem} {rd : Bool} {e : Env} {S : Mem} {d : List Nat} {Q : Kont} : W P O S0 rd (.draw c200d1 []) e S d Q = wFl O c200d1w e S (normK Q d) := W_draw' (by kernel_rfl) (by kernel_rfl)
attribute [go_sem] c200d1_w c200d1w
def c200l2 : ICode :=
  .seq (.region [⟨(some 13), none, (.op (.bin .int false .lss (.t 12) (.t 11)))⟩])
   (.live [3, 0, 10, 11, 12, 13] (.seq (.cond (.t 13) (.skip)
   (.exit 0))
   (.live [3, 0, 10, 11, 12] (.seq (.block 1 (.seq (.region [⟨(some 14), none, (.op (.mv (.t 12)))⟩,
    ⟨(some 15), none, (.op (.iaddr none 13 (.t 10) (.t 12)))⟩,
    ⟨(some 16), none, (.op (.load (some 13) (.t 15)))⟩,
    ⟨(some 5), none, (.op (.fresh [(.i .i64 0), (.i .u8 0), (.i .u8 0), (.i .u8 0), (.i .u8 0), (.i .i64 0), (.i .u64 0), (.i .u64 0), (.i .u64 0), (.i .u64 0), (.i .u64 0), (.i .u64 0), (.i .u64 0)]))⟩,
    ⟨(some 4), none, (.op (.mv (.t 14)))⟩,
    ⟨none, none, (.op (.store 13 (.t 5) (.t 16)))⟩])
   (.live [3, 0, 10, 11, 12, 5, 4] (.seq (.draw c200d0 [])
   (.live [3, 0, 10, 11, 12, 5, 4] (.seq (.draw c200d1 [])
   (.live [3, 0, 10, 11, 12, 48] (.cond (.t 48) (.seq (.region [⟨(some 2), none, (.op (.mv (.c (.i .i64 111))))⟩])
   (.ret))
   (.skip)))))))))
   (.live [3, 0, 10, 11, 12] (.region [⟨(some 49), none, (.op (.bin .int true .add (.t 12) (.c (.i .i64 1))))⟩,
    ⟨(some 12), none, (.op (.mv (.t 49)))⟩]))))))
def c200 : IFunc := ⟨1, [.tmp 2],
  .seq (.region [⟨(some 2), none, (.op (.mv (.c (.i .i64 0))))⟩])
   (.live [0] (.seq (.seq (.region [⟨(some 6), none, (.op (.mv (.t 0)))⟩,
    ⟨(some 7), none, (.op (.len .slice (.t 6)))⟩,
    ⟨(some 8), none, (.op (.bin .int true .gtr (.t 7) (.c (.i .i64 8))))⟩])
   (.live [0, 8] (.cond (.t 8) (.seq (.region [⟨(some 2), none, (.op (.mv (.c (.i .i64 111))))⟩])
   (.ret))
   (.skip))))
   (.live [0] (.seq (.region [⟨(some 9), none, (.op (.mkmap none))⟩,
    ⟨(some 3), none, (.op (.mv (.t 9)))⟩])
   (.live [3, 0] (.seq (.seq (.region [⟨(some 10), none, (.op (.mv (.t 0)))⟩,
    ⟨(some 11), none, (.op (.len .slice (.t 10)))⟩,
    ⟨(some 12), none, (.op (.mv (.c (.i .i64 0))))⟩])
   (.live [3, 0, 10, 11, 12] (.block 0 (.loop [3, 0, 10, 11, 12] c200l2))))
   (.live [] (.seq (.region [⟨(some 2), none, (.op (.mv (.c (.i .i64 0))))⟩])
   (.ret))))))))),
  []⟩


/- floodgate/book.policies -/
def c201l0 : ICode :=
  .seq (.region [⟨(some 9), none, (.op (.bin .int false .lss (.t 8) (.t 7)))⟩])
   (.live [6, 7, 8, 3, 9] (.seq (.cond (.t 9) (.skip)
   (.exit 0))
   (.live [6, 7, 8, 3] (.seq (.block 1 (.seq (.region [⟨(some 10), none, (.op (.iaddr none 14 (.t 6) (.t 8)))⟩,
    ⟨(some 11), none, (.op (.load (some 14) (.t 10)))⟩,
    ⟨(some 5), none, (.op (.fresh [(.i .i64 0), (.i .u8 0), (.i .u8 0), (.i .u8 0), (.i .u8 0), (.i .i64 0), (.i .u64 0), (.i .u64 0), (.i .u64 0), (.i .u64 0), (.i .u64 0), (.i .u64 0), (.i .u64 0), (.i .u64 0)]))⟩,
    ⟨none, none, (.op (.store 14 (.t 5) (.t 11)))⟩])
   (.live [6, 7, 8, 5, 3] (.region [⟨(some 12), none, (.op (.mv (.t 3)))⟩,
    ⟨(some 13), none, (.op (.faddr 0 (.t 5)))⟩,
    ⟨(some 14), none, (.op (.load (some 13) (.t 13)))⟩,
    ⟨(some 15), none, (.op (.bslice [(.i .i64 0), (.i .u8 0), (.i .u8 0), (.i .u8 0), (.i .u8 0), (.i .i64 0), (.i .u64 0), (.i .u64 0), (.i .u64 0), (.i .u64 0), (.i .u64 0), (.i .u64 0), (.i .u64 0)] 1 [(0, 13, (.t 14))]))⟩,
    ⟨(some 16), none, (.op (.app 13 80 (.t 12) (.t 15)))⟩,
    ⟨(some 3), none, (.op (.mv (.t 16)))⟩]))))
   (.live [6, 7, 3, 8] (.region [⟨(some 17), none, (.op (.bin .int true .add (.t 8) (.c (.i .i64 1))))⟩,
    ⟨(some 8), none, (.op (.mv (.t 17)))⟩]))))))
def c201 : IFunc := ⟨1, [.tmp 2],
  .seq (.region [⟨(some 2), none, (.op (.mv (.c .sn)))⟩])
   (.live [0] (.seq (.region [⟨(some 3), none, (.op (.mv (.c .sn)))⟩])
   (.live [3, 0] (.seq (.seq (.region [⟨(some 6), none, (.op (.mv (.t 0)))⟩,
    ⟨(some 7), none, (.op (.len .slice (.t 6)))⟩,
    ⟨(some 8), none, (.op (.mv (.c (.i .i64 0))))⟩])
   (.live [6, 7, 8, 3] (.block 0 (.loop [6, 7, 8, 3] c201l0))))
   (.live [3] (.seq (.region [⟨(some 18), none, (.op (.mv (.t 3)))⟩,
    ⟨(some 2), none, (.op (.mv (.t 18)))⟩])
   (.ret))))))),
  []⟩


/- slices.ContainsFunc[[]floodgate/api.Entry,floodgate/api.Entry] -/

def c202 : IFunc := ⟨2, [.tmp 4],
  .seq (.region [⟨(some 4), none, (.op (.mv (.c (.b false))))⟩])
   (.live [1, 0] (.seq (.region [⟨(some 5), none, (.op (.mv (.t 0)))⟩,
    ⟨(some 6), none, (.op (.mv (.t 1)))⟩,
    ⟨(some 7), none, (.call 236 [(.t 5), (.t 6)])⟩,
    ⟨(some 8), none, (.op (.bin .int true .geq (.t 7) (.c (.i .i64 0))))⟩,
    ⟨(some 4), none, (.op (.mv (.t 8)))⟩])
   (.ret))),
  []⟩


/- floodgate/frame.Size -/

def c213 : IFunc := ⟨1, [.tmp 2],
  .seq (.region [⟨(some 2), none, (.op (.mv (.c (.i .i64 0))))⟩])
   (.live [0] (.seq (.seq (.region [⟨(some 3), none, (.op (.mv (.t 0)))⟩,
    ⟨(some 4), none, (.op (.bin .int true .lss (.t 3) (.c (.i .i64 0))))⟩,
    ⟨(some 5), none, (.op (.mv (.t 4)))⟩,
    ⟨(some 6), some (5, false), (.op (.mv (.t 0)))⟩,
    ⟨(some 7), some (5, false), (.op (.bin .int true .gtr (.t 6) (.c (.i .i64 700))))⟩,
    ⟨(some 8), none, (.op (.pick (.t 5) (.c (.b true)) (.t 7)))⟩])
   (.live [0, 8] (.cond (.t 8) (.seq (.region [⟨(some 2), none, (.op (.mv (.c (.i .i64 0))))⟩])
   (.ret))
   (.skip))))
   (.live [0] (.seq (.region [⟨(some 9), none, (.op (.mv (.t 0)))⟩,
    ⟨(some 10), none, (.op (.bin .int true .add (.c (.i .i64 14)) (.t 9)))⟩,
    ⟨(some 11), none, (.op (.bin .int true .add (.t 10) (.c (.i .i64 4))))⟩,
    ⟨(some 12), none, (.op (.bin .int true .add (.t 11) (.c (.i .i64 64))))⟩,
    ⟨(some 13), none, (.op (.bin .int true .sub (.t 12) (.c (.i .i64 1))))⟩,
    ⟨(some 14), none, (.op (.bin .int true .quo (.t 13) (.c (.i .i64 64))))⟩,
    ⟨(some 2), none, (.op (.mv (.t 14)))⟩])
   (.ret))))),
  []⟩


/- floodgate/crc.Seal -/

def c214 : IFunc := ⟨1, [.tmp 2],
  .seq (.region [⟨(some 2), none, (.op (.mv (.c .sn)))⟩])
   (.live [0] (.seq (.region [⟨(some 3), none, (.op (.mv (.t 0)))⟩,
    ⟨(some 4), none, (.op (.mv (.t 0)))⟩,
    ⟨(some 5), none, (.op (.bslice [.sn] 1 [(0, 1, (.t 4))]))⟩,
    ⟨(some 6), none, (.call 246 [(.t 5)])⟩,
    ⟨(some 7), none, (.call 245 [(.t 6)])⟩,
    ⟨(some 8), none, (.op (.bslice [.sn] 2 [(0, 1, (.t 3)), (1, 1, (.t 7))]))⟩,
    ⟨(some 9), none, (.call 42 [(.t 8)])⟩,
    ⟨(some 2), none, (.op (.mv (.t 9)))⟩])
   (.ret))),
  []⟩


/- floodgate/frame.number -/
def c215ra0 : ICode :=
  .region [⟨(some 6), none, (.op (.mv (.t 11)))⟩]
def c215rb0 : ICode :=
  .block 1 (.seq (.region [⟨(some 13), none, (.op (.load none (.t 5)))⟩,
    ⟨(some 14), none, (.op (.mv (.t 6)))⟩,
    ⟨(some 15), none, (.op (.load none (.t 2)))⟩,
    ⟨(some 16), none, (.op (.toInt .u8 (.t 15)))⟩,
    ⟨(some 17), none, (.op (.iaddr none 1 (.t 13) (.t 14)))⟩,
    ⟨none, none, (.op (.store 1 (.t 17) (.t 16)))⟩])
   (.live [2] (.region [⟨(some 18), none, (.op (.load none (.t 2)))⟩,
    ⟨(some 19), none, (.op (.bin .int true .shr (.t 18) (.c (.i .u64 8))))⟩,
    ⟨none, none, (.op (.store 1 (.t 2) (.t 19)))⟩])))
def c215 : IFunc := ⟨2, [.tmp 4],
  .seq (.region [⟨(some 2), none, (.op (.box (.t 0)))⟩,
    ⟨(some 4), none, (.op (.mv (.c .sn)))⟩])
   (.live [11, 6, 15, 13, 14, 17, 16, 18, 2, 19, 1] (.seq (.region [⟨(some 7), none, (.op (.mv (.t 1)))⟩,
    ⟨(some 8), none, (.op (.mks [(.i .u8 0)] 1 (.t 7) (.t 7)))⟩,
    ⟨(some 5), none, (.op (.fresh [.sn]))⟩,
    ⟨none, none, (.op (.store 1 (.t 5) (.t 8)))⟩])
   (.live [5, 11, 6, 15, 13, 14, 17, 16, 18, 2, 19] (.seq (.seq (.region [⟨(some 9), none, (.op (.load none (.t 5)))⟩,
    ⟨(some 10), none, (.call 247 [(.t 9)])⟩])
   (.live [5, 11, 6, 15, 13, 14, 17, 16, 18, 2, 19, 10] (.block 0 (.rf (.t 10) 215 [true, true, false, true, false] [11, 5, 6, 2, 15, 13, 14, 17, 16, 2, 18, 2, 19]))))
   (.live [5] (.seq (.region [⟨(some 20), none, (.op (.load none (.t 5)))⟩,
    ⟨(some 4), none, (.op (.mv (.t 20)))⟩])
   (.ret))))))),
  [([true, true, false, true, false], [11, 12], c215ra0, c215rb0)]⟩


/- floodgate/area.there -/
def c217l0 : ICode :=
  .seq (.region [⟨(some 18), none, (.op (.bin .int false .lss (.t 17) (.t 16)))⟩])
   (.live [6, 15, 16, 17, 7, 18] (.seq (.cond (.t 18) (.skip)
   (.exit 0))
   (.live [6, 15, 16, 17, 7] (.seq (.block 1 (.seq (.region [⟨(some 19), none, (.op (.iaddr none 1 (.t 15) (.t 17)))⟩,
    ⟨(some 20), none, (.op (.load none (.t 19)))⟩,
    ⟨(some 9), none, (.op (.mv (.t 20)))⟩])
   (.live [6, 15, 16, 17, 7, 9] (.seq (.region [⟨(some 21), none, (.op (.mv (.t 9)))⟩,
    ⟨(some 22), none, (.op (.bin .int true .lss (.t 21) (.c (.i .i64 0))))⟩,
    ⟨(some 23), none, (.op (.mv (.t 22)))⟩,
    ⟨(some 24), some (23, false), (.op (.mv (.t 9)))⟩,
    ⟨(some 25), some (23, false), (.op (.mv (.t 6)))⟩,
    ⟨(some 26), some (23, false), (.op (.bin .int false .geq (.t 24) (.t 25)))⟩,
    ⟨(some 27), none, (.op (.pick (.t 23) (.c (.b true)) (.t 26)))⟩])
   (.live [6, 15, 16, 17, 7, 27] (.cond (.t 27) (.region [⟨(some 7), none, (.op (.mv (.c (.i .i64 91))))⟩])
   (.skip)))))))
   (.live [6, 15, 16, 7, 17] (.region [⟨(some 28), none, (.op (.bin .int true .add (.t 17) (.c (.i .i64 1))))⟩,
    ⟨(some 17), none, (.op (.mv (.t 28)))⟩]))))))
def c217 : IFunc := ⟨2, [.tmp 4, .tmp 5],
  .seq (.region [⟨(some 4), none, (.op (.mv (.c (.i .i64 0))))⟩,
    ⟨(some 5), none, (.op (.mv (.c (.i .i64 0))))⟩])
   (.live [1, 0] (.seq (.region [⟨(some 11), none, (.op (.mv (.t 0)))⟩,
    ⟨(some 12), none, (.call 106 [(.t 11)])⟩,
    ⟨(some 10), none, (.op (.mv (.t 12)))⟩,
    ⟨(some 13), none, (.op (.ext (.t 10) 0))⟩,
    ⟨(some 14), none, (.op (.ext (.t 10) 1))⟩,
    ⟨(some 6), none, (.op (.mv (.t 13)))⟩,
    ⟨(some 7), none, (.op (.mv (.t 14)))⟩])
   (.live [6, 7, 1] (.seq (.seq (.region [⟨(some 15), none, (.op (.mv (.t 1)))⟩,
    ⟨(some 16), none, (.op (.len .slice (.t 15)))⟩,
    ⟨(some 17), none, (.op (.mv (.c (.i .i64 0))))⟩])
   (.live [6, 15, 16, 17, 7] (.block 0 (.loop [6, 15, 16, 17, 7] c217l0))))
   (.live [7, 6] (.seq (.region [⟨(some 29), none, (.op (.mv (.t 6)))⟩,
    ⟨(some 30), none, (.op (.mv (.t 7)))⟩,
    ⟨(some 4), none, (.op (.mv (.t 29)))⟩,
    ⟨(some 5), none, (.op (.mv (.t 30)))⟩])
   (.ret))))))),
  []⟩


/- (*floodgate/disk.Disk).there -/

def c218 : IFunc := ⟨2, [.tmp 4],
  .seq (.region [⟨(some 4), none, (.op (.mv (.c (.b false))))⟩])
   (.live [0, 1] (.seq (.region [⟨(some 5), none, (.op (.mv (.t 1)))⟩,
    ⟨(some 6), none, (.op (.bin .int true .geq (.t 5) (.c (.i .i64 0))))⟩,
    ⟨(some 7), none, (.op (.mv (.t 6)))⟩,
    ⟨(some 8), some (7, true), (.op (.mv (.t 1)))⟩,
    ⟨(some 9), some (7, true), (.op (.mv (.t 0)))⟩,
    ⟨(some 10), some (7, true), (.op (.nilck (.t 9)))⟩,
    ⟨(some 11), some (7, true), (.op (.faddr 0 (.t 10)))⟩,
    ⟨(some 12), some (7, true), (.op (.load none (.t 11)))⟩,
    ⟨(some 13), some (7, true), (.op (.len .slice (.t 12)))⟩,
    ⟨(some 14), some (7, true), (.op (.bin .int false .lss (.t 8) (.t 13)))⟩,
    ⟨(some 15), none, (.op (.pick (.t 7) (.t 14) (.c (.b false))))⟩,
    ⟨(some 4), none, (.op (.mv (.t 15)))⟩])
   (.ret))),
  []⟩


/- (*floodgate/disk.Disk).act -/

def c219 : IFunc := ⟨1, [.tmp 2],
  .seq (.region [⟨(some 2), none, (.op (.mv (.c (.i .i64 0))))⟩])
   (.live [0] (.seq (.block 0 (.seq (.region [⟨(some 4), none, (.op (.mv (.t 0)))⟩,
    ⟨(some 5), none, (.op (.nilck (.t 4)))⟩,
    ⟨(some 6), none, (.op (.faddr 3 (.t 5)))⟩,
    ⟨(some 7), none, (.op (.load none (.t 6)))⟩,
    ⟨(some 3), none, (.op (.mv (.t 7)))⟩])
   (.live [0, 3] (.cond (.t 3) (.skip)
   (.seq (.region [⟨(some 9), none, (.op (.mv (.t 0)))⟩,
    ⟨(some 10), none, (.op (.nilck (.t 9)))⟩,
    ⟨(some 11), none, (.op (.faddr 2 (.t 10)))⟩,
    ⟨(some 12), none, (.op (.load none (.t 11)))⟩,
    ⟨(some 13), none, (.op (.bin .int true .eql (.t 12) (.c (.i .i64 (-1)))))⟩,
    ⟨(some 8), none, (.op (.mv (.t 13)))⟩])
   (.live [0, 8] (.cond (.t 8) (.seq (.region [⟨(some 2), none, (.op (.mv (.c (.i .i64 0))))⟩])
   (.ret))
   (.seq (.region [⟨(some 15), none, (.op (.mv (.t 0)))⟩,
    ⟨(some 16), none, (.op (.nilck (.t 15)))⟩,
    ⟨(some 17), none, (.op (.faddr 2 (.t 16)))⟩,
    ⟨(some 18), none, (.op (.load none (.t 17)))⟩,
    ⟨(some 19), none, (.op (.bin .int true .gtr (.t 18) (.c (.i .i64 0))))⟩,
    ⟨(some 14), none, (.op (.mv (.t 19)))⟩])
   (.live [0, 14] (.cond (.t 14) (.seq (.region [⟨(some 20), none, (.op (.mv (.t 0)))⟩,
    ⟨(some 21), none, (.op (.nilck (.t 20)))⟩,
    ⟨(some 22), none, (.op (.faddr 2 (.t 21)))⟩,
    ⟨(some 23), none, (.op (.load none (.t 22)))⟩,
    ⟨(some 24), none, (.op (.bin .int true .sub (.t 23) (.c (.i .i64 1))))⟩,
    ⟨(some 25), none, (.op (.nilck (.t 20)))⟩,
    ⟨(some 26), none, (.op (.faddr 2 (.t 25)))⟩,
    ⟨none, none, (.op (.store 1 (.t 26) (.t 24)))⟩])
   (.live [] (.seq (.region [⟨(some 2), none, (.op (.mv (.c (.i .i64 0))))⟩])
   (.ret))))
   (.skip)))))))))))
   (.live [0] (.seq (.region [⟨(some 27), none, (.op (.mv (.t 0)))⟩,
    ⟨(some 28), none, (.op (.nilck (.t 27)))⟩,
    ⟨(some 29), none, (.op (.faddr 3 (.t 28)))⟩,
    ⟨none, none, (.op (.store 1 (.t 29) (.c (.b true))))⟩])
   (.live [] (.seq (.region [⟨(some 2), none, (.op (.mv (.c (.i .i64 72))))⟩])
   (.ret))))))),
  []⟩


/- (*floodgate/disk.Disk).Sync$1 -/

def c220 : IFunc := ⟨1, [.tmp 2],
  .seq (.region [⟨(some 2), none, (.op (.mv (.c (.b false))))⟩])
   (.live [] (.seq (.region [⟨(some 2), none, (.op (.mv (.c (.b true))))⟩])
   (.ret))),
  []⟩


/- floodgate/slot.Right -/
def c234d0 : List Stage :=
  [⟨[(⟨(some 8), none, (.op (.mv (.t 0)))⟩, 0), (⟨(some 10), none, (.op (.faddr 3 (.t 3)))⟩, 1), (⟨(some 11), none, (.op (.load none (.t 10)))⟩, 1)], none, some ⟨(some 9), none, (.call 107 [(.t 8)])⟩⟩,
    ⟨[], none, some ⟨(some 12), none, (.call 170 [(.t 9), (.t 11)])⟩⟩,
    ⟨[(⟨(some 7), none, (.op (.mv (.t 12)))⟩, 2), (⟨(some 13), none, (.op (.ext (.t 7) 0))⟩, 2), (⟨(some 14), none, (.op (.ext (.t 7) 1))⟩, 2), (⟨(some 5), none, (.op (.mv (.t 13)))⟩, 2), (⟨(some 6), none, (.op (.mv (.t 14)))⟩, 2)], none, none⟩]
def c234d0w : List (ROp × Bool) :=
  [(⟨(some 8), none, (.op (.mv (.t 0)))⟩, false), (⟨(some 10), none, (.op (.faddr 3 (.t 3)))⟩, false), (⟨(some 11), none, (.op (.load none (.t 10)))⟩, false), (⟨(some 9), none, (.call 107 [(.t 8)])⟩, true), (⟨(some 12), none, (.call 170 [(.t 9), (.t 11)])⟩, false), (⟨(some 7), none, (.op (.mv (.t 12)))⟩, false), (⟨(some 13), none, (.op (.ext (.t 7) 0))⟩, false), (⟨(some 14), none, (.op (.ext (.t 7) 1))⟩, false), (⟨(some 5), none, (.op (.mv (.t 13)))⟩, false), (⟨(some 6), none, (.op (.mv (.t 14)))⟩, false)]
theorem c234d0_w {P : Program} {O : Orc} {S0 : Mem} {rd : Bool} {e : Env} {S : Mem} {d : List Nat} {Q : Kont} : W P O S0 rd (.draw c234d0 []) e S d Q = wFl O c234d0w e S (normK Q d) := W_draw' (by kernel_rfl) (by kernel_rfl)
attribute [go_sem] c234d0_w c234d0w
def c234 : IFunc := ⟨2, [.tmp 4],
  .seq (.region [⟨(some 3), none, (.op (.box (.t 1)))⟩,
    ⟨(some 4), none, (.op (.mv (.c (.b false))))⟩])
   (.live [3, 0] (.seq (.draw c234d0 [])
   (.live [3, 6] (.seq (.region [⟨(some 15), none, (.op (.mv (.t 6)))⟩,
    ⟨(some 16), none, (.op (.bin .int true .eql (.t 15) (.c (.i .i64 0))))⟩,
    ⟨(some 17), none, (.op (.mv (.t 16)))⟩,
    ⟨(some 18), some (17, true), (.op (.faddr 0 (.t 3)))⟩,
    ⟨(some 19), some (17, true), (.op (.load none (.t 18)))⟩,
    ⟨(some 20), some (17, true), (.call 258 [(.t 19)])⟩,
    ⟨(some 21), none, (.op (.pick (.t 17) (.t 20) (.c (.b false))))⟩,
    ⟨(some 22), none, (.op (.mv (.t 21)))⟩,
    ⟨(some 23), some (22, true), (.op (.faddr 2 (.t 3)))⟩,
    ⟨(some 24), some (22, true), (.op (.load none (.t 23)))⟩,
    ⟨(some 25), some (22, true), (.call 258 [(.t 24)])⟩,
    ⟨(some 26), none, (.op (.pick (.t 22) (.t 25) (.c (.b false))))⟩,
    ⟨(some 27), none, (.op (.mv (.t 26)))⟩,
    ⟨(some 28), some (27, true), (.op (.faddr 1 (.t 3)))⟩,
    ⟨(some 29), some (27, true), (.op (.load none (.t 28)))⟩,
    ⟨(some 30), some (27, true), (.op (.bin .int true .leq (.t 29) (.c (.i .u32 2147483648))))⟩,
    ⟨(some 31), none, (.op (.pick (.t 27) (.t 30) (.c (.b false))))⟩,
    ⟨(some 32), none, (.op (.mv (.t 31)))⟩,
    ⟨(some 33), some (32, true), (.op (.faddr 4 (.t 3)))⟩,
    ⟨(some 34), some (32, true), (.op (.load (some 2) (.t 33)))⟩,
    ⟨(some 35), some (32, true), (.call 161 [(.t 34)])⟩,
    ⟨(some 36), none, (.op (.pick (.t 32) (.t 35) (.c (.b false))))⟩,
    ⟨(some 4), none, (.op (.mv (.t 36)))⟩])
   (.ret))))),
  []⟩


/- floodgate/book.Bytes -/
def c235d0 : List Stage :=
  [⟨[(⟨(some 20), none, (.op (.mv (.t 4)))⟩, 1), (⟨(some 21), none, (.op (.faddr 0 (.t 6)))⟩, 0), (⟨(some 22), none, (.op (.load (some 13) (.t 21)))⟩, 0), (⟨(some 25), none, (.op (.faddr 13 (.t 6)))⟩, 2), (⟨(some 26), none, (.op (.load none (.t 25)))⟩, 2)], none, some ⟨(some 23), none, (.call 167 [(.t 22)])⟩⟩,
    ⟨[], none, some ⟨(some 24), none, (.op (.app 1 8 (.t 20) (.t 23)))⟩⟩,
    ⟨[], some ⟨(some 27), none, (.op (.bslice [(.i .u64 0)] 1 [(0, 1, (.t 26))]))⟩, some ⟨(some 28), none, (.op (.app 1 8 (.t 24) (.t 27)))⟩⟩,
    ⟨[(⟨(some 4), none, (.op (.mv (.t 28)))⟩, 3)], none, none⟩]
theorem c235d0_e {P : Program} {O : Orc} {S0 : Mem} {rd : Bool} {e : Env} {S : Mem} {d : List Nat} {Q : Kont} : W P O S0 rd (.draw c235d0 [4]) e S d Q = drawK (evDraw O c235d0 [4] e S) (normK Q d) := W_drawE (by kernel_rfl)
attribute [go_sem] c235d0_e
def c235l1 : ICode :=
  .seq (.region [⟨(some 17), none, (.op (.bin .int false .lss (.t 16) (.t 15)))⟩])
   (.live [14, 15, 16, 4, 17] (.seq (.cond (.t 17) (.skip)
   (.exit 0))
   (.live [14, 15, 16, 4] (.seq (.block 1 (.seq (.region [⟨(some 18), none, (.op (.iaddr none 14 (.t 14) (.t 16)))⟩,
    ⟨(some 19), none, (.op (.load (some 14) (.t 18)))⟩,
    ⟨(some 6), none, (.op (.fresh [(.i .i64 0), (.i .u8 0), (.i .u8 0), (.i .u8 0), (.i .u8 0), (.i .i64 0), (.i .u64 0), (.i .u64 0), (.i .u64 0), (.i .u64 0), (.i .u64 0), (.i .u64 0), (.i .u64 0), (.i .u64 0)]))⟩,
    ⟨none, none, (.op (.store 14 (.t 6) (.t 19)))⟩])
   (.live [14, 15, 16, 6, 4] (.draw c235d0 [4]))))
   (.live [14, 15, 4, 16] (.region [⟨(some 29), none, (.op (.bin .int true .add (.t 16) (.c (.i .i64 1))))⟩,
    ⟨(some 16), none, (.op (.mv (.t 29)))⟩]))))))
def c235 : IFunc := ⟨1, [.tmp 2, .tmp 3],
  .seq (.region [⟨(some 1), none, (.op (.box (.t 0)))⟩,
    ⟨(some 2), none, (.op (.mv (.c .sn)))⟩,
    ⟨(some 3), none, (.op (.mv (.c (.i .i64 0))))⟩])
   (.live [1] (.seq (.seq (.region [⟨(some 7), none, (.op (.load (some 2) (.t 1)))⟩,
    ⟨(some 8), none, (.call 161 [(.t 7)])⟩,
    ⟨(some 9), none, (.op (.un .not (.t 8)))⟩])
   (.live [1, 9] (.cond (.t 9) (.seq (.region [⟨(some 2), none, (.op (.mv (.c .sn)))⟩,
    ⟨(some 3), none, (.op (.mv (.c (.i .i64 131))))⟩])
   (.ret))
   (.skip))))
   (.live [1] (.seq (.region [⟨(some 10), none, (.op (.faddr 0 (.t 1)))⟩,
    ⟨(some 11), none, (.op (.load none (.t 10)))⟩,
    ⟨(some 12), none, (.op (.bslice [(.i .u64 0)] 1 [(0, 1, (.t 11))]))⟩,
    ⟨(some 4), none, (.op (.mv (.t 12)))⟩])
   (.live [4, 1] (.seq (.seq (.region [⟨(some 13), none, (.op (.faddr 1 (.t 1)))⟩,
    ⟨(some 14), none, (.op (.load none (.t 13)))⟩,
    ⟨(some 15), none, (.op (.len .slice (.t 14)))⟩,
    ⟨(some 16), none, (.op (.mv (.c (.i .i64 0))))⟩])
   (.live [14, 15, 16, 4] (.block 0 (.loop [14, 15, 16, 4] c235l1))))
   (.live [4] (.seq (.region [⟨(some 30), none, (.op (.mv (.t 4)))⟩,
    ⟨(some 31), none, (.call 21 [(.t 30)])⟩,
    ⟨(some 2), none, (.op (.mv (.t 31)))⟩,
    ⟨(some 3), none, (.op (.mv (.c (.i .i64 0))))⟩])
   (.ret))))))))),
  []⟩


/- slices.IndexFunc[[]floodgate/api.Entry,floodgate/api.Entry] -/
def c236l0 : ICode :=
  .seq (.region [⟨(some 9), none, (.op (.bin .int false .lss (.t 8) (.t 7)))⟩])
   (.live [0, 1, 7, 8, 9] (.seq (.cond (.t 9) (.skip)
   (.exit 0))
   (.live [0, 1, 7, 8] (.seq (.block 1 (.seq (.region [⟨(some 10), none, (.op (.mv (.t 8)))⟩,
    ⟨(some 5), none, (.op (.mv (.t 10)))⟩])
   (.live [5, 0, 1, 7, 8] (.seq (.region [⟨(some 11), none, (.op (.mv (.t 1)))⟩,
    ⟨(some 12), none, (.op (.mv (.t 0)))⟩,
    ⟨(some 13), none, (.op (.mv (.t 5)))⟩,
    ⟨(some 14), none, (.op (.iaddr none 14 (.t 12) (.t 13)))⟩,
    ⟨(some 15), none, (.op (.load (some 14) (.t 14)))⟩,
    ⟨(some 16), none, (.callv (.t 11) [(.t 15)])⟩])
   (.live [5, 0, 1, 7, 8, 16] (.cond (.t 16) (.seq (.region [⟨(some 17), none, (.op (.mv (.t 5)))⟩,
    ⟨(some 4), none, (.op (.mv (.t 17)))⟩])
   (.ret))
   (.skip)))))))
   (.live [0, 1, 7, 8] (.region [⟨(some 18), none, (.op (.bin .int true .add (.t 8) (.c (.i .i64 1))))⟩,
    ⟨(some 8), none, (.op (.mv (.t 18)))⟩]))))))
def c236 : IFunc := ⟨2, [.tmp 4],
  .seq (.region [⟨(some 4), none, (.op (.mv (.c (.i .i64 0))))⟩])
   (.live [0, 1] (.seq (.seq (.region [⟨(some 6), none, (.op (.mv (.t 0)))⟩,
    ⟨(some 7), none, (.op (.len .slice (.t 6)))⟩,
    ⟨(some 8), none, (.op (.mv (.c (.i .i64 0))))⟩])
   (.live [0, 1, 7, 8] (.block 0 (.loop [0, 1, 7, 8] c236l0))))
   (.live [] (.seq (.region [⟨(some 4), none, (.op (.mv (.c (.i .i64 (-1)))))⟩])
   (.ret))))),
  []⟩


/- floodgate/crc.tail -/

def c245 : IFunc := ⟨1, [.tmp 2],
  .seq (.region [⟨(some 2), none, (.op (.mv (.c .sn)))⟩])
   (.live [0] (.seq (.region [⟨(some 3), none, (.op (.mv (.t 0)))⟩,
    ⟨(some 4), none, (.op (.bin .int true .shr (.t 3) (.c (.i .u64 24))))⟩,
    ⟨(some 5), none, (.op (.toInt .u8 (.t 4)))⟩,
    ⟨(some 6), none, (.op (.mv (.t 0)))⟩,
    ⟨(some 7), none, (.op (.bin .int true .shr (.t 6) (.c (.i .u64 16))))⟩,
    ⟨(some 8), none, (.op (.toInt .u8 (.t 7)))⟩,
    ⟨(some 9), none, (.op (.mv (.t 0)))⟩,
    ⟨(some 10), none, (.op (.bin .int true .shr (.t 9) (.c (.i .u64 8))))⟩,
    ⟨(some 11), none, (.op (.toInt .u8 (.t 10)))⟩,
    ⟨(some 12), none, (.op (.mv (.t 0)))⟩,
    ⟨(some 13), none, (.op (.toInt .u8 (.t 12)))⟩,
    ⟨(some 14), none, (.op (.bslice [(.i .u8 0)] 4 [(0, 1, (.t 5)), (1, 1, (.t 8)), (2, 1, (.t 11)), (3, 1, (.t 13))]))⟩,
    ⟨(some 2), none, (.op (.mv (.t 14)))⟩])
   (.ret))),
  []⟩


/- floodgate/crc.Of -/
def c246l0 : ICode :=
  .seq (.region [⟨(some 9), none, (.op (.bin .int false .lss (.t 8) (.t 7)))⟩])
   (.live [6, 7, 8, 3, 9] (.seq (.cond (.t 9) (.skip)
   (.exit 0))
   (.live [6, 7, 8, 3] (.seq (.block 1 (.seq (.region [⟨(some 10), none, (.op (.iaddr none 1 (.t 6) (.t 8)))⟩,
    ⟨(some 11), none, (.op (.load none (.t 10)))⟩,
    ⟨(some 5), none, (.op (.mv (.t 11)))⟩])
   (.live [6, 7, 8, 5, 3] (.region [⟨(some 12), none, (.op (.mv (.t 3)))⟩,
    ⟨(some 13), none, (.op (.mv (.t 5)))⟩,
    ⟨(some 14), none, (.call 269 [(.t 12), (.t 13)])⟩,
    ⟨(some 3), none, (.op (.mv (.t 14)))⟩]))))
   (.live [6, 7, 3, 8] (.region [⟨(some 15), none, (.op (.bin .int true .add (.t 8) (.c (.i .i64 1))))⟩,
    ⟨(some 8), none, (.op (.mv (.t 15)))⟩]))))))
def c246 : IFunc := ⟨1, [.tmp 2],
  .seq (.region [⟨(some 2), none, (.op (.mv (.c (.i .u32 0))))⟩])
   (.live [0] (.seq (.region [⟨(some 3), none, (.op (.mv (.c (.i .u32 0))))⟩])
   (.live [3, 0] (.seq (.seq (.region [⟨(some 6), none, (.op (.mv (.t 0)))⟩,
    ⟨(some 7), none, (.op (.len .slice (.t 6)))⟩,
    ⟨(some 8), none, (.op (.mv (.c (.i .i64 0))))⟩])
   (.live [6, 7, 8, 3] (.block 0 (.loop [6, 7, 8, 3] c246l0))))
   (.live [3] (.seq (.region [⟨(some 16), none, (.op (.mv (.t 3)))⟩,
    ⟨(some 2), none, (.op (.mv (.t 16)))⟩])
   (.ret))))))),
  []⟩


/- slices.Backward[[]byte,byte] -/

def c247 : IFunc := ⟨1, [.tmp 2],
  .seq (.region [⟨(some 1), none, (.op (.box (.t 0)))⟩,
    ⟨(some 2), none, (.op (.mv (.c .nf)))⟩])
   (.live [1] (.seq (.region [⟨(some 3), none, (.op (.mkf (.func 270) [] [(.t 1)]))⟩,
    ⟨(some 2), none, (.op (.mv (.t 3)))⟩])
   (.ret))),
  []⟩


/- floodgate/slot.value -/

def c258 : IFunc := ⟨1, [.tmp 2],
  .seq (.region [⟨(some 2), none, (.op (.mv (.c (.b false))))⟩])
   (.live [0] (.seq (.region [⟨(some 3), none, (.op (.mv (.t 0)))⟩,
    ⟨(some 4), none, (.op (.bin .int true .geq (.t 3) (.c (.i .u64 1))))⟩,
    ⟨(some 5), none, (.op (.mv (.t 4)))⟩,
    ⟨(some 6), some (5, true), (.op (.mv (.t 0)))⟩,
    ⟨(some 7), some (5, true), (.op (.bin .int true .leq (.t 6) (.c (.i .u64 281474976710656))))⟩,
    ⟨(some 8), none, (.op (.pick (.t 5) (.t 7) (.c (.b false))))⟩,
    ⟨(some 2), none, (.op (.mv (.t 8)))⟩])
   (.ret))),
  []⟩


/- floodgate/crc.More -/
def c269l0 : ICode :=
  .seq (.region [⟨(some 13), none, (.op (.bin .int false .lss (.t 12) (.t 11)))⟩])
   (.live [10, 11, 12, 5, 13] (.seq (.cond (.t 13) (.skip)
   (.exit 0))
   (.live [10, 11, 12, 5] (.seq (.block 1 (.seq (.region [⟨(some 14), none, (.op (.iaddr none 1 (.t 10) (.t 12)))⟩,
    ⟨(some 15), none, (.op (.load none (.t 14)))⟩,
    ⟨(some 7), none, (.op (.mv (.t 15)))⟩])
   (.live [10, 11, 12, 7, 5] (.region [⟨(some 16), none, (.op (.mv (.t 5)))⟩,
    ⟨(some 17), none, (.op (.mv (.t 7)))⟩,
    ⟨(some 18), none, (.call 292 [(.t 16), (.t 17)])⟩,
    ⟨(some 5), none, (.op (.mv (.t 18)))⟩]))))
   (.live [10, 11, 5, 12] (.region [⟨(some 19), none, (.op (.bin .int true .add (.t 12) (.c (.i .i64 1))))⟩,
    ⟨(some 12), none, (.op (.mv (.t 19)))⟩]))))))
def c269 : IFunc := ⟨2, [.tmp 4],
  .seq (.region [⟨(some 4), none, (.op (.mv (.c (.i .u32 0))))⟩])
   (.live [1, 0] (.seq (.region [⟨(some 8), none, (.op (.mv (.t 0)))⟩,
    ⟨(some 9), none, (.op (.un .xor (.t 8)))⟩,
    ⟨(some 5), none, (.op (.mv (.t 9)))⟩])
   (.live [5, 1] (.seq (.seq (.region [⟨(some 10), none, (.op (.mv (.t 1)))⟩,
    ⟨(some 11), none, (.op (.len .slice (.t 10)))⟩,
    ⟨(some 12), none, (.op (.mv (.c (.i .i64 0))))⟩])
   (.live [10, 11, 12, 5] (.block 0 (.loop [10, 11, 12, 5] c269l0))))
   (.live [5] (.seq (.region [⟨(some 20), none, (.op (.mv (.t 5)))⟩,
    ⟨(some 21), none, (.op (.un .xor (.t 20)))⟩,
    ⟨(some 4), none, (.op (.mv (.t 21)))⟩])
   (.ret))))))),
  []⟩


/- slices.Backward[[]byte,byte]$1 -/
def c270l0 : ICode :=
  .seq (.seq (.region [⟨(some 7), none, (.op (.mv (.t 3)))⟩,
    ⟨(some 8), none, (.op (.bin .int true .geq (.t 7) (.c (.i .i64 0))))⟩])
   (.live [1, 0, 3, 8] (.cond (.t 8) (.skip)
   (.exit 0))))
   (.live [1, 0, 3] (.seq (.block 1 (.seq (.region [⟨(some 11), none, (.op (.mv (.t 0)))⟩,
    ⟨(some 12), none, (.op (.mv (.t 3)))⟩,
    ⟨(some 13), none, (.op (.load none (.t 1)))⟩,
    ⟨(some 14), none, (.op (.mv (.t 3)))⟩,
    ⟨(some 15), none, (.op (.iaddr none 1 (.t 13) (.t 14)))⟩,
    ⟨(some 16), none, (.op (.load none (.t 15)))⟩,
    ⟨(some 17), none, (.callv (.t 11) [(.t 12), (.t 16)])⟩,
    ⟨(some 18), none, (.op (.un .not (.t 17)))⟩])
   (.live [1, 0, 3, 18] (.cond (.t 18) (.ret)
   (.skip)))))
   (.live [1, 0, 3] (.region [⟨(some 9), none, (.op (.mv (.t 3)))⟩,
    ⟨(some 10), none, (.op (.bin .int true .sub (.t 9) (.c (.i .i64 1))))⟩,
    ⟨(some 3), none, (.op (.mv (.t 10)))⟩]))))
def c270 : IFunc := ⟨2, [],
  .seq (.region [⟨(some 4), none, (.op (.load none (.t 1)))⟩,
    ⟨(some 5), none, (.op (.len .slice (.t 4)))⟩,
    ⟨(some 6), none, (.op (.bin .int true .sub (.t 5) (.c (.i .i64 1))))⟩,
    ⟨(some 3), none, (.op (.mv (.t 6)))⟩])
   (.live [1, 0, 3] (.block 0 (.loop [1, 0, 3] c270l0))),
  []⟩


/- floodgate/crc.step -/
def c292k0 : ICode :=
  .seq (.skip)
   (.live [5, 0] (.seq (.region [⟨(some 12), none, (.op (.mv (.t 0)))⟩,
    ⟨(some 13), none, (.op (.bin .int true .shr (.t 12) (.c (.i .u64 31))))⟩,
    ⟨(some 6), none, (.op (.mv (.t 13)))⟩])
   (.live [5, 6, 0] (.seq (.region [⟨(some 14), none, (.op (.mv (.t 0)))⟩,
    ⟨(some 15), none, (.op (.bin .int true .shl (.t 14) (.c (.i .u64 1))))⟩,
    ⟨(some 16), none, (.op (.mv (.t 6)))⟩,
    ⟨(some 17), none, (.op (.bin .int true .mul (.c (.i .u32 79764919)) (.t 16)))⟩,
    ⟨(some 18), none, (.op (.bin .int false .xor (.t 15) (.t 17)))⟩,
    ⟨(some 0), none, (.op (.mv (.t 18)))⟩])
   (.live [0, 5] (.seq (.seq (.region [⟨(some 19), none, (.op (.mv (.t 5)))⟩,
    ⟨(some 20), none, (.op (.bin .int true .add (.t 19) (.c (.i .i64 1))))⟩,
    ⟨(some 5), none, (.op (.mv (.t 20)))⟩])
   (.live [5, 0] (.seq (.region [⟨(some 21), none, (.op (.mv (.t 5)))⟩,
    ⟨(some 22), none, (.op (.bin .int true .lss (.t 21) (.c (.i .i64 8))))⟩])
   (.live [5, 0, 22] (.cond (.t 22) (.goto 0)
   (.skip))))))
   (.live [0] (.seq (.region [⟨(some 23), none, (.op (.mv (.t 0)))⟩,
    ⟨(some 4), none, (.op (.mv (.t 23)))⟩])
   (.ret)))))))))
def c292 : IFunc := ⟨2, [.tmp 4],
  .seq (.region [⟨(some 4), none, (.op (.mv (.c (.i .u32 0))))⟩])
   (.live [1, 0] (.scope [5, 0] (.seq (.region [⟨(some 7), none, (.op (.mv (.t 0)))⟩,
    ⟨(some 8), none, (.op (.mv (.t 1)))⟩,
    ⟨(some 9), none, (.op (.toInt .u32 (.t 8)))⟩,
    ⟨(some 10), none, (.op (.bin .int true .shl (.t 9) (.c (.i .u64 24))))⟩,
    ⟨(some 11), none, (.op (.bin .int false .xor (.t 7) (.t 10)))⟩,
    ⟨(some 0), none, (.op (.mv (.t 11)))⟩])
   (.live [0] (.seq (.region [⟨(some 5), none, (.op (.mv (.c (.i .i64 0))))⟩])
   (.live [5, 0] (.seq (.skip)
   (.live [5, 0] (.seq (.region [⟨(some 12), none, (.op (.mv (.t 0)))⟩,
    ⟨(some 13), none, (.op (.bin .int true .shr (.t 12) (.c (.i .u64 31))))⟩,
    ⟨(some 6), none, (.op (.mv (.t 13)))⟩])
   (.live [5, 6, 0] (.seq (.region [⟨(some 14), none, (.op (.mv (.t 0)))⟩,
    ⟨(some 15), none, (.op (.bin .int true .shl (.t 14) (.c (.i .u64 1))))⟩,
    ⟨(some 16), none, (.op (.mv (.t 6)))⟩,
    ⟨(some 17), none, (.op (.bin .int true .mul (.c (.i .u32 79764919)) (.t 16)))⟩,
    ⟨(some 18), none, (.op (.bin .int false .xor (.t 15) (.t 17)))⟩,
    ⟨(some 0), none, (.op (.mv (.t 18)))⟩])
   (.live [0, 5] (.seq (.seq (.region [⟨(some 19), none, (.op (.mv (.t 5)))⟩,
    ⟨(some 20), none, (.op (.bin .int true .add (.t 19) (.c (.i .i64 1))))⟩,
    ⟨(some 5), none, (.op (.mv (.t 20)))⟩])
   (.live [5, 0] (.seq (.region [⟨(some 21), none, (.op (.mv (.t 5)))⟩,
    ⟨(some 22), none, (.op (.bin .int true .lss (.t 21) (.c (.i .i64 8))))⟩])
   (.live [5, 0, 22] (.cond (.t 22) (.goto 0)
   (.skip))))))
   (.live [0] (.seq (.region [⟨(some 23), none, (.op (.mv (.t 0)))⟩,
    ⟨(some 4), none, (.op (.mv (.t 23)))⟩])
   (.ret)))))))))))))) 0 c292k0)),
  []⟩


set_option maxRecDepth 1000000
theorem f168 : compFunc Tryz.prog 168 = some (stripF c168) := by kernel_rfl
theorem f170 : compFunc Tryz.prog 170 = some (stripF c170) := by kernel_rfl
theorem f171 : compFunc Tryz.prog 171 = some (stripF c171) := by kernel_rfl
theorem f172 : compFunc Tryz.prog 172 = some (stripF c172) := by kernel_rfl
theorem f180 : compFunc Tryz.prog 180 = some (stripF c180) := by kernel_rfl
theorem f194 : compFunc Tryz.prog 194 = some (stripF c194) := by kernel_rfl
theorem f195 : compFunc Tryz.prog 195 = some (stripF c195) := by kernel_rfl
theorem f196 : compFunc Tryz.prog 196 = some (stripF c196) := by kernel_rfl
theorem f200 : compFunc Tryz.prog 200 = some (stripF c200) := by kernel_rfl
theorem f201 : compFunc Tryz.prog 201 = some (stripF c201) := by kernel_rfl
theorem f202 : compFunc Tryz.prog 202 = some (stripF c202) := by kernel_rfl
theorem f213 : compFunc Tryz.prog 213 = some (stripF c213) := by kernel_rfl
theorem f214 : compFunc Tryz.prog 214 = some (stripF c214) := by kernel_rfl
theorem f215 : compFunc Tryz.prog 215 = some (stripF c215) := by kernel_rfl
theorem f217 : compFunc Tryz.prog 217 = some (stripF c217) := by kernel_rfl
theorem f218 : compFunc Tryz.prog 218 = some (stripF c218) := by kernel_rfl
theorem f219 : compFunc Tryz.prog 219 = some (stripF c219) := by kernel_rfl
theorem f220 : compFunc Tryz.prog 220 = some (stripF c220) := by kernel_rfl
theorem f234 : compFunc Tryz.prog 234 = some (stripF c234) := by kernel_rfl
theorem f235 : compFunc Tryz.prog 235 = some (stripF c235) := by kernel_rfl
theorem f236 : compFunc Tryz.prog 236 = some (stripF c236) := by kernel_rfl
theorem f245 : compFunc Tryz.prog 245 = some (stripF c245) := by kernel_rfl
theorem f246 : compFunc Tryz.prog 246 = some (stripF c246) := by kernel_rfl
theorem f247 : compFunc Tryz.prog 247 = some (stripF c247) := by kernel_rfl
theorem f258 : compFunc Tryz.prog 258 = some (stripF c258) := by kernel_rfl
theorem f269 : compFunc Tryz.prog 269 = some (stripF c269) := by kernel_rfl
theorem f270 : compFunc Tryz.prog 270 = some (stripF c270) := by kernel_rfl
theorem f292 : compFunc Tryz.prog 292 = some (stripF c292) := by kernel_rfl
end Go.Proofs.YtmolaemlenllmaaGreat
