/- Proved here: the code of the functions, written out, is what the compiler makes of the program. No condition. -/
import Derived.Test.YtmolaemlenllmaaGreatMb
import Derived.Test.YtmolaemlenllmaaGreatRows
namespace Go.Proofs.YtmolaemlenllmaaGreat
open Go.RowKit

/- floodgate/floodgatelaw22.ScriptNames -/

def c3 : IFunc := ⟨0, [.tmp 0],
  .seq (.region [⟨(some 0), none, (.op (.mv (.c (.b false))))⟩])
   (.live [] (.seq (.region [⟨(some 1), none, (.op (.mv (.c (.b true))))⟩])
   (.live [1] (.seq (.region [⟨(some 9), none, (.op (.build [(.i .i64 0), (.i .i64 0), (.i .u64 0)] []))⟩,
    ⟨(some 10), none, (.op (.build [(.i .i64 0), (.i .i64 0), (.i .i64 0), (.i .u64 0), .sn, (.i .i64 0), (.i .u8 0), (.i .u8 0), (.i .u8 0), (.i .u8 0), (.i .i64 0), (.i .u64 0), (.i .u64 0), (.i .u64 0), (.i .u64 0), (.i .u64 0), (.i .u64 0), (.i .u64 0), .sn] [(0, 1, (.c (.i .i64 13)))]))⟩,
    ⟨(some 11), none, (.op (.bslice [(.i .i64 0), (.i .i64 0), (.i .i64 0), (.i .u64 0), .sn, (.i .i64 0), (.i .u8 0), (.i .u8 0), (.i .u8 0), (.i .u8 0), (.i .i64 0), (.i .u64 0), (.i .u64 0), (.i .u64 0), (.i .u64 0), (.i .u64 0), (.i .u64 0), (.i .u64 0), .sn] 1 [(0, 19, (.t 10))]))⟩,
    ⟨(some 12), none, (.call 7 [(.t 9), (.t 11)])⟩,
    ⟨(some 8), none, (.op (.mv (.t 12)))⟩,
    ⟨(some 13), none, (.op (.ext (.t 8) 0))⟩,
    ⟨(some 14), none, (.op (.ext (.t 8) 1))⟩,
    ⟨(some 2), none, (.op (.mv (.t 13)))⟩,
    ⟨(some 3), none, (.op (.mv (.t 14)))⟩])
   (.live [3, 1] (.seq (.region [⟨(some 16), none, (.op (.build [(.i .i64 0), (.i .i64 0), (.i .u64 0)] []))⟩,
    ⟨(some 17), none, (.call 8 [(.t 16), (.c .sn)])⟩,
    ⟨(some 15), none, (.op (.mv (.t 17)))⟩,
    ⟨(some 18), none, (.op (.ext (.t 15) 0))⟩,
    ⟨(some 19), none, (.op (.ext (.t 15) 1))⟩,
    ⟨(some 4), none, (.op (.mv (.t 18)))⟩,
    ⟨(some 5), none, (.op (.mv (.t 19)))⟩])
   (.live [5, 3, 1] (.seq (.region [⟨(some 21), none, (.call 9 [(.c .sn)])⟩,
    ⟨(some 20), none, (.op (.mv (.t 21)))⟩,
    ⟨(some 22), none, (.op (.ext (.t 20) 0))⟩,
    ⟨(some 23), none, (.op (.ext (.t 20) 1))⟩,
    ⟨(some 6), none, (.op (.mv (.t 22)))⟩,
    ⟨(some 7), none, (.op (.mv (.t 23)))⟩])
   (.live [7, 5, 3, 1] (.seq (.region [⟨(some 24), none, (.call 10 [])⟩,
    ⟨(some 25), none, (.op (.mv (.t 24)))⟩,
    ⟨(some 26), some (25, true), (.op (.mv (.t 1)))⟩,
    ⟨(some 27), none, (.op (.pick (.t 25) (.t 26) (.c (.b false))))⟩,
    ⟨(some 28), none, (.op (.mv (.t 27)))⟩,
    ⟨(some 29), none, (.op (.pick (.t 28) (.c (.b true)) (.c (.b false))))⟩,
    ⟨(some 30), none, (.op (.mv (.t 29)))⟩,
    ⟨(some 31), none, (.op (.pick (.t 30) (.c (.b true)) (.c (.b false))))⟩,
    ⟨(some 32), none, (.op (.mv (.t 31)))⟩,
    ⟨(some 33), none, (.op (.pick (.t 32) (.c (.b true)) (.c (.b false))))⟩,
    ⟨(some 34), none, (.op (.mv (.t 33)))⟩,
    ⟨(some 35), some (34, true), (.op (.mv (.t 3)))⟩,
    ⟨(some 36), some (34, true), (.op (.bin .int true .eql (.t 35) (.c (.i .i64 221))))⟩,
    ⟨(some 37), none, (.op (.pick (.t 34) (.t 36) (.c (.b false))))⟩,
    ⟨(some 38), none, (.op (.mv (.t 37)))⟩,
    ⟨(some 39), some (38, true), (.op (.mv (.t 5)))⟩,
    ⟨(some 40), some (38, true), (.op (.bin .int true .eql (.t 39) (.c (.i .i64 211))))⟩,
    ⟨(some 41), none, (.op (.pick (.t 38) (.t 40) (.c (.b false))))⟩,
    ⟨(some 42), none, (.op (.mv (.t 41)))⟩,
    ⟨(some 43), some (42, true), (.op (.mv (.t 7)))⟩,
    ⟨(some 44), some (42, true), (.op (.bin .int true .eql (.t 43) (.c (.i .i64 221))))⟩,
    ⟨(some 45), none, (.op (.pick (.t 42) (.t 44) (.c (.b false))))⟩,
    ⟨(some 0), none, (.op (.mv (.t 45)))⟩])
   (.ret))))))))))),
  []⟩


/- floodgate/script.Bytes -/
def c7d0 : List Stage :=
  [⟨[(⟨(some 12), none, (.op (.faddr 0 (.t 2)))⟩, 0), (⟨(some 13), none, (.op (.load none (.t 12)))⟩, 0), (⟨(some 15), none, (.op (.faddr 1 (.t 2)))⟩, 1), (⟨(some 16), none, (.op (.load none (.t 15)))⟩, 1), (⟨(some 18), none, (.op (.faddr 2 (.t 2)))⟩, 2), (⟨(some 19), none, (.op (.load none (.t 18)))⟩, 2), (⟨(some 20), none, (.op (.mv (.t 1)))⟩, 2), (⟨(some 21), none, (.op (.len .slice (.t 20)))⟩, 2), (⟨(some 22), none, (.op (.toInt .u64 (.t 21)))⟩, 2)], none, some ⟨(some 14), none, (.call 22 [(.t 13)])⟩⟩,
    ⟨[], none, some ⟨(some 17), none, (.call 22 [(.t 16)])⟩⟩,
    ⟨[], none, some ⟨(some 23), none, (.op (.bslice [(.i .u64 0)] 4 [(0, 1, (.t 14)), (1, 1, (.t 17)), (2, 1, (.t 19)), (3, 1, (.t 22))]))⟩⟩,
    ⟨[], none, some ⟨(some 24), none, (.call 21 [(.t 23)])⟩⟩,
    ⟨[(⟨(some 6), none, (.op (.mv (.t 24)))⟩, 4)], none, none⟩]
def c7d0w : List (ROp × Bool) :=
  [(⟨(some 12), none, (.op (.faddr 0 (.t 2)))⟩, false), (⟨(some 13), none, (.op (.load none (.t 12)))⟩, false), (⟨(some 15), none, (.op (.faddr 1 (.t 2)))⟩, false), (⟨(some 16), none, (.op (.load none (.t 15)))⟩, false), (⟨(some 18), none, (.op (.faddr 2 (.t 2)))⟩, false), (⟨(some 19), none, (.op (.load none (.t 18)))⟩, false), (⟨(some 20), none, (.op (.mv (.t 1)))⟩, false), (⟨(some 21), none, (.op (.len .slice (.t 20)))⟩, false), (⟨(some 22), none, (.op (.toInt .u64 (.t 21)))⟩, false), (⟨(some 14), none, (.call 22 [(.t 13)])⟩, true), (⟨(some 17), none, (.call 22 [(.t 16)])⟩, true), (⟨(some 23), none, (.op (.bslice [(.i .u64 0)] 4 [(0, 1, (.t 14)), (1, 1, (.t 17)), (2, 1, (.t 19)), (3, 1, (.t 22))]))⟩, false), (⟨(some 24), none, (.call 21 [(.t 23)])⟩, false), (⟨(some 6), none, (.op (.mv (.t 24)))⟩, false)]
theorem c7d0_w {P : Program} {O : Orc} {S0 : Mem} {rd : Bool} {e : Env} {S : Mem} {d : List Nat} {Q : Kont} : W P O S0 rd (.draw c7d0 []) e S d Q = wFl O c7d0w e S (normK Q d) := W_draw' (by kernel_rfl) (by kernel_rfl)
attribute [go_sem] c7d0_w c7d0w
def c7l1 : ICode :=
  .seq (.region [⟨(some 28), none, (.op (.bin .int false .lss (.t 27) (.t 26)))⟩])
   (.live [25, 26, 27, 6, 28] (.seq (.cond (.t 28) (.skip)
   (.exit 0))
   (.live [25, 26, 27, 6] (.seq (.block 1 (.seq (.region [⟨(some 29), none, (.op (.iaddr none 19 (.t 25) (.t 27)))⟩,
    ⟨(some 30), none, (.op (.load (some 19) (.t 29)))⟩,
    ⟨(some 8), none, (.op (.fresh [(.i .i64 0), (.i .i64 0), (.i .i64 0), (.i .u64 0), .sn, (.i .i64 0), (.i .u8 0), (.i .u8 0), (.i .u8 0), (.i .u8 0), (.i .i64 0), (.i .u64 0), (.i .u64 0), (.i .u64 0), (.i .u64 0), (.i .u64 0), (.i .u64 0), (.i .u64 0), .sn]))⟩,
    ⟨none, none, (.op (.store 19 (.t 8) (.t 30)))⟩])
   (.live [25, 26, 27, 8, 6] (.region [⟨(some 31), none, (.op (.mv (.t 6)))⟩,
    ⟨(some 32), none, (.op (.load (some 19) (.t 8)))⟩,
    ⟨(some 33), none, (.call 23 [(.t 32)])⟩,
    ⟨(some 34), none, (.op (.app 1 1 (.t 31) (.t 33)))⟩,
    ⟨(some 6), none, (.op (.mv (.t 34)))⟩]))))
   (.live [25, 26, 6, 27] (.region [⟨(some 35), none, (.op (.bin .int true .add (.t 27) (.c (.i .i64 1))))⟩,
    ⟨(some 27), none, (.op (.mv (.t 35)))⟩]))))))
def c7 : IFunc := ⟨2, [.tmp 4, .tmp 5],
  .seq (.region [⟨(some 2), none, (.op (.box (.t 0)))⟩,
    ⟨(some 4), none, (.op (.mv (.c .sn)))⟩,
    ⟨(some 5), none, (.op (.mv (.c (.i .i64 0))))⟩])
   (.live [1, 2] (.seq (.seq (.region [⟨(some 9), none, (.op (.mv (.t 1)))⟩,
    ⟨(some 10), none, (.call 20 [(.t 9)])⟩,
    ⟨(some 11), none, (.op (.un .not (.t 10)))⟩])
   (.live [1, 2, 11] (.cond (.t 11) (.seq (.region [⟨(some 4), none, (.op (.mv (.c .sn)))⟩,
    ⟨(some 5), none, (.op (.mv (.c (.i .i64 221))))⟩])
   (.ret))
   (.skip))))
   (.live [1, 2] (.seq (.draw c7d0 [])
   (.live [6, 1] (.seq (.seq (.region [⟨(some 25), none, (.op (.mv (.t 1)))⟩,
    ⟨(some 26), none, (.op (.len .slice (.t 25)))⟩,
    ⟨(some 27), none, (.op (.mv (.c (.i .i64 0))))⟩])
   (.live [25, 26, 27, 6] (.block 0 (.loop [25, 26, 27, 6] c7l1))))
   (.live [6] (.seq (.region [⟨(some 36), none, (.op (.mv (.t 6)))⟩,
    ⟨(some 4), none, (.op (.mv (.t 36)))⟩,
    ⟨(some 5), none, (.op (.mv (.c (.i .i64 0))))⟩])
   (.ret))))))))),
  []⟩


/- floodgate/script.Run -/
def c8l0 : ICode :=
  .seq (.region [⟨(some 23), none, (.op (.bin .int false .lss (.t 22) (.t 21)))⟩])
   (.live [6, 20, 21, 22, 8, 23] (.seq (.cond (.t 23) (.skip)
   (.exit 0))
   (.live [6, 20, 21, 22, 8] (.seq (.block 1 (.seq (.region [⟨(some 24), none, (.op (.iaddr none 19 (.t 20) (.t 22)))⟩,
    ⟨(some 25), none, (.op (.load (some 19) (.t 24)))⟩,
    ⟨(some 10), none, (.op (.fresh [(.i .i64 0), (.i .i64 0), (.i .i64 0), (.i .u64 0), .sn, (.i .i64 0), (.i .u8 0), (.i .u8 0), (.i .u8 0), (.i .u8 0), (.i .i64 0), (.i .u64 0), (.i .u64 0), (.i .u64 0), (.i .u64 0), (.i .u64 0), (.i .u64 0), (.i .u64 0), .sn]))⟩,
    ⟨none, none, (.op (.store 19 (.t 10) (.t 25)))⟩])
   (.live [6, 20, 21, 22, 10, 8] (.region [⟨(some 26), none, (.op (.mv (.t 8)))⟩,
    ⟨(some 27), none, (.op (.mv (.t 6)))⟩,
    ⟨(some 28), none, (.op (.load (some 19) (.t 10)))⟩,
    ⟨(some 29), none, (.call 25 [(.t 27), (.t 28)])⟩,
    ⟨(some 30), none, (.op (.bslice [(.i .i64 0), (.i .i64 0), (.b false), (.i .i64 0), (.i .i64 0), (.b false), .sn, (.i .u64 0), (.i .i64 0), (.b false), (.i .i64 0), (.i .u8 0), (.i .u8 0), (.i .u8 0), (.i .u8 0), (.i .i64 0), (.i .u64 0), (.i .u64 0), (.i .u64 0), (.i .u64 0), (.i .u64 0), (.i .u64 0), (.i .u64 0), (.i .u64 0), (.i .u64 0), (.i .i64 0), (.i .u64 0), (.i .u64 0)] 1 [(0, 28, (.t 29))]))⟩,
    ⟨(some 31), none, (.op (.app 28 216 (.t 26) (.t 30)))⟩,
    ⟨(some 8), none, (.op (.mv (.t 31)))⟩]))))
   (.live [6, 20, 21, 8, 22] (.region [⟨(some 32), none, (.op (.bin .int true .add (.t 22) (.c (.i .i64 1))))⟩,
    ⟨(some 22), none, (.op (.mv (.t 32)))⟩]))))))
def c8 : IFunc := ⟨2, [.tmp 4, .tmp 5],
  .seq (.region [⟨(some 2), none, (.op (.box (.t 0)))⟩,
    ⟨(some 4), none, (.op (.mv (.c .sn)))⟩,
    ⟨(some 5), none, (.op (.mv (.c (.i .i64 0))))⟩])
   (.live [1, 2] (.seq (.region [⟨(some 12), none, (.op (.load (some 3) (.t 2)))⟩,
    ⟨(some 13), none, (.op (.mv (.t 1)))⟩,
    ⟨(some 14), none, (.call 24 [(.t 12), (.t 13)])⟩,
    ⟨(some 11), none, (.op (.mv (.t 14)))⟩,
    ⟨(some 15), none, (.op (.ext (.t 11) 0))⟩,
    ⟨(some 16), none, (.op (.ext (.t 11) 1))⟩,
    ⟨(some 6), none, (.op (.mv (.t 15)))⟩,
    ⟨(some 7), none, (.op (.mv (.t 16)))⟩])
   (.live [7, 6, 1] (.seq (.seq (.region [⟨(some 17), none, (.op (.mv (.t 7)))⟩,
    ⟨(some 18), none, (.op (.bin .int true .neq (.t 17) (.c (.i .i64 0))))⟩])
   (.live [7, 6, 1, 18] (.cond (.t 18) (.seq (.region [⟨(some 19), none, (.op (.mv (.t 7)))⟩,
    ⟨(some 4), none, (.op (.mv (.c .sn)))⟩,
    ⟨(some 5), none, (.op (.mv (.t 19)))⟩])
   (.ret))
   (.skip))))
   (.live [6, 1] (.seq (.region [⟨(some 8), none, (.op (.mv (.c .sn)))⟩])
   (.live [6, 8, 1] (.seq (.seq (.region [⟨(some 20), none, (.op (.mv (.t 1)))⟩,
    ⟨(some 21), none, (.op (.len .slice (.t 20)))⟩,
    ⟨(some 22), none, (.op (.mv (.c (.i .i64 0))))⟩])
   (.live [6, 20, 21, 22, 8] (.block 0 (.loop [6, 20, 21, 22, 8] c8l0))))
   (.live [8] (.seq (.region [⟨(some 33), none, (.op (.mv (.t 8)))⟩,
    ⟨(some 4), none, (.op (.mv (.t 33)))⟩,
    ⟨(some 5), none, (.op (.mv (.c (.i .i64 0))))⟩])
   (.ret))))))))))),
  []⟩


/- floodgate/script.Play -/

def c9 : IFunc := ⟨1, [.tmp 2, .tmp 3],
  .seq (.region [⟨(some 2), none, (.op (.mv (.c .sn)))⟩,
    ⟨(some 3), none, (.op (.mv (.c (.i .i64 0))))⟩])
   (.live [0] (.seq (.region [⟨(some 8), none, (.op (.mv (.t 0)))⟩,
    ⟨(some 9), none, (.call 17 [(.t 8)])⟩,
    ⟨(some 7), none, (.op (.mv (.t 9)))⟩,
    ⟨(some 10), none, (.op (.ext (.t 7) 0))⟩,
    ⟨(some 11), none, (.op (.ext (.t 7) 1))⟩,
    ⟨(some 12), none, (.op (.ext (.t 7) 2))⟩,
    ⟨(some 4), none, (.op (.fresh [(.i .i64 0), (.i .i64 0), (.i .u64 0)]))⟩,
    ⟨none, none, (.op (.store 3 (.t 4) (.t 10)))⟩,
    ⟨(some 5), none, (.op (.mv (.t 11)))⟩,
    ⟨(some 6), none, (.op (.mv (.t 12)))⟩])
   (.live [6, 5, 4] (.seq (.seq (.region [⟨(some 13), none, (.op (.mv (.t 6)))⟩,
    ⟨(some 14), none, (.op (.bin .int true .neq (.t 13) (.c (.i .i64 0))))⟩])
   (.live [6, 5, 4, 14] (.cond (.t 14) (.seq (.region [⟨(some 15), none, (.op (.mv (.t 6)))⟩,
    ⟨(some 2), none, (.op (.mv (.c .sn)))⟩,
    ⟨(some 3), none, (.op (.mv (.t 15)))⟩])
   (.ret))
   (.skip))))
   (.live [5, 4] (.seq (.region [⟨(some 16), none, (.op (.load (some 3) (.t 4)))⟩,
    ⟨(some 17), none, (.op (.mv (.t 5)))⟩,
    ⟨(some 18), none, (.call 8 [(.t 16), (.t 17)])⟩,
    ⟨(some 19), none, (.op (.ext (.t 18) 0))⟩,
    ⟨(some 20), none, (.op (.ext (.t 18) 1))⟩,
    ⟨(some 2), none, (.op (.mv (.t 19)))⟩,
    ⟨(some 3), none, (.op (.mv (.t 20)))⟩])
   (.ret))))))),
  []⟩


/- floodgate/floodgatelaw22.scriptAlive -/

def c10 : IFunc := ⟨0, [.tmp 0],
  .seq (.region [⟨(some 0), none, (.op (.mv (.c (.b false))))⟩])
   (.live [] (.seq (.region [⟨(some 9), none, (.op (.build [(.i .i64 0), (.i .i64 0), (.i .u64 0)] [(0, 1, (.c (.i .i64 64))), (1, 1, (.c (.i .i64 1))), (2, 1, (.c (.i .u64 9)))]))⟩,
    ⟨(some 1), none, (.op (.fresh [(.i .i64 0), (.i .i64 0), (.i .u64 0)]))⟩,
    ⟨none, none, (.op (.store 3 (.t 1) (.t 9)))⟩])
   (.live [1] (.seq (.region [⟨(some 10), none, (.op (.build [(.i .i64 0), (.i .i64 0), (.i .i64 0), (.i .u64 0), .sn, (.i .i64 0), (.i .u8 0), (.i .u8 0), (.i .u8 0), (.i .u8 0), (.i .i64 0), (.i .u64 0), (.i .u64 0), (.i .u64 0), (.i .u64 0), (.i .u64 0), (.i .u64 0), (.i .u64 0), .sn] [(0, 1, (.c (.i .i64 1))), (3, 1, (.c (.i .u64 3)))]))⟩,
    ⟨(some 11), none, (.op (.build [(.i .i64 0), (.i .i64 0), (.i .i64 0), (.i .u64 0), .sn, (.i .i64 0), (.i .u8 0), (.i .u8 0), (.i .u8 0), (.i .u8 0), (.i .i64 0), (.i .u64 0), (.i .u64 0), (.i .u64 0), (.i .u64 0), (.i .u64 0), (.i .u64 0), (.i .u64 0), .sn] [(0, 1, (.c (.i .i64 8))), (1, 1, (.c (.i .i64 1)))]))⟩,
    ⟨(some 12), none, (.op (.bslice [(.i .i64 0), (.i .i64 0), (.i .i64 0), (.i .u64 0), .sn, (.i .i64 0), (.i .u8 0), (.i .u8 0), (.i .u8 0), (.i .u8 0), (.i .i64 0), (.i .u64 0), (.i .u64 0), (.i .u64 0), (.i .u64 0), (.i .u64 0), (.i .u64 0), (.i .u64 0), .sn] 2 [(0, 19, (.t 10)), (19, 19, (.t 11))]))⟩,
    ⟨(some 2), none, (.op (.mv (.t 12)))⟩])
   (.live [2, 1] (.seq (.region [⟨(some 14), none, (.op (.load (some 3) (.t 1)))⟩,
    ⟨(some 15), none, (.op (.mv (.t 2)))⟩,
    ⟨(some 16), none, (.call 8 [(.t 14), (.t 15)])⟩,
    ⟨(some 13), none, (.op (.mv (.t 16)))⟩,
    ⟨(some 17), none, (.op (.ext (.t 13) 0))⟩,
    ⟨(some 18), none, (.op (.ext (.t 13) 1))⟩,
    ⟨(some 3), none, (.op (.mv (.t 17)))⟩,
    ⟨(some 4), none, (.op (.mv (.t 18)))⟩])
   (.live [3, 4, 2, 1] (.seq (.region [⟨(some 20), none, (.op (.load (some 3) (.t 1)))⟩,
    ⟨(some 21), none, (.op (.mv (.t 2)))⟩,
    ⟨(some 22), none, (.call 7 [(.t 20), (.t 21)])⟩,
    ⟨(some 19), none, (.op (.mv (.t 22)))⟩,
    ⟨(some 23), none, (.op (.ext (.t 19) 0))⟩,
    ⟨(some 24), none, (.op (.ext (.t 19) 1))⟩,
    ⟨(some 5), none, (.op (.mv (.t 23)))⟩,
    ⟨(some 6), none, (.op (.mv (.t 24)))⟩])
   (.live [5, 3, 6, 4] (.seq (.region [⟨(some 26), none, (.op (.mv (.t 5)))⟩,
    ⟨(some 27), none, (.call 9 [(.t 26)])⟩,
    ⟨(some 25), none, (.op (.mv (.t 27)))⟩,
    ⟨(some 28), none, (.op (.ext (.t 25) 0))⟩,
    ⟨(some 29), none, (.op (.ext (.t 25) 1))⟩,
    ⟨(some 7), none, (.op (.mv (.t 28)))⟩,
    ⟨(some 8), none, (.op (.mv (.t 29)))⟩])
   (.live [5, 7, 3, 8, 6, 4] (.seq (.region [⟨(some 30), none, (.op (.mv (.t 4)))⟩,
    ⟨(some 31), none, (.op (.bin .int true .eql (.t 30) (.c (.i .i64 0))))⟩,
    ⟨(some 32), none, (.op (.mv (.t 31)))⟩,
    ⟨(some 33), some (32, true), (.op (.mv (.t 6)))⟩,
    ⟨(some 34), some (32, true), (.op (.bin .int true .eql (.t 33) (.c (.i .i64 0))))⟩,
    ⟨(some 35), none, (.op (.pick (.t 32) (.t 34) (.c (.b false))))⟩,
    ⟨(some 36), none, (.op (.mv (.t 35)))⟩,
    ⟨(some 37), some (36, true), (.op (.mv (.t 8)))⟩,
    ⟨(some 38), some (36, true), (.op (.bin .int true .eql (.t 37) (.c (.i .i64 0))))⟩,
    ⟨(some 39), none, (.op (.pick (.t 36) (.t 38) (.c (.b false))))⟩,
    ⟨(some 40), none, (.op (.mv (.t 39)))⟩,
    ⟨(some 41), some (40, true), (.op (.mv (.t 3)))⟩,
    ⟨(some 42), some (40, true), (.op (.len .slice (.t 41)))⟩,
    ⟨(some 43), some (40, true), (.op (.bin .int true .eql (.t 42) (.c (.i .i64 2))))⟩,
    ⟨(some 44), none, (.op (.pick (.t 40) (.t 43) (.c (.b false))))⟩,
    ⟨(some 45), none, (.op (.mv (.t 44)))⟩,
    ⟨(some 46), some (45, true), (.op (.mv (.t 3)))⟩,
    ⟨(some 47), some (45, true), (.op (.iaddr none 28 (.t 46) (.c (.i .i64 1))))⟩,
    ⟨(some 48), some (45, true), (.op (.faddr 7 (.t 47)))⟩,
    ⟨(some 49), some (45, true), (.op (.faddr 0 (.t 48)))⟩,
    ⟨(some 50), some (45, true), (.op (.load none (.t 49)))⟩,
    ⟨(some 51), some (45, true), (.op (.bin .int true .eql (.t 50) (.c (.i .u64 1))))⟩,
    ⟨(some 52), none, (.op (.pick (.t 45) (.t 51) (.c (.b false))))⟩,
    ⟨(some 53), none, (.op (.mv (.t 52)))⟩,
    ⟨(some 54), some (53, true), (.op (.mv (.t 7)))⟩,
    ⟨(some 55), some (53, true), (.op (.len .slice (.t 54)))⟩,
    ⟨(some 56), some (53, true), (.op (.bin .int true .eql (.t 55) (.c (.i .i64 2))))⟩,
    ⟨(some 57), none, (.op (.pick (.t 53) (.t 56) (.c (.b false))))⟩,
    ⟨(some 58), none, (.op (.mv (.t 57)))⟩,
    ⟨(some 59), some (58, true), (.op (.mv (.t 5)))⟩,
    ⟨(some 60), some (58, true), (.op (.toStr (.t 59)))⟩,
    ⟨(some 61), some (58, true), (.op (.bin .str true .eql (.t 60) (.c (.s [128, 1, 2, 9, 2, 1, 3, 8, 2]))))⟩,
    ⟨(some 62), none, (.op (.pick (.t 58) (.t 61) (.c (.b false))))⟩,
    ⟨(some 0), none, (.op (.mv (.t 62)))⟩])
   (.ret))))))))))))),
  []⟩


/- floodgate/script.Same -/

def c12 : IFunc := ⟨2, [.tmp 4],
  .seq (.region [⟨(some 2), none, (.op (.box (.t 0)))⟩,
    ⟨(some 3), none, (.op (.box (.t 1)))⟩,
    ⟨(some 4), none, (.op (.mv (.c (.b false))))⟩])
   (.live [3, 2] (.seq (.region [⟨(some 5), none, (.op (.faddr 0 (.t 2)))⟩,
    ⟨(some 6), none, (.op (.load none (.t 5)))⟩,
    ⟨(some 7), none, (.op (.faddr 0 (.t 3)))⟩,
    ⟨(some 8), none, (.op (.load none (.t 7)))⟩,
    ⟨(some 9), none, (.op (.bin .int false .eql (.t 6) (.t 8)))⟩,
    ⟨(some 10), none, (.op (.mv (.t 9)))⟩,
    ⟨(some 11), some (10, true), (.op (.faddr 1 (.t 2)))⟩,
    ⟨(some 12), some (10, true), (.op (.load none (.t 11)))⟩,
    ⟨(some 13), some (10, true), (.op (.faddr 1 (.t 3)))⟩,
    ⟨(some 14), some (10, true), (.op (.load none (.t 13)))⟩,
    ⟨(some 15), some (10, true), (.op (.bin .int false .eql (.t 12) (.t 14)))⟩,
    ⟨(some 16), none, (.op (.pick (.t 10) (.t 15) (.c (.b false))))⟩,
    ⟨(some 17), none, (.op (.mv (.t 16)))⟩,
    ⟨(some 18), some (17, true), (.op (.faddr 2 (.t 2)))⟩,
    ⟨(some 19), some (17, true), (.op (.load none (.t 18)))⟩,
    ⟨(some 20), some (17, true), (.op (.faddr 2 (.t 3)))⟩,
    ⟨(some 21), some (17, true), (.op (.load none (.t 20)))⟩,
    ⟨(some 22), some (17, true), (.op (.bin .int false .eql (.t 19) (.t 21)))⟩,
    ⟨(some 23), none, (.op (.pick (.t 17) (.t 22) (.c (.b false))))⟩,
    ⟨(some 24), none, (.op (.mv (.t 23)))⟩,
    ⟨(some 25), some (24, true), (.op (.faddr 3 (.t 2)))⟩,
    ⟨(some 26), some (24, true), (.op (.load none (.t 25)))⟩,
    ⟨(some 27), some (24, true), (.op (.faddr 3 (.t 3)))⟩,
    ⟨(some 28), some (24, true), (.op (.load none (.t 27)))⟩,
    ⟨(some 29), some (24, true), (.op (.bin .int false .eql (.t 26) (.t 28)))⟩,
    ⟨(some 30), none, (.op (.pick (.t 24) (.t 29) (.c (.b false))))⟩,
    ⟨(some 31), none, (.op (.mv (.t 30)))⟩,
    ⟨(some 32), some (31, true), (.op (.faddr 5 (.t 2)))⟩,
    ⟨(some 33), some (31, true), (.op (.load (some 13) (.t 32)))⟩,
    ⟨(some 34), some (31, true), (.op (.faddr 5 (.t 3)))⟩,
    ⟨(some 35), some (31, true), (.op (.load (some 13) (.t 34)))⟩,
    ⟨(some 36), some (31, true), (.op (.eqag false [.int, .int, .int, .int, .int, .int, .int, .int, .int, .int, .int, .int, .int] (.t 33) (.t 35)))⟩,
    ⟨(some 37), none, (.op (.pick (.t 31) (.t 36) (.c (.b false))))⟩,
    ⟨(some 38), none, (.op (.mv (.t 37)))⟩,
    ⟨(some 39), some (38, true), (.op (.faddr 4 (.t 2)))⟩,
    ⟨(some 40), some (38, true), (.op (.load none (.t 39)))⟩,
    ⟨(some 41), some (38, true), (.op (.faddr 4 (.t 3)))⟩,
    ⟨(some 42), some (38, true), (.op (.load none (.t 41)))⟩,
    ⟨(some 43), some (38, true), (.call 26 [(.t 40), (.t 42)])⟩,
    ⟨(some 44), none, (.op (.pick (.t 38) (.t 43) (.c (.b false))))⟩,
    ⟨(some 45), none, (.op (.mv (.t 44)))⟩,
    ⟨(some 46), some (45, true), (.op (.faddr 18 (.t 2)))⟩,
    ⟨(some 47), some (45, true), (.op (.load none (.t 46)))⟩,
    ⟨(some 48), some (45, true), (.op (.faddr 18 (.t 3)))⟩,
    ⟨(some 49), some (45, true), (.op (.load none (.t 48)))⟩,
    ⟨(some 50), some (45, true), (.call 27 [(.t 47), (.t 49)])⟩,
    ⟨(some 51), none, (.op (.pick (.t 45) (.t 50) (.c (.b false))))⟩,
    ⟨(some 4), none, (.op (.mv (.t 51)))⟩])
   (.ret))),
  []⟩


/- floodgate/script.Right -/

def c15 : IFunc := ⟨1, [.tmp 2],
  .seq (.region [⟨(some 1), none, (.op (.box (.t 0)))⟩,
    ⟨(some 2), none, (.op (.mv (.c (.b false))))⟩])
   (.live [1] (.seq (.region [⟨(some 4), none, (.op (.faddr 0 (.t 1)))⟩,
    ⟨(some 5), none, (.op (.load none (.t 4)))⟩,
    ⟨(some 6), none, (.op (.build [(.i .i64 0), (.i .i64 0), (.i .i64 0), (.i .u64 0), .sn, (.i .i64 0), (.i .u8 0), (.i .u8 0), (.i .u8 0), (.i .u8 0), (.i .i64 0), (.i .u64 0), (.i .u64 0), (.i .u64 0), (.i .u64 0), (.i .u64 0), (.i .u64 0), (.i .u64 0), .sn] [(0, 1, (.t 5))]))⟩,
    ⟨(some 3), none, (.op (.fresh [(.i .i64 0), (.i .i64 0), (.i .i64 0), (.i .u64 0), .sn, (.i .i64 0), (.i .u8 0), (.i .u8 0), (.i .u8 0), (.i .u8 0), (.i .i64 0), (.i .u64 0), (.i .u64 0), (.i .u64 0), (.i .u64 0), (.i .u64 0), (.i .u64 0), (.i .u64 0), .sn]))⟩,
    ⟨none, none, (.op (.store 19 (.t 3) (.t 6)))⟩])
   (.live [3, 1] (.seq (.seq (.region [⟨(some 7), none, (.op (.faddr 0 (.t 1)))⟩,
    ⟨(some 8), none, (.op (.load none (.t 7)))⟩])
   (.live [3, 1, 8] (.block 0 (.seq (.region [⟨(some 10), none, (.op (.bin .int true .eql (.t 8) (.c (.i .i64 0))))⟩,
    ⟨(some 9), none, (.op (.mv (.t 10)))⟩])
   (.live [3, 1, 8, 9] (.cond (.t 9) (.region [⟨(some 11), none, (.op (.faddr 4 (.t 1)))⟩,
    ⟨(some 12), none, (.op (.load none (.t 11)))⟩,
    ⟨(some 13), none, (.op (.faddr 4 (.t 3)))⟩,
    ⟨none, none, (.op (.store 1 (.t 13) (.t 12)))⟩])
   (.seq (.region [⟨(some 15), none, (.op (.bin .int true .eql (.t 8) (.c (.i .i64 1))))⟩,
    ⟨(some 14), none, (.op (.mv (.t 15)))⟩])
   (.live [3, 1, 8, 14] (.cond (.t 14) (.region [⟨(some 16), none, (.op (.faddr 3 (.t 1)))⟩,
    ⟨(some 17), none, (.op (.load none (.t 16)))⟩,
    ⟨(some 18), none, (.op (.faddr 3 (.t 3)))⟩,
    ⟨none, none, (.op (.store 1 (.t 18) (.t 17)))⟩])
   (.seq (.region [⟨(some 20), none, (.op (.bin .int true .eql (.t 8) (.c (.i .i64 4))))⟩,
    ⟨(some 19), none, (.op (.mv (.t 20)))⟩])
   (.live [3, 1, 8, 19] (.cond (.t 19) (.region [⟨(some 21), none, (.op (.faddr 5 (.t 1)))⟩,
    ⟨(some 22), none, (.op (.load (some 13) (.t 21)))⟩,
    ⟨(some 23), none, (.op (.faddr 5 (.t 3)))⟩,
    ⟨none, none, (.op (.store 13 (.t 23) (.t 22)))⟩])
   (.seq (.seq (.region [⟨(some 25), none, (.op (.bin .int true .eql (.t 8) (.c (.i .i64 5))))⟩,
    ⟨(some 24), none, (.op (.mv (.t 25)))⟩])
   (.live [3, 1, 8, 24] (.cond (.t 24) (.skip)
   (.region [⟨(some 26), none, (.op (.bin .int true .eql (.t 8) (.c (.i .i64 8))))⟩,
    ⟨(some 24), none, (.op (.mv (.t 26)))⟩]))))
   (.live [3, 1, 8, 24] (.cond (.t 24) (.region [⟨(some 27), none, (.op (.faddr 1 (.t 1)))⟩,
    ⟨(some 28), none, (.op (.load none (.t 27)))⟩,
    ⟨(some 29), none, (.op (.faddr 1 (.t 3)))⟩,
    ⟨none, none, (.op (.store 1 (.t 29) (.t 28)))⟩])
   (.seq (.region [⟨(some 31), none, (.op (.bin .int true .eql (.t 8) (.c (.i .i64 10))))⟩,
    ⟨(some 30), none, (.op (.mv (.t 31)))⟩])
   (.live [3, 1, 8, 30] (.cond (.t 30) (.region [⟨(some 32), none, (.op (.faddr 2 (.t 1)))⟩,
    ⟨(some 33), none, (.op (.load none (.t 32)))⟩,
    ⟨(some 34), none, (.op (.faddr 2 (.t 3)))⟩,
    ⟨none, none, (.op (.store 1 (.t 34) (.t 33)))⟩])
   (.seq (.region [⟨(some 36), none, (.op (.bin .int true .eql (.t 8) (.c (.i .i64 11))))⟩,
    ⟨(some 35), none, (.op (.mv (.t 36)))⟩])
   (.live [3, 1, 35] (.cond (.t 35) (.region [⟨(some 37), none, (.op (.faddr 18 (.t 1)))⟩,
    ⟨(some 38), none, (.op (.load none (.t 37)))⟩,
    ⟨(some 39), none, (.op (.faddr 18 (.t 3)))⟩,
    ⟨none, none, (.op (.store 1 (.t 39) (.t 38)))⟩])
   (.skip))))))))))))))))))))))
   (.live [3, 1] (.seq (.region [⟨(some 40), none, (.op (.faddr 0 (.t 1)))⟩,
    ⟨(some 41), none, (.op (.load none (.t 40)))⟩,
    ⟨(some 42), none, (.op (.bin .int true .geq (.t 41) (.c (.i .i64 0))))⟩,
    ⟨(some 43), none, (.op (.mv (.t 42)))⟩,
    ⟨(some 44), some (43, true), (.op (.faddr 0 (.t 1)))⟩,
    ⟨(some 45), some (43, true), (.op (.load none (.t 44)))⟩,
    ⟨(some 46), some (43, true), (.op (.bin .int true .leq (.t 45) (.c (.i .i64 12))))⟩,
    ⟨(some 47), none, (.op (.pick (.t 43) (.t 46) (.c (.b false))))⟩,
    ⟨(some 48), none, (.op (.mv (.t 47)))⟩,
    ⟨(some 49), some (48, true), (.op (.faddr 4 (.t 1)))⟩,
    ⟨(some 50), some (48, true), (.op (.load none (.t 49)))⟩,
    ⟨(some 51), some (48, true), (.op (.len .slice (.t 50)))⟩,
    ⟨(some 52), some (48, true), (.op (.bin .int true .leq (.t 51) (.c (.i .i64 2000))))⟩,
    ⟨(some 53), none, (.op (.pick (.t 48) (.t 52) (.c (.b false))))⟩,
    ⟨(some 54), none, (.op (.mv (.t 53)))⟩,
    ⟨(some 55), some (54, true), (.op (.faddr 18 (.t 1)))⟩,
    ⟨(some 56), some (54, true), (.op (.load none (.t 55)))⟩,
    ⟨(some 57), some (54, true), (.op (.len .slice (.t 56)))⟩,
    ⟨(some 58), some (54, true), (.op (.bin .int true .leq (.t 57) (.c (.i .i64 64))))⟩,
    ⟨(some 59), none, (.op (.pick (.t 54) (.t 58) (.c (.b false))))⟩,
    ⟨(some 60), none, (.op (.mv (.t 59)))⟩,
    ⟨(some 61), some (60, true), (.op (.load (some 19) (.t 1)))⟩,
    ⟨(some 62), some (60, true), (.op (.load (some 19) (.t 3)))⟩,
    ⟨(some 63), some (60, true), (.call 12 [(.t 61), (.t 62)])⟩,
    ⟨(some 64), none, (.op (.pick (.t 60) (.t 63) (.c (.b false))))⟩,
    ⟨(some 2), none, (.op (.mv (.t 64)))⟩])
   (.ret))))))),
  []⟩


/- floodgate/script.Read -/
def c17l0 : ICode :=
  .seq (.region [⟨(some 23), none, (.op (.bin .int false .lss (.t 22) (.t 21)))⟩])
   (.live [5, 2, 6, 0, 21, 22, 7, 23] (.seq (.cond (.t 23) (.skip)
   (.exit 0))
   (.live [5, 2, 6, 0, 21, 22, 7] (.seq (.block 1 (.region [⟨(some 24), none, (.op (.mv (.t 7)))⟩,
    ⟨(some 25), none, (.op (.mv (.t 5)))⟩,
    ⟨(some 26), none, (.call 35 [(.t 25)])⟩,
    ⟨(some 27), none, (.op (.bslice [(.i .i64 0), (.i .i64 0), (.i .i64 0), (.i .u64 0), .sn, (.i .i64 0), (.i .u8 0), (.i .u8 0), (.i .u8 0), (.i .u8 0), (.i .i64 0), (.i .u64 0), (.i .u64 0), (.i .u64 0), (.i .u64 0), (.i .u64 0), (.i .u64 0), (.i .u64 0), .sn] 1 [(0, 19, (.t 26))]))⟩,
    ⟨(some 28), none, (.op (.app 19 160 (.t 24) (.t 27)))⟩,
    ⟨(some 7), none, (.op (.mv (.t 28)))⟩]))
   (.live [5, 2, 6, 0, 21, 7, 22] (.region [⟨(some 29), none, (.op (.bin .int true .add (.t 22) (.c (.i .i64 1))))⟩,
    ⟨(some 22), none, (.op (.mv (.t 29)))⟩]))))))
def c17 : IFunc := ⟨1, [.cell 2 (some 3), .tmp 3, .tmp 4],
  .seq (.region [⟨(some 2), none, (.op (.fresh [(.i .i64 0), (.i .i64 0), (.i .u64 0)]))⟩,
    ⟨(some 3), none, (.op (.mv (.c .sn)))⟩,
    ⟨(some 4), none, (.op (.mv (.c (.i .i64 0))))⟩])
   (.live [2, 0] (.seq (.region [⟨(some 10), none, (.op (.mv (.t 0)))⟩,
    ⟨(some 11), none, (.op (.build [.sn, (.b false)] [(0, 1, (.t 10))]))⟩,
    ⟨(some 12), none, (.op (.box (.t 11)))⟩,
    ⟨(some 5), none, (.op (.mv (.t 12)))⟩])
   (.live [5, 2, 0] (.seq (.region [⟨(some 13), none, (.op (.mv (.t 5)))⟩,
    ⟨(some 14), none, (.call 32 [(.t 13)])⟩,
    ⟨(some 15), none, (.op (.mv (.t 5)))⟩,
    ⟨(some 16), none, (.call 32 [(.t 15)])⟩,
    ⟨(some 17), none, (.op (.mv (.t 5)))⟩,
    ⟨(some 18), none, (.call 33 [(.t 17)])⟩,
    ⟨(some 19), none, (.op (.build [(.i .i64 0), (.i .i64 0), (.i .u64 0)] [(0, 1, (.t 14)), (1, 1, (.t 16)), (2, 1, (.t 18))]))⟩,
    ⟨(some 6), none, (.op (.fresh [(.i .i64 0), (.i .i64 0), (.i .u64 0)]))⟩,
    ⟨none, none, (.op (.store 3 (.t 6) (.t 19)))⟩])
   (.live [5, 2, 6, 0] (.seq (.region [⟨(some 7), none, (.op (.mv (.c .sn)))⟩])
   (.live [5, 2, 6, 0, 7] (.seq (.seq (.region [⟨(some 20), none, (.op (.mv (.t 5)))⟩,
    ⟨(some 21), none, (.call 34 [(.t 20), (.c (.i .i64 400))])⟩,
    ⟨(some 22), none, (.op (.mv (.c (.i .i64 0))))⟩])
   (.live [5, 2, 6, 0, 21, 22, 7] (.block 0 (.loop [5, 2, 6, 0, 21, 22, 7] c17l0))))
   (.live [2, 7, 6, 0, 5] (.seq (.region [⟨(some 31), none, (.op (.load (some 3) (.t 6)))⟩,
    ⟨(some 32), none, (.op (.mv (.t 7)))⟩,
    ⟨(some 33), none, (.call 7 [(.t 31), (.t 32)])⟩,
    ⟨(some 30), none, (.op (.mv (.t 33)))⟩,
    ⟨(some 34), none, (.op (.ext (.t 30) 0))⟩,
    ⟨(some 35), none, (.op (.ext (.t 30) 1))⟩,
    ⟨(some 8), none, (.op (.mv (.t 34)))⟩,
    ⟨(some 9), none, (.op (.mv (.t 35)))⟩])
   (.live [2, 7, 6, 0, 8, 9, 5] (.seq (.seq (.region [⟨(some 36), none, (.op (.mv (.t 5)))⟩,
    ⟨(some 37), none, (.op (.nilck (.t 36)))⟩,
    ⟨(some 38), none, (.op (.faddr 1 (.t 37)))⟩,
    ⟨(some 39), none, (.op (.load none (.t 38)))⟩,
    ⟨(some 40), none, (.op (.mv (.t 39)))⟩,
    ⟨(some 41), some (40, false), (.op (.mv (.t 9)))⟩,
    ⟨(some 42), some (40, false), (.op (.bin .int true .neq (.t 41) (.c (.i .i64 0))))⟩,
    ⟨(some 43), none, (.op (.pick (.t 40) (.c (.b true)) (.t 42)))⟩,
    ⟨(some 44), none, (.op (.mv (.t 43)))⟩,
    ⟨(some 45), some (44, false), (.op (.mv (.t 8)))⟩,
    ⟨(some 46), some (44, false), (.op (.mv (.t 0)))⟩,
    ⟨(some 47), some (44, false), (.call 26 [(.t 45), (.t 46)])⟩,
    ⟨(some 48), some (44, false), (.op (.un .not (.t 47)))⟩,
    ⟨(some 49), none, (.op (.pick (.t 44) (.c (.b true)) (.t 48)))⟩])
   (.live [2, 7, 6, 49] (.cond (.t 49) (.seq (.region [⟨(some 50), none, (.op (.build [(.i .i64 0), (.i .i64 0), (.i .u64 0)] []))⟩,
    ⟨none, none, (.op (.store 3 (.t 2) (.t 50)))⟩,
    ⟨(some 3), none, (.op (.mv (.c .sn)))⟩,
    ⟨(some 4), none, (.op (.mv (.c (.i .i64 221))))⟩])
   (.ret))
   (.skip))))
   (.live [2, 7, 6] (.seq (.region [⟨(some 51), none, (.op (.load (some 3) (.t 6)))⟩,
    ⟨(some 52), none, (.op (.mv (.t 7)))⟩,
    ⟨none, none, (.op (.store 3 (.t 2) (.t 51)))⟩,
    ⟨(some 3), none, (.op (.mv (.t 52)))⟩,
    ⟨(some 4), none, (.op (.mv (.c (.i .i64 0))))⟩])
   (.ret))))))))))))))),
  []⟩


/- floodgate/script.right -/

def c20 : IFunc := ⟨1, [.tmp 2],
  .seq (.region [⟨(some 2), none, (.op (.mv (.c (.b false))))⟩])
   (.live [0] (.seq (.region [⟨(some 3), none, (.op (.mv (.t 0)))⟩,
    ⟨(some 4), none, (.op (.len .slice (.t 3)))⟩,
    ⟨(some 5), none, (.op (.bin .int true .leq (.t 4) (.c (.i .i64 400))))⟩,
    ⟨(some 6), none, (.op (.mv (.t 5)))⟩,
    ⟨(some 7), some (6, true), (.op (.mv (.t 0)))⟩,
    ⟨(some 8), some (6, true), (.call 39 [(.t 7), (.c (.f (.func 40) [] []))])⟩,
    ⟨(some 9), some (6, true), (.op (.un .not (.t 8)))⟩,
    ⟨(some 10), none, (.op (.pick (.t 6) (.t 9) (.c (.b false))))⟩,
    ⟨(some 2), none, (.op (.mv (.t 10)))⟩])
   (.ret))),
  []⟩


/- floodgate/leb.Nums -/
def c21l0 : ICode :=
  .seq (.region [⟨(some 9), none, (.op (.bin .int false .lss (.t 8) (.t 7)))⟩])
   (.live [6, 7, 8, 3, 9] (.seq (.cond (.t 9) (.skip)
   (.exit 0))
   (.live [6, 7, 8, 3] (.seq (.block 1 (.seq (.region [⟨(some 10), none, (.op (.iaddr none 1 (.t 6) (.t 8)))⟩,
    ⟨(some 11), none, (.op (.load none (.t 10)))⟩,
    ⟨(some 5), none, (.op (.mv (.t 11)))⟩])
   (.live [6, 7, 8, 5, 3] (.region [⟨(some 12), none, (.op (.mv (.t 3)))⟩,
    ⟨(some 13), none, (.op (.mv (.t 5)))⟩,
    ⟨(some 14), none, (.call 41 [(.t 13)])⟩,
    ⟨(some 15), none, (.op (.app 1 1 (.t 12) (.t 14)))⟩,
    ⟨(some 3), none, (.op (.mv (.t 15)))⟩]))))
   (.live [6, 7, 3, 8] (.region [⟨(some 16), none, (.op (.bin .int true .add (.t 8) (.c (.i .i64 1))))⟩,
    ⟨(some 8), none, (.op (.mv (.t 16)))⟩]))))))
def c21 : IFunc := ⟨1, [.tmp 2],
  .seq (.region [⟨(some 2), none, (.op (.mv (.c .sn)))⟩])
   (.live [0] (.seq (.region [⟨(some 3), none, (.op (.mv (.c .sn)))⟩])
   (.live [3, 0] (.seq (.seq (.region [⟨(some 6), none, (.op (.mv (.t 0)))⟩,
    ⟨(some 7), none, (.op (.len .slice (.t 6)))⟩,
    ⟨(some 8), none, (.op (.mv (.c (.i .i64 0))))⟩])
   (.live [6, 7, 8, 3] (.block 0 (.loop [6, 7, 8, 3] c21l0))))
   (.live [3] (.seq (.region [⟨(some 17), none, (.op (.mv (.t 3)))⟩,
    ⟨(some 2), none, (.op (.mv (.t 17)))⟩])
   (.ret))))))),
  []⟩


/- floodgate/leb.Zig -/

def c22 : IFunc := ⟨1, [.tmp 2],
  .seq (.region [⟨(some 2), none, (.op (.mv (.c (.i .u64 0))))⟩])
   (.live [0] (.seq (.region [⟨(some 3), none, (.op (.mv (.t 0)))⟩,
    ⟨(some 4), none, (.op (.toInt .u64 (.t 3)))⟩,
    ⟨(some 5), none, (.op (.bin .int true .shl (.t 4) (.c (.i .u64 1))))⟩,
    ⟨(some 6), none, (.op (.mv (.t 0)))⟩,
    ⟨(some 7), none, (.op (.bin .int true .shr (.t 6) (.c (.i .u64 63))))⟩,
    ⟨(some 8), none, (.op (.toInt .u64 (.t 7)))⟩,
    ⟨(some 9), none, (.op (.bin .int false .xor (.t 5) (.t 8)))⟩,
    ⟨(some 2), none, (.op (.mv (.t 9)))⟩])
   (.ret))),
  []⟩


/- floodgate/script.bytes -/
def c23d0 : List Stage :=
  [⟨[(⟨(some 15), none, (.op (.mv (.t 3)))⟩, 1), (⟨(some 16), none, (.op (.faddr 4 (.t 1)))⟩, 0), (⟨(some 17), none, (.op (.load none (.t 16)))⟩, 0), (⟨(some 18), none, (.op (.len .slice (.t 17)))⟩, 0), (⟨(some 19), none, (.op (.toInt .u64 (.t 18)))⟩, 0), (⟨(some 21), none, (.op (.faddr 4 (.t 1)))⟩, 1), (⟨(some 22), none, (.op (.load none (.t 21)))⟩, 1)], none, some ⟨(some 20), none, (.call 41 [(.t 19)])⟩⟩,
    ⟨[], none, some ⟨(some 23), none, (.op (.bslice [.sn] 3 [(0, 1, (.t 15)), (1, 1, (.t 20)), (2, 1, (.t 22))]))⟩⟩,
    ⟨[], none, some ⟨(some 24), none, (.call 42 [(.t 23)])⟩⟩,
    ⟨[(⟨(some 2), none, (.op (.mv (.t 24)))⟩, 3)], none, none⟩]
def c23d0w : List (ROp × Bool) :=
  [(⟨(some 15), none, (.op (.mv (.t 3)))⟩, false), (⟨(some 16), none, (.op (.faddr 4 (.t 1)))⟩, false), (⟨(some 17), none, (.op (.load none (.t 16)))⟩, false), (⟨(some 18), none, (.op (.len .slice (.t 17)))⟩, false), (⟨(some 19), none, (.op (.toInt .u64 (.t 18)))⟩, false), (⟨(some 21), none, (.op (.faddr 4 (.t 1)))⟩, false), (⟨(some 22), none, (.op (.load none (.t 21)))⟩, false), (⟨(some 20), none, (.call 41 [(.t 19)])⟩, true), (⟨(some 23), none, (.op (.bslice [.sn] 3 [(0, 1, (.t 15)), (1, 1, (.t 20)), (2, 1, (.t 22))]))⟩, false), (⟨(some 24), none, (.call 42 [(.t 23)])⟩, false), (⟨(some 2), none, (.op (.mv (.t 24)))⟩, false)]
theorem c23d0_w {P : Program} {O : Orc} {S0 : Mem} {rd : Bool} {e : Env} {S : Mem} {d : List Nat} {Q : Kont} : W P O S0 rd (.draw c23d0 []) e S d Q = wFl O c23d0w e S (normK Q d) := W_draw' (by kernel_rfl) (by kernel_rfl)
attribute [go_sem] c23d0_w c23d0w
def c23d1 : List Stage :=
  [⟨[(⟨(some 36), none, (.op (.mv (.t 3)))⟩, 5), (⟨(some 37), none, (.op (.faddr 0 (.t 4)))⟩, 0), (⟨(some 38), none, (.op (.load none (.t 37)))⟩, 0), (⟨(some 40), none, (.op (.faddr 1 (.t 4)))⟩, 1), (⟨(some 41), none, (.op (.faddr 0 (.t 40)))⟩, 1), (⟨(some 42), none, (.op (.load (some 4) (.t 41)))⟩, 1), (⟨(some 45), none, (.op (.faddr 1 (.t 4)))⟩, 2), (⟨(some 46), none, (.op (.faddr 4 (.t 45)))⟩, 2), (⟨(some 47), none, (.op (.load none (.t 46)))⟩, 2), (⟨(some 49), none, (.op (.faddr 6 (.t 4)))⟩, 3), (⟨(some 50), none, (.op (.load none (.t 49)))⟩, 3), (⟨(some 51), none, (.op (.faddr 7 (.t 4)))⟩, 3), (⟨(some 52), none, (.op (.load none (.t 51)))⟩, 3), (⟨(some 53), none, (.op (.faddr 8 (.t 4)))⟩, 3), (⟨(some 54), none, (.op (.load none (.t 53)))⟩, 3), (⟨(some 55), none, (.op (.faddr 9 (.t 4)))⟩, 3), (⟨(some 56), none, (.op (.load none (.t 55)))⟩, 3), (⟨(some 57), none, (.op (.faddr 10 (.t 4)))⟩, 3), (⟨(some 58), none, (.op (.load none (.t 57)))⟩, 3), (⟨(some 59), none, (.op (.faddr 11 (.t 4)))⟩, 3), (⟨(some 60), none, (.op (.load none (.t 59)))⟩, 3), (⟨(some 61), none, (.op (.faddr 12 (.t 4)))⟩, 3), (⟨(some 62), none, (.op (.load none (.t 61)))⟩, 3)], none, some ⟨(some 39), none, (.call 22 [(.t 38)])⟩⟩,
    ⟨[], none, some ⟨(some 43), none, (.call 43 [(.t 42)])⟩⟩,
    ⟨[(⟨(some 44), none, (.op (.toInt .u64 (.t 43)))⟩, 3)], none, some ⟨(some 48), none, (.call 22 [(.t 47)])⟩⟩,
    ⟨[], none, some ⟨(some 63), none, (.op (.bslice [(.i .u64 0)] 10 [(0, 1, (.t 39)), (1, 1, (.t 44)), (2, 1, (.t 48)), (3, 1, (.t 50)), (4, 1, (.t 52)), (5, 1, (.t 54)), (6, 1, (.t 56)), (7, 1, (.t 58)), (8, 1, (.t 60)), (9, 1, (.t 62))]))⟩⟩,
    ⟨[], none, some ⟨(some 64), none, (.call 21 [(.t 63)])⟩⟩,
    ⟨[], none, some ⟨(some 65), none, (.op (.app 1 1 (.t 36) (.t 64)))⟩⟩,
    ⟨[(⟨(some 2), none, (.op (.mv (.t 65)))⟩, 6)], none, none⟩]
def c23d1w : List (ROp × Bool) :=
  [(⟨(some 36), none, (.op (.mv (.t 3)))⟩, false), (⟨(some 37), none, (.op (.faddr 0 (.t 4)))⟩, false), (⟨(some 38), none, (.op (.load none (.t 37)))⟩, false), (⟨(some 40), none, (.op (.faddr 1 (.t 4)))⟩, false), (⟨(some 41), none, (.op (.faddr 0 (.t 40)))⟩, false), (⟨(some 42), none, (.op (.load (some 4) (.t 41)))⟩, false), (⟨(some 45), none, (.op (.faddr 1 (.t 4)))⟩, false), (⟨(some 46), none, (.op (.faddr 4 (.t 45)))⟩, false), (⟨(some 47), none, (.op (.load none (.t 46)))⟩, false), (⟨(some 49), none, (.op (.faddr 6 (.t 4)))⟩, false), (⟨(some 50), none, (.op (.load none (.t 49)))⟩, false), (⟨(some 51), none, (.op (.faddr 7 (.t 4)))⟩, false), (⟨(some 52), none, (.op (.load none (.t 51)))⟩, false), (⟨(some 53), none, (.op (.faddr 8 (.t 4)))⟩, false), (⟨(some 54), none, (.op (.load none (.t 53)))⟩, false), (⟨(some 55), none, (.op (.faddr 9 (.t 4)))⟩, false), (⟨(some 56), none, (.op (.load none (.t 55)))⟩, false), (⟨(some 57), none, (.op (.faddr 10 (.t 4)))⟩, false), (⟨(some 58), none, (.op (.load none (.t 57)))⟩, false), (⟨(some 59), none, (.op (.faddr 11 (.t 4)))⟩, false), (⟨(some 60), none, (.op (.load none (.t 59)))⟩, false), (⟨(some 61), none, (.op (.faddr 12 (.t 4)))⟩, false), (⟨(some 62), none, (.op (.load none (.t 61)))⟩, false), (⟨(some 39), none, (.call 22 [(.t 38)])⟩, true), (⟨(some 43), none, (.call 43 [(.t 42)])⟩, true), (⟨(some 44), none, (.op (.toInt .u64 (.t 43)))⟩, false), (⟨(some 48), none, (.call 22 [(.t 47)])⟩, true), (⟨(some 63), none, (.op (.bslice [(.i .u64 0)] 10 [(0, 1, (.t 39)), (1, 1, (.t 44)), (2, 1, (.t 48)), (3, 1, (.t 50)), (4, 1, (.t 52)), (5, 1, (.t 54)), (6, 1, (.t 56)), (7, 1, (.t 58)), (8, 1, (.t 60)), (9, 1, (.t 62))]))⟩, false), (⟨(some 64), none, (.call 21 [(.t 63)])⟩, false), (⟨(some 65), none, (.op (.app 1 1 (.t 36) (.t 64)))⟩, false), (⟨(some 2), none, (.op (.mv (.t 65)))⟩, false)]
theorem c23d1_w {P : Program} {O : Orc} {S0 : Mem} {rd : Bool} {e : Env} {S : Mem} {d : List Nat} {Q : Kont} : W P O S0 rd (.draw c23d1 []) e S d Q = wFl O c23d1w e S (normK Q d) := W_draw' (by kernel_rfl) (by kernel_rfl)
attribute [go_sem] c23d1_w c23d1w
def c23l2 : ICode :=
  .seq (.region [⟨(some 96), none, (.op (.bin .int false .lss (.t 95) (.t 94)))⟩])
   (.live [93, 94, 95, 3, 96] (.seq (.cond (.t 96) (.skip)
   (.exit 1))
   (.live [93, 94, 95, 3] (.seq (.block 2 (.seq (.region [⟨(some 97), none, (.op (.iaddr none 1 (.t 93) (.t 95)))⟩,
    ⟨(some 98), none, (.op (.load none (.t 97)))⟩,
    ⟨(some 6), none, (.op (.mv (.t 98)))⟩])
   (.live [93, 94, 95, 6, 3] (.region [⟨(some 99), none, (.op (.mv (.t 3)))⟩,
    ⟨(some 100), none, (.op (.mv (.t 6)))⟩,
    ⟨(some 101), none, (.call 44 [(.t 100)])⟩,
    ⟨(some 102), none, (.call 41 [(.t 101)])⟩,
    ⟨(some 103), none, (.op (.app 1 1 (.t 99) (.t 102)))⟩,
    ⟨(some 3), none, (.op (.mv (.t 103)))⟩]))))
   (.live [93, 94, 3, 95] (.region [⟨(some 104), none, (.op (.bin .int true .add (.t 95) (.c (.i .i64 1))))⟩,
    ⟨(some 95), none, (.op (.mv (.t 104)))⟩]))))))
def c23 : IFunc := ⟨1, [.tmp 2],
  .seq (.region [⟨(some 1), none, (.op (.box (.t 0)))⟩,
    ⟨(some 2), none, (.op (.mv (.c .sn)))⟩])
   (.live [1] (.seq (.region [⟨(some 7), none, (.op (.faddr 0 (.t 1)))⟩,
    ⟨(some 8), none, (.op (.load none (.t 7)))⟩,
    ⟨(some 9), none, (.op (.toInt .u64 (.t 8)))⟩,
    ⟨(some 10), none, (.call 41 [(.t 9)])⟩,
    ⟨(some 3), none, (.op (.mv (.t 10)))⟩])
   (.live [3, 1] (.seq (.seq (.region [⟨(some 11), none, (.op (.faddr 0 (.t 1)))⟩,
    ⟨(some 12), none, (.op (.load none (.t 11)))⟩])
   (.live [3, 1, 12] (.block 0 (.seq (.region [⟨(some 14), none, (.op (.bin .int true .eql (.t 12) (.c (.i .i64 0))))⟩,
    ⟨(some 13), none, (.op (.mv (.t 14)))⟩])
   (.live [3, 1, 12, 13] (.cond (.t 13) (.seq (.draw c23d0 [])
   (.ret))
   (.seq (.region [⟨(some 26), none, (.op (.bin .int true .eql (.t 12) (.c (.i .i64 1))))⟩,
    ⟨(some 25), none, (.op (.mv (.t 26)))⟩])
   (.live [1, 3, 12, 25] (.cond (.t 25) (.seq (.region [⟨(some 27), none, (.op (.mv (.t 3)))⟩,
    ⟨(some 28), none, (.op (.faddr 3 (.t 1)))⟩,
    ⟨(some 29), none, (.op (.load none (.t 28)))⟩,
    ⟨(some 30), none, (.call 41 [(.t 29)])⟩,
    ⟨(some 31), none, (.op (.app 1 1 (.t 27) (.t 30)))⟩,
    ⟨(some 2), none, (.op (.mv (.t 31)))⟩])
   (.ret))
   (.seq (.region [⟨(some 33), none, (.op (.bin .int true .eql (.t 12) (.c (.i .i64 4))))⟩,
    ⟨(some 32), none, (.op (.mv (.t 33)))⟩])
   (.live [3, 1, 12, 32] (.cond (.t 32) (.seq (.region [⟨(some 34), none, (.op (.faddr 5 (.t 1)))⟩,
    ⟨(some 35), none, (.op (.load (some 13) (.t 34)))⟩,
    ⟨(some 4), none, (.op (.fresh [(.i .i64 0), (.i .u8 0), (.i .u8 0), (.i .u8 0), (.i .u8 0), (.i .i64 0), (.i .u64 0), (.i .u64 0), (.i .u64 0), (.i .u64 0), (.i .u64 0), (.i .u64 0), (.i .u64 0)]))⟩,
    ⟨none, none, (.op (.store 13 (.t 4) (.t 35)))⟩])
   (.live [3, 4] (.seq (.draw c23d1 [])
   (.ret))))
   (.seq (.seq (.region [⟨(some 67), none, (.op (.bin .int true .eql (.t 12) (.c (.i .i64 5))))⟩,
    ⟨(some 66), none, (.op (.mv (.t 67)))⟩])
   (.live [1, 3, 12, 66] (.cond (.t 66) (.skip)
   (.region [⟨(some 68), none, (.op (.bin .int true .eql (.t 12) (.c (.i .i64 8))))⟩,
    ⟨(some 66), none, (.op (.mv (.t 68)))⟩]))))
   (.live [1, 3, 12, 66] (.cond (.t 66) (.seq (.region [⟨(some 69), none, (.op (.mv (.t 3)))⟩,
    ⟨(some 70), none, (.op (.faddr 1 (.t 1)))⟩,
    ⟨(some 71), none, (.op (.load none (.t 70)))⟩,
    ⟨(some 72), none, (.call 22 [(.t 71)])⟩,
    ⟨(some 73), none, (.call 41 [(.t 72)])⟩,
    ⟨(some 74), none, (.op (.app 1 1 (.t 69) (.t 73)))⟩,
    ⟨(some 2), none, (.op (.mv (.t 74)))⟩])
   (.ret))
   (.seq (.region [⟨(some 76), none, (.op (.bin .int true .eql (.t 12) (.c (.i .i64 10))))⟩,
    ⟨(some 75), none, (.op (.mv (.t 76)))⟩])
   (.live [1, 3, 12, 75] (.cond (.t 75) (.seq (.region [⟨(some 77), none, (.op (.mv (.t 3)))⟩,
    ⟨(some 78), none, (.op (.faddr 2 (.t 1)))⟩,
    ⟨(some 79), none, (.op (.load none (.t 78)))⟩,
    ⟨(some 80), none, (.call 22 [(.t 79)])⟩,
    ⟨(some 81), none, (.call 41 [(.t 80)])⟩,
    ⟨(some 82), none, (.op (.app 1 1 (.t 77) (.t 81)))⟩,
    ⟨(some 2), none, (.op (.mv (.t 82)))⟩])
   (.ret))
   (.seq (.region [⟨(some 84), none, (.op (.bin .int true .eql (.t 12) (.c (.i .i64 11))))⟩,
    ⟨(some 83), none, (.op (.mv (.t 84)))⟩])
   (.live [1, 3, 83] (.cond (.t 83) (.seq (.region [⟨(some 85), none, (.op (.mv (.t 3)))⟩,
    ⟨(some 86), none, (.op (.faddr 18 (.t 1)))⟩,
    ⟨(some 87), none, (.op (.load none (.t 86)))⟩,
    ⟨(some 88), none, (.op (.len .slice (.t 87)))⟩,
    ⟨(some 89), none, (.op (.toInt .u64 (.t 88)))⟩,
    ⟨(some 90), none, (.call 41 [(.t 89)])⟩,
    ⟨(some 91), none, (.op (.app 1 1 (.t 85) (.t 90)))⟩,
    ⟨(some 3), none, (.op (.mv (.t 91)))⟩])
   (.live [3, 1] (.seq (.region [⟨(some 92), none, (.op (.faddr 18 (.t 1)))⟩,
    ⟨(some 93), none, (.op (.load none (.t 92)))⟩,
    ⟨(some 94), none, (.op (.len .slice (.t 93)))⟩,
    ⟨(some 95), none, (.op (.mv (.c (.i .i64 0))))⟩])
   (.live [93, 94, 95, 3] (.block 1 (.loop [93, 94, 95, 3] c23l2))))))
   (.skip))))))))))))))))))))))
   (.live [3] (.seq (.region [⟨(some 105), none, (.op (.mv (.t 3)))⟩,
    ⟨(some 2), none, (.op (.mv (.t 105)))⟩])
   (.ret))))))),
  []⟩


/- floodgate/script.begin -/

def c24 : IFunc := ⟨2, [.tmp 4, .tmp 5],
  .seq (.region [⟨(some 2), none, (.op (.box (.t 0)))⟩,
    ⟨(some 4), none, (.op (.mv (.c .pn)))⟩,
    ⟨(some 5), none, (.op (.mv (.c (.i .i64 0))))⟩])
   (.live [2, 1] (.seq (.seq (.region [⟨(some 6), none, (.op (.mv (.t 1)))⟩,
    ⟨(some 7), none, (.call 20 [(.t 6)])⟩,
    ⟨(some 8), none, (.op (.un .not (.t 7)))⟩])
   (.live [2, 8] (.cond (.t 8) (.seq (.region [⟨(some 4), none, (.op (.mv (.c .pn)))⟩,
    ⟨(some 5), none, (.op (.mv (.c (.i .i64 221))))⟩])
   (.ret))
   (.skip))))
   (.live [2] (.seq (.region [⟨(some 9), none, (.op (.load (some 3) (.t 2)))⟩,
    ⟨(some 10), none, (.call 45 [(.t 9)])⟩,
    ⟨(some 11), none, (.op (.ext (.t 10) 0))⟩,
    ⟨(some 12), none, (.op (.ext (.t 10) 1))⟩,
    ⟨(some 4), none, (.op (.mv (.t 11)))⟩,
    ⟨(some 5), none, (.op (.mv (.t 12)))⟩])
   (.ret))))),
  []⟩


/- floodgate/script.Do -/

def c25 : IFunc := ⟨2, [.cell 4 (some 28)],
  .seq (.region [⟨(some 3), none, (.op (.box (.t 1)))⟩,
    ⟨(some 4), none, (.op (.fresh [(.i .i64 0), (.i .i64 0), (.b false), (.i .i64 0), (.i .i64 0), (.b false), .sn, (.i .u64 0), (.i .i64 0), (.b false), (.i .i64 0), (.i .u8 0), (.i .u8 0), (.i .u8 0), (.i .u8 0), (.i .i64 0), (.i .u64 0), (.i .u64 0), (.i .u64 0), (.i .u64 0), (.i .u64 0), (.i .u64 0), (.i .u64 0), (.i .u64 0), (.i .u64 0), (.i .i64 0), (.i .u64 0), (.i .u64 0)]))⟩])
   (.live [4, 3, 0] (.seq (.region [⟨(some 5), none, (.op (.fresh [(.i .i64 0), (.i .i64 0), (.b false), (.i .i64 0), (.i .i64 0), (.b false), .sn, (.i .u64 0), (.i .i64 0), (.b false), (.i .i64 0), (.i .u8 0), (.i .u8 0), (.i .u8 0), (.i .u8 0), (.i .i64 0), (.i .u64 0), (.i .u64 0), (.i .u64 0), (.i .u64 0), (.i .u64 0), (.i .u64 0), (.i .u64 0), (.i .u64 0), (.i .u64 0), (.i .i64 0), (.i .u64 0), (.i .u64 0)]))⟩])
   (.live [4, 5, 3, 0] (.seq (.seq (.region [⟨(some 6), none, (.op (.load (some 19) (.t 3)))⟩,
    ⟨(some 7), none, (.call 15 [(.t 6)])⟩,
    ⟨(some 8), none, (.op (.un .not (.t 7)))⟩])
   (.live [4, 5, 3, 0, 8] (.cond (.t 8) (.seq (.region [⟨(some 9), none, (.op (.load (some 28) (.t 5)))⟩,
    ⟨none, none, (.op (.store 28 (.t 4) (.t 9)))⟩])
   (.ret))
   (.skip))))
   (.live [4, 5, 3, 0] (.seq (.seq (.region [⟨(some 10), none, (.op (.faddr 0 (.t 3)))⟩,
    ⟨(some 11), none, (.op (.load none (.t 10)))⟩])
   (.live [4, 5, 3, 0, 11] (.block 0 (.seq (.region [⟨(some 18), none, (.op (.bin .int true .eql (.t 11) (.c (.i .i64 0))))⟩,
    ⟨(some 17), none, (.op (.mv (.t 18)))⟩])
   (.live [4, 5, 3, 0, 11, 17] (.cond (.t 17) (.region [⟨(some 20), none, (.op (.mv (.t 0)))⟩,
    ⟨(some 21), none, (.op (.faddr 4 (.t 3)))⟩,
    ⟨(some 22), none, (.op (.load none (.t 21)))⟩,
    ⟨(some 23), none, (.call 46 [(.t 20), (.t 22)])⟩,
    ⟨(some 19), none, (.op (.mv (.t 23)))⟩,
    ⟨(some 24), none, (.op (.ext (.t 19) 0))⟩,
    ⟨(some 25), none, (.op (.ext (.t 19) 1))⟩,
    ⟨(some 26), none, (.op (.faddr 1 (.t 5)))⟩,
    ⟨none, none, (.op (.store 1 (.t 26) (.t 24)))⟩,
    ⟨(some 27), none, (.op (.faddr 0 (.t 5)))⟩,
    ⟨none, none, (.op (.store 1 (.t 27) (.t 25)))⟩])
   (.seq (.region [⟨(some 29), none, (.op (.bin .int true .eql (.t 11) (.c (.i .i64 1))))⟩,
    ⟨(some 28), none, (.op (.mv (.t 29)))⟩])
   (.live [4, 5, 3, 0, 11, 28] (.cond (.t 28) (.region [⟨(some 31), none, (.op (.mv (.t 0)))⟩,
    ⟨(some 32), none, (.op (.faddr 3 (.t 3)))⟩,
    ⟨(some 33), none, (.op (.load none (.t 32)))⟩,
    ⟨(some 34), none, (.call 47 [(.t 31), (.t 33)])⟩,
    ⟨(some 30), none, (.op (.mv (.t 34)))⟩,
    ⟨(some 35), none, (.op (.ext (.t 30) 0))⟩,
    ⟨(some 36), none, (.op (.ext (.t 30) 1))⟩,
    ⟨(some 37), none, (.op (.faddr 2 (.t 5)))⟩,
    ⟨none, none, (.op (.store 1 (.t 37) (.t 35)))⟩,
    ⟨(some 38), none, (.op (.faddr 0 (.t 5)))⟩,
    ⟨none, none, (.op (.store 1 (.t 38) (.t 36)))⟩])
   (.seq (.region [⟨(some 40), none, (.op (.bin .int true .eql (.t 11) (.c (.i .i64 2))))⟩,
    ⟨(some 39), none, (.op (.mv (.t 40)))⟩])
   (.live [4, 5, 0, 3, 11, 39] (.cond (.t 39) (.region [⟨(some 42), none, (.op (.mv (.t 0)))⟩,
    ⟨(some 43), none, (.call 48 [(.t 42)])⟩,
    ⟨(some 41), none, (.op (.mv (.t 43)))⟩,
    ⟨(some 44), none, (.op (.ext (.t 41) 0))⟩,
    ⟨(some 45), none, (.op (.ext (.t 41) 1))⟩,
    ⟨(some 46), none, (.op (.faddr 3 (.t 5)))⟩,
    ⟨none, none, (.op (.store 4 (.t 46) (.t 44)))⟩,
    ⟨(some 47), none, (.op (.faddr 0 (.t 5)))⟩,
    ⟨none, none, (.op (.store 1 (.t 47) (.t 45)))⟩])
   (.seq (.region [⟨(some 49), none, (.op (.bin .int true .eql (.t 11) (.c (.i .i64 4))))⟩,
    ⟨(some 48), none, (.op (.mv (.t 49)))⟩])
   (.live [4, 5, 3, 0, 11, 48] (.cond (.t 48) (.region [⟨(some 50), none, (.op (.mv (.t 0)))⟩,
    ⟨(some 51), none, (.op (.faddr 5 (.t 3)))⟩,
    ⟨(some 52), none, (.op (.load (some 13) (.t 51)))⟩,
    ⟨(some 53), none, (.call 49 [(.t 50), (.t 52)])⟩,
    ⟨(some 54), none, (.op (.faddr 0 (.t 5)))⟩,
    ⟨none, none, (.op (.store 1 (.t 54) (.t 53)))⟩])
   (.seq (.region [⟨(some 56), none, (.op (.bin .int true .eql (.t 11) (.c (.i .i64 5))))⟩,
    ⟨(some 55), none, (.op (.mv (.t 56)))⟩])
   (.live [4, 5, 3, 0, 11, 55] (.cond (.t 55) (.region [⟨(some 57), none, (.op (.mv (.t 0)))⟩,
    ⟨(some 58), none, (.op (.faddr 1 (.t 3)))⟩,
    ⟨(some 59), none, (.op (.load none (.t 58)))⟩,
    ⟨(some 60), none, (.call 50 [(.t 57), (.t 59)])⟩,
    ⟨(some 61), none, (.op (.faddr 0 (.t 5)))⟩,
    ⟨none, none, (.op (.store 1 (.t 61) (.t 60)))⟩])
   (.seq (.region [⟨(some 63), none, (.op (.bin .int true .eql (.t 11) (.c (.i .i64 8))))⟩,
    ⟨(some 62), none, (.op (.mv (.t 63)))⟩])
   (.live [4, 5, 3, 0, 11, 62] (.cond (.t 62) (.region [⟨(some 65), none, (.op (.mv (.t 0)))⟩,
    ⟨(some 66), none, (.op (.faddr 1 (.t 3)))⟩,
    ⟨(some 67), none, (.op (.load none (.t 66)))⟩,
    ⟨(some 68), none, (.call 51 [(.t 65), (.t 67)])⟩,
    ⟨(some 64), none, (.op (.mv (.t 68)))⟩,
    ⟨(some 69), none, (.op (.ext (.t 64) 0))⟩,
    ⟨(some 70), none, (.op (.ext (.t 64) 1))⟩,
    ⟨(some 71), none, (.op (.faddr 7 (.t 5)))⟩,
    ⟨none, none, (.op (.store 21 (.t 71) (.t 69)))⟩,
    ⟨(some 72), none, (.op (.faddr 0 (.t 5)))⟩,
    ⟨none, none, (.op (.store 1 (.t 72) (.t 70)))⟩])
   (.seq (.region [⟨(some 74), none, (.op (.bin .int true .eql (.t 11) (.c (.i .i64 10))))⟩,
    ⟨(some 73), none, (.op (.mv (.t 74)))⟩])
   (.live [4, 5, 3, 0, 11, 73] (.cond (.t 73) (.region [⟨(some 75), none, (.op (.mv (.t 0)))⟩,
    ⟨(some 76), none, (.op (.faddr 2 (.t 3)))⟩,
    ⟨(some 77), none, (.op (.load none (.t 76)))⟩,
    ⟨(some 78), none, (.call 52 [(.t 75), (.t 77)])⟩])
   (.seq (.region [⟨(some 80), none, (.op (.bin .int true .eql (.t 11) (.c (.i .i64 11))))⟩,
    ⟨(some 79), none, (.op (.mv (.t 80)))⟩])
   (.live [4, 5, 3, 0, 79] (.cond (.t 79) (.region [⟨(some 81), none, (.op (.mv (.t 0)))⟩,
    ⟨(some 82), none, (.op (.faddr 18 (.t 3)))⟩,
    ⟨(some 83), none, (.op (.load none (.t 82)))⟩,
    ⟨(some 84), none, (.call 53 [(.t 81), (.t 83)])⟩])
   (.region [⟨(some 12), none, (.op (.mv (.t 0)))⟩,
    ⟨(some 13), none, (.op (.faddr 0 (.t 3)))⟩,
    ⟨(some 14), none, (.op (.load none (.t 13)))⟩,
    ⟨(some 15), none, (.call 54 [(.t 12), (.t 14)])⟩,
    ⟨(some 16), none, (.op (.faddr 0 (.t 5)))⟩,
    ⟨none, none, (.op (.store 1 (.t 16) (.t 15)))⟩]))))))))))))))))))))))))))))
   (.live [4, 5] (.seq (.region [⟨(some 85), none, (.op (.load (some 28) (.t 5)))⟩,
    ⟨none, none, (.op (.store 28 (.t 4) (.t 85)))⟩])
   (.ret))))))))),
  []⟩


/- slices.Equal[[]byte,byte] -/
def c26d0 : List Stage :=
  [⟨[(⟨(some 16), none, (.op (.mv (.t 0)))⟩, 0), (⟨(some 17), none, (.op (.mv (.t 5)))⟩, 0), (⟨(some 18), none, (.op (.iaddr none 1 (.t 16) (.t 17)))⟩, 0), (⟨(some 19), none, (.op (.load none (.t 18)))⟩, 0), (⟨(some 20), none, (.op (.mv (.t 1)))⟩, 0), (⟨(some 21), none, (.op (.mv (.t 5)))⟩, 0), (⟨(some 22), none, (.op (.iaddr none 1 (.t 20) (.t 21)))⟩, 0), (⟨(some 23), none, (.op (.load none (.t 22)))⟩, 0), (⟨(some 24), none, (.op (.bin .int false .neq (.t 19) (.t 23)))⟩, 0)], none, none⟩]
def c26d0w : List (ROp × Bool) :=
  [(⟨(some 16), none, (.op (.mv (.t 0)))⟩, false), (⟨(some 17), none, (.op (.mv (.t 5)))⟩, false), (⟨(some 18), none, (.op (.iaddr none 1 (.t 16) (.t 17)))⟩, false), (⟨(some 19), none, (.op (.load none (.t 18)))⟩, false), (⟨(some 20), none, (.op (.mv (.t 1)))⟩, false), (⟨(some 21), none, (.op (.mv (.t 5)))⟩, false), (⟨(some 22), none, (.op (.iaddr none 1 (.t 20) (.t 21)))⟩, false), (⟨(some 23), none, (.op (.load none (.t 22)))⟩, false), (⟨(some 24), none, (.op (.bin .int false .neq (.t 19) (.t 23)))⟩, false)]
theorem c26d0_w {P : Program} {O : Orc} {S0 : Mem} {rd : Bool} {e : Env} {S : Mem} {d : List Nat} {Q : Kont} : W P O S0 rd (.draw c26d0 []) e S d Q = wFl O c26d0w e S (normK Q d) := W_draw' (by kernel_rfl) (by kernel_rfl)
attribute [go_sem] c26d0_w c26d0w
def c26l1 : ICode :=
  .seq (.region [⟨(some 14), none, (.op (.bin .int false .lss (.t 13) (.t 12)))⟩])
   (.live [0, 1, 12, 13, 14] (.seq (.cond (.t 14) (.skip)
   (.exit 0))
   (.live [0, 1, 12, 13] (.seq (.block 1 (.seq (.region [⟨(some 15), none, (.op (.mv (.t 13)))⟩,
    ⟨(some 5), none, (.op (.mv (.t 15)))⟩])
   (.live [0, 1, 12, 13, 5] (.seq (.draw c26d0 [])
   (.live [0, 1, 12, 13, 24] (.cond (.t 24) (.seq (.region [⟨(some 4), none, (.op (.mv (.c (.b false))))⟩])
   (.ret))
   (.skip)))))))
   (.live [0, 1, 12, 13] (.region [⟨(some 25), none, (.op (.bin .int true .add (.t 13) (.c (.i .i64 1))))⟩,
    ⟨(some 13), none, (.op (.mv (.t 25)))⟩]))))))
def c26 : IFunc := ⟨2, [.tmp 4],
  .seq (.region [⟨(some 4), none, (.op (.mv (.c (.b false))))⟩])
   (.live [0, 1] (.seq (.seq (.region [⟨(some 6), none, (.op (.mv (.t 0)))⟩,
    ⟨(some 7), none, (.op (.len .slice (.t 6)))⟩,
    ⟨(some 8), none, (.op (.mv (.t 1)))⟩,
    ⟨(some 9), none, (.op (.len .slice (.t 8)))⟩,
    ⟨(some 10), none, (.op (.bin .int false .neq (.t 7) (.t 9)))⟩])
   (.live [0, 1, 10] (.cond (.t 10) (.seq (.region [⟨(some 4), none, (.op (.mv (.c (.b false))))⟩])
   (.ret))
   (.skip))))
   (.live [0, 1] (.seq (.seq (.region [⟨(some 11), none, (.op (.mv (.t 0)))⟩,
    ⟨(some 12), none, (.op (.len .slice (.t 11)))⟩,
    ⟨(some 13), none, (.op (.mv (.c (.i .i64 0))))⟩])
   (.live [0, 1, 12, 13] (.block 0 (.loop [0, 1, 12, 13] c26l1))))
   (.live [] (.seq (.region [⟨(some 4), none, (.op (.mv (.c (.b true))))⟩])
   (.ret))))))),
  []⟩


/- slices.Equal[[]bool,bool] -/
def c27d0 : List Stage :=
  [⟨[(⟨(some 16), none, (.op (.mv (.t 0)))⟩, 0), (⟨(some 17), none, (.op (.mv (.t 5)))⟩, 0), (⟨(some 18), none, (.op (.iaddr none 1 (.t 16) (.t 17)))⟩, 0), (⟨(some 19), none, (.op (.load none (.t 18)))⟩, 0), (⟨(some 20), none, (.op (.mv (.t 1)))⟩, 0), (⟨(some 21), none, (.op (.mv (.t 5)))⟩, 0), (⟨(some 22), none, (.op (.iaddr none 1 (.t 20) (.t 21)))⟩, 0), (⟨(some 23), none, (.op (.load none (.t 22)))⟩, 0), (⟨(some 24), none, (.op (.bin .bool false .neq (.t 19) (.t 23)))⟩, 0)], none, none⟩]
def c27d0w : List (ROp × Bool) :=
  [(⟨(some 16), none, (.op (.mv (.t 0)))⟩, false), (⟨(some 17), none, (.op (.mv (.t 5)))⟩, false), (⟨(some 18), none, (.op (.iaddr none 1 (.t 16) (.t 17)))⟩, false), (⟨(some 19), none, (.op (.load none (.t 18)))⟩, false), (⟨(some 20), none, (.op (.mv (.t 1)))⟩, false), (⟨(some 21), none, (.op (.mv (.t 5)))⟩, false), (⟨(some 22), none, (.op (.iaddr none 1 (.t 20) (.t 21)))⟩, false), (⟨(some 23), none, (.op (.load none (.t 22)))⟩, false), (⟨(some 24), none, (.op (.bin .bool false .neq (.t 19) (.t 23)))⟩, false)]
theorem c27d0_w {P : Program} {O : Orc} {S0 : Mem} {rd : Bool} {e : Env} {S : Mem} {d : List Nat} {Q : Kont} : W P O S0 rd (.draw c27d0 []) e S d Q = wFl O c27d0w e S (normK Q d) := W_draw' (by kernel_rfl) (by kernel_rfl)
attribute [go_sem] c27d0_w c27d0w
def c27l1 : ICode :=
  .seq (.region [⟨(some 14), none, (.op (.bin .int false .lss (.t 13) (.t 12)))⟩])
   (.live [0, 1, 12, 13, 14] (.seq (.cond (.t 14) (.skip)
   (.exit 0))
   (.live [0, 1, 12, 13] (.seq (.block 1 (.seq (.region [⟨(some 15), none, (.op (.mv (.t 13)))⟩,
    ⟨(some 5), none, (.op (.mv (.t 15)))⟩])
   (.live [0, 1, 12, 13, 5] (.seq (.draw c27d0 [])
   (.live [0, 1, 12, 13, 24] (.cond (.t 24) (.seq (.region [⟨(some 4), none, (.op (.mv (.c (.b false))))⟩])
   (.ret))
   (.skip)))))))
   (.live [0, 1, 12, 13] (.region [⟨(some 25), none, (.op (.bin .int true .add (.t 13) (.c (.i .i64 1))))⟩,
    ⟨(some 13), none, (.op (.mv (.t 25)))⟩]))))))
def c27 : IFunc := ⟨2, [.tmp 4],
  .seq (.region [⟨(some 4), none, (.op (.mv (.c (.b false))))⟩])
   (.live [0, 1] (.seq (.seq (.region [⟨(some 6), none, (.op (.mv (.t 0)))⟩,
    ⟨(some 7), none, (.op (.len .slice (.t 6)))⟩,
    ⟨(some 8), none, (.op (.mv (.t 1)))⟩,
    ⟨(some 9), none, (.op (.len .slice (.t 8)))⟩,
    ⟨(some 10), none, (.op (.bin .int false .neq (.t 7) (.t 9)))⟩])
   (.live [0, 1, 10] (.cond (.t 10) (.seq (.region [⟨(some 4), none, (.op (.mv (.c (.b false))))⟩])
   (.ret))
   (.skip))))
   (.live [0, 1] (.seq (.seq (.region [⟨(some 11), none, (.op (.mv (.t 0)))⟩,
    ⟨(some 12), none, (.op (.len .slice (.t 11)))⟩,
    ⟨(some 13), none, (.op (.mv (.c (.i .i64 0))))⟩])
   (.live [0, 1, 12, 13] (.block 0 (.loop [0, 1, 12, 13] c27l1))))
   (.live [] (.seq (.region [⟨(some 4), none, (.op (.mv (.c (.b true))))⟩])
   (.ret))))))),
  []⟩


/- (*floodgate/script.source).zag -/

def c32 : IFunc := ⟨1, [.tmp 2],
  .seq (.region [⟨(some 2), none, (.op (.mv (.c (.i .i64 0))))⟩])
   (.live [0] (.seq (.region [⟨(some 3), none, (.op (.mv (.t 0)))⟩,
    ⟨(some 4), none, (.call 33 [(.t 3)])⟩,
    ⟨(some 5), none, (.call 58 [(.t 4)])⟩,
    ⟨(some 2), none, (.op (.mv (.t 5)))⟩])
   (.ret))),
  []⟩


/- (*floodgate/script.source).num -/

def c33 : IFunc := ⟨1, [.tmp 2],
  .seq (.region [⟨(some 2), none, (.op (.mv (.c (.i .u64 0))))⟩])
   (.live [0] (.seq (.region [⟨(some 7), none, (.op (.mv (.t 0)))⟩,
    ⟨(some 8), none, (.op (.nilck (.t 7)))⟩,
    ⟨(some 9), none, (.op (.faddr 0 (.t 8)))⟩,
    ⟨(some 10), none, (.op (.load none (.t 9)))⟩,
    ⟨(some 11), none, (.call 59 [(.t 10)])⟩,
    ⟨(some 6), none, (.op (.mv (.t 11)))⟩,
    ⟨(some 12), none, (.op (.ext (.t 6) 0))⟩,
    ⟨(some 13), none, (.op (.ext (.t 6) 1))⟩,
    ⟨(some 14), none, (.op (.ext (.t 6) 2))⟩,
    ⟨(some 3), none, (.op (.mv (.t 12)))⟩,
    ⟨(some 4), none, (.op (.mv (.t 13)))⟩,
    ⟨(some 5), none, (.op (.mv (.t 14)))⟩])
   (.live [0, 3, 4, 5] (.seq (.seq (.region [⟨(some 15), none, (.op (.mv (.t 5)))⟩,
    ⟨(some 16), none, (.op (.bin .int true .neq (.t 15) (.c (.i .i64 0))))⟩])
   (.live [0, 3, 4, 16] (.cond (.t 16) (.seq (.region [⟨(some 17), none, (.op (.mv (.t 0)))⟩,
    ⟨(some 18), none, (.op (.mv (.t 0)))⟩,
    ⟨(some 19), none, (.op (.nilck (.t 17)))⟩,
    ⟨(some 20), none, (.op (.faddr 1 (.t 19)))⟩,
    ⟨none, none, (.op (.store 1 (.t 20) (.c (.b true))))⟩,
    ⟨(some 21), none, (.op (.nilck (.t 18)))⟩,
    ⟨(some 22), none, (.op (.faddr 0 (.t 21)))⟩,
    ⟨none, none, (.op (.store 1 (.t 22) (.c .sn)))⟩])
   (.live [] (.seq (.region [⟨(some 2), none, (.op (.mv (.c (.i .u64 0))))⟩])
   (.ret))))
   (.skip))))
   (.live [3, 4, 0] (.seq (.region [⟨(some 23), none, (.op (.mv (.t 0)))⟩,
    ⟨(some 24), none, (.op (.mv (.t 0)))⟩,
    ⟨(some 25), none, (.op (.nilck (.t 24)))⟩,
    ⟨(some 26), none, (.op (.faddr 0 (.t 25)))⟩,
    ⟨(some 27), none, (.op (.load none (.t 26)))⟩,
    ⟨(some 28), none, (.op (.mv (.t 4)))⟩,
    ⟨(some 29), none, (.op (.slice 1 (.t 27) (some (.t 28)) none none))⟩,
    ⟨(some 30), none, (.op (.nilck (.t 23)))⟩,
    ⟨(some 31), none, (.op (.faddr 0 (.t 30)))⟩,
    ⟨none, none, (.op (.store 1 (.t 31) (.t 29)))⟩])
   (.live [3] (.seq (.region [⟨(some 32), none, (.op (.mv (.t 3)))⟩,
    ⟨(some 2), none, (.op (.mv (.t 32)))⟩])
   (.ret))))))))),
  []⟩


/- (*floodgate/script.source).many -/

def c34 : IFunc := ⟨2, [.tmp 4],
  .seq (.region [⟨(some 4), none, (.op (.mv (.c (.i .i64 0))))⟩])
   (.live [0, 1] (.seq (.region [⟨(some 8), none, (.op (.mv (.t 0)))⟩,
    ⟨(some 9), none, (.call 33 [(.t 8)])⟩,
    ⟨(some 10), none, (.call 60 [(.t 9)])⟩,
    ⟨(some 7), none, (.op (.mv (.t 10)))⟩,
    ⟨(some 11), none, (.op (.ext (.t 7) 0))⟩,
    ⟨(some 12), none, (.op (.ext (.t 7) 1))⟩,
    ⟨(some 5), none, (.op (.mv (.t 11)))⟩,
    ⟨(some 6), none, (.op (.mv (.t 12)))⟩])
   (.live [0, 5, 1, 6] (.seq (.seq (.region [⟨(some 13), none, (.op (.mv (.t 6)))⟩,
    ⟨(some 14), none, (.op (.un .not (.t 13)))⟩,
    ⟨(some 15), none, (.op (.mv (.t 14)))⟩,
    ⟨(some 16), some (15, false), (.op (.mv (.t 5)))⟩,
    ⟨(some 17), some (15, false), (.op (.mv (.t 1)))⟩,
    ⟨(some 18), some (15, false), (.op (.bin .int false .gtr (.t 16) (.t 17)))⟩,
    ⟨(some 19), none, (.op (.pick (.t 15) (.c (.b true)) (.t 18)))⟩])
   (.live [0, 5, 19] (.cond (.t 19) (.seq (.region [⟨(some 20), none, (.op (.mv (.t 0)))⟩,
    ⟨(some 21), none, (.op (.nilck (.t 20)))⟩,
    ⟨(some 22), none, (.op (.faddr 1 (.t 21)))⟩,
    ⟨none, none, (.op (.store 1 (.t 22) (.c (.b true))))⟩])
   (.live [] (.seq (.region [⟨(some 4), none, (.op (.mv (.c (.i .i64 0))))⟩])
   (.ret))))
   (.skip))))
   (.live [5] (.seq (.region [⟨(some 23), none, (.op (.mv (.t 5)))⟩,
    ⟨(some 4), none, (.op (.mv (.t 23)))⟩])
   (.ret))))))),
  []⟩


/- (*floodgate/script.source).op -/
def c35d0 : List Stage :=
  [⟨[(⟨(some 27), none, (.op (.mv (.t 0)))⟩, 2), (⟨(some 28), none, (.op (.mv (.t 0)))⟩, 0), (⟨(some 29), none, (.op (.nilck (.t 28)))⟩, 0), (⟨(some 30), none, (.op (.faddr 0 (.t 29)))⟩, 0), (⟨(some 31), none, (.op (.load none (.t 30)))⟩, 0), (⟨(some 32), none, (.op (.mv (.t 4)))⟩, 0), (⟨(some 33), none, (.op (.slice 1 (.t 31) none (some (.t 32)) none))⟩, 0), (⟨(some 35), none, (.op (.mv (.t 0)))⟩, 2), (⟨(some 36), none, (.op (.nilck (.t 35)))⟩, 2), (⟨(some 37), none, (.op (.faddr 0 (.t 36)))⟩, 2), (⟨(some 38), none, (.op (.load none (.t 37)))⟩, 2), (⟨(some 39), none, (.op (.mv (.t 4)))⟩, 2), (⟨(some 40), none, (.op (.slice 1 (.t 38) (some (.t 39)) none none))⟩, 2)], none, some ⟨(some 34), none, (.call 61 [(.t 33)])⟩⟩,
    ⟨[(⟨(some 41), none, (.op (.faddr 4 (.t 3)))⟩, 1)], none, some ⟨none, none, (.op (.store 1 (.t 41) (.t 34)))⟩⟩,
    ⟨[(⟨(some 42), none, (.op (.nilck (.t 27)))⟩, 2), (⟨(some 43), none, (.op (.faddr 0 (.t 42)))⟩, 2)], none, some ⟨none, none, (.op (.store 1 (.t 43) (.t 40)))⟩⟩,
    ⟨[], none, none⟩]
theorem c35d0_e {P : Program} {O : Orc} {S0 : Mem} {rd : Bool} {e : Env} {S : Mem} {d : List Nat} {Q : Kont} : W P O S0 rd (.draw c35d0 []) e S d Q = drawK (evDraw O c35d0 [] e S) (normK Q d) := W_drawE (by kernel_rfl)
attribute [go_sem] c35d0_e
def c35d1 : List Stage :=
  [⟨[(⟨(some 71), none, (.op (.faddr 18 (.t 3)))⟩, 2), (⟨(some 72), none, (.op (.load none (.t 71)))⟩, 2), (⟨(some 73), none, (.op (.mv (.t 0)))⟩, 0)], none, some ⟨(some 74), none, (.call 34 [(.t 73), (.c (.i .i64 1))])⟩⟩,
    ⟨[(⟨(some 75), none, (.op (.bin .int true .eql (.t 74) (.c (.i .i64 1))))⟩, 1)], none, some ⟨(some 76), none, (.op (.bslice [(.b false)] 1 [(0, 1, (.t 75))]))⟩⟩,
    ⟨[], none, some ⟨(some 77), none, (.op (.app 1 1 (.t 72) (.t 76)))⟩⟩,
    ⟨[(⟨(some 78), none, (.op (.faddr 18 (.t 3)))⟩, 3)], none, some ⟨none, none, (.op (.store 1 (.t 78) (.t 77)))⟩⟩,
    ⟨[], none, none⟩]
def c35d1w : List (ROp × Bool) :=
  [(⟨(some 71), none, (.op (.faddr 18 (.t 3)))⟩, false), (⟨(some 72), none, (.op (.load none (.t 71)))⟩, false), (⟨(some 73), none, (.op (.mv (.t 0)))⟩, false), (⟨(some 74), none, (.call 34 [(.t 73), (.c (.i .i64 1))])⟩, true), (⟨(some 75), none, (.op (.bin .int true .eql (.t 74) (.c (.i .i64 1))))⟩, false), (⟨(some 76), none, (.op (.bslice [(.b false)] 1 [(0, 1, (.t 75))]))⟩, true), (⟨(some 77), none, (.op (.app 1 1 (.t 72) (.t 76)))⟩, false), (⟨(some 78), none, (.op (.faddr 18 (.t 3)))⟩, false), (⟨none, none, (.op (.store 1 (.t 78) (.t 77)))⟩, false)]
theorem c35d1_w {P : Program} {O : Orc} {S0 : Mem} {rd : Bool} {e : Env} {S : Mem} {d : List Nat} {Q : Kont} : W P O S0 rd (.draw c35d1 []) e S d Q = wFl O c35d1w e S (normK Q d) := W_draw' (by kernel_rfl) (by kernel_rfl)
attribute [go_sem] c35d1_w c35d1w
def c35l2 : ICode :=
  .seq (.region [⟨(some 70), none, (.op (.bin .int false .lss (.t 69) (.t 68)))⟩])
   (.live [0, 3, 2, 68, 69, 70] (.seq (.cond (.t 70) (.skip)
   (.exit 1))
   (.live [0, 3, 2, 68, 69] (.seq (.block 2 (.draw c35d1 []))
   (.live [0, 3, 2, 68, 69] (.region [⟨(some 79), none, (.op (.bin .int true .add (.t 69) (.c (.i .i64 1))))⟩,
    ⟨(some 69), none, (.op (.mv (.t 79)))⟩]))))))
def c35 : IFunc := ⟨1, [.cell 2 (some 19)],
  .seq (.region [⟨(some 2), none, (.op (.fresh [(.i .i64 0), (.i .i64 0), (.i .i64 0), (.i .u64 0), .sn, (.i .i64 0), (.i .u8 0), (.i .u8 0), (.i .u8 0), (.i .u8 0), (.i .i64 0), (.i .u64 0), (.i .u64 0), (.i .u64 0), (.i .u64 0), (.i .u64 0), (.i .u64 0), (.i .u64 0), .sn]))⟩])
   (.live [2, 0] (.seq (.region [⟨(some 5), none, (.op (.mv (.t 0)))⟩,
    ⟨(some 6), none, (.call 34 [(.t 5), (.c (.i .i64 12))])⟩,
    ⟨(some 7), none, (.op (.build [(.i .i64 0), (.i .i64 0), (.i .i64 0), (.i .u64 0), .sn, (.i .i64 0), (.i .u8 0), (.i .u8 0), (.i .u8 0), (.i .u8 0), (.i .i64 0), (.i .u64 0), (.i .u64 0), (.i .u64 0), (.i .u64 0), (.i .u64 0), (.i .u64 0), (.i .u64 0), .sn] [(0, 1, (.t 6))]))⟩,
    ⟨(some 3), none, (.op (.fresh [(.i .i64 0), (.i .i64 0), (.i .i64 0), (.i .u64 0), .sn, (.i .i64 0), (.i .u8 0), (.i .u8 0), (.i .u8 0), (.i .u8 0), (.i .i64 0), (.i .u64 0), (.i .u64 0), (.i .u64 0), (.i .u64 0), (.i .u64 0), (.i .u64 0), (.i .u64 0), .sn]))⟩,
    ⟨none, none, (.op (.store 19 (.t 3) (.t 7)))⟩])
   (.live [2, 3, 0] (.seq (.seq (.region [⟨(some 8), none, (.op (.faddr 0 (.t 3)))⟩,
    ⟨(some 9), none, (.op (.load none (.t 8)))⟩])
   (.live [2, 3, 0, 9] (.block 0 (.seq (.region [⟨(some 11), none, (.op (.bin .int true .eql (.t 9) (.c (.i .i64 0))))⟩,
    ⟨(some 10), none, (.op (.mv (.t 11)))⟩])
   (.live [2, 3, 0, 9, 10] (.cond (.t 10) (.seq (.region [⟨(some 12), none, (.op (.mv (.t 0)))⟩,
    ⟨(some 13), none, (.op (.mv (.t 0)))⟩,
    ⟨(some 14), none, (.op (.nilck (.t 13)))⟩,
    ⟨(some 15), none, (.op (.faddr 0 (.t 14)))⟩,
    ⟨(some 16), none, (.op (.load none (.t 15)))⟩,
    ⟨(some 17), none, (.op (.len .slice (.t 16)))⟩,
    ⟨(some 18), none, (.op (.mm false [(.c (.i .i64 2000)), (.t 17)]))⟩,
    ⟨(some 19), none, (.call 34 [(.t 12), (.t 18)])⟩,
    ⟨(some 4), none, (.op (.mv (.t 19)))⟩])
   (.live [2, 3, 0, 4] (.seq (.region [⟨(some 20), none, (.op (.mv (.t 4)))⟩,
    ⟨(some 21), none, (.op (.mv (.t 0)))⟩,
    ⟨(some 22), none, (.op (.nilck (.t 21)))⟩,
    ⟨(some 23), none, (.op (.faddr 0 (.t 22)))⟩,
    ⟨(some 24), none, (.op (.load none (.t 23)))⟩,
    ⟨(some 25), none, (.op (.len .slice (.t 24)))⟩,
    ⟨(some 26), none, (.op (.mm false [(.t 20), (.t 25)]))⟩,
    ⟨(some 4), none, (.op (.mv (.t 26)))⟩])
   (.live [2, 3, 0, 4] (.draw c35d0 [])))))
   (.seq (.region [⟨(some 45), none, (.op (.bin .int true .eql (.t 9) (.c (.i .i64 1))))⟩,
    ⟨(some 44), none, (.op (.mv (.t 45)))⟩])
   (.live [2, 3, 0, 9, 44] (.cond (.t 44) (.region [⟨(some 46), none, (.op (.mv (.t 0)))⟩,
    ⟨(some 47), none, (.call 33 [(.t 46)])⟩,
    ⟨(some 48), none, (.op (.faddr 3 (.t 3)))⟩,
    ⟨none, none, (.op (.store 1 (.t 48) (.t 47)))⟩])
   (.seq (.region [⟨(some 50), none, (.op (.bin .int true .eql (.t 9) (.c (.i .i64 4))))⟩,
    ⟨(some 49), none, (.op (.mv (.t 50)))⟩])
   (.live [2, 3, 0, 9, 49] (.cond (.t 49) (.region [⟨(some 51), none, (.op (.mv (.t 0)))⟩,
    ⟨(some 52), none, (.call 62 [(.t 51)])⟩,
    ⟨(some 53), none, (.op (.faddr 5 (.t 3)))⟩,
    ⟨none, none, (.op (.store 13 (.t 53) (.t 52)))⟩])
   (.seq (.seq (.region [⟨(some 55), none, (.op (.bin .int true .eql (.t 9) (.c (.i .i64 5))))⟩,
    ⟨(some 54), none, (.op (.mv (.t 55)))⟩])
   (.live [2, 3, 0, 9, 54] (.cond (.t 54) (.skip)
   (.region [⟨(some 56), none, (.op (.bin .int true .eql (.t 9) (.c (.i .i64 8))))⟩,
    ⟨(some 54), none, (.op (.mv (.t 56)))⟩]))))
   (.live [2, 3, 0, 9, 54] (.cond (.t 54) (.region [⟨(some 57), none, (.op (.mv (.t 0)))⟩,
    ⟨(some 58), none, (.call 32 [(.t 57)])⟩,
    ⟨(some 59), none, (.op (.faddr 1 (.t 3)))⟩,
    ⟨none, none, (.op (.store 1 (.t 59) (.t 58)))⟩])
   (.seq (.region [⟨(some 61), none, (.op (.bin .int true .eql (.t 9) (.c (.i .i64 10))))⟩,
    ⟨(some 60), none, (.op (.mv (.t 61)))⟩])
   (.live [2, 3, 0, 9, 60] (.cond (.t 60) (.region [⟨(some 62), none, (.op (.mv (.t 0)))⟩,
    ⟨(some 63), none, (.call 32 [(.t 62)])⟩,
    ⟨(some 64), none, (.op (.faddr 2 (.t 3)))⟩,
    ⟨none, none, (.op (.store 1 (.t 64) (.t 63)))⟩])
   (.seq (.region [⟨(some 66), none, (.op (.bin .int true .eql (.t 9) (.c (.i .i64 11))))⟩,
    ⟨(some 65), none, (.op (.mv (.t 66)))⟩])
   (.live [0, 3, 2, 65] (.cond (.t 65) (.seq (.region [⟨(some 67), none, (.op (.mv (.t 0)))⟩,
    ⟨(some 68), none, (.call 34 [(.t 67), (.c (.i .i64 64))])⟩,
    ⟨(some 69), none, (.op (.mv (.c (.i .i64 0))))⟩])
   (.live [0, 3, 2, 68, 69] (.block 1 (.loop [0, 3, 2, 68, 69] c35l2))))
   (.skip))))))))))))))))))))))
   (.live [2, 3] (.seq (.region [⟨(some 80), none, (.op (.load (some 19) (.t 3)))⟩,
    ⟨none, none, (.op (.store 19 (.t 2) (.t 80)))⟩])
   (.ret))))))),
  []⟩


/- slices.ContainsFunc[[]floodgate/api.Op,floodgate/api.Op] -/

def c39 : IFunc := ⟨2, [.tmp 4],
  .seq (.region [⟨(some 4), none, (.op (.mv (.c (.b false))))⟩])
   (.live [1, 0] (.seq (.region [⟨(some 5), none, (.op (.mv (.t 0)))⟩,
    ⟨(some 6), none, (.op (.mv (.t 1)))⟩,
    ⟨(some 7), none, (.call 65 [(.t 5), (.t 6)])⟩,
    ⟨(some 8), none, (.op (.bin .int true .geq (.t 7) (.c (.i .i64 0))))⟩,
    ⟨(some 4), none, (.op (.mv (.t 8)))⟩])
   (.ret))),
  []⟩


/- floodgate/script.right$1 -/

def c40 : IFunc := ⟨1, [.tmp 2],
  .seq (.region [⟨(some 1), none, (.op (.box (.t 0)))⟩,
    ⟨(some 2), none, (.op (.mv (.c (.b false))))⟩])
   (.live [1] (.seq (.region [⟨(some 3), none, (.op (.load (some 19) (.t 1)))⟩,
    ⟨(some 4), none, (.call 15 [(.t 3)])⟩,
    ⟨(some 5), none, (.op (.un .not (.t 4)))⟩,
    ⟨(some 2), none, (.op (.mv (.t 5)))⟩])
   (.ret))),
  []⟩


/- floodgate/leb.Put -/
def c41l0 : ICode :=
  .seq (.seq (.region [⟨(some 5), none, (.op (.mv (.t 0)))⟩,
    ⟨(some 6), none, (.op (.bin .int true .geq (.t 5) (.c (.i .u64 128))))⟩])
   (.live [0, 3, 6] (.cond (.t 6) (.skip)
   (.exit 0))))
   (.live [0, 3] (.block 1 (.seq (.region [⟨(some 7), none, (.op (.mv (.t 3)))⟩,
    ⟨(some 8), none, (.op (.mv (.t 0)))⟩,
    ⟨(some 9), none, (.op (.toInt .u8 (.t 8)))⟩,
    ⟨(some 10), none, (.op (.bin .int true .or (.t 9) (.c (.i .u8 128))))⟩,
    ⟨(some 11), none, (.op (.bslice [(.i .u8 0)] 1 [(0, 1, (.t 10))]))⟩,
    ⟨(some 12), none, (.op (.app 1 1 (.t 7) (.t 11)))⟩,
    ⟨(some 3), none, (.op (.mv (.t 12)))⟩])
   (.live [3, 0] (.region [⟨(some 13), none, (.op (.mv (.t 0)))⟩,
    ⟨(some 14), none, (.op (.bin .int true .shr (.t 13) (.c (.i .u64 7))))⟩,
    ⟨(some 0), none, (.op (.mv (.t 14)))⟩])))))
def c41 : IFunc := ⟨1, [.tmp 2],
  .seq (.region [⟨(some 2), none, (.op (.mv (.c .sn)))⟩])
   (.live [0] (.seq (.region [⟨(some 4), none, (.op (.mks [(.i .u8 0)] 1 (.c (.i .i64 0)) (.c (.i .i64 10))))⟩,
    ⟨(some 3), none, (.op (.mv (.t 4)))⟩])
   (.live [0, 3] (.seq (.block 0 (.loop [0, 3] c41l0))
   (.live [0, 3] (.seq (.region [⟨(some 15), none, (.op (.mv (.t 3)))⟩,
    ⟨(some 16), none, (.op (.mv (.t 0)))⟩,
    ⟨(some 17), none, (.op (.toInt .u8 (.t 16)))⟩,
    ⟨(some 18), none, (.op (.bslice [(.i .u8 0)] 1 [(0, 1, (.t 17))]))⟩,
    ⟨(some 19), none, (.op (.app 1 1 (.t 15) (.t 18)))⟩,
    ⟨(some 2), none, (.op (.mv (.t 19)))⟩])
   (.ret))))))),
  []⟩


/- slices.Concat[[]byte,byte] -/
def c42l0 : ICode :=
  .seq (.region [⟨(some 12), none, (.op (.bin .int false .lss (.t 11) (.t 10)))⟩])
   (.live [9, 0, 10, 11, 3, 12] (.seq (.cond (.t 12) (.skip)
   (.exit 0))
   (.live [9, 0, 10, 11, 3] (.seq (.block 1 (.seq (.region [⟨(some 13), none, (.op (.iaddr none 1 (.t 9) (.t 11)))⟩,
    ⟨(some 14), none, (.op (.load none (.t 13)))⟩,
    ⟨(some 5), none, (.op (.mv (.t 14)))⟩])
   (.live [9, 0, 10, 11, 5, 3] (.seq (.region [⟨(some 15), none, (.op (.mv (.t 3)))⟩,
    ⟨(some 16), none, (.op (.mv (.t 5)))⟩,
    ⟨(some 17), none, (.op (.len .slice (.t 16)))⟩,
    ⟨(some 18), none, (.op (.bin .int false .add (.t 15) (.t 17)))⟩,
    ⟨(some 3), none, (.op (.mv (.t 18)))⟩])
   (.live [9, 0, 10, 3, 11] (.seq (.region [⟨(some 19), none, (.op (.mv (.t 3)))⟩,
    ⟨(some 20), none, (.op (.bin .int true .lss (.t 19) (.c (.i .i64 0))))⟩])
   (.live [9, 0, 10, 3, 11, 20] (.cond (.t 20) (.region [⟨(some 21), none, (.op (.bad))⟩,
    ⟨none, none, (.op (.bad))⟩])
   (.skip)))))))))
   (.live [9, 0, 10, 3, 11] (.region [⟨(some 22), none, (.op (.bin .int true .add (.t 11) (.c (.i .i64 1))))⟩,
    ⟨(some 11), none, (.op (.mv (.t 22)))⟩]))))))
def c42l1 : ICode :=
  .seq (.region [⟨(some 28), none, (.op (.bin .int false .lss (.t 27) (.t 26)))⟩])
   (.live [25, 26, 27, 6, 28] (.seq (.cond (.t 28) (.skip)
   (.exit 2))
   (.live [25, 26, 27, 6] (.seq (.block 3 (.seq (.region [⟨(some 29), none, (.op (.iaddr none 1 (.t 25) (.t 27)))⟩,
    ⟨(some 30), none, (.op (.load none (.t 29)))⟩,
    ⟨(some 8), none, (.op (.mv (.t 30)))⟩])
   (.live [25, 26, 27, 8, 6] (.region [⟨(some 31), none, (.op (.mv (.t 6)))⟩,
    ⟨(some 32), none, (.op (.mv (.t 8)))⟩,
    ⟨(some 33), none, (.op (.app 1 1 (.t 31) (.t 32)))⟩,
    ⟨(some 6), none, (.op (.mv (.t 33)))⟩]))))
   (.live [25, 26, 6, 27] (.region [⟨(some 34), none, (.op (.bin .int true .add (.t 27) (.c (.i .i64 1))))⟩,
    ⟨(some 27), none, (.op (.mv (.t 34)))⟩]))))))
def c42 : IFunc := ⟨1, [.tmp 2],
  .seq (.region [⟨(some 2), none, (.op (.mv (.c .sn)))⟩])
   (.live [0] (.seq (.region [⟨(some 3), none, (.op (.mv (.c (.i .i64 0))))⟩])
   (.live [0, 3] (.seq (.seq (.region [⟨(some 9), none, (.op (.mv (.t 0)))⟩,
    ⟨(some 10), none, (.op (.len .slice (.t 9)))⟩,
    ⟨(some 11), none, (.op (.mv (.c (.i .i64 0))))⟩])
   (.live [9, 0, 10, 11, 3] (.block 0 (.loop [9, 0, 10, 11, 3] c42l0))))
   (.live [0, 3] (.seq (.region [⟨(some 23), none, (.op (.mv (.t 3)))⟩,
    ⟨(some 24), none, (.call 66 [(.c .sn), (.t 23)])⟩,
    ⟨(some 6), none, (.op (.mv (.t 24)))⟩])
   (.live [6, 0] (.seq (.seq (.region [⟨(some 25), none, (.op (.mv (.t 0)))⟩,
    ⟨(some 26), none, (.op (.len .slice (.t 25)))⟩,
    ⟨(some 27), none, (.op (.mv (.c (.i .i64 0))))⟩])
   (.live [25, 26, 27, 6] (.block 2 (.loop [25, 26, 27, 6] c42l1))))
   (.live [6] (.seq (.region [⟨(some 35), none, (.op (.mv (.t 6)))⟩,
    ⟨(some 2), none, (.op (.mv (.t 35)))⟩])
   (.ret))))))))))),
  []⟩


/- floodgate/gate.New -/
def c45d0 : List Stage :=
  [⟨[(⟨(some 10), none, (.op (.load (some 3) (.t 1)))⟩, 1), (⟨(some 11), none, (.op (.faddr 0 (.t 1)))⟩, 0), (⟨(some 12), none, (.op (.load none (.t 11)))⟩, 0)], none, some ⟨(some 13), none, (.call 68 [(.t 12)])⟩⟩,
    ⟨[(⟨(some 14), none, (.op (.build [(.i .i64 0), (.i .i64 0), (.i .u64 0), .pn, .pn, .mn, .pn, .pn, (.i .u64 0), .pn] [(0, 3, (.t 10)), (3, 1, (.t 13))]))⟩, 1)], none, some ⟨(some 15), none, (.op (.box (.t 14)))⟩⟩,
    ⟨[(⟨(some 4), none, (.op (.mv (.t 15)))⟩, 2)], none, none⟩]
def c45d0w : List (ROp × Bool) :=
  [(⟨(some 10), none, (.op (.load (some 3) (.t 1)))⟩, false), (⟨(some 11), none, (.op (.faddr 0 (.t 1)))⟩, false), (⟨(some 12), none, (.op (.load none (.t 11)))⟩, false), (⟨(some 13), none, (.call 68 [(.t 12)])⟩, true), (⟨(some 14), none, (.op (.build [(.i .i64 0), (.i .i64 0), (.i .u64 0), .pn, .pn, .mn, .pn, .pn, (.i .u64 0), .pn] [(0, 3, (.t 10)), (3, 1, (.t 13))]))⟩, false), (⟨(some 15), none, (.op (.box (.t 14)))⟩, false), (⟨(some 4), none, (.op (.mv (.t 15)))⟩, false)]
theorem c45d0_w {P : Program} {O : Orc} {S0 : Mem} {rd : Bool} {e : Env} {S : Mem} {d : List Nat} {Q : Kont} : W P O S0 rd (.draw c45d0 []) e S d Q = wFl O c45d0w e S (normK Q d) := W_draw' (by kernel_rfl) (by kernel_rfl)
attribute [go_sem] c45d0_w c45d0w
def c45 : IFunc := ⟨1, [.tmp 2, .tmp 3],
  .seq (.region [⟨(some 1), none, (.op (.box (.t 0)))⟩,
    ⟨(some 2), none, (.op (.mv (.c .pn)))⟩,
    ⟨(some 3), none, (.op (.mv (.c (.i .i64 0))))⟩])
   (.live [1] (.seq (.seq (.region [⟨(some 7), none, (.op (.load (some 3) (.t 1)))⟩,
    ⟨(some 8), none, (.call 67 [(.t 7)])⟩,
    ⟨(some 9), none, (.op (.un .not (.t 8)))⟩])
   (.live [1, 9] (.cond (.t 9) (.seq (.region [⟨(some 2), none, (.op (.mv (.c .pn)))⟩,
    ⟨(some 3), none, (.op (.mv (.c (.i .i64 211))))⟩])
   (.ret))
   (.skip))))
   (.live [1] (.seq (.draw c45d0 [])
   (.live [4] (.seq (.region [⟨(some 17), none, (.op (.mv (.t 4)))⟩,
    ⟨(some 18), none, (.op (.nilck (.t 17)))⟩,
    ⟨(some 19), none, (.op (.faddr 3 (.t 18)))⟩,
    ⟨(some 20), none, (.op (.load none (.t 19)))⟩,
    ⟨(some 21), none, (.call 69 [(.t 20)])⟩,
    ⟨(some 16), none, (.op (.mv (.t 21)))⟩,
    ⟨(some 22), none, (.op (.ext (.t 16) 0))⟩,
    ⟨(some 23), none, (.op (.ext (.t 16) 1))⟩,
    ⟨(some 5), none, (.op (.mv (.t 22)))⟩,
    ⟨(some 6), none, (.op (.mv (.t 23)))⟩])
   (.live [6, 5, 4] (.seq (.seq (.region [⟨(some 24), none, (.op (.mv (.t 6)))⟩,
    ⟨(some 25), none, (.op (.bin .int true .neq (.t 24) (.c (.i .i64 0))))⟩])
   (.live [6, 5, 4, 25] (.cond (.t 25) (.seq (.region [⟨(some 26), none, (.op (.mv (.t 6)))⟩,
    ⟨(some 2), none, (.op (.mv (.c .pn)))⟩,
    ⟨(some 3), none, (.op (.mv (.t 26)))⟩])
   (.ret))
   (.skip))))
   (.live [5, 4] (.seq (.region [⟨(some 27), none, (.op (.mv (.t 4)))⟩,
    ⟨(some 28), none, (.op (.mv (.t 4)))⟩,
    ⟨(some 29), none, (.op (.mv (.t 5)))⟩,
    ⟨(some 30), none, (.call 70 [(.t 28), (.t 29)])⟩,
    ⟨(some 2), none, (.op (.mv (.t 27)))⟩,
    ⟨(some 3), none, (.op (.mv (.t 30)))⟩])
   (.ret))))))))))),
  []⟩


/- (*floodgate/gate.Gate).Tick -/
def c47l0 : ICode :=
  .seq (.region [⟨(some 18), none, (.op (.nxt (.t 17)))⟩,
    ⟨(some 19), none, (.op (.ext (.t 18) 0))⟩])
   (.live [1, 0, 17, 19] (.seq (.cond (.t 19) (.skip)
   (.exit 0))
   (.live [1, 0, 17] (.block 1 (.seq (.region [⟨(some 20), none, (.op (.bad))⟩,
    ⟨(some 21), none, (.op (.ext (.t 20) 1))⟩,
    ⟨(some 7), none, (.op (.mv (.t 21)))⟩])
   (.live [1, 0, 17, 7] (.seq (.region [⟨(some 22), none, (.op (.mv (.t 7)))⟩,
    ⟨(some 23), none, (.op (.nilck (.t 22)))⟩,
    ⟨(some 24), none, (.op (.faddr 14 (.t 23)))⟩,
    ⟨(some 25), none, (.op (.load none (.t 24)))⟩,
    ⟨(some 26), none, (.op (.mv (.t 1)))⟩,
    ⟨(some 27), none, (.call 76 [(.t 25), (.t 26)])⟩])
   (.live [1, 0, 17, 7] (.region [⟨(some 28), none, (.op (.mv (.t 7)))⟩,
    ⟨(some 29), none, (.op (.nilck (.t 28)))⟩,
    ⟨(some 30), none, (.op (.faddr 15 (.t 29)))⟩,
    ⟨(some 31), none, (.op (.load none (.t 30)))⟩,
    ⟨(some 32), none, (.op (.mv (.t 1)))⟩,
    ⟨(some 33), none, (.call 76 [(.t 31), (.t 32)])⟩])))))))))
def c47d1 : List Stage :=
  [⟨[(⟨(some 43), none, (.op (.mv (.t 0)))⟩, 0), (⟨(some 44), none, (.op (.nilck (.t 43)))⟩, 0), (⟨(some 45), none, (.op (.faddr 8 (.t 44)))⟩, 0), (⟨(some 46), none, (.op (.load none (.t 45)))⟩, 0), (⟨(some 47), none, (.op (.mv (.t 0)))⟩, 0), (⟨(some 48), none, (.op (.nilck (.t 47)))⟩, 0), (⟨(some 49), none, (.op (.faddr 0 (.t 48)))⟩, 0), (⟨(some 50), none, (.op (.faddr 2 (.t 49)))⟩, 0), (⟨(some 51), none, (.op (.load none (.t 50)))⟩, 0), (⟨(some 52), none, (.op (.bin .int false .lss (.t 46) (.t 51)))⟩, 0)], none, none⟩]
def c47d1w : List (ROp × Bool) :=
  [(⟨(some 43), none, (.op (.mv (.t 0)))⟩, false), (⟨(some 44), none, (.op (.nilck (.t 43)))⟩, false), (⟨(some 45), none, (.op (.faddr 8 (.t 44)))⟩, false), (⟨(some 46), none, (.op (.load none (.t 45)))⟩, false), (⟨(some 47), none, (.op (.mv (.t 0)))⟩, false), (⟨(some 48), none, (.op (.nilck (.t 47)))⟩, false), (⟨(some 49), none, (.op (.faddr 0 (.t 48)))⟩, false), (⟨(some 50), none, (.op (.faddr 2 (.t 49)))⟩, false), (⟨(some 51), none, (.op (.load none (.t 50)))⟩, false), (⟨(some 52), none, (.op (.bin .int false .lss (.t 46) (.t 51)))⟩, false)]
theorem c47d1_w {P : Program} {O : Orc} {S0 : Mem} {rd : Bool} {e : Env} {S : Mem} {d : List Nat} {Q : Kont} : W P O S0 rd (.draw c47d1 []) e S d Q = wFl O c47d1w e S (normK Q d) := W_draw' (by kernel_rfl) (by kernel_rfl)
attribute [go_sem] c47d1_w c47d1w
def c47d2 : List Stage :=
  [⟨[(⟨(some 53), none, (.op (.mv (.t 0)))⟩, 1), (⟨(some 54), none, (.op (.nilck (.t 53)))⟩, 1), (⟨(some 55), none, (.op (.faddr 4 (.t 54)))⟩, 1), (⟨(some 56), none, (.op (.load none (.t 55)))⟩, 1), (⟨(some 57), none, (.op (.mv (.t 0)))⟩, 0), (⟨(some 58), none, (.op (.nilck (.t 57)))⟩, 0), (⟨(some 59), none, (.op (.faddr 4 (.t 58)))⟩, 0), (⟨(some 60), none, (.op (.load none (.t 59)))⟩, 0)], none, some ⟨(some 61), none, (.call 79 [(.t 60)])⟩⟩,
    ⟨[(⟨(some 62), none, (.op (.fld 0 none (.t 61)))⟩, 1), (⟨(some 63), none, (.op (.bin .int true .add (.t 62) (.c (.i .u64 1))))⟩, 1), (⟨(some 64), none, (.op (.build [(.i .i64 0), (.i .i64 0), .sn, .sn, (.i .u64 0), (.i .u64 0)] [(0, 1, (.c (.i .i64 3))), (5, 1, (.t 63))]))⟩, 1)], none, some ⟨(some 65), none, (.call 78 [(.t 56), (.t 64)])⟩⟩,
    ⟨[(⟨(some 8), none, (.op (.mv (.t 65)))⟩, 2)], none, none⟩]
def c47d2w : List (ROp × Bool) :=
  [(⟨(some 53), none, (.op (.mv (.t 0)))⟩, false), (⟨(some 54), none, (.op (.nilck (.t 53)))⟩, false), (⟨(some 55), none, (.op (.faddr 4 (.t 54)))⟩, false), (⟨(some 56), none, (.op (.load none (.t 55)))⟩, false), (⟨(some 57), none, (.op (.mv (.t 0)))⟩, false), (⟨(some 58), none, (.op (.nilck (.t 57)))⟩, false), (⟨(some 59), none, (.op (.faddr 4 (.t 58)))⟩, false), (⟨(some 60), none, (.op (.load none (.t 59)))⟩, false), (⟨(some 61), none, (.call 79 [(.t 60)])⟩, true), (⟨(some 62), none, (.op (.fld 0 none (.t 61)))⟩, false), (⟨(some 63), none, (.op (.bin .int true .add (.t 62) (.c (.i .u64 1))))⟩, false), (⟨(some 64), none, (.op (.build [(.i .i64 0), (.i .i64 0), .sn, .sn, (.i .u64 0), (.i .u64 0)] [(0, 1, (.c (.i .i64 3))), (5, 1, (.t 63))]))⟩, false), (⟨(some 65), none, (.call 78 [(.t 56), (.t 64)])⟩, false), (⟨(some 8), none, (.op (.mv (.t 65)))⟩, false)]
theorem c47d2_w {P : Program} {O : Orc} {S0 : Mem} {rd : Bool} {e : Env} {S : Mem} {d : List Nat} {Q : Kont} : W P O S0 rd (.draw c47d2 []) e S d Q = wFl O c47d2w e S (normK Q d) := W_draw' (by kernel_rfl) (by kernel_rfl)
attribute [go_sem] c47d2_w c47d2w
def c47l3 : ICode :=
  .seq (.region [⟨(some 80), none, (.op (.nxt (.t 79)))⟩,
    ⟨(some 81), none, (.op (.ext (.t 80) 0))⟩])
   (.live [0, 79, 81] (.seq (.cond (.t 81) (.skip)
   (.exit 3))
   (.live [0, 79] (.block 4 (.seq (.region [⟨(some 82), none, (.op (.bad))⟩,
    ⟨(some 83), none, (.op (.ext (.t 82) 1))⟩,
    ⟨(some 10), none, (.op (.mv (.t 83)))⟩])
   (.live [0, 79, 10] (.region [⟨(some 84), none, (.op (.mv (.t 10)))⟩,
    ⟨(some 85), none, (.op (.nilck (.t 84)))⟩,
    ⟨(some 86), none, (.op (.faddr 16 (.t 85)))⟩,
    ⟨(some 87), none, (.op (.load none (.t 86)))⟩,
    ⟨(some 88), none, (.call 81 [(.t 87)])⟩])))))))
def c47 : IFunc := ⟨2, [.tmp 4, .tmp 5],
  .seq (.region [⟨(some 4), none, (.op (.mv (.c (.b false))))⟩,
    ⟨(some 5), none, (.op (.mv (.c (.i .i64 0))))⟩])
   (.live [1, 0] (.seq (.seq (.region [⟨(some 11), none, (.op (.mv (.t 0)))⟩,
    ⟨(some 12), none, (.call 71 [(.t 11)])⟩])
   (.live [1, 0, 12] (.cond (.t 12) (.seq (.region [⟨(some 4), none, (.op (.mv (.c (.b false))))⟩,
    ⟨(some 5), none, (.op (.mv (.c (.i .i64 216))))⟩])
   (.ret))
   (.skip))))
   (.live [1, 0] (.seq (.seq (.region [⟨(some 13), none, (.op (.mv (.t 0)))⟩,
    ⟨(some 14), none, (.op (.nilck (.t 13)))⟩,
    ⟨(some 15), none, (.op (.faddr 5 (.t 14)))⟩,
    ⟨(some 16), none, (.op (.load none (.t 15)))⟩,
    ⟨(some 17), none, (.op (.rng (.t 16)))⟩])
   (.live [1, 0, 17] (.block 0 (.loop [1, 0, 17] c47l0))))
   (.live [0, 1] (.seq (.region [⟨(some 34), none, (.op (.mv (.t 0)))⟩,
    ⟨(some 35), none, (.op (.mv (.t 0)))⟩,
    ⟨(some 36), none, (.op (.nilck (.t 35)))⟩,
    ⟨(some 37), none, (.op (.faddr 8 (.t 36)))⟩,
    ⟨(some 38), none, (.op (.load none (.t 37)))⟩,
    ⟨(some 39), none, (.op (.mv (.t 1)))⟩,
    ⟨(some 40), none, (.call 77 [(.t 38), (.t 39)])⟩,
    ⟨(some 41), none, (.op (.nilck (.t 34)))⟩,
    ⟨(some 42), none, (.op (.faddr 8 (.t 41)))⟩,
    ⟨none, none, (.op (.store 1 (.t 42) (.t 40)))⟩])
   (.live [0] (.seq (.seq (.draw c47d1 [])
   (.live [0, 52] (.cond (.t 52) (.seq (.region [⟨(some 4), none, (.op (.mv (.c (.b false))))⟩,
    ⟨(some 5), none, (.op (.mv (.c (.i .i64 0))))⟩])
   (.ret))
   (.skip))))
   (.live [0] (.seq (.seq (.draw c47d2 [])
   (.live [0, 8] (.seq (.region [⟨(some 66), none, (.op (.mv (.t 8)))⟩])
   (.live [0, 8, 66] (.block 2 (.seq (.region [⟨(some 71), none, (.op (.bin .int true .eql (.t 66) (.c (.i .i64 0))))⟩,
    ⟨(some 70), none, (.op (.mv (.t 71)))⟩])
   (.live [0, 8, 66, 70] (.cond (.t 70) (.skip)
   (.seq (.seq (.region [⟨(some 73), none, (.op (.bin .int true .eql (.t 66) (.c (.i .i64 101))))⟩,
    ⟨(some 72), none, (.op (.mv (.t 73)))⟩])
   (.live [8, 0, 72, 66] (.cond (.t 72) (.skip)
   (.region [⟨(some 74), none, (.op (.bin .int true .eql (.t 66) (.c (.i .i64 131))))⟩,
    ⟨(some 72), none, (.op (.mv (.t 74)))⟩]))))
   (.live [8, 0, 72] (.cond (.t 72) (.seq (.region [⟨(some 4), none, (.op (.mv (.c (.b false))))⟩,
    ⟨(some 5), none, (.op (.mv (.c (.i .i64 0))))⟩])
   (.ret))
   (.seq (.region [⟨(some 67), none, (.op (.mv (.t 0)))⟩,
    ⟨(some 68), none, (.op (.mv (.t 8)))⟩,
    ⟨(some 69), none, (.call 80 [(.t 67), (.t 68)])⟩,
    ⟨(some 4), none, (.op (.mv (.c (.b false))))⟩,
    ⟨(some 5), none, (.op (.mv (.t 69)))⟩])
   (.ret)))))))))))))
   (.live [0] (.seq (.seq (.region [⟨(some 75), none, (.op (.mv (.t 0)))⟩,
    ⟨(some 76), none, (.op (.nilck (.t 75)))⟩,
    ⟨(some 77), none, (.op (.faddr 5 (.t 76)))⟩,
    ⟨(some 78), none, (.op (.load none (.t 77)))⟩,
    ⟨(some 79), none, (.op (.rng (.t 78)))⟩])
   (.live [0, 79] (.block 3 (.loop [0, 79] c47l3))))
   (.live [0] (.seq (.region [⟨(some 89), none, (.op (.mv (.t 0)))⟩,
    ⟨(some 90), none, (.op (.nilck (.t 89)))⟩,
    ⟨(some 91), none, (.op (.faddr 8 (.t 90)))⟩,
    ⟨none, none, (.op (.store 1 (.t 91) (.c (.i .u64 0))))⟩])
   (.live [] (.seq (.region [⟨(some 4), none, (.op (.mv (.c (.b true))))⟩,
    ⟨(some 5), none, (.op (.mv (.c (.i .i64 0))))⟩])
   (.ret))))))))))))))))),
  []⟩


/- (*floodgate/gate.Gate).Query -/
def c51d0 : List Stage :=
  [⟨[(⟨(some 12), none, (.op (.mv (.t 0)))⟩, 0), (⟨(some 13), none, (.op (.nilck (.t 12)))⟩, 0), (⟨(some 14), none, (.op (.faddr 4 (.t 13)))⟩, 0), (⟨(some 15), none, (.op (.load none (.t 14)))⟩, 0), (⟨(some 18), none, (.op (.mv (.t 0)))⟩, 1), (⟨(some 19), none, (.op (.nilck (.t 18)))⟩, 1), (⟨(some 20), none, (.op (.faddr 4 (.t 19)))⟩, 1), (⟨(some 21), none, (.op (.load none (.t 20)))⟩, 1)], none, some ⟨(some 16), none, (.call 79 [(.t 15)])⟩⟩,
    ⟨[(⟨(some 17), none, (.op (.fld 0 none (.t 16)))⟩, 2)], none, some ⟨(some 22), none, (.call 92 [(.t 21)])⟩⟩,
    ⟨[(⟨(some 23), none, (.op (.build [(.i .u64 0), (.i .i64 0), (.b false), (.i .i64 0), (.i .u8 0), (.i .u8 0), (.i .u8 0), (.i .u8 0), (.i .i64 0), (.i .u64 0), (.i .u64 0), (.i .u64 0), (.i .u64 0), (.i .u64 0), (.i .u64 0), (.i .u64 0), (.i .u64 0), (.i .u64 0), (.i .i64 0), (.i .u64 0), (.i .u64 0)] [(0, 1, (.t 17)), (1, 1, (.t 22))]))⟩, 2)], some ⟨(some 6), none, (.op (.fresh [(.i .u64 0), (.i .i64 0), (.b false), (.i .i64 0), (.i .u8 0), (.i .u8 0), (.i .u8 0), (.i .u8 0), (.i .i64 0), (.i .u64 0), (.i .u64 0), (.i .u64 0), (.i .u64 0), (.i .u64 0), (.i .u64 0), (.i .u64 0), (.i .u64 0), (.i .u64 0), (.i .i64 0), (.i .u64 0), (.i .u64 0)]))⟩, some ⟨none, none, (.op (.store 21 (.t 6) (.t 23)))⟩⟩,
    ⟨[], none, none⟩]
def c51d0w : List (ROp × Bool) :=
  [(⟨(some 12), none, (.op (.mv (.t 0)))⟩, false), (⟨(some 13), none, (.op (.nilck (.t 12)))⟩, false), (⟨(some 14), none, (.op (.faddr 4 (.t 13)))⟩, false), (⟨(some 15), none, (.op (.load none (.t 14)))⟩, false), (⟨(some 18), none, (.op (.mv (.t 0)))⟩, false), (⟨(some 19), none, (.op (.nilck (.t 18)))⟩, false), (⟨(some 20), none, (.op (.faddr 4 (.t 19)))⟩, false), (⟨(some 21), none, (.op (.load none (.t 20)))⟩, false), (⟨(some 16), none, (.call 79 [(.t 15)])⟩, true), (⟨(some 17), none, (.op (.fld 0 none (.t 16)))⟩, false), (⟨(some 22), none, (.call 92 [(.t 21)])⟩, false), (⟨(some 23), none, (.op (.build [(.i .u64 0), (.i .i64 0), (.b false), (.i .i64 0), (.i .u8 0), (.i .u8 0), (.i .u8 0), (.i .u8 0), (.i .i64 0), (.i .u64 0), (.i .u64 0), (.i .u64 0), (.i .u64 0), (.i .u64 0), (.i .u64 0), (.i .u64 0), (.i .u64 0), (.i .u64 0), (.i .i64 0), (.i .u64 0), (.i .u64 0)] [(0, 1, (.t 17)), (1, 1, (.t 22))]))⟩, false), (⟨(some 6), none, (.op (.fresh [(.i .u64 0), (.i .i64 0), (.b false), (.i .i64 0), (.i .u8 0), (.i .u8 0), (.i .u8 0), (.i .u8 0), (.i .i64 0), (.i .u64 0), (.i .u64 0), (.i .u64 0), (.i .u64 0), (.i .u64 0), (.i .u64 0), (.i .u64 0), (.i .u64 0), (.i .u64 0), (.i .i64 0), (.i .u64 0), (.i .u64 0)]))⟩, true), (⟨none, none, (.op (.store 21 (.t 6) (.t 23)))⟩, false)]
theorem c51d0_w {P : Program} {O : Orc} {S0 : Mem} {rd : Bool} {e : Env} {S : Mem} {d : List Nat} {Q : Kont} : W P O S0 rd (.draw c51d0 []) e S d Q = wFl O c51d0w e S (normK Q d) := W_draw' (by kernel_rfl) (by kernel_rfl)
attribute [go_sem] c51d0_w c51d0w
def c51d1 : List Stage :=
  [⟨[(⟨(some 34), none, (.op (.mv (.t 7)))⟩, 1), (⟨(some 35), none, (.op (.nilck (.t 34)))⟩, 1), (⟨(some 36), none, (.op (.faddr 1 (.t 35)))⟩, 1), (⟨(some 37), none, (.op (.load (some 13) (.t 36)))⟩, 1), (⟨(some 38), none, (.op (.faddr 2 (.t 6)))⟩, 0)], none, some ⟨none, none, (.op (.store 1 (.t 38) (.c (.b true))))⟩⟩,
    ⟨[(⟨(some 39), none, (.op (.faddr 3 (.t 6)))⟩, 1)], none, some ⟨none, none, (.op (.store 13 (.t 39) (.t 37)))⟩⟩,
    ⟨[], none, none⟩]
theorem c51d1_e {P : Program} {O : Orc} {S0 : Mem} {rd : Bool} {e : Env} {S : Mem} {d : List Nat} {Q : Kont} : W P O S0 rd (.draw c51d1 []) e S d Q = drawK (evDraw O c51d1 [] e S) (normK Q d) := W_drawE (by kernel_rfl)
attribute [go_sem] c51d1_e
def c51d2 : List Stage :=
  [⟨[(⟨(some 40), none, (.op (.mv (.t 7)))⟩, 0), (⟨(some 41), none, (.op (.nilck (.t 40)))⟩, 0), (⟨(some 42), none, (.op (.faddr 16 (.t 41)))⟩, 0), (⟨(some 43), none, (.op (.load none (.t 42)))⟩, 0), (⟨(some 45), none, (.op (.mv (.t 7)))⟩, 1), (⟨(some 46), none, (.op (.nilck (.t 45)))⟩, 1), (⟨(some 47), none, (.op (.faddr 16 (.t 46)))⟩, 1), (⟨(some 48), none, (.op (.load none (.t 47)))⟩, 1), (⟨(some 50), none, (.op (.mv (.t 7)))⟩, 2), (⟨(some 51), none, (.op (.nilck (.t 50)))⟩, 2), (⟨(some 52), none, (.op (.faddr 0 (.t 51)))⟩, 2), (⟨(some 53), none, (.op (.load none (.t 52)))⟩, 2)], none, some ⟨(some 44), none, (.call 93 [(.t 43)])⟩⟩,
    ⟨[(⟨(some 55), none, (.op (.faddr 16 (.t 6)))⟩, 3)], none, some ⟨(some 49), none, (.call 94 [(.t 48)])⟩⟩,
    ⟨[], none, some ⟨(some 54), none, (.call 95 [(.t 53)])⟩⟩,
    ⟨[], none, some ⟨none, none, (.op (.store 1 (.t 55) (.t 44)))⟩⟩,
    ⟨[(⟨(some 56), none, (.op (.faddr 17 (.t 6)))⟩, 4)], none, some ⟨none, none, (.op (.store 1 (.t 56) (.t 49)))⟩⟩,
    ⟨[(⟨(some 57), none, (.op (.faddr 18 (.t 6)))⟩, 5)], none, some ⟨none, none, (.op (.store 1 (.t 57) (.t 54)))⟩⟩,
    ⟨[], none, none⟩]
def c51d2w : List (ROp × Bool) :=
  [(⟨(some 40), none, (.op (.mv (.t 7)))⟩, false), (⟨(some 41), none, (.op (.nilck (.t 40)))⟩, false), (⟨(some 42), none, (.op (.faddr 16 (.t 41)))⟩, false), (⟨(some 43), none, (.op (.load none (.t 42)))⟩, false), (⟨(some 45), none, (.op (.mv (.t 7)))⟩, false), (⟨(some 46), none, (.op (.nilck (.t 45)))⟩, false), (⟨(some 47), none, (.op (.faddr 16 (.t 46)))⟩, false), (⟨(some 48), none, (.op (.load none (.t 47)))⟩, false), (⟨(some 50), none, (.op (.mv (.t 7)))⟩, false), (⟨(some 51), none, (.op (.nilck (.t 50)))⟩, false), (⟨(some 52), none, (.op (.faddr 0 (.t 51)))⟩, false), (⟨(some 53), none, (.op (.load none (.t 52)))⟩, false), (⟨(some 44), none, (.call 93 [(.t 43)])⟩, true), (⟨(some 55), none, (.op (.faddr 16 (.t 6)))⟩, false), (⟨(some 49), none, (.call 94 [(.t 48)])⟩, true), (⟨(some 54), none, (.call 95 [(.t 53)])⟩, false), (⟨none, none, (.op (.store 1 (.t 55) (.t 44)))⟩, false), (⟨(some 56), none, (.op (.faddr 17 (.t 6)))⟩, false), (⟨none, none, (.op (.store 1 (.t 56) (.t 49)))⟩, false), (⟨(some 57), none, (.op (.faddr 18 (.t 6)))⟩, false), (⟨none, none, (.op (.store 1 (.t 57) (.t 54)))⟩, false)]
theorem c51d2_w {P : Program} {O : Orc} {S0 : Mem} {rd : Bool} {e : Env} {S : Mem} {d : List Nat} {Q : Kont} : W P O S0 rd (.draw c51d2 []) e S d Q = wFl O c51d2w e S (normK Q d) := W_draw' (by kernel_rfl) (by kernel_rfl)
attribute [go_sem] c51d2_w c51d2w
def c51d3 : List Stage :=
  [⟨[(⟨(some 58), none, (.op (.mv (.t 7)))⟩, 0), (⟨(some 59), none, (.op (.nilck (.t 58)))⟩, 0), (⟨(some 60), none, (.op (.faddr 14 (.t 59)))⟩, 0), (⟨(some 61), none, (.op (.load none (.t 60)))⟩, 0), (⟨(some 63), none, (.op (.mv (.t 7)))⟩, 1), (⟨(some 64), none, (.op (.nilck (.t 63)))⟩, 1), (⟨(some 65), none, (.op (.faddr 15 (.t 64)))⟩, 1), (⟨(some 66), none, (.op (.load none (.t 65)))⟩, 1)], none, some ⟨(some 62), none, (.call 96 [(.t 61)])⟩⟩,
    ⟨[(⟨(some 68), none, (.op (.faddr 19 (.t 6)))⟩, 2)], none, some ⟨(some 67), none, (.call 96 [(.t 66)])⟩⟩,
    ⟨[], none, some ⟨none, none, (.op (.store 1 (.t 68) (.t 62)))⟩⟩,
    ⟨[(⟨(some 69), none, (.op (.faddr 20 (.t 6)))⟩, 3)], none, some ⟨none, none, (.op (.store 1 (.t 69) (.t 67)))⟩⟩,
    ⟨[], none, none⟩]
def c51d3w : List (ROp × Bool) :=
  [(⟨(some 58), none, (.op (.mv (.t 7)))⟩, false), (⟨(some 59), none, (.op (.nilck (.t 58)))⟩, false), (⟨(some 60), none, (.op (.faddr 14 (.t 59)))⟩, false), (⟨(some 61), none, (.op (.load none (.t 60)))⟩, false), (⟨(some 63), none, (.op (.mv (.t 7)))⟩, false), (⟨(some 64), none, (.op (.nilck (.t 63)))⟩, false), (⟨(some 65), none, (.op (.faddr 15 (.t 64)))⟩, false), (⟨(some 66), none, (.op (.load none (.t 65)))⟩, false), (⟨(some 62), none, (.call 96 [(.t 61)])⟩, true), (⟨(some 68), none, (.op (.faddr 19 (.t 6)))⟩, false), (⟨(some 67), none, (.call 96 [(.t 66)])⟩, false), (⟨none, none, (.op (.store 1 (.t 68) (.t 62)))⟩, false), (⟨(some 69), none, (.op (.faddr 20 (.t 6)))⟩, false), (⟨none, none, (.op (.store 1 (.t 69) (.t 67)))⟩, false)]
theorem c51d3_w {P : Program} {O : Orc} {S0 : Mem} {rd : Bool} {e : Env} {S : Mem} {d : List Nat} {Q : Kont} : W P O S0 rd (.draw c51d3 []) e S d Q = wFl O c51d3w e S (normK Q d) := W_draw' (by kernel_rfl) (by kernel_rfl)
attribute [go_sem] c51d3_w c51d3w
def c51 : IFunc := ⟨2, [.cell 4 (some 21), .tmp 5],
  .seq (.region [⟨(some 4), none, (.op (.fresh [(.i .u64 0), (.i .i64 0), (.b false), (.i .i64 0), (.i .u8 0), (.i .u8 0), (.i .u8 0), (.i .u8 0), (.i .i64 0), (.i .u64 0), (.i .u64 0), (.i .u64 0), (.i .u64 0), (.i .u64 0), (.i .u64 0), (.i .u64 0), (.i .u64 0), (.i .u64 0), (.i .i64 0), (.i .u64 0), (.i .u64 0)]))⟩,
    ⟨(some 5), none, (.op (.mv (.c (.i .i64 0))))⟩])
   (.live [4, 1, 0] (.seq (.seq (.region [⟨(some 9), none, (.op (.mv (.t 0)))⟩,
    ⟨(some 10), none, (.call 71 [(.t 9)])⟩])
   (.live [4, 1, 0, 10] (.cond (.t 10) (.seq (.region [⟨(some 11), none, (.op (.build [(.i .u64 0), (.i .i64 0), (.b false), (.i .i64 0), (.i .u8 0), (.i .u8 0), (.i .u8 0), (.i .u8 0), (.i .i64 0), (.i .u64 0), (.i .u64 0), (.i .u64 0), (.i .u64 0), (.i .u64 0), (.i .u64 0), (.i .u64 0), (.i .u64 0), (.i .u64 0), (.i .i64 0), (.i .u64 0), (.i .u64 0)] []))⟩,
    ⟨none, none, (.op (.store 21 (.t 4) (.t 11)))⟩,
    ⟨(some 5), none, (.op (.mv (.c (.i .i64 216))))⟩])
   (.ret))
   (.skip))))
   (.live [4, 1, 0] (.seq (.draw c51d0 [])
   (.live [4, 6, 1, 0] (.seq (.seq (.region [⟨(some 25), none, (.op (.mv (.t 0)))⟩,
    ⟨(some 26), none, (.op (.nilck (.t 25)))⟩,
    ⟨(some 27), none, (.op (.faddr 5 (.t 26)))⟩,
    ⟨(some 28), none, (.op (.load none (.t 27)))⟩,
    ⟨(some 29), none, (.op (.mv (.t 1)))⟩,
    ⟨(some 30), none, (.op (.mlook false [.int] .pn true (.t 28) (.t 29)))⟩,
    ⟨(some 24), none, (.op (.mv (.t 30)))⟩,
    ⟨(some 31), none, (.op (.ext (.t 24) 0))⟩,
    ⟨(some 32), none, (.op (.ext (.t 24) 1))⟩,
    ⟨(some 7), none, (.op (.mv (.t 31)))⟩,
    ⟨(some 8), none, (.op (.mv (.t 32)))⟩])
   (.live [4, 6, 7, 8] (.seq (.region [⟨(some 33), none, (.op (.mv (.t 8)))⟩])
   (.live [4, 6, 7, 33] (.cond (.t 33) (.seq (.draw c51d1 [])
   (.live [4, 6, 7] (.seq (.draw c51d2 [])
   (.live [4, 6, 7] (.draw c51d3 [])))))
   (.skip))))))
   (.live [4, 6] (.seq (.region [⟨(some 70), none, (.op (.load (some 21) (.t 6)))⟩,
    ⟨none, none, (.op (.store 21 (.t 4) (.t 70)))⟩,
    ⟨(some 5), none, (.op (.mv (.c (.i .i64 0))))⟩])
   (.ret))))))))),
  []⟩


/- floodgate/leb.Zag -/

def c58 : IFunc := ⟨1, [.tmp 2],
  .seq (.region [⟨(some 2), none, (.op (.mv (.c (.i .i64 0))))⟩])
   (.live [0] (.seq (.region [⟨(some 3), none, (.op (.mv (.t 0)))⟩,
    ⟨(some 4), none, (.op (.bin .int true .shr (.t 3) (.c (.i .u64 1))))⟩,
    ⟨(some 5), none, (.op (.toInt .i64 (.t 4)))⟩,
    ⟨(some 6), none, (.op (.mv (.t 0)))⟩,
    ⟨(some 7), none, (.op (.bin .int true .and (.t 6) (.c (.i .u64 1))))⟩,
    ⟨(some 8), none, (.op (.toInt .i64 (.t 7)))⟩,
    ⟨(some 9), none, (.op (.un .neg (.t 8)))⟩,
    ⟨(some 10), none, (.op (.bin .int false .xor (.t 5) (.t 9)))⟩,
    ⟨(some 2), none, (.op (.mv (.t 10)))⟩])
   (.ret))),
  []⟩


/- floodgate/leb.Get -/
def c59l0 : ICode :=
  .seq (.region [⟨(some 16), none, (.op (.bin .int false .lss (.t 15) (.t 14)))⟩])
   (.live [13, 14, 15, 5, 16] (.seq (.cond (.t 16) (.skip)
   (.exit 0))
   (.live [13, 14, 15, 5] (.seq (.block 1 (.seq (.region [⟨(some 17), none, (.op (.mv (.t 15)))⟩,
    ⟨(some 18), none, (.op (.iaddr none 1 (.t 13) (.t 15)))⟩,
    ⟨(some 19), none, (.op (.load none (.t 18)))⟩,
    ⟨(some 6), none, (.op (.mv (.t 17)))⟩,
    ⟨(some 7), none, (.op (.mv (.t 19)))⟩])
   (.live [13, 14, 15, 6, 7, 5] (.seq (.region [⟨(some 20), none, (.op (.mv (.t 7)))⟩,
    ⟨(some 21), none, (.op (.bin .int true .and (.t 20) (.c (.i .u8 127))))⟩,
    ⟨(some 22), none, (.op (.toInt .u64 (.t 21)))⟩,
    ⟨(some 8), none, (.op (.mv (.t 22)))⟩])
   (.live [13, 14, 15, 6, 7, 8, 5] (.seq (.seq (.region [⟨(some 23), none, (.op (.mv (.t 8)))⟩,
    ⟨(some 24), none, (.op (.mv (.t 6)))⟩,
    ⟨(some 25), none, (.op (.bin .int true .mul (.c (.i .i64 7)) (.t 24)))⟩,
    ⟨(some 26), none, (.op (.bin .int false .shl (.t 23) (.t 25)))⟩,
    ⟨(some 27), none, (.op (.mv (.t 6)))⟩,
    ⟨(some 28), none, (.op (.bin .int true .mul (.c (.i .i64 7)) (.t 27)))⟩,
    ⟨(some 29), none, (.op (.bin .int false .shr (.t 26) (.t 28)))⟩,
    ⟨(some 30), none, (.op (.mv (.t 8)))⟩,
    ⟨(some 31), none, (.op (.bin .int false .neq (.t 29) (.t 30)))⟩])
   (.live [13, 14, 15, 6, 7, 8, 5, 31] (.cond (.t 31) (.exit 0)
   (.skip))))
   (.live [13, 14, 15, 6, 7, 8, 5] (.seq (.region [⟨(some 32), none, (.op (.mv (.t 5)))⟩,
    ⟨(some 33), none, (.op (.mv (.t 8)))⟩,
    ⟨(some 34), none, (.op (.mv (.t 6)))⟩,
    ⟨(some 35), none, (.op (.bin .int true .mul (.c (.i .i64 7)) (.t 34)))⟩,
    ⟨(some 36), none, (.op (.bin .int false .shl (.t 33) (.t 35)))⟩,
    ⟨(some 37), none, (.op (.bin .int false .or (.t 32) (.t 36)))⟩,
    ⟨(some 5), none, (.op (.mv (.t 37)))⟩])
   (.live [13, 14, 5, 15, 6, 7] (.seq (.seq (.region [⟨(some 38), none, (.op (.mv (.t 7)))⟩,
    ⟨(some 39), none, (.op (.bin .int true .and (.t 38) (.c (.i .u8 128))))⟩,
    ⟨(some 40), none, (.op (.bin .int true .neq (.t 39) (.c (.i .u8 0))))⟩])
   (.live [13, 14, 5, 15, 6, 40] (.cond (.t 40) (.exit 1)
   (.skip))))
   (.live [6, 5] (.seq (.seq (.region [⟨(some 41), none, (.op (.mv (.t 5)))⟩,
    ⟨(some 42), none, (.call 104 [(.t 41)])⟩,
    ⟨(some 43), none, (.op (.mv (.t 6)))⟩,
    ⟨(some 44), none, (.op (.bin .int true .add (.t 43) (.c (.i .i64 1))))⟩,
    ⟨(some 45), none, (.op (.bin .int false .neq (.t 42) (.t 44)))⟩])
   (.live [6, 5, 45] (.cond (.t 45) (.exit 0)
   (.skip))))
   (.live [6, 5] (.seq (.region [⟨(some 46), none, (.op (.mv (.t 5)))⟩,
    ⟨(some 47), none, (.op (.mv (.t 6)))⟩,
    ⟨(some 48), none, (.op (.bin .int true .add (.t 47) (.c (.i .i64 1))))⟩,
    ⟨(some 2), none, (.op (.mv (.t 46)))⟩,
    ⟨(some 3), none, (.op (.mv (.t 48)))⟩,
    ⟨(some 4), none, (.op (.mv (.c (.i .i64 0))))⟩])
   (.ret)))))))))))))))
   (.live [13, 14, 5, 15] (.region [⟨(some 49), none, (.op (.bin .int true .add (.t 15) (.c (.i .i64 1))))⟩,
    ⟨(some 15), none, (.op (.mv (.t 49)))⟩]))))))
def c59 : IFunc := ⟨1, [.tmp 2, .tmp 3, .tmp 4],
  .seq (.region [⟨(some 2), none, (.op (.mv (.c (.i .u64 0))))⟩,
    ⟨(some 3), none, (.op (.mv (.c (.i .i64 0))))⟩,
    ⟨(some 4), none, (.op (.mv (.c (.i .i64 0))))⟩])
   (.live [0] (.seq (.region [⟨(some 5), none, (.op (.mv (.c (.i .u64 0))))⟩])
   (.live [5, 0] (.seq (.seq (.region [⟨(some 9), none, (.op (.mv (.t 0)))⟩,
    ⟨(some 10), none, (.op (.mv (.t 0)))⟩,
    ⟨(some 11), none, (.op (.len .slice (.t 10)))⟩,
    ⟨(some 12), none, (.op (.mm false [(.t 11), (.c (.i .i64 10))]))⟩,
    ⟨(some 13), none, (.op (.slice 1 (.t 9) none (some (.t 12)) none))⟩,
    ⟨(some 14), none, (.op (.len .slice (.t 13)))⟩,
    ⟨(some 15), none, (.op (.mv (.c (.i .i64 0))))⟩])
   (.live [13, 14, 15, 5] (.block 0 (.loop [13, 14, 15, 5] c59l0))))
   (.live [] (.seq (.region [⟨(some 2), none, (.op (.mv (.c (.i .u64 0))))⟩,
    ⟨(some 3), none, (.op (.mv (.c (.i .i64 0))))⟩,
    ⟨(some 4), none, (.op (.mv (.c (.i .i64 21))))⟩])
   (.ret))))))),
  []⟩


/- floodgate/sat.Int -/

def c60 : IFunc := ⟨1, [.tmp 2, .tmp 3],
  .seq (.region [⟨(some 2), none, (.op (.mv (.c (.i .i64 0))))⟩,
    ⟨(some 3), none, (.op (.mv (.c (.b false))))⟩])
   (.live [0] (.seq (.seq (.region [⟨(some 4), none, (.op (.mv (.t 0)))⟩,
    ⟨(some 5), none, (.op (.bin .int true .gtr (.t 4) (.c (.i .u64 9223372036854775807))))⟩])
   (.live [0, 5] (.cond (.t 5) (.seq (.region [⟨(some 2), none, (.op (.mv (.c (.i .i64 0))))⟩,
    ⟨(some 3), none, (.op (.mv (.c (.b false))))⟩])
   (.ret))
   (.skip))))
   (.live [0] (.seq (.region [⟨(some 6), none, (.op (.mv (.t 0)))⟩,
    ⟨(some 7), none, (.op (.toInt .i64 (.t 6)))⟩,
    ⟨(some 2), none, (.op (.mv (.t 7)))⟩,
    ⟨(some 3), none, (.op (.mv (.c (.b true))))⟩])
   (.ret))))),
  []⟩


/- slices.IndexFunc[[]floodgate/api.Op,floodgate/api.Op] -/
def c65l0 : ICode :=
  .seq (.region [⟨(some 9), none, (.op (.bin .int false .lss (.t 8) (.t 7)))⟩])
   (.live [0, 1, 7, 8, 9] (.seq (.cond (.t 9) (.skip)
   (.exit 0))
   (.live [0, 1, 7, 8] (.seq (.block 1 (.seq (.region [⟨(some 10), none, (.op (.mv (.t 8)))⟩,
    ⟨(some 5), none, (.op (.mv (.t 10)))⟩])
   (.live [5, 0, 1, 7, 8] (.seq (.region [⟨(some 11), none, (.op (.mv (.t 1)))⟩,
    ⟨(some 12), none, (.op (.mv (.t 0)))⟩,
    ⟨(some 13), none, (.op (.mv (.t 5)))⟩,
    ⟨(some 14), none, (.op (.iaddr none 19 (.t 12) (.t 13)))⟩,
    ⟨(some 15), none, (.op (.load (some 19) (.t 14)))⟩,
    ⟨(some 16), none, (.callv (.t 11) [(.t 15)])⟩])
   (.live [5, 0, 1, 7, 8, 16] (.cond (.t 16) (.seq (.region [⟨(some 17), none, (.op (.mv (.t 5)))⟩,
    ⟨(some 4), none, (.op (.mv (.t 17)))⟩])
   (.ret))
   (.skip)))))))
   (.live [0, 1, 7, 8] (.region [⟨(some 18), none, (.op (.bin .int true .add (.t 8) (.c (.i .i64 1))))⟩,
    ⟨(some 8), none, (.op (.mv (.t 18)))⟩]))))))
def c65 : IFunc := ⟨2, [.tmp 4],
  .seq (.region [⟨(some 4), none, (.op (.mv (.c (.i .i64 0))))⟩])
   (.live [0, 1] (.seq (.seq (.region [⟨(some 6), none, (.op (.mv (.t 0)))⟩,
    ⟨(some 7), none, (.op (.len .slice (.t 6)))⟩,
    ⟨(some 8), none, (.op (.mv (.c (.i .i64 0))))⟩])
   (.live [0, 1, 7, 8] (.block 0 (.loop [0, 1, 7, 8] c65l0))))
   (.live [] (.seq (.region [⟨(some 4), none, (.op (.mv (.c (.i .i64 (-1)))))⟩])
   (.ret))))),
  []⟩


/- slices.Grow[[]byte,byte] -/

def c66 : IFunc := ⟨2, [.tmp 4],
  .seq (.region [⟨(some 4), none, (.op (.mv (.c .sn)))⟩])
   (.live [0, 1] (.seq (.seq (.region [⟨(some 5), none, (.op (.mv (.t 1)))⟩,
    ⟨(some 6), none, (.op (.bin .int true .lss (.t 5) (.c (.i .i64 0))))⟩])
   (.live [0, 1, 6] (.cond (.t 6) (.region [⟨(some 7), none, (.op (.bad))⟩,
    ⟨none, none, (.op (.bad))⟩])
   (.skip))))
   (.live [0, 1] (.seq (.seq (.region [⟨(some 8), none, (.op (.mv (.t 1)))⟩,
    ⟨(some 9), none, (.op (.mv (.t 0)))⟩,
    ⟨(some 10), none, (.op (.cap (.t 9)))⟩,
    ⟨(some 11), none, (.op (.mv (.t 0)))⟩,
    ⟨(some 12), none, (.op (.len .slice (.t 11)))⟩,
    ⟨(some 13), none, (.op (.bin .int false .sub (.t 10) (.t 12)))⟩,
    ⟨(some 14), none, (.op (.bin .int false .sub (.t 8) (.t 13)))⟩,
    ⟨(some 1), none, (.op (.mv (.t 14)))⟩])
   (.live [0, 1] (.seq (.region [⟨(some 15), none, (.op (.mv (.t 1)))⟩,
    ⟨(some 16), none, (.op (.bin .int true .gtr (.t 15) (.c (.i .i64 0))))⟩])
   (.live [0, 1, 16] (.cond (.t 16) (.region [⟨(some 17), none, (.op (.mv (.t 0)))⟩,
    ⟨(some 18), none, (.op (.mv (.t 0)))⟩,
    ⟨(some 19), none, (.op (.cap (.t 18)))⟩,
    ⟨(some 20), none, (.op (.slice 1 (.t 17) none (some (.t 19)) none))⟩,
    ⟨(some 21), none, (.op (.mv (.t 1)))⟩,
    ⟨(some 22), none, (.op (.appz [(.i .u8 0)] 1 (.t 20) (.t 21)))⟩,
    ⟨(some 23), none, (.op (.mv (.t 0)))⟩,
    ⟨(some 24), none, (.op (.len .slice (.t 23)))⟩,
    ⟨(some 25), none, (.op (.slice 1 (.t 22) none (some (.t 24)) none))⟩,
    ⟨(some 0), none, (.op (.mv (.t 25)))⟩])
   (.skip))))))
   (.live [0] (.seq (.region [⟨(some 26), none, (.op (.mv (.t 0)))⟩,
    ⟨(some 4), none, (.op (.mv (.t 26)))⟩])
   (.ret))))))),
  []⟩


/- floodgate/gate.right -/

def c67 : IFunc := ⟨1, [.tmp 2],
  .seq (.region [⟨(some 1), none, (.op (.box (.t 0)))⟩,
    ⟨(some 2), none, (.op (.mv (.c (.b false))))⟩])
   (.live [1] (.seq (.region [⟨(some 6), none, (.op (.faddr 0 (.t 1)))⟩,
    ⟨(some 7), none, (.op (.load none (.t 6)))⟩,
    ⟨(some 8), none, (.call 106 [(.t 7)])⟩,
    ⟨(some 5), none, (.op (.mv (.t 8)))⟩,
    ⟨(some 9), none, (.op (.ext (.t 5) 0))⟩,
    ⟨(some 10), none, (.op (.ext (.t 5) 1))⟩,
    ⟨(some 3), none, (.op (.mv (.t 9)))⟩,
    ⟨(some 4), none, (.op (.mv (.t 10)))⟩])
   (.live [1, 4] (.seq (.region [⟨(some 11), none, (.op (.mv (.t 4)))⟩,
    ⟨(some 12), none, (.op (.bin .int true .eql (.t 11) (.c (.i .i64 0))))⟩,
    ⟨(some 13), none, (.op (.mv (.t 12)))⟩,
    ⟨(some 14), some (13, true), (.op (.faddr 1 (.t 1)))⟩,
    ⟨(some 15), some (13, true), (.op (.load none (.t 14)))⟩,
    ⟨(some 16), some (13, true), (.op (.bin .int true .geq (.t 15) (.c (.i .i64 1))))⟩,
    ⟨(some 17), none, (.op (.pick (.t 13) (.t 16) (.c (.b false))))⟩,
    ⟨(some 18), none, (.op (.mv (.t 17)))⟩,
    ⟨(some 19), some (18, true), (.op (.faddr 1 (.t 1)))⟩,
    ⟨(some 20), some (18, true), (.op (.load none (.t 19)))⟩,
    ⟨(some 21), some (18, true), (.op (.bin .int true .leq (.t 20) (.c (.i .i64 64))))⟩,
    ⟨(some 22), none, (.op (.pick (.t 18) (.t 21) (.c (.b false))))⟩,
    ⟨(some 23), none, (.op (.mv (.t 22)))⟩,
    ⟨(some 24), some (23, true), (.op (.faddr 2 (.t 1)))⟩,
    ⟨(some 25), some (23, true), (.op (.load none (.t 24)))⟩,
    ⟨(some 26), some (23, true), (.op (.bin .int true .geq (.t 25) (.c (.i .u64 1))))⟩,
    ⟨(some 27), none, (.op (.pick (.t 23) (.t 26) (.c (.b false))))⟩,
    ⟨(some 28), none, (.op (.mv (.t 27)))⟩,
    ⟨(some 29), some (28, true), (.op (.faddr 2 (.t 1)))⟩,
    ⟨(some 30), some (28, true), (.op (.load none (.t 29)))⟩,
    ⟨(some 31), some (28, true), (.op (.bin .int true .leq (.t 30) (.c (.i .u64 281474976710656))))⟩,
    ⟨(some 32), none, (.op (.pick (.t 28) (.t 31) (.c (.b false))))⟩,
    ⟨(some 2), none, (.op (.mv (.t 32)))⟩])
   (.ret))))),
  []⟩


/- floodgate/disk.New -/

def c68 : IFunc := ⟨1, [.tmp 2],
  .seq (.region [⟨(some 2), none, (.op (.mv (.c .pn)))⟩])
   (.live [0] (.seq (.region [⟨(some 3), none, (.op (.mv (.t 0)))⟩,
    ⟨(some 4), none, (.op (.mm false [(.t 3), (.c (.i .i64 512))]))⟩,
    ⟨(some 5), none, (.op (.mm true [(.c (.i .i64 0)), (.t 4)]))⟩,
    ⟨(some 6), none, (.op (.mks [(.i .u8 0), (.i .u8 0), (.i .u8 0), (.i .u8 0), (.i .u8 0), (.i .u8 0), (.i .u8 0), (.i .u8 0), (.i .u8 0), (.i .u8 0), (.i .u8 0), (.i .u8 0), (.i .u8 0), (.i .u8 0), (.i .u8 0), (.i .u8 0), (.i .u8 0), (.i .u8 0), (.i .u8 0), (.i .u8 0), (.i .u8 0), (.i .u8 0), (.i .u8 0), (.i .u8 0), (.i .u8 0), (.i .u8 0), (.i .u8 0), (.i .u8 0), (.i .u8 0), (.i .u8 0), (.i .u8 0), (.i .u8 0), (.i .u8 0), (.i .u8 0), (.i .u8 0), (.i .u8 0), (.i .u8 0), (.i .u8 0), (.i .u8 0), (.i .u8 0), (.i .u8 0), (.i .u8 0), (.i .u8 0), (.i .u8 0), (.i .u8 0), (.i .u8 0), (.i .u8 0), (.i .u8 0), (.i .u8 0), (.i .u8 0), (.i .u8 0), (.i .u8 0), (.i .u8 0), (.i .u8 0), (.i .u8 0), (.i .u8 0), (.i .u8 0), (.i .u8 0), (.i .u8 0), (.i .u8 0), (.i .u8 0), (.i .u8 0), (.i .u8 0), (.i .u8 0)] 64 (.t 5) (.t 5)))⟩,
    ⟨(some 7), none, (.op (.build [.sn, .sn, (.i .i64 0), (.b false)] [(0, 1, (.t 6)), (2, 1, (.c (.i .i64 (-1))))]))⟩,
    ⟨(some 8), none, (.op (.box (.t 7)))⟩,
    ⟨(some 2), none, (.op (.mv (.t 8)))⟩])
   (.ret))),
  []⟩


/- floodgate/vault.Format -/

def c69 : IFunc := ⟨1, [.tmp 2, .tmp 3],
  .seq (.region [⟨(some 2), none, (.op (.mv (.c .pn)))⟩,
    ⟨(some 3), none, (.op (.mv (.c (.i .i64 0))))⟩])
   (.live [0] (.seq (.seq (.region [⟨(some 7), none, (.op (.mv (.t 0)))⟩,
    ⟨(some 8), none, (.call 107 [(.t 7)])⟩,
    ⟨(some 9), none, (.call 106 [(.t 8)])⟩,
    ⟨(some 6), none, (.op (.mv (.t 9)))⟩,
    ⟨(some 10), none, (.op (.ext (.t 6) 0))⟩,
    ⟨(some 11), none, (.op (.ext (.t 6) 1))⟩,
    ⟨(some 4), none, (.op (.mv (.t 10)))⟩,
    ⟨(some 5), none, (.op (.mv (.t 11)))⟩])
   (.live [5, 0] (.seq (.region [⟨(some 12), none, (.op (.mv (.t 5)))⟩,
    ⟨(some 13), none, (.op (.bin .int true .neq (.t 12) (.c (.i .i64 0))))⟩])
   (.live [5, 0, 13] (.cond (.t 13) (.seq (.region [⟨(some 14), none, (.op (.mv (.t 5)))⟩,
    ⟨(some 2), none, (.op (.mv (.c .pn)))⟩,
    ⟨(some 3), none, (.op (.mv (.t 14)))⟩])
   (.ret))
   (.skip))))))
   (.live [0] (.seq (.region [⟨(some 15), none, (.op (.mv (.t 0)))⟩,
    ⟨(some 16), none, (.op (.build [(.i .u64 0), .sn] [(0, 1, (.c (.i .u64 1)))]))⟩,
    ⟨(some 17), none, (.op (.build [(.i .u64 0), (.i .u32 0), (.i .u64 0), (.i .i64 0), (.i .u64 0), .sn] [(0, 1, (.c (.i .u64 1))), (1, 1, (.c (.i .u32 1))), (2, 1, (.c (.i .u64 1))), (4, 2, (.t 16))]))⟩,
    ⟨(some 18), none, (.call 108 [(.t 15), (.t 17)])⟩,
    ⟨(some 19), none, (.op (.ext (.t 18) 0))⟩,
    ⟨(some 20), none, (.op (.ext (.t 18) 1))⟩,
    ⟨(some 2), none, (.op (.mv (.t 19)))⟩,
    ⟨(some 3), none, (.op (.mv (.t 20)))⟩])
   (.ret))))),
  []⟩


/- (*floodgate/gate.Gate).up -/
def c70l0 : ICode :=
  .seq (.region [⟨(some 35), none, (.op (.bin .int false .lss (.t 34) (.t 33)))⟩])
   (.live [0, 32, 33, 34, 35] (.seq (.cond (.t 35) (.skip)
   (.exit 0))
   (.live [0, 32, 33, 34] (.seq (.block 1 (.seq (.region [⟨(some 36), none, (.op (.iaddr none 14 (.t 32) (.t 34)))⟩,
    ⟨(some 37), none, (.op (.load (some 14) (.t 36)))⟩,
    ⟨(some 6), none, (.op (.fresh [(.i .i64 0), (.i .u8 0), (.i .u8 0), (.i .u8 0), (.i .u8 0), (.i .i64 0), (.i .u64 0), (.i .u64 0), (.i .u64 0), (.i .u64 0), (.i .u64 0), (.i .u64 0), (.i .u64 0), (.i .u64 0)]))⟩,
    ⟨none, none, (.op (.store 14 (.t 6) (.t 37)))⟩])
   (.live [0, 32, 33, 34, 6] (.seq (.region [⟨(some 38), none, (.op (.mv (.t 0)))⟩,
    ⟨(some 39), none, (.op (.load (some 14) (.t 6)))⟩,
    ⟨(some 40), none, (.call 111 [(.t 38), (.t 39)])⟩,
    ⟨(some 7), none, (.op (.mv (.t 40)))⟩])
   (.live [7, 0, 32, 33, 34] (.seq (.region [⟨(some 41), none, (.op (.mv (.t 7)))⟩,
    ⟨(some 42), none, (.op (.bin .int true .neq (.t 41) (.c (.i .i64 0))))⟩])
   (.live [7, 0, 32, 33, 34, 42] (.cond (.t 42) (.seq (.region [⟨(some 43), none, (.op (.mv (.t 7)))⟩,
    ⟨(some 4), none, (.op (.mv (.t 43)))⟩])
   (.ret))
   (.skip)))))))))
   (.live [0, 32, 33, 34] (.region [⟨(some 44), none, (.op (.bin .int true .add (.t 34) (.c (.i .i64 1))))⟩,
    ⟨(some 34), none, (.op (.mv (.t 44)))⟩]))))))
def c70 : IFunc := ⟨2, [.tmp 4],
  .seq (.region [⟨(some 4), none, (.op (.mv (.c (.i .i64 0))))⟩])
   (.live [0, 1] (.seq (.region [⟨(some 8), none, (.op (.mv (.t 0)))⟩,
    ⟨(some 9), none, (.op (.mv (.t 0)))⟩,
    ⟨(some 10), none, (.op (.mv (.t 0)))⟩,
    ⟨(some 11), none, (.op (.mv (.t 1)))⟩,
    ⟨(some 12), none, (.op (.nilck (.t 8)))⟩,
    ⟨(some 13), none, (.op (.faddr 4 (.t 12)))⟩,
    ⟨none, none, (.op (.store 1 (.t 13) (.t 11)))⟩,
    ⟨(some 14), none, (.op (.nilck (.t 9)))⟩,
    ⟨(some 15), none, (.op (.faddr 8 (.t 14)))⟩,
    ⟨none, none, (.op (.store 1 (.t 15) (.c (.i .u64 0))))⟩,
    ⟨(some 16), none, (.op (.nilck (.t 10)))⟩,
    ⟨(some 17), none, (.op (.faddr 9 (.t 16)))⟩,
    ⟨none, none, (.op (.store 1 (.t 17) (.c .pn)))⟩])
   (.live [0, 1] (.seq (.region [⟨(some 18), none, (.op (.mv (.t 0)))⟩,
    ⟨(some 19), none, (.op (.mv (.t 0)))⟩,
    ⟨(some 20), none, (.op (.mv (.t 0)))⟩,
    ⟨(some 21), none, (.op (.mkmap none))⟩,
    ⟨(some 22), none, (.call 109 [])⟩,
    ⟨(some 23), none, (.call 110 [])⟩,
    ⟨(some 24), none, (.op (.nilck (.t 18)))⟩,
    ⟨(some 25), none, (.op (.faddr 5 (.t 24)))⟩,
    ⟨none, none, (.op (.store 1 (.t 25) (.t 21)))⟩,
    ⟨(some 26), none, (.op (.nilck (.t 19)))⟩,
    ⟨(some 27), none, (.op (.faddr 6 (.t 26)))⟩,
    ⟨none, none, (.op (.store 1 (.t 27) (.t 22)))⟩,
    ⟨(some 28), none, (.op (.nilck (.t 20)))⟩,
    ⟨(some 29), none, (.op (.faddr 7 (.t 28)))⟩,
    ⟨none, none, (.op (.store 1 (.t 29) (.t 23)))⟩])
   (.live [0, 1] (.seq (.seq (.region [⟨(some 30), none, (.op (.mv (.t 1)))⟩,
    ⟨(some 31), none, (.call 79 [(.t 30)])⟩,
    ⟨(some 32), none, (.op (.fld 1 none (.t 31)))⟩,
    ⟨(some 33), none, (.op (.len .slice (.t 32)))⟩,
    ⟨(some 34), none, (.op (.mv (.c (.i .i64 0))))⟩])
   (.live [0, 32, 33, 34] (.block 0 (.loop [0, 32, 33, 34] c70l0))))
   (.live [] (.seq (.region [⟨(some 4), none, (.op (.mv (.c (.i .i64 0))))⟩])
   (.ret))))))))),
  []⟩


/- (*floodgate/gate.Gate).Down -/

def c71 : IFunc := ⟨1, [.tmp 2],
  .seq (.region [⟨(some 2), none, (.op (.mv (.c (.b false))))⟩])
   (.live [0] (.seq (.region [⟨(some 3), none, (.op (.mv (.t 0)))⟩,
    ⟨(some 4), none, (.op (.nilck (.t 3)))⟩,
    ⟨(some 5), none, (.op (.faddr 4 (.t 4)))⟩,
    ⟨(some 6), none, (.op (.load none (.t 5)))⟩,
    ⟨(some 7), none, (.op (.bin .ptr true .eql (.t 6) (.c .pn)))⟩,
    ⟨(some 2), none, (.op (.mv (.t 7)))⟩])
   (.ret))),
  []⟩


/- (*floodgate/vault.Vault).Book -/
def c79d0 : List Stage :=
  [⟨[(⟨(some 3), none, (.op (.mv (.t 0)))⟩, 1), (⟨(some 4), none, (.op (.nilck (.t 3)))⟩, 1), (⟨(some 5), none, (.op (.faddr 2 (.t 4)))⟩, 1), (⟨(some 6), none, (.op (.faddr 4 (.t 5)))⟩, 1), (⟨(some 7), none, (.op (.faddr 0 (.t 6)))⟩, 1), (⟨(some 8), none, (.op (.load none (.t 7)))⟩, 1), (⟨(some 9), none, (.op (.mv (.t 0)))⟩, 0), (⟨(some 10), none, (.op (.nilck (.t 9)))⟩, 0), (⟨(some 11), none, (.op (.faddr 2 (.t 10)))⟩, 0), (⟨(some 12), none, (.op (.faddr 4 (.t 11)))⟩, 0), (⟨(some 13), none, (.op (.faddr 1 (.t 12)))⟩, 0), (⟨(some 14), none, (.op (.load none (.t 13)))⟩, 0)], none, some ⟨(some 15), none, (.call 124 [(.t 14)])⟩⟩,
    ⟨[(⟨(some 16), none, (.op (.build [(.i .u64 0), .sn] [(0, 1, (.t 8)), (1, 1, (.t 15))]))⟩, 1)], none, some ⟨none, none, (.op (.store 2 (.t 2) (.t 16)))⟩⟩,
    ⟨[], none, none⟩]
def c79d0w : List (ROp × Bool) :=
  [(⟨(some 3), none, (.op (.mv (.t 0)))⟩, false), (⟨(some 4), none, (.op (.nilck (.t 3)))⟩, false), (⟨(some 5), none, (.op (.faddr 2 (.t 4)))⟩, false), (⟨(some 6), none, (.op (.faddr 4 (.t 5)))⟩, false), (⟨(some 7), none, (.op (.faddr 0 (.t 6)))⟩, false), (⟨(some 8), none, (.op (.load none (.t 7)))⟩, false), (⟨(some 9), none, (.op (.mv (.t 0)))⟩, false), (⟨(some 10), none, (.op (.nilck (.t 9)))⟩, false), (⟨(some 11), none, (.op (.faddr 2 (.t 10)))⟩, false), (⟨(some 12), none, (.op (.faddr 4 (.t 11)))⟩, false), (⟨(some 13), none, (.op (.faddr 1 (.t 12)))⟩, false), (⟨(some 14), none, (.op (.load none (.t 13)))⟩, false), (⟨(some 15), none, (.call 124 [(.t 14)])⟩, true), (⟨(some 16), none, (.op (.build [(.i .u64 0), .sn] [(0, 1, (.t 8)), (1, 1, (.t 15))]))⟩, false), (⟨none, none, (.op (.store 2 (.t 2) (.t 16)))⟩, false)]
theorem c79d0_w {P : Program} {O : Orc} {S0 : Mem} {rd : Bool} {e : Env} {S : Mem} {d : List Nat} {Q : Kont} : W P O S0 rd (.draw c79d0 []) e S d Q = wFl O c79d0w e S (normK Q d) := W_draw' (by kernel_rfl) (by kernel_rfl)
attribute [go_sem] c79d0_w c79d0w
def c79 : IFunc := ⟨1, [.cell 2 (some 2)],
  .seq (.region [⟨(some 2), none, (.op (.fresh [(.i .u64 0), .sn]))⟩])
   (.live [2, 0] (.seq (.draw c79d0 [])
   (.ret))),
  []⟩


/- (*floodgate/vault.Vault).Left -/

def c92 : IFunc := ⟨1, [.tmp 2],
  .seq (.region [⟨(some 2), none, (.op (.mv (.c (.i .i64 0))))⟩])
   (.live [0] (.seq (.region [⟨(some 3), none, (.op (.mv (.t 0)))⟩,
    ⟨(some 4), none, (.op (.nilck (.t 3)))⟩,
    ⟨(some 5), none, (.op (.faddr 1 (.t 4)))⟩,
    ⟨(some 6), none, (.op (.load none (.t 5)))⟩,
    ⟨(some 7), none, (.call 138 [(.t 6)])⟩,
    ⟨(some 2), none, (.op (.mv (.t 7)))⟩])
   (.ret))),
  []⟩


/- floodgate/leb.Size -/

def c104 : IFunc := ⟨1, [.tmp 2],
  .seq (.region [⟨(some 2), none, (.op (.mv (.c (.i .i64 0))))⟩])
   (.live [0] (.seq (.region [⟨(some 3), none, (.op (.mv (.t 0)))⟩,
    ⟨(some 4), none, (.call 148 [(.t 3)])⟩,
    ⟨(some 5), none, (.op (.bin .int true .add (.t 4) (.c (.i .i64 7))))⟩,
    ⟨(some 6), none, (.op (.bin .int true .sub (.t 5) (.c (.i .i64 1))))⟩,
    ⟨(some 7), none, (.op (.bin .int true .quo (.t 6) (.c (.i .i64 7))))⟩,
    ⟨(some 8), none, (.op (.mm true [(.c (.i .i64 1)), (.t 7)]))⟩,
    ⟨(some 2), none, (.op (.mv (.t 8)))⟩])
   (.ret))),
  []⟩


/- floodgate/area.Segs -/

def c106 : IFunc := ⟨1, [.tmp 2, .tmp 3],
  .seq (.region [⟨(some 2), none, (.op (.mv (.c (.i .i64 0))))⟩,
    ⟨(some 3), none, (.op (.mv (.c (.i .i64 0))))⟩])
   (.live [0] (.seq (.seq (.region [⟨(some 4), none, (.op (.mv (.t 0)))⟩,
    ⟨(some 5), none, (.op (.bin .int true .lss (.t 4) (.c (.i .i64 64))))⟩,
    ⟨(some 6), none, (.op (.mv (.t 5)))⟩,
    ⟨(some 7), some (6, false), (.op (.mv (.t 0)))⟩,
    ⟨(some 8), some (6, false), (.op (.bin .int true .gtr (.t 7) (.c (.i .i64 512))))⟩,
    ⟨(some 9), none, (.op (.pick (.t 6) (.c (.b true)) (.t 8)))⟩])
   (.live [0, 9] (.cond (.t 9) (.seq (.region [⟨(some 2), none, (.op (.mv (.c (.i .i64 0))))⟩,
    ⟨(some 3), none, (.op (.mv (.c (.i .i64 91))))⟩])
   (.ret))
   (.skip))))
   (.live [0] (.seq (.region [⟨(some 10), none, (.op (.mv (.t 0)))⟩,
    ⟨(some 11), none, (.op (.bin .int true .sub (.t 10) (.c (.i .i64 32))))⟩,
    ⟨(some 12), none, (.op (.bin .int true .quo (.t 11) (.c (.i .i64 16))))⟩,
    ⟨(some 2), none, (.op (.mv (.t 12)))⟩,
    ⟨(some 3), none, (.op (.mv (.c (.i .i64 0))))⟩])
   (.ret))))),
  []⟩


/- (*floodgate/disk.Disk).Len -/

def c107 : IFunc := ⟨1, [.tmp 2],
  .seq (.region [⟨(some 2), none, (.op (.mv (.c (.i .i64 0))))⟩])
   (.live [0] (.seq (.region [⟨(some 3), none, (.op (.mv (.t 0)))⟩,
    ⟨(some 4), none, (.op (.nilck (.t 3)))⟩,
    ⟨(some 5), none, (.op (.faddr 0 (.t 4)))⟩,
    ⟨(some 6), none, (.op (.load none (.t 5)))⟩,
    ⟨(some 7), none, (.op (.len .slice (.t 6)))⟩,
    ⟨(some 2), none, (.op (.mv (.t 7)))⟩])
   (.ret))),
  []⟩


/- floodgate/vault.begin -/

def c108 : IFunc := ⟨2, [.tmp 4, .tmp 5],
  .seq (.region [⟨(some 3), none, (.op (.box (.t 1)))⟩,
    ⟨(some 4), none, (.op (.mv (.c .pn)))⟩,
    ⟨(some 5), none, (.op (.mv (.c (.i .i64 0))))⟩])
   (.live [3, 0] (.seq (.seq (.region [⟨(some 9), none, (.op (.mv (.t 0)))⟩,
    ⟨(some 10), none, (.op (.load (some 6) (.t 3)))⟩,
    ⟨(some 11), none, (.call 149 [(.t 9), (.t 10)])⟩,
    ⟨(some 6), none, (.op (.mv (.t 11)))⟩])
   (.live [6, 3, 0] (.seq (.region [⟨(some 12), none, (.op (.mv (.t 6)))⟩,
    ⟨(some 13), none, (.op (.bin .int true .neq (.t 12) (.c (.i .i64 0))))⟩])
   (.live [6, 3, 0, 13] (.cond (.t 13) (.seq (.region [⟨(some 14), none, (.op (.mv (.t 6)))⟩,
    ⟨(some 4), none, (.op (.mv (.c .pn)))⟩,
    ⟨(some 5), none, (.op (.mv (.t 14)))⟩])
   (.ret))
   (.skip))))))
   (.live [3, 0] (.seq (.region [⟨(some 16), none, (.op (.mv (.t 0)))⟩,
    ⟨(some 17), none, (.op (.faddr 1 (.t 3)))⟩,
    ⟨(some 18), none, (.op (.load none (.t 17)))⟩,
    ⟨(some 19), none, (.op (.faddr 2 (.t 3)))⟩,
    ⟨(some 20), none, (.op (.load none (.t 19)))⟩,
    ⟨(some 21), none, (.op (.faddr 3 (.t 3)))⟩,
    ⟨(some 22), none, (.op (.load none (.t 21)))⟩,
    ⟨(some 23), none, (.call 150 [(.t 16), (.t 18), (.t 20), (.t 22)])⟩,
    ⟨(some 15), none, (.op (.mv (.t 23)))⟩,
    ⟨(some 24), none, (.op (.ext (.t 15) 0))⟩,
    ⟨(some 25), none, (.op (.ext (.t 15) 1))⟩,
    ⟨(some 7), none, (.op (.mv (.t 24)))⟩,
    ⟨(some 8), none, (.op (.mv (.t 25)))⟩])
   (.live [8, 3, 7, 0] (.seq (.seq (.region [⟨(some 26), none, (.op (.mv (.t 8)))⟩,
    ⟨(some 27), none, (.op (.bin .int true .neq (.t 26) (.c (.i .i64 0))))⟩])
   (.live [8, 3, 7, 0, 27] (.cond (.t 27) (.seq (.region [⟨(some 28), none, (.op (.mv (.t 8)))⟩,
    ⟨(some 4), none, (.op (.mv (.c .pn)))⟩,
    ⟨(some 5), none, (.op (.mv (.t 28)))⟩])
   (.ret))
   (.skip))))
   (.live [3, 7, 0] (.seq (.region [⟨(some 29), none, (.op (.mv (.t 0)))⟩,
    ⟨(some 30), none, (.op (.mv (.t 7)))⟩,
    ⟨(some 31), none, (.op (.load (some 6) (.t 3)))⟩,
    ⟨(some 32), none, (.op (.build [.pn, .pn, (.i .u64 0), (.i .u32 0), (.i .u64 0), (.i .i64 0), (.i .u64 0), .sn] [(0, 1, (.t 29)), (1, 1, (.t 30)), (2, 6, (.t 31))]))⟩,
    ⟨(some 33), none, (.op (.box (.t 32)))⟩,
    ⟨(some 4), none, (.op (.mv (.t 33)))⟩,
    ⟨(some 5), none, (.op (.mv (.c (.i .i64 0))))⟩])
   (.ret))))))))),
  []⟩


/- floodgate/drr.New -/

def c109 : IFunc := ⟨0, [.tmp 0],
  .seq (.region [⟨(some 0), none, (.op (.mv (.c .pn)))⟩])
   (.live [] (.seq (.region [⟨(some 1), none, (.op (.mkmap none))⟩,
    ⟨(some 2), none, (.op (.build [.mn, .sn] [(0, 1, (.t 1))]))⟩,
    ⟨(some 3), none, (.op (.box (.t 2)))⟩,
    ⟨(some 0), none, (.op (.mv (.t 3)))⟩])
   (.ret))),
  []⟩


/- floodgate/route.New -/

def c110 : IFunc := ⟨0, [.tmp 0],
  .seq (.region [⟨(some 0), none, (.op (.mv (.c .pn)))⟩])
   (.live [] (.seq (.region [⟨(some 1), none, (.op (.mkmap none))⟩,
    ⟨(some 2), none, (.op (.build [.mn] [(0, 1, (.t 1))]))⟩,
    ⟨(some 3), none, (.op (.box (.t 2)))⟩,
    ⟨(some 0), none, (.op (.mv (.t 3)))⟩])
   (.ret))),
  []⟩


/- slices.Clone[[]floodgate/api.Entry,floodgate/api.Entry] -/

def c124 : IFunc := ⟨1, [.tmp 2],
  .seq (.region [⟨(some 2), none, (.op (.mv (.c .sn)))⟩])
   (.live [0] (.seq (.seq (.region [⟨(some 3), none, (.op (.mv (.t 0)))⟩,
    ⟨(some 4), none, (.op (.bin .slice true .eql (.t 3) (.c .sn)))⟩])
   (.live [0, 4] (.cond (.t 4) (.seq (.region [⟨(some 2), none, (.op (.mv (.c .sn)))⟩])
   (.ret))
   (.skip))))
   (.live [0] (.seq (.region [⟨(some 5), none, (.op (.bslice [(.i .i64 0), (.i .u8 0), (.i .u8 0), (.i .u8 0), (.i .u8 0), (.i .i64 0), (.i .u64 0), (.i .u64 0), (.i .u64 0), (.i .u64 0), (.i .u64 0), (.i .u64 0), (.i .u64 0), (.i .u64 0)] 0 []))⟩,
    ⟨(some 6), none, (.op (.mv (.t 0)))⟩,
    ⟨(some 7), none, (.op (.app 14 88 (.t 5) (.t 6)))⟩,
    ⟨(some 2), none, (.op (.mv (.t 7)))⟩])
   (.ret))))),
  []⟩


/- (*floodgate/wal.Log).Left -/
def c138d0 : List Stage :=
  [⟨[(⟨(some 17), none, (.op (.mv (.t 0)))⟩, 0), (⟨(some 18), none, (.op (.nilck (.t 17)))⟩, 0), (⟨(some 19), none, (.op (.faddr 0 (.t 18)))⟩, 0), (⟨(some 20), none, (.op (.load none (.t 19)))⟩, 0), (⟨(some 22), none, (.op (.mv (.t 0)))⟩, 1), (⟨(some 23), none, (.op (.nilck (.t 22)))⟩, 1), (⟨(some 24), none, (.op (.faddr 3 (.t 23)))⟩, 1), (⟨(some 25), none, (.op (.load none (.t 24)))⟩, 1), (⟨(some 26), none, (.op (.mv (.t 0)))⟩, 1), (⟨(some 27), none, (.op (.nilck (.t 26)))⟩, 1), (⟨(some 28), none, (.op (.faddr 4 (.t 27)))⟩, 1), (⟨(some 29), none, (.op (.load none (.t 28)))⟩, 1)], none, some ⟨(some 21), none, (.call 107 [(.t 20)])⟩⟩,
    ⟨[], none, some ⟨(some 30), none, (.call 180 [(.t 21), (.t 25), (.t 29)])⟩⟩,
    ⟨[(⟨(some 16), none, (.op (.mv (.t 30)))⟩, 2), (⟨(some 31), none, (.op (.ext (.t 16) 0))⟩, 2), (⟨(some 32), none, (.op (.ext (.t 16) 1))⟩, 2), (⟨(some 5), none, (.op (.mv (.t 31)))⟩, 2), (⟨(some 6), none, (.op (.mv (.t 32)))⟩, 2)], none, none⟩]
def c138d0w : List (ROp × Bool) :=
  [(⟨(some 17), none, (.op (.mv (.t 0)))⟩, false), (⟨(some 18), none, (.op (.nilck (.t 17)))⟩, false), (⟨(some 19), none, (.op (.faddr 0 (.t 18)))⟩, false), (⟨(some 20), none, (.op (.load none (.t 19)))⟩, false), (⟨(some 22), none, (.op (.mv (.t 0)))⟩, false), (⟨(some 23), none, (.op (.nilck (.t 22)))⟩, false), (⟨(some 24), none, (.op (.faddr 3 (.t 23)))⟩, false), (⟨(some 25), none, (.op (.load none (.t 24)))⟩, false), (⟨(some 26), none, (.op (.mv (.t 0)))⟩, false), (⟨(some 27), none, (.op (.nilck (.t 26)))⟩, false), (⟨(some 28), none, (.op (.faddr 4 (.t 27)))⟩, false), (⟨(some 29), none, (.op (.load none (.t 28)))⟩, false), (⟨(some 21), none, (.call 107 [(.t 20)])⟩, true), (⟨(some 30), none, (.call 180 [(.t 21), (.t 25), (.t 29)])⟩, false), (⟨(some 16), none, (.op (.mv (.t 30)))⟩, false), (⟨(some 31), none, (.op (.ext (.t 16) 0))⟩, false), (⟨(some 32), none, (.op (.ext (.t 16) 1))⟩, false), (⟨(some 5), none, (.op (.mv (.t 31)))⟩, false), (⟨(some 6), none, (.op (.mv (.t 32)))⟩, false)]
theorem c138d0_w {P : Program} {O : Orc} {S0 : Mem} {rd : Bool} {e : Env} {S : Mem} {d : List Nat} {Q : Kont} : W P O S0 rd (.draw c138d0 []) e S d Q = wFl O c138d0w e S (normK Q d) := W_draw' (by kernel_rfl) (by kernel_rfl)
attribute [go_sem] c138d0_w c138d0w
def c138 : IFunc := ⟨1, [.tmp 2],
  .seq (.region [⟨(some 2), none, (.op (.mv (.c (.i .i64 0))))⟩])
   (.live [0] (.seq (.region [⟨(some 8), none, (.op (.mv (.t 0)))⟩,
    ⟨(some 9), none, (.op (.nilck (.t 8)))⟩,
    ⟨(some 10), none, (.op (.faddr 0 (.t 9)))⟩,
    ⟨(some 11), none, (.op (.load none (.t 10)))⟩,
    ⟨(some 12), none, (.call 107 [(.t 11)])⟩,
    ⟨(some 13), none, (.call 106 [(.t 12)])⟩,
    ⟨(some 7), none, (.op (.mv (.t 13)))⟩,
    ⟨(some 14), none, (.op (.ext (.t 7) 0))⟩,
    ⟨(some 15), none, (.op (.ext (.t 7) 1))⟩,
    ⟨(some 3), none, (.op (.mv (.t 14)))⟩,
    ⟨(some 4), none, (.op (.mv (.t 15)))⟩])
   (.live [0, 3] (.seq (.draw c138d0 [])
   (.live [0, 5, 3] (.seq (.region [⟨(some 33), none, (.op (.mv (.t 3)))⟩,
    ⟨(some 34), none, (.op (.mv (.t 5)))⟩,
    ⟨(some 35), none, (.op (.bin .int false .sub (.t 33) (.t 34)))⟩,
    ⟨(some 36), none, (.op (.bin .int true .mul (.t 35) (.c (.i .i64 16))))⟩,
    ⟨(some 37), none, (.op (.bin .int true .add (.t 36) (.c (.i .i64 16))))⟩,
    ⟨(some 38), none, (.op (.mv (.t 0)))⟩,
    ⟨(some 39), none, (.op (.nilck (.t 38)))⟩,
    ⟨(some 40), none, (.op (.faddr 5 (.t 39)))⟩,
    ⟨(some 41), none, (.op (.load none (.t 40)))⟩,
    ⟨(some 42), none, (.op (.bin .int false .sub (.t 37) (.t 41)))⟩,
    ⟨(some 2), none, (.op (.mv (.t 42)))⟩])
   (.ret))))))),
  []⟩


/- (*floodgate/disk.Disk).keep -/
def c139d0 : List Stage :=
  [⟨[(⟨(some 19), none, (.op (.mv (.t 0)))⟩, 0), (⟨(some 20), none, (.op (.nilck (.t 19)))⟩, 0), (⟨(some 21), none, (.op (.faddr 0 (.t 20)))⟩, 0), (⟨(some 22), none, (.op (.load none (.t 21)))⟩, 0), (⟨(some 23), none, (.op (.faddr 0 (.t 5)))⟩, 0), (⟨(some 24), none, (.op (.load none (.t 23)))⟩, 0), (⟨(some 25), none, (.op (.faddr 1 (.t 5)))⟩, 0), (⟨(some 26), none, (.op (.load (some 64) (.t 25)))⟩, 0), (⟨(some 27), none, (.op (.iaddr none 64 (.t 22) (.t 24)))⟩, 0)], none, some ⟨none, none, (.op (.store 64 (.t 27) (.t 26)))⟩⟩,
    ⟨[], none, none⟩]
def c139d0w : List (ROp × Bool) :=
  [(⟨(some 19), none, (.op (.mv (.t 0)))⟩, false), (⟨(some 20), none, (.op (.nilck (.t 19)))⟩, false), (⟨(some 21), none, (.op (.faddr 0 (.t 20)))⟩, false), (⟨(some 22), none, (.op (.load none (.t 21)))⟩, false), (⟨(some 23), none, (.op (.faddr 0 (.t 5)))⟩, false), (⟨(some 24), none, (.op (.load none (.t 23)))⟩, false), (⟨(some 25), none, (.op (.faddr 1 (.t 5)))⟩, false), (⟨(some 26), none, (.op (.load (some 64) (.t 25)))⟩, false), (⟨(some 27), none, (.op (.iaddr none 64 (.t 22) (.t 24)))⟩, false), (⟨none, none, (.op (.store 64 (.t 27) (.t 26)))⟩, false)]
theorem c139d0_w {P : Program} {O : Orc} {S0 : Mem} {rd : Bool} {e : Env} {S : Mem} {d : List Nat} {Q : Kont} : W P O S0 rd (.draw c139d0 []) e S d Q = wFl O c139d0w e S (normK Q d) := W_draw' (by kernel_rfl) (by kernel_rfl)
attribute [go_sem] c139d0_w c139d0w
def c139l1 : ICode :=
  .seq (.region [⟨(some 12), none, (.op (.bin .int false .lss (.t 11) (.t 10)))⟩])
   (.live [0, 1, 9, 10, 11, 12] (.seq (.cond (.t 12) (.skip)
   (.exit 0))
   (.live [0, 1, 9, 10, 11] (.seq (.block 1 (.seq (.region [⟨(some 13), none, (.op (.mv (.t 11)))⟩,
    ⟨(some 14), none, (.op (.iaddr none 65 (.t 9) (.t 11)))⟩,
    ⟨(some 15), none, (.op (.load (some 65) (.t 14)))⟩,
    ⟨(some 5), none, (.op (.fresh [(.i .i64 0), (.i .u8 0), (.i .u8 0), (.i .u8 0), (.i .u8 0), (.i .u8 0), (.i .u8 0), (.i .u8 0), (.i .u8 0), (.i .u8 0), (.i .u8 0), (.i .u8 0), (.i .u8 0), (.i .u8 0), (.i .u8 0), (.i .u8 0), (.i .u8 0), (.i .u8 0), (.i .u8 0), (.i .u8 0), (.i .u8 0), (.i .u8 0), (.i .u8 0), (.i .u8 0), (.i .u8 0), (.i .u8 0), (.i .u8 0), (.i .u8 0), (.i .u8 0), (.i .u8 0), (.i .u8 0), (.i .u8 0), (.i .u8 0), (.i .u8 0), (.i .u8 0), (.i .u8 0), (.i .u8 0), (.i .u8 0), (.i .u8 0), (.i .u8 0), (.i .u8 0), (.i .u8 0), (.i .u8 0), (.i .u8 0), (.i .u8 0), (.i .u8 0), (.i .u8 0), (.i .u8 0), (.i .u8 0), (.i .u8 0), (.i .u8 0), (.i .u8 0), (.i .u8 0), (.i .u8 0), (.i .u8 0), (.i .u8 0), (.i .u8 0), (.i .u8 0), (.i .u8 0), (.i .u8 0), (.i .u8 0), (.i .u8 0), (.i .u8 0), (.i .u8 0), (.i .u8 0)]))⟩,
    ⟨(some 4), none, (.op (.mv (.t 13)))⟩,
    ⟨none, none, (.op (.store 65 (.t 5) (.t 15)))⟩])
   (.live [0, 1, 9, 10, 11, 5, 4] (.seq (.region [⟨(some 16), none, (.op (.mv (.t 1)))⟩,
    ⟨(some 17), none, (.op (.mv (.t 4)))⟩,
    ⟨(some 18), none, (.callv (.t 16) [(.t 17)])⟩])
   (.live [0, 1, 9, 10, 11, 5, 18] (.cond (.t 18) (.draw c139d0 [])
   (.skip)))))))
   (.live [0, 1, 9, 10, 11] (.region [⟨(some 28), none, (.op (.bin .int true .add (.t 11) (.c (.i .i64 1))))⟩,
    ⟨(some 11), none, (.op (.mv (.t 28)))⟩]))))))
def c139 : IFunc := ⟨2, [],
  .seq (.seq (.region [⟨(some 6), none, (.op (.mv (.t 0)))⟩,
    ⟨(some 7), none, (.op (.nilck (.t 6)))⟩,
    ⟨(some 8), none, (.op (.faddr 1 (.t 7)))⟩,
    ⟨(some 9), none, (.op (.load none (.t 8)))⟩,
    ⟨(some 10), none, (.op (.len .slice (.t 9)))⟩,
    ⟨(some 11), none, (.op (.mv (.c (.i .i64 0))))⟩])
   (.live [0, 1, 9, 10, 11] (.block 0 (.loop [0, 1, 9, 10, 11] c139l1))))
   (.live [0] (.region [⟨(some 29), none, (.op (.mv (.t 0)))⟩,
    ⟨(some 30), none, (.op (.nilck (.t 29)))⟩,
    ⟨(some 31), none, (.op (.faddr 1 (.t 30)))⟩,
    ⟨none, none, (.op (.store 1 (.t 31) (.c .sn)))⟩])),
  []⟩


/- floodgate/sat.Log -/

def c148 : IFunc := ⟨1, [.tmp 2],
  .seq (.region [⟨(some 2), none, (.op (.mv (.c (.i .i64 0))))⟩])
   (.live [0] (.seq (.region [⟨(some 3), none, (.op (.mv (.t 0)))⟩,
    ⟨(some 4), none, (.call 194 [(.t 3)])⟩,
    ⟨(some 2), none, (.op (.mv (.t 4)))⟩])
   (.ret))),
  []⟩


/- floodgate/slot.Write -/
def c149l0 : ICode :=
  .seq (.region [⟨(some 34), none, (.op (.bin .int false .lss (.t 33) (.t 32)))⟩])
   (.live [8, 0, 31, 32, 33, 34] (.seq (.cond (.t 34) (.skip)
   (.exit 0))
   (.live [8, 0, 31, 32, 33] (.seq (.block 1 (.seq (.region [⟨(some 35), none, (.op (.mv (.t 33)))⟩,
    ⟨(some 36), none, (.op (.iaddr none 64 (.t 31) (.t 33)))⟩,
    ⟨(some 37), none, (.op (.load (some 64) (.t 36)))⟩,
    ⟨(some 10), none, (.op (.fresh [(.i .u8 0), (.i .u8 0), (.i .u8 0), (.i .u8 0), (.i .u8 0), (.i .u8 0), (.i .u8 0), (.i .u8 0), (.i .u8 0), (.i .u8 0), (.i .u8 0), (.i .u8 0), (.i .u8 0), (.i .u8 0), (.i .u8 0), (.i .u8 0), (.i .u8 0), (.i .u8 0), (.i .u8 0), (.i .u8 0), (.i .u8 0), (.i .u8 0), (.i .u8 0), (.i .u8 0), (.i .u8 0), (.i .u8 0), (.i .u8 0), (.i .u8 0), (.i .u8 0), (.i .u8 0), (.i .u8 0), (.i .u8 0), (.i .u8 0), (.i .u8 0), (.i .u8 0), (.i .u8 0), (.i .u8 0), (.i .u8 0), (.i .u8 0), (.i .u8 0), (.i .u8 0), (.i .u8 0), (.i .u8 0), (.i .u8 0), (.i .u8 0), (.i .u8 0), (.i .u8 0), (.i .u8 0), (.i .u8 0), (.i .u8 0), (.i .u8 0), (.i .u8 0), (.i .u8 0), (.i .u8 0), (.i .u8 0), (.i .u8 0), (.i .u8 0), (.i .u8 0), (.i .u8 0), (.i .u8 0), (.i .u8 0), (.i .u8 0), (.i .u8 0), (.i .u8 0)]))⟩,
    ⟨(some 9), none, (.op (.mv (.t 35)))⟩,
    ⟨none, none, (.op (.store 64 (.t 10) (.t 37)))⟩])
   (.live [8, 0, 31, 32, 33, 10, 9] (.seq (.region [⟨(some 38), none, (.op (.mv (.t 0)))⟩,
    ⟨(some 39), none, (.op (.mv (.t 8)))⟩,
    ⟨(some 40), none, (.op (.mv (.t 9)))⟩,
    ⟨(some 41), none, (.op (.bin .int false .add (.t 39) (.t 40)))⟩,
    ⟨(some 42), none, (.op (.load (some 64) (.t 10)))⟩,
    ⟨(some 43), none, (.call 171 [(.t 38), (.t 41), (.t 42)])⟩,
    ⟨(some 11), none, (.op (.mv (.t 43)))⟩])
   (.live [11, 8, 0, 31, 32, 33] (.seq (.region [⟨(some 44), none, (.op (.mv (.t 11)))⟩,
    ⟨(some 45), none, (.op (.bin .int true .neq (.t 44) (.c (.i .i64 0))))⟩])
   (.live [11, 8, 0, 31, 32, 33, 45] (.cond (.t 45) (.seq (.region [⟨(some 46), none, (.op (.mv (.t 11)))⟩,
    ⟨(some 4), none, (.op (.mv (.t 46)))⟩])
   (.ret))
   (.skip)))))))))
   (.live [8, 0, 31, 32, 33] (.region [⟨(some 47), none, (.op (.bin .int true .add (.t 33) (.c (.i .i64 1))))⟩,
    ⟨(some 33), none, (.op (.mv (.t 47)))⟩]))))))
def c149 : IFunc := ⟨2, [.tmp 4],
  .seq (.region [⟨(some 3), none, (.op (.box (.t 1)))⟩,
    ⟨(some 4), none, (.op (.mv (.c (.i .i64 0))))⟩])
   (.live [0, 3] (.seq (.region [⟨(some 13), none, (.op (.mv (.t 0)))⟩,
    ⟨(some 14), none, (.op (.load (some 6) (.t 3)))⟩,
    ⟨(some 15), none, (.call 195 [(.t 13), (.t 14)])⟩,
    ⟨(some 12), none, (.op (.mv (.t 15)))⟩,
    ⟨(some 16), none, (.op (.ext (.t 12) 0))⟩,
    ⟨(some 17), none, (.op (.ext (.t 12) 1))⟩,
    ⟨(some 5), none, (.op (.fresh [(.i .u64 0), (.i .u32 0), .sn]))⟩,
    ⟨none, none, (.op (.store 3 (.t 5) (.t 16)))⟩,
    ⟨(some 6), none, (.op (.mv (.t 17)))⟩])
   (.live [6, 0, 3, 5] (.seq (.seq (.region [⟨(some 18), none, (.op (.mv (.t 6)))⟩,
    ⟨(some 19), none, (.op (.bin .int true .neq (.t 18) (.c (.i .i64 0))))⟩])
   (.live [6, 0, 3, 5, 19] (.cond (.t 19) (.seq (.region [⟨(some 20), none, (.op (.mv (.t 6)))⟩,
    ⟨(some 4), none, (.op (.mv (.t 20)))⟩])
   (.ret))
   (.skip))))
   (.live [0, 3, 5] (.seq (.region [⟨(some 22), none, (.op (.load (some 3) (.t 5)))⟩,
    ⟨(some 23), none, (.call 168 [(.t 22)])⟩,
    ⟨(some 21), none, (.op (.mv (.t 23)))⟩,
    ⟨(some 24), none, (.op (.ext (.t 21) 0))⟩,
    ⟨(some 25), none, (.op (.ext (.t 21) 1))⟩,
    ⟨(some 7), none, (.op (.mv (.t 24)))⟩,
    ⟨(some 6), none, (.op (.mv (.t 25)))⟩])
   (.live [0, 7, 3, 6] (.seq (.seq (.region [⟨(some 26), none, (.op (.mv (.t 6)))⟩,
    ⟨(some 27), none, (.op (.bin .int true .neq (.t 26) (.c (.i .i64 0))))⟩])
   (.live [0, 7, 3, 27] (.cond (.t 27) (.seq (.region [⟨(some 4), none, (.op (.mv (.c (.i .i64 141))))⟩])
   (.ret))
   (.skip))))
   (.live [0, 7, 3] (.seq (.region [⟨(some 28), none, (.op (.faddr 0 (.t 3)))⟩,
    ⟨(some 29), none, (.op (.load none (.t 28)))⟩,
    ⟨(some 30), none, (.call 196 [(.t 29)])⟩,
    ⟨(some 8), none, (.op (.mv (.t 30)))⟩])
   (.live [8, 0, 7] (.seq (.seq (.region [⟨(some 31), none, (.op (.mv (.t 7)))⟩,
    ⟨(some 32), none, (.op (.len .slice (.t 31)))⟩,
    ⟨(some 33), none, (.op (.mv (.c (.i .i64 0))))⟩])
   (.live [8, 0, 31, 32, 33] (.block 0 (.loop [8, 0, 31, 32, 33] c149l0))))
   (.live [0] (.seq (.region [⟨(some 48), none, (.op (.mv (.t 0)))⟩,
    ⟨(some 49), none, (.call 172 [(.t 48)])⟩,
    ⟨(some 4), none, (.op (.mv (.t 49)))⟩])
   (.ret))))))))))))))),
  []⟩


/- floodgate/wal.Start -/

def c150 : IFunc := ⟨4, [.tmp 8, .tmp 9],
  .seq (.region [⟨(some 8), none, (.op (.mv (.c .pn)))⟩,
    ⟨(some 9), none, (.op (.mv (.c (.i .i64 0))))⟩])
   (.live [3, 2, 1, 0] (.seq (.seq (.region [⟨(some 13), none, (.op (.mv (.t 0)))⟩,
    ⟨(some 14), none, (.call 107 [(.t 13)])⟩,
    ⟨(some 15), none, (.op (.mv (.t 3)))⟩,
    ⟨(some 16), none, (.call 170 [(.t 14), (.t 15)])⟩,
    ⟨(some 12), none, (.op (.mv (.t 16)))⟩,
    ⟨(some 17), none, (.op (.ext (.t 12) 0))⟩,
    ⟨(some 18), none, (.op (.ext (.t 12) 1))⟩,
    ⟨(some 10), none, (.op (.mv (.t 17)))⟩,
    ⟨(some 11), none, (.op (.mv (.t 18)))⟩])
   (.live [11, 3, 2, 1, 0] (.seq (.region [⟨(some 19), none, (.op (.mv (.t 11)))⟩,
    ⟨(some 20), none, (.op (.bin .int true .neq (.t 19) (.c (.i .i64 0))))⟩])
   (.live [11, 3, 2, 1, 0, 20] (.cond (.t 20) (.seq (.region [⟨(some 21), none, (.op (.mv (.t 11)))⟩,
    ⟨(some 8), none, (.op (.mv (.c .pn)))⟩,
    ⟨(some 9), none, (.op (.mv (.t 21)))⟩])
   (.ret))
   (.skip))))))
   (.live [3, 2, 1, 0] (.seq (.seq (.region [⟨(some 22), none, (.op (.mv (.t 2)))⟩,
    ⟨(some 23), none, (.op (.bin .int true .eql (.t 22) (.c (.i .u64 0))))⟩])
   (.live [3, 2, 1, 0, 23] (.cond (.t 23) (.seq (.region [⟨(some 8), none, (.op (.mv (.c .pn)))⟩,
    ⟨(some 9), none, (.op (.mv (.c (.i .i64 81))))⟩])
   (.ret))
   (.skip))))
   (.live [3, 2, 1, 0] (.seq (.region [⟨(some 24), none, (.op (.mv (.t 0)))⟩,
    ⟨(some 25), none, (.op (.mv (.t 1)))⟩,
    ⟨(some 26), none, (.op (.mv (.t 2)))⟩,
    ⟨(some 27), none, (.op (.mv (.t 3)))⟩,
    ⟨(some 28), none, (.op (.mv (.t 3)))⟩,
    ⟨(some 29), none, (.op (.build [.pn, (.i .u32 0), (.i .u64 0), (.i .i64 0), (.i .i64 0), (.i .i64 0)] [(0, 1, (.t 24)), (1, 1, (.t 25)), (2, 1, (.t 26)), (3, 1, (.t 27)), (4, 1, (.t 28))]))⟩,
    ⟨(some 30), none, (.op (.box (.t 29)))⟩,
    ⟨(some 8), none, (.op (.mv (.t 30)))⟩,
    ⟨(some 9), none, (.op (.mv (.c (.i .i64 0))))⟩])
   (.ret))))))),
  []⟩


/- floodgate/book.Right -/

def c161 : IFunc := ⟨1, [.tmp 2],
  .seq (.region [⟨(some 1), none, (.op (.box (.t 0)))⟩,
    ⟨(some 2), none, (.op (.mv (.c (.b false))))⟩])
   (.live [1] (.seq (.seq (.region [⟨(some 3), none, (.op (.faddr 0 (.t 1)))⟩,
    ⟨(some 4), none, (.op (.load none (.t 3)))⟩,
    ⟨(some 5), none, (.op (.bin .int true .lss (.t 4) (.c (.i .u64 1))))⟩,
    ⟨(some 6), none, (.op (.mv (.t 5)))⟩,
    ⟨(some 7), some (6, false), (.op (.faddr 0 (.t 1)))⟩,
    ⟨(some 8), some (6, false), (.op (.load none (.t 7)))⟩,
    ⟨(some 9), some (6, false), (.op (.bin .int true .gtr (.t 8) (.c (.i .u64 281474976710656))))⟩,
    ⟨(some 10), none, (.op (.pick (.t 6) (.c (.b true)) (.t 9)))⟩,
    ⟨(some 11), none, (.op (.mv (.t 10)))⟩,
    ⟨(some 12), some (11, false), (.op (.faddr 1 (.t 1)))⟩,
    ⟨(some 13), some (11, false), (.op (.load none (.t 12)))⟩,
    ⟨(some 14), some (11, false), (.op (.len .slice (.t 13)))⟩,
    ⟨(some 15), some (11, false), (.op (.bin .int true .gtr (.t 14) (.c (.i .i64 8))))⟩,
    ⟨(some 16), none, (.op (.pick (.t 11) (.c (.b true)) (.t 15)))⟩,
    ⟨(some 17), none, (.op (.mv (.t 16)))⟩,
    ⟨(some 18), some (17, false), (.op (.faddr 1 (.t 1)))⟩,
    ⟨(some 19), some (17, false), (.op (.load none (.t 18)))⟩,
    ⟨(some 20), some (17, false), (.call 201 [(.t 19)])⟩,
    ⟨(some 21), some (17, false), (.call 200 [(.t 20)])⟩,
    ⟨(some 22), some (17, false), (.op (.bin .int true .neq (.t 21) (.c (.i .i64 0))))⟩,
    ⟨(some 23), none, (.op (.pick (.t 17) (.c (.b true)) (.t 22)))⟩])
   (.live [1, 23] (.cond (.t 23) (.seq (.region [⟨(some 2), none, (.op (.mv (.c (.b false))))⟩])
   (.ret))
   (.skip))))
   (.live [1] (.seq (.region [⟨(some 24), none, (.op (.faddr 1 (.t 1)))⟩,
    ⟨(some 25), none, (.op (.load none (.t 24)))⟩,
    ⟨(some 26), none, (.call 202 [(.t 25), (.c (.f (.func 203) [] []))])⟩,
    ⟨(some 27), none, (.op (.un .not (.t 26)))⟩,
    ⟨(some 2), none, (.op (.mv (.t 27)))⟩])
   (.ret))))),
  []⟩


/- floodgate/frame.Make -/
def c168d0 : List Stage :=
  [⟨[(⟨(some 19), none, (.op (.faddr 2 (.t 1)))⟩, 0), (⟨(some 20), none, (.op (.load none (.t 19)))⟩, 0), (⟨(some 21), none, (.op (.len .slice (.t 20)))⟩, 0), (⟨(some 22), none, (.op (.toInt .u64 (.t 21)))⟩, 0), (⟨(some 24), none, (.op (.faddr 0 (.t 1)))⟩, 1), (⟨(some 25), none, (.op (.load none (.t 24)))⟩, 1), (⟨(some 27), none, (.op (.faddr 1 (.t 1)))⟩, 2), (⟨(some 28), none, (.op (.load none (.t 27)))⟩, 2), (⟨(some 29), none, (.op (.toInt .u64 (.t 28)))⟩, 2), (⟨(some 31), none, (.op (.faddr 2 (.t 1)))⟩, 3), (⟨(some 32), none, (.op (.load none (.t 31)))⟩, 3)], none, some ⟨(some 23), none, (.call 215 [(.t 22), (.c (.i .i64 2))])⟩⟩,
    ⟨[], none, some ⟨(some 26), none, (.call 215 [(.t 25), (.c (.i .i64 8))])⟩⟩,
    ⟨[], none, some ⟨(some 30), none, (.call 215 [(.t 29), (.c (.i .i64 4))])⟩⟩,
    ⟨[], none, some ⟨(some 33), none, (.op (.bslice [.sn] 4 [(0, 1, (.t 23)), (1, 1, (.t 26)), (2, 1, (.t 30)), (3, 1, (.t 32))]))⟩⟩,
    ⟨[], none, some ⟨(some 34), none, (.call 42 [(.t 33)])⟩⟩,
    ⟨[], none, some ⟨(some 35), none, (.call 214 [(.t 34)])⟩⟩,
    ⟨[(⟨(some 5), none, (.op (.mv (.t 35)))⟩, 6)], none, none⟩]
def c168d0w : List (ROp × Bool) :=
  [(⟨(some 19), none, (.op (.faddr 2 (.t 1)))⟩, false), (⟨(some 20), none, (.op (.load none (.t 19)))⟩, false), (⟨(some 21), none, (.op (.len .slice (.t 20)))⟩, false), (⟨(some 22), none, (.op (.toInt .u64 (.t 21)))⟩, false), (⟨(some 24), none, (.op (.faddr 0 (.t 1)))⟩, false), (⟨(some 25), none, (.op (.load none (.t 24)))⟩, false), (⟨(some 27), none, (.op (.faddr 1 (.t 1)))⟩, false), (⟨(some 28), none, (.op (.load none (.t 27)))⟩, false), (⟨(some 29), none, (.op (.toInt .u64 (.t 28)))⟩, false), (⟨(some 31), none, (.op (.faddr 2 (.t 1)))⟩, false), (⟨(some 32), none, (.op (.load none (.t 31)))⟩, false), (⟨(some 23), none, (.call 215 [(.t 22), (.c (.i .i64 2))])⟩, true), (⟨(some 26), none, (.call 215 [(.t 25), (.c (.i .i64 8))])⟩, true), (⟨(some 30), none, (.call 215 [(.t 29), (.c (.i .i64 4))])⟩, true), (⟨(some 33), none, (.op (.bslice [.sn] 4 [(0, 1, (.t 23)), (1, 1, (.t 26)), (2, 1, (.t 30)), (3, 1, (.t 32))]))⟩, false), (⟨(some 34), none, (.call 42 [(.t 33)])⟩, false), (⟨(some 35), none, (.call 214 [(.t 34)])⟩, false), (⟨(some 5), none, (.op (.mv (.t 35)))⟩, false)]
theorem c168d0_w {P : Program} {O : Orc} {S0 : Mem} {rd : Bool} {e : Env} {S : Mem} {d : List Nat} {Q : Kont} : W P O S0 rd (.draw c168d0 []) e S d Q = wFl O c168d0w e S (normK Q d) := W_draw' (by kernel_rfl) (by kernel_rfl)
attribute [go_sem] c168d0_w c168d0w
def c168d1 : List Stage :=
  [⟨[(⟨(some 43), none, (.op (.mv (.t 6)))⟩, 0), (⟨(some 44), none, (.op (.mv (.t 7)))⟩, 0), (⟨(some 45), none, (.op (.iaddr none 64 (.t 43) (.t 44)))⟩, 0), (⟨(some 46), none, (.op (.sla 64 1 (.t 45) none none none))⟩, 0), (⟨(some 47), none, (.op (.mv (.t 5)))⟩, 0), (⟨(some 48), none, (.op (.mv (.t 7)))⟩, 0), (⟨(some 49), none, (.op (.bin .int true .mul (.t 48) (.c (.i .i64 64))))⟩, 0), (⟨(some 50), none, (.op (.slice 1 (.t 47) (some (.t 49)) none none))⟩, 0)], none, some ⟨(some 51), none, (.op (.copy 1 (.t 46) (.t 50)))⟩⟩,
    ⟨[], none, none⟩]
def c168d1w : List (ROp × Bool) :=
  [(⟨(some 43), none, (.op (.mv (.t 6)))⟩, false), (⟨(some 44), none, (.op (.mv (.t 7)))⟩, false), (⟨(some 45), none, (.op (.iaddr none 64 (.t 43) (.t 44)))⟩, false), (⟨(some 46), none, (.op (.sla 64 1 (.t 45) none none none))⟩, false), (⟨(some 47), none, (.op (.mv (.t 5)))⟩, false), (⟨(some 48), none, (.op (.mv (.t 7)))⟩, false), (⟨(some 49), none, (.op (.bin .int true .mul (.t 48) (.c (.i .i64 64))))⟩, false), (⟨(some 50), none, (.op (.slice 1 (.t 47) (some (.t 49)) none none))⟩, false), (⟨(some 51), none, (.op (.copy 1 (.t 46) (.t 50)))⟩, false)]
theorem c168d1_w {P : Program} {O : Orc} {S0 : Mem} {rd : Bool} {e : Env} {S : Mem} {d : List Nat} {Q : Kont} : W P O S0 rd (.draw c168d1 []) e S d Q = wFl O c168d1w e S (normK Q d) := W_draw' (by kernel_rfl) (by kernel_rfl)
attribute [go_sem] c168d1_w c168d1w
def c168l2 : ICode :=
  .seq (.region [⟨(some 41), none, (.op (.bin .int false .lss (.t 40) (.t 39)))⟩])
   (.live [6, 5, 39, 40, 41] (.seq (.cond (.t 41) (.skip)
   (.exit 0))
   (.live [6, 5, 39, 40] (.seq (.block 1 (.seq (.region [⟨(some 42), none, (.op (.mv (.t 40)))⟩,
    ⟨(some 7), none, (.op (.mv (.t 42)))⟩])
   (.live [6, 5, 39, 40, 7] (.draw c168d1 []))))
   (.live [6, 5, 39, 40] (.region [⟨(some 52), none, (.op (.bin .int true .add (.t 40) (.c (.i .i64 1))))⟩,
    ⟨(some 40), none, (.op (.mv (.t 52)))⟩]))))))
def c168 : IFunc := ⟨1, [.tmp 2, .tmp 3],
  .seq (.region [⟨(some 1), none, (.op (.box (.t 0)))⟩,
    ⟨(some 2), none, (.op (.mv (.c .sn)))⟩,
    ⟨(some 3), none, (.op (.mv (.c (.i .i64 0))))⟩])
   (.live [1] (.seq (.region [⟨(some 8), none, (.op (.faddr 2 (.t 1)))⟩,
    ⟨(some 9), none, (.op (.load none (.t 8)))⟩,
    ⟨(some 10), none, (.op (.len .slice (.t 9)))⟩,
    ⟨(some 11), none, (.call 213 [(.t 10)])⟩,
    ⟨(some 4), none, (.op (.mv (.t 11)))⟩])
   (.live [4, 1] (.seq (.seq (.region [⟨(some 12), none, (.op (.mv (.t 4)))⟩,
    ⟨(some 13), none, (.op (.bin .int true .eql (.t 12) (.c (.i .i64 0))))⟩,
    ⟨(some 14), none, (.op (.mv (.t 13)))⟩,
    ⟨(some 15), some (14, false), (.op (.faddr 0 (.t 1)))⟩,
    ⟨(some 16), some (14, false), (.op (.load none (.t 15)))⟩,
    ⟨(some 17), some (14, false), (.op (.bin .int true .eql (.t 16) (.c (.i .u64 0))))⟩,
    ⟨(some 18), none, (.op (.pick (.t 14) (.c (.b true)) (.t 17)))⟩])
   (.live [4, 1, 18] (.cond (.t 18) (.seq (.region [⟨(some 2), none, (.op (.mv (.c .sn)))⟩,
    ⟨(some 3), none, (.op (.mv (.c (.i .i64 81))))⟩])
   (.ret))
   (.skip))))
   (.live [4, 1] (.seq (.draw c168d0 [])
   (.live [5, 4] (.seq (.region [⟨(some 36), none, (.op (.mv (.t 4)))⟩,
    ⟨(some 37), none, (.op (.mks [(.i .u8 0), (.i .u8 0), (.i .u8 0), (.i .u8 0), (.i .u8 0), (.i .u8 0), (.i .u8 0), (.i .u8 0), (.i .u8 0), (.i .u8 0), (.i .u8 0), (.i .u8 0), (.i .u8 0), (.i .u8 0), (.i .u8 0), (.i .u8 0), (.i .u8 0), (.i .u8 0), (.i .u8 0), (.i .u8 0), (.i .u8 0), (.i .u8 0), (.i .u8 0), (.i .u8 0), (.i .u8 0), (.i .u8 0), (.i .u8 0), (.i .u8 0), (.i .u8 0), (.i .u8 0), (.i .u8 0), (.i .u8 0), (.i .u8 0), (.i .u8 0), (.i .u8 0), (.i .u8 0), (.i .u8 0), (.i .u8 0), (.i .u8 0), (.i .u8 0), (.i .u8 0), (.i .u8 0), (.i .u8 0), (.i .u8 0), (.i .u8 0), (.i .u8 0), (.i .u8 0), (.i .u8 0), (.i .u8 0), (.i .u8 0), (.i .u8 0), (.i .u8 0), (.i .u8 0), (.i .u8 0), (.i .u8 0), (.i .u8 0), (.i .u8 0), (.i .u8 0), (.i .u8 0), (.i .u8 0), (.i .u8 0), (.i .u8 0), (.i .u8 0), (.i .u8 0)] 64 (.t 36) (.t 36)))⟩,
    ⟨(some 6), none, (.op (.mv (.t 37)))⟩])
   (.live [6, 5] (.seq (.seq (.region [⟨(some 38), none, (.op (.mv (.t 6)))⟩,
    ⟨(some 39), none, (.op (.len .slice (.t 38)))⟩,
    ⟨(some 40), none, (.op (.mv (.c (.i .i64 0))))⟩])
   (.live [6, 5, 39, 40] (.block 0 (.loop [6, 5, 39, 40] c168l2))))
   (.live [6] (.seq (.region [⟨(some 53), none, (.op (.mv (.t 6)))⟩,
    ⟨(some 2), none, (.op (.mv (.t 53)))⟩,
    ⟨(some 3), none, (.op (.mv (.c (.i .i64 0))))⟩])
   (.ret))))))))))))),
  []⟩


/- floodgate/area.Seg -/

def c170 : IFunc := ⟨2, [.tmp 4, .tmp 5],
  .seq (.region [⟨(some 4), none, (.op (.mv (.c (.i .i64 0))))⟩,
    ⟨(some 5), none, (.op (.mv (.c (.i .i64 0))))⟩])
   (.live [1, 0] (.seq (.seq (.region [⟨(some 9), none, (.op (.mv (.t 0)))⟩,
    ⟨(some 10), none, (.op (.mv (.t 1)))⟩,
    ⟨(some 11), none, (.op (.bslice [(.i .i64 0)] 1 [(0, 1, (.t 10))]))⟩,
    ⟨(some 12), none, (.call 217 [(.t 9), (.t 11)])⟩,
    ⟨(some 8), none, (.op (.mv (.t 12)))⟩,
    ⟨(some 13), none, (.op (.ext (.t 8) 0))⟩,
    ⟨(some 14), none, (.op (.ext (.t 8) 1))⟩,
    ⟨(some 6), none, (.op (.mv (.t 13)))⟩,
    ⟨(some 7), none, (.op (.mv (.t 14)))⟩])
   (.live [7, 1] (.seq (.region [⟨(some 15), none, (.op (.mv (.t 7)))⟩,
    ⟨(some 16), none, (.op (.bin .int true .neq (.t 15) (.c (.i .i64 0))))⟩])
   (.live [7, 1, 16] (.cond (.t 16) (.seq (.region [⟨(some 17), none, (.op (.mv (.t 7)))⟩,
    ⟨(some 4), none, (.op (.mv (.c (.i .i64 0))))⟩,
    ⟨(some 5), none, (.op (.mv (.t 17)))⟩])
   (.ret))
   (.skip))))))
   (.live [1] (.seq (.region [⟨(some 18), none, (.op (.mv (.t 1)))⟩,
    ⟨(some 19), none, (.op (.bin .int true .mul (.t 18) (.c (.i .i64 16))))⟩,
    ⟨(some 20), none, (.op (.bin .int true .add (.c (.i .i64 32)) (.t 19)))⟩,
    ⟨(some 4), none, (.op (.mv (.t 20)))⟩,
    ⟨(some 5), none, (.op (.mv (.c (.i .i64 0))))⟩])
   (.ret))))),
  []⟩


/- (*floodgate/disk.Disk).Write -/
def c171d0 : List Stage :=
  [⟨[(⟨(some 16), none, (.op (.mv (.t 0)))⟩, 2), (⟨(some 17), none, (.op (.mv (.t 0)))⟩, 1), (⟨(some 18), none, (.op (.nilck (.t 17)))⟩, 1), (⟨(some 19), none, (.op (.faddr 1 (.t 18)))⟩, 1), (⟨(some 20), none, (.op (.load none (.t 19)))⟩, 1), (⟨(some 21), none, (.op (.mv (.t 1)))⟩, 0), (⟨(some 22), none, (.op (.load (some 64) (.t 5)))⟩, 0), (⟨(some 23), none, (.op (.build [(.i .i64 0), (.i .u8 0), (.i .u8 0), (.i .u8 0), (.i .u8 0), (.i .u8 0), (.i .u8 0), (.i .u8 0), (.i .u8 0), (.i .u8 0), (.i .u8 0), (.i .u8 0), (.i .u8 0), (.i .u8 0), (.i .u8 0), (.i .u8 0), (.i .u8 0), (.i .u8 0), (.i .u8 0), (.i .u8 0), (.i .u8 0), (.i .u8 0), (.i .u8 0), (.i .u8 0), (.i .u8 0), (.i .u8 0), (.i .u8 0), (.i .u8 0), (.i .u8 0), (.i .u8 0), (.i .u8 0), (.i .u8 0), (.i .u8 0), (.i .u8 0), (.i .u8 0), (.i .u8 0), (.i .u8 0), (.i .u8 0), (.i .u8 0), (.i .u8 0), (.i .u8 0), (.i .u8 0), (.i .u8 0), (.i .u8 0), (.i .u8 0), (.i .u8 0), (.i .u8 0), (.i .u8 0), (.i .u8 0), (.i .u8 0), (.i .u8 0), (.i .u8 0), (.i .u8 0), (.i .u8 0), (.i .u8 0), (.i .u8 0), (.i .u8 0), (.i .u8 0), (.i .u8 0), (.i .u8 0), (.i .u8 0), (.i .u8 0), (.i .u8 0), (.i .u8 0), (.i .u8 0)] [(0, 1, (.t 21)), (1, 64, (.t 22))]))⟩, 0)], none, some ⟨(some 24), none, (.op (.bslice [(.i .i64 0), (.i .u8 0), (.i .u8 0), (.i .u8 0), (.i .u8 0), (.i .u8 0), (.i .u8 0), (.i .u8 0), (.i .u8 0), (.i .u8 0), (.i .u8 0), (.i .u8 0), (.i .u8 0), (.i .u8 0), (.i .u8 0), (.i .u8 0), (.i .u8 0), (.i .u8 0), (.i .u8 0), (.i .u8 0), (.i .u8 0), (.i .u8 0), (.i .u8 0), (.i .u8 0), (.i .u8 0), (.i .u8 0), (.i .u8 0), (.i .u8 0), (.i .u8 0), (.i .u8 0), (.i .u8 0), (.i .u8 0), (.i .u8 0), (.i .u8 0), (.i .u8 0), (.i .u8 0), (.i .u8 0), (.i .u8 0), (.i .u8 0), (.i .u8 0), (.i .u8 0), (.i .u8 0), (.i .u8 0), (.i .u8 0), (.i .u8 0), (.i .u8 0), (.i .u8 0), (.i .u8 0), (.i .u8 0), (.i .u8 0), (.i .u8 0), (.i .u8 0), (.i .u8 0), (.i .u8 0), (.i .u8 0), (.i .u8 0), (.i .u8 0), (.i .u8 0), (.i .u8 0), (.i .u8 0), (.i .u8 0), (.i .u8 0), (.i .u8 0), (.i .u8 0), (.i .u8 0)] 1 [(0, 65, (.t 23))]))⟩⟩,
    ⟨[], none, some ⟨(some 25), none, (.op (.app 65 72 (.t 20) (.t 24)))⟩⟩,
    ⟨[(⟨(some 26), none, (.op (.nilck (.t 16)))⟩, 2), (⟨(some 27), none, (.op (.faddr 1 (.t 26)))⟩, 2)], none, some ⟨none, none, (.op (.store 1 (.t 27) (.t 25)))⟩⟩,
    ⟨[], none, none⟩]
def c171d0w : List (ROp × Bool) :=
  [(⟨(some 16), none, (.op (.mv (.t 0)))⟩, false), (⟨(some 17), none, (.op (.mv (.t 0)))⟩, false), (⟨(some 18), none, (.op (.nilck (.t 17)))⟩, false), (⟨(some 19), none, (.op (.faddr 1 (.t 18)))⟩, false), (⟨(some 20), none, (.op (.load none (.t 19)))⟩, false), (⟨(some 21), none, (.op (.mv (.t 1)))⟩, false), (⟨(some 22), none, (.op (.load (some 64) (.t 5)))⟩, false), (⟨(some 23), none, (.op (.build [(.i .i64 0), (.i .u8 0), (.i .u8 0), (.i .u8 0), (.i .u8 0), (.i .u8 0), (.i .u8 0), (.i .u8 0), (.i .u8 0), (.i .u8 0), (.i .u8 0), (.i .u8 0), (.i .u8 0), (.i .u8 0), (.i .u8 0), (.i .u8 0), (.i .u8 0), (.i .u8 0), (.i .u8 0), (.i .u8 0), (.i .u8 0), (.i .u8 0), (.i .u8 0), (.i .u8 0), (.i .u8 0), (.i .u8 0), (.i .u8 0), (.i .u8 0), (.i .u8 0), (.i .u8 0), (.i .u8 0), (.i .u8 0), (.i .u8 0), (.i .u8 0), (.i .u8 0), (.i .u8 0), (.i .u8 0), (.i .u8 0), (.i .u8 0), (.i .u8 0), (.i .u8 0), (.i .u8 0), (.i .u8 0), (.i .u8 0), (.i .u8 0), (.i .u8 0), (.i .u8 0), (.i .u8 0), (.i .u8 0), (.i .u8 0), (.i .u8 0), (.i .u8 0), (.i .u8 0), (.i .u8 0), (.i .u8 0), (.i .u8 0), (.i .u8 0), (.i .u8 0), (.i .u8 0), (.i .u8 0), (.i .u8 0), (.i .u8 0), (.i .u8 0), (.i .u8 0), (.i .u8 0)] [(0, 1, (.t 21)), (1, 64, (.t 22))]))⟩, false), (⟨(some 24), none, (.op (.bslice [(.i .i64 0), (.i .u8 0), (.i .u8 0), (.i .u8 0), (.i .u8 0), (.i .u8 0), (.i .u8 0), (.i .u8 0), (.i .u8 0), (.i .u8 0), (.i .u8 0), (.i .u8 0), (.i .u8 0), (.i .u8 0), (.i .u8 0), (.i .u8 0), (.i .u8 0), (.i .u8 0), (.i .u8 0), (.i .u8 0), (.i .u8 0), (.i .u8 0), (.i .u8 0), (.i .u8 0), (.i .u8 0), (.i .u8 0), (.i .u8 0), (.i .u8 0), (.i .u8 0), (.i .u8 0), (.i .u8 0), (.i .u8 0), (.i .u8 0), (.i .u8 0), (.i .u8 0), (.i .u8 0), (.i .u8 0), (.i .u8 0), (.i .u8 0), (.i .u8 0), (.i .u8 0), (.i .u8 0), (.i .u8 0), (.i .u8 0), (.i .u8 0), (.i .u8 0), (.i .u8 0), (.i .u8 0), (.i .u8 0), (.i .u8 0), (.i .u8 0), (.i .u8 0), (.i .u8 0), (.i .u8 0), (.i .u8 0), (.i .u8 0), (.i .u8 0), (.i .u8 0), (.i .u8 0), (.i .u8 0), (.i .u8 0), (.i .u8 0), (.i .u8 0), (.i .u8 0), (.i .u8 0)] 1 [(0, 65, (.t 23))]))⟩, true), (⟨(some 25), none, (.op (.app 65 72 (.t 20) (.t 24)))⟩, false), (⟨(some 26), none, (.op (.nilck (.t 16)))⟩, false), (⟨(some 27), none, (.op (.faddr 1 (.t 26)))⟩, false), (⟨none, none, (.op (.store 1 (.t 27) (.t 25)))⟩, false)]
theorem c171d0_w {P : Program} {O : Orc} {S0 : Mem} {rd : Bool} {e : Env} {S : Mem} {d : List Nat} {Q : Kont} : W P O S0 rd (.draw c171d0 []) e S d Q = wFl O c171d0w e S (normK Q d) := W_draw' (by kernel_rfl) (by kernel_rfl)
attribute [go_sem] c171d0_w c171d0w
def c171 : IFunc := ⟨3, [.tmp 6],
  .seq (.region [⟨(some 5), none, (.op (.box (.t 2)))⟩,
    ⟨(some 6), none, (.op (.mv (.c (.i .i64 0))))⟩])
   (.live [0, 1, 5] (.seq (.seq (.region [⟨(some 8), none, (.op (.mv (.t 0)))⟩,
    ⟨(some 9), none, (.op (.mv (.t 1)))⟩,
    ⟨(some 10), none, (.call 218 [(.t 8), (.t 9)])⟩,
    ⟨(some 11), none, (.op (.un .not (.t 10)))⟩])
   (.live [0, 1, 5, 11] (.cond (.t 11) (.seq (.region [⟨(some 6), none, (.op (.mv (.c (.i .i64 71))))⟩])
   (.ret))
   (.skip))))
   (.live [0, 1, 5] (.seq (.region [⟨(some 12), none, (.op (.mv (.t 0)))⟩,
    ⟨(some 13), none, (.call 219 [(.t 12)])⟩,
    ⟨(some 7), none, (.op (.mv (.t 13)))⟩])
   (.live [7, 0, 1, 5] (.seq (.seq (.region [⟨(some 14), none, (.op (.mv (.t 7)))⟩,
    ⟨(some 15), none, (.op (.bin .int true .eql (.t 14) (.c (.i .i64 0))))⟩])
   (.live [7, 0, 1, 5, 15] (.cond (.t 15) (.draw c171d0 [])
   (.skip))))
   (.live [7] (.seq (.region [⟨(some 28), none, (.op (.mv (.t 7)))⟩,
    ⟨(some 6), none, (.op (.mv (.t 28)))⟩])
   (.ret))))))))),
  []⟩


/- (*floodgate/disk.Disk).Sync -/

def c172 : IFunc := ⟨1, [.tmp 2],
  .seq (.region [⟨(some 2), none, (.op (.mv (.c (.i .i64 0))))⟩])
   (.live [0] (.seq (.region [⟨(some 4), none, (.op (.mv (.t 0)))⟩,
    ⟨(some 5), none, (.call 219 [(.t 4)])⟩,
    ⟨(some 3), none, (.op (.mv (.t 5)))⟩])
   (.live [3, 0] (.seq (.seq (.region [⟨(some 6), none, (.op (.mv (.t 3)))⟩,
    ⟨(some 7), none, (.op (.bin .int true .eql (.t 6) (.c (.i .i64 0))))⟩])
   (.live [3, 0, 7] (.cond (.t 7) (.region [⟨(some 8), none, (.op (.mv (.t 0)))⟩,
    ⟨(some 9), none, (.call 139 [(.t 8), (.c (.f (.func 220) [] []))])⟩])
   (.skip))))
   (.live [3] (.seq (.region [⟨(some 10), none, (.op (.mv (.t 3)))⟩,
    ⟨(some 2), none, (.op (.mv (.t 10)))⟩])
   (.ret))))))),
  []⟩


/- floodgate/area.Used -/

def c180 : IFunc := ⟨3, [.tmp 6, .tmp 7],
  .seq (.region [⟨(some 6), none, (.op (.mv (.c (.i .i64 0))))⟩,
    ⟨(some 7), none, (.op (.mv (.c (.i .i64 0))))⟩])
   (.live [1, 2, 0] (.seq (.region [⟨(some 11), none, (.op (.mv (.t 0)))⟩,
    ⟨(some 12), none, (.op (.mv (.t 1)))⟩,
    ⟨(some 13), none, (.op (.mv (.t 2)))⟩,
    ⟨(some 14), none, (.op (.bslice [(.i .i64 0)] 2 [(0, 1, (.t 12)), (1, 1, (.t 13))]))⟩,
    ⟨(some 15), none, (.call 217 [(.t 11), (.t 14)])⟩,
    ⟨(some 10), none, (.op (.mv (.t 15)))⟩,
    ⟨(some 16), none, (.op (.ext (.t 10) 0))⟩,
    ⟨(some 17), none, (.op (.ext (.t 10) 1))⟩,
    ⟨(some 8), none, (.op (.mv (.t 16)))⟩,
    ⟨(some 9), none, (.op (.mv (.t 17)))⟩])
   (.live [9, 8, 1, 2] (.seq (.seq (.region [⟨(some 18), none, (.op (.mv (.t 9)))⟩,
    ⟨(some 19), none, (.op (.bin .int true .neq (.t 18) (.c (.i .i64 0))))⟩])
   (.live [9, 8, 1, 2, 19] (.cond (.t 19) (.seq (.region [⟨(some 20), none, (.op (.mv (.t 9)))⟩,
    ⟨(some 6), none, (.op (.mv (.c (.i .i64 0))))⟩,
    ⟨(some 7), none, (.op (.mv (.t 20)))⟩])
   (.ret))
   (.skip))))
   (.live [8, 1, 2] (.seq (.region [⟨(some 21), none, (.op (.mv (.t 2)))⟩,
    ⟨(some 22), none, (.op (.mv (.t 1)))⟩,
    ⟨(some 23), none, (.op (.bin .int false .sub (.t 21) (.t 22)))⟩,
    ⟨(some 24), none, (.op (.mv (.t 8)))⟩,
    ⟨(some 25), none, (.op (.bin .int false .add (.t 23) (.t 24)))⟩,
    ⟨(some 26), none, (.op (.mv (.t 8)))⟩,
    ⟨(some 27), none, (.op (.bin .int false .rem (.t 25) (.t 26)))⟩,
    ⟨(some 28), none, (.op (.bin .int true .add (.t 27) (.c (.i .i64 1))))⟩,
    ⟨(some 6), none, (.op (.mv (.t 28)))⟩,
    ⟨(some 7), none, (.op (.mv (.c (.i .i64 0))))⟩])
   (.ret))))))),
  []⟩


/- math/bits.Len64 -/

def c194 : IFunc := ⟨1, [.tmp 2],
  .seq (.region [⟨(some 2), none, (.op (.mv (.c (.i .i64 0))))⟩])
   (.live [0, 2] (.seq (.seq (.region [⟨(some 3), none, (.op (.mv (.t 0)))⟩,
    ⟨(some 4), none, (.op (.bin .int true .geq (.t 3) (.c (.i .u64 4294967296))))⟩])
   (.live [0, 2, 4] (.cond (.t 4) (.seq (.region [⟨(some 5), none, (.op (.mv (.t 0)))⟩,
    ⟨(some 6), none, (.op (.bin .int true .shr (.t 5) (.c (.i .u64 32))))⟩,
    ⟨(some 0), none, (.op (.mv (.t 6)))⟩])
   (.region [⟨(some 2), none, (.op (.mv (.c (.i .i64 32))))⟩]))
   (.skip))))
   (.live [2, 0] (.seq (.seq (.region [⟨(some 7), none, (.op (.mv (.t 0)))⟩,
    ⟨(some 8), none, (.op (.bin .int true .geq (.t 7) (.c (.i .u64 65536))))⟩])
   (.live [2, 0, 8] (.cond (.t 8) (.seq (.region [⟨(some 9), none, (.op (.mv (.t 0)))⟩,
    ⟨(some 10), none, (.op (.bin .int true .shr (.t 9) (.c (.i .u64 16))))⟩,
    ⟨(some 0), none, (.op (.mv (.t 10)))⟩])
   (.live [0, 2] (.region [⟨(some 11), none, (.op (.mv (.t 2)))⟩,
    ⟨(some 12), none, (.op (.bin .int true .add (.t 11) (.c (.i .i64 16))))⟩,
    ⟨(some 2), none, (.op (.mv (.t 12)))⟩])))
   (.skip))))
   (.live [2, 0] (.seq (.seq (.region [⟨(some 13), none, (.op (.mv (.t 0)))⟩,
    ⟨(some 14), none, (.op (.bin .int true .geq (.t 13) (.c (.i .u64 256))))⟩])
   (.live [2, 0, 14] (.cond (.t 14) (.seq (.region [⟨(some 15), none, (.op (.mv (.t 0)))⟩,
    ⟨(some 16), none, (.op (.bin .int true .shr (.t 15) (.c (.i .u64 8))))⟩,
    ⟨(some 0), none, (.op (.mv (.t 16)))⟩])
   (.live [0, 2] (.region [⟨(some 17), none, (.op (.mv (.t 2)))⟩,
    ⟨(some 18), none, (.op (.bin .int true .add (.t 17) (.c (.i .i64 8))))⟩,
    ⟨(some 2), none, (.op (.mv (.t 18)))⟩])))
   (.skip))))
   (.live [0, 2] (.seq (.region [⟨(some 19), none, (.op (.mv (.t 2)))⟩,
    ⟨(some 20), none, (.op (.mv (.t 0)))⟩,
    ⟨(some 21), none, (.op (.toInt .u8 (.t 20)))⟩,
    ⟨(some 22), none, (.op (.ixs (.c (.s [0, 1, 2, 2, 3, 3, 3, 3, 4, 4, 4, 4, 4, 4, 4, 4, 5, 5, 5, 5, 5, 5, 5, 5, 5, 5, 5, 5, 5, 5, 5, 5, 6, 6, 6, 6, 6, 6, 6, 6, 6, 6, 6, 6, 6, 6, 6, 6, 6, 6, 6, 6, 6, 6, 6, 6, 6, 6, 6, 6, 6, 6, 6, 6, 7, 7, 7, 7, 7, 7, 7, 7, 7, 7, 7, 7, 7, 7, 7, 7, 7, 7, 7, 7, 7, 7, 7, 7, 7, 7, 7, 7, 7, 7, 7, 7, 7, 7, 7, 7, 7, 7, 7, 7, 7, 7, 7, 7, 7, 7, 7, 7, 7, 7, 7, 7, 7, 7, 7, 7, 7, 7, 7, 7, 7, 7, 7, 7, 8, 8, 8, 8, 8, 8, 8, 8, 8, 8, 8, 8, 8, 8, 8, 8, 8, 8, 8, 8, 8, 8, 8, 8, 8, 8, 8, 8, 8, 8, 8, 8, 8, 8, 8, 8, 8, 8, 8, 8, 8, 8, 8, 8, 8, 8, 8, 8, 8, 8, 8, 8, 8, 8, 8, 8, 8, 8, 8, 8, 8, 8, 8, 8, 8, 8, 8, 8, 8, 8, 8, 8, 8, 8, 8, 8, 8, 8, 8, 8, 8, 8, 8, 8, 8, 8, 8, 8, 8, 8, 8, 8, 8, 8, 8, 8, 8, 8, 8, 8, 8, 8, 8, 8, 8, 8, 8, 8, 8, 8, 8, 8, 8, 8, 8, 8, 8, 8, 8, 8, 8, 8, 8, 8, 8, 8, 8, 8])) (.t 21)))⟩,
    ⟨(some 23), none, (.op (.toInt .i64 (.t 22)))⟩,
    ⟨(some 24), none, (.op (.bin .int false .add (.t 19) (.t 23)))⟩,
    ⟨(some 2), none, (.op (.mv (.t 24)))⟩])
   (.ret))))))))),
  []⟩


/- floodgate/slot.Record -/
def c195d0 : List Stage :=
  [⟨[(⟨(some 22), none, (.op (.faddr 0 (.t 3)))⟩, 4), (⟨(some 23), none, (.op (.load none (.t 22)))⟩, 4), (⟨(some 24), none, (.op (.faddr 1 (.t 3)))⟩, 4), (⟨(some 25), none, (.op (.load none (.t 24)))⟩, 4), (⟨(some 26), none, (.op (.faddr 2 (.t 3)))⟩, 0), (⟨(some 27), none, (.op (.load none (.t 26)))⟩, 0), (⟨(some 28), none, (.op (.faddr 3 (.t 3)))⟩, 0), (⟨(some 29), none, (.op (.load none (.t 28)))⟩, 0), (⟨(some 30), none, (.op (.toInt .u64 (.t 29)))⟩, 0), (⟨(some 33), none, (.op (.mv (.t 6)))⟩, 2)], none, some ⟨(some 31), none, (.op (.bslice [(.i .u64 0)] 2 [(0, 1, (.t 27)), (1, 1, (.t 30))]))⟩⟩,
    ⟨[], none, some ⟨(some 32), none, (.call 21 [(.t 31)])⟩⟩,
    ⟨[], none, some ⟨(some 34), none, (.op (.bslice [.sn] 2 [(0, 1, (.t 32)), (1, 1, (.t 33))]))⟩⟩,
    ⟨[], none, some ⟨(some 35), none, (.call 42 [(.t 34)])⟩⟩,
    ⟨[(⟨(some 36), none, (.op (.build [(.i .u64 0), (.i .u32 0), .sn] [(0, 1, (.t 23)), (1, 1, (.t 25)), (2, 1, (.t 35))]))⟩, 4)], none, some ⟨none, none, (.op (.store 3 (.t 4) (.t 36)))⟩⟩,
    ⟨[(⟨(some 5), none, (.op (.mv (.c (.i .i64 0))))⟩, 5)], none, none⟩]
def c195d0w : List (ROp × Bool) :=
  [(⟨(some 22), none, (.op (.faddr 0 (.t 3)))⟩, false), (⟨(some 23), none, (.op (.load none (.t 22)))⟩, false), (⟨(some 24), none, (.op (.faddr 1 (.t 3)))⟩, false), (⟨(some 25), none, (.op (.load none (.t 24)))⟩, false), (⟨(some 26), none, (.op (.faddr 2 (.t 3)))⟩, false), (⟨(some 27), none, (.op (.load none (.t 26)))⟩, false), (⟨(some 28), none, (.op (.faddr 3 (.t 3)))⟩, false), (⟨(some 29), none, (.op (.load none (.t 28)))⟩, false), (⟨(some 30), none, (.op (.toInt .u64 (.t 29)))⟩, false), (⟨(some 33), none, (.op (.mv (.t 6)))⟩, false), (⟨(some 31), none, (.op (.bslice [(.i .u64 0)] 2 [(0, 1, (.t 27)), (1, 1, (.t 30))]))⟩, true), (⟨(some 32), none, (.call 21 [(.t 31)])⟩, true), (⟨(some 34), none, (.op (.bslice [.sn] 2 [(0, 1, (.t 32)), (1, 1, (.t 33))]))⟩, true), (⟨(some 35), none, (.call 42 [(.t 34)])⟩, true), (⟨(some 36), none, (.op (.build [(.i .u64 0), (.i .u32 0), .sn] [(0, 1, (.t 23)), (1, 1, (.t 25)), (2, 1, (.t 35))]))⟩, false), (⟨none, none, (.op (.store 3 (.t 4) (.t 36)))⟩, false), (⟨(some 5), none, (.op (.mv (.c (.i .i64 0))))⟩, false)]
theorem c195d0_w {P : Program} {O : Orc} {S0 : Mem} {rd : Bool} {e : Env} {S : Mem} {d : List Nat} {Q : Kont} : W P O S0 rd (.draw c195d0 []) e S d Q = wFl O c195d0w e S (normK Q d) := W_draw' (by kernel_rfl) (by kernel_rfl)
attribute [go_sem] c195d0_w c195d0w
def c195 : IFunc := ⟨2, [.cell 4 (some 3), .tmp 5],
  .seq (.region [⟨(some 3), none, (.op (.box (.t 1)))⟩,
    ⟨(some 4), none, (.op (.fresh [(.i .u64 0), (.i .u32 0), .sn]))⟩,
    ⟨(some 5), none, (.op (.mv (.c (.i .i64 0))))⟩])
   (.live [4, 3, 0] (.seq (.seq (.region [⟨(some 8), none, (.op (.mv (.t 0)))⟩,
    ⟨(some 9), none, (.op (.load (some 6) (.t 3)))⟩,
    ⟨(some 10), none, (.call 234 [(.t 8), (.t 9)])⟩,
    ⟨(some 11), none, (.op (.un .not (.t 10)))⟩])
   (.live [4, 3, 11] (.cond (.t 11) (.seq (.region [⟨(some 12), none, (.op (.build [(.i .u64 0), (.i .u32 0), .sn] []))⟩,
    ⟨none, none, (.op (.store 3 (.t 4) (.t 12)))⟩,
    ⟨(some 5), none, (.op (.mv (.c (.i .i64 141))))⟩])
   (.ret))
   (.skip))))
   (.live [4, 3] (.seq (.region [⟨(some 14), none, (.op (.faddr 4 (.t 3)))⟩,
    ⟨(some 15), none, (.op (.load (some 2) (.t 14)))⟩,
    ⟨(some 16), none, (.call 235 [(.t 15)])⟩,
    ⟨(some 13), none, (.op (.mv (.t 16)))⟩,
    ⟨(some 17), none, (.op (.ext (.t 13) 0))⟩,
    ⟨(some 18), none, (.op (.ext (.t 13) 1))⟩,
    ⟨(some 6), none, (.op (.mv (.t 17)))⟩,
    ⟨(some 7), none, (.op (.mv (.t 18)))⟩])
   (.live [4, 3, 6, 7] (.seq (.seq (.region [⟨(some 19), none, (.op (.mv (.t 7)))⟩,
    ⟨(some 20), none, (.op (.bin .int true .neq (.t 19) (.c (.i .i64 0))))⟩])
   (.live [4, 3, 6, 20] (.cond (.t 20) (.seq (.region [⟨(some 21), none, (.op (.build [(.i .u64 0), (.i .u32 0), .sn] []))⟩,
    ⟨none, none, (.op (.store 3 (.t 4) (.t 21)))⟩,
    ⟨(some 5), none, (.op (.mv (.c (.i .i64 141))))⟩])
   (.ret))
   (.skip))))
   (.live [4, 3, 6] (.seq (.draw c195d0 [])
   (.ret))))))))),
  []⟩


/- floodgate/area.Slot -/

def c196 : IFunc := ⟨1, [.tmp 2],
  .seq (.region [⟨(some 2), none, (.op (.mv (.c (.i .i64 0))))⟩])
   (.live [0] (.seq (.region [⟨(some 3), none, (.op (.mv (.t 0)))⟩,
    ⟨(some 4), none, (.op (.bin .int true .rem (.t 3) (.c (.i .u64 2))))⟩,
    ⟨(some 5), none, (.op (.toInt .i64 (.t 4)))⟩,
    ⟨(some 6), none, (.op (.bin .int true .mul (.t 5) (.c (.i .i64 16))))⟩,
    ⟨(some 2), none, (.op (.mv (.t 6)))⟩])
   (.ret))),
  []⟩


/- floodgate/policy.All -/
def c200d0 : List Stage :=
  [⟨[(⟨(some 17), none, (.op (.mv (.t 3)))⟩, 0), (⟨(some 18), none, (.op (.faddr 1 (.t 5)))⟩, 0), (⟨(some 19), none, (.op (.load (some 5) (.t 18)))⟩, 0), (⟨(some 20), none, (.op (.mlook true [.int, .int, .int, .int, .int] (.i .i64 0) false (.t 17) (.t 19)))⟩, 1), (⟨(some 21), none, (.op (.bin .int true .add (.t 20) (.c (.i .i64 1))))⟩, 1)], none, some ⟨(some 22), none, (.op (.mentry true [.int, .int, .int, .int, .int] (.i .i64 0) (.t 17) (.t 19)))⟩⟩,
    ⟨[(⟨(some 23), none, (.op (.ext (.t 22) 1))⟩, 1)], none, some ⟨none, none, (.op (.mstore (.t 17) (.t 23) (.t 21)))⟩⟩,
    ⟨[], none, none⟩]
theorem c200d0_e {P : Program} {O : Orc} {S0 : Mem} {rd : Bool} {e : Env} {S : Mem} {d : List Nat} {Q : Kont} : W P O S0 rd (.draw c200d0 []) e S d Q = drawK (evDraw O c200d0 [] e S) (normK Q d) := W_drawE (by kernel_rfl)
attribute [go_sem] c200d0_e
def c200d1 : List Stage :=
  [⟨[(⟨(some 24), none, (.op (.load (some 13) (.t 5)))⟩, 0)], none, some ⟨(some 25), none, (.call 188 [(.t 24)])⟩⟩,
    ⟨[(⟨(some 26), none, (.op (.un .not (.t 25)))⟩, 1), (⟨(some 27), none, (.op (.mv (.t 26)))⟩, 1), (⟨(some 28), some (27, false), (.op (.mv (.t 3)))⟩, 1), (⟨(some 29), some (27, false), (.op (.faddr 1 (.t 5)))⟩, 1), (⟨(some 30), some (27, false), (.op (.load (some 5) (.t 29)))⟩, 1), (⟨(some 31), some (27, false), (.op (.mlook true [.int, .int, .int, .int, .int] (.i .i64 0) false (.t 28) (.t 30)))⟩, 1), (⟨(some 32), some (27, false), (.op (.bin .int true .gtr (.t 31) (.c (.i .i64 1))))⟩, 1), (⟨(some 33), none, (.op (.pick (.t 27) (.c (.b true)) (.t 32)))⟩, 1), (⟨(some 34), none, (.op (.mv (.t 33)))⟩, 1), (⟨(some 35), some (34, false), (.op (.mv (.t 4)))⟩, 1), (⟨(some 36), some (34, false), (.op (.bin .int true .gtr (.t 35) (.c (.i .i64 0))))⟩, 1), (⟨(some 37), some (34, false), (.op (.mv (.t 36)))⟩, 1), (⟨(some 38), some (37, true), (.op (.faddr 0 (.t 5)))⟩, 1), (⟨(some 39), some (37, true), (.op (.load none (.t 38)))⟩, 1), (⟨(some 40), some (37, true), (.op (.mv (.t 0)))⟩, 1), (⟨(some 41), some (37, true), (.op (.mv (.t 4)))⟩, 1), (⟨(some 42), some (37, true), (.op (.bin .int true .sub (.t 41) (.c (.i .i64 1))))⟩, 1), (⟨(some 43), some (37, true), (.op (.iaddr none 13 (.t 40) (.t 42)))⟩, 1), (⟨(some 44), some (37, true), (.op (.faddr 0 (.t 43)))⟩, 1), (⟨(some 45), some (37, true), (.op (.load none (.t 44)))⟩, 1), (⟨(some 46), some (37, true), (.op (.bin .int false .leq (.t 39) (.t 45)))⟩, 1), (⟨(some 47), some (34, false), (.op (.pick (.t 37) (.t 46) (.c (.b false))))⟩, 1), (⟨(some 48), none, (.op (.pick (.t 34) (.c (.b true)) (.t 47)))⟩, 1)], none, none⟩]
def c200d1w : List (ROp × Bool) :=
  [(⟨(some 24), none, (.op (.load (some 13) (.t 5)))⟩, false), (⟨(some 25), none, (.call 188 [(.t 24)])⟩, false), (⟨(some 26), none, (.op (.un .not (.t 25)))⟩, false), (⟨(some 27), none, (.op (.mv (.t 26)))⟩, false), (⟨(some 28), some (27, false), (.op (.mv (.t 3)))⟩, false), (⟨(some 29), some (27, false), (.op (.faddr 1 (.t 5)))⟩, false), (⟨(some 30), some (27, false), (.op (.load (some 5) (.t 29)))⟩, false), (⟨(some 31), some (27, false), (.op (.mlook true [.int, .int, .int, .int, .int] (.i .i64 0) false (.t 28) (.t 30)))⟩, false), (⟨(some 32), some (27, false), (.op (.bin .int true .gtr (.t 31) (.c (.i .i64 1))))⟩, false), (⟨(some 33), none, (.op (.pick (.t 27) (.c (.b true)) (.t 32)))⟩, false), (⟨(some 34), none, (.op (.mv (.t 33)))⟩, false), (⟨(some 35), some (34, false), (.op (.mv (.t 4)))⟩, false), (⟨(some 36), some (34, false), (.op (.bin .int true .gtr (.t 35) (.c (.i .i64 0))))⟩, false), (⟨(some 37), some (34, false), (.op (.mv (.t 36)))⟩, false), (⟨(some 38), some (37, true), (.op (.faddr 0 (.t 5)))⟩, false), (⟨(some 39), some (37, true), (.op (.load none (.t 38)))⟩, false), (⟨(some 40), some (37, true), (.op (.mv (.t 0)))⟩, false), (⟨(some 41), some (37, true), (.op (.mv (.t 4)))⟩, false), (⟨(some 42), some (37, true), (.op (.bin .int true .sub (.t 41) (.c (.i .i64 1))))⟩, false), (⟨(some 43), some (37, true), (.op (.iaddr none 13 (.t 40) (.t 42)))⟩, false), (⟨(some 44), some (37, true), (.op (.faddr 0 (.t 43)))⟩, false), (⟨(some 45), some (37, true), (.op (.load none (.t 44)))⟩, false), (⟨(some 46), some (37, true), (.op (.bin .int false .leq (.t 39) (.t 45)))⟩, false), (⟨(some 47), some (34, false), (.op (.pick (.t 37) (.t 46) (.c (.b false))))⟩, false), (⟨(some 48), none, (.op (.pick (.t 34) (.c (.b true)) (.t 47)))⟩, false)]
theorem c200d1_w {P : Program} {O : Orc} {S0 : Mem} {rd : Bool} {e : Env} {S : Mem} {d : List Nat} {Q : Kont} : W P O S0 rd (.draw c200d1 []) e S d Q = wFl O c200d1w e S (normK Q d) := W_draw' (by kernel_rfl) (by kernel_rfl)
attribute [go_sem] c200d1_w c200d1w
def c200l2 : ICode :=
  .seq (.region [⟨(some 13), none, (.op (.bin .int false .lss (.t 12) (.t 11)))⟩])
   (.live [3, 0, 10, 11, 12, 13] (.seq (.cond (.t 13) (.skip)
   (.exit 0))
   (.live [3, 0, 10, 11, 12] (.seq (.block 1 (.seq (.region [⟨(some 14), none, (.op (.mv (.t 12)))⟩,
    ⟨(some 15), none, (.op (.iaddr none 13 (.t 10) (.t 12)))⟩,
    ⟨(some 16), none, (.op (.load (some 13) (.t 15)))⟩,
    ⟨(some 5), none, (.op (.fresh [(.i .i64 0), (.i .u8 0), (.i .u8 0), (.i .u8 0), (.i .u8 0), (.i .i64 0), (.i .u64 0), (.i .u64 0), (.i .u64 0), (.i .u64 0), (.i .u64 0), (.i .u64 0), (.i .u64 0)]))⟩,
    ⟨(some 4), none, (.op (.mv (.t 14)))⟩,
    ⟨none, none, (.op (.store 13 (.t 5) (.t 16)))⟩])
   (.live [3, 0, 10, 11, 12, 5, 4] (.seq (.draw c200d0 [])
   (.live [3, 0, 10, 11, 12, 5, 4] (.seq (.draw c200d1 [])
   (.live [3, 0, 10, 11, 12, 48] (.cond (.t 48) (.seq (.region [⟨(some 2), none, (.op (.mv (.c (.i .i64 111))))⟩])
   (.ret))
   (.skip)))))))))
   (.live [3, 0, 10, 11, 12] (.region [⟨(some 49), none, (.op (.bin .int true .add (.t 12) (.c (.i .i64 1))))⟩,
    ⟨(some 12), none, (.op (.mv (.t 49)))⟩]))))))
def c200 : IFunc := ⟨1, [.tmp 2],
  .seq (.region [⟨(some 2), none, (.op (.mv (.c (.i .i64 0))))⟩])
   (.live [0] (.seq (.seq (.region [⟨(some 6), none, (.op (.mv (.t 0)))⟩,
    ⟨(some 7), none, (.op (.len .slice (.t 6)))⟩,
    ⟨(some 8), none, (.op (.bin .int true .gtr (.t 7) (.c (.i .i64 8))))⟩])
   (.live [0, 8] (.cond (.t 8) (.seq (.region [⟨(some 2), none, (.op (.mv (.c (.i .i64 111))))⟩])
   (.ret))
   (.skip))))
   (.live [0] (.seq (.region [⟨(some 9), none, (.op (.mkmap none))⟩,
    ⟨(some 3), none, (.op (.mv (.t 9)))⟩])
   (.live [3, 0] (.seq (.seq (.region [⟨(some 10), none, (.op (.mv (.t 0)))⟩,
    ⟨(some 11), none, (.op (.len .slice (.t 10)))⟩,
    ⟨(some 12), none, (.op (.mv (.c (.i .i64 0))))⟩])
   (.live [3, 0, 10, 11, 12] (.block 0 (.loop [3, 0, 10, 11, 12] c200l2))))
   (.live [] (.seq (.region [⟨(some 2), none, (.op (.mv (.c (.i .i64 0))))⟩])
   (.ret))))))))),
  []⟩


/- floodgate/book.policies -/
def c201l0 : ICode :=
  .seq (.region [⟨(some 9), none, (.op (.bin .int false .lss (.t 8) (.t 7)))⟩])
   (.live [6, 7, 8, 3, 9] (.seq (.cond (.t 9) (.skip)
   (.exit 0))
   (.live [6, 7, 8, 3] (.seq (.block 1 (.seq (.region [⟨(some 10), none, (.op (.iaddr none 14 (.t 6) (.t 8)))⟩,
    ⟨(some 11), none, (.op (.load (some 14) (.t 10)))⟩,
    ⟨(some 5), none, (.op (.fresh [(.i .i64 0), (.i .u8 0), (.i .u8 0), (.i .u8 0), (.i .u8 0), (.i .i64 0), (.i .u64 0), (.i .u64 0), (.i .u64 0), (.i .u64 0), (.i .u64 0), (.i .u64 0), (.i .u64 0), (.i .u64 0)]))⟩,
    ⟨none, none, (.op (.store 14 (.t 5) (.t 11)))⟩])
   (.live [6, 7, 8, 5, 3] (.region [⟨(some 12), none, (.op (.mv (.t 3)))⟩,
    ⟨(some 13), none, (.op (.faddr 0 (.t 5)))⟩,
    ⟨(some 14), none, (.op (.load (some 13) (.t 13)))⟩,
    ⟨(some 15), none, (.op (.bslice [(.i .i64 0), (.i .u8 0), (.i .u8 0), (.i .u8 0), (.i .u8 0), (.i .i64 0), (.i .u64 0), (.i .u64 0), (.i .u64 0), (.i .u64 0), (.i .u64 0), (.i .u64 0), (.i .u64 0)] 1 [(0, 13, (.t 14))]))⟩,
    ⟨(some 16), none, (.op (.app 13 80 (.t 12) (.t 15)))⟩,
    ⟨(some 3), none, (.op (.mv (.t 16)))⟩]))))
   (.live [6, 7, 3, 8] (.region [⟨(some 17), none, (.op (.bin .int true .add (.t 8) (.c (.i .i64 1))))⟩,
    ⟨(some 8), none, (.op (.mv (.t 17)))⟩]))))))
def c201 : IFunc := ⟨1, [.tmp 2],
  .seq (.region [⟨(some 2), none, (.op (.mv (.c .sn)))⟩])
   (.live [0] (.seq (.region [⟨(some 3), none, (.op (.mv (.c .sn)))⟩])
   (.live [3, 0] (.seq (.seq (.region [⟨(some 6), none, (.op (.mv (.t 0)))⟩,
    ⟨(some 7), none, (.op (.len .slice (.t 6)))⟩,
    ⟨(some 8), none, (.op (.mv (.c (.i .i64 0))))⟩])
   (.live [6, 7, 8, 3] (.block 0 (.loop [6, 7, 8, 3] c201l0))))
   (.live [3] (.seq (.region [⟨(some 18), none, (.op (.mv (.t 3)))⟩,
    ⟨(some 2), none, (.op (.mv (.t 18)))⟩])
   (.ret))))))),
  []⟩


/- slices.ContainsFunc[[]floodgate/api.Entry,floodgate/api.Entry] -/

def c202 : IFunc := ⟨2, [.tmp 4],
  .seq (.region [⟨(some 4), none, (.op (.mv (.c (.b false))))⟩])
   (.live [1, 0] (.seq (.region [⟨(some 5), none, (.op (.mv (.t 0)))⟩,
    ⟨(some 6), none, (.op (.mv (.t 1)))⟩,
    ⟨(some 7), none, (.call 236 [(.t 5), (.t 6)])⟩,
    ⟨(some 8), none, (.op (.bin .int true .geq (.t 7) (.c (.i .i64 0))))⟩,
    ⟨(some 4), none, (.op (.mv (.t 8)))⟩])
   (.ret))),
  []⟩


/- floodgate/frame.Size -/

def c213 : IFunc := ⟨1, [.tmp 2],
  .seq (.region [⟨(some 2), none, (.op (.mv (.c (.i .i64 0))))⟩])
   (.live [0] (.seq (.seq (.region [⟨(some 3), none, (.op (.mv (.t 0)))⟩,
    ⟨(some 4), none, (.op (.bin .int true .lss (.t 3) (.c (.i .i64 0))))⟩,
    ⟨(some 5), none, (.op (.mv (.t 4)))⟩,
    ⟨(some 6), some (5, false), (.op (.mv (.t 0)))⟩,
    ⟨(some 7), some (5, false), (.op (.bin .int true .gtr (.t 6) (.c (.i .i64 700))))⟩,
    ⟨(some 8), none, (.op (.pick (.t 5) (.c (.b true)) (.t 7)))⟩])
   (.live [0, 8] (.cond (.t 8) (.seq (.region [⟨(some 2), none, (.op (.mv (.c (.i .i64 0))))⟩])
   (.ret))
   (.skip))))
   (.live [0] (.seq (.region [⟨(some 9), none, (.op (.mv (.t 0)))⟩,
    ⟨(some 10), none, (.op (.bin .int true .add (.c (.i .i64 14)) (.t 9)))⟩,
    ⟨(some 11), none, (.op (.bin .int true .add (.t 10) (.c (.i .i64 4))))⟩,
    ⟨(some 12), none, (.op (.bin .int true .add (.t 11) (.c (.i .i64 64))))⟩,
    ⟨(some 13), none, (.op (.bin .int true .sub (.t 12) (.c (.i .i64 1))))⟩,
    ⟨(some 14), none, (.op (.bin .int true .quo (.t 13) (.c (.i .i64 64))))⟩,
    ⟨(some 2), none, (.op (.mv (.t 14)))⟩])
   (.ret))))),
  []⟩


/- floodgate/crc.Seal -/

def c214 : IFunc := ⟨1, [.tmp 2],
  .seq (.region [⟨(some 2), none, (.op (.mv (.c .sn)))⟩])
   (.live [0] (.seq (.region [⟨(some 3), none, (.op (.mv (.t 0)))⟩,
    ⟨(some 4), none, (.op (.mv (.t 0)))⟩,
    ⟨(some 5), none, (.op (.bslice [.sn] 1 [(0, 1, (.t 4))]))⟩,
    ⟨(some 6), none, (.call 246 [(.t 5)])⟩,
    ⟨(some 7), none, (.call 245 [(.t 6)])⟩,
    ⟨(some 8), none, (.op (.bslice [.sn] 2 [(0, 1, (.t 3)), (1, 1, (.t 7))]))⟩,
    ⟨(some 9), none, (.call 42 [(.t 8)])⟩,
    ⟨(some 2), none, (.op (.mv (.t 9)))⟩])
   (.ret))),
  []⟩


/- floodgate/frame.number -/
def c215ra0 : ICode :=
  .region [⟨(some 6), none, (.op (.mv (.t 11)))⟩]
def c215rb0 : ICode :=
  .block 1 (.seq (.region [⟨(some 13), none, (.op (.load none (.t 5)))⟩,
    ⟨(some 14), none, (.op (.mv (.t 6)))⟩,
    ⟨(some 15), none, (.op (.load none (.t 2)))⟩,
    ⟨(some 16), none, (.op (.toInt .u8 (.t 15)))⟩,
    ⟨(some 17), none, (.op (.iaddr none 1 (.t 13) (.t 14)))⟩,
    ⟨none, none, (.op (.store 1 (.t 17) (.t 16)))⟩])
   (.live [2] (.region [⟨(some 18), none, (.op (.load none (.t 2)))⟩,
    ⟨(some 19), none, (.op (.bin .int true .shr (.t 18) (.c (.i .u64 8))))⟩,
    ⟨none, none, (.op (.store 1 (.t 2) (.t 19)))⟩])))
def c215 : IFunc := ⟨2, [.tmp 4],
  .seq (.region [⟨(some 2), none, (.op (.box (.t 0)))⟩,
    ⟨(some 4), none, (.op (.mv (.c .sn)))⟩])
   (.live [11, 6, 15, 13, 14, 17, 16, 18, 2, 19, 1] (.seq (.region [⟨(some 7), none, (.op (.mv (.t 1)))⟩,
    ⟨(some 8), none, (.op (.mks [(.i .u8 0)] 1 (.t 7) (.t 7)))⟩,
    ⟨(some 5), none, (.op (.fresh [.sn]))⟩,
    ⟨none, none, (.op (.store 1 (.t 5) (.t 8)))⟩])
   (.live [5, 11, 6, 15, 13, 14, 17, 16, 18, 2, 19] (.seq (.seq (.region [⟨(some 9), none, (.op (.load none (.t 5)))⟩,
    ⟨(some 10), none, (.call 247 [(.t 9)])⟩])
   (.live [5, 11, 6, 15, 13, 14, 17, 16, 18, 2, 19, 10] (.block 0 (.rf (.t 10) 215 [true, true, false, true, false] [11, 5, 6, 2, 15, 13, 14, 17, 16, 2, 18, 2, 19]))))
   (.live [5] (.seq (.region [⟨(some 20), none, (.op (.load none (.t 5)))⟩,
    ⟨(some 4), none, (.op (.mv (.t 20)))⟩])
   (.ret))))))),
  [([true, true, false, true, false], [11, 12], c215ra0, c215rb0)]⟩


/- floodgate/area.there -/
def c217l0 : ICode :=
  .seq (.region [⟨(some 18), none, (.op (.bin .int false .lss (.t 17) (.t 16)))⟩])
   (.live [6, 15, 16, 17, 7, 18] (.seq (.cond (.t 18) (.skip)
   (.exit 0))
   (.live [6, 15, 16, 17, 7] (.seq (.block 1 (.seq (.region [⟨(some 19), none, (.op (.iaddr none 1 (.t 15) (.t 17)))⟩,
    ⟨(some 20), none, (.op (.load none (.t 19)))⟩,
    ⟨(some 9), none, (.op (.mv (.t 20)))⟩])
   (.live [6, 15, 16, 17, 7, 9] (.seq (.region [⟨(some 21), none, (.op (.mv (.t 9)))⟩,
    ⟨(some 22), none, (.op (.bin .int true .lss (.t 21) (.c (.i .i64 0))))⟩,
    ⟨(some 23), none, (.op (.mv (.t 22)))⟩,
    ⟨(some 24), some (23, false), (.op (.mv (.t 9)))⟩,
    ⟨(some 25), some (23, false), (.op (.mv (.t 6)))⟩,
    ⟨(some 26), some (23, false), (.op (.bin .int false .geq (.t 24) (.t 25)))⟩,
    ⟨(some 27), none, (.op (.pick (.t 23) (.c (.b true)) (.t 26)))⟩])
   (.live [6, 15, 16, 17, 7, 27] (.cond (.t 27) (.region [⟨(some 7), none, (.op (.mv (.c (.i .i64 91))))⟩])
   (.skip)))))))
   (.live [6, 15, 16, 7, 17] (.region [⟨(some 28), none, (.op (.bin .int true .add (.t 17) (.c (.i .i64 1))))⟩,
    ⟨(some 17), none, (.op (.mv (.t 28)))⟩]))))))
def c217 : IFunc := ⟨2, [.tmp 4, .tmp 5],
  .seq (.region [⟨(some 4), none, (.op (.mv (.c (.i .i64 0))))⟩,
    ⟨(some 5), none, (.op (.mv (.c (.i .i64 0))))⟩])
   (.live [1, 0] (.seq (.region [⟨(some 11), none, (.op (.mv (.t 0)))⟩,
    ⟨(some 12), none, (.call 106 [(.t 11)])⟩,
    ⟨(some 10), none, (.op (.mv (.t 12)))⟩,
    ⟨(some 13), none, (.op (.ext (.t 10) 0))⟩,
    ⟨(some 14), none, (.op (.ext (.t 10) 1))⟩,
    ⟨(some 6), none, (.op (.mv (.t 13)))⟩,
    ⟨(some 7), none, (.op (.mv (.t 14)))⟩])
   (.live [6, 7, 1] (.seq (.seq (.region [⟨(some 15), none, (.op (.mv (.t 1)))⟩,
    ⟨(some 16), none, (.op (.len .slice (.t 15)))⟩,
    ⟨(some 17), none, (.op (.mv (.c (.i .i64 0))))⟩])
   (.live [6, 15, 16, 17, 7] (.block 0 (.loop [6, 15, 16, 17, 7] c217l0))))
   (.live [7, 6] (.seq (.region [⟨(some 29), none, (.op (.mv (.t 6)))⟩,
    ⟨(some 30), none, (.op (.mv (.t 7)))⟩,
    ⟨(some 4), none, (.op (.mv (.t 29)))⟩,
    ⟨(some 5), none, (.op (.mv (.t 30)))⟩])
   (.ret))))))),
  []⟩


/- (*floodgate/disk.Disk).there -/

def c218 : IFunc := ⟨2, [.tmp 4],
  .seq (.region [⟨(some 4), none, (.op (.mv (.c (.b false))))⟩])
   (.live [0, 1] (.seq (.region [⟨(some 5), none, (.op (.mv (.t 1)))⟩,
    ⟨(some 6), none, (.op (.bin .int true .geq (.t 5) (.c (.i .i64 0))))⟩,
    ⟨(some 7), none, (.op (.mv (.t 6)))⟩,
    ⟨(some 8), some (7, true), (.op (.mv (.t 1)))⟩,
    ⟨(some 9), some (7, true), (.op (.mv (.t 0)))⟩,
    ⟨(some 10), some (7, true), (.op (.nilck (.t 9)))⟩,
    ⟨(some 11), some (7, true), (.op (.faddr 0 (.t 10)))⟩,
    ⟨(some 12), some (7, true), (.op (.load none (.t 11)))⟩,
    ⟨(some 13), some (7, true), (.op (.len .slice (.t 12)))⟩,
    ⟨(some 14), some (7, true), (.op (.bin .int false .lss (.t 8) (.t 13)))⟩,
    ⟨(some 15), none, (.op (.pick (.t 7) (.t 14) (.c (.b false))))⟩,
    ⟨(some 4), none, (.op (.mv (.t 15)))⟩])
   (.ret))),
  []⟩


/- (*floodgate/disk.Disk).act -/

def c219 : IFunc := ⟨1, [.tmp 2],
  .seq (.region [⟨(some 2), none, (.op (.mv (.c (.i .i64 0))))⟩])
   (.live [0] (.seq (.block 0 (.seq (.region [⟨(some 4), none, (.op (.mv (.t 0)))⟩,
    ⟨(some 5), none, (.op (.nilck (.t 4)))⟩,
    ⟨(some 6), none, (.op (.faddr 3 (.t 5)))⟩,
    ⟨(some 7), none, (.op (.load none (.t 6)))⟩,
    ⟨(some 3), none, (.op (.mv (.t 7)))⟩])
   (.live [0, 3] (.cond (.t 3) (.skip)
   (.seq (.region [⟨(some 9), none, (.op (.mv (.t 0)))⟩,
    ⟨(some 10), none, (.op (.nilck (.t 9)))⟩,
    ⟨(some 11), none, (.op (.faddr 2 (.t 10)))⟩,
    ⟨(some 12), none, (.op (.load none (.t 11)))⟩,
    ⟨(some 13), none, (.op (.bin .int true .eql (.t 12) (.c (.i .i64 (-1)))))⟩,
    ⟨(some 8), none, (.op (.mv (.t 13)))⟩])
   (.live [0, 8] (.cond (.t 8) (.seq (.region [⟨(some 2), none, (.op (.mv (.c (.i .i64 0))))⟩])
   (.ret))
   (.seq (.region [⟨(some 15), none, (.op (.mv (.t 0)))⟩,
    ⟨(some 16), none, (.op (.nilck (.t 15)))⟩,
    ⟨(some 17), none, (.op (.faddr 2 (.t 16)))⟩,
    ⟨(some 18), none, (.op (.load none (.t 17)))⟩,
    ⟨(some 19), none, (.op (.bin .int true .gtr (.t 18) (.c (.i .i64 0))))⟩,
    ⟨(some 14), none, (.op (.mv (.t 19)))⟩])
   (.live [0, 14] (.cond (.t 14) (.seq (.region [⟨(some 20), none, (.op (.mv (.t 0)))⟩,
    ⟨(some 21), none, (.op (.nilck (.t 20)))⟩,
    ⟨(some 22), none, (.op (.faddr 2 (.t 21)))⟩,
    ⟨(some 23), none, (.op (.load none (.t 22)))⟩,
    ⟨(some 24), none, (.op (.bin .int true .sub (.t 23) (.c (.i .i64 1))))⟩,
    ⟨(some 25), none, (.op (.nilck (.t 20)))⟩,
    ⟨(some 26), none, (.op (.faddr 2 (.t 25)))⟩,
    ⟨none, none, (.op (.store 1 (.t 26) (.t 24)))⟩])
   (.live [] (.seq (.region [⟨(some 2), none, (.op (.mv (.c (.i .i64 0))))⟩])
   (.ret))))
   (.skip)))))))))))
   (.live [0] (.seq (.region [⟨(some 27), none, (.op (.mv (.t 0)))⟩,
    ⟨(some 28), none, (.op (.nilck (.t 27)))⟩,
    ⟨(some 29), none, (.op (.faddr 3 (.t 28)))⟩,
    ⟨none, none, (.op (.store 1 (.t 29) (.c (.b true))))⟩])
   (.live [] (.seq (.region [⟨(some 2), none, (.op (.mv (.c (.i .i64 72))))⟩])
   (.ret))))))),
  []⟩


/- (*floodgate/disk.Disk).Sync$1 -/

def c220 : IFunc := ⟨1, [.tmp 2],
  .seq (.region [⟨(some 2), none, (.op (.mv (.c (.b false))))⟩])
   (.live [] (.seq (.region [⟨(some 2), none, (.op (.mv (.c (.b true))))⟩])
   (.ret))),
  []⟩


/- floodgate/slot.Right -/
def c234d0 : List Stage :=
  [⟨[(⟨(some 8), none, (.op (.mv (.t 0)))⟩, 0), (⟨(some 10), none, (.op (.faddr 3 (.t 3)))⟩, 1), (⟨(some 11), none, (.op (.load none (.t 10)))⟩, 1)], none, some ⟨(some 9), none, (.call 107 [(.t 8)])⟩⟩,
    ⟨[], none, some ⟨(some 12), none, (.call 170 [(.t 9), (.t 11)])⟩⟩,
    ⟨[(⟨(some 7), none, (.op (.mv (.t 12)))⟩, 2), (⟨(some 13), none, (.op (.ext (.t 7) 0))⟩, 2), (⟨(some 14), none, (.op (.ext (.t 7) 1))⟩, 2), (⟨(some 5), none, (.op (.mv (.t 13)))⟩, 2), (⟨(some 6), none, (.op (.mv (.t 14)))⟩, 2)], none, none⟩]
def c234d0w : List (ROp × Bool) :=
  [(⟨(some 8), none, (.op (.mv (.t 0)))⟩, false), (⟨(some 10), none, (.op (.faddr 3 (.t 3)))⟩, false), (⟨(some 11), none, (.op (.load none (.t 10)))⟩, false), (⟨(some 9), none, (.call 107 [(.t 8)])⟩, true), (⟨(some 12), none, (.call 170 [(.t 9), (.t 11)])⟩, false), (⟨(some 7), none, (.op (.mv (.t 12)))⟩, false), (⟨(some 13), none, (.op (.ext (.t 7) 0))⟩, false), (⟨(some 14), none, (.op (.ext (.t 7) 1))⟩, false), (⟨(some 5), none, (.op (.mv (.t 13)))⟩, false), (⟨(some 6), none, (.op (.mv (.t 14)))⟩, false)]
theorem c234d0_w {P : Program} {O : Orc} {S0 : Mem} {rd : Bool} {e : Env} {S : Mem} {d : List Nat} {Q : Kont} : W P O S0 rd (.draw c234d0 []) e S d Q = wFl O c234d0w e S (normK Q d) := W_draw' (by kernel_rfl) (by kernel_rfl)
attribute [go_sem] c234d0_w c234d0w
def c234 : IFunc := ⟨2, [.tmp 4],
  .seq (.region [⟨(some 3), none, (.op (.box (.t 1)))⟩,
    ⟨(some 4), none, (.op (.mv (.c (.b false))))⟩])
   (.live [3, 0] (.seq (.draw c234d0 [])
   (.live [3, 6] (.seq (.region [⟨(some 15), none, (.op (.mv (.t 6)))⟩,
    ⟨(some 16), none, (.op (.bin .int true .eql (.t 15) (.c (.i .i64 0))))⟩,
    ⟨(some 17), none, (.op (.mv (.t 16)))⟩,
    ⟨(some 18), some (17, true), (.op (.faddr 0 (.t 3)))⟩,
    ⟨(some 19), some (17, true), (.op (.load none (.t 18)))⟩,
    ⟨(some 20), some (17, true), (.call 258 [(.t 19)])⟩,
    ⟨(some 21), none, (.op (.pick (.t 17) (.t 20) (.c (.b false))))⟩,
    ⟨(some 22), none, (.op (.mv (.t 21)))⟩,
    ⟨(some 23), some (22, true), (.op (.faddr 2 (.t 3)))⟩,
    ⟨(some 24), some (22, true), (.op (.load none (.t 23)))⟩,
    ⟨(some 25), some (22, true), (.call 258 [(.t 24)])⟩,
    ⟨(some 26), none, (.op (.pick (.t 22) (.t 25) (.c (.b false))))⟩,
    ⟨(some 27), none, (.op (.mv (.t 26)))⟩,
    ⟨(some 28), some (27, true), (.op (.faddr 1 (.t 3)))⟩,
    ⟨(some 29), some (27, true), (.op (.load none (.t 28)))⟩,
    ⟨(some 30), some (27, true), (.op (.bin .int true .leq (.t 29) (.c (.i .u32 2147483648))))⟩,
    ⟨(some 31), none, (.op (.pick (.t 27) (.t 30) (.c (.b false))))⟩,
    ⟨(some 32), none, (.op (.mv (.t 31)))⟩,
    ⟨(some 33), some (32, true), (.op (.faddr 4 (.t 3)))⟩,
    ⟨(some 34), some (32, true), (.op (.load (some 2) (.t 33)))⟩,
    ⟨(some 35), some (32, true), (.call 161 [(.t 34)])⟩,
    ⟨(some 36), none, (.op (.pick (.t 32) (.t 35) (.c (.b false))))⟩,
    ⟨(some 4), none, (.op (.mv (.t 36)))⟩])
   (.ret))))),
  []⟩


/- floodgate/book.Bytes -/
def c235d0 : List Stage :=
  [⟨[(⟨(some 20), none, (.op (.mv (.t 4)))⟩, 1), (⟨(some 21), none, (.op (.faddr 0 (.t 6)))⟩, 0), (⟨(some 22), none, (.op (.load (some 13) (.t 21)))⟩, 0), (⟨(some 25), none, (.op (.faddr 13 (.t 6)))⟩, 2), (⟨(some 26), none, (.op (.load none (.t 25)))⟩, 2)], none, some ⟨(some 23), none, (.call 167 [(.t 22)])⟩⟩,
    ⟨[], none, some ⟨(some 24), none, (.op (.app 1 8 (.t 20) (.t 23)))⟩⟩,
    ⟨[], some ⟨(some 27), none, (.op (.bslice [(.i .u64 0)] 1 [(0, 1, (.t 26))]))⟩, some ⟨(some 28), none, (.op (.app 1 8 (.t 24) (.t 27)))⟩⟩,
    ⟨[(⟨(some 4), none, (.op (.mv (.t 28)))⟩, 3)], none, none⟩]
theorem c235d0_e {P : Program} {O : Orc} {S0 : Mem} {rd : Bool} {e : Env} {S : Mem} {d : List Nat} {Q : Kont} : W P O S0 rd (.draw c235d0 [4]) e S d Q = drawK (evDraw O c235d0 [4] e S) (normK Q d) := W_drawE (by kernel_rfl)
attribute [go_sem] c235d0_e
def c235l1 : ICode :=
  .seq (.region [⟨(some 17), none, (.op (.bin .int false .lss (.t 16) (.t 15)))⟩])
   (.live [14, 15, 16, 4, 17] (.seq (.cond (.t 17) (.skip)
   (.exit 0))
   (.live [14, 15, 16, 4] (.seq (.block 1 (.seq (.region [⟨(some 18), none, (.op (.iaddr none 14 (.t 14) (.t 16)))⟩,
    ⟨(some 19), none, (.op (.load (some 14) (.t 18)))⟩,
    ⟨(some 6), none, (.op (.fresh [(.i .i64 0), (.i .u8 0), (.i .u8 0), (.i .u8 0), (.i .u8 0), (.i .i64 0), (.i .u64 0), (.i .u64 0), (.i .u64 0), (.i .u64 0), (.i .u64 0), (.i .u64 0), (.i .u64 0), (.i .u64 0)]))⟩,
    ⟨none, none, (.op (.store 14 (.t 6) (.t 19)))⟩])
   (.live [14, 15, 16, 6, 4] (.draw c235d0 [4]))))
   (.live [14, 15, 4, 16] (.region [⟨(some 29), none, (.op (.bin .int true .add (.t 16) (.c (.i .i64 1))))⟩,
    ⟨(some 16), none, (.op (.mv (.t 29)))⟩]))))))
def c235 : IFunc := ⟨1, [.tmp 2, .tmp 3],
  .seq (.region [⟨(some 1), none, (.op (.box (.t 0)))⟩,
    ⟨(some 2), none, (.op (.mv (.c .sn)))⟩,
    ⟨(some 3), none, (.op (.mv (.c (.i .i64 0))))⟩])
   (.live [1] (.seq (.seq (.region [⟨(some 7), none, (.op (.load (some 2) (.t 1)))⟩,
    ⟨(some 8), none, (.call 161 [(.t 7)])⟩,
    ⟨(some 9), none, (.op (.un .not (.t 8)))⟩])
   (.live [1, 9] (.cond (.t 9) (.seq (.region [⟨(some 2), none, (.op (.mv (.c .sn)))⟩,
    ⟨(some 3), none, (.op (.mv (.c (.i .i64 131))))⟩])
   (.ret))
   (.skip))))
   (.live [1] (.seq (.region [⟨(some 10), none, (.op (.faddr 0 (.t 1)))⟩,
    ⟨(some 11), none, (.op (.load none (.t 10)))⟩,
    ⟨(some 12), none, (.op (.bslice [(.i .u64 0)] 1 [(0, 1, (.t 11))]))⟩,
    ⟨(some 4), none, (.op (.mv (.t 12)))⟩])
   (.live [4, 1] (.seq (.seq (.region [⟨(some 13), none, (.op (.faddr 1 (.t 1)))⟩,
    ⟨(some 14), none, (.op (.load none (.t 13)))⟩,
    ⟨(some 15), none, (.op (.len .slice (.t 14)))⟩,
    ⟨(some 16), none, (.op (.mv (.c (.i .i64 0))))⟩])
   (.live [14, 15, 16, 4] (.block 0 (.loop [14, 15, 16, 4] c235l1))))
   (.live [4] (.seq (.region [⟨(some 30), none, (.op (.mv (.t 4)))⟩,
    ⟨(some 31), none, (.call 21 [(.t 30)])⟩,
    ⟨(some 2), none, (.op (.mv (.t 31)))⟩,
    ⟨(some 3), none, (.op (.mv (.c (.i .i64 0))))⟩])
   (.ret))))))))),
  []⟩


/- slices.IndexFunc[[]floodgate/api.Entry,floodgate/api.Entry] -/
def c236l0 : ICode :=
  .seq (.region [⟨(some 9), none, (.op (.bin .int false .lss (.t 8) (.t 7)))⟩])
   (.live [0, 1, 7, 8, 9] (.seq (.cond (.t 9) (.skip)
   (.exit 0))
   (.live [0, 1, 7, 8] (.seq (.block 1 (.seq (.region [⟨(some 10), none, (.op (.mv (.t 8)))⟩,
    ⟨(some 5), none, (.op (.mv (.t 10)))⟩])
   (.live [5, 0, 1, 7, 8] (.seq (.region [⟨(some 11), none, (.op (.mv (.t 1)))⟩,
    ⟨(some 12), none, (.op (.mv (.t 0)))⟩,
    ⟨(some 13), none, (.op (.mv (.t 5)))⟩,
    ⟨(some 14), none, (.op (.iaddr none 14 (.t 12) (.t 13)))⟩,
    ⟨(some 15), none, (.op (.load (some 14) (.t 14)))⟩,
    ⟨(some 16), none, (.callv (.t 11) [(.t 15)])⟩])
   (.live [5, 0, 1, 7, 8, 16] (.cond (.t 16) (.seq (.region [⟨(some 17), none, (.op (.mv (.t 5)))⟩,
    ⟨(some 4), none, (.op (.mv (.t 17)))⟩])
   (.ret))
   (.skip)))))))
   (.live [0, 1, 7, 8] (.region [⟨(some 18), none, (.op (.bin .int true .add (.t 8) (.c (.i .i64 1))))⟩,
    ⟨(some 8), none, (.op (.mv (.t 18)))⟩]))))))
def c236 : IFunc := ⟨2, [.tmp 4],
  .seq (.region [⟨(some 4), none, (.op (.mv (.c (.i .i64 0))))⟩])
   (.live [0, 1] (.seq (.seq (.region [⟨(some 6), none, (.op (.mv (.t 0)))⟩,
    ⟨(some 7), none, (.op (.len .slice (.t 6)))⟩,
    ⟨(some 8), none, (.op (.mv (.c (.i .i64 0))))⟩])
   (.live [0, 1, 7, 8] (.block 0 (.loop [0, 1, 7, 8] c236l0))))
   (.live [] (.seq (.region [⟨(some 4), none, (.op (.mv (.c (.i .i64 (-1)))))⟩])
   (.ret))))),
  []⟩


/- floodgate/crc.tail -/

def c245 : IFunc := ⟨1, [.tmp 2],
  .seq (.region [⟨(some 2), none, (.op (.mv (.c .sn)))⟩])
   (.live [0] (.seq (.region [⟨(some 3), none, (.op (.mv (.t 0)))⟩,
    ⟨(some 4), none, (.op (.bin .int true .shr (.t 3) (.c (.i .u64 24))))⟩,
    ⟨(some 5), none, (.op (.toInt .u8 (.t 4)))⟩,
    ⟨(some 6), none, (.op (.mv (.t 0)))⟩,
    ⟨(some 7), none, (.op (.bin .int true .shr (.t 6) (.c (.i .u64 16))))⟩,
    ⟨(some 8), none, (.op (.toInt .u8 (.t 7)))⟩,
    ⟨(some 9), none, (.op (.mv (.t 0)))⟩,
    ⟨(some 10), none, (.op (.bin .int true .shr (.t 9) (.c (.i .u64 8))))⟩,
    ⟨(some 11), none, (.op (.toInt .u8 (.t 10)))⟩,
    ⟨(some 12), none, (.op (.mv (.t 0)))⟩,
    ⟨(some 13), none, (.op (.toInt .u8 (.t 12)))⟩,
    ⟨(some 14), none, (.op (.bslice [(.i .u8 0)] 4 [(0, 1, (.t 5)), (1, 1, (.t 8)), (2, 1, (.t 11)), (3, 1, (.t 13))]))⟩,
    ⟨(some 2), none, (.op (.mv (.t 14)))⟩])
   (.ret))),
  []⟩


/- floodgate/crc.Of -/
def c246l0 : ICode :=
  .seq (.region [⟨(some 9), none, (.op (.bin .int false .lss (.t 8) (.t 7)))⟩])
   (.live [6, 7, 8, 3, 9] (.seq (.cond (.t 9) (.skip)
   (.exit 0))
   (.live [6, 7, 8, 3] (.seq (.block 1 (.seq (.region [⟨(some 10), none, (.op (.iaddr none 1 (.t 6) (.t 8)))⟩,
    ⟨(some 11), none, (.op (.load none (.t 10)))⟩,
    ⟨(some 5), none, (.op (.mv (.t 11)))⟩])
   (.live [6, 7, 8, 5, 3] (.region [⟨(some 12), none, (.op (.mv (.t 3)))⟩,
    ⟨(some 13), none, (.op (.mv (.t 5)))⟩,
    ⟨(some 14), none, (.call 269 [(.t 12), (.t 13)])⟩,
    ⟨(some 3), none, (.op (.mv (.t 14)))⟩]))))
   (.live [6, 7, 3, 8] (.region [⟨(some 15), none, (.op (.bin .int true .add (.t 8) (.c (.i .i64 1))))⟩,
    ⟨(some 8), none, (.op (.mv (.t 15)))⟩]))))))
def c246 : IFunc := ⟨1, [.tmp 2],
  .seq (.region [⟨(some 2), none, (.op (.mv (.c (.i .u32 0))))⟩])
   (.live [0] (.seq (.region [⟨(some 3), none, (.op (.mv (.c (.i .u32 0))))⟩])
   (.live [3, 0] (.seq (.seq (.region [⟨(some 6), none, (.op (.mv (.t 0)))⟩,
    ⟨(some 7), none, (.op (.len .slice (.t 6)))⟩,
    ⟨(some 8), none, (.op (.mv (.c (.i .i64 0))))⟩])
   (.live [6, 7, 8, 3] (.block 0 (.loop [6, 7, 8, 3] c246l0))))
   (.live [3] (.seq (.region [⟨(some 16), none, (.op (.mv (.t 3)))⟩,
    ⟨(some 2), none, (.op (.mv (.t 16)))⟩])
   (.ret))))))),
  []⟩


/- slices.Backward[[]byte,byte] -/

def c247 : IFunc := ⟨1, [.tmp 2],
  .seq (.region [⟨(some 1), none, (.op (.box (.t 0)))⟩,
    ⟨(some 2), none, (.op (.mv (.c .nf)))⟩])
   (.live [1] (.seq (.region [⟨(some 3), none, (.op (.mkf (.func 270) [] [(.t 1)]))⟩,
    ⟨(some 2), none, (.op (.mv (.t 3)))⟩])
   (.ret))),
  []⟩


/- floodgate/slot.value -/

def c258 : IFunc := ⟨1, [.tmp 2],
  .seq (.region [⟨(some 2), none, (.op (.mv (.c (.b false))))⟩])
   (.live [0] (.seq (.region [⟨(some 3), none, (.op (.mv (.t 0)))⟩,
    ⟨(some 4), none, (.op (.bin .int true .geq (.t 3) (.c (.i .u64 1))))⟩,
    ⟨(some 5), none, (.op (.mv (.t 4)))⟩,
    ⟨(some 6), some (5, true), (.op (.mv (.t 0)))⟩,
    ⟨(some 7), some (5, true), (.op (.bin .int true .leq (.t 6) (.c (.i .u64 281474976710656))))⟩,
    ⟨(some 8), none, (.op (.pick (.t 5) (.t 7) (.c (.b false))))⟩,
    ⟨(some 2), none, (.op (.mv (.t 8)))⟩])
   (.ret))),
  []⟩


/- floodgate/crc.More -/
def c269l0 : ICode :=
  .seq (.region [⟨(some 13), none, (.op (.bin .int false .lss (.t 12) (.t 11)))⟩])
   (.live [10, 11, 12, 5, 13] (.seq (.cond (.t 13) (.skip)
   (.exit 0))
   (.live [10, 11, 12, 5] (.seq (.block 1 (.seq (.region [⟨(some 14), none, (.op (.iaddr none 1 (.t 10) (.t 12)))⟩,
    ⟨(some 15), none, (.op (.load none (.t 14)))⟩,
    ⟨(some 7), none, (.op (.mv (.t 15)))⟩])
   (.live [10, 11, 12, 7, 5] (.region [⟨(some 16), none, (.op (.mv (.t 5)))⟩,
    ⟨(some 17), none, (.op (.mv (.t 7)))⟩,
    ⟨(some 18), none, (.call 292 [(.t 16), (.t 17)])⟩,
    ⟨(some 5), none, (.op (.mv (.t 18)))⟩]))))
   (.live [10, 11, 5, 12] (.region [⟨(some 19), none, (.op (.bin .int true .add (.t 12) (.c (.i .i64 1))))⟩,
    ⟨(some 12), none, (.op (.mv (.t 19)))⟩]))))))
def c269 : IFunc := ⟨2, [.tmp 4],
  .seq (.region [⟨(some 4), none, (.op (.mv (.c (.i .u32 0))))⟩])
   (.live [1, 0] (.seq (.region [⟨(some 8), none, (.op (.mv (.t 0)))⟩,
    ⟨(some 9), none, (.op (.un .xor (.t 8)))⟩,
    ⟨(some 5), none, (.op (.mv (.t 9)))⟩])
   (.live [5, 1] (.seq (.seq (.region [⟨(some 10), none, (.op (.mv (.t 1)))⟩,
    ⟨(some 11), none, (.op (.len .slice (.t 10)))⟩,
    ⟨(some 12), none, (.op (.mv (.c (.i .i64 0))))⟩])
   (.live [10, 11, 12, 5] (.block 0 (.loop [10, 11, 12, 5] c269l0))))
   (.live [5] (.seq (.region [⟨(some 20), none, (.op (.mv (.t 5)))⟩,
    ⟨(some 21), none, (.op (.un .xor (.t 20)))⟩,
    ⟨(some 4), none, (.op (.mv (.t 21)))⟩])
   (.ret))))))),
  []⟩


/- slices.Backward[[]byte,byte]$1 -/
def c270l0 : ICode :=
  .seq (.seq (.region [⟨(some 7), none, (.op (.mv (.t 3)))⟩,
    ⟨(some 8), none, (.op (.bin .int true .geq (.t 7) (.c (.i .i64 0))))⟩])
   (.live [1, 0, 3, 8] (.cond (.t 8) (.skip)
   (.exit 0))))
   (.live [1, 0, 3] (.seq (.block 1 (.seq (.region [⟨(some 11), none, (.op (.mv (.t 0)))⟩,
    ⟨(some 12), none, (.op (.mv (.t 3)))⟩,
    ⟨(some 13), none, (.op (.load none (.t 1)))⟩,
    ⟨(some 14), none, (.op (.mv (.t 3)))⟩,
    ⟨(some 15), none, (.op (.iaddr none 1 (.t 13) (.t 14)))⟩,
    ⟨(some 16), none, (.op (.load none (.t 15)))⟩,
    ⟨(some 17), none, (.callv (.t 11) [(.t 12), (.t 16)])⟩,
    ⟨(some 18), none, (.op (.un .not (.t 17)))⟩])
   (.live [1, 0, 3, 18] (.cond (.t 18) (.ret)
   (.skip)))))
   (.live [1, 0, 3] (.region [⟨(some 9), none, (.op (.mv (.t 3)))⟩,
    ⟨(some 10), none, (.op (.bin .int true .sub (.t 9) (.c (.i .i64 1))))⟩,
    ⟨(some 3), none, (.op (.mv (.t 10)))⟩]))))
def c270 : IFunc := ⟨2, [],
  .seq (.region [⟨(some 4), none, (.op (.load none (.t 1)))⟩,
    ⟨(some 5), none, (.op (.len .slice (.t 4)))⟩,
    ⟨(some 6), none, (.op (.bin .int true .sub (.t 5) (.c (.i .i64 1))))⟩,
    ⟨(some 3), none, (.op (.mv (.t 6)))⟩])
   (.live [1, 0, 3] (.block 0 (.loop [1, 0, 3] c270l0))),
  []⟩


/- floodgate/crc.step -/
def c292k0 : ICode :=
  .seq (.skip)
   (.live [5, 0] (.seq (.region [⟨(some 12), none, (.op (.mv (.t 0)))⟩,
    ⟨(some 13), none, (.op (.bin .int true .shr (.t 12) (.c (.i .u64 31))))⟩,
    ⟨(some 6), none, (.op (.mv (.t 13)))⟩])
   (.live [5, 6, 0] (.seq (.region [⟨(some 14), none, (.op (.mv (.t 0)))⟩,
    ⟨(some 15), none, (.op (.bin .int true .shl (.t 14) (.c (.i .u64 1))))⟩,
    ⟨(some 16), none, (.op (.mv (.t 6)))⟩,
    ⟨(some 17), none, (.op (.bin .int true .mul (.c (.i .u32 79764919)) (.t 16)))⟩,
    ⟨(some 18), none, (.op (.bin .int false .xor (.t 15) (.t 17)))⟩,
    ⟨(some 0), none, (.op (.mv (.t 18)))⟩])
   (.live [0, 5] (.seq (.seq (.region [⟨(some 19), none, (.op (.mv (.t 5)))⟩,
    ⟨(some 20), none, (.op (.bin .int true .add (.t 19) (.c (.i .i64 1))))⟩,
    ⟨(some 5), none, (.op (.mv (.t 20)))⟩])
   (.live [5, 0] (.seq (.region [⟨(some 21), none, (.op (.mv (.t 5)))⟩,
    ⟨(some 22), none, (.op (.bin .int true .lss (.t 21) (.c (.i .i64 8))))⟩])
   (.live [5, 0, 22] (.cond (.t 22) (.goto 0)
   (.skip))))))
   (.live [0] (.seq (.region [⟨(some 23), none, (.op (.mv (.t 0)))⟩,
    ⟨(some 4), none, (.op (.mv (.t 23)))⟩])
   (.ret)))))))))
def c292 : IFunc := ⟨2, [.tmp 4],
  .seq (.region [⟨(some 4), none, (.op (.mv (.c (.i .u32 0))))⟩])
   (.live [1, 0] (.scope [5, 0] (.seq (.region [⟨(some 7), none, (.op (.mv (.t 0)))⟩,
    ⟨(some 8), none, (.op (.mv (.t 1)))⟩,
    ⟨(some 9), none, (.op (.toInt .u32 (.t 8)))⟩,
    ⟨(some 10), none, (.op (.bin .int true .shl (.t 9) (.c (.i .u64 24))))⟩,
    ⟨(some 11), none, (.op (.bin .int false .xor (.t 7) (.t 10)))⟩,
    ⟨(some 0), none, (.op (.mv (.t 11)))⟩])
   (.live [0] (.seq (.region [⟨(some 5), none, (.op (.mv (.c (.i .i64 0))))⟩])
   (.live [5, 0] (.seq (.skip)
   (.live [5, 0] (.seq (.region [⟨(some 12), none, (.op (.mv (.t 0)))⟩,
    ⟨(some 13), none, (.op (.bin .int true .shr (.t 12) (.c (.i .u64 31))))⟩,
    ⟨(some 6), none, (.op (.mv (.t 13)))⟩])
   (.live [5, 6, 0] (.seq (.region [⟨(some 14), none, (.op (.mv (.t 0)))⟩,
    ⟨(some 15), none, (.op (.bin .int true .shl (.t 14) (.c (.i .u64 1))))⟩,
    ⟨(some 16), none, (.op (.mv (.t 6)))⟩,
    ⟨(some 17), none, (.op (.bin .int true .mul (.c (.i .u32 79764919)) (.t 16)))⟩,
    ⟨(some 18), none, (.op (.bin .int false .xor (.t 15) (.t 17)))⟩,
    ⟨(some 0), none, (.op (.mv (.t 18)))⟩])
   (.live [0, 5] (.seq (.seq (.region [⟨(some 19), none, (.op (.mv (.t 5)))⟩,
    ⟨(some 20), none, (.op (.bin .int true .add (.t 19) (.c (.i .i64 1))))⟩,
    ⟨(some 5), none, (.op (.mv (.t 20)))⟩])
   (.live [5, 0] (.seq (.region [⟨(some 21), none, (.op (.mv (.t 5)))⟩,
    ⟨(some 22), none, (.op (.bin .int true .lss (.t 21) (.c (.i .i64 8))))⟩])
   (.live [5, 0, 22] (.cond (.t 22) (.goto 0)
   (.skip))))))
   (.live [0] (.seq (.region [⟨(some 23), none, (.op (.mv (.t 0)))⟩,
    ⟨(some 4), none, (.op (.mv (.t 23)))⟩])
   (.ret)))))))))))))) 0 c292k0)),
  []⟩


set_option maxRecDepth 1000000
theorem f3 : compFunc Tryz.prog 3 = some (stripF c3) := by kernel_rfl
theorem f7 : compFunc Tryz.prog 7 = some (stripF c7) := by kernel_rfl
theorem f8 : compFunc Tryz.prog 8 = some (stripF c8) := by kernel_rfl
theorem f9 : compFunc Tryz.prog 9 = some (stripF c9) := by kernel_rfl
theorem f10 : compFunc Tryz.prog 10 = some (stripF c10) := by kernel_rfl
theorem f12 : compFunc Tryz.prog 12 = some (stripF c12) := by kernel_rfl
theorem f15 : compFunc Tryz.prog 15 = some (stripF c15) := by kernel_rfl
theorem f17 : compFunc Tryz.prog 17 = some (stripF c17) := by kernel_rfl
theorem f20 : compFunc Tryz.prog 20 = some (stripF c20) := by kernel_rfl
theorem f21 : compFunc Tryz.prog 21 = some (stripF c21) := by kernel_rfl
theorem f22 : compFunc Tryz.prog 22 = some (stripF c22) := by kernel_rfl
theorem f23 : compFunc Tryz.prog 23 = some (stripF c23) := by kernel_rfl
theorem f24 : compFunc Tryz.prog 24 = some (stripF c24) := by kernel_rfl
theorem f25 : compFunc Tryz.prog 25 = some (stripF c25) := by kernel_rfl
theorem f26 : compFunc Tryz.prog 26 = some (stripF c26) := by kernel_rfl
theorem f27 : compFunc Tryz.prog 27 = some (stripF c27) := by kernel_rfl
theorem f32 : compFunc Tryz.prog 32 = some (stripF c32) := by kernel_rfl
theorem f33 : compFunc Tryz.prog 33 = some (stripF c33) := by kernel_rfl
theorem f34 : compFunc Tryz.prog 34 = some (stripF c34) := by kernel_rfl
theorem f35 : compFunc Tryz.prog 35 = some (stripF c35) := by kernel_rfl
theorem f39 : compFunc Tryz.prog 39 = some (stripF c39) := by kernel_rfl
theorem f40 : compFunc Tryz.prog 40 = some (stripF c40) := by kernel_rfl
theorem f41 : compFunc Tryz.prog 41 = some (stripF c41) := by kernel_rfl
theorem f42 : compFunc Tryz.prog 42 = some (stripF c42) := by kernel_rfl
theorem f45 : compFunc Tryz.prog 45 = some (stripF c45) := by kernel_rfl
theorem f47 : compFunc Tryz.prog 47 = some (stripF c47) := by kernel_rfl
theorem f51 : compFunc Tryz.prog 51 = some (stripF c51) := by kernel_rfl
theorem f58 : compFunc Tryz.prog 58 = some (stripF c58) := by kernel_rfl
theorem f59 : compFunc Tryz.prog 59 = some (stripF c59) := by kernel_rfl
theorem f60 : compFunc Tryz.prog 60 = some (stripF c60) := by kernel_rfl
theorem f65 : compFunc Tryz.prog 65 = some (stripF c65) := by kernel_rfl
theorem f66 : compFunc Tryz.prog 66 = some (stripF c66) := by kernel_rfl
theorem f67 : compFunc Tryz.prog 67 = some (stripF c67) := by kernel_rfl
theorem f68 : compFunc Tryz.prog 68 = some (stripF c68) := by kernel_rfl
theorem f69 : compFunc Tryz.prog 69 = some (stripF c69) := by kernel_rfl
theorem f70 : compFunc Tryz.prog 70 = some (stripF c70) := by kernel_rfl
theorem f71 : compFunc Tryz.prog 71 = some (stripF c71) := by kernel_rfl
theorem f79 : compFunc Tryz.prog 79 = some (stripF c79) := by kernel_rfl
theorem f92 : compFunc Tryz.prog 92 = some (stripF c92) := by kernel_rfl
theorem f104 : compFunc Tryz.prog 104 = some (stripF c104) := by kernel_rfl
theorem f106 : compFunc Tryz.prog 106 = some (stripF c106) := by kernel_rfl
theorem f107 : compFunc Tryz.prog 107 = some (stripF c107) := by kernel_rfl
theorem f108 : compFunc Tryz.prog 108 = some (stripF c108) := by kernel_rfl
theorem f109 : compFunc Tryz.prog 109 = some (stripF c109) := by kernel_rfl
theorem f110 : compFunc Tryz.prog 110 = some (stripF c110) := by kernel_rfl
theorem f124 : compFunc Tryz.prog 124 = some (stripF c124) := by kernel_rfl
theorem f138 : compFunc Tryz.prog 138 = some (stripF c138) := by kernel_rfl
theorem f139 : compFunc Tryz.prog 139 = some (stripF c139) := by kernel_rfl
theorem f148 : compFunc Tryz.prog 148 = some (stripF c148) := by kernel_rfl
theorem f149 : compFunc Tryz.prog 149 = some (stripF c149) := by kernel_rfl
theorem f150 : compFunc Tryz.prog 150 = some (stripF c150) := by kernel_rfl
theorem f161 : compFunc Tryz.prog 161 = some (stripF c161) := by kernel_rfl
theorem f168 : compFunc Tryz.prog 168 = some (stripF c168) := by kernel_rfl
theorem f170 : compFunc Tryz.prog 170 = some (stripF c170) := by kernel_rfl
theorem f171 : compFunc Tryz.prog 171 = some (stripF c171) := by kernel_rfl
theorem f172 : compFunc Tryz.prog 172 = some (stripF c172) := by kernel_rfl
theorem f180 : compFunc Tryz.prog 180 = some (stripF c180) := by kernel_rfl
theorem f194 : compFunc Tryz.prog 194 = some (stripF c194) := by kernel_rfl
theorem f195 : compFunc Tryz.prog 195 = some (stripF c195) := by kernel_rfl
theorem f196 : compFunc Tryz.prog 196 = some (stripF c196) := by kernel_rfl
theorem f200 : compFunc Tryz.prog 200 = some (stripF c200) := by kernel_rfl
theorem f201 : compFunc Tryz.prog 201 = some (stripF c201) := by kernel_rfl
theorem f202 : compFunc Tryz.prog 202 = some (stripF c202) := by kernel_rfl
theorem f213 : compFunc Tryz.prog 213 = some (stripF c213) := by kernel_rfl
theorem f214 : compFunc Tryz.prog 214 = some (stripF c214) := by kernel_rfl
theorem f215 : compFunc Tryz.prog 215 = some (stripF c215) := by kernel_rfl
theorem f217 : compFunc Tryz.prog 217 = some (stripF c217) := by kernel_rfl
theorem f218 : compFunc Tryz.prog 218 = some (stripF c218) := by kernel_rfl
theorem f219 : compFunc Tryz.prog 219 = some (stripF c219) := by kernel_rfl
theorem f220 : compFunc Tryz.prog 220 = some (stripF c220) := by kernel_rfl
theorem f234 : compFunc Tryz.prog 234 = some (stripF c234) := by kernel_rfl
theorem f235 : compFunc Tryz.prog 235 = some (stripF c235) := by kernel_rfl
theorem f236 : compFunc Tryz.prog 236 = some (stripF c236) := by kernel_rfl
theorem f245 : compFunc Tryz.prog 245 = some (stripF c245) := by kernel_rfl
theorem f246 : compFunc Tryz.prog 246 = some (stripF c246) := by kernel_rfl
theorem f247 : compFunc Tryz.prog 247 = some (stripF c247) := by kernel_rfl
theorem f258 : compFunc Tryz.prog 258 = some (stripF c258) := by kernel_rfl
theorem f269 : compFunc Tryz.prog 269 = some (stripF c269) := by kernel_rfl
theorem f270 : compFunc Tryz.prog 270 = some (stripF c270) := by kernel_rfl
theorem f292 : compFunc Tryz.prog 292 = some (stripF c292) := by kernel_rfl
end Go.Proofs.YtmolaemlenllmaaGreat
