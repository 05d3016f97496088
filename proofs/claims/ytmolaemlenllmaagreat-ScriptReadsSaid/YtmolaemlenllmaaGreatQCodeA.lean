/- Proved here: the code of the functions, written out, is what the compiler makes of the program. No condition. -/
import Derived.Test.YtmolaemlenllmaaGreatMc
import Derived.Test.YtmolaemlenllmaaGreatRows
namespace Go.Proofs.YtmolaemlenllmaaGreat
open Go.RowKit

/- floodgate/floodgatelaw22.ScriptReads -/

def c5 : IFunc := ⟨1, [.tmp 2],
  .seq (.region [⟨(some 2), none, (.op (.mv (.c (.b false))))⟩])
   (.live [0] (.seq (.seq (.region [⟨(some 9), none, (.call 10 [])⟩,
    ⟨(some 10), none, (.op (.un .not (.t 9)))⟩])
   (.live [0, 10] (.cond (.t 10) (.seq (.region [⟨(some 2), none, (.op (.mv (.c (.b false))))⟩])
   (.ret))
   (.skip))))
   (.live [0] (.seq (.seq (.region [⟨(some 11), none, (.op (.mv (.t 0)))⟩,
    ⟨(some 12), none, (.op (.len .slice (.t 11)))⟩,
    ⟨(some 13), none, (.op (.bin .int true .gtr (.t 12) (.c (.i .i64 20000))))⟩])
   (.live [0, 13] (.cond (.t 13) (.seq (.region [⟨(some 2), none, (.op (.mv (.c (.b true))))⟩])
   (.ret))
   (.skip))))
   (.live [0] (.seq (.region [⟨(some 15), none, (.op (.bslice [(.i .u8 0)] 0 []))⟩,
    ⟨(some 16), none, (.op (.mv (.t 0)))⟩,
    ⟨(some 17), none, (.op (.app 1 1 (.t 15) (.t 16)))⟩,
    ⟨(some 18), none, (.call 17 [(.t 17)])⟩,
    ⟨(some 14), none, (.op (.mv (.t 18)))⟩,
    ⟨(some 19), none, (.op (.ext (.t 14) 0))⟩,
    ⟨(some 20), none, (.op (.ext (.t 14) 1))⟩,
    ⟨(some 21), none, (.op (.ext (.t 14) 2))⟩,
    ⟨(some 3), none, (.op (.fresh [(.i .i64 0), (.i .i64 0), (.i .u64 0)]))⟩,
    ⟨none, none, (.op (.store 3 (.t 3) (.t 19)))⟩,
    ⟨(some 4), none, (.op (.mv (.t 20)))⟩,
    ⟨(some 5), none, (.op (.mv (.t 21)))⟩])
   (.live [5, 4, 3, 0] (.seq (.region [⟨(some 23), none, (.op (.mv (.t 0)))⟩,
    ⟨(some 24), none, (.call 18 [(.t 23)])⟩,
    ⟨(some 22), none, (.op (.mv (.t 24)))⟩,
    ⟨(some 25), none, (.op (.ext (.t 22) 0))⟩,
    ⟨(some 26), none, (.op (.ext (.t 22) 1))⟩,
    ⟨(some 27), none, (.op (.ext (.t 22) 2))⟩,
    ⟨(some 6), none, (.op (.fresh [(.i .i64 0), (.i .i64 0), (.i .u64 0)]))⟩,
    ⟨none, none, (.op (.store 3 (.t 6) (.t 25)))⟩,
    ⟨(some 7), none, (.op (.mv (.t 26)))⟩,
    ⟨(some 8), none, (.op (.mv (.t 27)))⟩])
   (.live [8, 5, 7, 4, 6, 3] (.seq (.region [⟨(some 28), none, (.op (.load (some 3) (.t 3)))⟩,
    ⟨(some 29), none, (.op (.load (some 3) (.t 6)))⟩,
    ⟨(some 30), none, (.op (.eqag false [.int, .int, .int] (.t 28) (.t 29)))⟩,
    ⟨(some 31), none, (.op (.mv (.t 30)))⟩,
    ⟨(some 32), some (31, true), (.op (.mv (.t 4)))⟩,
    ⟨(some 33), some (31, true), (.op (.mv (.t 7)))⟩,
    ⟨(some 34), some (31, true), (.call 19 [(.t 32), (.t 33)])⟩,
    ⟨(some 35), none, (.op (.pick (.t 31) (.t 34) (.c (.b false))))⟩,
    ⟨(some 36), none, (.op (.mv (.t 35)))⟩,
    ⟨(some 37), some (36, true), (.op (.mv (.t 5)))⟩,
    ⟨(some 38), some (36, true), (.op (.mv (.t 8)))⟩,
    ⟨(some 39), some (36, true), (.op (.bin .int false .eql (.t 37) (.t 38)))⟩,
    ⟨(some 40), none, (.op (.pick (.t 36) (.t 39) (.c (.b false))))⟩,
    ⟨(some 2), none, (.op (.mv (.t 40)))⟩])
   (.ret))))))))))),
  []⟩


/- floodgate/script.Bytes -/
def c7d0 : List Stage :=
  [⟨[(⟨(some 12), none, (.op (.faddr 0 (.t 2)))⟩, 0), (⟨(some 13), none, (.op (.load none (.t 12)))⟩, 0), (⟨(some 15), none, (.op (.faddr 1 (.t 2)))⟩, 1), (⟨(some 16), none, (.op (.load none (.t 15)))⟩, 1), (⟨(some 18), none, (.op (.faddr 2 (.t 2)))⟩, 2), (⟨(some 19), none, (.op (.load none (.t 18)))⟩, 2), (⟨(some 20), none, (.op (.mv (.t 1)))⟩, 2), (⟨(some 21), none, (.op (.len .slice (.t 20)))⟩, 2), (⟨(some 22), none, (.op (.toInt .u64 (.t 21)))⟩, 2)], none, some ⟨(some 14), none, (.call 22 [(.t 13)])⟩⟩,
    ⟨[], none, some ⟨(some 17), none, (.call 22 [(.t 16)])⟩⟩,
    ⟨[], none, some ⟨(some 23), none, (.op (.bslice [(.i .u64 0)] 4 [(0, 1, (.t 14)), (1, 1, (.t 17)), (2, 1, (.t 19)), (3, 1, (.t 22))]))⟩⟩,
    ⟨[], none, some ⟨(some 24), none, (.call 21 [(.t 23)])⟩⟩,
    ⟨[(⟨(some 6), none, (.op (.mv (.t 24)))⟩, 4)], none, none⟩]
def c7d0w : List (ROp × Bool) :=
  [(⟨(some 12), none, (.op (.faddr 0 (.t 2)))⟩, false), (⟨(some 13), none, (.op (.load none (.t 12)))⟩, false), (⟨(some 15), none, (.op (.faddr 1 (.t 2)))⟩, false), (⟨(some 16), none, (.op (.load none (.t 15)))⟩, false), (⟨(some 18), none, (.op (.faddr 2 (.t 2)))⟩, false), (⟨(some 19), none, (.op (.load none (.t 18)))⟩, false), (⟨(some 20), none, (.op (.mv (.t 1)))⟩, false), (⟨(some 21), none, (.op (.len .slice (.t 20)))⟩, false), (⟨(some 22), none, (.op (.toInt .u64 (.t 21)))⟩, false), (⟨(some 14), none, (.call 22 [(.t 13)])⟩, true), (⟨(some 17), none, (.call 22 [(.t 16)])⟩, true), (⟨(some 23), none, (.op (.bslice [(.i .u64 0)] 4 [(0, 1, (.t 14)), (1, 1, (.t 17)), (2, 1, (.t 19)), (3, 1, (.t 22))]))⟩, false), (⟨(some 24), none, (.call 21 [(.t 23)])⟩, false), (⟨(some 6), none, (.op (.mv (.t 24)))⟩, false)]
theorem c7d0_w {P : Program} {O : Orc} {S0 : Mem} {rd : Bool} {e : Env} {S : Mem} {d : List Nat} {Q : Kont} : W P O S0 rd (.draw c7d0 []) e S d Q = wFl O c7d0w e S (normK Q d) := W_draw' (by kernel_rfl) (by kernel_rfl)
attribute [go_sem] c7d0_w c7d0w
def c7l1 : ICode :=
  .seq (.region [⟨(some 28), none, (.op (.bin .int false .lss (.t 27) (.t 26)))⟩])
   (.live [25, 26, 27, 6, 28] (.seq (.cond (.t 28) (.skip)
   (.exit 0))
   (.live [25, 26, 27, 6] (.seq (.block 1 (.seq (.region [⟨(some 29), none, (.op (.iaddr none 19 (.t 25) (.t 27)))⟩,
    ⟨(some 30), none, (.op (.load (some 19) (.t 29)))⟩,
    ⟨(some 8), none, (.op (.fresh [(.i .i64 0), (.i .i64 0), (.i .i64 0), (.i .u64 0), .sn, (.i .i64 0), (.i .u8 0), (.i .u8 0), (.i .u8 0), (.i .u8 0), (.i .i64 0), (.i .u64 0), (.i .u64 0), (.i .u64 0), (.i .u64 0), (.i .u64 0), (.i .u64 0), (.i .u64 0), .sn]))⟩,
    ⟨none, none, (.op (.store 19 (.t 8) (.t 30)))⟩])
   (.live [25, 26, 27, 8, 6] (.region [⟨(some 31), none, (.op (.mv (.t 6)))⟩,
    ⟨(some 32), none, (.op (.load (some 19) (.t 8)))⟩,
    ⟨(some 33), none, (.call 23 [(.t 32)])⟩,
    ⟨(some 34), none, (.op (.app 1 1 (.t 31) (.t 33)))⟩,
    ⟨(some 6), none, (.op (.mv (.t 34)))⟩]))))
   (.live [25, 26, 6, 27] (.region [⟨(some 35), none, (.op (.bin .int true .add (.t 27) (.c (.i .i64 1))))⟩,
    ⟨(some 27), none, (.op (.mv (.t 35)))⟩]))))))
def c7 : IFunc := ⟨2, [.tmp 4, .tmp 5],
  .seq (.region [⟨(some 2), none, (.op (.box (.t 0)))⟩,
    ⟨(some 4), none, (.op (.mv (.c .sn)))⟩,
    ⟨(some 5), none, (.op (.mv (.c (.i .i64 0))))⟩])
   (.live [1, 2] (.seq (.seq (.region [⟨(some 9), none, (.op (.mv (.t 1)))⟩,
    ⟨(some 10), none, (.call 20 [(.t 9)])⟩,
    ⟨(some 11), none, (.op (.un .not (.t 10)))⟩])
   (.live [1, 2, 11] (.cond (.t 11) (.seq (.region [⟨(some 4), none, (.op (.mv (.c .sn)))⟩,
    ⟨(some 5), none, (.op (.mv (.c (.i .i64 221))))⟩])
   (.ret))
   (.skip))))
   (.live [1, 2] (.seq (.draw c7d0 [])
   (.live [6, 1] (.seq (.seq (.region [⟨(some 25), none, (.op (.mv (.t 1)))⟩,
    ⟨(some 26), none, (.op (.len .slice (.t 25)))⟩,
    ⟨(some 27), none, (.op (.mv (.c (.i .i64 0))))⟩])
   (.live [25, 26, 27, 6] (.block 0 (.loop [25, 26, 27, 6] c7l1))))
   (.live [6] (.seq (.region [⟨(some 36), none, (.op (.mv (.t 6)))⟩,
    ⟨(some 4), none, (.op (.mv (.t 36)))⟩,
    ⟨(some 5), none, (.op (.mv (.c (.i .i64 0))))⟩])
   (.ret))))))))),
  []⟩


/- floodgate/script.Run -/
def c8l0 : ICode :=
  .seq (.region [⟨(some 23), none, (.op (.bin .int false .lss (.t 22) (.t 21)))⟩])
   (.live [6, 20, 21, 22, 8, 23] (.seq (.cond (.t 23) (.skip)
   (.exit 0))
   (.live [6, 20, 21, 22, 8] (.seq (.block 1 (.seq (.region [⟨(some 24), none, (.op (.iaddr none 19 (.t 20) (.t 22)))⟩,
    ⟨(some 25), none, (.op (.load (some 19) (.t 24)))⟩,
    ⟨(some 10), none, (.op (.fresh [(.i .i64 0), (.i .i64 0), (.i .i64 0), (.i .u64 0), .sn, (.i .i64 0), (.i .u8 0), (.i .u8 0), (.i .u8 0), (.i .u8 0), (.i .i64 0), (.i .u64 0), (.i .u64 0), (.i .u64 0), (.i .u64 0), (.i .u64 0), (.i .u64 0), (.i .u64 0), .sn]))⟩,
    ⟨none, none, (.op (.store 19 (.t 10) (.t 25)))⟩])
   (.live [6, 20, 21, 22, 10, 8] (.region [⟨(some 26), none, (.op (.mv (.t 8)))⟩,
    ⟨(some 27), none, (.op (.mv (.t 6)))⟩,
    ⟨(some 28), none, (.op (.load (some 19) (.t 10)))⟩,
    ⟨(some 29), none, (.call 25 [(.t 27), (.t 28)])⟩,
    ⟨(some 30), none, (.op (.bslice [(.i .i64 0), (.i .i64 0), (.b false), (.i .i64 0), (.i .i64 0), (.b false), .sn, (.i .u64 0), (.i .i64 0), (.b false), (.i .i64 0), (.i .u8 0), (.i .u8 0), (.i .u8 0), (.i .u8 0), (.i .i64 0), (.i .u64 0), (.i .u64 0), (.i .u64 0), (.i .u64 0), (.i .u64 0), (.i .u64 0), (.i .u64 0), (.i .u64 0), (.i .u64 0), (.i .i64 0), (.i .u64 0), (.i .u64 0)] 1 [(0, 28, (.t 29))]))⟩,
    ⟨(some 31), none, (.op (.app 28 216 (.t 26) (.t 30)))⟩,
    ⟨(some 8), none, (.op (.mv (.t 31)))⟩]))))
   (.live [6, 20, 21, 8, 22] (.region [⟨(some 32), none, (.op (.bin .int true .add (.t 22) (.c (.i .i64 1))))⟩,
    ⟨(some 22), none, (.op (.mv (.t 32)))⟩]))))))
def c8 : IFunc := ⟨2, [.tmp 4, .tmp 5],
  .seq (.region [⟨(some 2), none, (.op (.box (.t 0)))⟩,
    ⟨(some 4), none, (.op (.mv (.c .sn)))⟩,
    ⟨(some 5), none, (.op (.mv (.c (.i .i64 0))))⟩])
   (.live [1, 2] (.seq (.region [⟨(some 12), none, (.op (.load (some 3) (.t 2)))⟩,
    ⟨(some 13), none, (.op (.mv (.t 1)))⟩,
    ⟨(some 14), none, (.call 24 [(.t 12), (.t 13)])⟩,
    ⟨(some 11), none, (.op (.mv (.t 14)))⟩,
    ⟨(some 15), none, (.op (.ext (.t 11) 0))⟩,
    ⟨(some 16), none, (.op (.ext (.t 11) 1))⟩,
    ⟨(some 6), none, (.op (.mv (.t 15)))⟩,
    ⟨(some 7), none, (.op (.mv (.t 16)))⟩])
   (.live [7, 6, 1] (.seq (.seq (.region [⟨(some 17), none, (.op (.mv (.t 7)))⟩,
    ⟨(some 18), none, (.op (.bin .int true .neq (.t 17) (.c (.i .i64 0))))⟩])
   (.live [7, 6, 1, 18] (.cond (.t 18) (.seq (.region [⟨(some 19), none, (.op (.mv (.t 7)))⟩,
    ⟨(some 4), none, (.op (.mv (.c .sn)))⟩,
    ⟨(some 5), none, (.op (.mv (.t 19)))⟩])
   (.ret))
   (.skip))))
   (.live [6, 1] (.seq (.region [⟨(some 8), none, (.op (.mv (.c .sn)))⟩])
   (.live [6, 8, 1] (.seq (.seq (.region [⟨(some 20), none, (.op (.mv (.t 1)))⟩,
    ⟨(some 21), none, (.op (.len .slice (.t 20)))⟩,
    ⟨(some 22), none, (.op (.mv (.c (.i .i64 0))))⟩])
   (.live [6, 20, 21, 22, 8] (.block 0 (.loop [6, 20, 21, 22, 8] c8l0))))
   (.live [8] (.seq (.region [⟨(some 33), none, (.op (.mv (.t 8)))⟩,
    ⟨(some 4), none, (.op (.mv (.t 33)))⟩,
    ⟨(some 5), none, (.op (.mv (.c (.i .i64 0))))⟩])
   (.ret))))))))))),
  []⟩


/- floodgate/script.Play -/

def c9 : IFunc := ⟨1, [.tmp 2, .tmp 3],
  .seq (.region [⟨(some 2), none, (.op (.mv (.c .sn)))⟩,
    ⟨(some 3), none, (.op (.mv (.c (.i .i64 0))))⟩])
   (.live [0] (.seq (.region [⟨(some 8), none, (.op (.mv (.t 0)))⟩,
    ⟨(some 9), none, (.call 17 [(.t 8)])⟩,
    ⟨(some 7), none, (.op (.mv (.t 9)))⟩,
    ⟨(some 10), none, (.op (.ext (.t 7) 0))⟩,
    ⟨(some 11), none, (.op (.ext (.t 7) 1))⟩,
    ⟨(some 12), none, (.op (.ext (.t 7) 2))⟩,
    ⟨(some 4), none, (.op (.fresh [(.i .i64 0), (.i .i64 0), (.i .u64 0)]))⟩,
    ⟨none, none, (.op (.store 3 (.t 4) (.t 10)))⟩,
    ⟨(some 5), none, (.op (.mv (.t 11)))⟩,
    ⟨(some 6), none, (.op (.mv (.t 12)))⟩])
   (.live [6, 5, 4] (.seq (.seq (.region [⟨(some 13), none, (.op (.mv (.t 6)))⟩,
    ⟨(some 14), none, (.op (.bin .int true .neq (.t 13) (.c (.i .i64 0))))⟩])
   (.live [6, 5, 4, 14] (.cond (.t 14) (.seq (.region [⟨(some 15), none, (.op (.mv (.t 6)))⟩,
    ⟨(some 2), none, (.op (.mv (.c .sn)))⟩,
    ⟨(some 3), none, (.op (.mv (.t 15)))⟩])
   (.ret))
   (.skip))))
   (.live [5, 4] (.seq (.region [⟨(some 16), none, (.op (.load (some 3) (.t 4)))⟩,
    ⟨(some 17), none, (.op (.mv (.t 5)))⟩,
    ⟨(some 18), none, (.call 8 [(.t 16), (.t 17)])⟩,
    ⟨(some 19), none, (.op (.ext (.t 18) 0))⟩,
    ⟨(some 20), none, (.op (.ext (.t 18) 1))⟩,
    ⟨(some 2), none, (.op (.mv (.t 19)))⟩,
    ⟨(some 3), none, (.op (.mv (.t 20)))⟩])
   (.ret))))))),
  []⟩


/- floodgate/floodgatelaw22.scriptAlive -/

def c10 : IFunc := ⟨0, [.tmp 0],
  .seq (.region [⟨(some 0), none, (.op (.mv (.c (.b false))))⟩])
   (.live [] (.seq (.region [⟨(some 9), none, (.op (.build [(.i .i64 0), (.i .i64 0), (.i .u64 0)] [(0, 1, (.c (.i .i64 64))), (1, 1, (.c (.i .i64 1))), (2, 1, (.c (.i .u64 9)))]))⟩,
    ⟨(some 1), none, (.op (.fresh [(.i .i64 0), (.i .i64 0), (.i .u64 0)]))⟩,
    ⟨none, none, (.op (.store 3 (.t 1) (.t 9)))⟩])
   (.live [1] (.seq (.region [⟨(some 10), none, (.op (.build [(.i .i64 0), (.i .i64 0), (.i .i64 0), (.i .u64 0), .sn, (.i .i64 0), (.i .u8 0), (.i .u8 0), (.i .u8 0), (.i .u8 0), (.i .i64 0), (.i .u64 0), (.i .u64 0), (.i .u64 0), (.i .u64 0), (.i .u64 0), (.i .u64 0), (.i .u64 0), .sn] [(0, 1, (.c (.i .i64 1))), (3, 1, (.c (.i .u64 3)))]))⟩,
    ⟨(some 11), none, (.op (.build [(.i .i64 0), (.i .i64 0), (.i .i64 0), (.i .u64 0), .sn, (.i .i64 0), (.i .u8 0), (.i .u8 0), (.i .u8 0), (.i .u8 0), (.i .i64 0), (.i .u64 0), (.i .u64 0), (.i .u64 0), (.i .u64 0), (.i .u64 0), (.i .u64 0), (.i .u64 0), .sn] [(0, 1, (.c (.i .i64 8))), (1, 1, (.c (.i .i64 1)))]))⟩,
    ⟨(some 12), none, (.op (.bslice [(.i .i64 0), (.i .i64 0), (.i .i64 0), (.i .u64 0), .sn, (.i .i64 0), (.i .u8 0), (.i .u8 0), (.i .u8 0), (.i .u8 0), (.i .i64 0), (.i .u64 0), (.i .u64 0), (.i .u64 0), (.i .u64 0), (.i .u64 0), (.i .u64 0), (.i .u64 0), .sn] 2 [(0, 19, (.t 10)), (19, 19, (.t 11))]))⟩,
    ⟨(some 2), none, (.op (.mv (.t 12)))⟩])
   (.live [2, 1] (.seq (.region [⟨(some 14), none, (.op (.load (some 3) (.t 1)))⟩,
    ⟨(some 15), none, (.op (.mv (.t 2)))⟩,
    ⟨(some 16), none, (.call 8 [(.t 14), (.t 15)])⟩,
    ⟨(some 13), none, (.op (.mv (.t 16)))⟩,
    ⟨(some 17), none, (.op (.ext (.t 13) 0))⟩,
    ⟨(some 18), none, (.op (.ext (.t 13) 1))⟩,
    ⟨(some 3), none, (.op (.mv (.t 17)))⟩,
    ⟨(some 4), none, (.op (.mv (.t 18)))⟩])
   (.live [3, 4, 2, 1] (.seq (.region [⟨(some 20), none, (.op (.load (some 3) (.t 1)))⟩,
    ⟨(some 21), none, (.op (.mv (.t 2)))⟩,
    ⟨(some 22), none, (.call 7 [(.t 20), (.t 21)])⟩,
    ⟨(some 19), none, (.op (.mv (.t 22)))⟩,
    ⟨(some 23), none, (.op (.ext (.t 19) 0))⟩,
    ⟨(some 24), none, (.op (.ext (.t 19) 1))⟩,
    ⟨(some 5), none, (.op (.mv (.t 23)))⟩,
    ⟨(some 6), none, (.op (.mv (.t 24)))⟩])
   (.live [5, 3, 6, 4] (.seq (.region [⟨(some 26), none, (.op (.mv (.t 5)))⟩,
    ⟨(some 27), none, (.call 9 [(.t 26)])⟩,
    ⟨(some 25), none, (.op (.mv (.t 27)))⟩,
    ⟨(some 28), none, (.op (.ext (.t 25) 0))⟩,
    ⟨(some 29), none, (.op (.ext (.t 25) 1))⟩,
    ⟨(some 7), none, (.op (.mv (.t 28)))⟩,
    ⟨(some 8), none, (.op (.mv (.t 29)))⟩])
   (.live [5, 7, 3, 8, 6, 4] (.seq (.region [⟨(some 30), none, (.op (.mv (.t 4)))⟩,
    ⟨(some 31), none, (.op (.bin .int true .eql (.t 30) (.c (.i .i64 0))))⟩,
    ⟨(some 32), none, (.op (.mv (.t 31)))⟩,
    ⟨(some 33), some (32, true), (.op (.mv (.t 6)))⟩,
    ⟨(some 34), some (32, true), (.op (.bin .int true .eql (.t 33) (.c (.i .i64 0))))⟩,
    ⟨(some 35), none, (.op (.pick (.t 32) (.t 34) (.c (.b false))))⟩,
    ⟨(some 36), none, (.op (.mv (.t 35)))⟩,
    ⟨(some 37), some (36, true), (.op (.mv (.t 8)))⟩,
    ⟨(some 38), some (36, true), (.op (.bin .int true .eql (.t 37) (.c (.i .i64 0))))⟩,
    ⟨(some 39), none, (.op (.pick (.t 36) (.t 38) (.c (.b false))))⟩,
    ⟨(some 40), none, (.op (.mv (.t 39)))⟩,
    ⟨(some 41), some (40, true), (.op (.mv (.t 3)))⟩,
    ⟨(some 42), some (40, true), (.op (.len .slice (.t 41)))⟩,
    ⟨(some 43), some (40, true), (.op (.bin .int true .eql (.t 42) (.c (.i .i64 2))))⟩,
    ⟨(some 44), none, (.op (.pick (.t 40) (.t 43) (.c (.b false))))⟩,
    ⟨(some 45), none, (.op (.mv (.t 44)))⟩,
    ⟨(some 46), some (45, true), (.op (.mv (.t 3)))⟩,
    ⟨(some 47), some (45, true), (.op (.iaddr none 28 (.t 46) (.c (.i .i64 1))))⟩,
    ⟨(some 48), some (45, true), (.op (.faddr 7 (.t 47)))⟩,
    ⟨(some 49), some (45, true), (.op (.faddr 0 (.t 48)))⟩,
    ⟨(some 50), some (45, true), (.op (.load none (.t 49)))⟩,
    ⟨(some 51), some (45, true), (.op (.bin .int true .eql (.t 50) (.c (.i .u64 1))))⟩,
    ⟨(some 52), none, (.op (.pick (.t 45) (.t 51) (.c (.b false))))⟩,
    ⟨(some 53), none, (.op (.mv (.t 52)))⟩,
    ⟨(some 54), some (53, true), (.op (.mv (.t 7)))⟩,
    ⟨(some 55), some (53, true), (.op (.len .slice (.t 54)))⟩,
    ⟨(some 56), some (53, true), (.op (.bin .int true .eql (.t 55) (.c (.i .i64 2))))⟩,
    ⟨(some 57), none, (.op (.pick (.t 53) (.t 56) (.c (.b false))))⟩,
    ⟨(some 58), none, (.op (.mv (.t 57)))⟩,
    ⟨(some 59), some (58, true), (.op (.mv (.t 5)))⟩,
    ⟨(some 60), some (58, true), (.op (.toStr (.t 59)))⟩,
    ⟨(some 61), some (58, true), (.op (.bin .str true .eql (.t 60) (.c (.s [128, 1, 2, 9, 2, 1, 3, 8, 2]))))⟩,
    ⟨(some 62), none, (.op (.pick (.t 58) (.t 61) (.c (.b false))))⟩,
    ⟨(some 0), none, (.op (.mv (.t 62)))⟩])
   (.ret))))))))))))),
  []⟩


/- floodgate/script.Same -/

def c12 : IFunc := ⟨2, [.tmp 4],
  .seq (.region [⟨(some 2), none, (.op (.box (.t 0)))⟩,
    ⟨(some 3), none, (.op (.box (.t 1)))⟩,
    ⟨(some 4), none, (.op (.mv (.c (.b false))))⟩])
   (.live [3, 2] (.seq (.region [⟨(some 5), none, (.op (.faddr 0 (.t 2)))⟩,
    ⟨(some 6), none, (.op (.load none (.t 5)))⟩,
    ⟨(some 7), none, (.op (.faddr 0 (.t 3)))⟩,
    ⟨(some 8), none, (.op (.load none (.t 7)))⟩,
    ⟨(some 9), none, (.op (.bin .int false .eql (.t 6) (.t 8)))⟩,
    ⟨(some 10), none, (.op (.mv (.t 9)))⟩,
    ⟨(some 11), some (10, true), (.op (.faddr 1 (.t 2)))⟩,
    ⟨(some 12), some (10, true), (.op (.load none (.t 11)))⟩,
    ⟨(some 13), some (10, true), (.op (.faddr 1 (.t 3)))⟩,
    ⟨(some 14), some (10, true), (.op (.load none (.t 13)))⟩,
    ⟨(some 15), some (10, true), (.op (.bin .int false .eql (.t 12) (.t 14)))⟩,
    ⟨(some 16), none, (.op (.pick (.t 10) (.t 15) (.c (.b false))))⟩,
    ⟨(some 17), none, (.op (.mv (.t 16)))⟩,
    ⟨(some 18), some (17, true), (.op (.faddr 2 (.t 2)))⟩,
    ⟨(some 19), some (17, true), (.op (.load none (.t 18)))⟩,
    ⟨(some 20), some (17, true), (.op (.faddr 2 (.t 3)))⟩,
    ⟨(some 21), some (17, true), (.op (.load none (.t 20)))⟩,
    ⟨(some 22), some (17, true), (.op (.bin .int false .eql (.t 19) (.t 21)))⟩,
    ⟨(some 23), none, (.op (.pick (.t 17) (.t 22) (.c (.b false))))⟩,
    ⟨(some 24), none, (.op (.mv (.t 23)))⟩,
    ⟨(some 25), some (24, true), (.op (.faddr 3 (.t 2)))⟩,
    ⟨(some 26), some (24, true), (.op (.load none (.t 25)))⟩,
    ⟨(some 27), some (24, true), (.op (.faddr 3 (.t 3)))⟩,
    ⟨(some 28), some (24, true), (.op (.load none (.t 27)))⟩,
    ⟨(some 29), some (24, true), (.op (.bin .int false .eql (.t 26) (.t 28)))⟩,
    ⟨(some 30), none, (.op (.pick (.t 24) (.t 29) (.c (.b false))))⟩,
    ⟨(some 31), none, (.op (.mv (.t 30)))⟩,
    ⟨(some 32), some (31, true), (.op (.faddr 5 (.t 2)))⟩,
    ⟨(some 33), some (31, true), (.op (.load (some 13) (.t 32)))⟩,
    ⟨(some 34), some (31, true), (.op (.faddr 5 (.t 3)))⟩,
    ⟨(some 35), some (31, true), (.op (.load (some 13) (.t 34)))⟩,
    ⟨(some 36), some (31, true), (.op (.eqag false [.int, .int, .int, .int, .int, .int, .int, .int, .int, .int, .int, .int, .int] (.t 33) (.t 35)))⟩,
    ⟨(some 37), none, (.op (.pick (.t 31) (.t 36) (.c (.b false))))⟩,
    ⟨(some 38), none, (.op (.mv (.t 37)))⟩,
    ⟨(some 39), some (38, true), (.op (.faddr 4 (.t 2)))⟩,
    ⟨(some 40), some (38, true), (.op (.load none (.t 39)))⟩,
    ⟨(some 41), some (38, true), (.op (.faddr 4 (.t 3)))⟩,
    ⟨(some 42), some (38, true), (.op (.load none (.t 41)))⟩,
    ⟨(some 43), some (38, true), (.call 26 [(.t 40), (.t 42)])⟩,
    ⟨(some 44), none, (.op (.pick (.t 38) (.t 43) (.c (.b false))))⟩,
    ⟨(some 45), none, (.op (.mv (.t 44)))⟩,
    ⟨(some 46), some (45, true), (.op (.faddr 18 (.t 2)))⟩,
    ⟨(some 47), some (45, true), (.op (.load none (.t 46)))⟩,
    ⟨(some 48), some (45, true), (.op (.faddr 18 (.t 3)))⟩,
    ⟨(some 49), some (45, true), (.op (.load none (.t 48)))⟩,
    ⟨(some 50), some (45, true), (.call 27 [(.t 47), (.t 49)])⟩,
    ⟨(some 51), none, (.op (.pick (.t 45) (.t 50) (.c (.b false))))⟩,
    ⟨(some 4), none, (.op (.mv (.t 51)))⟩])
   (.ret))),
  []⟩


/- floodgate/floodgateref22.Same -/
def c13d0 : List Stage :=
  [⟨[(⟨(some 63), none, (.op (.faddr 18 (.t 2)))⟩, 0), (⟨(some 64), none, (.op (.load none (.t 63)))⟩, 0), (⟨(some 65), none, (.op (.mv (.t 5)))⟩, 0), (⟨(some 66), none, (.op (.iaddr none 1 (.t 64) (.t 65)))⟩, 0), (⟨(some 67), none, (.op (.load none (.t 66)))⟩, 0), (⟨(some 68), none, (.op (.faddr 18 (.t 3)))⟩, 0), (⟨(some 69), none, (.op (.load none (.t 68)))⟩, 0), (⟨(some 70), none, (.op (.mv (.t 5)))⟩, 0), (⟨(some 71), none, (.op (.iaddr none 1 (.t 69) (.t 70)))⟩, 0), (⟨(some 72), none, (.op (.load none (.t 71)))⟩, 0), (⟨(some 73), none, (.op (.bin .bool false .neq (.t 67) (.t 72)))⟩, 0)], none, none⟩]
def c13d0w : List (ROp × Bool) :=
  [(⟨(some 63), none, (.op (.faddr 18 (.t 2)))⟩, false), (⟨(some 64), none, (.op (.load none (.t 63)))⟩, false), (⟨(some 65), none, (.op (.mv (.t 5)))⟩, false), (⟨(some 66), none, (.op (.iaddr none 1 (.t 64) (.t 65)))⟩, false), (⟨(some 67), none, (.op (.load none (.t 66)))⟩, false), (⟨(some 68), none, (.op (.faddr 18 (.t 3)))⟩, false), (⟨(some 69), none, (.op (.load none (.t 68)))⟩, false), (⟨(some 70), none, (.op (.mv (.t 5)))⟩, false), (⟨(some 71), none, (.op (.iaddr none 1 (.t 69) (.t 70)))⟩, false), (⟨(some 72), none, (.op (.load none (.t 71)))⟩, false), (⟨(some 73), none, (.op (.bin .bool false .neq (.t 67) (.t 72)))⟩, false)]
theorem c13d0_w {P : Program} {O : Orc} {S0 : Mem} {rd : Bool} {e : Env} {S : Mem} {d : List Nat} {Q : Kont} : W P O S0 rd (.draw c13d0 []) e S d Q = wFl O c13d0w e S (normK Q d) := W_draw' (by kernel_rfl) (by kernel_rfl)
attribute [go_sem] c13d0_w c13d0w
def c13l1 : ICode :=
  .seq (.region [⟨(some 61), none, (.op (.bin .int false .lss (.t 60) (.t 59)))⟩])
   (.live [2, 3, 59, 60, 61] (.seq (.cond (.t 61) (.skip)
   (.exit 0))
   (.live [2, 3, 59, 60] (.seq (.block 1 (.seq (.region [⟨(some 62), none, (.op (.mv (.t 60)))⟩,
    ⟨(some 5), none, (.op (.mv (.t 62)))⟩])
   (.live [2, 3, 59, 60, 5] (.seq (.draw c13d0 [])
   (.live [2, 3, 59, 60, 73] (.cond (.t 73) (.seq (.region [⟨(some 4), none, (.op (.mv (.c (.b false))))⟩])
   (.ret))
   (.skip)))))))
   (.live [2, 3, 59, 60] (.region [⟨(some 74), none, (.op (.bin .int true .add (.t 60) (.c (.i .i64 1))))⟩,
    ⟨(some 60), none, (.op (.mv (.t 74)))⟩]))))))
def c13 : IFunc := ⟨2, [.tmp 4],
  .seq (.region [⟨(some 2), none, (.op (.box (.t 0)))⟩,
    ⟨(some 3), none, (.op (.box (.t 1)))⟩,
    ⟨(some 4), none, (.op (.mv (.c (.b false))))⟩])
   (.live [2, 3] (.seq (.seq (.region [⟨(some 6), none, (.op (.faddr 0 (.t 2)))⟩,
    ⟨(some 7), none, (.op (.load none (.t 6)))⟩,
    ⟨(some 8), none, (.op (.faddr 0 (.t 3)))⟩,
    ⟨(some 9), none, (.op (.load none (.t 8)))⟩,
    ⟨(some 10), none, (.op (.bin .int false .neq (.t 7) (.t 9)))⟩,
    ⟨(some 11), none, (.op (.mv (.t 10)))⟩,
    ⟨(some 12), some (11, false), (.op (.faddr 1 (.t 2)))⟩,
    ⟨(some 13), some (11, false), (.op (.load none (.t 12)))⟩,
    ⟨(some 14), some (11, false), (.op (.faddr 1 (.t 3)))⟩,
    ⟨(some 15), some (11, false), (.op (.load none (.t 14)))⟩,
    ⟨(some 16), some (11, false), (.op (.bin .int false .neq (.t 13) (.t 15)))⟩,
    ⟨(some 17), none, (.op (.pick (.t 11) (.c (.b true)) (.t 16)))⟩,
    ⟨(some 18), none, (.op (.mv (.t 17)))⟩,
    ⟨(some 19), some (18, false), (.op (.faddr 2 (.t 2)))⟩,
    ⟨(some 20), some (18, false), (.op (.load none (.t 19)))⟩,
    ⟨(some 21), some (18, false), (.op (.faddr 2 (.t 3)))⟩,
    ⟨(some 22), some (18, false), (.op (.load none (.t 21)))⟩,
    ⟨(some 23), some (18, false), (.op (.bin .int false .neq (.t 20) (.t 22)))⟩,
    ⟨(some 24), none, (.op (.pick (.t 18) (.c (.b true)) (.t 23)))⟩,
    ⟨(some 25), none, (.op (.mv (.t 24)))⟩,
    ⟨(some 26), some (25, false), (.op (.faddr 3 (.t 2)))⟩,
    ⟨(some 27), some (25, false), (.op (.load none (.t 26)))⟩,
    ⟨(some 28), some (25, false), (.op (.faddr 3 (.t 3)))⟩,
    ⟨(some 29), some (25, false), (.op (.load none (.t 28)))⟩,
    ⟨(some 30), some (25, false), (.op (.bin .int false .neq (.t 27) (.t 29)))⟩,
    ⟨(some 31), none, (.op (.pick (.t 25) (.c (.b true)) (.t 30)))⟩,
    ⟨(some 32), none, (.op (.mv (.t 31)))⟩,
    ⟨(some 33), some (32, false), (.op (.faddr 5 (.t 2)))⟩,
    ⟨(some 34), some (32, false), (.op (.load (some 13) (.t 33)))⟩,
    ⟨(some 35), some (32, false), (.op (.faddr 5 (.t 3)))⟩,
    ⟨(some 36), some (32, false), (.op (.load (some 13) (.t 35)))⟩,
    ⟨(some 37), some (32, false), (.op (.eqag true [.int, .int, .int, .int, .int, .int, .int, .int, .int, .int, .int, .int, .int] (.t 34) (.t 36)))⟩,
    ⟨(some 38), none, (.op (.pick (.t 32) (.c (.b true)) (.t 37)))⟩,
    ⟨(some 39), none, (.op (.mv (.t 38)))⟩,
    ⟨(some 40), some (39, false), (.op (.faddr 4 (.t 2)))⟩,
    ⟨(some 41), some (39, false), (.op (.load none (.t 40)))⟩,
    ⟨(some 42), some (39, false), (.op (.toStr (.t 41)))⟩,
    ⟨(some 43), some (39, false), (.op (.faddr 4 (.t 3)))⟩,
    ⟨(some 44), some (39, false), (.op (.load none (.t 43)))⟩,
    ⟨(some 45), some (39, false), (.op (.toStr (.t 44)))⟩,
    ⟨(some 46), some (39, false), (.op (.bin .str false .neq (.t 42) (.t 45)))⟩,
    ⟨(some 47), none, (.op (.pick (.t 39) (.c (.b true)) (.t 46)))⟩,
    ⟨(some 48), none, (.op (.mv (.t 47)))⟩,
    ⟨(some 49), some (48, false), (.op (.faddr 18 (.t 2)))⟩,
    ⟨(some 50), some (48, false), (.op (.load none (.t 49)))⟩,
    ⟨(some 51), some (48, false), (.op (.len .slice (.t 50)))⟩,
    ⟨(some 52), some (48, false), (.op (.faddr 18 (.t 3)))⟩,
    ⟨(some 53), some (48, false), (.op (.load none (.t 52)))⟩,
    ⟨(some 54), some (48, false), (.op (.len .slice (.t 53)))⟩,
    ⟨(some 55), some (48, false), (.op (.bin .int false .neq (.t 51) (.t 54)))⟩,
    ⟨(some 56), none, (.op (.pick (.t 48) (.c (.b true)) (.t 55)))⟩])
   (.live [2, 3, 56] (.cond (.t 56) (.seq (.region [⟨(some 4), none, (.op (.mv (.c (.b false))))⟩])
   (.ret))
   (.skip))))
   (.live [2, 3] (.seq (.seq (.region [⟨(some 57), none, (.op (.faddr 18 (.t 2)))⟩,
    ⟨(some 58), none, (.op (.load none (.t 57)))⟩,
    ⟨(some 59), none, (.op (.len .slice (.t 58)))⟩,
    ⟨(some 60), none, (.op (.mv (.c (.i .i64 0))))⟩])
   (.live [2, 3, 59, 60] (.block 0 (.loop [2, 3, 59, 60] c13l1))))
   (.live [] (.seq (.region [⟨(some 4), none, (.op (.mv (.c (.b true))))⟩])
   (.ret))))))),
  []⟩


/- floodgate/floodgateref22.Bytes -/
def c14d0 : List Stage :=
  [⟨[(⟨(some 12), none, (.op (.faddr 0 (.t 2)))⟩, 0), (⟨(some 13), none, (.op (.load none (.t 12)))⟩, 0), (⟨(some 15), none, (.op (.faddr 1 (.t 2)))⟩, 1), (⟨(some 16), none, (.op (.load none (.t 15)))⟩, 1), (⟨(some 18), none, (.op (.faddr 2 (.t 2)))⟩, 2), (⟨(some 19), none, (.op (.load none (.t 18)))⟩, 2), (⟨(some 20), none, (.op (.mv (.t 1)))⟩, 2), (⟨(some 21), none, (.op (.len .slice (.t 20)))⟩, 2), (⟨(some 22), none, (.op (.toInt .u64 (.t 21)))⟩, 2)], none, some ⟨(some 14), none, (.call 30 [(.t 13)])⟩⟩,
    ⟨[], none, some ⟨(some 17), none, (.call 30 [(.t 16)])⟩⟩,
    ⟨[], none, some ⟨(some 23), none, (.op (.bslice [(.i .u64 0)] 4 [(0, 1, (.t 14)), (1, 1, (.t 17)), (2, 1, (.t 19)), (3, 1, (.t 22))]))⟩⟩,
    ⟨[], none, some ⟨(some 24), none, (.call 29 [(.t 23)])⟩⟩,
    ⟨[(⟨(some 6), none, (.op (.mv (.t 24)))⟩, 4)], none, none⟩]
def c14d0w : List (ROp × Bool) :=
  [(⟨(some 12), none, (.op (.faddr 0 (.t 2)))⟩, false), (⟨(some 13), none, (.op (.load none (.t 12)))⟩, false), (⟨(some 15), none, (.op (.faddr 1 (.t 2)))⟩, false), (⟨(some 16), none, (.op (.load none (.t 15)))⟩, false), (⟨(some 18), none, (.op (.faddr 2 (.t 2)))⟩, false), (⟨(some 19), none, (.op (.load none (.t 18)))⟩, false), (⟨(some 20), none, (.op (.mv (.t 1)))⟩, false), (⟨(some 21), none, (.op (.len .slice (.t 20)))⟩, false), (⟨(some 22), none, (.op (.toInt .u64 (.t 21)))⟩, false), (⟨(some 14), none, (.call 30 [(.t 13)])⟩, true), (⟨(some 17), none, (.call 30 [(.t 16)])⟩, true), (⟨(some 23), none, (.op (.bslice [(.i .u64 0)] 4 [(0, 1, (.t 14)), (1, 1, (.t 17)), (2, 1, (.t 19)), (3, 1, (.t 22))]))⟩, false), (⟨(some 24), none, (.call 29 [(.t 23)])⟩, false), (⟨(some 6), none, (.op (.mv (.t 24)))⟩, false)]
theorem c14d0_w {P : Program} {O : Orc} {S0 : Mem} {rd : Bool} {e : Env} {S : Mem} {d : List Nat} {Q : Kont} : W P O S0 rd (.draw c14d0 []) e S d Q = wFl O c14d0w e S (normK Q d) := W_draw' (by kernel_rfl) (by kernel_rfl)
attribute [go_sem] c14d0_w c14d0w
def c14l1 : ICode :=
  .seq (.region [⟨(some 28), none, (.op (.bin .int false .lss (.t 27) (.t 26)))⟩])
   (.live [25, 26, 27, 6, 28] (.seq (.cond (.t 28) (.skip)
   (.exit 0))
   (.live [25, 26, 27, 6] (.seq (.block 1 (.seq (.region [⟨(some 29), none, (.op (.iaddr none 19 (.t 25) (.t 27)))⟩,
    ⟨(some 30), none, (.op (.load (some 19) (.t 29)))⟩,
    ⟨(some 8), none, (.op (.fresh [(.i .i64 0), (.i .i64 0), (.i .i64 0), (.i .u64 0), .sn, (.i .i64 0), (.i .u8 0), (.i .u8 0), (.i .u8 0), (.i .u8 0), (.i .i64 0), (.i .u64 0), (.i .u64 0), (.i .u64 0), (.i .u64 0), (.i .u64 0), (.i .u64 0), (.i .u64 0), .sn]))⟩,
    ⟨none, none, (.op (.store 19 (.t 8) (.t 30)))⟩])
   (.live [25, 26, 27, 8, 6] (.region [⟨(some 31), none, (.op (.mv (.t 6)))⟩,
    ⟨(some 32), none, (.op (.load (some 19) (.t 8)))⟩,
    ⟨(some 33), none, (.call 31 [(.t 32)])⟩,
    ⟨(some 34), none, (.op (.app 1 1 (.t 31) (.t 33)))⟩,
    ⟨(some 6), none, (.op (.mv (.t 34)))⟩]))))
   (.live [25, 26, 6, 27] (.region [⟨(some 35), none, (.op (.bin .int true .add (.t 27) (.c (.i .i64 1))))⟩,
    ⟨(some 27), none, (.op (.mv (.t 35)))⟩]))))))
def c14 : IFunc := ⟨2, [.tmp 4, .tmp 5],
  .seq (.region [⟨(some 2), none, (.op (.box (.t 0)))⟩,
    ⟨(some 4), none, (.op (.mv (.c .sn)))⟩,
    ⟨(some 5), none, (.op (.mv (.c (.i .i64 0))))⟩])
   (.live [1, 2] (.seq (.seq (.region [⟨(some 9), none, (.op (.mv (.t 1)))⟩,
    ⟨(some 10), none, (.call 28 [(.t 9)])⟩,
    ⟨(some 11), none, (.op (.un .not (.t 10)))⟩])
   (.live [1, 2, 11] (.cond (.t 11) (.seq (.region [⟨(some 4), none, (.op (.mv (.c .sn)))⟩,
    ⟨(some 5), none, (.op (.mv (.c (.i .i64 221))))⟩])
   (.ret))
   (.skip))))
   (.live [1, 2] (.seq (.draw c14d0 [])
   (.live [6, 1] (.seq (.seq (.region [⟨(some 25), none, (.op (.mv (.t 1)))⟩,
    ⟨(some 26), none, (.op (.len .slice (.t 25)))⟩,
    ⟨(some 27), none, (.op (.mv (.c (.i .i64 0))))⟩])
   (.live [25, 26, 27, 6] (.block 0 (.loop [25, 26, 27, 6] c14l1))))
   (.live [6] (.seq (.region [⟨(some 36), none, (.op (.mv (.t 6)))⟩,
    ⟨(some 4), none, (.op (.mv (.t 36)))⟩,
    ⟨(some 5), none, (.op (.mv (.c (.i .i64 0))))⟩])
   (.ret))))))))),
  []⟩


/- floodgate/script.Right -/

def c15 : IFunc := ⟨1, [.tmp 2],
  .seq (.region [⟨(some 1), none, (.op (.box (.t 0)))⟩,
    ⟨(some 2), none, (.op (.mv (.c (.b false))))⟩])
   (.live [1] (.seq (.region [⟨(some 4), none, (.op (.faddr 0 (.t 1)))⟩,
    ⟨(some 5), none, (.op (.load none (.t 4)))⟩,
    ⟨(some 6), none, (.op (.build [(.i .i64 0), (.i .i64 0), (.i .i64 0), (.i .u64 0), .sn, (.i .i64 0), (.i .u8 0), (.i .u8 0), (.i .u8 0), (.i .u8 0), (.i .i64 0), (.i .u64 0), (.i .u64 0), (.i .u64 0), (.i .u64 0), (.i .u64 0), (.i .u64 0), (.i .u64 0), .sn] [(0, 1, (.t 5))]))⟩,
    ⟨(some 3), none, (.op (.fresh [(.i .i64 0), (.i .i64 0), (.i .i64 0), (.i .u64 0), .sn, (.i .i64 0), (.i .u8 0), (.i .u8 0), (.i .u8 0), (.i .u8 0), (.i .i64 0), (.i .u64 0), (.i .u64 0), (.i .u64 0), (.i .u64 0), (.i .u64 0), (.i .u64 0), (.i .u64 0), .sn]))⟩,
    ⟨none, none, (.op (.store 19 (.t 3) (.t 6)))⟩])
   (.live [3, 1] (.seq (.seq (.region [⟨(some 7), none, (.op (.faddr 0 (.t 1)))⟩,
    ⟨(some 8), none, (.op (.load none (.t 7)))⟩])
   (.live [3, 1, 8] (.block 0 (.seq (.region [⟨(some 10), none, (.op (.bin .int true .eql (.t 8) (.c (.i .i64 0))))⟩,
    ⟨(some 9), none, (.op (.mv (.t 10)))⟩])
   (.live [3, 1, 8, 9] (.cond (.t 9) (.region [⟨(some 11), none, (.op (.faddr 4 (.t 1)))⟩,
    ⟨(some 12), none, (.op (.load none (.t 11)))⟩,
    ⟨(some 13), none, (.op (.faddr 4 (.t 3)))⟩,
    ⟨none, none, (.op (.store 1 (.t 13) (.t 12)))⟩])
   (.seq (.region [⟨(some 15), none, (.op (.bin .int true .eql (.t 8) (.c (.i .i64 1))))⟩,
    ⟨(some 14), none, (.op (.mv (.t 15)))⟩])
   (.live [3, 1, 8, 14] (.cond (.t 14) (.region [⟨(some 16), none, (.op (.faddr 3 (.t 1)))⟩,
    ⟨(some 17), none, (.op (.load none (.t 16)))⟩,
    ⟨(some 18), none, (.op (.faddr 3 (.t 3)))⟩,
    ⟨none, none, (.op (.store 1 (.t 18) (.t 17)))⟩])
   (.seq (.region [⟨(some 20), none, (.op (.bin .int true .eql (.t 8) (.c (.i .i64 4))))⟩,
    ⟨(some 19), none, (.op (.mv (.t 20)))⟩])
   (.live [3, 1, 8, 19] (.cond (.t 19) (.region [⟨(some 21), none, (.op (.faddr 5 (.t 1)))⟩,
    ⟨(some 22), none, (.op (.load (some 13) (.t 21)))⟩,
    ⟨(some 23), none, (.op (.faddr 5 (.t 3)))⟩,
    ⟨none, none, (.op (.store 13 (.t 23) (.t 22)))⟩])
   (.seq (.seq (.region [⟨(some 25), none, (.op (.bin .int true .eql (.t 8) (.c (.i .i64 5))))⟩,
    ⟨(some 24), none, (.op (.mv (.t 25)))⟩])
   (.live [3, 1, 8, 24] (.cond (.t 24) (.skip)
   (.region [⟨(some 26), none, (.op (.bin .int true .eql (.t 8) (.c (.i .i64 8))))⟩,
    ⟨(some 24), none, (.op (.mv (.t 26)))⟩]))))
   (.live [3, 1, 8, 24] (.cond (.t 24) (.region [⟨(some 27), none, (.op (.faddr 1 (.t 1)))⟩,
    ⟨(some 28), none, (.op (.load none (.t 27)))⟩,
    ⟨(some 29), none, (.op (.faddr 1 (.t 3)))⟩,
    ⟨none, none, (.op (.store 1 (.t 29) (.t 28)))⟩])
   (.seq (.region [⟨(some 31), none, (.op (.bin .int true .eql (.t 8) (.c (.i .i64 10))))⟩,
    ⟨(some 30), none, (.op (.mv (.t 31)))⟩])
   (.live [3, 1, 8, 30] (.cond (.t 30) (.region [⟨(some 32), none, (.op (.faddr 2 (.t 1)))⟩,
    ⟨(some 33), none, (.op (.load none (.t 32)))⟩,
    ⟨(some 34), none, (.op (.faddr 2 (.t 3)))⟩,
    ⟨none, none, (.op (.store 1 (.t 34) (.t 33)))⟩])
   (.seq (.region [⟨(some 36), none, (.op (.bin .int true .eql (.t 8) (.c (.i .i64 11))))⟩,
    ⟨(some 35), none, (.op (.mv (.t 36)))⟩])
   (.live [3, 1, 35] (.cond (.t 35) (.region [⟨(some 37), none, (.op (.faddr 18 (.t 1)))⟩,
    ⟨(some 38), none, (.op (.load none (.t 37)))⟩,
    ⟨(some 39), none, (.op (.faddr 18 (.t 3)))⟩,
    ⟨none, none, (.op (.store 1 (.t 39) (.t 38)))⟩])
   (.skip))))))))))))))))))))))
   (.live [3, 1] (.seq (.region [⟨(some 40), none, (.op (.faddr 0 (.t 1)))⟩,
    ⟨(some 41), none, (.op (.load none (.t 40)))⟩,
    ⟨(some 42), none, (.op (.bin .int true .geq (.t 41) (.c (.i .i64 0))))⟩,
    ⟨(some 43), none, (.op (.mv (.t 42)))⟩,
    ⟨(some 44), some (43, true), (.op (.faddr 0 (.t 1)))⟩,
    ⟨(some 45), some (43, true), (.op (.load none (.t 44)))⟩,
    ⟨(some 46), some (43, true), (.op (.bin .int true .leq (.t 45) (.c (.i .i64 12))))⟩,
    ⟨(some 47), none, (.op (.pick (.t 43) (.t 46) (.c (.b false))))⟩,
    ⟨(some 48), none, (.op (.mv (.t 47)))⟩,
    ⟨(some 49), some (48, true), (.op (.faddr 4 (.t 1)))⟩,
    ⟨(some 50), some (48, true), (.op (.load none (.t 49)))⟩,
    ⟨(some 51), some (48, true), (.op (.len .slice (.t 50)))⟩,
    ⟨(some 52), some (48, true), (.op (.bin .int true .leq (.t 51) (.c (.i .i64 2000))))⟩,
    ⟨(some 53), none, (.op (.pick (.t 48) (.t 52) (.c (.b false))))⟩,
    ⟨(some 54), none, (.op (.mv (.t 53)))⟩,
    ⟨(some 55), some (54, true), (.op (.faddr 18 (.t 1)))⟩,
    ⟨(some 56), some (54, true), (.op (.load none (.t 55)))⟩,
    ⟨(some 57), some (54, true), (.op (.len .slice (.t 56)))⟩,
    ⟨(some 58), some (54, true), (.op (.bin .int true .leq (.t 57) (.c (.i .i64 64))))⟩,
    ⟨(some 59), none, (.op (.pick (.t 54) (.t 58) (.c (.b false))))⟩,
    ⟨(some 60), none, (.op (.mv (.t 59)))⟩,
    ⟨(some 61), some (60, true), (.op (.load (some 19) (.t 1)))⟩,
    ⟨(some 62), some (60, true), (.op (.load (some 19) (.t 3)))⟩,
    ⟨(some 63), some (60, true), (.call 12 [(.t 61), (.t 62)])⟩,
    ⟨(some 64), none, (.op (.pick (.t 60) (.t 63) (.c (.b false))))⟩,
    ⟨(some 2), none, (.op (.mv (.t 64)))⟩])
   (.ret))))))),
  []⟩


/- floodgate/floodgateref22.Right -/

def c16 : IFunc := ⟨1, [.tmp 2],
  .seq (.region [⟨(some 1), none, (.op (.box (.t 0)))⟩,
    ⟨(some 2), none, (.op (.mv (.c (.b false))))⟩])
   (.live [1] (.seq (.seq (.region [⟨(some 3), none, (.op (.faddr 0 (.t 1)))⟩,
    ⟨(some 4), none, (.op (.load none (.t 3)))⟩,
    ⟨(some 5), none, (.op (.bin .int true .lss (.t 4) (.c (.i .i64 0))))⟩,
    ⟨(some 6), none, (.op (.mv (.t 5)))⟩,
    ⟨(some 7), some (6, false), (.op (.faddr 0 (.t 1)))⟩,
    ⟨(some 8), some (6, false), (.op (.load none (.t 7)))⟩,
    ⟨(some 9), some (6, false), (.op (.bin .int true .gtr (.t 8) (.c (.i .i64 12))))⟩,
    ⟨(some 10), none, (.op (.pick (.t 6) (.c (.b true)) (.t 9)))⟩,
    ⟨(some 11), none, (.op (.mv (.t 10)))⟩,
    ⟨(some 12), some (11, false), (.op (.faddr 4 (.t 1)))⟩,
    ⟨(some 13), some (11, false), (.op (.load none (.t 12)))⟩,
    ⟨(some 14), some (11, false), (.op (.len .slice (.t 13)))⟩,
    ⟨(some 15), some (11, false), (.op (.bin .int true .gtr (.t 14) (.c (.i .i64 2000))))⟩,
    ⟨(some 16), none, (.op (.pick (.t 11) (.c (.b true)) (.t 15)))⟩,
    ⟨(some 17), none, (.op (.mv (.t 16)))⟩,
    ⟨(some 18), some (17, false), (.op (.faddr 18 (.t 1)))⟩,
    ⟨(some 19), some (17, false), (.op (.load none (.t 18)))⟩,
    ⟨(some 20), some (17, false), (.op (.len .slice (.t 19)))⟩,
    ⟨(some 21), some (17, false), (.op (.bin .int true .gtr (.t 20) (.c (.i .i64 64))))⟩,
    ⟨(some 22), none, (.op (.pick (.t 17) (.c (.b true)) (.t 21)))⟩])
   (.live [1, 22] (.cond (.t 22) (.seq (.region [⟨(some 2), none, (.op (.mv (.c (.b false))))⟩])
   (.ret))
   (.skip))))
   (.live [1] (.seq (.seq (.region [⟨(some 23), none, (.op (.faddr 0 (.t 1)))⟩,
    ⟨(some 24), none, (.op (.load none (.t 23)))⟩,
    ⟨(some 25), none, (.op (.bin .int true .neq (.t 24) (.c (.i .i64 0))))⟩,
    ⟨(some 26), none, (.op (.mv (.t 25)))⟩,
    ⟨(some 27), some (26, true), (.op (.faddr 4 (.t 1)))⟩,
    ⟨(some 28), some (26, true), (.op (.load none (.t 27)))⟩,
    ⟨(some 29), some (26, true), (.op (.len .slice (.t 28)))⟩,
    ⟨(some 30), some (26, true), (.op (.bin .int true .gtr (.t 29) (.c (.i .i64 0))))⟩,
    ⟨(some 31), none, (.op (.pick (.t 26) (.t 30) (.c (.b false))))⟩,
    ⟨(some 32), none, (.op (.mv (.t 31)))⟩,
    ⟨(some 33), some (32, false), (.op (.faddr 0 (.t 1)))⟩,
    ⟨(some 34), some (32, false), (.op (.load none (.t 33)))⟩,
    ⟨(some 35), some (32, false), (.op (.bin .int true .neq (.t 34) (.c (.i .i64 1))))⟩,
    ⟨(some 36), some (32, false), (.op (.mv (.t 35)))⟩,
    ⟨(some 37), some (36, true), (.op (.faddr 3 (.t 1)))⟩,
    ⟨(some 38), some (36, true), (.op (.load none (.t 37)))⟩,
    ⟨(some 39), some (36, true), (.op (.bin .int true .neq (.t 38) (.c (.i .u64 0))))⟩,
    ⟨(some 40), some (32, false), (.op (.pick (.t 36) (.t 39) (.c (.b false))))⟩,
    ⟨(some 41), none, (.op (.pick (.t 32) (.c (.b true)) (.t 40)))⟩,
    ⟨(some 42), none, (.op (.mv (.t 41)))⟩,
    ⟨(some 43), some (42, false), (.op (.faddr 0 (.t 1)))⟩,
    ⟨(some 44), some (42, false), (.op (.load none (.t 43)))⟩,
    ⟨(some 45), some (42, false), (.op (.bin .int true .neq (.t 44) (.c (.i .i64 4))))⟩,
    ⟨(some 46), some (42, false), (.op (.mv (.t 45)))⟩,
    ⟨(some 47), some (46, true), (.op (.faddr 5 (.t 1)))⟩,
    ⟨(some 48), some (46, true), (.op (.load (some 13) (.t 47)))⟩,
    ⟨(some 49), some (46, true), (.op (.build [(.i .i64 0), (.i .u8 0), (.i .u8 0), (.i .u8 0), (.i .u8 0), (.i .i64 0), (.i .u64 0), (.i .u64 0), (.i .u64 0), (.i .u64 0), (.i .u64 0), (.i .u64 0), (.i .u64 0)] []))⟩,
    ⟨(some 50), some (46, true), (.op (.eqag true [.int, .int, .int, .int, .int, .int, .int, .int, .int, .int, .int, .int, .int] (.t 48) (.t 49)))⟩,
    ⟨(some 51), some (42, false), (.op (.pick (.t 46) (.t 50) (.c (.b false))))⟩,
    ⟨(some 52), none, (.op (.pick (.t 42) (.c (.b true)) (.t 51)))⟩])
   (.live [1, 52] (.cond (.t 52) (.seq (.region [⟨(some 2), none, (.op (.mv (.c (.b false))))⟩])
   (.ret))
   (.skip))))
   (.live [1] (.seq (.seq (.region [⟨(some 53), none, (.op (.faddr 0 (.t 1)))⟩,
    ⟨(some 54), none, (.op (.load none (.t 53)))⟩,
    ⟨(some 55), none, (.op (.bin .int true .neq (.t 54) (.c (.i .i64 5))))⟩,
    ⟨(some 56), none, (.op (.mv (.t 55)))⟩,
    ⟨(some 57), some (56, true), (.op (.faddr 0 (.t 1)))⟩,
    ⟨(some 58), some (56, true), (.op (.load none (.t 57)))⟩,
    ⟨(some 59), some (56, true), (.op (.bin .int true .neq (.t 58) (.c (.i .i64 8))))⟩,
    ⟨(some 60), none, (.op (.pick (.t 56) (.t 59) (.c (.b false))))⟩,
    ⟨(some 61), none, (.op (.mv (.t 60)))⟩,
    ⟨(some 62), some (61, true), (.op (.faddr 1 (.t 1)))⟩,
    ⟨(some 63), some (61, true), (.op (.load none (.t 62)))⟩,
    ⟨(some 64), some (61, true), (.op (.bin .int true .neq (.t 63) (.c (.i .i64 0))))⟩,
    ⟨(some 65), none, (.op (.pick (.t 61) (.t 64) (.c (.b false))))⟩])
   (.live [1, 65] (.cond (.t 65) (.seq (.region [⟨(some 2), none, (.op (.mv (.c (.b false))))⟩])
   (.ret))
   (.skip))))
   (.live [1] (.seq (.region [⟨(some 66), none, (.op (.faddr 0 (.t 1)))⟩,
    ⟨(some 67), none, (.op (.load none (.t 66)))⟩,
    ⟨(some 68), none, (.op (.bin .int true .eql (.t 67) (.c (.i .i64 10))))⟩,
    ⟨(some 69), none, (.op (.mv (.t 68)))⟩,
    ⟨(some 70), some (69, false), (.op (.faddr 2 (.t 1)))⟩,
    ⟨(some 71), some (69, false), (.op (.load none (.t 70)))⟩,
    ⟨(some 72), some (69, false), (.op (.bin .int true .eql (.t 71) (.c (.i .i64 0))))⟩,
    ⟨(some 73), none, (.op (.pick (.t 69) (.c (.b true)) (.t 72)))⟩,
    ⟨(some 74), none, (.op (.mv (.t 73)))⟩,
    ⟨(some 75), some (74, true), (.op (.faddr 0 (.t 1)))⟩,
    ⟨(some 76), some (74, true), (.op (.load none (.t 75)))⟩,
    ⟨(some 77), some (74, true), (.op (.bin .int true .eql (.t 76) (.c (.i .i64 11))))⟩,
    ⟨(some 78), some (74, true), (.op (.mv (.t 77)))⟩,
    ⟨(some 79), some (78, false), (.op (.faddr 18 (.t 1)))⟩,
    ⟨(some 80), some (78, false), (.op (.load none (.t 79)))⟩,
    ⟨(some 81), some (78, false), (.op (.len .slice (.t 80)))⟩,
    ⟨(some 82), some (78, false), (.op (.bin .int true .eql (.t 81) (.c (.i .i64 0))))⟩,
    ⟨(some 83), some (74, true), (.op (.pick (.t 78) (.c (.b true)) (.t 82)))⟩,
    ⟨(some 84), none, (.op (.pick (.t 74) (.t 83) (.c (.b false))))⟩,
    ⟨(some 2), none, (.op (.mv (.t 84)))⟩])
   (.ret))))))))),
  []⟩


/- floodgate/script.Read -/
def c17l0 : ICode :=
  .seq (.region [⟨(some 23), none, (.op (.bin .int false .lss (.t 22) (.t 21)))⟩])
   (.live [5, 2, 6, 0, 21, 22, 7, 23] (.seq (.cond (.t 23) (.skip)
   (.exit 0))
   (.live [5, 2, 6, 0, 21, 22, 7] (.seq (.block 1 (.region [⟨(some 24), none, (.op (.mv (.t 7)))⟩,
    ⟨(some 25), none, (.op (.mv (.t 5)))⟩,
    ⟨(some 26), none, (.call 35 [(.t 25)])⟩,
    ⟨(some 27), none, (.op (.bslice [(.i .i64 0), (.i .i64 0), (.i .i64 0), (.i .u64 0), .sn, (.i .i64 0), (.i .u8 0), (.i .u8 0), (.i .u8 0), (.i .u8 0), (.i .i64 0), (.i .u64 0), (.i .u64 0), (.i .u64 0), (.i .u64 0), (.i .u64 0), (.i .u64 0), (.i .u64 0), .sn] 1 [(0, 19, (.t 26))]))⟩,
    ⟨(some 28), none, (.op (.app 19 160 (.t 24) (.t 27)))⟩,
    ⟨(some 7), none, (.op (.mv (.t 28)))⟩]))
   (.live [5, 2, 6, 0, 21, 7, 22] (.region [⟨(some 29), none, (.op (.bin .int true .add (.t 22) (.c (.i .i64 1))))⟩,
    ⟨(some 22), none, (.op (.mv (.t 29)))⟩]))))))
def c17 : IFunc := ⟨1, [.cell 2 (some 3), .tmp 3, .tmp 4],
  .seq (.region [⟨(some 2), none, (.op (.fresh [(.i .i64 0), (.i .i64 0), (.i .u64 0)]))⟩,
    ⟨(some 3), none, (.op (.mv (.c .sn)))⟩,
    ⟨(some 4), none, (.op (.mv (.c (.i .i64 0))))⟩])
   (.live [2, 0] (.seq (.region [⟨(some 10), none, (.op (.mv (.t 0)))⟩,
    ⟨(some 11), none, (.op (.build [.sn, (.b false)] [(0, 1, (.t 10))]))⟩,
    ⟨(some 12), none, (.op (.box (.t 11)))⟩,
    ⟨(some 5), none, (.op (.mv (.t 12)))⟩])
   (.live [5, 2, 0] (.seq (.region [⟨(some 13), none, (.op (.mv (.t 5)))⟩,
    ⟨(some 14), none, (.call 32 [(.t 13)])⟩,
    ⟨(some 15), none, (.op (.mv (.t 5)))⟩,
    ⟨(some 16), none, (.call 32 [(.t 15)])⟩,
    ⟨(some 17), none, (.op (.mv (.t 5)))⟩,
    ⟨(some 18), none, (.call 33 [(.t 17)])⟩,
    ⟨(some 19), none, (.op (.build [(.i .i64 0), (.i .i64 0), (.i .u64 0)] [(0, 1, (.t 14)), (1, 1, (.t 16)), (2, 1, (.t 18))]))⟩,
    ⟨(some 6), none, (.op (.fresh [(.i .i64 0), (.i .i64 0), (.i .u64 0)]))⟩,
    ⟨none, none, (.op (.store 3 (.t 6) (.t 19)))⟩])
   (.live [5, 2, 6, 0] (.seq (.region [⟨(some 7), none, (.op (.mv (.c .sn)))⟩])
   (.live [5, 2, 6, 0, 7] (.seq (.seq (.region [⟨(some 20), none, (.op (.mv (.t 5)))⟩,
    ⟨(some 21), none, (.call 34 [(.t 20), (.c (.i .i64 400))])⟩,
    ⟨(some 22), none, (.op (.mv (.c (.i .i64 0))))⟩])
   (.live [5, 2, 6, 0, 21, 22, 7] (.block 0 (.loop [5, 2, 6, 0, 21, 22, 7] c17l0))))
   (.live [2, 7, 6, 0, 5] (.seq (.region [⟨(some 31), none, (.op (.load (some 3) (.t 6)))⟩,
    ⟨(some 32), none, (.op (.mv (.t 7)))⟩,
    ⟨(some 33), none, (.call 7 [(.t 31), (.t 32)])⟩,
    ⟨(some 30), none, (.op (.mv (.t 33)))⟩,
    ⟨(some 34), none, (.op (.ext (.t 30) 0))⟩,
    ⟨(some 35), none, (.op (.ext (.t 30) 1))⟩,
    ⟨(some 8), none, (.op (.mv (.t 34)))⟩,
    ⟨(some 9), none, (.op (.mv (.t 35)))⟩])
   (.live [2, 7, 6, 0, 8, 9, 5] (.seq (.seq (.region [⟨(some 36), none, (.op (.mv (.t 5)))⟩,
    ⟨(some 37), none, (.op (.nilck (.t 36)))⟩,
    ⟨(some 38), none, (.op (.faddr 1 (.t 37)))⟩,
    ⟨(some 39), none, (.op (.load none (.t 38)))⟩,
    ⟨(some 40), none, (.op (.mv (.t 39)))⟩,
    ⟨(some 41), some (40, false), (.op (.mv (.t 9)))⟩,
    ⟨(some 42), some (40, false), (.op (.bin .int true .neq (.t 41) (.c (.i .i64 0))))⟩,
    ⟨(some 43), none, (.op (.pick (.t 40) (.c (.b true)) (.t 42)))⟩,
    ⟨(some 44), none, (.op (.mv (.t 43)))⟩,
    ⟨(some 45), some (44, false), (.op (.mv (.t 8)))⟩,
    ⟨(some 46), some (44, false), (.op (.mv (.t 0)))⟩,
    ⟨(some 47), some (44, false), (.call 26 [(.t 45), (.t 46)])⟩,
    ⟨(some 48), some (44, false), (.op (.un .not (.t 47)))⟩,
    ⟨(some 49), none, (.op (.pick (.t 44) (.c (.b true)) (.t 48)))⟩])
   (.live [2, 7, 6, 49] (.cond (.t 49) (.seq (.region [⟨(some 50), none, (.op (.build [(.i .i64 0), (.i .i64 0), (.i .u64 0)] []))⟩,
    ⟨none, none, (.op (.store 3 (.t 2) (.t 50)))⟩,
    ⟨(some 3), none, (.op (.mv (.c .sn)))⟩,
    ⟨(some 4), none, (.op (.mv (.c (.i .i64 221))))⟩])
   (.ret))
   (.skip))))
   (.live [2, 7, 6] (.seq (.region [⟨(some 51), none, (.op (.load (some 3) (.t 6)))⟩,
    ⟨(some 52), none, (.op (.mv (.t 7)))⟩,
    ⟨none, none, (.op (.store 3 (.t 2) (.t 51)))⟩,
    ⟨(some 3), none, (.op (.mv (.t 52)))⟩,
    ⟨(some 4), none, (.op (.mv (.c (.i .i64 0))))⟩])
   (.ret))))))))))))))),
  []⟩


/- floodgate/floodgateref22.Read -/
def c18l0 : ICode :=
  .seq (.seq (.region [⟨(some 30), none, (.op (.mv (.t 9)))⟩,
    ⟨(some 31), none, (.op (.mv (.t 7)))⟩,
    ⟨(some 32), none, (.op (.bin .int false .lss (.t 30) (.t 31)))⟩,
    ⟨(some 33), none, (.op (.mv (.t 32)))⟩,
    ⟨(some 34), some (33, true), (.op (.mv (.t 9)))⟩,
    ⟨(some 35), some (33, true), (.op (.bin .int true .lss (.t 34) (.c (.i .u64 401))))⟩,
    ⟨(some 36), none, (.op (.pick (.t 33) (.t 35) (.c (.b false))))⟩,
    ⟨(some 37), none, (.op (.mv (.t 36)))⟩,
    ⟨(some 38), some (37, true), (.op (.mv (.t 5)))⟩,
    ⟨(some 39), some (37, true), (.op (.nilck (.t 38)))⟩,
    ⟨(some 40), some (37, true), (.op (.faddr 2 (.t 39)))⟩,
    ⟨(some 41), some (37, true), (.op (.load none (.t 40)))⟩,
    ⟨(some 42), some (37, true), (.op (.un .not (.t 41)))⟩,
    ⟨(some 43), none, (.op (.pick (.t 37) (.t 42) (.c (.b false))))⟩])
   (.live [5, 2, 6, 0, 7, 9, 8, 43] (.cond (.t 43) (.skip)
   (.exit 0))))
   (.live [5, 2, 6, 0, 7, 9, 8] (.seq (.block 1 (.region [⟨(some 46), none, (.op (.mv (.t 8)))⟩,
    ⟨(some 47), none, (.op (.mv (.t 5)))⟩,
    ⟨(some 48), none, (.call 38 [(.t 47)])⟩,
    ⟨(some 49), none, (.op (.bslice [(.i .i64 0), (.i .i64 0), (.i .i64 0), (.i .u64 0), .sn, (.i .i64 0), (.i .u8 0), (.i .u8 0), (.i .u8 0), (.i .u8 0), (.i .i64 0), (.i .u64 0), (.i .u64 0), (.i .u64 0), (.i .u64 0), (.i .u64 0), (.i .u64 0), (.i .u64 0), .sn] 1 [(0, 19, (.t 48))]))⟩,
    ⟨(some 50), none, (.op (.app 19 160 (.t 46) (.t 49)))⟩,
    ⟨(some 8), none, (.op (.mv (.t 50)))⟩]))
   (.live [5, 2, 6, 0, 7, 8, 9] (.region [⟨(some 44), none, (.op (.mv (.t 9)))⟩,
    ⟨(some 45), none, (.op (.bin .int true .add (.t 44) (.c (.i .u64 1))))⟩,
    ⟨(some 9), none, (.op (.mv (.t 45)))⟩]))))
def c18 : IFunc := ⟨1, [.cell 2 (some 3), .tmp 3, .tmp 4],
  .seq (.region [⟨(some 2), none, (.op (.fresh [(.i .i64 0), (.i .i64 0), (.i .u64 0)]))⟩,
    ⟨(some 3), none, (.op (.mv (.c .sn)))⟩,
    ⟨(some 4), none, (.op (.mv (.c (.i .i64 0))))⟩])
   (.live [2, 0] (.seq (.region [⟨(some 12), none, (.op (.mv (.t 0)))⟩,
    ⟨(some 13), none, (.op (.build [.sn, (.i .i64 0), (.b false)] [(0, 1, (.t 12))]))⟩,
    ⟨(some 14), none, (.op (.box (.t 13)))⟩,
    ⟨(some 5), none, (.op (.mv (.t 14)))⟩])
   (.live [5, 2, 0] (.seq (.region [⟨(some 15), none, (.op (.build [(.i .i64 0), (.i .i64 0), (.i .u64 0)] []))⟩,
    ⟨(some 6), none, (.op (.fresh [(.i .i64 0), (.i .i64 0), (.i .u64 0)]))⟩,
    ⟨none, none, (.op (.store 3 (.t 6) (.t 15)))⟩])
   (.live [5, 2, 6, 0] (.seq (.region [⟨(some 16), none, (.op (.mv (.t 5)))⟩,
    ⟨(some 17), none, (.call 37 [(.t 16)])⟩,
    ⟨(some 18), none, (.call 36 [(.t 17)])⟩,
    ⟨(some 19), none, (.op (.faddr 0 (.t 6)))⟩,
    ⟨none, none, (.op (.store 1 (.t 19) (.t 18)))⟩])
   (.live [5, 2, 6, 0] (.seq (.region [⟨(some 20), none, (.op (.mv (.t 5)))⟩,
    ⟨(some 21), none, (.call 37 [(.t 20)])⟩,
    ⟨(some 22), none, (.call 36 [(.t 21)])⟩,
    ⟨(some 23), none, (.op (.faddr 1 (.t 6)))⟩,
    ⟨none, none, (.op (.store 1 (.t 23) (.t 22)))⟩])
   (.live [5, 2, 6, 0] (.seq (.region [⟨(some 24), none, (.op (.mv (.t 5)))⟩,
    ⟨(some 25), none, (.call 37 [(.t 24)])⟩,
    ⟨(some 26), none, (.op (.faddr 2 (.t 6)))⟩,
    ⟨none, none, (.op (.store 1 (.t 26) (.t 25)))⟩])
   (.live [5, 2, 6, 0] (.seq (.region [⟨(some 27), none, (.op (.mv (.t 5)))⟩,
    ⟨(some 28), none, (.call 37 [(.t 27)])⟩,
    ⟨(some 7), none, (.op (.mv (.t 28)))⟩])
   (.live [5, 2, 6, 0, 7] (.seq (.region [⟨(some 29), none, (.op (.bslice [(.i .i64 0), (.i .i64 0), (.i .i64 0), (.i .u64 0), .sn, (.i .i64 0), (.i .u8 0), (.i .u8 0), (.i .u8 0), (.i .u8 0), (.i .i64 0), (.i .u64 0), (.i .u64 0), (.i .u64 0), (.i .u64 0), (.i .u64 0), (.i .u64 0), (.i .u64 0), .sn] 0 []))⟩,
    ⟨(some 8), none, (.op (.mv (.t 29)))⟩])
   (.live [5, 2, 6, 0, 7, 8] (.seq (.seq (.region [⟨(some 9), none, (.op (.mv (.c (.i .u64 0))))⟩])
   (.live [5, 2, 6, 0, 7, 9, 8] (.block 0 (.loop [5, 2, 6, 0, 7, 9, 8] c18l0))))
   (.live [2, 8, 6, 0, 5] (.seq (.region [⟨(some 52), none, (.op (.load (some 3) (.t 6)))⟩,
    ⟨(some 53), none, (.op (.mv (.t 8)))⟩,
    ⟨(some 54), none, (.call 14 [(.t 52), (.t 53)])⟩,
    ⟨(some 51), none, (.op (.mv (.t 54)))⟩,
    ⟨(some 55), none, (.op (.ext (.t 51) 0))⟩,
    ⟨(some 56), none, (.op (.ext (.t 51) 1))⟩,
    ⟨(some 10), none, (.op (.mv (.t 55)))⟩,
    ⟨(some 11), none, (.op (.mv (.t 56)))⟩])
   (.live [2, 8, 6, 0, 10, 11, 5] (.seq (.seq (.region [⟨(some 57), none, (.op (.mv (.t 5)))⟩,
    ⟨(some 58), none, (.op (.nilck (.t 57)))⟩,
    ⟨(some 59), none, (.op (.faddr 2 (.t 58)))⟩,
    ⟨(some 60), none, (.op (.load none (.t 59)))⟩,
    ⟨(some 61), none, (.op (.mv (.t 60)))⟩,
    ⟨(some 62), some (61, false), (.op (.mv (.t 11)))⟩,
    ⟨(some 63), some (61, false), (.op (.bin .int true .neq (.t 62) (.c (.i .i64 0))))⟩,
    ⟨(some 64), none, (.op (.pick (.t 61) (.c (.b true)) (.t 63)))⟩,
    ⟨(some 65), none, (.op (.mv (.t 64)))⟩,
    ⟨(some 66), some (65, false), (.op (.mv (.t 10)))⟩,
    ⟨(some 67), some (65, false), (.op (.toStr (.t 66)))⟩,
    ⟨(some 68), some (65, false), (.op (.mv (.t 0)))⟩,
    ⟨(some 69), some (65, false), (.op (.toStr (.t 68)))⟩,
    ⟨(some 70), some (65, false), (.op (.bin .str false .neq (.t 67) (.t 69)))⟩,
    ⟨(some 71), none, (.op (.pick (.t 65) (.c (.b true)) (.t 70)))⟩])
   (.live [2, 8, 6, 71] (.cond (.t 71) (.seq (.region [⟨(some 72), none, (.op (.build [(.i .i64 0), (.i .i64 0), (.i .u64 0)] []))⟩,
    ⟨none, none, (.op (.store 3 (.t 2) (.t 72)))⟩,
    ⟨(some 3), none, (.op (.mv (.c .sn)))⟩,
    ⟨(some 4), none, (.op (.mv (.c (.i .i64 221))))⟩])
   (.ret))
   (.skip))))
   (.live [2, 8, 6] (.seq (.region [⟨(some 73), none, (.op (.load (some 3) (.t 6)))⟩,
    ⟨(some 74), none, (.op (.mv (.t 8)))⟩,
    ⟨none, none, (.op (.store 3 (.t 2) (.t 73)))⟩,
    ⟨(some 3), none, (.op (.mv (.t 74)))⟩,
    ⟨(some 4), none, (.op (.mv (.c (.i .i64 0))))⟩])
   (.ret))))))))))))))))))))))),
  []⟩


/- floodgate/floodgatelaw22.same -/
def c19d0 : List Stage :=
  [⟨[(⟨(some 16), none, (.op (.mv (.t 0)))⟩, 0), (⟨(some 17), none, (.op (.mv (.t 5)))⟩, 0), (⟨(some 18), none, (.op (.iaddr none 19 (.t 16) (.t 17)))⟩, 0), (⟨(some 19), none, (.op (.load (some 19) (.t 18)))⟩, 0), (⟨(some 20), none, (.op (.mv (.t 1)))⟩, 0), (⟨(some 21), none, (.op (.mv (.t 5)))⟩, 0), (⟨(some 22), none, (.op (.iaddr none 19 (.t 20) (.t 21)))⟩, 0), (⟨(some 23), none, (.op (.load (some 19) (.t 22)))⟩, 0)], none, some ⟨(some 24), none, (.call 13 [(.t 19), (.t 23)])⟩⟩,
    ⟨[(⟨(some 25), none, (.op (.un .not (.t 24)))⟩, 1)], none, none⟩]
def c19d0w : List (ROp × Bool) :=
  [(⟨(some 16), none, (.op (.mv (.t 0)))⟩, false), (⟨(some 17), none, (.op (.mv (.t 5)))⟩, false), (⟨(some 18), none, (.op (.iaddr none 19 (.t 16) (.t 17)))⟩, false), (⟨(some 19), none, (.op (.load (some 19) (.t 18)))⟩, false), (⟨(some 20), none, (.op (.mv (.t 1)))⟩, false), (⟨(some 21), none, (.op (.mv (.t 5)))⟩, false), (⟨(some 22), none, (.op (.iaddr none 19 (.t 20) (.t 21)))⟩, false), (⟨(some 23), none, (.op (.load (some 19) (.t 22)))⟩, false), (⟨(some 24), none, (.call 13 [(.t 19), (.t 23)])⟩, false), (⟨(some 25), none, (.op (.un .not (.t 24)))⟩, false)]
theorem c19d0_w {P : Program} {O : Orc} {S0 : Mem} {rd : Bool} {e : Env} {S : Mem} {d : List Nat} {Q : Kont} : W P O S0 rd (.draw c19d0 []) e S d Q = wFl O c19d0w e S (normK Q d) := W_draw' (by kernel_rfl) (by kernel_rfl)
attribute [go_sem] c19d0_w c19d0w
def c19l1 : ICode :=
  .seq (.region [⟨(some 14), none, (.op (.bin .int false .lss (.t 13) (.t 12)))⟩])
   (.live [0, 1, 12, 13, 14] (.seq (.cond (.t 14) (.skip)
   (.exit 0))
   (.live [0, 1, 12, 13] (.seq (.block 1 (.seq (.region [⟨(some 15), none, (.op (.mv (.t 13)))⟩,
    ⟨(some 5), none, (.op (.mv (.t 15)))⟩])
   (.live [0, 1, 12, 13, 5] (.seq (.draw c19d0 [])
   (.live [0, 1, 12, 13, 25] (.cond (.t 25) (.seq (.region [⟨(some 4), none, (.op (.mv (.c (.b false))))⟩])
   (.ret))
   (.skip)))))))
   (.live [0, 1, 12, 13] (.region [⟨(some 26), none, (.op (.bin .int true .add (.t 13) (.c (.i .i64 1))))⟩,
    ⟨(some 13), none, (.op (.mv (.t 26)))⟩]))))))
def c19 : IFunc := ⟨2, [.tmp 4],
  .seq (.region [⟨(some 4), none, (.op (.mv (.c (.b false))))⟩])
   (.live [0, 1] (.seq (.seq (.region [⟨(some 6), none, (.op (.mv (.t 0)))⟩,
    ⟨(some 7), none, (.op (.len .slice (.t 6)))⟩,
    ⟨(some 8), none, (.op (.mv (.t 1)))⟩,
    ⟨(some 9), none, (.op (.len .slice (.t 8)))⟩,
    ⟨(some 10), none, (.op (.bin .int false .neq (.t 7) (.t 9)))⟩])
   (.live [0, 1, 10] (.cond (.t 10) (.seq (.region [⟨(some 4), none, (.op (.mv (.c (.b false))))⟩])
   (.ret))
   (.skip))))
   (.live [0, 1] (.seq (.seq (.region [⟨(some 11), none, (.op (.mv (.t 0)))⟩,
    ⟨(some 12), none, (.op (.len .slice (.t 11)))⟩,
    ⟨(some 13), none, (.op (.mv (.c (.i .i64 0))))⟩])
   (.live [0, 1, 12, 13] (.block 0 (.loop [0, 1, 12, 13] c19l1))))
   (.live [] (.seq (.region [⟨(some 4), none, (.op (.mv (.c (.b true))))⟩])
   (.ret))))))),
  []⟩


/- floodgate/script.right -/

def c20 : IFunc := ⟨1, [.tmp 2],
  .seq (.region [⟨(some 2), none, (.op (.mv (.c (.b false))))⟩])
   (.live [0] (.seq (.region [⟨(some 3), none, (.op (.mv (.t 0)))⟩,
    ⟨(some 4), none, (.op (.len .slice (.t 3)))⟩,
    ⟨(some 5), none, (.op (.bin .int true .leq (.t 4) (.c (.i .i64 400))))⟩,
    ⟨(some 6), none, (.op (.mv (.t 5)))⟩,
    ⟨(some 7), some (6, true), (.op (.mv (.t 0)))⟩,
    ⟨(some 8), some (6, true), (.call 39 [(.t 7), (.c (.f (.func 40) [] []))])⟩,
    ⟨(some 9), some (6, true), (.op (.un .not (.t 8)))⟩,
    ⟨(some 10), none, (.op (.pick (.t 6) (.t 9) (.c (.b false))))⟩,
    ⟨(some 2), none, (.op (.mv (.t 10)))⟩])
   (.ret))),
  []⟩


/- floodgate/leb.Nums -/
def c21l0 : ICode :=
  .seq (.region [⟨(some 9), none, (.op (.bin .int false .lss (.t 8) (.t 7)))⟩])
   (.live [6, 7, 8, 3, 9] (.seq (.cond (.t 9) (.skip)
   (.exit 0))
   (.live [6, 7, 8, 3] (.seq (.block 1 (.seq (.region [⟨(some 10), none, (.op (.iaddr none 1 (.t 6) (.t 8)))⟩,
    ⟨(some 11), none, (.op (.load none (.t 10)))⟩,
    ⟨(some 5), none, (.op (.mv (.t 11)))⟩])
   (.live [6, 7, 8, 5, 3] (.region [⟨(some 12), none, (.op (.mv (.t 3)))⟩,
    ⟨(some 13), none, (.op (.mv (.t 5)))⟩,
    ⟨(some 14), none, (.call 41 [(.t 13)])⟩,
    ⟨(some 15), none, (.op (.app 1 1 (.t 12) (.t 14)))⟩,
    ⟨(some 3), none, (.op (.mv (.t 15)))⟩]))))
   (.live [6, 7, 3, 8] (.region [⟨(some 16), none, (.op (.bin .int true .add (.t 8) (.c (.i .i64 1))))⟩,
    ⟨(some 8), none, (.op (.mv (.t 16)))⟩]))))))
def c21 : IFunc := ⟨1, [.tmp 2],
  .seq (.region [⟨(some 2), none, (.op (.mv (.c .sn)))⟩])
   (.live [0] (.seq (.region [⟨(some 3), none, (.op (.mv (.c .sn)))⟩])
   (.live [3, 0] (.seq (.seq (.region [⟨(some 6), none, (.op (.mv (.t 0)))⟩,
    ⟨(some 7), none, (.op (.len .slice (.t 6)))⟩,
    ⟨(some 8), none, (.op (.mv (.c (.i .i64 0))))⟩])
   (.live [6, 7, 8, 3] (.block 0 (.loop [6, 7, 8, 3] c21l0))))
   (.live [3] (.seq (.region [⟨(some 17), none, (.op (.mv (.t 3)))⟩,
    ⟨(some 2), none, (.op (.mv (.t 17)))⟩])
   (.ret))))))),
  []⟩


/- floodgate/leb.Zig -/

def c22 : IFunc := ⟨1, [.tmp 2],
  .seq (.region [⟨(some 2), none, (.op (.mv (.c (.i .u64 0))))⟩])
   (.live [0] (.seq (.region [⟨(some 3), none, (.op (.mv (.t 0)))⟩,
    ⟨(some 4), none, (.op (.toInt .u64 (.t 3)))⟩,
    ⟨(some 5), none, (.op (.bin .int true .shl (.t 4) (.c (.i .u64 1))))⟩,
    ⟨(some 6), none, (.op (.mv (.t 0)))⟩,
    ⟨(some 7), none, (.op (.bin .int true .shr (.t 6) (.c (.i .u64 63))))⟩,
    ⟨(some 8), none, (.op (.toInt .u64 (.t 7)))⟩,
    ⟨(some 9), none, (.op (.bin .int false .xor (.t 5) (.t 8)))⟩,
    ⟨(some 2), none, (.op (.mv (.t 9)))⟩])
   (.ret))),
  []⟩


/- floodgate/script.bytes -/
def c23d0 : List Stage :=
  [⟨[(⟨(some 15), none, (.op (.mv (.t 3)))⟩, 1), (⟨(some 16), none, (.op (.faddr 4 (.t 1)))⟩, 0), (⟨(some 17), none, (.op (.load none (.t 16)))⟩, 0), (⟨(some 18), none, (.op (.len .slice (.t 17)))⟩, 0), (⟨(some 19), none, (.op (.toInt .u64 (.t 18)))⟩, 0), (⟨(some 21), none, (.op (.faddr 4 (.t 1)))⟩, 1), (⟨(some 22), none, (.op (.load none (.t 21)))⟩, 1)], none, some ⟨(some 20), none, (.call 41 [(.t 19)])⟩⟩,
    ⟨[], none, some ⟨(some 23), none, (.op (.bslice [.sn] 3 [(0, 1, (.t 15)), (1, 1, (.t 20)), (2, 1, (.t 22))]))⟩⟩,
    ⟨[], none, some ⟨(some 24), none, (.call 42 [(.t 23)])⟩⟩,
    ⟨[(⟨(some 2), none, (.op (.mv (.t 24)))⟩, 3)], none, none⟩]
def c23d0w : List (ROp × Bool) :=
  [(⟨(some 15), none, (.op (.mv (.t 3)))⟩, false), (⟨(some 16), none, (.op (.faddr 4 (.t 1)))⟩, false), (⟨(some 17), none, (.op (.load none (.t 16)))⟩, false), (⟨(some 18), none, (.op (.len .slice (.t 17)))⟩, false), (⟨(some 19), none, (.op (.toInt .u64 (.t 18)))⟩, false), (⟨(some 21), none, (.op (.faddr 4 (.t 1)))⟩, false), (⟨(some 22), none, (.op (.load none (.t 21)))⟩, false), (⟨(some 20), none, (.call 41 [(.t 19)])⟩, true), (⟨(some 23), none, (.op (.bslice [.sn] 3 [(0, 1, (.t 15)), (1, 1, (.t 20)), (2, 1, (.t 22))]))⟩, false), (⟨(some 24), none, (.call 42 [(.t 23)])⟩, false), (⟨(some 2), none, (.op (.mv (.t 24)))⟩, false)]
theorem c23d0_w {P : Program} {O : Orc} {S0 : Mem} {rd : Bool} {e : Env} {S : Mem} {d : List Nat} {Q : Kont} : W P O S0 rd (.draw c23d0 []) e S d Q = wFl O c23d0w e S (normK Q d) := W_draw' (by kernel_rfl) (by kernel_rfl)
attribute [go_sem] c23d0_w c23d0w
def c23d1 : List Stage :=
  [⟨[(⟨(some 36), none, (.op (.mv (.t 3)))⟩, 5), (⟨(some 37), none, (.op (.faddr 0 (.t 4)))⟩, 0), (⟨(some 38), none, (.op (.load none (.t 37)))⟩, 0), (⟨(some 40), none, (.op (.faddr 1 (.t 4)))⟩, 1), (⟨(some 41), none, (.op (.faddr 0 (.t 40)))⟩, 1), (⟨(some 42), none, (.op (.load (some 4) (.t 41)))⟩, 1), (⟨(some 45), none, (.op (.faddr 1 (.t 4)))⟩, 2), (⟨(some 46), none, (.op (.faddr 4 (.t 45)))⟩, 2), (⟨(some 47), none, (.op (.load none (.t 46)))⟩, 2), (⟨(some 49), none, (.op (.faddr 6 (.t 4)))⟩, 3), (⟨(some 50), none, (.op (.load none (.t 49)))⟩, 3), (⟨(some 51), none, (.op (.faddr 7 (.t 4)))⟩, 3), (⟨(some 52), none, (.op (.load none (.t 51)))⟩, 3), (⟨(some 53), none, (.op (.faddr 8 (.t 4)))⟩, 3), (⟨(some 54), none, (.op (.load none (.t 53)))⟩, 3), (⟨(some 55), none, (.op (.faddr 9 (.t 4)))⟩, 3), (⟨(some 56), none, (.op (.load none (.t 55)))⟩, 3), (⟨(some 57), none, (.op (.faddr 10 (.t 4)))⟩, 3), (⟨(some 58), none, (.op (.load none (.t 57)))⟩, 3), (⟨(some 59), none, (.op (.faddr 11 (.t 4)))⟩, 3), (⟨(some 60), none, (.op (.load none (.t 59)))⟩, 3), (⟨(some 61), none, (.op (.faddr 12 (.t 4)))⟩, 3), (⟨(some 62), none, (.op (.load none (.t 61)))⟩, 3)], none, some ⟨(some 39), none, (.call 22 [(.t 38)])⟩⟩,
    ⟨[], none, some ⟨(some 43), none, (.call 43 [(.t 42)])⟩⟩,
    ⟨[(⟨(some 44), none, (.op (.toInt .u64 (.t 43)))⟩, 3)], none, some ⟨(some 48), none, (.call 22 [(.t 47)])⟩⟩,
    ⟨[], none, some ⟨(some 63), none, (.op (.bslice [(.i .u64 0)] 10 [(0, 1, (.t 39)), (1, 1, (.t 44)), (2, 1, (.t 48)), (3, 1, (.t 50)), (4, 1, (.t 52)), (5, 1, (.t 54)), (6, 1, (.t 56)), (7, 1, (.t 58)), (8, 1, (.t 60)), (9, 1, (.t 62))]))⟩⟩,
    ⟨[], none, some ⟨(some 64), none, (.call 21 [(.t 63)])⟩⟩,
    ⟨[], none, some ⟨(some 65), none, (.op (.app 1 1 (.t 36) (.t 64)))⟩⟩,
    ⟨[(⟨(some 2), none, (.op (.mv (.t 65)))⟩, 6)], none, none⟩]
def c23d1w : List (ROp × Bool) :=
  [(⟨(some 36), none, (.op (.mv (.t 3)))⟩, false), (⟨(some 37), none, (.op (.faddr 0 (.t 4)))⟩, false), (⟨(some 38), none, (.op (.load none (.t 37)))⟩, false), (⟨(some 40), none, (.op (.faddr 1 (.t 4)))⟩, false), (⟨(some 41), none, (.op (.faddr 0 (.t 40)))⟩, false), (⟨(some 42), none, (.op (.load (some 4) (.t 41)))⟩, false), (⟨(some 45), none, (.op (.faddr 1 (.t 4)))⟩, false), (⟨(some 46), none, (.op (.faddr 4 (.t 45)))⟩, false), (⟨(some 47), none, (.op (.load none (.t 46)))⟩, false), (⟨(some 49), none, (.op (.faddr 6 (.t 4)))⟩, false), (⟨(some 50), none, (.op (.load none (.t 49)))⟩, false), (⟨(some 51), none, (.op (.faddr 7 (.t 4)))⟩, false), (⟨(some 52), none, (.op (.load none (.t 51)))⟩, false), (⟨(some 53), none, (.op (.faddr 8 (.t 4)))⟩, false), (⟨(some 54), none, (.op (.load none (.t 53)))⟩, false), (⟨(some 55), none, (.op (.faddr 9 (.t 4)))⟩, false), (⟨(some 56), none, (.op (.load none (.t 55)))⟩, false), (⟨(some 57), none, (.op (.faddr 10 (.t 4)))⟩, false), (⟨(some 58), none, (.op (.load none (.t 57)))⟩, false), (⟨(some 59), none, (.op (.faddr 11 (.t 4)))⟩, false), (⟨(some 60), none, (.op (.load none (.t 59)))⟩, false), (⟨(some 61), none, (.op (.faddr 12 (.t 4)))⟩, false), (⟨(some 62), none, (.op (.load none (.t 61)))⟩, false), (⟨(some 39), none, (.call 22 [(.t 38)])⟩, true), (⟨(some 43), none, (.call 43 [(.t 42)])⟩, true), (⟨(some 44), none, (.op (.toInt .u64 (.t 43)))⟩, false), (⟨(some 48), none, (.call 22 [(.t 47)])⟩, true), (⟨(some 63), none, (.op (.bslice [(.i .u64 0)] 10 [(0, 1, (.t 39)), (1, 1, (.t 44)), (2, 1, (.t 48)), (3, 1, (.t 50)), (4, 1, (.t 52)), (5, 1, (.t 54)), (6, 1, (.t 56)), (7, 1, (.t 58)), (8, 1, (.t 60)), (9, 1, (.t 62))]))⟩, false), (⟨(some 64), none, (.call 21 [(.t 63)])⟩, false), (⟨(some 65), none, (.op (.app 1 1 (.t 36) (.t 64)))⟩, false), (⟨(some 2), none, (.op (.mv (.t 65)))⟩, false)]
theorem c23d1_w {P : Program} {O : Orc} {S0 : Mem} {rd : Bool} {e : Env} {S : Mem} {d : List Nat} {Q : Kont} : W P O S0 rd (.draw c23d1 []) e S d Q = wFl O c23d1w e S (normK Q d) := W_draw' (by kernel_rfl) (by kernel_rfl)
attribute [go_sem] c23d1_w c23d1w
def c23l2 : ICode :=
  .seq (.region [⟨(some 96), none, (.op (.bin .int false .lss (.t 95) (.t 94)))⟩])
   (.live [93, 94, 95, 3, 96] (.seq (.cond (.t 96) (.skip)
   (.exit 1))
   (.live [93, 94, 95, 3] (.seq (.block 2 (.seq (.region [⟨(some 97), none, (.op (.iaddr none 1 (.t 93) (.t 95)))⟩,
    ⟨(some 98), none, (.op (.load none (.t 97)))⟩,
    ⟨(some 6), none, (.op (.mv (.t 98)))⟩])
   (.live [93, 94, 95, 6, 3] (.region [⟨(some 99), none, (.op (.mv (.t 3)))⟩,
    ⟨(some 100), none, (.op (.mv (.t 6)))⟩,
    ⟨(some 101), none, (.call 44 [(.t 100)])⟩,
    ⟨(some 102), none, (.call 41 [(.t 101)])⟩,
    ⟨(some 103), none, (.op (.app 1 1 (.t 99) (.t 102)))⟩,
    ⟨(some 3), none, (.op (.mv (.t 103)))⟩]))))
   (.live [93, 94, 3, 95] (.region [⟨(some 104), none, (.op (.bin .int true .add (.t 95) (.c (.i .i64 1))))⟩,
    ⟨(some 95), none, (.op (.mv (.t 104)))⟩]))))))
def c23 : IFunc := ⟨1, [.tmp 2],
  .seq (.region [⟨(some 1), none, (.op (.box (.t 0)))⟩,
    ⟨(some 2), none, (.op (.mv (.c .sn)))⟩])
   (.live [1] (.seq (.region [⟨(some 7), none, (.op (.faddr 0 (.t 1)))⟩,
    ⟨(some 8), none, (.op (.load none (.t 7)))⟩,
    ⟨(some 9), none, (.op (.toInt .u64 (.t 8)))⟩,
    ⟨(some 10), none, (.call 41 [(.t 9)])⟩,
    ⟨(some 3), none, (.op (.mv (.t 10)))⟩])
   (.live [3, 1] (.seq (.seq (.region [⟨(some 11), none, (.op (.faddr 0 (.t 1)))⟩,
    ⟨(some 12), none, (.op (.load none (.t 11)))⟩])
   (.live [3, 1, 12] (.block 0 (.seq (.region [⟨(some 14), none, (.op (.bin .int true .eql (.t 12) (.c (.i .i64 0))))⟩,
    ⟨(some 13), none, (.op (.mv (.t 14)))⟩])
   (.live [3, 1, 12, 13] (.cond (.t 13) (.seq (.draw c23d0 [])
   (.ret))
   (.seq (.region [⟨(some 26), none, (.op (.bin .int true .eql (.t 12) (.c (.i .i64 1))))⟩,
    ⟨(some 25), none, (.op (.mv (.t 26)))⟩])
   (.live [1, 3, 12, 25] (.cond (.t 25) (.seq (.region [⟨(some 27), none, (.op (.mv (.t 3)))⟩,
    ⟨(some 28), none, (.op (.faddr 3 (.t 1)))⟩,
    ⟨(some 29), none, (.op (.load none (.t 28)))⟩,
    ⟨(some 30), none, (.call 41 [(.t 29)])⟩,
    ⟨(some 31), none, (.op (.app 1 1 (.t 27) (.t 30)))⟩,
    ⟨(some 2), none, (.op (.mv (.t 31)))⟩])
   (.ret))
   (.seq (.region [⟨(some 33), none, (.op (.bin .int true .eql (.t 12) (.c (.i .i64 4))))⟩,
    ⟨(some 32), none, (.op (.mv (.t 33)))⟩])
   (.live [3, 1, 12, 32] (.cond (.t 32) (.seq (.region [⟨(some 34), none, (.op (.faddr 5 (.t 1)))⟩,
    ⟨(some 35), none, (.op (.load (some 13) (.t 34)))⟩,
    ⟨(some 4), none, (.op (.fresh [(.i .i64 0), (.i .u8 0), (.i .u8 0), (.i .u8 0), (.i .u8 0), (.i .i64 0), (.i .u64 0), (.i .u64 0), (.i .u64 0), (.i .u64 0), (.i .u64 0), (.i .u64 0), (.i .u64 0)]))⟩,
    ⟨none, none, (.op (.store 13 (.t 4) (.t 35)))⟩])
   (.live [3, 4] (.seq (.draw c23d1 [])
   (.ret))))
   (.seq (.seq (.region [⟨(some 67), none, (.op (.bin .int true .eql (.t 12) (.c (.i .i64 5))))⟩,
    ⟨(some 66), none, (.op (.mv (.t 67)))⟩])
   (.live [1, 3, 12, 66] (.cond (.t 66) (.skip)
   (.region [⟨(some 68), none, (.op (.bin .int true .eql (.t 12) (.c (.i .i64 8))))⟩,
    ⟨(some 66), none, (.op (.mv (.t 68)))⟩]))))
   (.live [1, 3, 12, 66] (.cond (.t 66) (.seq (.region [⟨(some 69), none, (.op (.mv (.t 3)))⟩,
    ⟨(some 70), none, (.op (.faddr 1 (.t 1)))⟩,
    ⟨(some 71), none, (.op (.load none (.t 70)))⟩,
    ⟨(some 72), none, (.call 22 [(.t 71)])⟩,
    ⟨(some 73), none, (.call 41 [(.t 72)])⟩,
    ⟨(some 74), none, (.op (.app 1 1 (.t 69) (.t 73)))⟩,
    ⟨(some 2), none, (.op (.mv (.t 74)))⟩])
   (.ret))
   (.seq (.region [⟨(some 76), none, (.op (.bin .int true .eql (.t 12) (.c (.i .i64 10))))⟩,
    ⟨(some 75), none, (.op (.mv (.t 76)))⟩])
   (.live [1, 3, 12, 75] (.cond (.t 75) (.seq (.region [⟨(some 77), none, (.op (.mv (.t 3)))⟩,
    ⟨(some 78), none, (.op (.faddr 2 (.t 1)))⟩,
    ⟨(some 79), none, (.op (.load none (.t 78)))⟩,
    ⟨(some 80), none, (.call 22 [(.t 79)])⟩,
    ⟨(some 81), none, (.call 41 [(.t 80)])⟩,
    ⟨(some 82), none, (.op (.app 1 1 (.t 77) (.t 81)))⟩,
    ⟨(some 2), none, (.op (.mv (.t 82)))⟩])
   (.ret))
   (.seq (.region [⟨(some 84), none, (.op (.bin .int true .eql (.t 12) (.c (.i .i64 11))))⟩,
    ⟨(some 83), none, (.op (.mv (.t 84)))⟩])
   (.live [1, 3, 83] (.cond (.t 83) (.seq (.region [⟨(some 85), none, (.op (.mv (.t 3)))⟩,
    ⟨(some 86), none, (.op (.faddr 18 (.t 1)))⟩,
    ⟨(some 87), none, (.op (.load none (.t 86)))⟩,
    ⟨(some 88), none, (.op (.len .slice (.t 87)))⟩,
    ⟨(some 89), none, (.op (.toInt .u64 (.t 88)))⟩,
    ⟨(some 90), none, (.call 41 [(.t 89)])⟩,
    ⟨(some 91), none, (.op (.app 1 1 (.t 85) (.t 90)))⟩,
    ⟨(some 3), none, (.op (.mv (.t 91)))⟩])
   (.live [3, 1] (.seq (.region [⟨(some 92), none, (.op (.faddr 18 (.t 1)))⟩,
    ⟨(some 93), none, (.op (.load none (.t 92)))⟩,
    ⟨(some 94), none, (.op (.len .slice (.t 93)))⟩,
    ⟨(some 95), none, (.op (.mv (.c (.i .i64 0))))⟩])
   (.live [93, 94, 95, 3] (.block 1 (.loop [93, 94, 95, 3] c23l2))))))
   (.skip))))))))))))))))))))))
   (.live [3] (.seq (.region [⟨(some 105), none, (.op (.mv (.t 3)))⟩,
    ⟨(some 2), none, (.op (.mv (.t 105)))⟩])
   (.ret))))))),
  []⟩


/- floodgate/script.begin -/

def c24 : IFunc := ⟨2, [.tmp 4, .tmp 5],
  .seq (.region [⟨(some 2), none, (.op (.box (.t 0)))⟩,
    ⟨(some 4), none, (.op (.mv (.c .pn)))⟩,
    ⟨(some 5), none, (.op (.mv (.c (.i .i64 0))))⟩])
   (.live [2, 1] (.seq (.seq (.region [⟨(some 6), none, (.op (.mv (.t 1)))⟩,
    ⟨(some 7), none, (.call 20 [(.t 6)])⟩,
    ⟨(some 8), none, (.op (.un .not (.t 7)))⟩])
   (.live [2, 8] (.cond (.t 8) (.seq (.region [⟨(some 4), none, (.op (.mv (.c .pn)))⟩,
    ⟨(some 5), none, (.op (.mv (.c (.i .i64 221))))⟩])
   (.ret))
   (.skip))))
   (.live [2] (.seq (.region [⟨(some 9), none, (.op (.load (some 3) (.t 2)))⟩,
    ⟨(some 10), none, (.call 45 [(.t 9)])⟩,
    ⟨(some 11), none, (.op (.ext (.t 10) 0))⟩,
    ⟨(some 12), none, (.op (.ext (.t 10) 1))⟩,
    ⟨(some 4), none, (.op (.mv (.t 11)))⟩,
    ⟨(some 5), none, (.op (.mv (.t 12)))⟩])
   (.ret))))),
  []⟩


/- floodgate/script.Do -/

def c25 : IFunc := ⟨2, [.cell 4 (some 28)],
  .seq (.region [⟨(some 3), none, (.op (.box (.t 1)))⟩,
    ⟨(some 4), none, (.op (.fresh [(.i .i64 0), (.i .i64 0), (.b false), (.i .i64 0), (.i .i64 0), (.b false), .sn, (.i .u64 0), (.i .i64 0), (.b false), (.i .i64 0), (.i .u8 0), (.i .u8 0), (.i .u8 0), (.i .u8 0), (.i .i64 0), (.i .u64 0), (.i .u64 0), (.i .u64 0), (.i .u64 0), (.i .u64 0), (.i .u64 0), (.i .u64 0), (.i .u64 0), (.i .u64 0), (.i .i64 0), (.i .u64 0), (.i .u64 0)]))⟩])
   (.live [4, 3, 0] (.seq (.region [⟨(some 5), none, (.op (.fresh [(.i .i64 0), (.i .i64 0), (.b false), (.i .i64 0), (.i .i64 0), (.b false), .sn, (.i .u64 0), (.i .i64 0), (.b false), (.i .i64 0), (.i .u8 0), (.i .u8 0), (.i .u8 0), (.i .u8 0), (.i .i64 0), (.i .u64 0), (.i .u64 0), (.i .u64 0), (.i .u64 0), (.i .u64 0), (.i .u64 0), (.i .u64 0), (.i .u64 0), (.i .u64 0), (.i .i64 0), (.i .u64 0), (.i .u64 0)]))⟩])
   (.live [4, 5, 3, 0] (.seq (.seq (.region [⟨(some 6), none, (.op (.load (some 19) (.t 3)))⟩,
    ⟨(some 7), none, (.call 15 [(.t 6)])⟩,
    ⟨(some 8), none, (.op (.un .not (.t 7)))⟩])
   (.live [4, 5, 3, 0, 8] (.cond (.t 8) (.seq (.region [⟨(some 9), none, (.op (.load (some 28) (.t 5)))⟩,
    ⟨none, none, (.op (.store 28 (.t 4) (.t 9)))⟩])
   (.ret))
   (.skip))))
   (.live [4, 5, 3, 0] (.seq (.seq (.region [⟨(some 10), none, (.op (.faddr 0 (.t 3)))⟩,
    ⟨(some 11), none, (.op (.load none (.t 10)))⟩])
   (.live [4, 5, 3, 0, 11] (.block 0 (.seq (.region [⟨(some 18), none, (.op (.bin .int true .eql (.t 11) (.c (.i .i64 0))))⟩,
    ⟨(some 17), none, (.op (.mv (.t 18)))⟩])
   (.live [4, 5, 3, 0, 11, 17] (.cond (.t 17) (.region [⟨(some 20), none, (.op (.mv (.t 0)))⟩,
    ⟨(some 21), none, (.op (.faddr 4 (.t 3)))⟩,
    ⟨(some 22), none, (.op (.load none (.t 21)))⟩,
    ⟨(some 23), none, (.call 46 [(.t 20), (.t 22)])⟩,
    ⟨(some 19), none, (.op (.mv (.t 23)))⟩,
    ⟨(some 24), none, (.op (.ext (.t 19) 0))⟩,
    ⟨(some 25), none, (.op (.ext (.t 19) 1))⟩,
    ⟨(some 26), none, (.op (.faddr 1 (.t 5)))⟩,
    ⟨none, none, (.op (.store 1 (.t 26) (.t 24)))⟩,
    ⟨(some 27), none, (.op (.faddr 0 (.t 5)))⟩,
    ⟨none, none, (.op (.store 1 (.t 27) (.t 25)))⟩])
   (.seq (.region [⟨(some 29), none, (.op (.bin .int true .eql (.t 11) (.c (.i .i64 1))))⟩,
    ⟨(some 28), none, (.op (.mv (.t 29)))⟩])
   (.live [4, 5, 3, 0, 11, 28] (.cond (.t 28) (.region [⟨(some 31), none, (.op (.mv (.t 0)))⟩,
    ⟨(some 32), none, (.op (.faddr 3 (.t 3)))⟩,
    ⟨(some 33), none, (.op (.load none (.t 32)))⟩,
    ⟨(some 34), none, (.call 47 [(.t 31), (.t 33)])⟩,
    ⟨(some 30), none, (.op (.mv (.t 34)))⟩,
    ⟨(some 35), none, (.op (.ext (.t 30) 0))⟩,
    ⟨(some 36), none, (.op (.ext (.t 30) 1))⟩,
    ⟨(some 37), none, (.op (.faddr 2 (.t 5)))⟩,
    ⟨none, none, (.op (.store 1 (.t 37) (.t 35)))⟩,
    ⟨(some 38), none, (.op (.faddr 0 (.t 5)))⟩,
    ⟨none, none, (.op (.store 1 (.t 38) (.t 36)))⟩])
   (.seq (.region [⟨(some 40), none, (.op (.bin .int true .eql (.t 11) (.c (.i .i64 2))))⟩,
    ⟨(some 39), none, (.op (.mv (.t 40)))⟩])
   (.live [4, 5, 0, 3, 11, 39] (.cond (.t 39) (.region [⟨(some 42), none, (.op (.mv (.t 0)))⟩,
    ⟨(some 43), none, (.call 48 [(.t 42)])⟩,
    ⟨(some 41), none, (.op (.mv (.t 43)))⟩,
    ⟨(some 44), none, (.op (.ext (.t 41) 0))⟩,
    ⟨(some 45), none, (.op (.ext (.t 41) 1))⟩,
    ⟨(some 46), none, (.op (.faddr 3 (.t 5)))⟩,
    ⟨none, none, (.op (.store 4 (.t 46) (.t 44)))⟩,
    ⟨(some 47), none, (.op (.faddr 0 (.t 5)))⟩,
    ⟨none, none, (.op (.store 1 (.t 47) (.t 45)))⟩])
   (.seq (.region [⟨(some 49), none, (.op (.bin .int true .eql (.t 11) (.c (.i .i64 4))))⟩,
    ⟨(some 48), none, (.op (.mv (.t 49)))⟩])
   (.live [4, 5, 3, 0, 11, 48] (.cond (.t 48) (.region [⟨(some 50), none, (.op (.mv (.t 0)))⟩,
    ⟨(some 51), none, (.op (.faddr 5 (.t 3)))⟩,
    ⟨(some 52), none, (.op (.load (some 13) (.t 51)))⟩,
    ⟨(some 53), none, (.call 49 [(.t 50), (.t 52)])⟩,
    ⟨(some 54), none, (.op (.faddr 0 (.t 5)))⟩,
    ⟨none, none, (.op (.store 1 (.t 54) (.t 53)))⟩])
   (.seq (.region [⟨(some 56), none, (.op (.bin .int true .eql (.t 11) (.c (.i .i64 5))))⟩,
    ⟨(some 55), none, (.op (.mv (.t 56)))⟩])
   (.live [4, 5, 3, 0, 11, 55] (.cond (.t 55) (.region [⟨(some 57), none, (.op (.mv (.t 0)))⟩,
    ⟨(some 58), none, (.op (.faddr 1 (.t 3)))⟩,
    ⟨(some 59), none, (.op (.load none (.t 58)))⟩,
    ⟨(some 60), none, (.call 50 [(.t 57), (.t 59)])⟩,
    ⟨(some 61), none, (.op (.faddr 0 (.t 5)))⟩,
    ⟨none, none, (.op (.store 1 (.t 61) (.t 60)))⟩])
   (.seq (.region [⟨(some 63), none, (.op (.bin .int true .eql (.t 11) (.c (.i .i64 8))))⟩,
    ⟨(some 62), none, (.op (.mv (.t 63)))⟩])
   (.live [4, 5, 3, 0, 11, 62] (.cond (.t 62) (.region [⟨(some 65), none, (.op (.mv (.t 0)))⟩,
    ⟨(some 66), none, (.op (.faddr 1 (.t 3)))⟩,
    ⟨(some 67), none, (.op (.load none (.t 66)))⟩,
    ⟨(some 68), none, (.call 51 [(.t 65), (.t 67)])⟩,
    ⟨(some 64), none, (.op (.mv (.t 68)))⟩,
    ⟨(some 69), none, (.op (.ext (.t 64) 0))⟩,
    ⟨(some 70), none, (.op (.ext (.t 64) 1))⟩,
    ⟨(some 71), none, (.op (.faddr 7 (.t 5)))⟩,
    ⟨none, none, (.op (.store 21 (.t 71) (.t 69)))⟩,
    ⟨(some 72), none, (.op (.faddr 0 (.t 5)))⟩,
    ⟨none, none, (.op (.store 1 (.t 72) (.t 70)))⟩])
   (.seq (.region [⟨(some 74), none, (.op (.bin .int true .eql (.t 11) (.c (.i .i64 10))))⟩,
    ⟨(some 73), none, (.op (.mv (.t 74)))⟩])
   (.live [4, 5, 3, 0, 11, 73] (.cond (.t 73) (.region [⟨(some 75), none, (.op (.mv (.t 0)))⟩,
    ⟨(some 76), none, (.op (.faddr 2 (.t 3)))⟩,
    ⟨(some 77), none, (.op (.load none (.t 76)))⟩,
    ⟨(some 78), none, (.call 52 [(.t 75), (.t 77)])⟩])
   (.seq (.region [⟨(some 80), none, (.op (.bin .int true .eql (.t 11) (.c (.i .i64 11))))⟩,
    ⟨(some 79), none, (.op (.mv (.t 80)))⟩])
   (.live [4, 5, 3, 0, 79] (.cond (.t 79) (.region [⟨(some 81), none, (.op (.mv (.t 0)))⟩,
    ⟨(some 82), none, (.op (.faddr 18 (.t 3)))⟩,
    ⟨(some 83), none, (.op (.load none (.t 82)))⟩,
    ⟨(some 84), none, (.call 53 [(.t 81), (.t 83)])⟩])
   (.region [⟨(some 12), none, (.op (.mv (.t 0)))⟩,
    ⟨(some 13), none, (.op (.faddr 0 (.t 3)))⟩,
    ⟨(some 14), none, (.op (.load none (.t 13)))⟩,
    ⟨(some 15), none, (.call 54 [(.t 12), (.t 14)])⟩,
    ⟨(some 16), none, (.op (.faddr 0 (.t 5)))⟩,
    ⟨none, none, (.op (.store 1 (.t 16) (.t 15)))⟩]))))))))))))))))))))))))))))
   (.live [4, 5] (.seq (.region [⟨(some 85), none, (.op (.load (some 28) (.t 5)))⟩,
    ⟨none, none, (.op (.store 28 (.t 4) (.t 85)))⟩])
   (.ret))))))))),
  []⟩


/- slices.Equal[[]byte,byte] -/
def c26d0 : List Stage :=
  [⟨[(⟨(some 16), none, (.op (.mv (.t 0)))⟩, 0), (⟨(some 17), none, (.op (.mv (.t 5)))⟩, 0), (⟨(some 18), none, (.op (.iaddr none 1 (.t 16) (.t 17)))⟩, 0), (⟨(some 19), none, (.op (.load none (.t 18)))⟩, 0), (⟨(some 20), none, (.op (.mv (.t 1)))⟩, 0), (⟨(some 21), none, (.op (.mv (.t 5)))⟩, 0), (⟨(some 22), none, (.op (.iaddr none 1 (.t 20) (.t 21)))⟩, 0), (⟨(some 23), none, (.op (.load none (.t 22)))⟩, 0), (⟨(some 24), none, (.op (.bin .int false .neq (.t 19) (.t 23)))⟩, 0)], none, none⟩]
def c26d0w : List (ROp × Bool) :=
  [(⟨(some 16), none, (.op (.mv (.t 0)))⟩, false), (⟨(some 17), none, (.op (.mv (.t 5)))⟩, false), (⟨(some 18), none, (.op (.iaddr none 1 (.t 16) (.t 17)))⟩, false), (⟨(some 19), none, (.op (.load none (.t 18)))⟩, false), (⟨(some 20), none, (.op (.mv (.t 1)))⟩, false), (⟨(some 21), none, (.op (.mv (.t 5)))⟩, false), (⟨(some 22), none, (.op (.iaddr none 1 (.t 20) (.t 21)))⟩, false), (⟨(some 23), none, (.op (.load none (.t 22)))⟩, false), (⟨(some 24), none, (.op (.bin .int false .neq (.t 19) (.t 23)))⟩, false)]
theorem c26d0_w {P : Program} {O : Orc} {S0 : Mem} {rd : Bool} {e : Env} {S : Mem} {d : List Nat} {Q : Kont} : W P O S0 rd (.draw c26d0 []) e S d Q = wFl O c26d0w e S (normK Q d) := W_draw' (by kernel_rfl) (by kernel_rfl)
attribute [go_sem] c26d0_w c26d0w
def c26l1 : ICode :=
  .seq (.region [⟨(some 14), none, (.op (.bin .int false .lss (.t 13) (.t 12)))⟩])
   (.live [0, 1, 12, 13, 14] (.seq (.cond (.t 14) (.skip)
   (.exit 0))
   (.live [0, 1, 12, 13] (.seq (.block 1 (.seq (.region [⟨(some 15), none, (.op (.mv (.t 13)))⟩,
    ⟨(some 5), none, (.op (.mv (.t 15)))⟩])
   (.live [0, 1, 12, 13, 5] (.seq (.draw c26d0 [])
   (.live [0, 1, 12, 13, 24] (.cond (.t 24) (.seq (.region [⟨(some 4), none, (.op (.mv (.c (.b false))))⟩])
   (.ret))
   (.skip)))))))
   (.live [0, 1, 12, 13] (.region [⟨(some 25), none, (.op (.bin .int true .add (.t 13) (.c (.i .i64 1))))⟩,
    ⟨(some 13), none, (.op (.mv (.t 25)))⟩]))))))
def c26 : IFunc := ⟨2, [.tmp 4],
  .seq (.region [⟨(some 4), none, (.op (.mv (.c (.b false))))⟩])
   (.live [0, 1] (.seq (.seq (.region [⟨(some 6), none, (.op (.mv (.t 0)))⟩,
    ⟨(some 7), none, (.op (.len .slice (.t 6)))⟩,
    ⟨(some 8), none, (.op (.mv (.t 1)))⟩,
    ⟨(some 9), none, (.op (.len .slice (.t 8)))⟩,
    ⟨(some 10), none, (.op (.bin .int false .neq (.t 7) (.t 9)))⟩])
   (.live [0, 1, 10] (.cond (.t 10) (.seq (.region [⟨(some 4), none, (.op (.mv (.c (.b false))))⟩])
   (.ret))
   (.skip))))
   (.live [0, 1] (.seq (.seq (.region [⟨(some 11), none, (.op (.mv (.t 0)))⟩,
    ⟨(some 12), none, (.op (.len .slice (.t 11)))⟩,
    ⟨(some 13), none, (.op (.mv (.c (.i .i64 0))))⟩])
   (.live [0, 1, 12, 13] (.block 0 (.loop [0, 1, 12, 13] c26l1))))
   (.live [] (.seq (.region [⟨(some 4), none, (.op (.mv (.c (.b true))))⟩])
   (.ret))))))),
  []⟩


/- slices.Equal[[]bool,bool] -/
def c27d0 : List Stage :=
  [⟨[(⟨(some 16), none, (.op (.mv (.t 0)))⟩, 0), (⟨(some 17), none, (.op (.mv (.t 5)))⟩, 0), (⟨(some 18), none, (.op (.iaddr none 1 (.t 16) (.t 17)))⟩, 0), (⟨(some 19), none, (.op (.load none (.t 18)))⟩, 0), (⟨(some 20), none, (.op (.mv (.t 1)))⟩, 0), (⟨(some 21), none, (.op (.mv (.t 5)))⟩, 0), (⟨(some 22), none, (.op (.iaddr none 1 (.t 20) (.t 21)))⟩, 0), (⟨(some 23), none, (.op (.load none (.t 22)))⟩, 0), (⟨(some 24), none, (.op (.bin .bool false .neq (.t 19) (.t 23)))⟩, 0)], none, none⟩]
def c27d0w : List (ROp × Bool) :=
  [(⟨(some 16), none, (.op (.mv (.t 0)))⟩, false), (⟨(some 17), none, (.op (.mv (.t 5)))⟩, false), (⟨(some 18), none, (.op (.iaddr none 1 (.t 16) (.t 17)))⟩, false), (⟨(some 19), none, (.op (.load none (.t 18)))⟩, false), (⟨(some 20), none, (.op (.mv (.t 1)))⟩, false), (⟨(some 21), none, (.op (.mv (.t 5)))⟩, false), (⟨(some 22), none, (.op (.iaddr none 1 (.t 20) (.t 21)))⟩, false), (⟨(some 23), none, (.op (.load none (.t 22)))⟩, false), (⟨(some 24), none, (.op (.bin .bool false .neq (.t 19) (.t 23)))⟩, false)]
theorem c27d0_w {P : Program} {O : Orc} {S0 : Mem} {rd : Bool} {e : Env} {S : Mem} {d : List Nat} {Q : Kont} : W P O S0 rd (.draw c27d0 []) e S d Q = wFl O c27d0w e S (normK Q d) := W_draw' (by kernel_rfl) (by kernel_rfl)
attribute [go_sem] c27d0_w c27d0w
def c27l1 : ICode :=
  .seq (.region [⟨(some 14), none, (.op (.bin .int false .lss (.t 13) (.t 12)))⟩])
   (.live [0, 1, 12, 13, 14] (.seq (.cond (.t 14) (.skip)
   (.exit 0))
   (.live [0, 1, 12, 13] (.seq (.block 1 (.seq (.region [⟨(some 15), none, (.op (.mv (.t 13)))⟩,
    ⟨(some 5), none, (.op (.mv (.t 15)))⟩])
   (.live [0, 1, 12, 13, 5] (.seq (.draw c27d0 [])
   (.live [0, 1, 12, 13, 24] (.cond (.t 24) (.seq (.region [⟨(some 4), none, (.op (.mv (.c (.b false))))⟩])
   (.ret))
   (.skip)))))))
   (.live [0, 1, 12, 13] (.region [⟨(some 25), none, (.op (.bin .int true .add (.t 13) (.c (.i .i64 1))))⟩,
    ⟨(some 13), none, (.op (.mv (.t 25)))⟩]))))))
def c27 : IFunc := ⟨2, [.tmp 4],
  .seq (.region [⟨(some 4), none, (.op (.mv (.c (.b false))))⟩])
   (.live [0, 1] (.seq (.seq (.region [⟨(some 6), none, (.op (.mv (.t 0)))⟩,
    ⟨(some 7), none, (.op (.len .slice (.t 6)))⟩,
    ⟨(some 8), none, (.op (.mv (.t 1)))⟩,
    ⟨(some 9), none, (.op (.len .slice (.t 8)))⟩,
    ⟨(some 10), none, (.op (.bin .int false .neq (.t 7) (.t 9)))⟩])
   (.live [0, 1, 10] (.cond (.t 10) (.seq (.region [⟨(some 4), none, (.op (.mv (.c (.b false))))⟩])
   (.ret))
   (.skip))))
   (.live [0, 1] (.seq (.seq (.region [⟨(some 11), none, (.op (.mv (.t 0)))⟩,
    ⟨(some 12), none, (.op (.len .slice (.t 11)))⟩,
    ⟨(some 13), none, (.op (.mv (.c (.i .i64 0))))⟩])
   (.live [0, 1, 12, 13] (.block 0 (.loop [0, 1, 12, 13] c27l1))))
   (.live [] (.seq (.region [⟨(some 4), none, (.op (.mv (.c (.b true))))⟩])
   (.ret))))))),
  []⟩


/- floodgate/floodgateref22.All -/
def c28l0 : ICode :=
  .seq (.region [⟨(some 11), none, (.op (.bin .int false .lss (.t 10) (.t 9)))⟩])
   (.live [8, 9, 10, 11] (.seq (.cond (.t 11) (.skip)
   (.exit 0))
   (.live [8, 9, 10] (.seq (.block 1 (.seq (.region [⟨(some 12), none, (.op (.iaddr none 19 (.t 8) (.t 10)))⟩,
    ⟨(some 13), none, (.op (.load (some 19) (.t 12)))⟩,
    ⟨(some 4), none, (.op (.fresh [(.i .i64 0), (.i .i64 0), (.i .i64 0), (.i .u64 0), .sn, (.i .i64 0), (.i .u8 0), (.i .u8 0), (.i .u8 0), (.i .u8 0), (.i .i64 0), (.i .u64 0), (.i .u64 0), (.i .u64 0), (.i .u64 0), (.i .u64 0), (.i .u64 0), (.i .u64 0), .sn]))⟩,
    ⟨none, none, (.op (.store 19 (.t 4) (.t 13)))⟩])
   (.live [8, 9, 10, 4] (.seq (.region [⟨(some 14), none, (.op (.load (some 19) (.t 4)))⟩,
    ⟨(some 15), none, (.call 16 [(.t 14)])⟩,
    ⟨(some 16), none, (.op (.un .not (.t 15)))⟩])
   (.live [8, 9, 10, 16] (.cond (.t 16) (.seq (.region [⟨(some 2), none, (.op (.mv (.c (.b false))))⟩])
   (.ret))
   (.skip)))))))
   (.live [8, 9, 10] (.region [⟨(some 17), none, (.op (.bin .int true .add (.t 10) (.c (.i .i64 1))))⟩,
    ⟨(some 10), none, (.op (.mv (.t 17)))⟩]))))))
def c28 : IFunc := ⟨1, [.tmp 2],
  .seq (.region [⟨(some 2), none, (.op (.mv (.c (.b false))))⟩])
   (.live [0] (.seq (.seq (.region [⟨(some 5), none, (.op (.mv (.t 0)))⟩,
    ⟨(some 6), none, (.op (.len .slice (.t 5)))⟩,
    ⟨(some 7), none, (.op (.bin .int true .gtr (.t 6) (.c (.i .i64 400))))⟩])
   (.live [0, 7] (.cond (.t 7) (.seq (.region [⟨(some 2), none, (.op (.mv (.c (.b false))))⟩])
   (.ret))
   (.skip))))
   (.live [0] (.seq (.seq (.region [⟨(some 8), none, (.op (.mv (.t 0)))⟩,
    ⟨(some 9), none, (.op (.len .slice (.t 8)))⟩,
    ⟨(some 10), none, (.op (.mv (.c (.i .i64 0))))⟩])
   (.live [8, 9, 10] (.block 0 (.loop [8, 9, 10] c28l0))))
   (.live [] (.seq (.region [⟨(some 2), none, (.op (.mv (.c (.b true))))⟩])
   (.ret))))))),
  []⟩


/- floodgate/floodgateref02.Nums -/
def c29l0 : ICode :=
  .seq (.region [⟨(some 10), none, (.op (.bin .int false .lss (.t 9) (.t 8)))⟩])
   (.live [7, 8, 9, 3, 10] (.seq (.cond (.t 10) (.skip)
   (.exit 0))
   (.live [7, 8, 9, 3] (.seq (.block 1 (.seq (.region [⟨(some 11), none, (.op (.iaddr none 1 (.t 7) (.t 9)))⟩,
    ⟨(some 12), none, (.op (.load none (.t 11)))⟩,
    ⟨(some 5), none, (.op (.mv (.t 12)))⟩])
   (.live [7, 8, 9, 5, 3] (.region [⟨(some 13), none, (.op (.mv (.t 3)))⟩,
    ⟨(some 14), none, (.op (.mv (.t 5)))⟩,
    ⟨(some 15), none, (.call 55 [(.t 14)])⟩,
    ⟨(some 16), none, (.op (.app 1 1 (.t 13) (.t 15)))⟩,
    ⟨(some 3), none, (.op (.mv (.t 16)))⟩]))))
   (.live [7, 8, 3, 9] (.region [⟨(some 17), none, (.op (.bin .int true .add (.t 9) (.c (.i .i64 1))))⟩,
    ⟨(some 9), none, (.op (.mv (.t 17)))⟩]))))))
def c29 : IFunc := ⟨1, [.tmp 2],
  .seq (.region [⟨(some 2), none, (.op (.mv (.c .sn)))⟩])
   (.live [0] (.seq (.region [⟨(some 6), none, (.op (.bslice [(.i .u8 0)] 0 []))⟩,
    ⟨(some 3), none, (.op (.mv (.t 6)))⟩])
   (.live [3, 0] (.seq (.seq (.region [⟨(some 7), none, (.op (.mv (.t 0)))⟩,
    ⟨(some 8), none, (.op (.len .slice (.t 7)))⟩,
    ⟨(some 9), none, (.op (.mv (.c (.i .i64 0))))⟩])
   (.live [7, 8, 9, 3] (.block 0 (.loop [7, 8, 9, 3] c29l0))))
   (.live [3] (.seq (.region [⟨(some 18), none, (.op (.mv (.t 3)))⟩,
    ⟨(some 2), none, (.op (.mv (.t 18)))⟩])
   (.ret))))))),
  []⟩


/- floodgate/floodgateref22.zig -/

def c30 : IFunc := ⟨1, [.tmp 2],
  .seq (.region [⟨(some 2), none, (.op (.mv (.c (.i .u64 0))))⟩])
   (.live [0] (.seq (.region [⟨(some 3), none, (.op (.mv (.t 0)))⟩,
    ⟨(some 4), none, (.call 56 [(.t 3)])⟩,
    ⟨(some 2), none, (.op (.mv (.t 4)))⟩])
   (.ret))),
  []⟩


/- floodgate/floodgateref22.one -/
def c31d0 : List Stage :=
  [⟨[(⟨(some 34), none, (.op (.mv (.t 3)))⟩, 4), (⟨(some 35), none, (.op (.faddr 0 (.t 4)))⟩, 0), (⟨(some 36), none, (.op (.load none (.t 35)))⟩, 0), (⟨(some 38), none, (.op (.faddr 1 (.t 4)))⟩, 1), (⟨(some 39), none, (.op (.faddr 0 (.t 38)))⟩, 1), (⟨(some 40), none, (.op (.load (some 4) (.t 39)))⟩, 1), (⟨(some 43), none, (.op (.faddr 1 (.t 4)))⟩, 2), (⟨(some 44), none, (.op (.faddr 4 (.t 43)))⟩, 2), (⟨(some 45), none, (.op (.load none (.t 44)))⟩, 2)], none, some ⟨(some 37), none, (.call 30 [(.t 36)])⟩⟩,
    ⟨[], none, some ⟨(some 41), none, (.call 57 [(.t 40)])⟩⟩,
    ⟨[(⟨(some 42), none, (.op (.toInt .u64 (.t 41)))⟩, 3)], none, some ⟨(some 46), none, (.call 30 [(.t 45)])⟩⟩,
    ⟨[], none, some ⟨(some 47), none, (.op (.bslice [(.i .u64 0)] 3 [(0, 1, (.t 37)), (1, 1, (.t 42)), (2, 1, (.t 46))]))⟩⟩,
    ⟨[], none, some ⟨(some 48), none, (.op (.app 1 8 (.t 34) (.t 47)))⟩⟩,
    ⟨[(⟨(some 3), none, (.op (.mv (.t 48)))⟩, 5)], none, none⟩]
def c31d0w : List (ROp × Bool) :=
  [(⟨(some 34), none, (.op (.mv (.t 3)))⟩, false), (⟨(some 35), none, (.op (.faddr 0 (.t 4)))⟩, false), (⟨(some 36), none, (.op (.load none (.t 35)))⟩, false), (⟨(some 38), none, (.op (.faddr 1 (.t 4)))⟩, false), (⟨(some 39), none, (.op (.faddr 0 (.t 38)))⟩, false), (⟨(some 40), none, (.op (.load (some 4) (.t 39)))⟩, false), (⟨(some 43), none, (.op (.faddr 1 (.t 4)))⟩, false), (⟨(some 44), none, (.op (.faddr 4 (.t 43)))⟩, false), (⟨(some 45), none, (.op (.load none (.t 44)))⟩, false), (⟨(some 37), none, (.call 30 [(.t 36)])⟩, true), (⟨(some 41), none, (.call 57 [(.t 40)])⟩, true), (⟨(some 42), none, (.op (.toInt .u64 (.t 41)))⟩, false), (⟨(some 46), none, (.call 30 [(.t 45)])⟩, false), (⟨(some 47), none, (.op (.bslice [(.i .u64 0)] 3 [(0, 1, (.t 37)), (1, 1, (.t 42)), (2, 1, (.t 46))]))⟩, false), (⟨(some 48), none, (.op (.app 1 8 (.t 34) (.t 47)))⟩, false), (⟨(some 3), none, (.op (.mv (.t 48)))⟩, false)]
theorem c31d0_w {P : Program} {O : Orc} {S0 : Mem} {rd : Bool} {e : Env} {S : Mem} {d : List Nat} {Q : Kont} : W P O S0 rd (.draw c31d0 [3]) e S d Q = wFl O c31d0w e S (normK Q d) := W_draw' (by kernel_rfl) (by kernel_rfl)
attribute [go_sem] c31d0_w c31d0w
def c31l1 : ICode :=
  .seq (.region [⟨(some 96), none, (.op (.bin .int false .lss (.t 95) (.t 94)))⟩])
   (.live [93, 1, 94, 95, 3, 96] (.seq (.cond (.t 96) (.skip)
   (.exit 1))
   (.live [93, 1, 94, 95, 3] (.seq (.block 2 (.seq (.region [⟨(some 97), none, (.op (.iaddr none 1 (.t 93) (.t 95)))⟩,
    ⟨(some 98), none, (.op (.load none (.t 97)))⟩,
    ⟨(some 6), none, (.op (.mv (.t 98)))⟩])
   (.live [93, 1, 94, 95, 3, 6] (.seq (.region [⟨(some 7), none, (.op (.mv (.c (.i .u64 0))))⟩])
   (.live [93, 1, 94, 95, 3, 7, 6] (.seq (.seq (.region [⟨(some 99), none, (.op (.mv (.t 6)))⟩])
   (.live [93, 1, 94, 95, 3, 7, 99] (.cond (.t 99) (.region [⟨(some 7), none, (.op (.mv (.c (.i .u64 1))))⟩])
   (.skip))))
   (.live [93, 1, 94, 95, 7, 3] (.region [⟨(some 100), none, (.op (.mv (.t 3)))⟩,
    ⟨(some 101), none, (.op (.mv (.t 7)))⟩,
    ⟨(some 102), none, (.op (.bslice [(.i .u64 0)] 1 [(0, 1, (.t 101))]))⟩,
    ⟨(some 103), none, (.op (.app 1 8 (.t 100) (.t 102)))⟩,
    ⟨(some 3), none, (.op (.mv (.t 103)))⟩]))))))))
   (.live [93, 1, 94, 3, 95] (.region [⟨(some 104), none, (.op (.bin .int true .add (.t 95) (.c (.i .i64 1))))⟩,
    ⟨(some 95), none, (.op (.mv (.t 104)))⟩]))))))
def c31d2 : List Stage :=
  [⟨[(⟨(some 105), none, (.op (.mv (.t 3)))⟩, 0), (⟨(some 107), none, (.op (.faddr 4 (.t 1)))⟩, 1), (⟨(some 108), none, (.op (.load none (.t 107)))⟩, 1)], none, some ⟨(some 106), none, (.call 29 [(.t 105)])⟩⟩,
    ⟨[], none, some ⟨(some 109), none, (.op (.app 1 1 (.t 106) (.t 108)))⟩⟩,
    ⟨[(⟨(some 2), none, (.op (.mv (.t 109)))⟩, 2)], none, none⟩]
def c31d2w : List (ROp × Bool) :=
  [(⟨(some 105), none, (.op (.mv (.t 3)))⟩, false), (⟨(some 107), none, (.op (.faddr 4 (.t 1)))⟩, false), (⟨(some 108), none, (.op (.load none (.t 107)))⟩, false), (⟨(some 106), none, (.call 29 [(.t 105)])⟩, true), (⟨(some 109), none, (.op (.app 1 1 (.t 106) (.t 108)))⟩, false), (⟨(some 2), none, (.op (.mv (.t 109)))⟩, false)]
theorem c31d2_w {P : Program} {O : Orc} {S0 : Mem} {rd : Bool} {e : Env} {S : Mem} {d : List Nat} {Q : Kont} : W P O S0 rd (.draw c31d2 []) e S d Q = wFl O c31d2w e S (normK Q d) := W_draw' (by kernel_rfl) (by kernel_rfl)
attribute [go_sem] c31d2_w c31d2w
def c31 : IFunc := ⟨1, [.tmp 2],
  .seq (.region [⟨(some 1), none, (.op (.box (.t 0)))⟩,
    ⟨(some 2), none, (.op (.mv (.c .sn)))⟩])
   (.live [1] (.seq (.region [⟨(some 8), none, (.op (.faddr 0 (.t 1)))⟩,
    ⟨(some 9), none, (.op (.load none (.t 8)))⟩,
    ⟨(some 10), none, (.op (.toInt .u64 (.t 9)))⟩,
    ⟨(some 11), none, (.op (.bslice [(.i .u64 0)] 1 [(0, 1, (.t 10))]))⟩,
    ⟨(some 3), none, (.op (.mv (.t 11)))⟩])
   (.live [1, 3] (.seq (.seq (.region [⟨(some 12), none, (.op (.faddr 0 (.t 1)))⟩,
    ⟨(some 13), none, (.op (.load none (.t 12)))⟩])
   (.live [1, 3, 13] (.block 0 (.seq (.region [⟨(some 15), none, (.op (.bin .int true .eql (.t 13) (.c (.i .i64 0))))⟩,
    ⟨(some 14), none, (.op (.mv (.t 15)))⟩])
   (.live [1, 3, 13, 14] (.cond (.t 14) (.region [⟨(some 16), none, (.op (.mv (.t 3)))⟩,
    ⟨(some 17), none, (.op (.faddr 4 (.t 1)))⟩,
    ⟨(some 18), none, (.op (.load none (.t 17)))⟩,
    ⟨(some 19), none, (.op (.len .slice (.t 18)))⟩,
    ⟨(some 20), none, (.op (.toInt .u64 (.t 19)))⟩,
    ⟨(some 21), none, (.op (.bslice [(.i .u64 0)] 1 [(0, 1, (.t 20))]))⟩,
    ⟨(some 22), none, (.op (.app 1 8 (.t 16) (.t 21)))⟩,
    ⟨(some 3), none, (.op (.mv (.t 22)))⟩])
   (.seq (.region [⟨(some 24), none, (.op (.bin .int true .eql (.t 13) (.c (.i .i64 1))))⟩,
    ⟨(some 23), none, (.op (.mv (.t 24)))⟩])
   (.live [1, 3, 13, 23] (.cond (.t 23) (.region [⟨(some 25), none, (.op (.mv (.t 3)))⟩,
    ⟨(some 26), none, (.op (.faddr 3 (.t 1)))⟩,
    ⟨(some 27), none, (.op (.load none (.t 26)))⟩,
    ⟨(some 28), none, (.op (.bslice [(.i .u64 0)] 1 [(0, 1, (.t 27))]))⟩,
    ⟨(some 29), none, (.op (.app 1 8 (.t 25) (.t 28)))⟩,
    ⟨(some 3), none, (.op (.mv (.t 29)))⟩])
   (.seq (.region [⟨(some 31), none, (.op (.bin .int true .eql (.t 13) (.c (.i .i64 4))))⟩,
    ⟨(some 30), none, (.op (.mv (.t 31)))⟩])
   (.live [1, 3, 13, 30] (.cond (.t 30) (.seq (.region [⟨(some 32), none, (.op (.faddr 5 (.t 1)))⟩,
    ⟨(some 33), none, (.op (.load (some 13) (.t 32)))⟩,
    ⟨(some 4), none, (.op (.fresh [(.i .i64 0), (.i .u8 0), (.i .u8 0), (.i .u8 0), (.i .u8 0), (.i .i64 0), (.i .u64 0), (.i .u64 0), (.i .u64 0), (.i .u64 0), (.i .u64 0), (.i .u64 0), (.i .u64 0)]))⟩,
    ⟨none, none, (.op (.store 13 (.t 4) (.t 33)))⟩])
   (.live [1, 4, 3] (.seq (.draw c31d0 [3])
   (.live [1, 4, 3] (.region [⟨(some 49), none, (.op (.mv (.t 3)))⟩,
    ⟨(some 50), none, (.op (.faddr 6 (.t 4)))⟩,
    ⟨(some 51), none, (.op (.load none (.t 50)))⟩,
    ⟨(some 52), none, (.op (.faddr 7 (.t 4)))⟩,
    ⟨(some 53), none, (.op (.load none (.t 52)))⟩,
    ⟨(some 54), none, (.op (.faddr 8 (.t 4)))⟩,
    ⟨(some 55), none, (.op (.load none (.t 54)))⟩,
    ⟨(some 56), none, (.op (.faddr 9 (.t 4)))⟩,
    ⟨(some 57), none, (.op (.load none (.t 56)))⟩,
    ⟨(some 58), none, (.op (.faddr 10 (.t 4)))⟩,
    ⟨(some 59), none, (.op (.load none (.t 58)))⟩,
    ⟨(some 60), none, (.op (.faddr 11 (.t 4)))⟩,
    ⟨(some 61), none, (.op (.load none (.t 60)))⟩,
    ⟨(some 62), none, (.op (.faddr 12 (.t 4)))⟩,
    ⟨(some 63), none, (.op (.load none (.t 62)))⟩,
    ⟨(some 64), none, (.op (.bslice [(.i .u64 0)] 7 [(0, 1, (.t 51)), (1, 1, (.t 53)), (2, 1, (.t 55)), (3, 1, (.t 57)), (4, 1, (.t 59)), (5, 1, (.t 61)), (6, 1, (.t 63))]))⟩,
    ⟨(some 65), none, (.op (.app 1 8 (.t 49) (.t 64)))⟩,
    ⟨(some 3), none, (.op (.mv (.t 65)))⟩])))))
   (.seq (.seq (.region [⟨(some 67), none, (.op (.bin .int true .eql (.t 13) (.c (.i .i64 5))))⟩,
    ⟨(some 66), none, (.op (.mv (.t 67)))⟩])
   (.live [1, 3, 13, 66] (.cond (.t 66) (.skip)
   (.region [⟨(some 68), none, (.op (.bin .int true .eql (.t 13) (.c (.i .i64 8))))⟩,
    ⟨(some 66), none, (.op (.mv (.t 68)))⟩]))))
   (.live [1, 3, 13, 66] (.cond (.t 66) (.region [⟨(some 69), none, (.op (.mv (.t 3)))⟩,
    ⟨(some 70), none, (.op (.faddr 1 (.t 1)))⟩,
    ⟨(some 71), none, (.op (.load none (.t 70)))⟩,
    ⟨(some 72), none, (.call 30 [(.t 71)])⟩,
    ⟨(some 73), none, (.op (.bslice [(.i .u64 0)] 1 [(0, 1, (.t 72))]))⟩,
    ⟨(some 74), none, (.op (.app 1 8 (.t 69) (.t 73)))⟩,
    ⟨(some 3), none, (.op (.mv (.t 74)))⟩])
   (.seq (.region [⟨(some 76), none, (.op (.bin .int true .eql (.t 13) (.c (.i .i64 10))))⟩,
    ⟨(some 75), none, (.op (.mv (.t 76)))⟩])
   (.live [1, 3, 13, 75] (.cond (.t 75) (.region [⟨(some 77), none, (.op (.mv (.t 3)))⟩,
    ⟨(some 78), none, (.op (.faddr 2 (.t 1)))⟩,
    ⟨(some 79), none, (.op (.load none (.t 78)))⟩,
    ⟨(some 80), none, (.call 30 [(.t 79)])⟩,
    ⟨(some 81), none, (.op (.bslice [(.i .u64 0)] 1 [(0, 1, (.t 80))]))⟩,
    ⟨(some 82), none, (.op (.app 1 8 (.t 77) (.t 81)))⟩,
    ⟨(some 3), none, (.op (.mv (.t 82)))⟩])
   (.seq (.region [⟨(some 84), none, (.op (.bin .int true .eql (.t 13) (.c (.i .i64 11))))⟩,
    ⟨(some 83), none, (.op (.mv (.t 84)))⟩])
   (.live [1, 3, 83] (.cond (.t 83) (.seq (.region [⟨(some 85), none, (.op (.mv (.t 3)))⟩,
    ⟨(some 86), none, (.op (.faddr 18 (.t 1)))⟩,
    ⟨(some 87), none, (.op (.load none (.t 86)))⟩,
    ⟨(some 88), none, (.op (.len .slice (.t 87)))⟩,
    ⟨(some 89), none, (.op (.toInt .u64 (.t 88)))⟩,
    ⟨(some 90), none, (.op (.bslice [(.i .u64 0)] 1 [(0, 1, (.t 89))]))⟩,
    ⟨(some 91), none, (.op (.app 1 8 (.t 85) (.t 90)))⟩,
    ⟨(some 3), none, (.op (.mv (.t 91)))⟩])
   (.live [1, 3] (.seq (.region [⟨(some 92), none, (.op (.faddr 18 (.t 1)))⟩,
    ⟨(some 93), none, (.op (.load none (.t 92)))⟩,
    ⟨(some 94), none, (.op (.len .slice (.t 93)))⟩,
    ⟨(some 95), none, (.op (.mv (.c (.i .i64 0))))⟩])
   (.live [93, 1, 94, 95, 3] (.block 1 (.loop [93, 1, 94, 95, 3] c31l1))))))
   (.skip))))))))))))))))))))))
   (.live [3, 1] (.seq (.draw c31d2 [])
   (.ret))))))),
  []⟩


/- (*floodgate/script.source).zag -/

def c32 : IFunc := ⟨1, [.tmp 2],
  .seq (.region [⟨(some 2), none, (.op (.mv (.c (.i .i64 0))))⟩])
   (.live [0] (.seq (.region [⟨(some 3), none, (.op (.mv (.t 0)))⟩,
    ⟨(some 4), none, (.call 33 [(.t 3)])⟩,
    ⟨(some 5), none, (.call 58 [(.t 4)])⟩,
    ⟨(some 2), none, (.op (.mv (.t 5)))⟩])
   (.ret))),
  []⟩


/- (*floodgate/script.source).num -/

def c33 : IFunc := ⟨1, [.tmp 2],
  .seq (.region [⟨(some 2), none, (.op (.mv (.c (.i .u64 0))))⟩])
   (.live [0] (.seq (.region [⟨(some 7), none, (.op (.mv (.t 0)))⟩,
    ⟨(some 8), none, (.op (.nilck (.t 7)))⟩,
    ⟨(some 9), none, (.op (.faddr 0 (.t 8)))⟩,
    ⟨(some 10), none, (.op (.load none (.t 9)))⟩,
    ⟨(some 11), none, (.call 59 [(.t 10)])⟩,
    ⟨(some 6), none, (.op (.mv (.t 11)))⟩,
    ⟨(some 12), none, (.op (.ext (.t 6) 0))⟩,
    ⟨(some 13), none, (.op (.ext (.t 6) 1))⟩,
    ⟨(some 14), none, (.op (.ext (.t 6) 2))⟩,
    ⟨(some 3), none, (.op (.mv (.t 12)))⟩,
    ⟨(some 4), none, (.op (.mv (.t 13)))⟩,
    ⟨(some 5), none, (.op (.mv (.t 14)))⟩])
   (.live [0, 3, 4, 5] (.seq (.seq (.region [⟨(some 15), none, (.op (.mv (.t 5)))⟩,
    ⟨(some 16), none, (.op (.bin .int true .neq (.t 15) (.c (.i .i64 0))))⟩])
   (.live [0, 3, 4, 16] (.cond (.t 16) (.seq (.region [⟨(some 17), none, (.op (.mv (.t 0)))⟩,
    ⟨(some 18), none, (.op (.mv (.t 0)))⟩,
    ⟨(some 19), none, (.op (.nilck (.t 17)))⟩,
    ⟨(some 20), none, (.op (.faddr 1 (.t 19)))⟩,
    ⟨none, none, (.op (.store 1 (.t 20) (.c (.b true))))⟩,
    ⟨(some 21), none, (.op (.nilck (.t 18)))⟩,
    ⟨(some 22), none, (.op (.faddr 0 (.t 21)))⟩,
    ⟨none, none, (.op (.store 1 (.t 22) (.c .sn)))⟩])
   (.live [] (.seq (.region [⟨(some 2), none, (.op (.mv (.c (.i .u64 0))))⟩])
   (.ret))))
   (.skip))))
   (.live [3, 4, 0] (.seq (.region [⟨(some 23), none, (.op (.mv (.t 0)))⟩,
    ⟨(some 24), none, (.op (.mv (.t 0)))⟩,
    ⟨(some 25), none, (.op (.nilck (.t 24)))⟩,
    ⟨(some 26), none, (.op (.faddr 0 (.t 25)))⟩,
    ⟨(some 27), none, (.op (.load none (.t 26)))⟩,
    ⟨(some 28), none, (.op (.mv (.t 4)))⟩,
    ⟨(some 29), none, (.op (.slice 1 (.t 27) (some (.t 28)) none none))⟩,
    ⟨(some 30), none, (.op (.nilck (.t 23)))⟩,
    ⟨(some 31), none, (.op (.faddr 0 (.t 30)))⟩,
    ⟨none, none, (.op (.store 1 (.t 31) (.t 29)))⟩])
   (.live [3] (.seq (.region [⟨(some 32), none, (.op (.mv (.t 3)))⟩,
    ⟨(some 2), none, (.op (.mv (.t 32)))⟩])
   (.ret))))))))),
  []⟩


/- (*floodgate/script.source).many -/

def c34 : IFunc := ⟨2, [.tmp 4],
  .seq (.region [⟨(some 4), none, (.op (.mv (.c (.i .i64 0))))⟩])
   (.live [0, 1] (.seq (.region [⟨(some 8), none, (.op (.mv (.t 0)))⟩,
    ⟨(some 9), none, (.call 33 [(.t 8)])⟩,
    ⟨(some 10), none, (.call 60 [(.t 9)])⟩,
    ⟨(some 7), none, (.op (.mv (.t 10)))⟩,
    ⟨(some 11), none, (.op (.ext (.t 7) 0))⟩,
    ⟨(some 12), none, (.op (.ext (.t 7) 1))⟩,
    ⟨(some 5), none, (.op (.mv (.t 11)))⟩,
    ⟨(some 6), none, (.op (.mv (.t 12)))⟩])
   (.live [0, 5, 1, 6] (.seq (.seq (.region [⟨(some 13), none, (.op (.mv (.t 6)))⟩,
    ⟨(some 14), none, (.op (.un .not (.t 13)))⟩,
    ⟨(some 15), none, (.op (.mv (.t 14)))⟩,
    ⟨(some 16), some (15, false), (.op (.mv (.t 5)))⟩,
    ⟨(some 17), some (15, false), (.op (.mv (.t 1)))⟩,
    ⟨(some 18), some (15, false), (.op (.bin .int false .gtr (.t 16) (.t 17)))⟩,
    ⟨(some 19), none, (.op (.pick (.t 15) (.c (.b true)) (.t 18)))⟩])
   (.live [0, 5, 19] (.cond (.t 19) (.seq (.region [⟨(some 20), none, (.op (.mv (.t 0)))⟩,
    ⟨(some 21), none, (.op (.nilck (.t 20)))⟩,
    ⟨(some 22), none, (.op (.faddr 1 (.t 21)))⟩,
    ⟨none, none, (.op (.store 1 (.t 22) (.c (.b true))))⟩])
   (.live [] (.seq (.region [⟨(some 4), none, (.op (.mv (.c (.i .i64 0))))⟩])
   (.ret))))
   (.skip))))
   (.live [5] (.seq (.region [⟨(some 23), none, (.op (.mv (.t 5)))⟩,
    ⟨(some 4), none, (.op (.mv (.t 23)))⟩])
   (.ret))))))),
  []⟩


/- (*floodgate/script.source).op -/
def c35d0 : List Stage :=
  [⟨[(⟨(some 27), none, (.op (.mv (.t 0)))⟩, 2), (⟨(some 28), none, (.op (.mv (.t 0)))⟩, 0), (⟨(some 29), none, (.op (.nilck (.t 28)))⟩, 0), (⟨(some 30), none, (.op (.faddr 0 (.t 29)))⟩, 0), (⟨(some 31), none, (.op (.load none (.t 30)))⟩, 0), (⟨(some 32), none, (.op (.mv (.t 4)))⟩, 0), (⟨(some 33), none, (.op (.slice 1 (.t 31) none (some (.t 32)) none))⟩, 0), (⟨(some 35), none, (.op (.mv (.t 0)))⟩, 2), (⟨(some 36), none, (.op (.nilck (.t 35)))⟩, 2), (⟨(some 37), none, (.op (.faddr 0 (.t 36)))⟩, 2), (⟨(some 38), none, (.op (.load none (.t 37)))⟩, 2), (⟨(some 39), none, (.op (.mv (.t 4)))⟩, 2), (⟨(some 40), none, (.op (.slice 1 (.t 38) (some (.t 39)) none none))⟩, 2)], none, some ⟨(some 34), none, (.call 61 [(.t 33)])⟩⟩,
    ⟨[(⟨(some 41), none, (.op (.faddr 4 (.t 3)))⟩, 1)], none, some ⟨none, none, (.op (.store 1 (.t 41) (.t 34)))⟩⟩,
    ⟨[(⟨(some 42), none, (.op (.nilck (.t 27)))⟩, 2), (⟨(some 43), none, (.op (.faddr 0 (.t 42)))⟩, 2)], none, some ⟨none, none, (.op (.store 1 (.t 43) (.t 40)))⟩⟩,
    ⟨[], none, none⟩]
theorem c35d0_e {P : Program} {O : Orc} {S0 : Mem} {rd : Bool} {e : Env} {S : Mem} {d : List Nat} {Q : Kont} : W P O S0 rd (.draw c35d0 []) e S d Q = drawK (evDraw O c35d0 [] e S) (normK Q d) := W_drawE (by kernel_rfl)
attribute [go_sem] c35d0_e
def c35d1 : List Stage :=
  [⟨[(⟨(some 71), none, (.op (.faddr 18 (.t 3)))⟩, 2), (⟨(some 72), none, (.op (.load none (.t 71)))⟩, 2), (⟨(some 73), none, (.op (.mv (.t 0)))⟩, 0)], none, some ⟨(some 74), none, (.call 34 [(.t 73), (.c (.i .i64 1))])⟩⟩,
    ⟨[(⟨(some 75), none, (.op (.bin .int true .eql (.t 74) (.c (.i .i64 1))))⟩, 1)], none, some ⟨(some 76), none, (.op (.bslice [(.b false)] 1 [(0, 1, (.t 75))]))⟩⟩,
    ⟨[], none, some ⟨(some 77), none, (.op (.app 1 1 (.t 72) (.t 76)))⟩⟩,
    ⟨[(⟨(some 78), none, (.op (.faddr 18 (.t 3)))⟩, 3)], none, some ⟨none, none, (.op (.store 1 (.t 78) (.t 77)))⟩⟩,
    ⟨[], none, none⟩]
def c35d1w : List (ROp × Bool) :=
  [(⟨(some 71), none, (.op (.faddr 18 (.t 3)))⟩, false), (⟨(some 72), none, (.op (.load none (.t 71)))⟩, false), (⟨(some 73), none, (.op (.mv (.t 0)))⟩, false), (⟨(some 74), none, (.call 34 [(.t 73), (.c (.i .i64 1))])⟩, true), (⟨(some 75), none, (.op (.bin .int true .eql (.t 74) (.c (.i .i64 1))))⟩, false), (⟨(some 76), none, (.op (.bslice [(.b false)] 1 [(0, 1, (.t 75))]))⟩, true), (⟨(some 77), none, (.op (.app 1 1 (.t 72) (.t 76)))⟩, false), (⟨(some 78), none, (.op (.faddr 18 (.t 3)))⟩, false), (⟨none, none, (.op (.store 1 (.t 78) (.t 77)))⟩, false)]
theorem c35d1_w {P : Program} {O : Orc} {S0 : Mem} {rd : Bool} {e : Env} {S : Mem} {d : List Nat} {Q : Kont} : W P O S0 rd (.draw c35d1 []) e S d Q = wFl O c35d1w e S (normK Q d) := W_draw' (by kernel_rfl) (by kernel_rfl)
attribute [go_sem] c35d1_w c35d1w
def c35l2 : ICode :=
  .seq (.region [⟨(some 70), none, (.op (.bin .int false .lss (.t 69) (.t 68)))⟩])
   (.live [0, 3, 2, 68, 69, 70] (.seq (.cond (.t 70) (.skip)
   (.exit 1))
   (.live [0, 3, 2, 68, 69] (.seq (.block 2 (.draw c35d1 []))
   (.live [0, 3, 2, 68, 69] (.region [⟨(some 79), none, (.op (.bin .int true .add (.t 69) (.c (.i .i64 1))))⟩,
    ⟨(some 69), none, (.op (.mv (.t 79)))⟩]))))))
def c35 : IFunc := ⟨1, [.cell 2 (some 19)],
  .seq (.region [⟨(some 2), none, (.op (.fresh [(.i .i64 0), (.i .i64 0), (.i .i64 0), (.i .u64 0), .sn, (.i .i64 0), (.i .u8 0), (.i .u8 0), (.i .u8 0), (.i .u8 0), (.i .i64 0), (.i .u64 0), (.i .u64 0), (.i .u64 0), (.i .u64 0), (.i .u64 0), (.i .u64 0), (.i .u64 0), .sn]))⟩])
   (.live [2, 0] (.seq (.region [⟨(some 5), none, (.op (.mv (.t 0)))⟩,
    ⟨(some 6), none, (.call 34 [(.t 5), (.c (.i .i64 12))])⟩,
    ⟨(some 7), none, (.op (.build [(.i .i64 0), (.i .i64 0), (.i .i64 0), (.i .u64 0), .sn, (.i .i64 0), (.i .u8 0), (.i .u8 0), (.i .u8 0), (.i .u8 0), (.i .i64 0), (.i .u64 0), (.i .u64 0), (.i .u64 0), (.i .u64 0), (.i .u64 0), (.i .u64 0), (.i .u64 0), .sn] [(0, 1, (.t 6))]))⟩,
    ⟨(some 3), none, (.op (.fresh [(.i .i64 0), (.i .i64 0), (.i .i64 0), (.i .u64 0), .sn, (.i .i64 0), (.i .u8 0), (.i .u8 0), (.i .u8 0), (.i .u8 0), (.i .i64 0), (.i .u64 0), (.i .u64 0), (.i .u64 0), (.i .u64 0), (.i .u64 0), (.i .u64 0), (.i .u64 0), .sn]))⟩,
    ⟨none, none, (.op (.store 19 (.t 3) (.t 7)))⟩])
   (.live [2, 3, 0] (.seq (.seq (.region [⟨(some 8), none, (.op (.faddr 0 (.t 3)))⟩,
    ⟨(some 9), none, (.op (.load none (.t 8)))⟩])
   (.live [2, 3, 0, 9] (.block 0 (.seq (.region [⟨(some 11), none, (.op (.bin .int true .eql (.t 9) (.c (.i .i64 0))))⟩,
    ⟨(some 10), none, (.op (.mv (.t 11)))⟩])
   (.live [2, 3, 0, 9, 10] (.cond (.t 10) (.seq (.region [⟨(some 12), none, (.op (.mv (.t 0)))⟩,
    ⟨(some 13), none, (.op (.mv (.t 0)))⟩,
    ⟨(some 14), none, (.op (.nilck (.t 13)))⟩,
    ⟨(some 15), none, (.op (.faddr 0 (.t 14)))⟩,
    ⟨(some 16), none, (.op (.load none (.t 15)))⟩,
    ⟨(some 17), none, (.op (.len .slice (.t 16)))⟩,
    ⟨(some 18), none, (.op (.mm false [(.c (.i .i64 2000)), (.t 17)]))⟩,
    ⟨(some 19), none, (.call 34 [(.t 12), (.t 18)])⟩,
    ⟨(some 4), none, (.op (.mv (.t 19)))⟩])
   (.live [2, 3, 0, 4] (.seq (.region [⟨(some 20), none, (.op (.mv (.t 4)))⟩,
    ⟨(some 21), none, (.op (.mv (.t 0)))⟩,
    ⟨(some 22), none, (.op (.nilck (.t 21)))⟩,
    ⟨(some 23), none, (.op (.faddr 0 (.t 22)))⟩,
    ⟨(some 24), none, (.op (.load none (.t 23)))⟩,
    ⟨(some 25), none, (.op (.len .slice (.t 24)))⟩,
    ⟨(some 26), none, (.op (.mm false [(.t 20), (.t 25)]))⟩,
    ⟨(some 4), none, (.op (.mv (.t 26)))⟩])
   (.live [2, 3, 0, 4] (.draw c35d0 [])))))
   (.seq (.region [⟨(some 45), none, (.op (.bin .int true .eql (.t 9) (.c (.i .i64 1))))⟩,
    ⟨(some 44), none, (.op (.mv (.t 45)))⟩])
   (.live [2, 3, 0, 9, 44] (.cond (.t 44) (.region [⟨(some 46), none, (.op (.mv (.t 0)))⟩,
    ⟨(some 47), none, (.call 33 [(.t 46)])⟩,
    ⟨(some 48), none, (.op (.faddr 3 (.t 3)))⟩,
    ⟨none, none, (.op (.store 1 (.t 48) (.t 47)))⟩])
   (.seq (.region [⟨(some 50), none, (.op (.bin .int true .eql (.t 9) (.c (.i .i64 4))))⟩,
    ⟨(some 49), none, (.op (.mv (.t 50)))⟩])
   (.live [2, 3, 0, 9, 49] (.cond (.t 49) (.region [⟨(some 51), none, (.op (.mv (.t 0)))⟩,
    ⟨(some 52), none, (.call 62 [(.t 51)])⟩,
    ⟨(some 53), none, (.op (.faddr 5 (.t 3)))⟩,
    ⟨none, none, (.op (.store 13 (.t 53) (.t 52)))⟩])
   (.seq (.seq (.region [⟨(some 55), none, (.op (.bin .int true .eql (.t 9) (.c (.i .i64 5))))⟩,
    ⟨(some 54), none, (.op (.mv (.t 55)))⟩])
   (.live [2, 3, 0, 9, 54] (.cond (.t 54) (.skip)
   (.region [⟨(some 56), none, (.op (.bin .int true .eql (.t 9) (.c (.i .i64 8))))⟩,
    ⟨(some 54), none, (.op (.mv (.t 56)))⟩]))))
   (.live [2, 3, 0, 9, 54] (.cond (.t 54) (.region [⟨(some 57), none, (.op (.mv (.t 0)))⟩,
    ⟨(some 58), none, (.call 32 [(.t 57)])⟩,
    ⟨(some 59), none, (.op (.faddr 1 (.t 3)))⟩,
    ⟨none, none, (.op (.store 1 (.t 59) (.t 58)))⟩])
   (.seq (.region [⟨(some 61), none, (.op (.bin .int true .eql (.t 9) (.c (.i .i64 10))))⟩,
    ⟨(some 60), none, (.op (.mv (.t 61)))⟩])
   (.live [2, 3, 0, 9, 60] (.cond (.t 60) (.region [⟨(some 62), none, (.op (.mv (.t 0)))⟩,
    ⟨(some 63), none, (.call 32 [(.t 62)])⟩,
    ⟨(some 64), none, (.op (.faddr 2 (.t 3)))⟩,
    ⟨none, none, (.op (.store 1 (.t 64) (.t 63)))⟩])
   (.seq (.region [⟨(some 66), none, (.op (.bin .int true .eql (.t 9) (.c (.i .i64 11))))⟩,
    ⟨(some 65), none, (.op (.mv (.t 66)))⟩])
   (.live [0, 3, 2, 65] (.cond (.t 65) (.seq (.region [⟨(some 67), none, (.op (.mv (.t 0)))⟩,
    ⟨(some 68), none, (.call 34 [(.t 67), (.c (.i .i64 64))])⟩,
    ⟨(some 69), none, (.op (.mv (.c (.i .i64 0))))⟩])
   (.live [0, 3, 2, 68, 69] (.block 1 (.loop [0, 3, 2, 68, 69] c35l2))))
   (.skip))))))))))))))))))))))
   (.live [2, 3] (.seq (.region [⟨(some 80), none, (.op (.load (some 19) (.t 3)))⟩,
    ⟨none, none, (.op (.store 19 (.t 2) (.t 80)))⟩])
   (.ret))))))),
  []⟩


/- floodgate/floodgateref22.zag -/

def c36 : IFunc := ⟨1, [.tmp 2],
  .seq (.region [⟨(some 2), none, (.op (.mv (.c (.i .i64 0))))⟩])
   (.live [0] (.seq (.seq (.region [⟨(some 3), none, (.op (.mv (.t 0)))⟩,
    ⟨(some 4), none, (.op (.bin .int true .rem (.t 3) (.c (.i .u64 2))))⟩,
    ⟨(some 5), none, (.op (.bin .int true .eql (.t 4) (.c (.i .u64 1))))⟩])
   (.live [0, 5] (.cond (.t 5) (.seq (.region [⟨(some 6), none, (.op (.mv (.t 0)))⟩,
    ⟨(some 7), none, (.op (.bin .int true .quo (.t 6) (.c (.i .u64 2))))⟩,
    ⟨(some 8), none, (.op (.toInt .i64 (.t 7)))⟩,
    ⟨(some 9), none, (.op (.bin .int true .sub (.c (.i .i64 (-1))) (.t 8)))⟩,
    ⟨(some 2), none, (.op (.mv (.t 9)))⟩])
   (.ret))
   (.skip))))
   (.live [0] (.seq (.region [⟨(some 10), none, (.op (.mv (.t 0)))⟩,
    ⟨(some 11), none, (.op (.bin .int true .quo (.t 10) (.c (.i .u64 2))))⟩,
    ⟨(some 12), none, (.op (.toInt .i64 (.t 11)))⟩,
    ⟨(some 2), none, (.op (.mv (.t 12)))⟩])
   (.ret))))),
  []⟩


/- floodgate/floodgateref22.num -/
def c37d0 : List Stage :=
  [⟨[(⟨(some 11), none, (.op (.mv (.t 0)))⟩, 0), (⟨(some 12), none, (.op (.nilck (.t 11)))⟩, 0), (⟨(some 13), none, (.op (.faddr 0 (.t 12)))⟩, 0), (⟨(some 14), none, (.op (.load none (.t 13)))⟩, 0), (⟨(some 15), none, (.op (.mv (.t 0)))⟩, 0), (⟨(some 16), none, (.op (.nilck (.t 15)))⟩, 0), (⟨(some 17), none, (.op (.faddr 1 (.t 16)))⟩, 0), (⟨(some 18), none, (.op (.load none (.t 17)))⟩, 0), (⟨(some 19), none, (.op (.slice 1 (.t 14) (some (.t 18)) none none))⟩, 0)], none, some ⟨(some 20), none, (.call 63 [(.t 19)])⟩⟩,
    ⟨[(⟨(some 10), none, (.op (.mv (.t 20)))⟩, 1), (⟨(some 21), none, (.op (.ext (.t 10) 0))⟩, 1), (⟨(some 22), none, (.op (.ext (.t 10) 1))⟩, 1), (⟨(some 23), none, (.op (.ext (.t 10) 2))⟩, 1), (⟨(some 3), none, (.op (.mv (.t 21)))⟩, 1), (⟨(some 4), none, (.op (.mv (.t 22)))⟩, 1), (⟨(some 5), none, (.op (.mv (.t 23)))⟩, 1)], none, none⟩]
def c37d0w : List (ROp × Bool) :=
  [(⟨(some 11), none, (.op (.mv (.t 0)))⟩, false), (⟨(some 12), none, (.op (.nilck (.t 11)))⟩, false), (⟨(some 13), none, (.op (.faddr 0 (.t 12)))⟩, false), (⟨(some 14), none, (.op (.load none (.t 13)))⟩, false), (⟨(some 15), none, (.op (.mv (.t 0)))⟩, false), (⟨(some 16), none, (.op (.nilck (.t 15)))⟩, false), (⟨(some 17), none, (.op (.faddr 1 (.t 16)))⟩, false), (⟨(some 18), none, (.op (.load none (.t 17)))⟩, false), (⟨(some 19), none, (.op (.slice 1 (.t 14) (some (.t 18)) none none))⟩, false), (⟨(some 20), none, (.call 63 [(.t 19)])⟩, false), (⟨(some 10), none, (.op (.mv (.t 20)))⟩, false), (⟨(some 21), none, (.op (.ext (.t 10) 0))⟩, false), (⟨(some 22), none, (.op (.ext (.t 10) 1))⟩, false), (⟨(some 23), none, (.op (.ext (.t 10) 2))⟩, false), (⟨(some 3), none, (.op (.mv (.t 21)))⟩, false), (⟨(some 4), none, (.op (.mv (.t 22)))⟩, false), (⟨(some 5), none, (.op (.mv (.t 23)))⟩, false)]
theorem c37d0_w {P : Program} {O : Orc} {S0 : Mem} {rd : Bool} {e : Env} {S : Mem} {d : List Nat} {Q : Kont} : W P O S0 rd (.draw c37d0 []) e S d Q = wFl O c37d0w e S (normK Q d) := W_draw' (by kernel_rfl) (by kernel_rfl)
attribute [go_sem] c37d0_w c37d0w
def c37 : IFunc := ⟨1, [.tmp 2],
  .seq (.region [⟨(some 2), none, (.op (.mv (.c (.i .u64 0))))⟩])
   (.live [0] (.seq (.seq (.region [⟨(some 6), none, (.op (.mv (.t 0)))⟩,
    ⟨(some 7), none, (.op (.nilck (.t 6)))⟩,
    ⟨(some 8), none, (.op (.faddr 2 (.t 7)))⟩,
    ⟨(some 9), none, (.op (.load none (.t 8)))⟩])
   (.live [0, 9] (.cond (.t 9) (.seq (.region [⟨(some 2), none, (.op (.mv (.c (.i .u64 0))))⟩])
   (.ret))
   (.skip))))
   (.live [0] (.seq (.draw c37d0 [])
   (.live [3, 5, 0, 4] (.seq (.region [⟨(some 24), none, (.op (.mv (.t 0)))⟩,
    ⟨(some 25), none, (.op (.nilck (.t 24)))⟩,
    ⟨(some 26), none, (.op (.faddr 1 (.t 25)))⟩,
    ⟨(some 27), none, (.op (.load none (.t 26)))⟩,
    ⟨(some 28), none, (.op (.mv (.t 4)))⟩,
    ⟨(some 29), none, (.op (.bin .int false .add (.t 27) (.t 28)))⟩,
    ⟨(some 30), none, (.op (.nilck (.t 24)))⟩,
    ⟨(some 31), none, (.op (.faddr 1 (.t 30)))⟩,
    ⟨none, none, (.op (.store 1 (.t 31) (.t 29)))⟩])
   (.live [3, 5, 0] (.seq (.region [⟨(some 32), none, (.op (.mv (.t 0)))⟩,
    ⟨(some 33), none, (.op (.mv (.t 5)))⟩,
    ⟨(some 34), none, (.op (.bin .int true .neq (.t 33) (.c (.i .i64 0))))⟩,
    ⟨(some 35), none, (.op (.nilck (.t 32)))⟩,
    ⟨(some 36), none, (.op (.faddr 2 (.t 35)))⟩,
    ⟨none, none, (.op (.store 1 (.t 36) (.t 34)))⟩])
   (.live [3] (.seq (.region [⟨(some 37), none, (.op (.mv (.t 3)))⟩,
    ⟨(some 2), none, (.op (.mv (.t 37)))⟩])
   (.ret))))))))))),
  []⟩


/- floodgate/floodgateref22.op -/
def c38d0 : List Stage :=
  [⟨[(⟨(some 28), none, (.op (.mv (.t 5)))⟩, 0), (⟨(some 29), none, (.op (.bin .int true .gtr (.t 28) (.c (.i .u64 2000))))⟩, 0), (⟨(some 30), none, (.op (.mv (.t 29)))⟩, 0), (⟨(some 31), some (30, false), (.op (.mv (.t 5)))⟩, 0), (⟨(some 32), some (30, false), (.op (.toInt .i64 (.t 31)))⟩, 0), (⟨(some 33), some (30, false), (.op (.mv (.t 0)))⟩, 0), (⟨(some 34), some (30, false), (.op (.nilck (.t 33)))⟩, 0), (⟨(some 35), some (30, false), (.op (.faddr 0 (.t 34)))⟩, 0), (⟨(some 36), some (30, false), (.op (.load none (.t 35)))⟩, 0), (⟨(some 37), some (30, false), (.op (.len .slice (.t 36)))⟩, 0), (⟨(some 38), some (30, false), (.op (.mv (.t 0)))⟩, 0), (⟨(some 39), some (30, false), (.op (.nilck (.t 38)))⟩, 0), (⟨(some 40), some (30, false), (.op (.faddr 1 (.t 39)))⟩, 0), (⟨(some 41), some (30, false), (.op (.load none (.t 40)))⟩, 0), (⟨(some 42), some (30, false), (.op (.bin .int false .sub (.t 37) (.t 41)))⟩, 0), (⟨(some 43), some (30, false), (.op (.bin .int false .gtr (.t 32) (.t 42)))⟩, 0), (⟨(some 44), none, (.op (.pick (.t 30) (.c (.b true)) (.t 43)))⟩, 0)], none, none⟩]
def c38d0w : List (ROp × Bool) :=
  [(⟨(some 28), none, (.op (.mv (.t 5)))⟩, false), (⟨(some 29), none, (.op (.bin .int true .gtr (.t 28) (.c (.i .u64 2000))))⟩, false), (⟨(some 30), none, (.op (.mv (.t 29)))⟩, false), (⟨(some 31), some (30, false), (.op (.mv (.t 5)))⟩, false), (⟨(some 32), some (30, false), (.op (.toInt .i64 (.t 31)))⟩, false), (⟨(some 33), some (30, false), (.op (.mv (.t 0)))⟩, false), (⟨(some 34), some (30, false), (.op (.nilck (.t 33)))⟩, false), (⟨(some 35), some (30, false), (.op (.faddr 0 (.t 34)))⟩, false), (⟨(some 36), some (30, false), (.op (.load none (.t 35)))⟩, false), (⟨(some 37), some (30, false), (.op (.len .slice (.t 36)))⟩, false), (⟨(some 38), some (30, false), (.op (.mv (.t 0)))⟩, false), (⟨(some 39), some (30, false), (.op (.nilck (.t 38)))⟩, false), (⟨(some 40), some (30, false), (.op (.faddr 1 (.t 39)))⟩, false), (⟨(some 41), some (30, false), (.op (.load none (.t 40)))⟩, false), (⟨(some 42), some (30, false), (.op (.bin .int false .sub (.t 37) (.t 41)))⟩, false), (⟨(some 43), some (30, false), (.op (.bin .int false .gtr (.t 32) (.t 42)))⟩, false), (⟨(some 44), none, (.op (.pick (.t 30) (.c (.b true)) (.t 43)))⟩, false)]
theorem c38d0_w {P : Program} {O : Orc} {S0 : Mem} {rd : Bool} {e : Env} {S : Mem} {d : List Nat} {Q : Kont} : W P O S0 rd (.draw c38d0 []) e S d Q = wFl O c38d0w e S (normK Q d) := W_draw' (by kernel_rfl) (by kernel_rfl)
attribute [go_sem] c38d0_w c38d0w
def c38d1 : List Stage :=
  [⟨[(⟨(some 50), none, (.op (.mv (.t 0)))⟩, 1), (⟨(some 51), none, (.op (.nilck (.t 50)))⟩, 1), (⟨(some 52), none, (.op (.faddr 0 (.t 51)))⟩, 1), (⟨(some 53), none, (.op (.load none (.t 52)))⟩, 1), (⟨(some 54), none, (.op (.mv (.t 0)))⟩, 1), (⟨(some 55), none, (.op (.nilck (.t 54)))⟩, 1), (⟨(some 56), none, (.op (.faddr 1 (.t 55)))⟩, 1), (⟨(some 57), none, (.op (.load none (.t 56)))⟩, 1), (⟨(some 58), none, (.op (.mv (.t 0)))⟩, 1), (⟨(some 59), none, (.op (.nilck (.t 58)))⟩, 1), (⟨(some 60), none, (.op (.faddr 1 (.t 59)))⟩, 1), (⟨(some 61), none, (.op (.load none (.t 60)))⟩, 1), (⟨(some 62), none, (.op (.mv (.t 5)))⟩, 1), (⟨(some 63), none, (.op (.toInt .i64 (.t 62)))⟩, 1), (⟨(some 64), none, (.op (.bin .int false .add (.t 61) (.t 63)))⟩, 1), (⟨(some 65), none, (.op (.slice 1 (.t 53) (some (.t 57)) (some (.t 64)) none))⟩, 1)], none, some ⟨(some 49), none, (.op (.bslice [(.i .u8 0)] 0 []))⟩⟩,
    ⟨[], none, some ⟨(some 66), none, (.op (.app 1 1 (.t 49) (.t 65)))⟩⟩,
    ⟨[(⟨(some 67), none, (.op (.faddr 4 (.t 3)))⟩, 2)], none, some ⟨none, none, (.op (.store 1 (.t 67) (.t 66)))⟩⟩,
    ⟨[], none, none⟩]
def c38d1w : List (ROp × Bool) :=
  [(⟨(some 50), none, (.op (.mv (.t 0)))⟩, false), (⟨(some 51), none, (.op (.nilck (.t 50)))⟩, false), (⟨(some 52), none, (.op (.faddr 0 (.t 51)))⟩, false), (⟨(some 53), none, (.op (.load none (.t 52)))⟩, false), (⟨(some 54), none, (.op (.mv (.t 0)))⟩, false), (⟨(some 55), none, (.op (.nilck (.t 54)))⟩, false), (⟨(some 56), none, (.op (.faddr 1 (.t 55)))⟩, false), (⟨(some 57), none, (.op (.load none (.t 56)))⟩, false), (⟨(some 58), none, (.op (.mv (.t 0)))⟩, false), (⟨(some 59), none, (.op (.nilck (.t 58)))⟩, false), (⟨(some 60), none, (.op (.faddr 1 (.t 59)))⟩, false), (⟨(some 61), none, (.op (.load none (.t 60)))⟩, false), (⟨(some 62), none, (.op (.mv (.t 5)))⟩, false), (⟨(some 63), none, (.op (.toInt .i64 (.t 62)))⟩, false), (⟨(some 64), none, (.op (.bin .int false .add (.t 61) (.t 63)))⟩, false), (⟨(some 65), none, (.op (.slice 1 (.t 53) (some (.t 57)) (some (.t 64)) none))⟩, false), (⟨(some 49), none, (.op (.bslice [(.i .u8 0)] 0 []))⟩, true), (⟨(some 66), none, (.op (.app 1 1 (.t 49) (.t 65)))⟩, false), (⟨(some 67), none, (.op (.faddr 4 (.t 3)))⟩, false), (⟨none, none, (.op (.store 1 (.t 67) (.t 66)))⟩, false)]
theorem c38d1_w {P : Program} {O : Orc} {S0 : Mem} {rd : Bool} {e : Env} {S : Mem} {d : List Nat} {Q : Kont} : W P O S0 rd (.draw c38d1 []) e S d Q = wFl O c38d1w e S (normK Q d) := W_draw' (by kernel_rfl) (by kernel_rfl)
attribute [go_sem] c38d1_w c38d1w
def c38l2 : ICode :=
  .seq (.seq (.region [⟨(some 153), none, (.op (.mv (.t 8)))⟩,
    ⟨(some 154), none, (.op (.mv (.t 7)))⟩,
    ⟨(some 155), none, (.op (.bin .int false .lss (.t 153) (.t 154)))⟩,
    ⟨(some 156), none, (.op (.mv (.t 155)))⟩,
    ⟨(some 157), some (156, true), (.op (.mv (.t 8)))⟩,
    ⟨(some 158), some (156, true), (.op (.bin .int true .lss (.t 157) (.c (.i .u64 65))))⟩,
    ⟨(some 159), none, (.op (.pick (.t 156) (.t 158) (.c (.b false))))⟩,
    ⟨(some 160), none, (.op (.mv (.t 159)))⟩,
    ⟨(some 161), some (160, true), (.op (.mv (.t 0)))⟩,
    ⟨(some 162), some (160, true), (.op (.nilck (.t 161)))⟩,
    ⟨(some 163), some (160, true), (.op (.faddr 2 (.t 162)))⟩,
    ⟨(some 164), some (160, true), (.op (.load none (.t 163)))⟩,
    ⟨(some 165), some (160, true), (.op (.un .not (.t 164)))⟩,
    ⟨(some 166), none, (.op (.pick (.t 160) (.t 165) (.c (.b false))))⟩])
   (.live [3, 0, 2, 7, 8, 166] (.cond (.t 166) (.skip)
   (.exit 1))))
   (.live [3, 0, 2, 7, 8] (.seq (.block 2 (.seq (.region [⟨(some 169), none, (.op (.mv (.t 0)))⟩,
    ⟨(some 170), none, (.call 37 [(.t 169)])⟩,
    ⟨(some 9), none, (.op (.mv (.t 170)))⟩])
   (.live [3, 0, 2, 7, 8, 9] (.seq (.region [⟨(some 171), none, (.op (.mv (.t 0)))⟩,
    ⟨(some 172), none, (.op (.mv (.t 0)))⟩,
    ⟨(some 173), none, (.op (.nilck (.t 172)))⟩,
    ⟨(some 174), none, (.op (.faddr 2 (.t 173)))⟩,
    ⟨(some 175), none, (.op (.load none (.t 174)))⟩,
    ⟨(some 176), none, (.op (.mv (.t 175)))⟩,
    ⟨(some 177), some (176, false), (.op (.mv (.t 9)))⟩,
    ⟨(some 178), some (176, false), (.op (.bin .int true .gtr (.t 177) (.c (.i .u64 1))))⟩,
    ⟨(some 179), none, (.op (.pick (.t 176) (.c (.b true)) (.t 178)))⟩,
    ⟨(some 180), none, (.op (.nilck (.t 171)))⟩,
    ⟨(some 181), none, (.op (.faddr 2 (.t 180)))⟩,
    ⟨none, none, (.op (.store 1 (.t 181) (.t 179)))⟩])
   (.live [3, 0, 2, 7, 8, 9] (.region [⟨(some 182), none, (.op (.faddr 18 (.t 3)))⟩,
    ⟨(some 183), none, (.op (.load none (.t 182)))⟩,
    ⟨(some 184), none, (.op (.mv (.t 9)))⟩,
    ⟨(some 185), none, (.op (.bin .int true .eql (.t 184) (.c (.i .u64 1))))⟩,
    ⟨(some 186), none, (.op (.bslice [(.b false)] 1 [(0, 1, (.t 185))]))⟩,
    ⟨(some 187), none, (.op (.app 1 1 (.t 183) (.t 186)))⟩,
    ⟨(some 188), none, (.op (.faddr 18 (.t 3)))⟩,
    ⟨none, none, (.op (.store 1 (.t 188) (.t 187)))⟩]))))))
   (.live [3, 0, 2, 7, 8] (.region [⟨(some 167), none, (.op (.mv (.t 8)))⟩,
    ⟨(some 168), none, (.op (.bin .int true .add (.t 167) (.c (.i .u64 1))))⟩,
    ⟨(some 8), none, (.op (.mv (.t 168)))⟩]))))
def c38 : IFunc := ⟨1, [.cell 2 (some 19)],
  .seq (.region [⟨(some 2), none, (.op (.fresh [(.i .i64 0), (.i .i64 0), (.i .i64 0), (.i .u64 0), .sn, (.i .i64 0), (.i .u8 0), (.i .u8 0), (.i .u8 0), (.i .u8 0), (.i .i64 0), (.i .u64 0), (.i .u64 0), (.i .u64 0), (.i .u64 0), (.i .u64 0), (.i .u64 0), (.i .u64 0), .sn]))⟩])
   (.live [2, 0] (.seq (.region [⟨(some 10), none, (.op (.build [(.i .i64 0), (.i .i64 0), (.i .i64 0), (.i .u64 0), .sn, (.i .i64 0), (.i .u8 0), (.i .u8 0), (.i .u8 0), (.i .u8 0), (.i .i64 0), (.i .u64 0), (.i .u64 0), (.i .u64 0), (.i .u64 0), (.i .u64 0), (.i .u64 0), (.i .u64 0), .sn] []))⟩,
    ⟨(some 3), none, (.op (.fresh [(.i .i64 0), (.i .i64 0), (.i .i64 0), (.i .u64 0), .sn, (.i .i64 0), (.i .u8 0), (.i .u8 0), (.i .u8 0), (.i .u8 0), (.i .i64 0), (.i .u64 0), (.i .u64 0), (.i .u64 0), (.i .u64 0), (.i .u64 0), (.i .u64 0), (.i .u64 0), .sn]))⟩,
    ⟨none, none, (.op (.store 19 (.t 3) (.t 10)))⟩])
   (.live [2, 3, 0] (.seq (.region [⟨(some 11), none, (.op (.mv (.t 0)))⟩,
    ⟨(some 12), none, (.call 37 [(.t 11)])⟩,
    ⟨(some 4), none, (.op (.mv (.t 12)))⟩])
   (.live [2, 3, 0, 4] (.seq (.seq (.region [⟨(some 13), none, (.op (.mv (.t 4)))⟩,
    ⟨(some 14), none, (.op (.bin .int true .gtr (.t 13) (.c (.i .u64 12))))⟩])
   (.live [2, 3, 0, 4, 14] (.cond (.t 14) (.seq (.region [⟨(some 15), none, (.op (.mv (.t 0)))⟩,
    ⟨(some 16), none, (.op (.nilck (.t 15)))⟩,
    ⟨(some 17), none, (.op (.faddr 2 (.t 16)))⟩,
    ⟨none, none, (.op (.store 1 (.t 17) (.c (.b true))))⟩])
   (.live [2, 3] (.seq (.region [⟨(some 18), none, (.op (.load (some 19) (.t 3)))⟩,
    ⟨none, none, (.op (.store 19 (.t 2) (.t 18)))⟩])
   (.ret))))
   (.skip))))
   (.live [2, 3, 0, 4] (.seq (.region [⟨(some 19), none, (.op (.mv (.t 4)))⟩,
    ⟨(some 20), none, (.op (.toInt .i64 (.t 19)))⟩,
    ⟨(some 21), none, (.op (.faddr 0 (.t 3)))⟩,
    ⟨none, none, (.op (.store 1 (.t 21) (.t 20)))⟩])
   (.live [2, 3, 0] (.seq (.seq (.region [⟨(some 22), none, (.op (.faddr 0 (.t 3)))⟩,
    ⟨(some 23), none, (.op (.load none (.t 22)))⟩])
   (.live [2, 3, 0, 23] (.block 0 (.seq (.region [⟨(some 25), none, (.op (.bin .int true .eql (.t 23) (.c (.i .i64 0))))⟩,
    ⟨(some 24), none, (.op (.mv (.t 25)))⟩])
   (.live [2, 3, 0, 23, 24] (.cond (.t 24) (.seq (.region [⟨(some 26), none, (.op (.mv (.t 0)))⟩,
    ⟨(some 27), none, (.call 37 [(.t 26)])⟩,
    ⟨(some 5), none, (.op (.mv (.t 27)))⟩])
   (.live [2, 3, 0, 5] (.seq (.seq (.draw c38d0 [])
   (.live [2, 3, 0, 5, 44] (.cond (.t 44) (.seq (.region [⟨(some 45), none, (.op (.mv (.t 0)))⟩,
    ⟨(some 46), none, (.op (.nilck (.t 45)))⟩,
    ⟨(some 47), none, (.op (.faddr 2 (.t 46)))⟩,
    ⟨none, none, (.op (.store 1 (.t 47) (.c (.b true))))⟩])
   (.live [2, 3] (.seq (.region [⟨(some 48), none, (.op (.load (some 19) (.t 3)))⟩,
    ⟨none, none, (.op (.store 19 (.t 2) (.t 48)))⟩])
   (.ret))))
   (.skip))))
   (.live [2, 3, 5, 0] (.seq (.draw c38d1 [])
   (.live [2, 3, 5, 0] (.region [⟨(some 68), none, (.op (.mv (.t 0)))⟩,
    ⟨(some 69), none, (.op (.nilck (.t 68)))⟩,
    ⟨(some 70), none, (.op (.faddr 1 (.t 69)))⟩,
    ⟨(some 71), none, (.op (.load none (.t 70)))⟩,
    ⟨(some 72), none, (.op (.mv (.t 5)))⟩,
    ⟨(some 73), none, (.op (.toInt .i64 (.t 72)))⟩,
    ⟨(some 74), none, (.op (.bin .int false .add (.t 71) (.t 73)))⟩,
    ⟨(some 75), none, (.op (.nilck (.t 68)))⟩,
    ⟨(some 76), none, (.op (.faddr 1 (.t 75)))⟩,
    ⟨none, none, (.op (.store 1 (.t 76) (.t 74)))⟩])))))))
   (.seq (.region [⟨(some 78), none, (.op (.bin .int true .eql (.t 23) (.c (.i .i64 1))))⟩,
    ⟨(some 77), none, (.op (.mv (.t 78)))⟩])
   (.live [2, 3, 0, 23, 77] (.cond (.t 77) (.region [⟨(some 79), none, (.op (.mv (.t 0)))⟩,
    ⟨(some 80), none, (.call 37 [(.t 79)])⟩,
    ⟨(some 81), none, (.op (.faddr 3 (.t 3)))⟩,
    ⟨none, none, (.op (.store 1 (.t 81) (.t 80)))⟩])
   (.seq (.region [⟨(some 83), none, (.op (.bin .int true .eql (.t 23) (.c (.i .i64 4))))⟩,
    ⟨(some 82), none, (.op (.mv (.t 83)))⟩])
   (.live [2, 3, 0, 23, 82] (.cond (.t 82) (.seq (.region [⟨(some 84), none, (.op (.mv (.t 0)))⟩,
    ⟨(some 85), none, (.call 37 [(.t 84)])⟩,
    ⟨(some 86), none, (.call 36 [(.t 85)])⟩,
    ⟨(some 87), none, (.op (.faddr 5 (.t 3)))⟩,
    ⟨(some 88), none, (.op (.faddr 0 (.t 87)))⟩,
    ⟨none, none, (.op (.store 1 (.t 88) (.t 86)))⟩])
   (.live [2, 3, 0] (.seq (.region [⟨(some 89), none, (.op (.mv (.t 0)))⟩,
    ⟨(some 90), none, (.call 37 [(.t 89)])⟩,
    ⟨(some 6), none, (.op (.mv (.t 90)))⟩])
   (.live [2, 3, 0, 6] (.seq (.seq (.region [⟨(some 91), none, (.op (.mv (.t 6)))⟩,
    ⟨(some 92), none, (.op (.bin .int true .gtr (.t 91) (.c (.i .u64 4294967295))))⟩])
   (.live [2, 3, 0, 6, 92] (.cond (.t 92) (.region [⟨(some 93), none, (.op (.mv (.t 0)))⟩,
    ⟨(some 94), none, (.op (.nilck (.t 93)))⟩,
    ⟨(some 95), none, (.op (.faddr 2 (.t 94)))⟩,
    ⟨none, none, (.op (.store 1 (.t 95) (.c (.b true))))⟩])
   (.skip))))
   (.live [2, 3, 0, 6] (.seq (.region [⟨(some 96), none, (.op (.mv (.t 6)))⟩,
    ⟨(some 97), none, (.op (.toInt .u32 (.t 96)))⟩,
    ⟨(some 98), none, (.call 64 [(.t 97)])⟩,
    ⟨(some 99), none, (.op (.faddr 5 (.t 3)))⟩,
    ⟨(some 100), none, (.op (.faddr 1 (.t 99)))⟩,
    ⟨(some 101), none, (.op (.faddr 0 (.t 100)))⟩,
    ⟨none, none, (.op (.store 4 (.t 101) (.t 98)))⟩])
   (.live [2, 3, 0] (.seq (.region [⟨(some 102), none, (.op (.mv (.t 0)))⟩,
    ⟨(some 103), none, (.call 37 [(.t 102)])⟩,
    ⟨(some 104), none, (.call 36 [(.t 103)])⟩,
    ⟨(some 105), none, (.op (.faddr 5 (.t 3)))⟩,
    ⟨(some 106), none, (.op (.faddr 1 (.t 105)))⟩,
    ⟨(some 107), none, (.op (.faddr 4 (.t 106)))⟩,
    ⟨none, none, (.op (.store 1 (.t 107) (.t 104)))⟩])
   (.live [2, 3, 0] (.seq (.region [⟨(some 108), none, (.op (.mv (.t 0)))⟩,
    ⟨(some 109), none, (.call 37 [(.t 108)])⟩,
    ⟨(some 110), none, (.op (.faddr 5 (.t 3)))⟩,
    ⟨(some 111), none, (.op (.faddr 6 (.t 110)))⟩,
    ⟨none, none, (.op (.store 1 (.t 111) (.t 109)))⟩])
   (.live [2, 3, 0] (.seq (.region [⟨(some 112), none, (.op (.mv (.t 0)))⟩,
    ⟨(some 113), none, (.call 37 [(.t 112)])⟩,
    ⟨(some 114), none, (.op (.faddr 5 (.t 3)))⟩,
    ⟨(some 115), none, (.op (.faddr 7 (.t 114)))⟩,
    ⟨none, none, (.op (.store 1 (.t 115) (.t 113)))⟩])
   (.live [2, 3, 0] (.seq (.region [⟨(some 116), none, (.op (.mv (.t 0)))⟩,
    ⟨(some 117), none, (.call 37 [(.t 116)])⟩,
    ⟨(some 118), none, (.op (.faddr 5 (.t 3)))⟩,
    ⟨(some 119), none, (.op (.faddr 8 (.t 118)))⟩,
    ⟨none, none, (.op (.store 1 (.t 119) (.t 117)))⟩])
   (.live [2, 3, 0] (.seq (.region [⟨(some 120), none, (.op (.mv (.t 0)))⟩,
    ⟨(some 121), none, (.call 37 [(.t 120)])⟩,
    ⟨(some 122), none, (.op (.faddr 5 (.t 3)))⟩,
    ⟨(some 123), none, (.op (.faddr 9 (.t 122)))⟩,
    ⟨none, none, (.op (.store 1 (.t 123) (.t 121)))⟩])
   (.live [2, 3, 0] (.seq (.region [⟨(some 124), none, (.op (.mv (.t 0)))⟩,
    ⟨(some 125), none, (.call 37 [(.t 124)])⟩,
    ⟨(some 126), none, (.op (.faddr 5 (.t 3)))⟩,
    ⟨(some 127), none, (.op (.faddr 10 (.t 126)))⟩,
    ⟨none, none, (.op (.store 1 (.t 127) (.t 125)))⟩])
   (.live [2, 3, 0] (.seq (.region [⟨(some 128), none, (.op (.mv (.t 0)))⟩,
    ⟨(some 129), none, (.call 37 [(.t 128)])⟩,
    ⟨(some 130), none, (.op (.faddr 5 (.t 3)))⟩,
    ⟨(some 131), none, (.op (.faddr 11 (.t 130)))⟩,
    ⟨none, none, (.op (.store 1 (.t 131) (.t 129)))⟩])
   (.live [2, 3, 0] (.region [⟨(some 132), none, (.op (.mv (.t 0)))⟩,
    ⟨(some 133), none, (.call 37 [(.t 132)])⟩,
    ⟨(some 134), none, (.op (.faddr 5 (.t 3)))⟩,
    ⟨(some 135), none, (.op (.faddr 12 (.t 134)))⟩,
    ⟨none, none, (.op (.store 1 (.t 135) (.t 133)))⟩])))))))))))))))))))))))
   (.seq (.seq (.region [⟨(some 137), none, (.op (.bin .int true .eql (.t 23) (.c (.i .i64 5))))⟩,
    ⟨(some 136), none, (.op (.mv (.t 137)))⟩])
   (.live [2, 3, 0, 23, 136] (.cond (.t 136) (.skip)
   (.region [⟨(some 138), none, (.op (.bin .int true .eql (.t 23) (.c (.i .i64 8))))⟩,
    ⟨(some 136), none, (.op (.mv (.t 138)))⟩]))))
   (.live [2, 3, 0, 23, 136] (.cond (.t 136) (.region [⟨(some 139), none, (.op (.mv (.t 0)))⟩,
    ⟨(some 140), none, (.call 37 [(.t 139)])⟩,
    ⟨(some 141), none, (.call 36 [(.t 140)])⟩,
    ⟨(some 142), none, (.op (.faddr 1 (.t 3)))⟩,
    ⟨none, none, (.op (.store 1 (.t 142) (.t 141)))⟩])
   (.seq (.region [⟨(some 144), none, (.op (.bin .int true .eql (.t 23) (.c (.i .i64 10))))⟩,
    ⟨(some 143), none, (.op (.mv (.t 144)))⟩])
   (.live [2, 3, 0, 23, 143] (.cond (.t 143) (.region [⟨(some 145), none, (.op (.mv (.t 0)))⟩,
    ⟨(some 146), none, (.call 37 [(.t 145)])⟩,
    ⟨(some 147), none, (.call 36 [(.t 146)])⟩,
    ⟨(some 148), none, (.op (.faddr 2 (.t 3)))⟩,
    ⟨none, none, (.op (.store 1 (.t 148) (.t 147)))⟩])
   (.seq (.region [⟨(some 150), none, (.op (.bin .int true .eql (.t 23) (.c (.i .i64 11))))⟩,
    ⟨(some 149), none, (.op (.mv (.t 150)))⟩])
   (.live [3, 0, 2, 149] (.cond (.t 149) (.seq (.region [⟨(some 151), none, (.op (.mv (.t 0)))⟩,
    ⟨(some 152), none, (.call 37 [(.t 151)])⟩,
    ⟨(some 7), none, (.op (.mv (.t 152)))⟩])
   (.live [3, 0, 2, 7] (.seq (.region [⟨(some 8), none, (.op (.mv (.c (.i .u64 0))))⟩])
   (.live [3, 0, 2, 7, 8] (.block 1 (.loop [3, 0, 2, 7, 8] c38l2))))))
   (.skip))))))))))))))))))))))
   (.live [2, 3] (.seq (.region [⟨(some 189), none, (.op (.load (some 19) (.t 3)))⟩,
    ⟨none, none, (.op (.store 19 (.t 2) (.t 189)))⟩])
   (.ret))))))))))))),
  []⟩


/- slices.ContainsFunc[[]floodgate/api.Op,floodgate/api.Op] -/

def c39 : IFunc := ⟨2, [.tmp 4],
  .seq (.region [⟨(some 4), none, (.op (.mv (.c (.b false))))⟩])
   (.live [1, 0] (.seq (.region [⟨(some 5), none, (.op (.mv (.t 0)))⟩,
    ⟨(some 6), none, (.op (.mv (.t 1)))⟩,
    ⟨(some 7), none, (.call 65 [(.t 5), (.t 6)])⟩,
    ⟨(some 8), none, (.op (.bin .int true .geq (.t 7) (.c (.i .i64 0))))⟩,
    ⟨(some 4), none, (.op (.mv (.t 8)))⟩])
   (.ret))),
  []⟩


/- floodgate/script.right$1 -/

def c40 : IFunc := ⟨1, [.tmp 2],
  .seq (.region [⟨(some 1), none, (.op (.box (.t 0)))⟩,
    ⟨(some 2), none, (.op (.mv (.c (.b false))))⟩])
   (.live [1] (.seq (.region [⟨(some 3), none, (.op (.load (some 19) (.t 1)))⟩,
    ⟨(some 4), none, (.call 15 [(.t 3)])⟩,
    ⟨(some 5), none, (.op (.un .not (.t 4)))⟩,
    ⟨(some 2), none, (.op (.mv (.t 5)))⟩])
   (.ret))),
  []⟩


/- floodgate/leb.Put -/
def c41l0 : ICode :=
  .seq (.seq (.region [⟨(some 5), none, (.op (.mv (.t 0)))⟩,
    ⟨(some 6), none, (.op (.bin .int true .geq (.t 5) (.c (.i .u64 128))))⟩])
   (.live [0, 3, 6] (.cond (.t 6) (.skip)
   (.exit 0))))
   (.live [0, 3] (.block 1 (.seq (.region [⟨(some 7), none, (.op (.mv (.t 3)))⟩,
    ⟨(some 8), none, (.op (.mv (.t 0)))⟩,
    ⟨(some 9), none, (.op (.toInt .u8 (.t 8)))⟩,
    ⟨(some 10), none, (.op (.bin .int true .or (.t 9) (.c (.i .u8 128))))⟩,
    ⟨(some 11), none, (.op (.bslice [(.i .u8 0)] 1 [(0, 1, (.t 10))]))⟩,
    ⟨(some 12), none, (.op (.app 1 1 (.t 7) (.t 11)))⟩,
    ⟨(some 3), none, (.op (.mv (.t 12)))⟩])
   (.live [3, 0] (.region [⟨(some 13), none, (.op (.mv (.t 0)))⟩,
    ⟨(some 14), none, (.op (.bin .int true .shr (.t 13) (.c (.i .u64 7))))⟩,
    ⟨(some 0), none, (.op (.mv (.t 14)))⟩])))))
def c41 : IFunc := ⟨1, [.tmp 2],
  .seq (.region [⟨(some 2), none, (.op (.mv (.c .sn)))⟩])
   (.live [0] (.seq (.region [⟨(some 4), none, (.op (.mks [(.i .u8 0)] 1 (.c (.i .i64 0)) (.c (.i .i64 10))))⟩,
    ⟨(some 3), none, (.op (.mv (.t 4)))⟩])
   (.live [0, 3] (.seq (.block 0 (.loop [0, 3] c41l0))
   (.live [0, 3] (.seq (.region [⟨(some 15), none, (.op (.mv (.t 3)))⟩,
    ⟨(some 16), none, (.op (.mv (.t 0)))⟩,
    ⟨(some 17), none, (.op (.toInt .u8 (.t 16)))⟩,
    ⟨(some 18), none, (.op (.bslice [(.i .u8 0)] 1 [(0, 1, (.t 17))]))⟩,
    ⟨(some 19), none, (.op (.app 1 1 (.t 15) (.t 18)))⟩,
    ⟨(some 2), none, (.op (.mv (.t 19)))⟩])
   (.ret))))))),
  []⟩


/- slices.Concat[[]byte,byte] -/
def c42l0 : ICode :=
  .seq (.region [⟨(some 12), none, (.op (.bin .int false .lss (.t 11) (.t 10)))⟩])
   (.live [9, 0, 10, 11, 3, 12] (.seq (.cond (.t 12) (.skip)
   (.exit 0))
   (.live [9, 0, 10, 11, 3] (.seq (.block 1 (.seq (.region [⟨(some 13), none, (.op (.iaddr none 1 (.t 9) (.t 11)))⟩,
    ⟨(some 14), none, (.op (.load none (.t 13)))⟩,
    ⟨(some 5), none, (.op (.mv (.t 14)))⟩])
   (.live [9, 0, 10, 11, 5, 3] (.seq (.region [⟨(some 15), none, (.op (.mv (.t 3)))⟩,
    ⟨(some 16), none, (.op (.mv (.t 5)))⟩,
    ⟨(some 17), none, (.op (.len .slice (.t 16)))⟩,
    ⟨(some 18), none, (.op (.bin .int false .add (.t 15) (.t 17)))⟩,
    ⟨(some 3), none, (.op (.mv (.t 18)))⟩])
   (.live [9, 0, 10, 3, 11] (.seq (.region [⟨(some 19), none, (.op (.mv (.t 3)))⟩,
    ⟨(some 20), none, (.op (.bin .int true .lss (.t 19) (.c (.i .i64 0))))⟩])
   (.live [9, 0, 10, 3, 11, 20] (.cond (.t 20) (.region [⟨(some 21), none, (.op (.bad))⟩,
    ⟨none, none, (.op (.bad))⟩])
   (.skip)))))))))
   (.live [9, 0, 10, 3, 11] (.region [⟨(some 22), none, (.op (.bin .int true .add (.t 11) (.c (.i .i64 1))))⟩,
    ⟨(some 11), none, (.op (.mv (.t 22)))⟩]))))))
def c42l1 : ICode :=
  .seq (.region [⟨(some 28), none, (.op (.bin .int false .lss (.t 27) (.t 26)))⟩])
   (.live [25, 26, 27, 6, 28] (.seq (.cond (.t 28) (.skip)
   (.exit 2))
   (.live [25, 26, 27, 6] (.seq (.block 3 (.seq (.region [⟨(some 29), none, (.op (.iaddr none 1 (.t 25) (.t 27)))⟩,
    ⟨(some 30), none, (.op (.load none (.t 29)))⟩,
    ⟨(some 8), none, (.op (.mv (.t 30)))⟩])
   (.live [25, 26, 27, 8, 6] (.region [⟨(some 31), none, (.op (.mv (.t 6)))⟩,
    ⟨(some 32), none, (.op (.mv (.t 8)))⟩,
    ⟨(some 33), none, (.op (.app 1 1 (.t 31) (.t 32)))⟩,
    ⟨(some 6), none, (.op (.mv (.t 33)))⟩]))))
   (.live [25, 26, 6, 27] (.region [⟨(some 34), none, (.op (.bin .int true .add (.t 27) (.c (.i .i64 1))))⟩,
    ⟨(some 27), none, (.op (.mv (.t 34)))⟩]))))))
def c42 : IFunc := ⟨1, [.tmp 2],
  .seq (.region [⟨(some 2), none, (.op (.mv (.c .sn)))⟩])
   (.live [0] (.seq (.region [⟨(some 3), none, (.op (.mv (.c (.i .i64 0))))⟩])
   (.live [0, 3] (.seq (.seq (.region [⟨(some 9), none, (.op (.mv (.t 0)))⟩,
    ⟨(some 10), none, (.op (.len .slice (.t 9)))⟩,
    ⟨(some 11), none, (.op (.mv (.c (.i .i64 0))))⟩])
   (.live [9, 0, 10, 11, 3] (.block 0 (.loop [9, 0, 10, 11, 3] c42l0))))
   (.live [0, 3] (.seq (.region [⟨(some 23), none, (.op (.mv (.t 3)))⟩,
    ⟨(some 24), none, (.call 66 [(.c .sn), (.t 23)])⟩,
    ⟨(some 6), none, (.op (.mv (.t 24)))⟩])
   (.live [6, 0] (.seq (.seq (.region [⟨(some 25), none, (.op (.mv (.t 0)))⟩,
    ⟨(some 26), none, (.op (.len .slice (.t 25)))⟩,
    ⟨(some 27), none, (.op (.mv (.c (.i .i64 0))))⟩])
   (.live [25, 26, 27, 6] (.block 2 (.loop [25, 26, 27, 6] c42l1))))
   (.live [6] (.seq (.region [⟨(some 35), none, (.op (.mv (.t 6)))⟩,
    ⟨(some 2), none, (.op (.mv (.t 35)))⟩])
   (.ret))))))))))),
  []⟩


/- floodgate/addr.Num -/
def c43l0 : ICode :=
  .seq (.region [⟨(some 8), none, (.op (.bin .int true .lss (.t 7) (.c (.i .i64 4))))⟩])
   (.live [6, 7, 3, 8] (.seq (.cond (.t 8) (.skip)
   (.exit 0))
   (.live [6, 7, 3] (.seq (.block 1 (.seq (.region [⟨(some 9), none, (.op (.ixa 4 1 none (.t 6) (.t 7)))⟩,
    ⟨(some 5), none, (.op (.mv (.t 9)))⟩])
   (.live [6, 7, 5, 3] (.region [⟨(some 10), none, (.op (.mv (.t 3)))⟩,
    ⟨(some 11), none, (.op (.bin .int true .shl (.t 10) (.c (.i .u64 8))))⟩,
    ⟨(some 12), none, (.op (.mv (.t 5)))⟩,
    ⟨(some 13), none, (.op (.toInt .u32 (.t 12)))⟩,
    ⟨(some 14), none, (.op (.bin .int false .or (.t 11) (.t 13)))⟩,
    ⟨(some 3), none, (.op (.mv (.t 14)))⟩]))))
   (.live [6, 3, 7] (.region [⟨(some 15), none, (.op (.bin .int true .add (.t 7) (.c (.i .i64 1))))⟩,
    ⟨(some 7), none, (.op (.mv (.t 15)))⟩]))))))
def c43 : IFunc := ⟨1, [.tmp 2],
  .seq (.region [⟨(some 1), none, (.op (.box (.t 0)))⟩,
    ⟨(some 2), none, (.op (.mv (.c (.i .u32 0))))⟩])
   (.live [1] (.seq (.region [⟨(some 3), none, (.op (.mv (.c (.i .u32 0))))⟩])
   (.live [3, 1] (.seq (.seq (.region [⟨(some 6), none, (.op (.load (some 4) (.t 1)))⟩,
    ⟨(some 7), none, (.op (.mv (.c (.i .i64 0))))⟩])
   (.live [6, 7, 3] (.block 0 (.loop [6, 7, 3] c43l0))))
   (.live [3] (.seq (.region [⟨(some 16), none, (.op (.mv (.t 3)))⟩,
    ⟨(some 2), none, (.op (.mv (.t 16)))⟩])
   (.ret))))))),
  []⟩


/- floodgate/script.flag -/

def c44 : IFunc := ⟨1, [.tmp 2],
  .seq (.region [⟨(some 2), none, (.op (.mv (.c (.i .u64 0))))⟩])
   (.live [0] (.seq (.seq (.region [⟨(some 3), none, (.op (.mv (.t 0)))⟩])
   (.live [3] (.cond (.t 3) (.seq (.region [⟨(some 2), none, (.op (.mv (.c (.i .u64 1))))⟩])
   (.ret))
   (.skip))))
   (.live [] (.seq (.region [⟨(some 2), none, (.op (.mv (.c (.i .u64 0))))⟩])
   (.ret))))),
  []⟩


/- floodgate/gate.New -/
def c45d0 : List Stage :=
  [⟨[(⟨(some 10), none, (.op (.load (some 3) (.t 1)))⟩, 1), (⟨(some 11), none, (.op (.faddr 0 (.t 1)))⟩, 0), (⟨(some 12), none, (.op (.load none (.t 11)))⟩, 0)], none, some ⟨(some 13), none, (.call 68 [(.t 12)])⟩⟩,
    ⟨[(⟨(some 14), none, (.op (.build [(.i .i64 0), (.i .i64 0), (.i .u64 0), .pn, .pn, .mn, .pn, .pn, (.i .u64 0), .pn] [(0, 3, (.t 10)), (3, 1, (.t 13))]))⟩, 1)], none, some ⟨(some 15), none, (.op (.box (.t 14)))⟩⟩,
    ⟨[(⟨(some 4), none, (.op (.mv (.t 15)))⟩, 2)], none, none⟩]
def c45d0w : List (ROp × Bool) :=
  [(⟨(some 10), none, (.op (.load (some 3) (.t 1)))⟩, false), (⟨(some 11), none, (.op (.faddr 0 (.t 1)))⟩, false), (⟨(some 12), none, (.op (.load none (.t 11)))⟩, false), (⟨(some 13), none, (.call 68 [(.t 12)])⟩, true), (⟨(some 14), none, (.op (.build [(.i .i64 0), (.i .i64 0), (.i .u64 0), .pn, .pn, .mn, .pn, .pn, (.i .u64 0), .pn] [(0, 3, (.t 10)), (3, 1, (.t 13))]))⟩, false), (⟨(some 15), none, (.op (.box (.t 14)))⟩, false), (⟨(some 4), none, (.op (.mv (.t 15)))⟩, false)]
theorem c45d0_w {P : Program} {O : Orc} {S0 : Mem} {rd : Bool} {e : Env} {S : Mem} {d : List Nat} {Q : Kont} : W P O S0 rd (.draw c45d0 []) e S d Q = wFl O c45d0w e S (normK Q d) := W_draw' (by kernel_rfl) (by kernel_rfl)
attribute [go_sem] c45d0_w c45d0w
def c45 : IFunc := ⟨1, [.tmp 2, .tmp 3],
  .seq (.region [⟨(some 1), none, (.op (.box (.t 0)))⟩,
    ⟨(some 2), none, (.op (.mv (.c .pn)))⟩,
    ⟨(some 3), none, (.op (.mv (.c (.i .i64 0))))⟩])
   (.live [1] (.seq (.seq (.region [⟨(some 7), none, (.op (.load (some 3) (.t 1)))⟩,
    ⟨(some 8), none, (.call 67 [(.t 7)])⟩,
    ⟨(some 9), none, (.op (.un .not (.t 8)))⟩])
   (.live [1, 9] (.cond (.t 9) (.seq (.region [⟨(some 2), none, (.op (.mv (.c .pn)))⟩,
    ⟨(some 3), none, (.op (.mv (.c (.i .i64 211))))⟩])
   (.ret))
   (.skip))))
   (.live [1] (.seq (.draw c45d0 [])
   (.live [4] (.seq (.region [⟨(some 17), none, (.op (.mv (.t 4)))⟩,
    ⟨(some 18), none, (.op (.nilck (.t 17)))⟩,
    ⟨(some 19), none, (.op (.faddr 3 (.t 18)))⟩,
    ⟨(some 20), none, (.op (.load none (.t 19)))⟩,
    ⟨(some 21), none, (.call 69 [(.t 20)])⟩,
    ⟨(some 16), none, (.op (.mv (.t 21)))⟩,
    ⟨(some 22), none, (.op (.ext (.t 16) 0))⟩,
    ⟨(some 23), none, (.op (.ext (.t 16) 1))⟩,
    ⟨(some 5), none, (.op (.mv (.t 22)))⟩,
    ⟨(some 6), none, (.op (.mv (.t 23)))⟩])
   (.live [6, 5, 4] (.seq (.seq (.region [⟨(some 24), none, (.op (.mv (.t 6)))⟩,
    ⟨(some 25), none, (.op (.bin .int true .neq (.t 24) (.c (.i .i64 0))))⟩])
   (.live [6, 5, 4, 25] (.cond (.t 25) (.seq (.region [⟨(some 26), none, (.op (.mv (.t 6)))⟩,
    ⟨(some 2), none, (.op (.mv (.c .pn)))⟩,
    ⟨(some 3), none, (.op (.mv (.t 26)))⟩])
   (.ret))
   (.skip))))
   (.live [5, 4] (.seq (.region [⟨(some 27), none, (.op (.mv (.t 4)))⟩,
    ⟨(some 28), none, (.op (.mv (.t 4)))⟩,
    ⟨(some 29), none, (.op (.mv (.t 5)))⟩,
    ⟨(some 30), none, (.call 70 [(.t 28), (.t 29)])⟩,
    ⟨(some 2), none, (.op (.mv (.t 27)))⟩,
    ⟨(some 3), none, (.op (.mv (.t 30)))⟩])
   (.ret))))))))))),
  []⟩


/- (*floodgate/gate.Gate).Tick -/
def c47l0 : ICode :=
  .seq (.region [⟨(some 18), none, (.op (.nxt (.t 17)))⟩,
    ⟨(some 19), none, (.op (.ext (.t 18) 0))⟩])
   (.live [1, 0, 17, 19] (.seq (.cond (.t 19) (.skip)
   (.exit 0))
   (.live [1, 0, 17] (.block 1 (.seq (.region [⟨(some 20), none, (.op (.bad))⟩,
    ⟨(some 21), none, (.op (.ext (.t 20) 1))⟩,
    ⟨(some 7), none, (.op (.mv (.t 21)))⟩])
   (.live [1, 0, 17, 7] (.seq (.region [⟨(some 22), none, (.op (.mv (.t 7)))⟩,
    ⟨(some 23), none, (.op (.nilck (.t 22)))⟩,
    ⟨(some 24), none, (.op (.faddr 14 (.t 23)))⟩,
    ⟨(some 25), none, (.op (.load none (.t 24)))⟩,
    ⟨(some 26), none, (.op (.mv (.t 1)))⟩,
    ⟨(some 27), none, (.call 76 [(.t 25), (.t 26)])⟩])
   (.live [1, 0, 17, 7] (.region [⟨(some 28), none, (.op (.mv (.t 7)))⟩,
    ⟨(some 29), none, (.op (.nilck (.t 28)))⟩,
    ⟨(some 30), none, (.op (.faddr 15 (.t 29)))⟩,
    ⟨(some 31), none, (.op (.load none (.t 30)))⟩,
    ⟨(some 32), none, (.op (.mv (.t 1)))⟩,
    ⟨(some 33), none, (.call 76 [(.t 31), (.t 32)])⟩])))))))))
def c47d1 : List Stage :=
  [⟨[(⟨(some 43), none, (.op (.mv (.t 0)))⟩, 0), (⟨(some 44), none, (.op (.nilck (.t 43)))⟩, 0), (⟨(some 45), none, (.op (.faddr 8 (.t 44)))⟩, 0), (⟨(some 46), none, (.op (.load none (.t 45)))⟩, 0), (⟨(some 47), none, (.op (.mv (.t 0)))⟩, 0), (⟨(some 48), none, (.op (.nilck (.t 47)))⟩, 0), (⟨(some 49), none, (.op (.faddr 0 (.t 48)))⟩, 0), (⟨(some 50), none, (.op (.faddr 2 (.t 49)))⟩, 0), (⟨(some 51), none, (.op (.load none (.t 50)))⟩, 0), (⟨(some 52), none, (.op (.bin .int false .lss (.t 46) (.t 51)))⟩, 0)], none, none⟩]
def c47d1w : List (ROp × Bool) :=
  [(⟨(some 43), none, (.op (.mv (.t 0)))⟩, false), (⟨(some 44), none, (.op (.nilck (.t 43)))⟩, false), (⟨(some 45), none, (.op (.faddr 8 (.t 44)))⟩, false), (⟨(some 46), none, (.op (.load none (.t 45)))⟩, false), (⟨(some 47), none, (.op (.mv (.t 0)))⟩, false), (⟨(some 48), none, (.op (.nilck (.t 47)))⟩, false), (⟨(some 49), none, (.op (.faddr 0 (.t 48)))⟩, false), (⟨(some 50), none, (.op (.faddr 2 (.t 49)))⟩, false), (⟨(some 51), none, (.op (.load none (.t 50)))⟩, false), (⟨(some 52), none, (.op (.bin .int false .lss (.t 46) (.t 51)))⟩, false)]
theorem c47d1_w {P : Program} {O : Orc} {S0 : Mem} {rd : Bool} {e : Env} {S : Mem} {d : List Nat} {Q : Kont} : W P O S0 rd (.draw c47d1 []) e S d Q = wFl O c47d1w e S (normK Q d) := W_draw' (by kernel_rfl) (by kernel_rfl)
attribute [go_sem] c47d1_w c47d1w
def c47d2 : List Stage :=
  [⟨[(⟨(some 53), none, (.op (.mv (.t 0)))⟩, 1), (⟨(some 54), none, (.op (.nilck (.t 53)))⟩, 1), (⟨(some 55), none, (.op (.faddr 4 (.t 54)))⟩, 1), (⟨(some 56), none, (.op (.load none (.t 55)))⟩, 1), (⟨(some 57), none, (.op (.mv (.t 0)))⟩, 0), (⟨(some 58), none, (.op (.nilck (.t 57)))⟩, 0), (⟨(some 59), none, (.op (.faddr 4 (.t 58)))⟩, 0), (⟨(some 60), none, (.op (.load none (.t 59)))⟩, 0)], none, some ⟨(some 61), none, (.call 79 [(.t 60)])⟩⟩,
    ⟨[(⟨(some 62), none, (.op (.fld 0 none (.t 61)))⟩, 1), (⟨(some 63), none, (.op (.bin .int true .add (.t 62) (.c (.i .u64 1))))⟩, 1), (⟨(some 64), none, (.op (.build [(.i .i64 0), (.i .i64 0), .sn, .sn, (.i .u64 0), (.i .u64 0)] [(0, 1, (.c (.i .i64 3))), (5, 1, (.t 63))]))⟩, 1)], none, some ⟨(some 65), none, (.call 78 [(.t 56), (.t 64)])⟩⟩,
    ⟨[(⟨(some 8), none, (.op (.mv (.t 65)))⟩, 2)], none, none⟩]
def c47d2w : List (ROp × Bool) :=
  [(⟨(some 53), none, (.op (.mv (.t 0)))⟩, false), (⟨(some 54), none, (.op (.nilck (.t 53)))⟩, false), (⟨(some 55), none, (.op (.faddr 4 (.t 54)))⟩, false), (⟨(some 56), none, (.op (.load none (.t 55)))⟩, false), (⟨(some 57), none, (.op (.mv (.t 0)))⟩, false), (⟨(some 58), none, (.op (.nilck (.t 57)))⟩, false), (⟨(some 59), none, (.op (.faddr 4 (.t 58)))⟩, false), (⟨(some 60), none, (.op (.load none (.t 59)))⟩, false), (⟨(some 61), none, (.call 79 [(.t 60)])⟩, true), (⟨(some 62), none, (.op (.fld 0 none (.t 61)))⟩, false), (⟨(some 63), none, (.op (.bin .int true .add (.t 62) (.c (.i .u64 1))))⟩, false), (⟨(some 64), none, (.op (.build [(.i .i64 0), (.i .i64 0), .sn, .sn, (.i .u64 0), (.i .u64 0)] [(0, 1, (.c (.i .i64 3))), (5, 1, (.t 63))]))⟩, false), (⟨(some 65), none, (.call 78 [(.t 56), (.t 64)])⟩, false), (⟨(some 8), none, (.op (.mv (.t 65)))⟩, false)]
theorem c47d2_w {P : Program} {O : Orc} {S0 : Mem} {rd : Bool} {e : Env} {S : Mem} {d : List Nat} {Q : Kont} : W P O S0 rd (.draw c47d2 []) e S d Q = wFl O c47d2w e S (normK Q d) := W_draw' (by kernel_rfl) (by kernel_rfl)
attribute [go_sem] c47d2_w c47d2w
def c47l3 : ICode :=
  .seq (.region [⟨(some 80), none, (.op (.nxt (.t 79)))⟩,
    ⟨(some 81), none, (.op (.ext (.t 80) 0))⟩])
   (.live [0, 79, 81] (.seq (.cond (.t 81) (.skip)
   (.exit 3))
   (.live [0, 79] (.block 4 (.seq (.region [⟨(some 82), none, (.op (.bad))⟩,
    ⟨(some 83), none, (.op (.ext (.t 82) 1))⟩,
    ⟨(some 10), none, (.op (.mv (.t 83)))⟩])
   (.live [0, 79, 10] (.region [⟨(some 84), none, (.op (.mv (.t 10)))⟩,
    ⟨(some 85), none, (.op (.nilck (.t 84)))⟩,
    ⟨(some 86), none, (.op (.faddr 16 (.t 85)))⟩,
    ⟨(some 87), none, (.op (.load none (.t 86)))⟩,
    ⟨(some 88), none, (.call 81 [(.t 87)])⟩])))))))
def c47 : IFunc := ⟨2, [.tmp 4, .tmp 5],
  .seq (.region [⟨(some 4), none, (.op (.mv (.c (.b false))))⟩,
    ⟨(some 5), none, (.op (.mv (.c (.i .i64 0))))⟩])
   (.live [1, 0] (.seq (.seq (.region [⟨(some 11), none, (.op (.mv (.t 0)))⟩,
    ⟨(some 12), none, (.call 71 [(.t 11)])⟩])
   (.live [1, 0, 12] (.cond (.t 12) (.seq (.region [⟨(some 4), none, (.op (.mv (.c (.b false))))⟩,
    ⟨(some 5), none, (.op (.mv (.c (.i .i64 216))))⟩])
   (.ret))
   (.skip))))
   (.live [1, 0] (.seq (.seq (.region [⟨(some 13), none, (.op (.mv (.t 0)))⟩,
    ⟨(some 14), none, (.op (.nilck (.t 13)))⟩,
    ⟨(some 15), none, (.op (.faddr 5 (.t 14)))⟩,
    ⟨(some 16), none, (.op (.load none (.t 15)))⟩,
    ⟨(some 17), none, (.op (.rng (.t 16)))⟩])
   (.live [1, 0, 17] (.block 0 (.loop [1, 0, 17] c47l0))))
   (.live [0, 1] (.seq (.region [⟨(some 34), none, (.op (.mv (.t 0)))⟩,
    ⟨(some 35), none, (.op (.mv (.t 0)))⟩,
    ⟨(some 36), none, (.op (.nilck (.t 35)))⟩,
    ⟨(some 37), none, (.op (.faddr 8 (.t 36)))⟩,
    ⟨(some 38), none, (.op (.load none (.t 37)))⟩,
    ⟨(some 39), none, (.op (.mv (.t 1)))⟩,
    ⟨(some 40), none, (.call 77 [(.t 38), (.t 39)])⟩,
    ⟨(some 41), none, (.op (.nilck (.t 34)))⟩,
    ⟨(some 42), none, (.op (.faddr 8 (.t 41)))⟩,
    ⟨none, none, (.op (.store 1 (.t 42) (.t 40)))⟩])
   (.live [0] (.seq (.seq (.draw c47d1 [])
   (.live [0, 52] (.cond (.t 52) (.seq (.region [⟨(some 4), none, (.op (.mv (.c (.b false))))⟩,
    ⟨(some 5), none, (.op (.mv (.c (.i .i64 0))))⟩])
   (.ret))
   (.skip))))
   (.live [0] (.seq (.seq (.draw c47d2 [])
   (.live [0, 8] (.seq (.region [⟨(some 66), none, (.op (.mv (.t 8)))⟩])
   (.live [0, 8, 66] (.block 2 (.seq (.region [⟨(some 71), none, (.op (.bin .int true .eql (.t 66) (.c (.i .i64 0))))⟩,
    ⟨(some 70), none, (.op (.mv (.t 71)))⟩])
   (.live [0, 8, 66, 70] (.cond (.t 70) (.skip)
   (.seq (.seq (.region [⟨(some 73), none, (.op (.bin .int true .eql (.t 66) (.c (.i .i64 101))))⟩,
    ⟨(some 72), none, (.op (.mv (.t 73)))⟩])
   (.live [8, 0, 72, 66] (.cond (.t 72) (.skip)
   (.region [⟨(some 74), none, (.op (.bin .int true .eql (.t 66) (.c (.i .i64 131))))⟩,
    ⟨(some 72), none, (.op (.mv (.t 74)))⟩]))))
   (.live [8, 0, 72] (.cond (.t 72) (.seq (.region [⟨(some 4), none, (.op (.mv (.c (.b false))))⟩,
    ⟨(some 5), none, (.op (.mv (.c (.i .i64 0))))⟩])
   (.ret))
   (.seq (.region [⟨(some 67), none, (.op (.mv (.t 0)))⟩,
    ⟨(some 68), none, (.op (.mv (.t 8)))⟩,
    ⟨(some 69), none, (.call 80 [(.t 67), (.t 68)])⟩,
    ⟨(some 4), none, (.op (.mv (.c (.b false))))⟩,
    ⟨(some 5), none, (.op (.mv (.t 69)))⟩])
   (.ret)))))))))))))
   (.live [0] (.seq (.seq (.region [⟨(some 75), none, (.op (.mv (.t 0)))⟩,
    ⟨(some 76), none, (.op (.nilck (.t 75)))⟩,
    ⟨(some 77), none, (.op (.faddr 5 (.t 76)))⟩,
    ⟨(some 78), none, (.op (.load none (.t 77)))⟩,
    ⟨(some 79), none, (.op (.rng (.t 78)))⟩])
   (.live [0, 79] (.block 3 (.loop [0, 79] c47l3))))
   (.live [0] (.seq (.region [⟨(some 89), none, (.op (.mv (.t 0)))⟩,
    ⟨(some 90), none, (.op (.nilck (.t 89)))⟩,
    ⟨(some 91), none, (.op (.faddr 8 (.t 90)))⟩,
    ⟨none, none, (.op (.store 1 (.t 91) (.c (.i .u64 0))))⟩])
   (.live [] (.seq (.region [⟨(some 4), none, (.op (.mv (.c (.b true))))⟩,
    ⟨(some 5), none, (.op (.mv (.c (.i .i64 0))))⟩])
   (.ret))))))))))))))))),
  []⟩


/- (*floodgate/gate.Gate).Query -/
def c51d0 : List Stage :=
  [⟨[(⟨(some 12), none, (.op (.mv (.t 0)))⟩, 0), (⟨(some 13), none, (.op (.nilck (.t 12)))⟩, 0), (⟨(some 14), none, (.op (.faddr 4 (.t 13)))⟩, 0), (⟨(some 15), none, (.op (.load none (.t 14)))⟩, 0), (⟨(some 18), none, (.op (.mv (.t 0)))⟩, 1), (⟨(some 19), none, (.op (.nilck (.t 18)))⟩, 1), (⟨(some 20), none, (.op (.faddr 4 (.t 19)))⟩, 1), (⟨(some 21), none, (.op (.load none (.t 20)))⟩, 1)], none, some ⟨(some 16), none, (.call 79 [(.t 15)])⟩⟩,
    ⟨[(⟨(some 17), none, (.op (.fld 0 none (.t 16)))⟩, 2)], none, some ⟨(some 22), none, (.call 92 [(.t 21)])⟩⟩,
    ⟨[(⟨(some 23), none, (.op (.build [(.i .u64 0), (.i .i64 0), (.b false), (.i .i64 0), (.i .u8 0), (.i .u8 0), (.i .u8 0), (.i .u8 0), (.i .i64 0), (.i .u64 0), (.i .u64 0), (.i .u64 0), (.i .u64 0), (.i .u64 0), (.i .u64 0), (.i .u64 0), (.i .u64 0), (.i .u64 0), (.i .i64 0), (.i .u64 0), (.i .u64 0)] [(0, 1, (.t 17)), (1, 1, (.t 22))]))⟩, 2)], some ⟨(some 6), none, (.op (.fresh [(.i .u64 0), (.i .i64 0), (.b false), (.i .i64 0), (.i .u8 0), (.i .u8 0), (.i .u8 0), (.i .u8 0), (.i .i64 0), (.i .u64 0), (.i .u64 0), (.i .u64 0), (.i .u64 0), (.i .u64 0), (.i .u64 0), (.i .u64 0), (.i .u64 0), (.i .u64 0), (.i .i64 0), (.i .u64 0), (.i .u64 0)]))⟩, some ⟨none, none, (.op (.store 21 (.t 6) (.t 23)))⟩⟩,
    ⟨[], none, none⟩]
def c51d0w : List (ROp × Bool) :=
  [(⟨(some 12), none, (.op (.mv (.t 0)))⟩, false), (⟨(some 13), none, (.op (.nilck (.t 12)))⟩, false), (⟨(some 14), none, (.op (.faddr 4 (.t 13)))⟩, false), (⟨(some 15), none, (.op (.load none (.t 14)))⟩, false), (⟨(some 18), none, (.op (.mv (.t 0)))⟩, false), (⟨(some 19), none, (.op (.nilck (.t 18)))⟩, false), (⟨(some 20), none, (.op (.faddr 4 (.t 19)))⟩, false), (⟨(some 21), none, (.op (.load none (.t 20)))⟩, false), (⟨(some 16), none, (.call 79 [(.t 15)])⟩, true), (⟨(some 17), none, (.op (.fld 0 none (.t 16)))⟩, false), (⟨(some 22), none, (.call 92 [(.t 21)])⟩, false), (⟨(some 23), none, (.op (.build [(.i .u64 0), (.i .i64 0), (.b false), (.i .i64 0), (.i .u8 0), (.i .u8 0), (.i .u8 0), (.i .u8 0), (.i .i64 0), (.i .u64 0), (.i .u64 0), (.i .u64 0), (.i .u64 0), (.i .u64 0), (.i .u64 0), (.i .u64 0), (.i .u64 0), (.i .u64 0), (.i .i64 0), (.i .u64 0), (.i .u64 0)] [(0, 1, (.t 17)), (1, 1, (.t 22))]))⟩, false), (⟨(some 6), none, (.op (.fresh [(.i .u64 0), (.i .i64 0), (.b false), (.i .i64 0), (.i .u8 0), (.i .u8 0), (.i .u8 0), (.i .u8 0), (.i .i64 0), (.i .u64 0), (.i .u64 0), (.i .u64 0), (.i .u64 0), (.i .u64 0), (.i .u64 0), (.i .u64 0), (.i .u64 0), (.i .u64 0), (.i .i64 0), (.i .u64 0), (.i .u64 0)]))⟩, true), (⟨none, none, (.op (.store 21 (.t 6) (.t 23)))⟩, false)]
theorem c51d0_w {P : Program} {O : Orc} {S0 : Mem} {rd : Bool} {e : Env} {S : Mem} {d : List Nat} {Q : Kont} : W P O S0 rd (.draw c51d0 []) e S d Q = wFl O c51d0w e S (normK Q d) := W_draw' (by kernel_rfl) (by kernel_rfl)
attribute [go_sem] c51d0_w c51d0w
def c51d1 : List Stage :=
  [⟨[(⟨(some 34), none, (.op (.mv (.t 7)))⟩, 1), (⟨(some 35), none, (.op (.nilck (.t 34)))⟩, 1), (⟨(some 36), none, (.op (.faddr 1 (.t 35)))⟩, 1), (⟨(some 37), none, (.op (.load (some 13) (.t 36)))⟩, 1), (⟨(some 38), none, (.op (.faddr 2 (.t 6)))⟩, 0)], none, some ⟨none, none, (.op (.store 1 (.t 38) (.c (.b true))))⟩⟩,
    ⟨[(⟨(some 39), none, (.op (.faddr 3 (.t 6)))⟩, 1)], none, some ⟨none, none, (.op (.store 13 (.t 39) (.t 37)))⟩⟩,
    ⟨[], none, none⟩]
theorem c51d1_e {P : Program} {O : Orc} {S0 : Mem} {rd : Bool} {e : Env} {S : Mem} {d : List Nat} {Q : Kont} : W P O S0 rd (.draw c51d1 []) e S d Q = drawK (evDraw O c51d1 [] e S) (normK Q d) := W_drawE (by kernel_rfl)
attribute [go_sem] c51d1_e
def c51d2 : List Stage :=
  [⟨[(⟨(some 40), none, (.op (.mv (.t 7)))⟩, 0), (⟨(some 41), none, (.op (.nilck (.t 40)))⟩, 0), (⟨(some 42), none, (.op (.faddr 16 (.t 41)))⟩, 0), (⟨(some 43), none, (.op (.load none (.t 42)))⟩, 0), (⟨(some 45), none, (.op (.mv (.t 7)))⟩, 1), (⟨(some 46), none, (.op (.nilck (.t 45)))⟩, 1), (⟨(some 47), none, (.op (.faddr 16 (.t 46)))⟩, 1), (⟨(some 48), none, (.op (.load none (.t 47)))⟩, 1), (⟨(some 50), none, (.op (.mv (.t 7)))⟩, 2), (⟨(some 51), none, (.op (.nilck (.t 50)))⟩, 2), (⟨(some 52), none, (.op (.faddr 0 (.t 51)))⟩, 2), (⟨(some 53), none, (.op (.load none (.t 52)))⟩, 2)], none, some ⟨(some 44), none, (.call 93 [(.t 43)])⟩⟩,
    ⟨[(⟨(some 55), none, (.op (.faddr 16 (.t 6)))⟩, 3)], none, some ⟨(some 49), none, (.call 94 [(.t 48)])⟩⟩,
    ⟨[], none, some ⟨(some 54), none, (.call 95 [(.t 53)])⟩⟩,
    ⟨[], none, some ⟨none, none, (.op (.store 1 (.t 55) (.t 44)))⟩⟩,
    ⟨[(⟨(some 56), none, (.op (.faddr 17 (.t 6)))⟩, 4)], none, some ⟨none, none, (.op (.store 1 (.t 56) (.t 49)))⟩⟩,
    ⟨[(⟨(some 57), none, (.op (.faddr 18 (.t 6)))⟩, 5)], none, some ⟨none, none, (.op (.store 1 (.t 57) (.t 54)))⟩⟩,
    ⟨[], none, none⟩]
def c51d2w : List (ROp × Bool) :=
  [(⟨(some 40), none, (.op (.mv (.t 7)))⟩, false), (⟨(some 41), none, (.op (.nilck (.t 40)))⟩, false), (⟨(some 42), none, (.op (.faddr 16 (.t 41)))⟩, false), (⟨(some 43), none, (.op (.load none (.t 42)))⟩, false), (⟨(some 45), none, (.op (.mv (.t 7)))⟩, false), (⟨(some 46), none, (.op (.nilck (.t 45)))⟩, false), (⟨(some 47), none, (.op (.faddr 16 (.t 46)))⟩, false), (⟨(some 48), none, (.op (.load none (.t 47)))⟩, false), (⟨(some 50), none, (.op (.mv (.t 7)))⟩, false), (⟨(some 51), none, (.op (.nilck (.t 50)))⟩, false), (⟨(some 52), none, (.op (.faddr 0 (.t 51)))⟩, false), (⟨(some 53), none, (.op (.load none (.t 52)))⟩, false), (⟨(some 44), none, (.call 93 [(.t 43)])⟩, true), (⟨(some 55), none, (.op (.faddr 16 (.t 6)))⟩, false), (⟨(some 49), none, (.call 94 [(.t 48)])⟩, true), (⟨(some 54), none, (.call 95 [(.t 53)])⟩, false), (⟨none, none, (.op (.store 1 (.t 55) (.t 44)))⟩, false), (⟨(some 56), none, (.op (.faddr 17 (.t 6)))⟩, false), (⟨none, none, (.op (.store 1 (.t 56) (.t 49)))⟩, false), (⟨(some 57), none, (.op (.faddr 18 (.t 6)))⟩, false), (⟨none, none, (.op (.store 1 (.t 57) (.t 54)))⟩, false)]
theorem c51d2_w {P : Program} {O : Orc} {S0 : Mem} {rd : Bool} {e : Env} {S : Mem} {d : List Nat} {Q : Kont} : W P O S0 rd (.draw c51d2 []) e S d Q = wFl O c51d2w e S (normK Q d) := W_draw' (by kernel_rfl) (by kernel_rfl)
attribute [go_sem] c51d2_w c51d2w
def c51d3 : List Stage :=
  [⟨[(⟨(some 58), none, (.op (.mv (.t 7)))⟩, 0), (⟨(some 59), none, (.op (.nilck (.t 58)))⟩, 0), (⟨(some 60), none, (.op (.faddr 14 (.t 59)))⟩, 0), (⟨(some 61), none, (.op (.load none (.t 60)))⟩, 0), (⟨(some 63), none, (.op (.mv (.t 7)))⟩, 1), (⟨(some 64), none, (.op (.nilck (.t 63)))⟩, 1), (⟨(some 65), none, (.op (.faddr 15 (.t 64)))⟩, 1), (⟨(some 66), none, (.op (.load none (.t 65)))⟩, 1)], none, some ⟨(some 62), none, (.call 96 [(.t 61)])⟩⟩,
    ⟨[(⟨(some 68), none, (.op (.faddr 19 (.t 6)))⟩, 2)], none, some ⟨(some 67), none, (.call 96 [(.t 66)])⟩⟩,
    ⟨[], none, some ⟨none, none, (.op (.store 1 (.t 68) (.t 62)))⟩⟩,
    ⟨[(⟨(some 69), none, (.op (.faddr 20 (.t 6)))⟩, 3)], none, some ⟨none, none, (.op (.store 1 (.t 69) (.t 67)))⟩⟩,
    ⟨[], none, none⟩]
def c51d3w : List (ROp × Bool) :=
  [(⟨(some 58), none, (.op (.mv (.t 7)))⟩, false), (⟨(some 59), none, (.op (.nilck (.t 58)))⟩, false), (⟨(some 60), none, (.op (.faddr 14 (.t 59)))⟩, false), (⟨(some 61), none, (.op (.load none (.t 60)))⟩, false), (⟨(some 63), none, (.op (.mv (.t 7)))⟩, false), (⟨(some 64), none, (.op (.nilck (.t 63)))⟩, false), (⟨(some 65), none, (.op (.faddr 15 (.t 64)))⟩, false), (⟨(some 66), none, (.op (.load none (.t 65)))⟩, false), (⟨(some 62), none, (.call 96 [(.t 61)])⟩, true), (⟨(some 68), none, (.op (.faddr 19 (.t 6)))⟩, false), (⟨(some 67), none, (.call 96 [(.t 66)])⟩, false), (⟨none, none, (.op (.store 1 (.t 68) (.t 62)))⟩, false), (⟨(some 69), none, (.op (.faddr 20 (.t 6)))⟩, false), (⟨none, none, (.op (.store 1 (.t 69) (.t 67)))⟩, false)]
theorem c51d3_w {P : Program} {O : Orc} {S0 : Mem} {rd : Bool} {e : Env} {S : Mem} {d : List Nat} {Q : Kont} : W P O S0 rd (.draw c51d3 []) e S d Q = wFl O c51d3w e S (normK Q d) := W_draw' (by kernel_rfl) (by kernel_rfl)
attribute [go_sem] c51d3_w c51d3w
def c51 : IFunc := ⟨2, [.cell 4 (some 21), .tmp 5],
  .seq (.region [⟨(some 4), none, (.op (.fresh [(.i .u64 0), (.i .i64 0), (.b false), (.i .i64 0), (.i .u8 0), (.i .u8 0), (.i .u8 0), (.i .u8 0), (.i .i64 0), (.i .u64 0), (.i .u64 0), (.i .u64 0), (.i .u64 0), (.i .u64 0), (.i .u64 0), (.i .u64 0), (.i .u64 0), (.i .u64 0), (.i .i64 0), (.i .u64 0), (.i .u64 0)]))⟩,
    ⟨(some 5), none, (.op (.mv (.c (.i .i64 0))))⟩])
   (.live [4, 1, 0] (.seq (.seq (.region [⟨(some 9), none, (.op (.mv (.t 0)))⟩,
    ⟨(some 10), none, (.call 71 [(.t 9)])⟩])
   (.live [4, 1, 0, 10] (.cond (.t 10) (.seq (.region [⟨(some 11), none, (.op (.build [(.i .u64 0), (.i .i64 0), (.b false), (.i .i64 0), (.i .u8 0), (.i .u8 0), (.i .u8 0), (.i .u8 0), (.i .i64 0), (.i .u64 0), (.i .u64 0), (.i .u64 0), (.i .u64 0), (.i .u64 0), (.i .u64 0), (.i .u64 0), (.i .u64 0), (.i .u64 0), (.i .i64 0), (.i .u64 0), (.i .u64 0)] []))⟩,
    ⟨none, none, (.op (.store 21 (.t 4) (.t 11)))⟩,
    ⟨(some 5), none, (.op (.mv (.c (.i .i64 216))))⟩])
   (.ret))
   (.skip))))
   (.live [4, 1, 0] (.seq (.draw c51d0 [])
   (.live [4, 6, 1, 0] (.seq (.seq (.region [⟨(some 25), none, (.op (.mv (.t 0)))⟩,
    ⟨(some 26), none, (.op (.nilck (.t 25)))⟩,
    ⟨(some 27), none, (.op (.faddr 5 (.t 26)))⟩,
    ⟨(some 28), none, (.op (.load none (.t 27)))⟩,
    ⟨(some 29), none, (.op (.mv (.t 1)))⟩,
    ⟨(some 30), none, (.op (.mlook false [.int] .pn true (.t 28) (.t 29)))⟩,
    ⟨(some 24), none, (.op (.mv (.t 30)))⟩,
    ⟨(some 31), none, (.op (.ext (.t 24) 0))⟩,
    ⟨(some 32), none, (.op (.ext (.t 24) 1))⟩,
    ⟨(some 7), none, (.op (.mv (.t 31)))⟩,
    ⟨(some 8), none, (.op (.mv (.t 32)))⟩])
   (.live [4, 6, 7, 8] (.seq (.region [⟨(some 33), none, (.op (.mv (.t 8)))⟩])
   (.live [4, 6, 7, 33] (.cond (.t 33) (.seq (.draw c51d1 [])
   (.live [4, 6, 7] (.seq (.draw c51d2 [])
   (.live [4, 6, 7] (.draw c51d3 [])))))
   (.skip))))))
   (.live [4, 6] (.seq (.region [⟨(some 70), none, (.op (.load (some 21) (.t 6)))⟩,
    ⟨none, none, (.op (.store 21 (.t 4) (.t 70)))⟩,
    ⟨(some 5), none, (.op (.mv (.c (.i .i64 0))))⟩])
   (.ret))))))))),
  []⟩


/- floodgate/floodgateref02.Put -/

def c55 : IFunc := ⟨1, [.tmp 2],
  .seq (.region [⟨(some 2), none, (.op (.mv (.c .sn)))⟩])
   (.live [0] (.seq (.seq (.region [⟨(some 3), none, (.op (.mv (.t 0)))⟩,
    ⟨(some 4), none, (.op (.bin .int true .lss (.t 3) (.c (.i .u64 128))))⟩])
   (.live [0, 4] (.cond (.t 4) (.seq (.region [⟨(some 5), none, (.op (.mv (.t 0)))⟩,
    ⟨(some 6), none, (.op (.toInt .u8 (.t 5)))⟩,
    ⟨(some 7), none, (.op (.bslice [(.i .u8 0)] 1 [(0, 1, (.t 6))]))⟩,
    ⟨(some 2), none, (.op (.mv (.t 7)))⟩])
   (.ret))
   (.skip))))
   (.live [0] (.seq (.region [⟨(some 8), none, (.op (.mv (.t 0)))⟩,
    ⟨(some 9), none, (.op (.bin .int true .rem (.t 8) (.c (.i .u64 128))))⟩,
    ⟨(some 10), none, (.op (.bin .int true .add (.c (.i .u64 128)) (.t 9)))⟩,
    ⟨(some 11), none, (.op (.toInt .u8 (.t 10)))⟩,
    ⟨(some 12), none, (.op (.bslice [(.i .u8 0)] 1 [(0, 1, (.t 11))]))⟩,
    ⟨(some 13), none, (.op (.mv (.t 0)))⟩,
    ⟨(some 14), none, (.op (.bin .int true .quo (.t 13) (.c (.i .u64 128))))⟩,
    ⟨(some 15), none, (.call 55 [(.t 14)])⟩,
    ⟨(some 16), none, (.op (.app 1 1 (.t 12) (.t 15)))⟩,
    ⟨(some 2), none, (.op (.mv (.t 16)))⟩])
   (.ret))))),
  []⟩


/- floodgate/floodgateref02.Zig -/

def c56 : IFunc := ⟨1, [.tmp 2],
  .seq (.region [⟨(some 2), none, (.op (.mv (.c (.i .u64 0))))⟩])
   (.live [0] (.seq (.seq (.region [⟨(some 3), none, (.op (.mv (.t 0)))⟩,
    ⟨(some 4), none, (.op (.bin .int true .geq (.t 3) (.c (.i .i64 0))))⟩])
   (.live [0, 4] (.cond (.t 4) (.seq (.region [⟨(some 5), none, (.op (.mv (.t 0)))⟩,
    ⟨(some 6), none, (.op (.toInt .u64 (.t 5)))⟩,
    ⟨(some 7), none, (.op (.bin .int true .mul (.c (.i .u64 2)) (.t 6)))⟩,
    ⟨(some 2), none, (.op (.mv (.t 7)))⟩])
   (.ret))
   (.skip))))
   (.live [0] (.seq (.region [⟨(some 8), none, (.op (.mv (.t 0)))⟩,
    ⟨(some 9), none, (.op (.bin .int true .sub (.c (.i .i64 (-1))) (.t 8)))⟩,
    ⟨(some 10), none, (.op (.toInt .u64 (.t 9)))⟩,
    ⟨(some 11), none, (.op (.bin .int true .mul (.c (.i .u64 2)) (.t 10)))⟩,
    ⟨(some 12), none, (.op (.bin .int true .add (.t 11) (.c (.i .u64 1))))⟩,
    ⟨(some 2), none, (.op (.mv (.t 12)))⟩])
   (.ret))))),
  []⟩


/- floodgate/floodgateref04.Num -/

def c57 : IFunc := ⟨1, [.tmp 2],
  .seq (.region [⟨(some 1), none, (.op (.box (.t 0)))⟩,
    ⟨(some 2), none, (.op (.mv (.c (.i .u32 0))))⟩])
   (.live [1] (.seq (.region [⟨(some 3), none, (.op (.iaddr (some 4) 1 (.t 1) (.c (.i .i64 0))))⟩,
    ⟨(some 4), none, (.op (.load none (.t 3)))⟩,
    ⟨(some 5), none, (.op (.toInt .u32 (.t 4)))⟩,
    ⟨(some 6), none, (.op (.bin .int true .mul (.t 5) (.c (.i .u32 16777216))))⟩,
    ⟨(some 7), none, (.op (.iaddr (some 4) 1 (.t 1) (.c (.i .i64 1))))⟩,
    ⟨(some 8), none, (.op (.load none (.t 7)))⟩,
    ⟨(some 9), none, (.op (.toInt .u32 (.t 8)))⟩,
    ⟨(some 10), none, (.op (.bin .int true .mul (.t 9) (.c (.i .u32 65536))))⟩,
    ⟨(some 11), none, (.op (.bin .int false .add (.t 6) (.t 10)))⟩,
    ⟨(some 12), none, (.op (.iaddr (some 4) 1 (.t 1) (.c (.i .i64 2))))⟩,
    ⟨(some 13), none, (.op (.load none (.t 12)))⟩,
    ⟨(some 14), none, (.op (.toInt .u32 (.t 13)))⟩,
    ⟨(some 15), none, (.op (.bin .int true .mul (.t 14) (.c (.i .u32 256))))⟩,
    ⟨(some 16), none, (.op (.bin .int false .add (.t 11) (.t 15)))⟩,
    ⟨(some 17), none, (.op (.iaddr (some 4) 1 (.t 1) (.c (.i .i64 3))))⟩,
    ⟨(some 18), none, (.op (.load none (.t 17)))⟩,
    ⟨(some 19), none, (.op (.toInt .u32 (.t 18)))⟩,
    ⟨(some 20), none, (.op (.bin .int false .add (.t 16) (.t 19)))⟩,
    ⟨(some 2), none, (.op (.mv (.t 20)))⟩])
   (.ret))),
  []⟩


/- floodgate/leb.Zag -/

def c58 : IFunc := ⟨1, [.tmp 2],
  .seq (.region [⟨(some 2), none, (.op (.mv (.c (.i .i64 0))))⟩])
   (.live [0] (.seq (.region [⟨(some 3), none, (.op (.mv (.t 0)))⟩,
    ⟨(some 4), none, (.op (.bin .int true .shr (.t 3) (.c (.i .u64 1))))⟩,
    ⟨(some 5), none, (.op (.toInt .i64 (.t 4)))⟩,
    ⟨(some 6), none, (.op (.mv (.t 0)))⟩,
    ⟨(some 7), none, (.op (.bin .int true .and (.t 6) (.c (.i .u64 1))))⟩,
    ⟨(some 8), none, (.op (.toInt .i64 (.t 7)))⟩,
    ⟨(some 9), none, (.op (.un .neg (.t 8)))⟩,
    ⟨(some 10), none, (.op (.bin .int false .xor (.t 5) (.t 9)))⟩,
    ⟨(some 2), none, (.op (.mv (.t 10)))⟩])
   (.ret))),
  []⟩


/- floodgate/leb.Get -/
def c59l0 : ICode :=
  .seq (.region [⟨(some 16), none, (.op (.bin .int false .lss (.t 15) (.t 14)))⟩])
   (.live [13, 14, 15, 5, 16] (.seq (.cond (.t 16) (.skip)
   (.exit 0))
   (.live [13, 14, 15, 5] (.seq (.block 1 (.seq (.region [⟨(some 17), none, (.op (.mv (.t 15)))⟩,
    ⟨(some 18), none, (.op (.iaddr none 1 (.t 13) (.t 15)))⟩,
    ⟨(some 19), none, (.op (.load none (.t 18)))⟩,
    ⟨(some 6), none, (.op (.mv (.t 17)))⟩,
    ⟨(some 7), none, (.op (.mv (.t 19)))⟩])
   (.live [13, 14, 15, 6, 7, 5] (.seq (.region [⟨(some 20), none, (.op (.mv (.t 7)))⟩,
    ⟨(some 21), none, (.op (.bin .int true .and (.t 20) (.c (.i .u8 127))))⟩,
    ⟨(some 22), none, (.op (.toInt .u64 (.t 21)))⟩,
    ⟨(some 8), none, (.op (.mv (.t 22)))⟩])
   (.live [13, 14, 15, 6, 7, 8, 5] (.seq (.seq (.region [⟨(some 23), none, (.op (.mv (.t 8)))⟩,
    ⟨(some 24), none, (.op (.mv (.t 6)))⟩,
    ⟨(some 25), none, (.op (.bin .int true .mul (.c (.i .i64 7)) (.t 24)))⟩,
    ⟨(some 26), none, (.op (.bin .int false .shl (.t 23) (.t 25)))⟩,
    ⟨(some 27), none, (.op (.mv (.t 6)))⟩,
    ⟨(some 28), none, (.op (.bin .int true .mul (.c (.i .i64 7)) (.t 27)))⟩,
    ⟨(some 29), none, (.op (.bin .int false .shr (.t 26) (.t 28)))⟩,
    ⟨(some 30), none, (.op (.mv (.t 8)))⟩,
    ⟨(some 31), none, (.op (.bin .int false .neq (.t 29) (.t 30)))⟩])
   (.live [13, 14, 15, 6, 7, 8, 5, 31] (.cond (.t 31) (.exit 0)
   (.skip))))
   (.live [13, 14, 15, 6, 7, 8, 5] (.seq (.region [⟨(some 32), none, (.op (.mv (.t 5)))⟩,
    ⟨(some 33), none, (.op (.mv (.t 8)))⟩,
    ⟨(some 34), none, (.op (.mv (.t 6)))⟩,
    ⟨(some 35), none, (.op (.bin .int true .mul (.c (.i .i64 7)) (.t 34)))⟩,
    ⟨(some 36), none, (.op (.bin .int false .shl (.t 33) (.t 35)))⟩,
    ⟨(some 37), none, (.op (.bin .int false .or (.t 32) (.t 36)))⟩,
    ⟨(some 5), none, (.op (.mv (.t 37)))⟩])
   (.live [13, 14, 5, 15, 6, 7] (.seq (.seq (.region [⟨(some 38), none, (.op (.mv (.t 7)))⟩,
    ⟨(some 39), none, (.op (.bin .int true .and (.t 38) (.c (.i .u8 128))))⟩,
    ⟨(some 40), none, (.op (.bin .int true .neq (.t 39) (.c (.i .u8 0))))⟩])
   (.live [13, 14, 5, 15, 6, 40] (.cond (.t 40) (.exit 1)
   (.skip))))
   (.live [6, 5] (.seq (.seq (.region [⟨(some 41), none, (.op (.mv (.t 5)))⟩,
    ⟨(some 42), none, (.call 104 [(.t 41)])⟩,
    ⟨(some 43), none, (.op (.mv (.t 6)))⟩,
    ⟨(some 44), none, (.op (.bin .int true .add (.t 43) (.c (.i .i64 1))))⟩,
    ⟨(some 45), none, (.op (.bin .int false .neq (.t 42) (.t 44)))⟩])
   (.live [6, 5, 45] (.cond (.t 45) (.exit 0)
   (.skip))))
   (.live [6, 5] (.seq (.region [⟨(some 46), none, (.op (.mv (.t 5)))⟩,
    ⟨(some 47), none, (.op (.mv (.t 6)))⟩,
    ⟨(some 48), none, (.op (.bin .int true .add (.t 47) (.c (.i .i64 1))))⟩,
    ⟨(some 2), none, (.op (.mv (.t 46)))⟩,
    ⟨(some 3), none, (.op (.mv (.t 48)))⟩,
    ⟨(some 4), none, (.op (.mv (.c (.i .i64 0))))⟩])
   (.ret)))))))))))))))
   (.live [13, 14, 5, 15] (.region [⟨(some 49), none, (.op (.bin .int true .add (.t 15) (.c (.i .i64 1))))⟩,
    ⟨(some 15), none, (.op (.mv (.t 49)))⟩]))))))
def c59 : IFunc := ⟨1, [.tmp 2, .tmp 3, .tmp 4],
  .seq (.region [⟨(some 2), none, (.op (.mv (.c (.i .u64 0))))⟩,
    ⟨(some 3), none, (.op (.mv (.c (.i .i64 0))))⟩,
    ⟨(some 4), none, (.op (.mv (.c (.i .i64 0))))⟩])
   (.live [0] (.seq (.region [⟨(some 5), none, (.op (.mv (.c (.i .u64 0))))⟩])
   (.live [5, 0] (.seq (.seq (.region [⟨(some 9), none, (.op (.mv (.t 0)))⟩,
    ⟨(some 10), none, (.op (.mv (.t 0)))⟩,
    ⟨(some 11), none, (.op (.len .slice (.t 10)))⟩,
    ⟨(some 12), none, (.op (.mm false [(.t 11), (.c (.i .i64 10))]))⟩,
    ⟨(some 13), none, (.op (.slice 1 (.t 9) none (some (.t 12)) none))⟩,
    ⟨(some 14), none, (.op (.len .slice (.t 13)))⟩,
    ⟨(some 15), none, (.op (.mv (.c (.i .i64 0))))⟩])
   (.live [13, 14, 15, 5] (.block 0 (.loop [13, 14, 15, 5] c59l0))))
   (.live [] (.seq (.region [⟨(some 2), none, (.op (.mv (.c (.i .u64 0))))⟩,
    ⟨(some 3), none, (.op (.mv (.c (.i .i64 0))))⟩,
    ⟨(some 4), none, (.op (.mv (.c (.i .i64 21))))⟩])
   (.ret))))))),
  []⟩


/- floodgate/sat.Int -/

def c60 : IFunc := ⟨1, [.tmp 2, .tmp 3],
  .seq (.region [⟨(some 2), none, (.op (.mv (.c (.i .i64 0))))⟩,
    ⟨(some 3), none, (.op (.mv (.c (.b false))))⟩])
   (.live [0] (.seq (.seq (.region [⟨(some 4), none, (.op (.mv (.t 0)))⟩,
    ⟨(some 5), none, (.op (.bin .int true .gtr (.t 4) (.c (.i .u64 9223372036854775807))))⟩])
   (.live [0, 5] (.cond (.t 5) (.seq (.region [⟨(some 2), none, (.op (.mv (.c (.i .i64 0))))⟩,
    ⟨(some 3), none, (.op (.mv (.c (.b false))))⟩])
   (.ret))
   (.skip))))
   (.live [0] (.seq (.region [⟨(some 6), none, (.op (.mv (.t 0)))⟩,
    ⟨(some 7), none, (.op (.toInt .i64 (.t 6)))⟩,
    ⟨(some 2), none, (.op (.mv (.t 7)))⟩,
    ⟨(some 3), none, (.op (.mv (.c (.b true))))⟩])
   (.ret))))),
  []⟩


/- slices.Clone[[]byte,byte] -/

def c61 : IFunc := ⟨1, [.tmp 2],
  .seq (.region [⟨(some 2), none, (.op (.mv (.c .sn)))⟩])
   (.live [0] (.seq (.seq (.region [⟨(some 3), none, (.op (.mv (.t 0)))⟩,
    ⟨(some 4), none, (.op (.bin .slice true .eql (.t 3) (.c .sn)))⟩])
   (.live [0, 4] (.cond (.t 4) (.seq (.region [⟨(some 2), none, (.op (.mv (.c .sn)))⟩])
   (.ret))
   (.skip))))
   (.live [0] (.seq (.region [⟨(some 5), none, (.op (.bslice [(.i .u8 0)] 0 []))⟩,
    ⟨(some 6), none, (.op (.mv (.t 0)))⟩,
    ⟨(some 7), none, (.op (.app 1 1 (.t 5) (.t 6)))⟩,
    ⟨(some 2), none, (.op (.mv (.t 7)))⟩])
   (.ret))))),
  []⟩


/- (*floodgate/script.source).policy -/
def c62l0 : ICode :=
  .seq (.region [⟨(some 34), none, (.op (.bin .int false .lss (.t 33) (.t 32)))⟩])
   (.live [0, 31, 2, 3, 32, 33, 34] (.seq (.cond (.t 34) (.skip)
   (.exit 0))
   (.live [0, 31, 2, 3, 32, 33] (.seq (.block 1 (.seq (.region [⟨(some 35), none, (.op (.iaddr none 1 (.t 31) (.t 33)))⟩,
    ⟨(some 36), none, (.op (.load none (.t 35)))⟩,
    ⟨(some 6), none, (.op (.mv (.t 36)))⟩])
   (.live [0, 31, 2, 3, 32, 33, 6] (.region [⟨(some 37), none, (.op (.mv (.t 6)))⟩,
    ⟨(some 38), none, (.op (.mv (.t 0)))⟩,
    ⟨(some 39), none, (.call 33 [(.t 38)])⟩,
    ⟨(some 40), none, (.op (.nilck (.t 37)))⟩,
    ⟨none, none, (.op (.store 1 (.t 40) (.t 39)))⟩]))))
   (.live [0, 31, 2, 3, 32, 33] (.region [⟨(some 41), none, (.op (.bin .int true .add (.t 33) (.c (.i .i64 1))))⟩,
    ⟨(some 33), none, (.op (.mv (.t 41)))⟩]))))))
def c62 : IFunc := ⟨1, [.cell 2 (some 13)],
  .seq (.region [⟨(some 2), none, (.op (.fresh [(.i .i64 0), (.i .u8 0), (.i .u8 0), (.i .u8 0), (.i .u8 0), (.i .i64 0), (.i .u64 0), (.i .u64 0), (.i .u64 0), (.i .u64 0), (.i .u64 0), (.i .u64 0), (.i .u64 0)]))⟩])
   (.live [0, 2] (.seq (.region [⟨(some 7), none, (.op (.mv (.t 0)))⟩,
    ⟨(some 8), none, (.call 32 [(.t 7)])⟩,
    ⟨(some 9), none, (.op (.build [(.i .i64 0), (.i .u8 0), (.i .u8 0), (.i .u8 0), (.i .u8 0), (.i .i64 0), (.i .u64 0), (.i .u64 0), (.i .u64 0), (.i .u64 0), (.i .u64 0), (.i .u64 0), (.i .u64 0)] [(0, 1, (.t 8))]))⟩,
    ⟨(some 3), none, (.op (.fresh [(.i .i64 0), (.i .u8 0), (.i .u8 0), (.i .u8 0), (.i .u8 0), (.i .i64 0), (.i .u64 0), (.i .u64 0), (.i .u64 0), (.i .u64 0), (.i .u64 0), (.i .u64 0), (.i .u64 0)]))⟩,
    ⟨none, none, (.op (.store 13 (.t 3) (.t 9)))⟩])
   (.live [0, 2, 3] (.seq (.region [⟨(some 10), none, (.op (.mv (.t 0)))⟩,
    ⟨(some 11), none, (.call 33 [(.t 10)])⟩,
    ⟨(some 4), none, (.op (.mv (.t 11)))⟩])
   (.live [0, 2, 3, 4] (.seq (.seq (.region [⟨(some 12), none, (.op (.mv (.t 4)))⟩,
    ⟨(some 13), none, (.op (.bin .int true .gtr (.t 12) (.c (.i .u64 4294967295))))⟩])
   (.live [0, 2, 3, 4, 13] (.cond (.t 13) (.region [⟨(some 14), none, (.op (.mv (.t 0)))⟩,
    ⟨(some 15), none, (.op (.nilck (.t 14)))⟩,
    ⟨(some 16), none, (.op (.faddr 1 (.t 15)))⟩,
    ⟨none, none, (.op (.store 1 (.t 16) (.c (.b true))))⟩])
   (.skip))))
   (.live [0, 2, 3, 4] (.seq (.region [⟨(some 17), none, (.op (.mv (.t 4)))⟩,
    ⟨(some 18), none, (.op (.toInt .u32 (.t 17)))⟩,
    ⟨(some 19), none, (.call 105 [(.t 18)])⟩,
    ⟨(some 20), none, (.op (.mv (.t 0)))⟩,
    ⟨(some 21), none, (.call 32 [(.t 20)])⟩,
    ⟨(some 22), none, (.op (.build [(.i .u8 0), (.i .u8 0), (.i .u8 0), (.i .u8 0), (.i .i64 0)] [(0, 4, (.t 19)), (4, 1, (.t 21))]))⟩,
    ⟨(some 23), none, (.op (.faddr 1 (.t 3)))⟩,
    ⟨none, none, (.op (.store 5 (.t 23) (.t 22)))⟩])
   (.live [0, 2, 3] (.seq (.seq (.region [⟨(some 24), none, (.op (.faddr 6 (.t 3)))⟩,
    ⟨(some 25), none, (.op (.faddr 7 (.t 3)))⟩,
    ⟨(some 26), none, (.op (.faddr 8 (.t 3)))⟩,
    ⟨(some 27), none, (.op (.faddr 9 (.t 3)))⟩,
    ⟨(some 28), none, (.op (.faddr 10 (.t 3)))⟩,
    ⟨(some 29), none, (.op (.faddr 11 (.t 3)))⟩,
    ⟨(some 30), none, (.op (.faddr 12 (.t 3)))⟩,
    ⟨(some 31), none, (.op (.bslice [.pn] 7 [(0, 1, (.t 24)), (1, 1, (.t 25)), (2, 1, (.t 26)), (3, 1, (.t 27)), (4, 1, (.t 28)), (5, 1, (.t 29)), (6, 1, (.t 30))]))⟩,
    ⟨(some 32), none, (.op (.len .slice (.t 31)))⟩,
    ⟨(some 33), none, (.op (.mv (.c (.i .i64 0))))⟩])
   (.live [0, 31, 2, 3, 32, 33] (.block 0 (.loop [0, 31, 2, 3, 32, 33] c62l0))))
   (.live [2, 3] (.seq (.region [⟨(some 42), none, (.op (.load (some 13) (.t 3)))⟩,
    ⟨none, none, (.op (.store 13 (.t 2) (.t 42)))⟩])
   (.ret))))))))))))),
  []⟩


/- floodgate/floodgateref02.Get -/
def c63l0 : ICode :=
  .seq (.seq (.region [⟨(some 24), none, (.op (.mv (.t 7)))⟩,
    ⟨(some 25), none, (.op (.bin .int true .geq (.t 24) (.c (.i .i64 0))))⟩])
   (.live [0, 5, 7, 6, 25] (.cond (.t 25) (.skip)
   (.exit 2))))
   (.live [0, 5, 7, 6] (.seq (.block 3 (.region [⟨(some 28), none, (.op (.mv (.t 6)))⟩,
    ⟨(some 29), none, (.op (.bin .int true .mul (.t 28) (.c (.i .u64 128))))⟩,
    ⟨(some 30), none, (.op (.mv (.t 0)))⟩,
    ⟨(some 31), none, (.op (.mv (.t 7)))⟩,
    ⟨(some 32), none, (.op (.iaddr none 1 (.t 30) (.t 31)))⟩,
    ⟨(some 33), none, (.op (.load none (.t 32)))⟩,
    ⟨(some 34), none, (.op (.bin .int true .rem (.t 33) (.c (.i .u8 128))))⟩,
    ⟨(some 35), none, (.op (.toInt .u64 (.t 34)))⟩,
    ⟨(some 36), none, (.op (.bin .int false .add (.t 29) (.t 35)))⟩,
    ⟨(some 6), none, (.op (.mv (.t 36)))⟩]))
   (.live [0, 5, 6, 7] (.region [⟨(some 26), none, (.op (.mv (.t 7)))⟩,
    ⟨(some 27), none, (.op (.bin .int true .sub (.t 26) (.c (.i .i64 1))))⟩,
    ⟨(some 7), none, (.op (.mv (.t 27)))⟩]))))
def c63d1 : List Stage :=
  [⟨[(⟨(some 37), none, (.op (.mv (.t 6)))⟩, 0), (⟨(some 40), none, (.op (.mv (.t 0)))⟩, 1), (⟨(some 41), none, (.op (.mv (.t 5)))⟩, 1), (⟨(some 42), none, (.op (.bin .int true .add (.t 41) (.c (.i .i64 1))))⟩, 1), (⟨(some 43), none, (.op (.slice 1 (.t 40) none (some (.t 42)) none))⟩, 1), (⟨(some 44), none, (.op (.toStr (.t 43)))⟩, 1)], none, some ⟨(some 38), none, (.call 55 [(.t 37)])⟩⟩,
    ⟨[(⟨(some 39), none, (.op (.toStr (.t 38)))⟩, 1), (⟨(some 45), none, (.op (.bin .str false .neq (.t 39) (.t 44)))⟩, 1)], none, none⟩]
def c63d1w : List (ROp × Bool) :=
  [(⟨(some 37), none, (.op (.mv (.t 6)))⟩, false), (⟨(some 40), none, (.op (.mv (.t 0)))⟩, false), (⟨(some 41), none, (.op (.mv (.t 5)))⟩, false), (⟨(some 42), none, (.op (.bin .int true .add (.t 41) (.c (.i .i64 1))))⟩, false), (⟨(some 43), none, (.op (.slice 1 (.t 40) none (some (.t 42)) none))⟩, false), (⟨(some 44), none, (.op (.toStr (.t 43)))⟩, false), (⟨(some 38), none, (.call 55 [(.t 37)])⟩, true), (⟨(some 39), none, (.op (.toStr (.t 38)))⟩, false), (⟨(some 45), none, (.op (.bin .str false .neq (.t 39) (.t 44)))⟩, false)]
theorem c63d1_w {P : Program} {O : Orc} {S0 : Mem} {rd : Bool} {e : Env} {S : Mem} {d : List Nat} {Q : Kont} : W P O S0 rd (.draw c63d1 []) e S d Q = wFl O c63d1w e S (normK Q d) := W_draw' (by kernel_rfl) (by kernel_rfl)
attribute [go_sem] c63d1_w c63d1w
def c63l2 : ICode :=
  .seq (.seq (.region [⟨(some 8), none, (.op (.mv (.t 5)))⟩,
    ⟨(some 9), none, (.op (.mv (.t 0)))⟩,
    ⟨(some 10), none, (.op (.len .slice (.t 9)))⟩,
    ⟨(some 11), none, (.op (.bin .int false .lss (.t 8) (.t 10)))⟩,
    ⟨(some 12), none, (.op (.mv (.t 11)))⟩,
    ⟨(some 13), some (12, true), (.op (.mv (.t 5)))⟩,
    ⟨(some 14), some (12, true), (.op (.bin .int true .lss (.t 13) (.c (.i .i64 10))))⟩,
    ⟨(some 15), none, (.op (.pick (.t 12) (.t 14) (.c (.b false))))⟩])
   (.live [0, 5, 15] (.cond (.t 15) (.skip)
   (.exit 0))))
   (.live [0, 5] (.seq (.block 1 (.seq (.seq (.region [⟨(some 18), none, (.op (.mv (.t 0)))⟩,
    ⟨(some 19), none, (.op (.mv (.t 5)))⟩,
    ⟨(some 20), none, (.op (.iaddr none 1 (.t 18) (.t 19)))⟩,
    ⟨(some 21), none, (.op (.load none (.t 20)))⟩,
    ⟨(some 22), none, (.op (.bin .int true .geq (.t 21) (.c (.i .u8 128))))⟩])
   (.live [0, 5, 22] (.cond (.t 22) (.exit 1)
   (.skip))))
   (.live [0, 5] (.seq (.region [⟨(some 6), none, (.op (.mv (.c (.i .u64 0))))⟩])
   (.live [0, 5, 6] (.seq (.seq (.region [⟨(some 23), none, (.op (.mv (.t 5)))⟩,
    ⟨(some 7), none, (.op (.mv (.t 23)))⟩])
   (.live [0, 5, 7, 6] (.block 2 (.loop [0, 5, 7, 6] c63l0))))
   (.live [5, 6, 0] (.seq (.seq (.draw c63d1 [])
   (.live [5, 6, 45] (.cond (.t 45) (.seq (.region [⟨(some 2), none, (.op (.mv (.c (.i .u64 0))))⟩,
    ⟨(some 3), none, (.op (.mv (.c (.i .i64 0))))⟩,
    ⟨(some 4), none, (.op (.mv (.c (.i .i64 21))))⟩])
   (.ret))
   (.skip))))
   (.live [5, 6] (.seq (.region [⟨(some 46), none, (.op (.mv (.t 6)))⟩,
    ⟨(some 47), none, (.op (.mv (.t 5)))⟩,
    ⟨(some 48), none, (.op (.bin .int true .add (.t 47) (.c (.i .i64 1))))⟩,
    ⟨(some 2), none, (.op (.mv (.t 46)))⟩,
    ⟨(some 3), none, (.op (.mv (.t 48)))⟩,
    ⟨(some 4), none, (.op (.mv (.c (.i .i64 0))))⟩])
   (.ret)))))))))))
   (.live [0, 5] (.region [⟨(some 16), none, (.op (.mv (.t 5)))⟩,
    ⟨(some 17), none, (.op (.bin .int true .add (.t 16) (.c (.i .i64 1))))⟩,
    ⟨(some 5), none, (.op (.mv (.t 17)))⟩]))))
def c63 : IFunc := ⟨1, [.tmp 2, .tmp 3, .tmp 4],
  .seq (.region [⟨(some 2), none, (.op (.mv (.c (.i .u64 0))))⟩,
    ⟨(some 3), none, (.op (.mv (.c (.i .i64 0))))⟩,
    ⟨(some 4), none, (.op (.mv (.c (.i .i64 0))))⟩])
   (.live [0] (.seq (.seq (.region [⟨(some 5), none, (.op (.mv (.c (.i .i64 0))))⟩])
   (.live [0, 5] (.block 0 (.loop [0, 5] c63l2))))
   (.live [] (.seq (.region [⟨(some 2), none, (.op (.mv (.c (.i .u64 0))))⟩,
    ⟨(some 3), none, (.op (.mv (.c (.i .i64 0))))⟩,
    ⟨(some 4), none, (.op (.mv (.c (.i .i64 21))))⟩])
   (.ret))))),
  []⟩


/- floodgate/floodgateref04.Of -/

def c64 : IFunc := ⟨1, [.cell 2 (some 4)],
  .seq (.region [⟨(some 2), none, (.op (.fresh [(.i .u8 0), (.i .u8 0), (.i .u8 0), (.i .u8 0)]))⟩])
   (.live [2, 0] (.seq (.region [⟨(some 3), none, (.op (.mv (.t 0)))⟩,
    ⟨(some 4), none, (.op (.bin .int true .quo (.t 3) (.c (.i .u32 16777216))))⟩,
    ⟨(some 5), none, (.op (.toInt .u8 (.t 4)))⟩,
    ⟨(some 6), none, (.op (.mv (.t 0)))⟩,
    ⟨(some 7), none, (.op (.bin .int true .quo (.t 6) (.c (.i .u32 65536))))⟩,
    ⟨(some 8), none, (.op (.bin .int true .rem (.t 7) (.c (.i .u32 256))))⟩,
    ⟨(some 9), none, (.op (.toInt .u8 (.t 8)))⟩,
    ⟨(some 10), none, (.op (.mv (.t 0)))⟩,
    ⟨(some 11), none, (.op (.bin .int true .quo (.t 10) (.c (.i .u32 256))))⟩,
    ⟨(some 12), none, (.op (.bin .int true .rem (.t 11) (.c (.i .u32 256))))⟩,
    ⟨(some 13), none, (.op (.toInt .u8 (.t 12)))⟩,
    ⟨(some 14), none, (.op (.mv (.t 0)))⟩,
    ⟨(some 15), none, (.op (.bin .int true .rem (.t 14) (.c (.i .u32 256))))⟩,
    ⟨(some 16), none, (.op (.toInt .u8 (.t 15)))⟩,
    ⟨(some 17), none, (.op (.build [(.i .u8 0), (.i .u8 0), (.i .u8 0), (.i .u8 0)] [(0, 1, (.t 5)), (1, 1, (.t 9)), (2, 1, (.t 13)), (3, 1, (.t 16))]))⟩,
    ⟨none, none, (.op (.store 4 (.t 2) (.t 17)))⟩])
   (.ret))),
  []⟩


/- slices.IndexFunc[[]floodgate/api.Op,floodgate/api.Op] -/
def c65l0 : ICode :=
  .seq (.region [⟨(some 9), none, (.op (.bin .int false .lss (.t 8) (.t 7)))⟩])
   (.live [0, 1, 7, 8, 9] (.seq (.cond (.t 9) (.skip)
   (.exit 0))
   (.live [0, 1, 7, 8] (.seq (.block 1 (.seq (.region [⟨(some 10), none, (.op (.mv (.t 8)))⟩,
    ⟨(some 5), none, (.op (.mv (.t 10)))⟩])
   (.live [5, 0, 1, 7, 8] (.seq (.region [⟨(some 11), none, (.op (.mv (.t 1)))⟩,
    ⟨(some 12), none, (.op (.mv (.t 0)))⟩,
    ⟨(some 13), none, (.op (.mv (.t 5)))⟩,
    ⟨(some 14), none, (.op (.iaddr none 19 (.t 12) (.t 13)))⟩,
    ⟨(some 15), none, (.op (.load (some 19) (.t 14)))⟩,
    ⟨(some 16), none, (.callv (.t 11) [(.t 15)])⟩])
   (.live [5, 0, 1, 7, 8, 16] (.cond (.t 16) (.seq (.region [⟨(some 17), none, (.op (.mv (.t 5)))⟩,
    ⟨(some 4), none, (.op (.mv (.t 17)))⟩])
   (.ret))
   (.skip)))))))
   (.live [0, 1, 7, 8] (.region [⟨(some 18), none, (.op (.bin .int true .add (.t 8) (.c (.i .i64 1))))⟩,
    ⟨(some 8), none, (.op (.mv (.t 18)))⟩]))))))
def c65 : IFunc := ⟨2, [.tmp 4],
  .seq (.region [⟨(some 4), none, (.op (.mv (.c (.i .i64 0))))⟩])
   (.live [0, 1] (.seq (.seq (.region [⟨(some 6), none, (.op (.mv (.t 0)))⟩,
    ⟨(some 7), none, (.op (.len .slice (.t 6)))⟩,
    ⟨(some 8), none, (.op (.mv (.c (.i .i64 0))))⟩])
   (.live [0, 1, 7, 8] (.block 0 (.loop [0, 1, 7, 8] c65l0))))
   (.live [] (.seq (.region [⟨(some 4), none, (.op (.mv (.c (.i .i64 (-1)))))⟩])
   (.ret))))),
  []⟩


/- slices.Grow[[]byte,byte] -/

def c66 : IFunc := ⟨2, [.tmp 4],
  .seq (.region [⟨(some 4), none, (.op (.mv (.c .sn)))⟩])
   (.live [0, 1] (.seq (.seq (.region [⟨(some 5), none, (.op (.mv (.t 1)))⟩,
    ⟨(some 6), none, (.op (.bin .int true .lss (.t 5) (.c (.i .i64 0))))⟩])
   (.live [0, 1, 6] (.cond (.t 6) (.region [⟨(some 7), none, (.op (.bad))⟩,
    ⟨none, none, (.op (.bad))⟩])
   (.skip))))
   (.live [0, 1] (.seq (.seq (.region [⟨(some 8), none, (.op (.mv (.t 1)))⟩,
    ⟨(some 9), none, (.op (.mv (.t 0)))⟩,
    ⟨(some 10), none, (.op (.cap (.t 9)))⟩,
    ⟨(some 11), none, (.op (.mv (.t 0)))⟩,
    ⟨(some 12), none, (.op (.len .slice (.t 11)))⟩,
    ⟨(some 13), none, (.op (.bin .int false .sub (.t 10) (.t 12)))⟩,
    ⟨(some 14), none, (.op (.bin .int false .sub (.t 8) (.t 13)))⟩,
    ⟨(some 1), none, (.op (.mv (.t 14)))⟩])
   (.live [0, 1] (.seq (.region [⟨(some 15), none, (.op (.mv (.t 1)))⟩,
    ⟨(some 16), none, (.op (.bin .int true .gtr (.t 15) (.c (.i .i64 0))))⟩])
   (.live [0, 1, 16] (.cond (.t 16) (.region [⟨(some 17), none, (.op (.mv (.t 0)))⟩,
    ⟨(some 18), none, (.op (.mv (.t 0)))⟩,
    ⟨(some 19), none, (.op (.cap (.t 18)))⟩,
    ⟨(some 20), none, (.op (.slice 1 (.t 17) none (some (.t 19)) none))⟩,
    ⟨(some 21), none, (.op (.mv (.t 1)))⟩,
    ⟨(some 22), none, (.op (.appz [(.i .u8 0)] 1 (.t 20) (.t 21)))⟩,
    ⟨(some 23), none, (.op (.mv (.t 0)))⟩,
    ⟨(some 24), none, (.op (.len .slice (.t 23)))⟩,
    ⟨(some 25), none, (.op (.slice 1 (.t 22) none (some (.t 24)) none))⟩,
    ⟨(some 0), none, (.op (.mv (.t 25)))⟩])
   (.skip))))))
   (.live [0] (.seq (.region [⟨(some 26), none, (.op (.mv (.t 0)))⟩,
    ⟨(some 4), none, (.op (.mv (.t 26)))⟩])
   (.ret))))))),
  []⟩


/- floodgate/gate.right -/

def c67 : IFunc := ⟨1, [.tmp 2],
  .seq (.region [⟨(some 1), none, (.op (.box (.t 0)))⟩,
    ⟨(some 2), none, (.op (.mv (.c (.b false))))⟩])
   (.live [1] (.seq (.region [⟨(some 6), none, (.op (.faddr 0 (.t 1)))⟩,
    ⟨(some 7), none, (.op (.load none (.t 6)))⟩,
    ⟨(some 8), none, (.call 106 [(.t 7)])⟩,
    ⟨(some 5), none, (.op (.mv (.t 8)))⟩,
    ⟨(some 9), none, (.op (.ext (.t 5) 0))⟩,
    ⟨(some 10), none, (.op (.ext (.t 5) 1))⟩,
    ⟨(some 3), none, (.op (.mv (.t 9)))⟩,
    ⟨(some 4), none, (.op (.mv (.t 10)))⟩])
   (.live [1, 4] (.seq (.region [⟨(some 11), none, (.op (.mv (.t 4)))⟩,
    ⟨(some 12), none, (.op (.bin .int true .eql (.t 11) (.c (.i .i64 0))))⟩,
    ⟨(some 13), none, (.op (.mv (.t 12)))⟩,
    ⟨(some 14), some (13, true), (.op (.faddr 1 (.t 1)))⟩,
    ⟨(some 15), some (13, true), (.op (.load none (.t 14)))⟩,
    ⟨(some 16), some (13, true), (.op (.bin .int true .geq (.t 15) (.c (.i .i64 1))))⟩,
    ⟨(some 17), none, (.op (.pick (.t 13) (.t 16) (.c (.b false))))⟩,
    ⟨(some 18), none, (.op (.mv (.t 17)))⟩,
    ⟨(some 19), some (18, true), (.op (.faddr 1 (.t 1)))⟩,
    ⟨(some 20), some (18, true), (.op (.load none (.t 19)))⟩,
    ⟨(some 21), some (18, true), (.op (.bin .int true .leq (.t 20) (.c (.i .i64 64))))⟩,
    ⟨(some 22), none, (.op (.pick (.t 18) (.t 21) (.c (.b false))))⟩,
    ⟨(some 23), none, (.op (.mv (.t 22)))⟩,
    ⟨(some 24), some (23, true), (.op (.faddr 2 (.t 1)))⟩,
    ⟨(some 25), some (23, true), (.op (.load none (.t 24)))⟩,
    ⟨(some 26), some (23, true), (.op (.bin .int true .geq (.t 25) (.c (.i .u64 1))))⟩,
    ⟨(some 27), none, (.op (.pick (.t 23) (.t 26) (.c (.b false))))⟩,
    ⟨(some 28), none, (.op (.mv (.t 27)))⟩,
    ⟨(some 29), some (28, true), (.op (.faddr 2 (.t 1)))⟩,
    ⟨(some 30), some (28, true), (.op (.load none (.t 29)))⟩,
    ⟨(some 31), some (28, true), (.op (.bin .int true .leq (.t 30) (.c (.i .u64 281474976710656))))⟩,
    ⟨(some 32), none, (.op (.pick (.t 28) (.t 31) (.c (.b false))))⟩,
    ⟨(some 2), none, (.op (.mv (.t 32)))⟩])
   (.ret))))),
  []⟩


/- floodgate/disk.New -/

def c68 : IFunc := ⟨1, [.tmp 2],
  .seq (.region [⟨(some 2), none, (.op (.mv (.c .pn)))⟩])
   (.live [0] (.seq (.region [⟨(some 3), none, (.op (.mv (.t 0)))⟩,
    ⟨(some 4), none, (.op (.mm false [(.t 3), (.c (.i .i64 512))]))⟩,
    ⟨(some 5), none, (.op (.mm true [(.c (.i .i64 0)), (.t 4)]))⟩,
    ⟨(some 6), none, (.op (.mks [(.i .u8 0), (.i .u8 0), (.i .u8 0), (.i .u8 0), (.i .u8 0), (.i .u8 0), (.i .u8 0), (.i .u8 0), (.i .u8 0), (.i .u8 0), (.i .u8 0), (.i .u8 0), (.i .u8 0), (.i .u8 0), (.i .u8 0), (.i .u8 0), (.i .u8 0), (.i .u8 0), (.i .u8 0), (.i .u8 0), (.i .u8 0), (.i .u8 0), (.i .u8 0), (.i .u8 0), (.i .u8 0), (.i .u8 0), (.i .u8 0), (.i .u8 0), (.i .u8 0), (.i .u8 0), (.i .u8 0), (.i .u8 0), (.i .u8 0), (.i .u8 0), (.i .u8 0), (.i .u8 0), (.i .u8 0), (.i .u8 0), (.i .u8 0), (.i .u8 0), (.i .u8 0), (.i .u8 0), (.i .u8 0), (.i .u8 0), (.i .u8 0), (.i .u8 0), (.i .u8 0), (.i .u8 0), (.i .u8 0), (.i .u8 0), (.i .u8 0), (.i .u8 0), (.i .u8 0), (.i .u8 0), (.i .u8 0), (.i .u8 0), (.i .u8 0), (.i .u8 0), (.i .u8 0), (.i .u8 0), (.i .u8 0), (.i .u8 0), (.i .u8 0), (.i .u8 0)] 64 (.t 5) (.t 5)))⟩,
    ⟨(some 7), none, (.op (.build [.sn, .sn, (.i .i64 0), (.b false)] [(0, 1, (.t 6)), (2, 1, (.c (.i .i64 (-1))))]))⟩,
    ⟨(some 8), none, (.op (.box (.t 7)))⟩,
    ⟨(some 2), none, (.op (.mv (.t 8)))⟩])
   (.ret))),
  []⟩


/- floodgate/vault.Format -/

def c69 : IFunc := ⟨1, [.tmp 2, .tmp 3],
  .seq (.region [⟨(some 2), none, (.op (.mv (.c .pn)))⟩,
    ⟨(some 3), none, (.op (.mv (.c (.i .i64 0))))⟩])
   (.live [0] (.seq (.seq (.region [⟨(some 7), none, (.op (.mv (.t 0)))⟩,
    ⟨(some 8), none, (.call 107 [(.t 7)])⟩,
    ⟨(some 9), none, (.call 106 [(.t 8)])⟩,
    ⟨(some 6), none, (.op (.mv (.t 9)))⟩,
    ⟨(some 10), none, (.op (.ext (.t 6) 0))⟩,
    ⟨(some 11), none, (.op (.ext (.t 6) 1))⟩,
    ⟨(some 4), none, (.op (.mv (.t 10)))⟩,
    ⟨(some 5), none, (.op (.mv (.t 11)))⟩])
   (.live [5, 0] (.seq (.region [⟨(some 12), none, (.op (.mv (.t 5)))⟩,
    ⟨(some 13), none, (.op (.bin .int true .neq (.t 12) (.c (.i .i64 0))))⟩])
   (.live [5, 0, 13] (.cond (.t 13) (.seq (.region [⟨(some 14), none, (.op (.mv (.t 5)))⟩,
    ⟨(some 2), none, (.op (.mv (.c .pn)))⟩,
    ⟨(some 3), none, (.op (.mv (.t 14)))⟩])
   (.ret))
   (.skip))))))
   (.live [0] (.seq (.region [⟨(some 15), none, (.op (.mv (.t 0)))⟩,
    ⟨(some 16), none, (.op (.build [(.i .u64 0), .sn] [(0, 1, (.c (.i .u64 1)))]))⟩,
    ⟨(some 17), none, (.op (.build [(.i .u64 0), (.i .u32 0), (.i .u64 0), (.i .i64 0), (.i .u64 0), .sn] [(0, 1, (.c (.i .u64 1))), (1, 1, (.c (.i .u32 1))), (2, 1, (.c (.i .u64 1))), (4, 2, (.t 16))]))⟩,
    ⟨(some 18), none, (.call 108 [(.t 15), (.t 17)])⟩,
    ⟨(some 19), none, (.op (.ext (.t 18) 0))⟩,
    ⟨(some 20), none, (.op (.ext (.t 18) 1))⟩,
    ⟨(some 2), none, (.op (.mv (.t 19)))⟩,
    ⟨(some 3), none, (.op (.mv (.t 20)))⟩])
   (.ret))))),
  []⟩


/- (*floodgate/gate.Gate).up -/
def c70l0 : ICode :=
  .seq (.region [⟨(some 35), none, (.op (.bin .int false .lss (.t 34) (.t 33)))⟩])
   (.live [0, 32, 33, 34, 35] (.seq (.cond (.t 35) (.skip)
   (.exit 0))
   (.live [0, 32, 33, 34] (.seq (.block 1 (.seq (.region [⟨(some 36), none, (.op (.iaddr none 14 (.t 32) (.t 34)))⟩,
    ⟨(some 37), none, (.op (.load (some 14) (.t 36)))⟩,
    ⟨(some 6), none, (.op (.fresh [(.i .i64 0), (.i .u8 0), (.i .u8 0), (.i .u8 0), (.i .u8 0), (.i .i64 0), (.i .u64 0), (.i .u64 0), (.i .u64 0), (.i .u64 0), (.i .u64 0), (.i .u64 0), (.i .u64 0), (.i .u64 0)]))⟩,
    ⟨none, none, (.op (.store 14 (.t 6) (.t 37)))⟩])
   (.live [0, 32, 33, 34, 6] (.seq (.region [⟨(some 38), none, (.op (.mv (.t 0)))⟩,
    ⟨(some 39), none, (.op (.load (some 14) (.t 6)))⟩,
    ⟨(some 40), none, (.call 111 [(.t 38), (.t 39)])⟩,
    ⟨(some 7), none, (.op (.mv (.t 40)))⟩])
   (.live [7, 0, 32, 33, 34] (.seq (.region [⟨(some 41), none, (.op (.mv (.t 7)))⟩,
    ⟨(some 42), none, (.op (.bin .int true .neq (.t 41) (.c (.i .i64 0))))⟩])
   (.live [7, 0, 32, 33, 34, 42] (.cond (.t 42) (.seq (.region [⟨(some 43), none, (.op (.mv (.t 7)))⟩,
    ⟨(some 4), none, (.op (.mv (.t 43)))⟩])
   (.ret))
   (.skip)))))))))
   (.live [0, 32, 33, 34] (.region [⟨(some 44), none, (.op (.bin .int true .add (.t 34) (.c (.i .i64 1))))⟩,
    ⟨(some 34), none, (.op (.mv (.t 44)))⟩]))))))
def c70 : IFunc := ⟨2, [.tmp 4],
  .seq (.region [⟨(some 4), none, (.op (.mv (.c (.i .i64 0))))⟩])
   (.live [0, 1] (.seq (.region [⟨(some 8), none, (.op (.mv (.t 0)))⟩,
    ⟨(some 9), none, (.op (.mv (.t 0)))⟩,
    ⟨(some 10), none, (.op (.mv (.t 0)))⟩,
    ⟨(some 11), none, (.op (.mv (.t 1)))⟩,
    ⟨(some 12), none, (.op (.nilck (.t 8)))⟩,
    ⟨(some 13), none, (.op (.faddr 4 (.t 12)))⟩,
    ⟨none, none, (.op (.store 1 (.t 13) (.t 11)))⟩,
    ⟨(some 14), none, (.op (.nilck (.t 9)))⟩,
    ⟨(some 15), none, (.op (.faddr 8 (.t 14)))⟩,
    ⟨none, none, (.op (.store 1 (.t 15) (.c (.i .u64 0))))⟩,
    ⟨(some 16), none, (.op (.nilck (.t 10)))⟩,
    ⟨(some 17), none, (.op (.faddr 9 (.t 16)))⟩,
    ⟨none, none, (.op (.store 1 (.t 17) (.c .pn)))⟩])
   (.live [0, 1] (.seq (.region [⟨(some 18), none, (.op (.mv (.t 0)))⟩,
    ⟨(some 19), none, (.op (.mv (.t 0)))⟩,
    ⟨(some 20), none, (.op (.mv (.t 0)))⟩,
    ⟨(some 21), none, (.op (.mkmap none))⟩,
    ⟨(some 22), none, (.call 109 [])⟩,
    ⟨(some 23), none, (.call 110 [])⟩,
    ⟨(some 24), none, (.op (.nilck (.t 18)))⟩,
    ⟨(some 25), none, (.op (.faddr 5 (.t 24)))⟩,
    ⟨none, none, (.op (.store 1 (.t 25) (.t 21)))⟩,
    ⟨(some 26), none, (.op (.nilck (.t 19)))⟩,
    ⟨(some 27), none, (.op (.faddr 6 (.t 26)))⟩,
    ⟨none, none, (.op (.store 1 (.t 27) (.t 22)))⟩,
    ⟨(some 28), none, (.op (.nilck (.t 20)))⟩,
    ⟨(some 29), none, (.op (.faddr 7 (.t 28)))⟩,
    ⟨none, none, (.op (.store 1 (.t 29) (.t 23)))⟩])
   (.live [0, 1] (.seq (.seq (.region [⟨(some 30), none, (.op (.mv (.t 1)))⟩,
    ⟨(some 31), none, (.call 79 [(.t 30)])⟩,
    ⟨(some 32), none, (.op (.fld 1 none (.t 31)))⟩,
    ⟨(some 33), none, (.op (.len .slice (.t 32)))⟩,
    ⟨(some 34), none, (.op (.mv (.c (.i .i64 0))))⟩])
   (.live [0, 32, 33, 34] (.block 0 (.loop [0, 32, 33, 34] c70l0))))
   (.live [] (.seq (.region [⟨(some 4), none, (.op (.mv (.c (.i .i64 0))))⟩])
   (.ret))))))))),
  []⟩


/- (*floodgate/gate.Gate).Down -/

def c71 : IFunc := ⟨1, [.tmp 2],
  .seq (.region [⟨(some 2), none, (.op (.mv (.c (.b false))))⟩])
   (.live [0] (.seq (.region [⟨(some 3), none, (.op (.mv (.t 0)))⟩,
    ⟨(some 4), none, (.op (.nilck (.t 3)))⟩,
    ⟨(some 5), none, (.op (.faddr 4 (.t 4)))⟩,
    ⟨(some 6), none, (.op (.load none (.t 5)))⟩,
    ⟨(some 7), none, (.op (.bin .ptr true .eql (.t 6) (.c .pn)))⟩,
    ⟨(some 2), none, (.op (.mv (.t 7)))⟩])
   (.ret))),
  []⟩


/- (*floodgate/vault.Vault).Book -/
def c79d0 : List Stage :=
  [⟨[(⟨(some 3), none, (.op (.mv (.t 0)))⟩, 1), (⟨(some 4), none, (.op (.nilck (.t 3)))⟩, 1), (⟨(some 5), none, (.op (.faddr 2 (.t 4)))⟩, 1), (⟨(some 6), none, (.op (.faddr 4 (.t 5)))⟩, 1), (⟨(some 7), none, (.op (.faddr 0 (.t 6)))⟩, 1), (⟨(some 8), none, (.op (.load none (.t 7)))⟩, 1), (⟨(some 9), none, (.op (.mv (.t 0)))⟩, 0), (⟨(some 10), none, (.op (.nilck (.t 9)))⟩, 0), (⟨(some 11), none, (.op (.faddr 2 (.t 10)))⟩, 0), (⟨(some 12), none, (.op (.faddr 4 (.t 11)))⟩, 0), (⟨(some 13), none, (.op (.faddr 1 (.t 12)))⟩, 0), (⟨(some 14), none, (.op (.load none (.t 13)))⟩, 0)], none, some ⟨(some 15), none, (.call 124 [(.t 14)])⟩⟩,
    ⟨[(⟨(some 16), none, (.op (.build [(.i .u64 0), .sn] [(0, 1, (.t 8)), (1, 1, (.t 15))]))⟩, 1)], none, some ⟨none, none, (.op (.store 2 (.t 2) (.t 16)))⟩⟩,
    ⟨[], none, none⟩]
def c79d0w : List (ROp × Bool) :=
  [(⟨(some 3), none, (.op (.mv (.t 0)))⟩, false), (⟨(some 4), none, (.op (.nilck (.t 3)))⟩, false), (⟨(some 5), none, (.op (.faddr 2 (.t 4)))⟩, false), (⟨(some 6), none, (.op (.faddr 4 (.t 5)))⟩, false), (⟨(some 7), none, (.op (.faddr 0 (.t 6)))⟩, false), (⟨(some 8), none, (.op (.load none (.t 7)))⟩, false), (⟨(some 9), none, (.op (.mv (.t 0)))⟩, false), (⟨(some 10), none, (.op (.nilck (.t 9)))⟩, false), (⟨(some 11), none, (.op (.faddr 2 (.t 10)))⟩, false), (⟨(some 12), none, (.op (.faddr 4 (.t 11)))⟩, false), (⟨(some 13), none, (.op (.faddr 1 (.t 12)))⟩, false), (⟨(some 14), none, (.op (.load none (.t 13)))⟩, false), (⟨(some 15), none, (.call 124 [(.t 14)])⟩, true), (⟨(some 16), none, (.op (.build [(.i .u64 0), .sn] [(0, 1, (.t 8)), (1, 1, (.t 15))]))⟩, false), (⟨none, none, (.op (.store 2 (.t 2) (.t 16)))⟩, false)]
theorem c79d0_w {P : Program} {O : Orc} {S0 : Mem} {rd : Bool} {e : Env} {S : Mem} {d : List Nat} {Q : Kont} : W P O S0 rd (.draw c79d0 []) e S d Q = wFl O c79d0w e S (normK Q d) := W_draw' (by kernel_rfl) (by kernel_rfl)
attribute [go_sem] c79d0_w c79d0w
def c79 : IFunc := ⟨1, [.cell 2 (some 2)],
  .seq (.region [⟨(some 2), none, (.op (.fresh [(.i .u64 0), .sn]))⟩])
   (.live [2, 0] (.seq (.draw c79d0 [])
   (.ret))),
  []⟩


/- (*floodgate/vault.Vault).Left -/

def c92 : IFunc := ⟨1, [.tmp 2],
  .seq (.region [⟨(some 2), none, (.op (.mv (.c (.i .i64 0))))⟩])
   (.live [0] (.seq (.region [⟨(some 3), none, (.op (.mv (.t 0)))⟩,
    ⟨(some 4), none, (.op (.nilck (.t 3)))⟩,
    ⟨(some 5), none, (.op (.faddr 1 (.t 4)))⟩,
    ⟨(some 6), none, (.op (.load none (.t 5)))⟩,
    ⟨(some 7), none, (.call 138 [(.t 6)])⟩,
    ⟨(some 2), none, (.op (.mv (.t 7)))⟩])
   (.ret))),
  []⟩


/- floodgate/leb.Size -/

def c104 : IFunc := ⟨1, [.tmp 2],
  .seq (.region [⟨(some 2), none, (.op (.mv (.c (.i .i64 0))))⟩])
   (.live [0] (.seq (.region [⟨(some 3), none, (.op (.mv (.t 0)))⟩,
    ⟨(some 4), none, (.call 148 [(.t 3)])⟩,
    ⟨(some 5), none, (.op (.bin .int true .add (.t 4) (.c (.i .i64 7))))⟩,
    ⟨(some 6), none, (.op (.bin .int true .sub (.t 5) (.c (.i .i64 1))))⟩,
    ⟨(some 7), none, (.op (.bin .int true .quo (.t 6) (.c (.i .i64 7))))⟩,
    ⟨(some 8), none, (.op (.mm true [(.c (.i .i64 1)), (.t 7)]))⟩,
    ⟨(some 2), none, (.op (.mv (.t 8)))⟩])
   (.ret))),
  []⟩


/- floodgate/addr.Of -/

def c105 : IFunc := ⟨1, [.cell 2 (some 4)],
  .seq (.region [⟨(some 2), none, (.op (.fresh [(.i .u8 0), (.i .u8 0), (.i .u8 0), (.i .u8 0)]))⟩])
   (.live [2, 0] (.seq (.region [⟨(some 3), none, (.op (.mv (.t 0)))⟩,
    ⟨(some 4), none, (.op (.bin .int true .shr (.t 3) (.c (.i .u64 24))))⟩,
    ⟨(some 5), none, (.op (.toInt .u8 (.t 4)))⟩,
    ⟨(some 6), none, (.op (.mv (.t 0)))⟩,
    ⟨(some 7), none, (.op (.bin .int true .shr (.t 6) (.c (.i .u64 16))))⟩,
    ⟨(some 8), none, (.op (.toInt .u8 (.t 7)))⟩,
    ⟨(some 9), none, (.op (.mv (.t 0)))⟩,
    ⟨(some 10), none, (.op (.bin .int true .shr (.t 9) (.c (.i .u64 8))))⟩,
    ⟨(some 11), none, (.op (.toInt .u8 (.t 10)))⟩,
    ⟨(some 12), none, (.op (.mv (.t 0)))⟩,
    ⟨(some 13), none, (.op (.toInt .u8 (.t 12)))⟩,
    ⟨(some 14), none, (.op (.build [(.i .u8 0), (.i .u8 0), (.i .u8 0), (.i .u8 0)] [(0, 1, (.t 5)), (1, 1, (.t 8)), (2, 1, (.t 11)), (3, 1, (.t 13))]))⟩,
    ⟨none, none, (.op (.store 4 (.t 2) (.t 14)))⟩])
   (.ret))),
  []⟩


/- floodgate/area.Segs -/

def c106 : IFunc := ⟨1, [.tmp 2, .tmp 3],
  .seq (.region [⟨(some 2), none, (.op (.mv (.c (.i .i64 0))))⟩,
    ⟨(some 3), none, (.op (.mv (.c (.i .i64 0))))⟩])
   (.live [0] (.seq (.seq (.region [⟨(some 4), none, (.op (.mv (.t 0)))⟩,
    ⟨(some 5), none, (.op (.bin .int true .lss (.t 4) (.c (.i .i64 64))))⟩,
    ⟨(some 6), none, (.op (.mv (.t 5)))⟩,
    ⟨(some 7), some (6, false), (.op (.mv (.t 0)))⟩,
    ⟨(some 8), some (6, false), (.op (.bin .int true .gtr (.t 7) (.c (.i .i64 512))))⟩,
    ⟨(some 9), none, (.op (.pick (.t 6) (.c (.b true)) (.t 8)))⟩])
   (.live [0, 9] (.cond (.t 9) (.seq (.region [⟨(some 2), none, (.op (.mv (.c (.i .i64 0))))⟩,
    ⟨(some 3), none, (.op (.mv (.c (.i .i64 91))))⟩])
   (.ret))
   (.skip))))
   (.live [0] (.seq (.region [⟨(some 10), none, (.op (.mv (.t 0)))⟩,
    ⟨(some 11), none, (.op (.bin .int true .sub (.t 10) (.c (.i .i64 32))))⟩,
    ⟨(some 12), none, (.op (.bin .int true .quo (.t 11) (.c (.i .i64 16))))⟩,
    ⟨(some 2), none, (.op (.mv (.t 12)))⟩,
    ⟨(some 3), none, (.op (.mv (.c (.i .i64 0))))⟩])
   (.ret))))),
  []⟩


/- (*floodgate/disk.Disk).Len -/

def c107 : IFunc := ⟨1, [.tmp 2],
  .seq (.region [⟨(some 2), none, (.op (.mv (.c (.i .i64 0))))⟩])
   (.live [0] (.seq (.region [⟨(some 3), none, (.op (.mv (.t 0)))⟩,
    ⟨(some 4), none, (.op (.nilck (.t 3)))⟩,
    ⟨(some 5), none, (.op (.faddr 0 (.t 4)))⟩,
    ⟨(some 6), none, (.op (.load none (.t 5)))⟩,
    ⟨(some 7), none, (.op (.len .slice (.t 6)))⟩,
    ⟨(some 2), none, (.op (.mv (.t 7)))⟩])
   (.ret))),
  []⟩


/- floodgate/vault.begin -/

def c108 : IFunc := ⟨2, [.tmp 4, .tmp 5],
  .seq (.region [⟨(some 3), none, (.op (.box (.t 1)))⟩,
    ⟨(some 4), none, (.op (.mv (.c .pn)))⟩,
    ⟨(some 5), none, (.op (.mv (.c (.i .i64 0))))⟩])
   (.live [3, 0] (.seq (.seq (.region [⟨(some 9), none, (.op (.mv (.t 0)))⟩,
    ⟨(some 10), none, (.op (.load (some 6) (.t 3)))⟩,
    ⟨(some 11), none, (.call 149 [(.t 9), (.t 10)])⟩,
    ⟨(some 6), none, (.op (.mv (.t 11)))⟩])
   (.live [6, 3, 0] (.seq (.region [⟨(some 12), none, (.op (.mv (.t 6)))⟩,
    ⟨(some 13), none, (.op (.bin .int true .neq (.t 12) (.c (.i .i64 0))))⟩])
   (.live [6, 3, 0, 13] (.cond (.t 13) (.seq (.region [⟨(some 14), none, (.op (.mv (.t 6)))⟩,
    ⟨(some 4), none, (.op (.mv (.c .pn)))⟩,
    ⟨(some 5), none, (.op (.mv (.t 14)))⟩])
   (.ret))
   (.skip))))))
   (.live [3, 0] (.seq (.region [⟨(some 16), none, (.op (.mv (.t 0)))⟩,
    ⟨(some 17), none, (.op (.faddr 1 (.t 3)))⟩,
    ⟨(some 18), none, (.op (.load none (.t 17)))⟩,
    ⟨(some 19), none, (.op (.faddr 2 (.t 3)))⟩,
    ⟨(some 20), none, (.op (.load none (.t 19)))⟩,
    ⟨(some 21), none, (.op (.faddr 3 (.t 3)))⟩,
    ⟨(some 22), none, (.op (.load none (.t 21)))⟩,
    ⟨(some 23), none, (.call 150 [(.t 16), (.t 18), (.t 20), (.t 22)])⟩,
    ⟨(some 15), none, (.op (.mv (.t 23)))⟩,
    ⟨(some 24), none, (.op (.ext (.t 15) 0))⟩,
    ⟨(some 25), none, (.op (.ext (.t 15) 1))⟩,
    ⟨(some 7), none, (.op (.mv (.t 24)))⟩,
    ⟨(some 8), none, (.op (.mv (.t 25)))⟩])
   (.live [8, 3, 7, 0] (.seq (.seq (.region [⟨(some 26), none, (.op (.mv (.t 8)))⟩,
    ⟨(some 27), none, (.op (.bin .int true .neq (.t 26) (.c (.i .i64 0))))⟩])
   (.live [8, 3, 7, 0, 27] (.cond (.t 27) (.seq (.region [⟨(some 28), none, (.op (.mv (.t 8)))⟩,
    ⟨(some 4), none, (.op (.mv (.c .pn)))⟩,
    ⟨(some 5), none, (.op (.mv (.t 28)))⟩])
   (.ret))
   (.skip))))
   (.live [3, 7, 0] (.seq (.region [⟨(some 29), none, (.op (.mv (.t 0)))⟩,
    ⟨(some 30), none, (.op (.mv (.t 7)))⟩,
    ⟨(some 31), none, (.op (.load (some 6) (.t 3)))⟩,
    ⟨(some 32), none, (.op (.build [.pn, .pn, (.i .u64 0), (.i .u32 0), (.i .u64 0), (.i .i64 0), (.i .u64 0), .sn] [(0, 1, (.t 29)), (1, 1, (.t 30)), (2, 6, (.t 31))]))⟩,
    ⟨(some 33), none, (.op (.box (.t 32)))⟩,
    ⟨(some 4), none, (.op (.mv (.t 33)))⟩,
    ⟨(some 5), none, (.op (.mv (.c (.i .i64 0))))⟩])
   (.ret))))))))),
  []⟩


/- floodgate/drr.New -/

def c109 : IFunc := ⟨0, [.tmp 0],
  .seq (.region [⟨(some 0), none, (.op (.mv (.c .pn)))⟩])
   (.live [] (.seq (.region [⟨(some 1), none, (.op (.mkmap none))⟩,
    ⟨(some 2), none, (.op (.build [.mn, .sn] [(0, 1, (.t 1))]))⟩,
    ⟨(some 3), none, (.op (.box (.t 2)))⟩,
    ⟨(some 0), none, (.op (.mv (.t 3)))⟩])
   (.ret))),
  []⟩


/- floodgate/route.New -/

def c110 : IFunc := ⟨0, [.tmp 0],
  .seq (.region [⟨(some 0), none, (.op (.mv (.c .pn)))⟩])
   (.live [] (.seq (.region [⟨(some 1), none, (.op (.mkmap none))⟩,
    ⟨(some 2), none, (.op (.build [.mn] [(0, 1, (.t 1))]))⟩,
    ⟨(some 3), none, (.op (.box (.t 2)))⟩,
    ⟨(some 0), none, (.op (.mv (.t 3)))⟩])
   (.ret))),
  []⟩


/- slices.Clone[[]floodgate/api.Entry,floodgate/api.Entry] -/

def c124 : IFunc := ⟨1, [.tmp 2],
  .seq (.region [⟨(some 2), none, (.op (.mv (.c .sn)))⟩])
   (.live [0] (.seq (.seq (.region [⟨(some 3), none, (.op (.mv (.t 0)))⟩,
    ⟨(some 4), none, (.op (.bin .slice true .eql (.t 3) (.c .sn)))⟩])
   (.live [0, 4] (.cond (.t 4) (.seq (.region [⟨(some 2), none, (.op (.mv (.c .sn)))⟩])
   (.ret))
   (.skip))))
   (.live [0] (.seq (.region [⟨(some 5), none, (.op (.bslice [(.i .i64 0), (.i .u8 0), (.i .u8 0), (.i .u8 0), (.i .u8 0), (.i .i64 0), (.i .u64 0), (.i .u64 0), (.i .u64 0), (.i .u64 0), (.i .u64 0), (.i .u64 0), (.i .u64 0), (.i .u64 0)] 0 []))⟩,
    ⟨(some 6), none, (.op (.mv (.t 0)))⟩,
    ⟨(some 7), none, (.op (.app 14 88 (.t 5) (.t 6)))⟩,
    ⟨(some 2), none, (.op (.mv (.t 7)))⟩])
   (.ret))))),
  []⟩


/- (*floodgate/wal.Log).Left -/
def c138d0 : List Stage :=
  [⟨[(⟨(some 17), none, (.op (.mv (.t 0)))⟩, 0), (⟨(some 18), none, (.op (.nilck (.t 17)))⟩, 0), (⟨(some 19), none, (.op (.faddr 0 (.t 18)))⟩, 0), (⟨(some 20), none, (.op (.load none (.t 19)))⟩, 0), (⟨(some 22), none, (.op (.mv (.t 0)))⟩, 1), (⟨(some 23), none, (.op (.nilck (.t 22)))⟩, 1), (⟨(some 24), none, (.op (.faddr 3 (.t 23)))⟩, 1), (⟨(some 25), none, (.op (.load none (.t 24)))⟩, 1), (⟨(some 26), none, (.op (.mv (.t 0)))⟩, 1), (⟨(some 27), none, (.op (.nilck (.t 26)))⟩, 1), (⟨(some 28), none, (.op (.faddr 4 (.t 27)))⟩, 1), (⟨(some 29), none, (.op (.load none (.t 28)))⟩, 1)], none, some ⟨(some 21), none, (.call 107 [(.t 20)])⟩⟩,
    ⟨[], none, some ⟨(some 30), none, (.call 180 [(.t 21), (.t 25), (.t 29)])⟩⟩,
    ⟨[(⟨(some 16), none, (.op (.mv (.t 30)))⟩, 2), (⟨(some 31), none, (.op (.ext (.t 16) 0))⟩, 2), (⟨(some 32), none, (.op (.ext (.t 16) 1))⟩, 2), (⟨(some 5), none, (.op (.mv (.t 31)))⟩, 2), (⟨(some 6), none, (.op (.mv (.t 32)))⟩, 2)], none, none⟩]
def c138d0w : List (ROp × Bool) :=
  [(⟨(some 17), none, (.op (.mv (.t 0)))⟩, false), (⟨(some 18), none, (.op (.nilck (.t 17)))⟩, false), (⟨(some 19), none, (.op (.faddr 0 (.t 18)))⟩, false), (⟨(some 20), none, (.op (.load none (.t 19)))⟩, false), (⟨(some 22), none, (.op (.mv (.t 0)))⟩, false), (⟨(some 23), none, (.op (.nilck (.t 22)))⟩, false), (⟨(some 24), none, (.op (.faddr 3 (.t 23)))⟩, false), (⟨(some 25), none, (.op (.load none (.t 24)))⟩, false), (⟨(some 26), none, (.op (.mv (.t 0)))⟩, false), (⟨(some 27), none, (.op (.nilck (.t 26)))⟩, false), (⟨(some 28), none, (.op (.faddr 4 (.t 27)))⟩, false), (⟨(some 29), none, (.op (.load none (.t 28)))⟩, false), (⟨(some 21), none, (.call 107 [(.t 20)])⟩, true), (⟨(some 30), none, (.call 180 [(.t 21), (.t 25), (.t 29)])⟩, false), (⟨(some 16), none, (.op (.mv (.t 30)))⟩, false), (⟨(some 31), none, (.op (.ext (.t 16) 0))⟩, false), (⟨(some 32), none, (.op (.ext (.t 16) 1))⟩, false), (⟨(some 5), none, (.op (.mv (.t 31)))⟩, false), (⟨(some 6), none, (.op (.mv (.t 32)))⟩, false)]
theorem c138d0_w {P : Program} {O : Orc} {S0 : Mem} {rd : Bool} {e : Env} {S : Mem} {d : List Nat} {Q : Kont} : W P O S0 rd (.draw c138d0 []) e S d Q = wFl O c138d0w e S (normK Q d) := W_draw' (by kernel_rfl) (by kernel_rfl)
attribute [go_sem] c138d0_w c138d0w
def c138 : IFunc := ⟨1, [.tmp 2],
  .seq (.region [⟨(some 2), none, (.op (.mv (.c (.i .i64 0))))⟩])
   (.live [0] (.seq (.region [⟨(some 8), none, (.op (.mv (.t 0)))⟩,
    ⟨(some 9), none, (.op (.nilck (.t 8)))⟩,
    ⟨(some 10), none, (.op (.faddr 0 (.t 9)))⟩,
    ⟨(some 11), none, (.op (.load none (.t 10)))⟩,
    ⟨(some 12), none, (.call 107 [(.t 11)])⟩,
    ⟨(some 13), none, (.call 106 [(.t 12)])⟩,
    ⟨(some 7), none, (.op (.mv (.t 13)))⟩,
    ⟨(some 14), none, (.op (.ext (.t 7) 0))⟩,
    ⟨(some 15), none, (.op (.ext (.t 7) 1))⟩,
    ⟨(some 3), none, (.op (.mv (.t 14)))⟩,
    ⟨(some 4), none, (.op (.mv (.t 15)))⟩])
   (.live [0, 3] (.seq (.draw c138d0 [])
   (.live [0, 5, 3] (.seq (.region [⟨(some 33), none, (.op (.mv (.t 3)))⟩,
    ⟨(some 34), none, (.op (.mv (.t 5)))⟩,
    ⟨(some 35), none, (.op (.bin .int false .sub (.t 33) (.t 34)))⟩,
    ⟨(some 36), none, (.op (.bin .int true .mul (.t 35) (.c (.i .i64 16))))⟩,
    ⟨(some 37), none, (.op (.bin .int true .add (.t 36) (.c (.i .i64 16))))⟩,
    ⟨(some 38), none, (.op (.mv (.t 0)))⟩,
    ⟨(some 39), none, (.op (.nilck (.t 38)))⟩,
    ⟨(some 40), none, (.op (.faddr 5 (.t 39)))⟩,
    ⟨(some 41), none, (.op (.load none (.t 40)))⟩,
    ⟨(some 42), none, (.op (.bin .int false .sub (.t 37) (.t 41)))⟩,
    ⟨(some 2), none, (.op (.mv (.t 42)))⟩])
   (.ret))))))),
  []⟩


/- (*floodgate/disk.Disk).keep -/
def c139d0 : List Stage :=
  [⟨[(⟨(some 19), none, (.op (.mv (.t 0)))⟩, 0), (⟨(some 20), none, (.op (.nilck (.t 19)))⟩, 0), (⟨(some 21), none, (.op (.faddr 0 (.t 20)))⟩, 0), (⟨(some 22), none, (.op (.load none (.t 21)))⟩, 0), (⟨(some 23), none, (.op (.faddr 0 (.t 5)))⟩, 0), (⟨(some 24), none, (.op (.load none (.t 23)))⟩, 0), (⟨(some 25), none, (.op (.faddr 1 (.t 5)))⟩, 0), (⟨(some 26), none, (.op (.load (some 64) (.t 25)))⟩, 0), (⟨(some 27), none, (.op (.iaddr none 64 (.t 22) (.t 24)))⟩, 0)], none, some ⟨none, none, (.op (.store 64 (.t 27) (.t 26)))⟩⟩,
    ⟨[], none, none⟩]
def c139d0w : List (ROp × Bool) :=
  [(⟨(some 19), none, (.op (.mv (.t 0)))⟩, false), (⟨(some 20), none, (.op (.nilck (.t 19)))⟩, false), (⟨(some 21), none, (.op (.faddr 0 (.t 20)))⟩, false), (⟨(some 22), none, (.op (.load none (.t 21)))⟩, false), (⟨(some 23), none, (.op (.faddr 0 (.t 5)))⟩, false), (⟨(some 24), none, (.op (.load none (.t 23)))⟩, false), (⟨(some 25), none, (.op (.faddr 1 (.t 5)))⟩, false), (⟨(some 26), none, (.op (.load (some 64) (.t 25)))⟩, false), (⟨(some 27), none, (.op (.iaddr none 64 (.t 22) (.t 24)))⟩, false), (⟨none, none, (.op (.store 64 (.t 27) (.t 26)))⟩, false)]
theorem c139d0_w {P : Program} {O : Orc} {S0 : Mem} {rd : Bool} {e : Env} {S : Mem} {d : List Nat} {Q : Kont} : W P O S0 rd (.draw c139d0 []) e S d Q = wFl O c139d0w e S (normK Q d) := W_draw' (by kernel_rfl) (by kernel_rfl)
attribute [go_sem] c139d0_w c139d0w
def c139l1 : ICode :=
  .seq (.region [⟨(some 12), none, (.op (.bin .int false .lss (.t 11) (.t 10)))⟩])
   (.live [0, 1, 9, 10, 11, 12] (.seq (.cond (.t 12) (.skip)
   (.exit 0))
   (.live [0, 1, 9, 10, 11] (.seq (.block 1 (.seq (.region [⟨(some 13), none, (.op (.mv (.t 11)))⟩,
    ⟨(some 14), none, (.op (.iaddr none 65 (.t 9) (.t 11)))⟩,
    ⟨(some 15), none, (.op (.load (some 65) (.t 14)))⟩,
    ⟨(some 5), none, (.op (.fresh [(.i .i64 0), (.i .u8 0), (.i .u8 0), (.i .u8 0), (.i .u8 0), (.i .u8 0), (.i .u8 0), (.i .u8 0), (.i .u8 0), (.i .u8 0), (.i .u8 0), (.i .u8 0), (.i .u8 0), (.i .u8 0), (.i .u8 0), (.i .u8 0), (.i .u8 0), (.i .u8 0), (.i .u8 0), (.i .u8 0), (.i .u8 0), (.i .u8 0), (.i .u8 0), (.i .u8 0), (.i .u8 0), (.i .u8 0), (.i .u8 0), (.i .u8 0), (.i .u8 0), (.i .u8 0), (.i .u8 0), (.i .u8 0), (.i .u8 0), (.i .u8 0), (.i .u8 0), (.i .u8 0), (.i .u8 0), (.i .u8 0), (.i .u8 0), (.i .u8 0), (.i .u8 0), (.i .u8 0), (.i .u8 0), (.i .u8 0), (.i .u8 0), (.i .u8 0), (.i .u8 0), (.i .u8 0), (.i .u8 0), (.i .u8 0), (.i .u8 0), (.i .u8 0), (.i .u8 0), (.i .u8 0), (.i .u8 0), (.i .u8 0), (.i .u8 0), (.i .u8 0), (.i .u8 0), (.i .u8 0), (.i .u8 0), (.i .u8 0), (.i .u8 0), (.i .u8 0), (.i .u8 0)]))⟩,
    ⟨(some 4), none, (.op (.mv (.t 13)))⟩,
    ⟨none, none, (.op (.store 65 (.t 5) (.t 15)))⟩])
   (.live [0, 1, 9, 10, 11, 5, 4] (.seq (.region [⟨(some 16), none, (.op (.mv (.t 1)))⟩,
    ⟨(some 17), none, (.op (.mv (.t 4)))⟩,
    ⟨(some 18), none, (.callv (.t 16) [(.t 17)])⟩])
   (.live [0, 1, 9, 10, 11, 5, 18] (.cond (.t 18) (.draw c139d0 [])
   (.skip)))))))
   (.live [0, 1, 9, 10, 11] (.region [⟨(some 28), none, (.op (.bin .int true .add (.t 11) (.c (.i .i64 1))))⟩,
    ⟨(some 11), none, (.op (.mv (.t 28)))⟩]))))))
def c139 : IFunc := ⟨2, [],
  .seq (.seq (.region [⟨(some 6), none, (.op (.mv (.t 0)))⟩,
    ⟨(some 7), none, (.op (.nilck (.t 6)))⟩,
    ⟨(some 8), none, (.op (.faddr 1 (.t 7)))⟩,
    ⟨(some 9), none, (.op (.load none (.t 8)))⟩,
    ⟨(some 10), none, (.op (.len .slice (.t 9)))⟩,
    ⟨(some 11), none, (.op (.mv (.c (.i .i64 0))))⟩])
   (.live [0, 1, 9, 10, 11] (.block 0 (.loop [0, 1, 9, 10, 11] c139l1))))
   (.live [0] (.region [⟨(some 29), none, (.op (.mv (.t 0)))⟩,
    ⟨(some 30), none, (.op (.nilck (.t 29)))⟩,
    ⟨(some 31), none, (.op (.faddr 1 (.t 30)))⟩,
    ⟨none, none, (.op (.store 1 (.t 31) (.c .sn)))⟩])),
  []⟩


/- floodgate/sat.Log -/

def c148 : IFunc := ⟨1, [.tmp 2],
  .seq (.region [⟨(some 2), none, (.op (.mv (.c (.i .i64 0))))⟩])
   (.live [0] (.seq (.region [⟨(some 3), none, (.op (.mv (.t 0)))⟩,
    ⟨(some 4), none, (.call 194 [(.t 3)])⟩,
    ⟨(some 2), none, (.op (.mv (.t 4)))⟩])
   (.ret))),
  []⟩


/- floodgate/slot.Write -/
def c149l0 : ICode :=
  .seq (.region [⟨(some 34), none, (.op (.bin .int false .lss (.t 33) (.t 32)))⟩])
   (.live [8, 0, 31, 32, 33, 34] (.seq (.cond (.t 34) (.skip)
   (.exit 0))
   (.live [8, 0, 31, 32, 33] (.seq (.block 1 (.seq (.region [⟨(some 35), none, (.op (.mv (.t 33)))⟩,
    ⟨(some 36), none, (.op (.iaddr none 64 (.t 31) (.t 33)))⟩,
    ⟨(some 37), none, (.op (.load (some 64) (.t 36)))⟩,
    ⟨(some 10), none, (.op (.fresh [(.i .u8 0), (.i .u8 0), (.i .u8 0), (.i .u8 0), (.i .u8 0), (.i .u8 0), (.i .u8 0), (.i .u8 0), (.i .u8 0), (.i .u8 0), (.i .u8 0), (.i .u8 0), (.i .u8 0), (.i .u8 0), (.i .u8 0), (.i .u8 0), (.i .u8 0), (.i .u8 0), (.i .u8 0), (.i .u8 0), (.i .u8 0), (.i .u8 0), (.i .u8 0), (.i .u8 0), (.i .u8 0), (.i .u8 0), (.i .u8 0), (.i .u8 0), (.i .u8 0), (.i .u8 0), (.i .u8 0), (.i .u8 0), (.i .u8 0), (.i .u8 0), (.i .u8 0), (.i .u8 0), (.i .u8 0), (.i .u8 0), (.i .u8 0), (.i .u8 0), (.i .u8 0), (.i .u8 0), (.i .u8 0), (.i .u8 0), (.i .u8 0), (.i .u8 0), (.i .u8 0), (.i .u8 0), (.i .u8 0), (.i .u8 0), (.i .u8 0), (.i .u8 0), (.i .u8 0), (.i .u8 0), (.i .u8 0), (.i .u8 0), (.i .u8 0), (.i .u8 0), (.i .u8 0), (.i .u8 0), (.i .u8 0), (.i .u8 0), (.i .u8 0), (.i .u8 0)]))⟩,
    ⟨(some 9), none, (.op (.mv (.t 35)))⟩,
    ⟨none, none, (.op (.store 64 (.t 10) (.t 37)))⟩])
   (.live [8, 0, 31, 32, 33, 10, 9] (.seq (.region [⟨(some 38), none, (.op (.mv (.t 0)))⟩,
    ⟨(some 39), none, (.op (.mv (.t 8)))⟩,
    ⟨(some 40), none, (.op (.mv (.t 9)))⟩,
    ⟨(some 41), none, (.op (.bin .int false .add (.t 39) (.t 40)))⟩,
    ⟨(some 42), none, (.op (.load (some 64) (.t 10)))⟩,
    ⟨(some 43), none, (.call 171 [(.t 38), (.t 41), (.t 42)])⟩,
    ⟨(some 11), none, (.op (.mv (.t 43)))⟩])
   (.live [11, 8, 0, 31, 32, 33] (.seq (.region [⟨(some 44), none, (.op (.mv (.t 11)))⟩,
    ⟨(some 45), none, (.op (.bin .int true .neq (.t 44) (.c (.i .i64 0))))⟩])
   (.live [11, 8, 0, 31, 32, 33, 45] (.cond (.t 45) (.seq (.region [⟨(some 46), none, (.op (.mv (.t 11)))⟩,
    ⟨(some 4), none, (.op (.mv (.t 46)))⟩])
   (.ret))
   (.skip)))))))))
   (.live [8, 0, 31, 32, 33] (.region [⟨(some 47), none, (.op (.bin .int true .add (.t 33) (.c (.i .i64 1))))⟩,
    ⟨(some 33), none, (.op (.mv (.t 47)))⟩]))))))
def c149 : IFunc := ⟨2, [.tmp 4],
  .seq (.region [⟨(some 3), none, (.op (.box (.t 1)))⟩,
    ⟨(some 4), none, (.op (.mv (.c (.i .i64 0))))⟩])
   (.live [0, 3] (.seq (.region [⟨(some 13), none, (.op (.mv (.t 0)))⟩,
    ⟨(some 14), none, (.op (.load (some 6) (.t 3)))⟩,
    ⟨(some 15), none, (.call 195 [(.t 13), (.t 14)])⟩,
    ⟨(some 12), none, (.op (.mv (.t 15)))⟩,
    ⟨(some 16), none, (.op (.ext (.t 12) 0))⟩,
    ⟨(some 17), none, (.op (.ext (.t 12) 1))⟩,
    ⟨(some 5), none, (.op (.fresh [(.i .u64 0), (.i .u32 0), .sn]))⟩,
    ⟨none, none, (.op (.store 3 (.t 5) (.t 16)))⟩,
    ⟨(some 6), none, (.op (.mv (.t 17)))⟩])
   (.live [6, 0, 3, 5] (.seq (.seq (.region [⟨(some 18), none, (.op (.mv (.t 6)))⟩,
    ⟨(some 19), none, (.op (.bin .int true .neq (.t 18) (.c (.i .i64 0))))⟩])
   (.live [6, 0, 3, 5, 19] (.cond (.t 19) (.seq (.region [⟨(some 20), none, (.op (.mv (.t 6)))⟩,
    ⟨(some 4), none, (.op (.mv (.t 20)))⟩])
   (.ret))
   (.skip))))
   (.live [0, 3, 5] (.seq (.region [⟨(some 22), none, (.op (.load (some 3) (.t 5)))⟩,
    ⟨(some 23), none, (.call 168 [(.t 22)])⟩,
    ⟨(some 21), none, (.op (.mv (.t 23)))⟩,
    ⟨(some 24), none, (.op (.ext (.t 21) 0))⟩,
    ⟨(some 25), none, (.op (.ext (.t 21) 1))⟩,
    ⟨(some 7), none, (.op (.mv (.t 24)))⟩,
    ⟨(some 6), none, (.op (.mv (.t 25)))⟩])
   (.live [0, 7, 3, 6] (.seq (.seq (.region [⟨(some 26), none, (.op (.mv (.t 6)))⟩,
    ⟨(some 27), none, (.op (.bin .int true .neq (.t 26) (.c (.i .i64 0))))⟩])
   (.live [0, 7, 3, 27] (.cond (.t 27) (.seq (.region [⟨(some 4), none, (.op (.mv (.c (.i .i64 141))))⟩])
   (.ret))
   (.skip))))
   (.live [0, 7, 3] (.seq (.region [⟨(some 28), none, (.op (.faddr 0 (.t 3)))⟩,
    ⟨(some 29), none, (.op (.load none (.t 28)))⟩,
    ⟨(some 30), none, (.call 196 [(.t 29)])⟩,
    ⟨(some 8), none, (.op (.mv (.t 30)))⟩])
   (.live [8, 0, 7] (.seq (.seq (.region [⟨(some 31), none, (.op (.mv (.t 7)))⟩,
    ⟨(some 32), none, (.op (.len .slice (.t 31)))⟩,
    ⟨(some 33), none, (.op (.mv (.c (.i .i64 0))))⟩])
   (.live [8, 0, 31, 32, 33] (.block 0 (.loop [8, 0, 31, 32, 33] c149l0))))
   (.live [0] (.seq (.region [⟨(some 48), none, (.op (.mv (.t 0)))⟩,
    ⟨(some 49), none, (.call 172 [(.t 48)])⟩,
    ⟨(some 4), none, (.op (.mv (.t 49)))⟩])
   (.ret))))))))))))))),
  []⟩


/- floodgate/wal.Start -/

def c150 : IFunc := ⟨4, [.tmp 8, .tmp 9],
  .seq (.region [⟨(some 8), none, (.op (.mv (.c .pn)))⟩,
    ⟨(some 9), none, (.op (.mv (.c (.i .i64 0))))⟩])
   (.live [3, 2, 1, 0] (.seq (.seq (.region [⟨(some 13), none, (.op (.mv (.t 0)))⟩,
    ⟨(some 14), none, (.call 107 [(.t 13)])⟩,
    ⟨(some 15), none, (.op (.mv (.t 3)))⟩,
    ⟨(some 16), none, (.call 170 [(.t 14), (.t 15)])⟩,
    ⟨(some 12), none, (.op (.mv (.t 16)))⟩,
    ⟨(some 17), none, (.op (.ext (.t 12) 0))⟩,
    ⟨(some 18), none, (.op (.ext (.t 12) 1))⟩,
    ⟨(some 10), none, (.op (.mv (.t 17)))⟩,
    ⟨(some 11), none, (.op (.mv (.t 18)))⟩])
   (.live [11, 3, 2, 1, 0] (.seq (.region [⟨(some 19), none, (.op (.mv (.t 11)))⟩,
    ⟨(some 20), none, (.op (.bin .int true .neq (.t 19) (.c (.i .i64 0))))⟩])
   (.live [11, 3, 2, 1, 0, 20] (.cond (.t 20) (.seq (.region [⟨(some 21), none, (.op (.mv (.t 11)))⟩,
    ⟨(some 8), none, (.op (.mv (.c .pn)))⟩,
    ⟨(some 9), none, (.op (.mv (.t 21)))⟩])
   (.ret))
   (.skip))))))
   (.live [3, 2, 1, 0] (.seq (.seq (.region [⟨(some 22), none, (.op (.mv (.t 2)))⟩,
    ⟨(some 23), none, (.op (.bin .int true .eql (.t 22) (.c (.i .u64 0))))⟩])
   (.live [3, 2, 1, 0, 23] (.cond (.t 23) (.seq (.region [⟨(some 8), none, (.op (.mv (.c .pn)))⟩,
    ⟨(some 9), none, (.op (.mv (.c (.i .i64 81))))⟩])
   (.ret))
   (.skip))))
   (.live [3, 2, 1, 0] (.seq (.region [⟨(some 24), none, (.op (.mv (.t 0)))⟩,
    ⟨(some 25), none, (.op (.mv (.t 1)))⟩,
    ⟨(some 26), none, (.op (.mv (.t 2)))⟩,
    ⟨(some 27), none, (.op (.mv (.t 3)))⟩,
    ⟨(some 28), none, (.op (.mv (.t 3)))⟩,
    ⟨(some 29), none, (.op (.build [.pn, (.i .u32 0), (.i .u64 0), (.i .i64 0), (.i .i64 0), (.i .i64 0)] [(0, 1, (.t 24)), (1, 1, (.t 25)), (2, 1, (.t 26)), (3, 1, (.t 27)), (4, 1, (.t 28))]))⟩,
    ⟨(some 30), none, (.op (.box (.t 29)))⟩,
    ⟨(some 8), none, (.op (.mv (.t 30)))⟩,
    ⟨(some 9), none, (.op (.mv (.c (.i .i64 0))))⟩])
   (.ret))))))),
  []⟩


/- floodgate/book.Right -/

def c161 : IFunc := ⟨1, [.tmp 2],
  .seq (.region [⟨(some 1), none, (.op (.box (.t 0)))⟩,
    ⟨(some 2), none, (.op (.mv (.c (.b false))))⟩])
   (.live [1] (.seq (.seq (.region [⟨(some 3), none, (.op (.faddr 0 (.t 1)))⟩,
    ⟨(some 4), none, (.op (.load none (.t 3)))⟩,
    ⟨(some 5), none, (.op (.bin .int true .lss (.t 4) (.c (.i .u64 1))))⟩,
    ⟨(some 6), none, (.op (.mv (.t 5)))⟩,
    ⟨(some 7), some (6, false), (.op (.faddr 0 (.t 1)))⟩,
    ⟨(some 8), some (6, false), (.op (.load none (.t 7)))⟩,
    ⟨(some 9), some (6, false), (.op (.bin .int true .gtr (.t 8) (.c (.i .u64 281474976710656))))⟩,
    ⟨(some 10), none, (.op (.pick (.t 6) (.c (.b true)) (.t 9)))⟩,
    ⟨(some 11), none, (.op (.mv (.t 10)))⟩,
    ⟨(some 12), some (11, false), (.op (.faddr 1 (.t 1)))⟩,
    ⟨(some 13), some (11, false), (.op (.load none (.t 12)))⟩,
    ⟨(some 14), some (11, false), (.op (.len .slice (.t 13)))⟩,
    ⟨(some 15), some (11, false), (.op (.bin .int true .gtr (.t 14) (.c (.i .i64 8))))⟩,
    ⟨(some 16), none, (.op (.pick (.t 11) (.c (.b true)) (.t 15)))⟩,
    ⟨(some 17), none, (.op (.mv (.t 16)))⟩,
    ⟨(some 18), some (17, false), (.op (.faddr 1 (.t 1)))⟩,
    ⟨(some 19), some (17, false), (.op (.load none (.t 18)))⟩,
    ⟨(some 20), some (17, false), (.call 201 [(.t 19)])⟩,
    ⟨(some 21), some (17, false), (.call 200 [(.t 20)])⟩,
    ⟨(some 22), some (17, false), (.op (.bin .int true .neq (.t 21) (.c (.i .i64 0))))⟩,
    ⟨(some 23), none, (.op (.pick (.t 17) (.c (.b true)) (.t 22)))⟩])
   (.live [1, 23] (.cond (.t 23) (.seq (.region [⟨(some 2), none, (.op (.mv (.c (.b false))))⟩])
   (.ret))
   (.skip))))
   (.live [1] (.seq (.region [⟨(some 24), none, (.op (.faddr 1 (.t 1)))⟩,
    ⟨(some 25), none, (.op (.load none (.t 24)))⟩,
    ⟨(some 26), none, (.call 202 [(.t 25), (.c (.f (.func 203) [] []))])⟩,
    ⟨(some 27), none, (.op (.un .not (.t 26)))⟩,
    ⟨(some 2), none, (.op (.mv (.t 27)))⟩])
   (.ret))))),
  []⟩


set_option maxRecDepth 1000000
theorem f5 : compFunc Tryz.prog 5 = some (stripF c5) := by kernel_rfl
theorem f7 : compFunc Tryz.prog 7 = some (stripF c7) := by kernel_rfl
theorem f8 : compFunc Tryz.prog 8 = some (stripF c8) := by kernel_rfl
theorem f9 : compFunc Tryz.prog 9 = some (stripF c9) := by kernel_rfl
theorem f10 : compFunc Tryz.prog 10 = some (stripF c10) := by kernel_rfl
theorem f12 : compFunc Tryz.prog 12 = some (stripF c12) := by kernel_rfl
theorem f13 : compFunc Tryz.prog 13 = some (stripF c13) := by kernel_rfl
theorem f14 : compFunc Tryz.prog 14 = some (stripF c14) := by kernel_rfl
theorem f15 : compFunc Tryz.prog 15 = some (stripF c15) := by kernel_rfl
theorem f16 : compFunc Tryz.prog 16 = some (stripF c16) := by kernel_rfl
theorem f17 : compFunc Tryz.prog 17 = some (stripF c17) := by kernel_rfl
theorem f18 : compFunc Tryz.prog 18 = some (stripF c18) := by kernel_rfl
theorem f19 : compFunc Tryz.prog 19 = some (stripF c19) := by kernel_rfl
theorem f20 : compFunc Tryz.prog 20 = some (stripF c20) := by kernel_rfl
theorem f21 : compFunc Tryz.prog 21 = some (stripF c21) := by kernel_rfl
theorem f22 : compFunc Tryz.prog 22 = some (stripF c22) := by kernel_rfl
theorem f23 : compFunc Tryz.prog 23 = some (stripF c23) := by kernel_rfl
theorem f24 : compFunc Tryz.prog 24 = some (stripF c24) := by kernel_rfl
theorem f25 : compFunc Tryz.prog 25 = some (stripF c25) := by kernel_rfl
theorem f26 : compFunc Tryz.prog 26 = some (stripF c26) := by kernel_rfl
theorem f27 : compFunc Tryz.prog 27 = some (stripF c27) := by kernel_rfl
theorem f28 : compFunc Tryz.prog 28 = some (stripF c28) := by kernel_rfl
theorem f29 : compFunc Tryz.prog 29 = some (stripF c29) := by kernel_rfl
theorem f30 : compFunc Tryz.prog 30 = some (stripF c30) := by kernel_rfl
theorem f31 : compFunc Tryz.prog 31 = some (stripF c31) := by kernel_rfl
theorem f32 : compFunc Tryz.prog 32 = some (stripF c32) := by kernel_rfl
theorem f33 : compFunc Tryz.prog 33 = some (stripF c33) := by kernel_rfl
theorem f34 : compFunc Tryz.prog 34 = some (stripF c34) := by kernel_rfl
theorem f35 : compFunc Tryz.prog 35 = some (stripF c35) := by kernel_rfl
theorem f36 : compFunc Tryz.prog 36 = some (stripF c36) := by kernel_rfl
theorem f37 : compFunc Tryz.prog 37 = some (stripF c37) := by kernel_rfl
theorem f38 : compFunc Tryz.prog 38 = some (stripF c38) := by kernel_rfl
theorem f39 : compFunc Tryz.prog 39 = some (stripF c39) := by kernel_rfl
theorem f40 : compFunc Tryz.prog 40 = some (stripF c40) := by kernel_rfl
theorem f41 : compFunc Tryz.prog 41 = some (stripF c41) := by kernel_rfl
theorem f42 : compFunc Tryz.prog 42 = some (stripF c42) := by kernel_rfl
theorem f43 : compFunc Tryz.prog 43 = some (stripF c43) := by kernel_rfl
theorem f44 : compFunc Tryz.prog 44 = some (stripF c44) := by kernel_rfl
theorem f45 : compFunc Tryz.prog 45 = some (stripF c45) := by kernel_rfl
theorem f47 : compFunc Tryz.prog 47 = some (stripF c47) := by kernel_rfl
theorem f51 : compFunc Tryz.prog 51 = some (stripF c51) := by kernel_rfl
theorem f55 : compFunc Tryz.prog 55 = some (stripF c55) := by kernel_rfl
theorem f56 : compFunc Tryz.prog 56 = some (stripF c56) := by kernel_rfl
theorem f57 : compFunc Tryz.prog 57 = some (stripF c57) := by kernel_rfl
theorem f58 : compFunc Tryz.prog 58 = some (stripF c58) := by kernel_rfl
theorem f59 : compFunc Tryz.prog 59 = some (stripF c59) := by kernel_rfl
theorem f60 : compFunc Tryz.prog 60 = some (stripF c60) := by kernel_rfl
theorem f61 : compFunc Tryz.prog 61 = some (stripF c61) := by kernel_rfl
theorem f62 : compFunc Tryz.prog 62 = some (stripF c62) := by kernel_rfl
theorem f63 : compFunc Tryz.prog 63 = some (stripF c63) := by kernel_rfl
theorem f64 : compFunc Tryz.prog 64 = some (stripF c64) := by kernel_rfl
theorem f65 : compFunc Tryz.prog 65 = some (stripF c65) := by kernel_rfl
theorem f66 : compFunc Tryz.prog 66 = some (stripF c66) := by kernel_rfl
theorem f67 : compFunc Tryz.prog 67 = some (stripF c67) := by kernel_rfl
theorem f68 : compFunc Tryz.prog 68 = some (stripF c68) := by kernel_rfl
theorem f69 : compFunc Tryz.prog 69 = some (stripF c69) := by kernel_rfl
theorem f70 : compFunc Tryz.prog 70 = some (stripF c70) := by kernel_rfl
theorem f71 : compFunc Tryz.prog 71 = some (stripF c71) := by kernel_rfl
theorem f79 : compFunc Tryz.prog 79 = some (stripF c79) := by kernel_rfl
theorem f92 : compFunc Tryz.prog 92 = some (stripF c92) := by kernel_rfl
theorem f104 : compFunc Tryz.prog 104 = some (stripF c104) := by kernel_rfl
theorem f105 : compFunc Tryz.prog 105 = some (stripF c105) := by kernel_rfl
theorem f106 : compFunc Tryz.prog 106 = some (stripF c106) := by kernel_rfl
theorem f107 : compFunc Tryz.prog 107 = some (stripF c107) := by kernel_rfl
theorem f108 : compFunc Tryz.prog 108 = some (stripF c108) := by kernel_rfl
theorem f109 : compFunc Tryz.prog 109 = some (stripF c109) := by kernel_rfl
theorem f110 : compFunc Tryz.prog 110 = some (stripF c110) := by kernel_rfl
theorem f124 : compFunc Tryz.prog 124 = some (stripF c124) := by kernel_rfl
theorem f138 : compFunc Tryz.prog 138 = some (stripF c138) := by kernel_rfl
theorem f139 : compFunc Tryz.prog 139 = some (stripF c139) := by kernel_rfl
theorem f148 : compFunc Tryz.prog 148 = some (stripF c148) := by kernel_rfl
theorem f149 : compFunc Tryz.prog 149 = some (stripF c149) := by kernel_rfl
theorem f150 : compFunc Tryz.prog 150 = some (stripF c150) := by kernel_rfl
theorem f161 : compFunc Tryz.prog 161 = some (stripF c161) := by kernel_rfl
end Go.Proofs.YtmolaemlenllmaaGreat
