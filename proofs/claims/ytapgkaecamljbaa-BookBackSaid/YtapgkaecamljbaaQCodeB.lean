/- Proved here: the code of the functions, written out, is what the compiler makes of the program. No condition. -/
import Derived.Test.YtapgkaecamljbaaMc
import Derived.Test.YtapgkaecamljbaaRows
namespace Go.Proofs.Ytapgkaecamljbaa
open Go.RowKit

/- slices.reverseRangeCmpFunc[floodgate/api.Entry] -/
def c93d0 : List Stage :=
  [⟨[(⟨(some 16), none, (.op (.mv (.t 0)))⟩, 0), (⟨(some 17), none, (.op (.mv (.t 8)))⟩, 0), (⟨(some 18), none, (.op (.mv (.t 0)))⟩, 1), (⟨(some 19), none, (.op (.mv (.t 9)))⟩, 1), (⟨(some 20), none, (.op (.mv (.t 0)))⟩, 0), (⟨(some 21), none, (.op (.mv (.t 9)))⟩, 0), (⟨(some 22), none, (.op (.iaddr none 14 (.t 20) (.t 21)))⟩, 0), (⟨(some 23), none, (.op (.load (some 14) (.t 22)))⟩, 0), (⟨(some 24), none, (.op (.mv (.t 0)))⟩, 0), (⟨(some 25), none, (.op (.mv (.t 8)))⟩, 0), (⟨(some 26), none, (.op (.iaddr none 14 (.t 24) (.t 25)))⟩, 0), (⟨(some 27), none, (.op (.load (some 14) (.t 26)))⟩, 0), (⟨(some 28), none, (.op (.iaddr none 14 (.t 16) (.t 17)))⟩, 0)], none, some ⟨none, none, (.op (.store 14 (.t 28) (.t 23)))⟩⟩,
    ⟨[(⟨(some 29), none, (.op (.iaddr none 14 (.t 18) (.t 19)))⟩, 1)], none, some ⟨none, none, (.op (.store 14 (.t 29) (.t 27)))⟩⟩,
    ⟨[], none, none⟩]
def c93d0w : List (ROp × Bool) :=
  [(⟨(some 16), none, (.op (.mv (.t 0)))⟩, false), (⟨(some 17), none, (.op (.mv (.t 8)))⟩, false), (⟨(some 18), none, (.op (.mv (.t 0)))⟩, false), (⟨(some 19), none, (.op (.mv (.t 9)))⟩, false), (⟨(some 20), none, (.op (.mv (.t 0)))⟩, false), (⟨(some 21), none, (.op (.mv (.t 9)))⟩, false), (⟨(some 22), none, (.op (.iaddr none 14 (.t 20) (.t 21)))⟩, false), (⟨(some 23), none, (.op (.load (some 14) (.t 22)))⟩, false), (⟨(some 24), none, (.op (.mv (.t 0)))⟩, false), (⟨(some 25), none, (.op (.mv (.t 8)))⟩, false), (⟨(some 26), none, (.op (.iaddr none 14 (.t 24) (.t 25)))⟩, false), (⟨(some 27), none, (.op (.load (some 14) (.t 26)))⟩, false), (⟨(some 28), none, (.op (.iaddr none 14 (.t 16) (.t 17)))⟩, false), (⟨none, none, (.op (.store 14 (.t 28) (.t 23)))⟩, false), (⟨(some 29), none, (.op (.iaddr none 14 (.t 18) (.t 19)))⟩, false), (⟨none, none, (.op (.store 14 (.t 29) (.t 27)))⟩, false)]
theorem c93d0_w {P : Program} {O : Orc} {S0 : Mem} {rd : Bool} {e : Env} {S : Mem} {d : List Nat} {Q : Kont} : W P O S0 rd (.draw c93d0 []) e S d Q = wFl O c93d0w e S (normK Q d) := W_draw' (by kernel_rfl) (by kernel_rfl)
attribute [go_sem] c93d0_w c93d0w
def c93l1 : ICode :=
  .seq (.seq (.region [⟨(some 13), none, (.op (.mv (.t 8)))⟩,
    ⟨(some 14), none, (.op (.mv (.t 9)))⟩,
    ⟨(some 15), none, (.op (.bin .int false .lss (.t 13) (.t 14)))⟩])
   (.live [0, 9, 8, 15] (.cond (.t 15) (.skip)
   (.exit 0))))
   (.live [0, 9, 8] (.block 1 (.seq (.draw c93d0 [])
   (.live [0, 9, 8] (.seq (.region [⟨(some 30), none, (.op (.mv (.t 8)))⟩,
    ⟨(some 31), none, (.op (.bin .int true .add (.t 30) (.c (.i .i64 1))))⟩,
    ⟨(some 8), none, (.op (.mv (.t 31)))⟩])
   (.live [0, 8, 9] (.region [⟨(some 32), none, (.op (.mv (.t 9)))⟩,
    ⟨(some 33), none, (.op (.bin .int true .sub (.t 32) (.c (.i .i64 1))))⟩,
    ⟨(some 9), none, (.op (.mv (.t 33)))⟩])))))))
def c93 : IFunc := ⟨4, [],
  .seq (.region [⟨(some 10), none, (.op (.mv (.t 1)))⟩,
    ⟨(some 8), none, (.op (.mv (.t 10)))⟩])
   (.live [0, 8, 2] (.seq (.region [⟨(some 11), none, (.op (.mv (.t 2)))⟩,
    ⟨(some 12), none, (.op (.bin .int true .sub (.t 11) (.c (.i .i64 1))))⟩,
    ⟨(some 9), none, (.op (.mv (.t 12)))⟩])
   (.live [0, 9, 8] (.block 0 (.loop [0, 9, 8] c93l1))))),
  []⟩


/- slices.partialInsertionSortCmpFunc[floodgate/api.Entry] -/
def c94d0 : List Stage :=
  [⟨[(⟨(some 19), none, (.op (.mv (.t 9)))⟩, 0), (⟨(some 20), none, (.op (.mv (.t 2)))⟩, 0), (⟨(some 21), none, (.op (.bin .int false .lss (.t 19) (.t 20)))⟩, 0), (⟨(some 22), none, (.op (.mv (.t 21)))⟩, 0), (⟨(some 23), some (22, true), (.op (.mv (.t 3)))⟩, 0), (⟨(some 24), some (22, true), (.op (.mv (.t 0)))⟩, 0), (⟨(some 25), some (22, true), (.op (.mv (.t 9)))⟩, 0), (⟨(some 26), some (22, true), (.op (.iaddr none 14 (.t 24) (.t 25)))⟩, 0), (⟨(some 27), some (22, true), (.op (.load (some 14) (.t 26)))⟩, 0), (⟨(some 28), some (22, true), (.op (.mv (.t 0)))⟩, 0), (⟨(some 29), some (22, true), (.op (.mv (.t 9)))⟩, 0), (⟨(some 30), some (22, true), (.op (.bin .int true .sub (.t 29) (.c (.i .i64 1))))⟩, 0), (⟨(some 31), some (22, true), (.op (.iaddr none 14 (.t 28) (.t 30)))⟩, 0), (⟨(some 32), some (22, true), (.op (.load (some 14) (.t 31)))⟩, 0)], none, some ⟨(some 33), some (22, true), (.callv (.t 23) [(.t 27), (.t 32)])⟩⟩,
    ⟨[(⟨(some 34), some (22, true), (.op (.bin .int true .lss (.t 33) (.c (.i .i64 0))))⟩, 1), (⟨(some 35), some (22, true), (.op (.un .not (.t 34)))⟩, 1), (⟨(some 36), none, (.op (.pick (.t 22) (.t 35) (.c (.b false))))⟩, 1)], none, none⟩]
def c94d0w : List (ROp × Bool) :=
  [(⟨(some 19), none, (.op (.mv (.t 9)))⟩, false), (⟨(some 20), none, (.op (.mv (.t 2)))⟩, false), (⟨(some 21), none, (.op (.bin .int false .lss (.t 19) (.t 20)))⟩, false), (⟨(some 22), none, (.op (.mv (.t 21)))⟩, false), (⟨(some 23), some (22, true), (.op (.mv (.t 3)))⟩, false), (⟨(some 24), some (22, true), (.op (.mv (.t 0)))⟩, false), (⟨(some 25), some (22, true), (.op (.mv (.t 9)))⟩, false), (⟨(some 26), some (22, true), (.op (.iaddr none 14 (.t 24) (.t 25)))⟩, false), (⟨(some 27), some (22, true), (.op (.load (some 14) (.t 26)))⟩, false), (⟨(some 28), some (22, true), (.op (.mv (.t 0)))⟩, false), (⟨(some 29), some (22, true), (.op (.mv (.t 9)))⟩, false), (⟨(some 30), some (22, true), (.op (.bin .int true .sub (.t 29) (.c (.i .i64 1))))⟩, false), (⟨(some 31), some (22, true), (.op (.iaddr none 14 (.t 28) (.t 30)))⟩, false), (⟨(some 32), some (22, true), (.op (.load (some 14) (.t 31)))⟩, false), (⟨(some 33), some (22, true), (.callv (.t 23) [(.t 27), (.t 32)])⟩, false), (⟨(some 34), some (22, true), (.op (.bin .int true .lss (.t 33) (.c (.i .i64 0))))⟩, false), (⟨(some 35), some (22, true), (.op (.un .not (.t 34)))⟩, false), (⟨(some 36), none, (.op (.pick (.t 22) (.t 35) (.c (.b false))))⟩, false)]
theorem c94d0_w {P : Program} {O : Orc} {S0 : Mem} {rd : Bool} {e : Env} {S : Mem} {d : List Nat} {Q : Kont} : W P O S0 rd (.draw c94d0 []) e S d Q = wFl O c94d0w e S (normK Q d) := W_draw' (by kernel_rfl) (by kernel_rfl)
attribute [go_sem] c94d0_w c94d0w
def c94l1 : ICode :=
  .seq (.seq (.draw c94d0 [])
   (.live [0, 3, 2, 1, 10, 9, 36] (.cond (.t 36) (.skip)
   (.exit 2))))
   (.live [0, 3, 2, 1, 10, 9] (.block 3 (.region [⟨(some 37), none, (.op (.mv (.t 9)))⟩,
    ⟨(some 38), none, (.op (.bin .int true .add (.t 37) (.c (.i .i64 1))))⟩,
    ⟨(some 9), none, (.op (.mv (.t 38)))⟩])))
def c94d2 : List Stage :=
  [⟨[(⟨(some 46), none, (.op (.mv (.t 0)))⟩, 0), (⟨(some 47), none, (.op (.mv (.t 9)))⟩, 0), (⟨(some 48), none, (.op (.mv (.t 0)))⟩, 1), (⟨(some 49), none, (.op (.mv (.t 9)))⟩, 1), (⟨(some 50), none, (.op (.bin .int true .sub (.t 49) (.c (.i .i64 1))))⟩, 1), (⟨(some 51), none, (.op (.mv (.t 0)))⟩, 0), (⟨(some 52), none, (.op (.mv (.t 9)))⟩, 0), (⟨(some 53), none, (.op (.bin .int true .sub (.t 52) (.c (.i .i64 1))))⟩, 0), (⟨(some 54), none, (.op (.iaddr none 14 (.t 51) (.t 53)))⟩, 0), (⟨(some 55), none, (.op (.load (some 14) (.t 54)))⟩, 0), (⟨(some 56), none, (.op (.mv (.t 0)))⟩, 0), (⟨(some 57), none, (.op (.mv (.t 9)))⟩, 0), (⟨(some 58), none, (.op (.iaddr none 14 (.t 56) (.t 57)))⟩, 0), (⟨(some 59), none, (.op (.load (some 14) (.t 58)))⟩, 0), (⟨(some 60), none, (.op (.iaddr none 14 (.t 46) (.t 47)))⟩, 0)], none, some ⟨none, none, (.op (.store 14 (.t 60) (.t 55)))⟩⟩,
    ⟨[(⟨(some 61), none, (.op (.iaddr none 14 (.t 48) (.t 50)))⟩, 1)], none, some ⟨none, none, (.op (.store 14 (.t 61) (.t 59)))⟩⟩,
    ⟨[], none, none⟩]
def c94d2w : List (ROp × Bool) :=
  [(⟨(some 46), none, (.op (.mv (.t 0)))⟩, false), (⟨(some 47), none, (.op (.mv (.t 9)))⟩, false), (⟨(some 48), none, (.op (.mv (.t 0)))⟩, false), (⟨(some 49), none, (.op (.mv (.t 9)))⟩, false), (⟨(some 50), none, (.op (.bin .int true .sub (.t 49) (.c (.i .i64 1))))⟩, false), (⟨(some 51), none, (.op (.mv (.t 0)))⟩, false), (⟨(some 52), none, (.op (.mv (.t 9)))⟩, false), (⟨(some 53), none, (.op (.bin .int true .sub (.t 52) (.c (.i .i64 1))))⟩, false), (⟨(some 54), none, (.op (.iaddr none 14 (.t 51) (.t 53)))⟩, false), (⟨(some 55), none, (.op (.load (some 14) (.t 54)))⟩, false), (⟨(some 56), none, (.op (.mv (.t 0)))⟩, false), (⟨(some 57), none, (.op (.mv (.t 9)))⟩, false), (⟨(some 58), none, (.op (.iaddr none 14 (.t 56) (.t 57)))⟩, false), (⟨(some 59), none, (.op (.load (some 14) (.t 58)))⟩, false), (⟨(some 60), none, (.op (.iaddr none 14 (.t 46) (.t 47)))⟩, false), (⟨none, none, (.op (.store 14 (.t 60) (.t 55)))⟩, false), (⟨(some 61), none, (.op (.iaddr none 14 (.t 48) (.t 50)))⟩, false), (⟨none, none, (.op (.store 14 (.t 61) (.t 59)))⟩, false)]
theorem c94d2_w {P : Program} {O : Orc} {S0 : Mem} {rd : Bool} {e : Env} {S : Mem} {d : List Nat} {Q : Kont} : W P O S0 rd (.draw c94d2 []) e S d Q = wFl O c94d2w e S (normK Q d) := W_draw' (by kernel_rfl) (by kernel_rfl)
attribute [go_sem] c94d2_w c94d2w
def c94d3 : List Stage :=
  [⟨[(⟨(some 72), none, (.op (.mv (.t 3)))⟩, 0), (⟨(some 73), none, (.op (.mv (.t 0)))⟩, 0), (⟨(some 74), none, (.op (.mv (.t 11)))⟩, 0), (⟨(some 75), none, (.op (.iaddr none 14 (.t 73) (.t 74)))⟩, 0), (⟨(some 76), none, (.op (.load (some 14) (.t 75)))⟩, 0), (⟨(some 77), none, (.op (.mv (.t 0)))⟩, 0), (⟨(some 78), none, (.op (.mv (.t 11)))⟩, 0), (⟨(some 79), none, (.op (.bin .int true .sub (.t 78) (.c (.i .i64 1))))⟩, 0), (⟨(some 80), none, (.op (.iaddr none 14 (.t 77) (.t 79)))⟩, 0), (⟨(some 81), none, (.op (.load (some 14) (.t 80)))⟩, 0)], none, some ⟨(some 82), none, (.callv (.t 72) [(.t 76), (.t 81)])⟩⟩,
    ⟨[(⟨(some 83), none, (.op (.bin .int true .lss (.t 82) (.c (.i .i64 0))))⟩, 1), (⟨(some 84), none, (.op (.un .not (.t 83)))⟩, 1)], none, none⟩]
def c94d3w : List (ROp × Bool) :=
  [(⟨(some 72), none, (.op (.mv (.t 3)))⟩, false), (⟨(some 73), none, (.op (.mv (.t 0)))⟩, false), (⟨(some 74), none, (.op (.mv (.t 11)))⟩, false), (⟨(some 75), none, (.op (.iaddr none 14 (.t 73) (.t 74)))⟩, false), (⟨(some 76), none, (.op (.load (some 14) (.t 75)))⟩, false), (⟨(some 77), none, (.op (.mv (.t 0)))⟩, false), (⟨(some 78), none, (.op (.mv (.t 11)))⟩, false), (⟨(some 79), none, (.op (.bin .int true .sub (.t 78) (.c (.i .i64 1))))⟩, false), (⟨(some 80), none, (.op (.iaddr none 14 (.t 77) (.t 79)))⟩, false), (⟨(some 81), none, (.op (.load (some 14) (.t 80)))⟩, false), (⟨(some 82), none, (.callv (.t 72) [(.t 76), (.t 81)])⟩, false), (⟨(some 83), none, (.op (.bin .int true .lss (.t 82) (.c (.i .i64 0))))⟩, false), (⟨(some 84), none, (.op (.un .not (.t 83)))⟩, false)]
theorem c94d3_w {P : Program} {O : Orc} {S0 : Mem} {rd : Bool} {e : Env} {S : Mem} {d : List Nat} {Q : Kont} : W P O S0 rd (.draw c94d3 []) e S d Q = wFl O c94d3w e S (normK Q d) := W_draw' (by kernel_rfl) (by kernel_rfl)
attribute [go_sem] c94d3_w c94d3w
def c94d4 : List Stage :=
  [⟨[(⟨(some 85), none, (.op (.mv (.t 0)))⟩, 0), (⟨(some 86), none, (.op (.mv (.t 11)))⟩, 0), (⟨(some 87), none, (.op (.mv (.t 0)))⟩, 1), (⟨(some 88), none, (.op (.mv (.t 11)))⟩, 1), (⟨(some 89), none, (.op (.bin .int true .sub (.t 88) (.c (.i .i64 1))))⟩, 1), (⟨(some 90), none, (.op (.mv (.t 0)))⟩, 0), (⟨(some 91), none, (.op (.mv (.t 11)))⟩, 0), (⟨(some 92), none, (.op (.bin .int true .sub (.t 91) (.c (.i .i64 1))))⟩, 0), (⟨(some 93), none, (.op (.iaddr none 14 (.t 90) (.t 92)))⟩, 0), (⟨(some 94), none, (.op (.load (some 14) (.t 93)))⟩, 0), (⟨(some 95), none, (.op (.mv (.t 0)))⟩, 0), (⟨(some 96), none, (.op (.mv (.t 11)))⟩, 0), (⟨(some 97), none, (.op (.iaddr none 14 (.t 95) (.t 96)))⟩, 0), (⟨(some 98), none, (.op (.load (some 14) (.t 97)))⟩, 0), (⟨(some 99), none, (.op (.iaddr none 14 (.t 85) (.t 86)))⟩, 0)], none, some ⟨none, none, (.op (.store 14 (.t 99) (.t 94)))⟩⟩,
    ⟨[(⟨(some 100), none, (.op (.iaddr none 14 (.t 87) (.t 89)))⟩, 1)], none, some ⟨none, none, (.op (.store 14 (.t 100) (.t 98)))⟩⟩,
    ⟨[], none, none⟩]
def c94d4w : List (ROp × Bool) :=
  [(⟨(some 85), none, (.op (.mv (.t 0)))⟩, false), (⟨(some 86), none, (.op (.mv (.t 11)))⟩, false), (⟨(some 87), none, (.op (.mv (.t 0)))⟩, false), (⟨(some 88), none, (.op (.mv (.t 11)))⟩, false), (⟨(some 89), none, (.op (.bin .int true .sub (.t 88) (.c (.i .i64 1))))⟩, false), (⟨(some 90), none, (.op (.mv (.t 0)))⟩, false), (⟨(some 91), none, (.op (.mv (.t 11)))⟩, false), (⟨(some 92), none, (.op (.bin .int true .sub (.t 91) (.c (.i .i64 1))))⟩, false), (⟨(some 93), none, (.op (.iaddr none 14 (.t 90) (.t 92)))⟩, false), (⟨(some 94), none, (.op (.load (some 14) (.t 93)))⟩, false), (⟨(some 95), none, (.op (.mv (.t 0)))⟩, false), (⟨(some 96), none, (.op (.mv (.t 11)))⟩, false), (⟨(some 97), none, (.op (.iaddr none 14 (.t 95) (.t 96)))⟩, false), (⟨(some 98), none, (.op (.load (some 14) (.t 97)))⟩, false), (⟨(some 99), none, (.op (.iaddr none 14 (.t 85) (.t 86)))⟩, false), (⟨none, none, (.op (.store 14 (.t 99) (.t 94)))⟩, false), (⟨(some 100), none, (.op (.iaddr none 14 (.t 87) (.t 89)))⟩, false), (⟨none, none, (.op (.store 14 (.t 100) (.t 98)))⟩, false)]
theorem c94d4_w {P : Program} {O : Orc} {S0 : Mem} {rd : Bool} {e : Env} {S : Mem} {d : List Nat} {Q : Kont} : W P O S0 rd (.draw c94d4 []) e S d Q = wFl O c94d4w e S (normK Q d) := W_draw' (by kernel_rfl) (by kernel_rfl)
attribute [go_sem] c94d4_w c94d4w
def c94l5 : ICode :=
  .seq (.seq (.region [⟨(some 68), none, (.op (.mv (.t 11)))⟩,
    ⟨(some 69), none, (.op (.bin .int true .geq (.t 68) (.c (.i .i64 1))))⟩])
   (.live [0, 3, 2, 1, 9, 10, 11, 69] (.cond (.t 69) (.skip)
   (.exit 4))))
   (.live [0, 3, 2, 1, 9, 10, 11] (.seq (.block 5 (.seq (.seq (.draw c94d3 [])
   (.live [0, 3, 2, 1, 9, 10, 11, 84] (.cond (.t 84) (.exit 4)
   (.skip))))
   (.live [0, 3, 2, 1, 9, 10, 11] (.draw c94d4 []))))
   (.live [0, 3, 2, 1, 9, 10, 11] (.region [⟨(some 70), none, (.op (.mv (.t 11)))⟩,
    ⟨(some 71), none, (.op (.bin .int true .sub (.t 70) (.c (.i .i64 1))))⟩,
    ⟨(some 11), none, (.op (.mv (.t 71)))⟩]))))
def c94d6 : List Stage :=
  [⟨[(⟨(some 112), none, (.op (.mv (.t 3)))⟩, 0), (⟨(some 113), none, (.op (.mv (.t 0)))⟩, 0), (⟨(some 114), none, (.op (.mv (.t 12)))⟩, 0), (⟨(some 115), none, (.op (.iaddr none 14 (.t 113) (.t 114)))⟩, 0), (⟨(some 116), none, (.op (.load (some 14) (.t 115)))⟩, 0), (⟨(some 117), none, (.op (.mv (.t 0)))⟩, 0), (⟨(some 118), none, (.op (.mv (.t 12)))⟩, 0), (⟨(some 119), none, (.op (.bin .int true .sub (.t 118) (.c (.i .i64 1))))⟩, 0), (⟨(some 120), none, (.op (.iaddr none 14 (.t 117) (.t 119)))⟩, 0), (⟨(some 121), none, (.op (.load (some 14) (.t 120)))⟩, 0)], none, some ⟨(some 122), none, (.callv (.t 112) [(.t 116), (.t 121)])⟩⟩,
    ⟨[(⟨(some 123), none, (.op (.bin .int true .lss (.t 122) (.c (.i .i64 0))))⟩, 1), (⟨(some 124), none, (.op (.un .not (.t 123)))⟩, 1)], none, none⟩]
def c94d6w : List (ROp × Bool) :=
  [(⟨(some 112), none, (.op (.mv (.t 3)))⟩, false), (⟨(some 113), none, (.op (.mv (.t 0)))⟩, false), (⟨(some 114), none, (.op (.mv (.t 12)))⟩, false), (⟨(some 115), none, (.op (.iaddr none 14 (.t 113) (.t 114)))⟩, false), (⟨(some 116), none, (.op (.load (some 14) (.t 115)))⟩, false), (⟨(some 117), none, (.op (.mv (.t 0)))⟩, false), (⟨(some 118), none, (.op (.mv (.t 12)))⟩, false), (⟨(some 119), none, (.op (.bin .int true .sub (.t 118) (.c (.i .i64 1))))⟩, false), (⟨(some 120), none, (.op (.iaddr none 14 (.t 117) (.t 119)))⟩, false), (⟨(some 121), none, (.op (.load (some 14) (.t 120)))⟩, false), (⟨(some 122), none, (.callv (.t 112) [(.t 116), (.t 121)])⟩, false), (⟨(some 123), none, (.op (.bin .int true .lss (.t 122) (.c (.i .i64 0))))⟩, false), (⟨(some 124), none, (.op (.un .not (.t 123)))⟩, false)]
theorem c94d6_w {P : Program} {O : Orc} {S0 : Mem} {rd : Bool} {e : Env} {S : Mem} {d : List Nat} {Q : Kont} : W P O S0 rd (.draw c94d6 []) e S d Q = wFl O c94d6w e S (normK Q d) := W_draw' (by kernel_rfl) (by kernel_rfl)
attribute [go_sem] c94d6_w c94d6w
def c94d7 : List Stage :=
  [⟨[(⟨(some 125), none, (.op (.mv (.t 0)))⟩, 0), (⟨(some 126), none, (.op (.mv (.t 12)))⟩, 0), (⟨(some 127), none, (.op (.mv (.t 0)))⟩, 1), (⟨(some 128), none, (.op (.mv (.t 12)))⟩, 1), (⟨(some 129), none, (.op (.bin .int true .sub (.t 128) (.c (.i .i64 1))))⟩, 1), (⟨(some 130), none, (.op (.mv (.t 0)))⟩, 0), (⟨(some 131), none, (.op (.mv (.t 12)))⟩, 0), (⟨(some 132), none, (.op (.bin .int true .sub (.t 131) (.c (.i .i64 1))))⟩, 0), (⟨(some 133), none, (.op (.iaddr none 14 (.t 130) (.t 132)))⟩, 0), (⟨(some 134), none, (.op (.load (some 14) (.t 133)))⟩, 0), (⟨(some 135), none, (.op (.mv (.t 0)))⟩, 0), (⟨(some 136), none, (.op (.mv (.t 12)))⟩, 0), (⟨(some 137), none, (.op (.iaddr none 14 (.t 135) (.t 136)))⟩, 0), (⟨(some 138), none, (.op (.load (some 14) (.t 137)))⟩, 0), (⟨(some 139), none, (.op (.iaddr none 14 (.t 125) (.t 126)))⟩, 0)], none, some ⟨none, none, (.op (.store 14 (.t 139) (.t 134)))⟩⟩,
    ⟨[(⟨(some 140), none, (.op (.iaddr none 14 (.t 127) (.t 129)))⟩, 1)], none, some ⟨none, none, (.op (.store 14 (.t 140) (.t 138)))⟩⟩,
    ⟨[], none, none⟩]
def c94d7w : List (ROp × Bool) :=
  [(⟨(some 125), none, (.op (.mv (.t 0)))⟩, false), (⟨(some 126), none, (.op (.mv (.t 12)))⟩, false), (⟨(some 127), none, (.op (.mv (.t 0)))⟩, false), (⟨(some 128), none, (.op (.mv (.t 12)))⟩, false), (⟨(some 129), none, (.op (.bin .int true .sub (.t 128) (.c (.i .i64 1))))⟩, false), (⟨(some 130), none, (.op (.mv (.t 0)))⟩, false), (⟨(some 131), none, (.op (.mv (.t 12)))⟩, false), (⟨(some 132), none, (.op (.bin .int true .sub (.t 131) (.c (.i .i64 1))))⟩, false), (⟨(some 133), none, (.op (.iaddr none 14 (.t 130) (.t 132)))⟩, false), (⟨(some 134), none, (.op (.load (some 14) (.t 133)))⟩, false), (⟨(some 135), none, (.op (.mv (.t 0)))⟩, false), (⟨(some 136), none, (.op (.mv (.t 12)))⟩, false), (⟨(some 137), none, (.op (.iaddr none 14 (.t 135) (.t 136)))⟩, false), (⟨(some 138), none, (.op (.load (some 14) (.t 137)))⟩, false), (⟨(some 139), none, (.op (.iaddr none 14 (.t 125) (.t 126)))⟩, false), (⟨none, none, (.op (.store 14 (.t 139) (.t 134)))⟩, false), (⟨(some 140), none, (.op (.iaddr none 14 (.t 127) (.t 129)))⟩, false), (⟨none, none, (.op (.store 14 (.t 140) (.t 138)))⟩, false)]
theorem c94d7_w {P : Program} {O : Orc} {S0 : Mem} {rd : Bool} {e : Env} {S : Mem} {d : List Nat} {Q : Kont} : W P O S0 rd (.draw c94d7 []) e S d Q = wFl O c94d7w e S (normK Q d) := W_draw' (by kernel_rfl) (by kernel_rfl)
attribute [go_sem] c94d7_w c94d7w
def c94l8 : ICode :=
  .seq (.seq (.region [⟨(some 107), none, (.op (.mv (.t 12)))⟩,
    ⟨(some 108), none, (.op (.mv (.t 2)))⟩,
    ⟨(some 109), none, (.op (.bin .int false .lss (.t 107) (.t 108)))⟩])
   (.live [0, 3, 2, 1, 9, 10, 12, 109] (.cond (.t 109) (.skip)
   (.exit 6))))
   (.live [0, 3, 2, 1, 9, 10, 12] (.seq (.block 7 (.seq (.seq (.draw c94d6 [])
   (.live [0, 3, 2, 1, 9, 10, 12, 124] (.cond (.t 124) (.exit 6)
   (.skip))))
   (.live [0, 3, 2, 1, 9, 10, 12] (.draw c94d7 []))))
   (.live [0, 3, 2, 1, 9, 10, 12] (.region [⟨(some 110), none, (.op (.mv (.t 12)))⟩,
    ⟨(some 111), none, (.op (.bin .int true .add (.t 110) (.c (.i .i64 1))))⟩,
    ⟨(some 12), none, (.op (.mv (.t 111)))⟩]))))
def c94l9 : ICode :=
  .seq (.seq (.region [⟨(some 15), none, (.op (.mv (.t 10)))⟩,
    ⟨(some 16), none, (.op (.bin .int true .lss (.t 15) (.c (.i .i64 5))))⟩])
   (.live [0, 3, 2, 1, 10, 9, 16] (.cond (.t 16) (.skip)
   (.exit 0))))
   (.live [0, 3, 2, 1, 10, 9] (.seq (.block 1 (.seq (.block 2 (.loop [0, 3, 2, 1, 10, 9] c94l1))
   (.live [0, 3, 2, 1, 9, 10] (.seq (.seq (.region [⟨(some 39), none, (.op (.mv (.t 9)))⟩,
    ⟨(some 40), none, (.op (.mv (.t 2)))⟩,
    ⟨(some 41), none, (.op (.bin .int false .eql (.t 39) (.t 40)))⟩])
   (.live [0, 3, 2, 1, 9, 10, 41] (.cond (.t 41) (.seq (.region [⟨(some 8), none, (.op (.mv (.c (.b true))))⟩])
   (.ret))
   (.skip))))
   (.live [0, 3, 2, 1, 9, 10] (.seq (.seq (.region [⟨(some 42), none, (.op (.mv (.t 2)))⟩,
    ⟨(some 43), none, (.op (.mv (.t 1)))⟩,
    ⟨(some 44), none, (.op (.bin .int false .sub (.t 42) (.t 43)))⟩,
    ⟨(some 45), none, (.op (.bin .int true .lss (.t 44) (.c (.i .i64 50))))⟩])
   (.live [0, 3, 2, 1, 9, 10, 45] (.cond (.t 45) (.seq (.region [⟨(some 8), none, (.op (.mv (.c (.b false))))⟩])
   (.ret))
   (.skip))))
   (.live [0, 3, 2, 1, 9, 10] (.seq (.draw c94d2 [])
   (.live [0, 3, 2, 1, 9, 10] (.seq (.seq (.region [⟨(some 62), none, (.op (.mv (.t 9)))⟩,
    ⟨(some 63), none, (.op (.mv (.t 1)))⟩,
    ⟨(some 64), none, (.op (.bin .int false .sub (.t 62) (.t 63)))⟩,
    ⟨(some 65), none, (.op (.bin .int true .geq (.t 64) (.c (.i .i64 2))))⟩])
   (.live [0, 3, 2, 1, 9, 10, 65] (.cond (.t 65) (.seq (.region [⟨(some 66), none, (.op (.mv (.t 9)))⟩,
    ⟨(some 67), none, (.op (.bin .int true .sub (.t 66) (.c (.i .i64 1))))⟩,
    ⟨(some 11), none, (.op (.mv (.t 67)))⟩])
   (.live [0, 3, 2, 1, 9, 10, 11] (.block 4 (.loop [0, 3, 2, 1, 9, 10, 11] c94l5))))
   (.skip))))
   (.live [0, 3, 2, 1, 9, 10] (.seq (.region [⟨(some 101), none, (.op (.mv (.t 2)))⟩,
    ⟨(some 102), none, (.op (.mv (.t 9)))⟩,
    ⟨(some 103), none, (.op (.bin .int false .sub (.t 101) (.t 102)))⟩,
    ⟨(some 104), none, (.op (.bin .int true .geq (.t 103) (.c (.i .i64 2))))⟩])
   (.live [0, 3, 2, 1, 9, 10, 104] (.cond (.t 104) (.seq (.region [⟨(some 105), none, (.op (.mv (.t 9)))⟩,
    ⟨(some 106), none, (.op (.bin .int true .add (.t 105) (.c (.i .i64 1))))⟩,
    ⟨(some 12), none, (.op (.mv (.t 106)))⟩])
   (.live [0, 3, 2, 1, 9, 10, 12] (.block 6 (.loop [0, 3, 2, 1, 9, 10, 12] c94l8))))
   (.skip)))))))))))))))
   (.live [0, 3, 2, 1, 9, 10] (.region [⟨(some 17), none, (.op (.mv (.t 10)))⟩,
    ⟨(some 18), none, (.op (.bin .int true .add (.t 17) (.c (.i .i64 1))))⟩,
    ⟨(some 10), none, (.op (.mv (.t 18)))⟩]))))
def c94 : IFunc := ⟨4, [.tmp 8],
  .seq (.region [⟨(some 8), none, (.op (.mv (.c (.b false))))⟩])
   (.live [0, 3, 2, 1] (.seq (.region [⟨(some 13), none, (.op (.mv (.t 1)))⟩,
    ⟨(some 14), none, (.op (.bin .int true .add (.t 13) (.c (.i .i64 1))))⟩,
    ⟨(some 9), none, (.op (.mv (.t 14)))⟩])
   (.live [0, 3, 2, 1, 9] (.seq (.seq (.region [⟨(some 10), none, (.op (.mv (.c (.i .i64 0))))⟩])
   (.live [0, 3, 2, 1, 10, 9] (.block 0 (.loop [0, 3, 2, 1, 10, 9] c94l9))))
   (.live [] (.seq (.region [⟨(some 8), none, (.op (.mv (.c (.b false))))⟩])
   (.ret))))))),
  []⟩


/- slices.partitionEqualCmpFunc[floodgate/api.Entry] -/
def c95d0 : List Stage :=
  [⟨[(⟨(some 13), none, (.op (.mv (.t 0)))⟩, 0), (⟨(some 14), none, (.op (.mv (.t 1)))⟩, 0), (⟨(some 15), none, (.op (.mv (.t 0)))⟩, 1), (⟨(some 16), none, (.op (.mv (.t 3)))⟩, 1), (⟨(some 17), none, (.op (.mv (.t 0)))⟩, 0), (⟨(some 18), none, (.op (.mv (.t 3)))⟩, 0), (⟨(some 19), none, (.op (.iaddr none 14 (.t 17) (.t 18)))⟩, 0), (⟨(some 20), none, (.op (.load (some 14) (.t 19)))⟩, 0), (⟨(some 21), none, (.op (.mv (.t 0)))⟩, 0), (⟨(some 22), none, (.op (.mv (.t 1)))⟩, 0), (⟨(some 23), none, (.op (.iaddr none 14 (.t 21) (.t 22)))⟩, 0), (⟨(some 24), none, (.op (.load (some 14) (.t 23)))⟩, 0), (⟨(some 25), none, (.op (.iaddr none 14 (.t 13) (.t 14)))⟩, 0)], none, some ⟨none, none, (.op (.store 14 (.t 25) (.t 20)))⟩⟩,
    ⟨[(⟨(some 26), none, (.op (.iaddr none 14 (.t 15) (.t 16)))⟩, 1)], none, some ⟨none, none, (.op (.store 14 (.t 26) (.t 24)))⟩⟩,
    ⟨[], none, none⟩]
def c95d0w : List (ROp × Bool) :=
  [(⟨(some 13), none, (.op (.mv (.t 0)))⟩, false), (⟨(some 14), none, (.op (.mv (.t 1)))⟩, false), (⟨(some 15), none, (.op (.mv (.t 0)))⟩, false), (⟨(some 16), none, (.op (.mv (.t 3)))⟩, false), (⟨(some 17), none, (.op (.mv (.t 0)))⟩, false), (⟨(some 18), none, (.op (.mv (.t 3)))⟩, false), (⟨(some 19), none, (.op (.iaddr none 14 (.t 17) (.t 18)))⟩, false), (⟨(some 20), none, (.op (.load (some 14) (.t 19)))⟩, false), (⟨(some 21), none, (.op (.mv (.t 0)))⟩, false), (⟨(some 22), none, (.op (.mv (.t 1)))⟩, false), (⟨(some 23), none, (.op (.iaddr none 14 (.t 21) (.t 22)))⟩, false), (⟨(some 24), none, (.op (.load (some 14) (.t 23)))⟩, false), (⟨(some 25), none, (.op (.iaddr none 14 (.t 13) (.t 14)))⟩, false), (⟨none, none, (.op (.store 14 (.t 25) (.t 20)))⟩, false), (⟨(some 26), none, (.op (.iaddr none 14 (.t 15) (.t 16)))⟩, false), (⟨none, none, (.op (.store 14 (.t 26) (.t 24)))⟩, false)]
theorem c95d0_w {P : Program} {O : Orc} {S0 : Mem} {rd : Bool} {e : Env} {S : Mem} {d : List Nat} {Q : Kont} : W P O S0 rd (.draw c95d0 []) e S d Q = wFl O c95d0w e S (normK Q d) := W_draw' (by kernel_rfl) (by kernel_rfl)
attribute [go_sem] c95d0_w c95d0w
def c95d1 : List Stage :=
  [⟨[(⟨(some 31), none, (.op (.mv (.t 11)))⟩, 0), (⟨(some 32), none, (.op (.mv (.t 12)))⟩, 0), (⟨(some 33), none, (.op (.bin .int false .leq (.t 31) (.t 32)))⟩, 0), (⟨(some 34), none, (.op (.mv (.t 33)))⟩, 0), (⟨(some 35), some (34, true), (.op (.mv (.t 4)))⟩, 0), (⟨(some 36), some (34, true), (.op (.mv (.t 0)))⟩, 0), (⟨(some 37), some (34, true), (.op (.mv (.t 1)))⟩, 0), (⟨(some 38), some (34, true), (.op (.iaddr none 14 (.t 36) (.t 37)))⟩, 0), (⟨(some 39), some (34, true), (.op (.load (some 14) (.t 38)))⟩, 0), (⟨(some 40), some (34, true), (.op (.mv (.t 0)))⟩, 0), (⟨(some 41), some (34, true), (.op (.mv (.t 11)))⟩, 0), (⟨(some 42), some (34, true), (.op (.iaddr none 14 (.t 40) (.t 41)))⟩, 0), (⟨(some 43), some (34, true), (.op (.load (some 14) (.t 42)))⟩, 0)], none, some ⟨(some 44), some (34, true), (.callv (.t 35) [(.t 39), (.t 43)])⟩⟩,
    ⟨[(⟨(some 45), some (34, true), (.op (.bin .int true .lss (.t 44) (.c (.i .i64 0))))⟩, 1), (⟨(some 46), some (34, true), (.op (.un .not (.t 45)))⟩, 1), (⟨(some 47), none, (.op (.pick (.t 34) (.t 46) (.c (.b false))))⟩, 1)], none, none⟩]
def c95d1w : List (ROp × Bool) :=
  [(⟨(some 31), none, (.op (.mv (.t 11)))⟩, false), (⟨(some 32), none, (.op (.mv (.t 12)))⟩, false), (⟨(some 33), none, (.op (.bin .int false .leq (.t 31) (.t 32)))⟩, false), (⟨(some 34), none, (.op (.mv (.t 33)))⟩, false), (⟨(some 35), some (34, true), (.op (.mv (.t 4)))⟩, false), (⟨(some 36), some (34, true), (.op (.mv (.t 0)))⟩, false), (⟨(some 37), some (34, true), (.op (.mv (.t 1)))⟩, false), (⟨(some 38), some (34, true), (.op (.iaddr none 14 (.t 36) (.t 37)))⟩, false), (⟨(some 39), some (34, true), (.op (.load (some 14) (.t 38)))⟩, false), (⟨(some 40), some (34, true), (.op (.mv (.t 0)))⟩, false), (⟨(some 41), some (34, true), (.op (.mv (.t 11)))⟩, false), (⟨(some 42), some (34, true), (.op (.iaddr none 14 (.t 40) (.t 41)))⟩, false), (⟨(some 43), some (34, true), (.op (.load (some 14) (.t 42)))⟩, false), (⟨(some 44), some (34, true), (.callv (.t 35) [(.t 39), (.t 43)])⟩, false), (⟨(some 45), some (34, true), (.op (.bin .int true .lss (.t 44) (.c (.i .i64 0))))⟩, false), (⟨(some 46), some (34, true), (.op (.un .not (.t 45)))⟩, false), (⟨(some 47), none, (.op (.pick (.t 34) (.t 46) (.c (.b false))))⟩, false)]
theorem c95d1_w {P : Program} {O : Orc} {S0 : Mem} {rd : Bool} {e : Env} {S : Mem} {d : List Nat} {Q : Kont} : W P O S0 rd (.draw c95d1 []) e S d Q = wFl O c95d1w e S (normK Q d) := W_draw' (by kernel_rfl) (by kernel_rfl)
attribute [go_sem] c95d1_w c95d1w
def c95l2 : ICode :=
  .seq (.seq (.draw c95d1 [])
   (.live [0, 4, 1, 12, 11, 47] (.cond (.t 47) (.skip)
   (.exit 2))))
   (.live [0, 4, 1, 12, 11] (.block 3 (.region [⟨(some 48), none, (.op (.mv (.t 11)))⟩,
    ⟨(some 49), none, (.op (.bin .int true .add (.t 48) (.c (.i .i64 1))))⟩,
    ⟨(some 11), none, (.op (.mv (.t 49)))⟩])))
def c95d3 : List Stage :=
  [⟨[(⟨(some 50), none, (.op (.mv (.t 11)))⟩, 0), (⟨(some 51), none, (.op (.mv (.t 12)))⟩, 0), (⟨(some 52), none, (.op (.bin .int false .leq (.t 50) (.t 51)))⟩, 0), (⟨(some 53), none, (.op (.mv (.t 52)))⟩, 0), (⟨(some 54), some (53, true), (.op (.mv (.t 4)))⟩, 0), (⟨(some 55), some (53, true), (.op (.mv (.t 0)))⟩, 0), (⟨(some 56), some (53, true), (.op (.mv (.t 1)))⟩, 0), (⟨(some 57), some (53, true), (.op (.iaddr none 14 (.t 55) (.t 56)))⟩, 0), (⟨(some 58), some (53, true), (.op (.load (some 14) (.t 57)))⟩, 0), (⟨(some 59), some (53, true), (.op (.mv (.t 0)))⟩, 0), (⟨(some 60), some (53, true), (.op (.mv (.t 12)))⟩, 0), (⟨(some 61), some (53, true), (.op (.iaddr none 14 (.t 59) (.t 60)))⟩, 0), (⟨(some 62), some (53, true), (.op (.load (some 14) (.t 61)))⟩, 0)], none, some ⟨(some 63), some (53, true), (.callv (.t 54) [(.t 58), (.t 62)])⟩⟩,
    ⟨[(⟨(some 64), some (53, true), (.op (.bin .int true .lss (.t 63) (.c (.i .i64 0))))⟩, 1), (⟨(some 65), none, (.op (.pick (.t 53) (.t 64) (.c (.b false))))⟩, 1)], none, none⟩]
def c95d3w : List (ROp × Bool) :=
  [(⟨(some 50), none, (.op (.mv (.t 11)))⟩, false), (⟨(some 51), none, (.op (.mv (.t 12)))⟩, false), (⟨(some 52), none, (.op (.bin .int false .leq (.t 50) (.t 51)))⟩, false), (⟨(some 53), none, (.op (.mv (.t 52)))⟩, false), (⟨(some 54), some (53, true), (.op (.mv (.t 4)))⟩, false), (⟨(some 55), some (53, true), (.op (.mv (.t 0)))⟩, false), (⟨(some 56), some (53, true), (.op (.mv (.t 1)))⟩, false), (⟨(some 57), some (53, true), (.op (.iaddr none 14 (.t 55) (.t 56)))⟩, false), (⟨(some 58), some (53, true), (.op (.load (some 14) (.t 57)))⟩, false), (⟨(some 59), some (53, true), (.op (.mv (.t 0)))⟩, false), (⟨(some 60), some (53, true), (.op (.mv (.t 12)))⟩, false), (⟨(some 61), some (53, true), (.op (.iaddr none 14 (.t 59) (.t 60)))⟩, false), (⟨(some 62), some (53, true), (.op (.load (some 14) (.t 61)))⟩, false), (⟨(some 63), some (53, true), (.callv (.t 54) [(.t 58), (.t 62)])⟩, false), (⟨(some 64), some (53, true), (.op (.bin .int true .lss (.t 63) (.c (.i .i64 0))))⟩, false), (⟨(some 65), none, (.op (.pick (.t 53) (.t 64) (.c (.b false))))⟩, false)]
theorem c95d3_w {P : Program} {O : Orc} {S0 : Mem} {rd : Bool} {e : Env} {S : Mem} {d : List Nat} {Q : Kont} : W P O S0 rd (.draw c95d3 []) e S d Q = wFl O c95d3w e S (normK Q d) := W_draw' (by kernel_rfl) (by kernel_rfl)
attribute [go_sem] c95d3_w c95d3w
def c95l4 : ICode :=
  .seq (.seq (.draw c95d3 [])
   (.live [11, 0, 4, 1, 12, 65] (.cond (.t 65) (.skip)
   (.exit 4))))
   (.live [11, 0, 4, 1, 12] (.block 5 (.region [⟨(some 66), none, (.op (.mv (.t 12)))⟩,
    ⟨(some 67), none, (.op (.bin .int true .sub (.t 66) (.c (.i .i64 1))))⟩,
    ⟨(some 12), none, (.op (.mv (.t 67)))⟩])))
def c95d5 : List Stage :=
  [⟨[(⟨(some 71), none, (.op (.mv (.t 0)))⟩, 0), (⟨(some 72), none, (.op (.mv (.t 11)))⟩, 0), (⟨(some 73), none, (.op (.mv (.t 0)))⟩, 1), (⟨(some 74), none, (.op (.mv (.t 12)))⟩, 1), (⟨(some 75), none, (.op (.mv (.t 0)))⟩, 0), (⟨(some 76), none, (.op (.mv (.t 12)))⟩, 0), (⟨(some 77), none, (.op (.iaddr none 14 (.t 75) (.t 76)))⟩, 0), (⟨(some 78), none, (.op (.load (some 14) (.t 77)))⟩, 0), (⟨(some 79), none, (.op (.mv (.t 0)))⟩, 0), (⟨(some 80), none, (.op (.mv (.t 11)))⟩, 0), (⟨(some 81), none, (.op (.iaddr none 14 (.t 79) (.t 80)))⟩, 0), (⟨(some 82), none, (.op (.load (some 14) (.t 81)))⟩, 0), (⟨(some 83), none, (.op (.iaddr none 14 (.t 71) (.t 72)))⟩, 0)], none, some ⟨none, none, (.op (.store 14 (.t 83) (.t 78)))⟩⟩,
    ⟨[(⟨(some 84), none, (.op (.iaddr none 14 (.t 73) (.t 74)))⟩, 1)], none, some ⟨none, none, (.op (.store 14 (.t 84) (.t 82)))⟩⟩,
    ⟨[], none, none⟩]
def c95d5w : List (ROp × Bool) :=
  [(⟨(some 71), none, (.op (.mv (.t 0)))⟩, false), (⟨(some 72), none, (.op (.mv (.t 11)))⟩, false), (⟨(some 73), none, (.op (.mv (.t 0)))⟩, false), (⟨(some 74), none, (.op (.mv (.t 12)))⟩, false), (⟨(some 75), none, (.op (.mv (.t 0)))⟩, false), (⟨(some 76), none, (.op (.mv (.t 12)))⟩, false), (⟨(some 77), none, (.op (.iaddr none 14 (.t 75) (.t 76)))⟩, false), (⟨(some 78), none, (.op (.load (some 14) (.t 77)))⟩, false), (⟨(some 79), none, (.op (.mv (.t 0)))⟩, false), (⟨(some 80), none, (.op (.mv (.t 11)))⟩, false), (⟨(some 81), none, (.op (.iaddr none 14 (.t 79) (.t 80)))⟩, false), (⟨(some 82), none, (.op (.load (some 14) (.t 81)))⟩, false), (⟨(some 83), none, (.op (.iaddr none 14 (.t 71) (.t 72)))⟩, false), (⟨none, none, (.op (.store 14 (.t 83) (.t 78)))⟩, false), (⟨(some 84), none, (.op (.iaddr none 14 (.t 73) (.t 74)))⟩, false), (⟨none, none, (.op (.store 14 (.t 84) (.t 82)))⟩, false)]
theorem c95d5_w {P : Program} {O : Orc} {S0 : Mem} {rd : Bool} {e : Env} {S : Mem} {d : List Nat} {Q : Kont} : W P O S0 rd (.draw c95d5 []) e S d Q = wFl O c95d5w e S (normK Q d) := W_draw' (by kernel_rfl) (by kernel_rfl)
attribute [go_sem] c95d5_w c95d5w
def c95l6 : ICode :=
  .block 1 (.seq (.block 2 (.loop [0, 4, 1, 12, 11] c95l2))
   (.live [11, 0, 4, 1, 12] (.seq (.block 4 (.loop [11, 0, 4, 1, 12] c95l4))
   (.live [11, 0, 4, 1, 12] (.seq (.seq (.region [⟨(some 68), none, (.op (.mv (.t 11)))⟩,
    ⟨(some 69), none, (.op (.mv (.t 12)))⟩,
    ⟨(some 70), none, (.op (.bin .int false .gtr (.t 68) (.t 69)))⟩])
   (.live [11, 0, 4, 1, 12, 70] (.cond (.t 70) (.exit 0)
   (.skip))))
   (.live [0, 4, 1, 12, 11] (.seq (.draw c95d5 [])
   (.live [0, 4, 1, 12, 11] (.seq (.region [⟨(some 85), none, (.op (.mv (.t 11)))⟩,
    ⟨(some 86), none, (.op (.bin .int true .add (.t 85) (.c (.i .i64 1))))⟩,
    ⟨(some 11), none, (.op (.mv (.t 86)))⟩])
   (.live [0, 4, 1, 11, 12] (.region [⟨(some 87), none, (.op (.mv (.t 12)))⟩,
    ⟨(some 88), none, (.op (.bin .int true .sub (.t 87) (.c (.i .i64 1))))⟩,
    ⟨(some 12), none, (.op (.mv (.t 88)))⟩])))))))))))
def c95 : IFunc := ⟨5, [.tmp 10],
  .seq (.region [⟨(some 10), none, (.op (.mv (.c (.i .i64 0))))⟩])
   (.live [0, 4, 1, 2, 3] (.seq (.draw c95d0 [])
   (.live [0, 4, 1, 2] (.seq (.region [⟨(some 27), none, (.op (.mv (.t 1)))⟩,
    ⟨(some 28), none, (.op (.bin .int true .add (.t 27) (.c (.i .i64 1))))⟩,
    ⟨(some 29), none, (.op (.mv (.t 2)))⟩,
    ⟨(some 30), none, (.op (.bin .int true .sub (.t 29) (.c (.i .i64 1))))⟩,
    ⟨(some 11), none, (.op (.mv (.t 28)))⟩,
    ⟨(some 12), none, (.op (.mv (.t 30)))⟩])
   (.live [0, 4, 1, 12, 11] (.seq (.block 0 (.loop [0, 4, 1, 12, 11] c95l6))
   (.live [11] (.seq (.region [⟨(some 89), none, (.op (.mv (.t 11)))⟩,
    ⟨(some 10), none, (.op (.mv (.t 89)))⟩])
   (.ret))))))))),
  []⟩


/- slices.partitionCmpFunc[floodgate/api.Entry] -/
def c96d0 : List Stage :=
  [⟨[(⟨(some 14), none, (.op (.mv (.t 0)))⟩, 0), (⟨(some 15), none, (.op (.mv (.t 1)))⟩, 0), (⟨(some 16), none, (.op (.mv (.t 0)))⟩, 1), (⟨(some 17), none, (.op (.mv (.t 3)))⟩, 1), (⟨(some 18), none, (.op (.mv (.t 0)))⟩, 0), (⟨(some 19), none, (.op (.mv (.t 3)))⟩, 0), (⟨(some 20), none, (.op (.iaddr none 14 (.t 18) (.t 19)))⟩, 0), (⟨(some 21), none, (.op (.load (some 14) (.t 20)))⟩, 0), (⟨(some 22), none, (.op (.mv (.t 0)))⟩, 0), (⟨(some 23), none, (.op (.mv (.t 1)))⟩, 0), (⟨(some 24), none, (.op (.iaddr none 14 (.t 22) (.t 23)))⟩, 0), (⟨(some 25), none, (.op (.load (some 14) (.t 24)))⟩, 0), (⟨(some 26), none, (.op (.iaddr none 14 (.t 14) (.t 15)))⟩, 0)], none, some ⟨none, none, (.op (.store 14 (.t 26) (.t 21)))⟩⟩,
    ⟨[(⟨(some 27), none, (.op (.iaddr none 14 (.t 16) (.t 17)))⟩, 1)], none, some ⟨none, none, (.op (.store 14 (.t 27) (.t 25)))⟩⟩,
    ⟨[], none, none⟩]
def c96d0w : List (ROp × Bool) :=
  [(⟨(some 14), none, (.op (.mv (.t 0)))⟩, false), (⟨(some 15), none, (.op (.mv (.t 1)))⟩, false), (⟨(some 16), none, (.op (.mv (.t 0)))⟩, false), (⟨(some 17), none, (.op (.mv (.t 3)))⟩, false), (⟨(some 18), none, (.op (.mv (.t 0)))⟩, false), (⟨(some 19), none, (.op (.mv (.t 3)))⟩, false), (⟨(some 20), none, (.op (.iaddr none 14 (.t 18) (.t 19)))⟩, false), (⟨(some 21), none, (.op (.load (some 14) (.t 20)))⟩, false), (⟨(some 22), none, (.op (.mv (.t 0)))⟩, false), (⟨(some 23), none, (.op (.mv (.t 1)))⟩, false), (⟨(some 24), none, (.op (.iaddr none 14 (.t 22) (.t 23)))⟩, false), (⟨(some 25), none, (.op (.load (some 14) (.t 24)))⟩, false), (⟨(some 26), none, (.op (.iaddr none 14 (.t 14) (.t 15)))⟩, false), (⟨none, none, (.op (.store 14 (.t 26) (.t 21)))⟩, false), (⟨(some 27), none, (.op (.iaddr none 14 (.t 16) (.t 17)))⟩, false), (⟨none, none, (.op (.store 14 (.t 27) (.t 25)))⟩, false)]
theorem c96d0_w {P : Program} {O : Orc} {S0 : Mem} {rd : Bool} {e : Env} {S : Mem} {d : List Nat} {Q : Kont} : W P O S0 rd (.draw c96d0 []) e S d Q = wFl O c96d0w e S (normK Q d) := W_draw' (by kernel_rfl) (by kernel_rfl)
attribute [go_sem] c96d0_w c96d0w
def c96d1 : List Stage :=
  [⟨[(⟨(some 32), none, (.op (.mv (.t 12)))⟩, 0), (⟨(some 33), none, (.op (.mv (.t 13)))⟩, 0), (⟨(some 34), none, (.op (.bin .int false .leq (.t 32) (.t 33)))⟩, 0), (⟨(some 35), none, (.op (.mv (.t 34)))⟩, 0), (⟨(some 36), some (35, true), (.op (.mv (.t 4)))⟩, 0), (⟨(some 37), some (35, true), (.op (.mv (.t 0)))⟩, 0), (⟨(some 38), some (35, true), (.op (.mv (.t 12)))⟩, 0), (⟨(some 39), some (35, true), (.op (.iaddr none 14 (.t 37) (.t 38)))⟩, 0), (⟨(some 40), some (35, true), (.op (.load (some 14) (.t 39)))⟩, 0), (⟨(some 41), some (35, true), (.op (.mv (.t 0)))⟩, 0), (⟨(some 42), some (35, true), (.op (.mv (.t 1)))⟩, 0), (⟨(some 43), some (35, true), (.op (.iaddr none 14 (.t 41) (.t 42)))⟩, 0), (⟨(some 44), some (35, true), (.op (.load (some 14) (.t 43)))⟩, 0)], none, some ⟨(some 45), some (35, true), (.callv (.t 36) [(.t 40), (.t 44)])⟩⟩,
    ⟨[(⟨(some 46), some (35, true), (.op (.bin .int true .lss (.t 45) (.c (.i .i64 0))))⟩, 1), (⟨(some 47), none, (.op (.pick (.t 35) (.t 46) (.c (.b false))))⟩, 1)], none, none⟩]
def c96d1w : List (ROp × Bool) :=
  [(⟨(some 32), none, (.op (.mv (.t 12)))⟩, false), (⟨(some 33), none, (.op (.mv (.t 13)))⟩, false), (⟨(some 34), none, (.op (.bin .int false .leq (.t 32) (.t 33)))⟩, false), (⟨(some 35), none, (.op (.mv (.t 34)))⟩, false), (⟨(some 36), some (35, true), (.op (.mv (.t 4)))⟩, false), (⟨(some 37), some (35, true), (.op (.mv (.t 0)))⟩, false), (⟨(some 38), some (35, true), (.op (.mv (.t 12)))⟩, false), (⟨(some 39), some (35, true), (.op (.iaddr none 14 (.t 37) (.t 38)))⟩, false), (⟨(some 40), some (35, true), (.op (.load (some 14) (.t 39)))⟩, false), (⟨(some 41), some (35, true), (.op (.mv (.t 0)))⟩, false), (⟨(some 42), some (35, true), (.op (.mv (.t 1)))⟩, false), (⟨(some 43), some (35, true), (.op (.iaddr none 14 (.t 41) (.t 42)))⟩, false), (⟨(some 44), some (35, true), (.op (.load (some 14) (.t 43)))⟩, false), (⟨(some 45), some (35, true), (.callv (.t 36) [(.t 40), (.t 44)])⟩, false), (⟨(some 46), some (35, true), (.op (.bin .int true .lss (.t 45) (.c (.i .i64 0))))⟩, false), (⟨(some 47), none, (.op (.pick (.t 35) (.t 46) (.c (.b false))))⟩, false)]
theorem c96d1_w {P : Program} {O : Orc} {S0 : Mem} {rd : Bool} {e : Env} {S : Mem} {d : List Nat} {Q : Kont} : W P O S0 rd (.draw c96d1 []) e S d Q = wFl O c96d1w e S (normK Q d) := W_draw' (by kernel_rfl) (by kernel_rfl)
attribute [go_sem] c96d1_w c96d1w
def c96l2 : ICode :=
  .seq (.seq (.draw c96d1 [])
   (.live [1, 0, 4, 13, 12, 47] (.cond (.t 47) (.skip)
   (.exit 0))))
   (.live [1, 0, 4, 13, 12] (.block 1 (.region [⟨(some 48), none, (.op (.mv (.t 12)))⟩,
    ⟨(some 49), none, (.op (.bin .int true .add (.t 48) (.c (.i .i64 1))))⟩,
    ⟨(some 12), none, (.op (.mv (.t 49)))⟩])))
def c96d3 : List Stage :=
  [⟨[(⟨(some 50), none, (.op (.mv (.t 12)))⟩, 0), (⟨(some 51), none, (.op (.mv (.t 13)))⟩, 0), (⟨(some 52), none, (.op (.bin .int false .leq (.t 50) (.t 51)))⟩, 0), (⟨(some 53), none, (.op (.mv (.t 52)))⟩, 0), (⟨(some 54), some (53, true), (.op (.mv (.t 4)))⟩, 0), (⟨(some 55), some (53, true), (.op (.mv (.t 0)))⟩, 0), (⟨(some 56), some (53, true), (.op (.mv (.t 13)))⟩, 0), (⟨(some 57), some (53, true), (.op (.iaddr none 14 (.t 55) (.t 56)))⟩, 0), (⟨(some 58), some (53, true), (.op (.load (some 14) (.t 57)))⟩, 0), (⟨(some 59), some (53, true), (.op (.mv (.t 0)))⟩, 0), (⟨(some 60), some (53, true), (.op (.mv (.t 1)))⟩, 0), (⟨(some 61), some (53, true), (.op (.iaddr none 14 (.t 59) (.t 60)))⟩, 0), (⟨(some 62), some (53, true), (.op (.load (some 14) (.t 61)))⟩, 0)], none, some ⟨(some 63), some (53, true), (.callv (.t 54) [(.t 58), (.t 62)])⟩⟩,
    ⟨[(⟨(some 64), some (53, true), (.op (.bin .int true .lss (.t 63) (.c (.i .i64 0))))⟩, 1), (⟨(some 65), some (53, true), (.op (.un .not (.t 64)))⟩, 1), (⟨(some 66), none, (.op (.pick (.t 53) (.t 65) (.c (.b false))))⟩, 1)], none, none⟩]
def c96d3w : List (ROp × Bool) :=
  [(⟨(some 50), none, (.op (.mv (.t 12)))⟩, false), (⟨(some 51), none, (.op (.mv (.t 13)))⟩, false), (⟨(some 52), none, (.op (.bin .int false .leq (.t 50) (.t 51)))⟩, false), (⟨(some 53), none, (.op (.mv (.t 52)))⟩, false), (⟨(some 54), some (53, true), (.op (.mv (.t 4)))⟩, false), (⟨(some 55), some (53, true), (.op (.mv (.t 0)))⟩, false), (⟨(some 56), some (53, true), (.op (.mv (.t 13)))⟩, false), (⟨(some 57), some (53, true), (.op (.iaddr none 14 (.t 55) (.t 56)))⟩, false), (⟨(some 58), some (53, true), (.op (.load (some 14) (.t 57)))⟩, false), (⟨(some 59), some (53, true), (.op (.mv (.t 0)))⟩, false), (⟨(some 60), some (53, true), (.op (.mv (.t 1)))⟩, false), (⟨(some 61), some (53, true), (.op (.iaddr none 14 (.t 59) (.t 60)))⟩, false), (⟨(some 62), some (53, true), (.op (.load (some 14) (.t 61)))⟩, false), (⟨(some 63), some (53, true), (.callv (.t 54) [(.t 58), (.t 62)])⟩, false), (⟨(some 64), some (53, true), (.op (.bin .int true .lss (.t 63) (.c (.i .i64 0))))⟩, false), (⟨(some 65), some (53, true), (.op (.un .not (.t 64)))⟩, false), (⟨(some 66), none, (.op (.pick (.t 53) (.t 65) (.c (.b false))))⟩, false)]
theorem c96d3_w {P : Program} {O : Orc} {S0 : Mem} {rd : Bool} {e : Env} {S : Mem} {d : List Nat} {Q : Kont} : W P O S0 rd (.draw c96d3 []) e S d Q = wFl O c96d3w e S (normK Q d) := W_draw' (by kernel_rfl) (by kernel_rfl)
attribute [go_sem] c96d3_w c96d3w
def c96l4 : ICode :=
  .seq (.seq (.draw c96d3 [])
   (.live [1, 0, 4, 12, 13, 66] (.cond (.t 66) (.skip)
   (.exit 2))))
   (.live [1, 0, 4, 12, 13] (.block 3 (.region [⟨(some 67), none, (.op (.mv (.t 13)))⟩,
    ⟨(some 68), none, (.op (.bin .int true .sub (.t 67) (.c (.i .i64 1))))⟩,
    ⟨(some 13), none, (.op (.mv (.t 68)))⟩])))
def c96d5 : List Stage :=
  [⟨[(⟨(some 72), none, (.op (.mv (.t 0)))⟩, 0), (⟨(some 73), none, (.op (.mv (.t 13)))⟩, 0), (⟨(some 74), none, (.op (.mv (.t 0)))⟩, 1), (⟨(some 75), none, (.op (.mv (.t 1)))⟩, 1), (⟨(some 76), none, (.op (.mv (.t 0)))⟩, 0), (⟨(some 77), none, (.op (.mv (.t 1)))⟩, 0), (⟨(some 78), none, (.op (.iaddr none 14 (.t 76) (.t 77)))⟩, 0), (⟨(some 79), none, (.op (.load (some 14) (.t 78)))⟩, 0), (⟨(some 80), none, (.op (.mv (.t 0)))⟩, 0), (⟨(some 81), none, (.op (.mv (.t 13)))⟩, 0), (⟨(some 82), none, (.op (.iaddr none 14 (.t 80) (.t 81)))⟩, 0), (⟨(some 83), none, (.op (.load (some 14) (.t 82)))⟩, 0), (⟨(some 84), none, (.op (.iaddr none 14 (.t 72) (.t 73)))⟩, 0)], none, some ⟨none, none, (.op (.store 14 (.t 84) (.t 79)))⟩⟩,
    ⟨[(⟨(some 85), none, (.op (.iaddr none 14 (.t 74) (.t 75)))⟩, 1)], none, some ⟨none, none, (.op (.store 14 (.t 85) (.t 83)))⟩⟩,
    ⟨[], none, none⟩]
def c96d5w : List (ROp × Bool) :=
  [(⟨(some 72), none, (.op (.mv (.t 0)))⟩, false), (⟨(some 73), none, (.op (.mv (.t 13)))⟩, false), (⟨(some 74), none, (.op (.mv (.t 0)))⟩, false), (⟨(some 75), none, (.op (.mv (.t 1)))⟩, false), (⟨(some 76), none, (.op (.mv (.t 0)))⟩, false), (⟨(some 77), none, (.op (.mv (.t 1)))⟩, false), (⟨(some 78), none, (.op (.iaddr none 14 (.t 76) (.t 77)))⟩, false), (⟨(some 79), none, (.op (.load (some 14) (.t 78)))⟩, false), (⟨(some 80), none, (.op (.mv (.t 0)))⟩, false), (⟨(some 81), none, (.op (.mv (.t 13)))⟩, false), (⟨(some 82), none, (.op (.iaddr none 14 (.t 80) (.t 81)))⟩, false), (⟨(some 83), none, (.op (.load (some 14) (.t 82)))⟩, false), (⟨(some 84), none, (.op (.iaddr none 14 (.t 72) (.t 73)))⟩, false), (⟨none, none, (.op (.store 14 (.t 84) (.t 79)))⟩, false), (⟨(some 85), none, (.op (.iaddr none 14 (.t 74) (.t 75)))⟩, false), (⟨none, none, (.op (.store 14 (.t 85) (.t 83)))⟩, false)]
theorem c96d5_w {P : Program} {O : Orc} {S0 : Mem} {rd : Bool} {e : Env} {S : Mem} {d : List Nat} {Q : Kont} : W P O S0 rd (.draw c96d5 []) e S d Q = wFl O c96d5w e S (normK Q d) := W_draw' (by kernel_rfl) (by kernel_rfl)
attribute [go_sem] c96d5_w c96d5w
def c96d6 : List Stage :=
  [⟨[(⟨(some 87), none, (.op (.mv (.t 0)))⟩, 0), (⟨(some 88), none, (.op (.mv (.t 12)))⟩, 0), (⟨(some 89), none, (.op (.mv (.t 0)))⟩, 1), (⟨(some 90), none, (.op (.mv (.t 13)))⟩, 1), (⟨(some 91), none, (.op (.mv (.t 0)))⟩, 0), (⟨(some 92), none, (.op (.mv (.t 13)))⟩, 0), (⟨(some 93), none, (.op (.iaddr none 14 (.t 91) (.t 92)))⟩, 0), (⟨(some 94), none, (.op (.load (some 14) (.t 93)))⟩, 0), (⟨(some 95), none, (.op (.mv (.t 0)))⟩, 0), (⟨(some 96), none, (.op (.mv (.t 12)))⟩, 0), (⟨(some 97), none, (.op (.iaddr none 14 (.t 95) (.t 96)))⟩, 0), (⟨(some 98), none, (.op (.load (some 14) (.t 97)))⟩, 0), (⟨(some 99), none, (.op (.iaddr none 14 (.t 87) (.t 88)))⟩, 0)], none, some ⟨none, none, (.op (.store 14 (.t 99) (.t 94)))⟩⟩,
    ⟨[(⟨(some 100), none, (.op (.iaddr none 14 (.t 89) (.t 90)))⟩, 1)], none, some ⟨none, none, (.op (.store 14 (.t 100) (.t 98)))⟩⟩,
    ⟨[], none, none⟩]
def c96d6w : List (ROp × Bool) :=
  [(⟨(some 87), none, (.op (.mv (.t 0)))⟩, false), (⟨(some 88), none, (.op (.mv (.t 12)))⟩, false), (⟨(some 89), none, (.op (.mv (.t 0)))⟩, false), (⟨(some 90), none, (.op (.mv (.t 13)))⟩, false), (⟨(some 91), none, (.op (.mv (.t 0)))⟩, false), (⟨(some 92), none, (.op (.mv (.t 13)))⟩, false), (⟨(some 93), none, (.op (.iaddr none 14 (.t 91) (.t 92)))⟩, false), (⟨(some 94), none, (.op (.load (some 14) (.t 93)))⟩, false), (⟨(some 95), none, (.op (.mv (.t 0)))⟩, false), (⟨(some 96), none, (.op (.mv (.t 12)))⟩, false), (⟨(some 97), none, (.op (.iaddr none 14 (.t 95) (.t 96)))⟩, false), (⟨(some 98), none, (.op (.load (some 14) (.t 97)))⟩, false), (⟨(some 99), none, (.op (.iaddr none 14 (.t 87) (.t 88)))⟩, false), (⟨none, none, (.op (.store 14 (.t 99) (.t 94)))⟩, false), (⟨(some 100), none, (.op (.iaddr none 14 (.t 89) (.t 90)))⟩, false), (⟨none, none, (.op (.store 14 (.t 100) (.t 98)))⟩, false)]
theorem c96d6_w {P : Program} {O : Orc} {S0 : Mem} {rd : Bool} {e : Env} {S : Mem} {d : List Nat} {Q : Kont} : W P O S0 rd (.draw c96d6 []) e S d Q = wFl O c96d6w e S (normK Q d) := W_draw' (by kernel_rfl) (by kernel_rfl)
attribute [go_sem] c96d6_w c96d6w
def c96d7 : List Stage :=
  [⟨[(⟨(some 105), none, (.op (.mv (.t 12)))⟩, 0), (⟨(some 106), none, (.op (.mv (.t 13)))⟩, 0), (⟨(some 107), none, (.op (.bin .int false .leq (.t 105) (.t 106)))⟩, 0), (⟨(some 108), none, (.op (.mv (.t 107)))⟩, 0), (⟨(some 109), some (108, true), (.op (.mv (.t 4)))⟩, 0), (⟨(some 110), some (108, true), (.op (.mv (.t 0)))⟩, 0), (⟨(some 111), some (108, true), (.op (.mv (.t 12)))⟩, 0), (⟨(some 112), some (108, true), (.op (.iaddr none 14 (.t 110) (.t 111)))⟩, 0), (⟨(some 113), some (108, true), (.op (.load (some 14) (.t 112)))⟩, 0), (⟨(some 114), some (108, true), (.op (.mv (.t 0)))⟩, 0), (⟨(some 115), some (108, true), (.op (.mv (.t 1)))⟩, 0), (⟨(some 116), some (108, true), (.op (.iaddr none 14 (.t 114) (.t 115)))⟩, 0), (⟨(some 117), some (108, true), (.op (.load (some 14) (.t 116)))⟩, 0)], none, some ⟨(some 118), some (108, true), (.callv (.t 109) [(.t 113), (.t 117)])⟩⟩,
    ⟨[(⟨(some 119), some (108, true), (.op (.bin .int true .lss (.t 118) (.c (.i .i64 0))))⟩, 1), (⟨(some 120), none, (.op (.pick (.t 108) (.t 119) (.c (.b false))))⟩, 1)], none, none⟩]
def c96d7w : List (ROp × Bool) :=
  [(⟨(some 105), none, (.op (.mv (.t 12)))⟩, false), (⟨(some 106), none, (.op (.mv (.t 13)))⟩, false), (⟨(some 107), none, (.op (.bin .int false .leq (.t 105) (.t 106)))⟩, false), (⟨(some 108), none, (.op (.mv (.t 107)))⟩, false), (⟨(some 109), some (108, true), (.op (.mv (.t 4)))⟩, false), (⟨(some 110), some (108, true), (.op (.mv (.t 0)))⟩, false), (⟨(some 111), some (108, true), (.op (.mv (.t 12)))⟩, false), (⟨(some 112), some (108, true), (.op (.iaddr none 14 (.t 110) (.t 111)))⟩, false), (⟨(some 113), some (108, true), (.op (.load (some 14) (.t 112)))⟩, false), (⟨(some 114), some (108, true), (.op (.mv (.t 0)))⟩, false), (⟨(some 115), some (108, true), (.op (.mv (.t 1)))⟩, false), (⟨(some 116), some (108, true), (.op (.iaddr none 14 (.t 114) (.t 115)))⟩, false), (⟨(some 117), some (108, true), (.op (.load (some 14) (.t 116)))⟩, false), (⟨(some 118), some (108, true), (.callv (.t 109) [(.t 113), (.t 117)])⟩, false), (⟨(some 119), some (108, true), (.op (.bin .int true .lss (.t 118) (.c (.i .i64 0))))⟩, false), (⟨(some 120), none, (.op (.pick (.t 108) (.t 119) (.c (.b false))))⟩, false)]
theorem c96d7_w {P : Program} {O : Orc} {S0 : Mem} {rd : Bool} {e : Env} {S : Mem} {d : List Nat} {Q : Kont} : W P O S0 rd (.draw c96d7 []) e S d Q = wFl O c96d7w e S (normK Q d) := W_draw' (by kernel_rfl) (by kernel_rfl)
attribute [go_sem] c96d7_w c96d7w
def c96l8 : ICode :=
  .seq (.seq (.draw c96d7 [])
   (.live [1, 0, 4, 13, 12, 120] (.cond (.t 120) (.skip)
   (.exit 6))))
   (.live [1, 0, 4, 13, 12] (.block 7 (.region [⟨(some 121), none, (.op (.mv (.t 12)))⟩,
    ⟨(some 122), none, (.op (.bin .int true .add (.t 121) (.c (.i .i64 1))))⟩,
    ⟨(some 12), none, (.op (.mv (.t 122)))⟩])))
def c96d9 : List Stage :=
  [⟨[(⟨(some 123), none, (.op (.mv (.t 12)))⟩, 0), (⟨(some 124), none, (.op (.mv (.t 13)))⟩, 0), (⟨(some 125), none, (.op (.bin .int false .leq (.t 123) (.t 124)))⟩, 0), (⟨(some 126), none, (.op (.mv (.t 125)))⟩, 0), (⟨(some 127), some (126, true), (.op (.mv (.t 4)))⟩, 0), (⟨(some 128), some (126, true), (.op (.mv (.t 0)))⟩, 0), (⟨(some 129), some (126, true), (.op (.mv (.t 13)))⟩, 0), (⟨(some 130), some (126, true), (.op (.iaddr none 14 (.t 128) (.t 129)))⟩, 0), (⟨(some 131), some (126, true), (.op (.load (some 14) (.t 130)))⟩, 0), (⟨(some 132), some (126, true), (.op (.mv (.t 0)))⟩, 0), (⟨(some 133), some (126, true), (.op (.mv (.t 1)))⟩, 0), (⟨(some 134), some (126, true), (.op (.iaddr none 14 (.t 132) (.t 133)))⟩, 0), (⟨(some 135), some (126, true), (.op (.load (some 14) (.t 134)))⟩, 0)], none, some ⟨(some 136), some (126, true), (.callv (.t 127) [(.t 131), (.t 135)])⟩⟩,
    ⟨[(⟨(some 137), some (126, true), (.op (.bin .int true .lss (.t 136) (.c (.i .i64 0))))⟩, 1), (⟨(some 138), some (126, true), (.op (.un .not (.t 137)))⟩, 1), (⟨(some 139), none, (.op (.pick (.t 126) (.t 138) (.c (.b false))))⟩, 1)], none, none⟩]
def c96d9w : List (ROp × Bool) :=
  [(⟨(some 123), none, (.op (.mv (.t 12)))⟩, false), (⟨(some 124), none, (.op (.mv (.t 13)))⟩, false), (⟨(some 125), none, (.op (.bin .int false .leq (.t 123) (.t 124)))⟩, false), (⟨(some 126), none, (.op (.mv (.t 125)))⟩, false), (⟨(some 127), some (126, true), (.op (.mv (.t 4)))⟩, false), (⟨(some 128), some (126, true), (.op (.mv (.t 0)))⟩, false), (⟨(some 129), some (126, true), (.op (.mv (.t 13)))⟩, false), (⟨(some 130), some (126, true), (.op (.iaddr none 14 (.t 128) (.t 129)))⟩, false), (⟨(some 131), some (126, true), (.op (.load (some 14) (.t 130)))⟩, false), (⟨(some 132), some (126, true), (.op (.mv (.t 0)))⟩, false), (⟨(some 133), some (126, true), (.op (.mv (.t 1)))⟩, false), (⟨(some 134), some (126, true), (.op (.iaddr none 14 (.t 132) (.t 133)))⟩, false), (⟨(some 135), some (126, true), (.op (.load (some 14) (.t 134)))⟩, false), (⟨(some 136), some (126, true), (.callv (.t 127) [(.t 131), (.t 135)])⟩, false), (⟨(some 137), some (126, true), (.op (.bin .int true .lss (.t 136) (.c (.i .i64 0))))⟩, false), (⟨(some 138), some (126, true), (.op (.un .not (.t 137)))⟩, false), (⟨(some 139), none, (.op (.pick (.t 126) (.t 138) (.c (.b false))))⟩, false)]
theorem c96d9_w {P : Program} {O : Orc} {S0 : Mem} {rd : Bool} {e : Env} {S : Mem} {d : List Nat} {Q : Kont} : W P O S0 rd (.draw c96d9 []) e S d Q = wFl O c96d9w e S (normK Q d) := W_draw' (by kernel_rfl) (by kernel_rfl)
attribute [go_sem] c96d9_w c96d9w
def c96l10 : ICode :=
  .seq (.seq (.draw c96d9 [])
   (.live [1, 0, 4, 12, 13, 139] (.cond (.t 139) (.skip)
   (.exit 8))))
   (.live [1, 0, 4, 12, 13] (.block 9 (.region [⟨(some 140), none, (.op (.mv (.t 13)))⟩,
    ⟨(some 141), none, (.op (.bin .int true .sub (.t 140) (.c (.i .i64 1))))⟩,
    ⟨(some 13), none, (.op (.mv (.t 141)))⟩])))
def c96d11 : List Stage :=
  [⟨[(⟨(some 145), none, (.op (.mv (.t 0)))⟩, 0), (⟨(some 146), none, (.op (.mv (.t 12)))⟩, 0), (⟨(some 147), none, (.op (.mv (.t 0)))⟩, 1), (⟨(some 148), none, (.op (.mv (.t 13)))⟩, 1), (⟨(some 149), none, (.op (.mv (.t 0)))⟩, 0), (⟨(some 150), none, (.op (.mv (.t 13)))⟩, 0), (⟨(some 151), none, (.op (.iaddr none 14 (.t 149) (.t 150)))⟩, 0), (⟨(some 152), none, (.op (.load (some 14) (.t 151)))⟩, 0), (⟨(some 153), none, (.op (.mv (.t 0)))⟩, 0), (⟨(some 154), none, (.op (.mv (.t 12)))⟩, 0), (⟨(some 155), none, (.op (.iaddr none 14 (.t 153) (.t 154)))⟩, 0), (⟨(some 156), none, (.op (.load (some 14) (.t 155)))⟩, 0), (⟨(some 157), none, (.op (.iaddr none 14 (.t 145) (.t 146)))⟩, 0)], none, some ⟨none, none, (.op (.store 14 (.t 157) (.t 152)))⟩⟩,
    ⟨[(⟨(some 158), none, (.op (.iaddr none 14 (.t 147) (.t 148)))⟩, 1)], none, some ⟨none, none, (.op (.store 14 (.t 158) (.t 156)))⟩⟩,
    ⟨[], none, none⟩]
def c96d11w : List (ROp × Bool) :=
  [(⟨(some 145), none, (.op (.mv (.t 0)))⟩, false), (⟨(some 146), none, (.op (.mv (.t 12)))⟩, false), (⟨(some 147), none, (.op (.mv (.t 0)))⟩, false), (⟨(some 148), none, (.op (.mv (.t 13)))⟩, false), (⟨(some 149), none, (.op (.mv (.t 0)))⟩, false), (⟨(some 150), none, (.op (.mv (.t 13)))⟩, false), (⟨(some 151), none, (.op (.iaddr none 14 (.t 149) (.t 150)))⟩, false), (⟨(some 152), none, (.op (.load (some 14) (.t 151)))⟩, false), (⟨(some 153), none, (.op (.mv (.t 0)))⟩, false), (⟨(some 154), none, (.op (.mv (.t 12)))⟩, false), (⟨(some 155), none, (.op (.iaddr none 14 (.t 153) (.t 154)))⟩, false), (⟨(some 156), none, (.op (.load (some 14) (.t 155)))⟩, false), (⟨(some 157), none, (.op (.iaddr none 14 (.t 145) (.t 146)))⟩, false), (⟨none, none, (.op (.store 14 (.t 157) (.t 152)))⟩, false), (⟨(some 158), none, (.op (.iaddr none 14 (.t 147) (.t 148)))⟩, false), (⟨none, none, (.op (.store 14 (.t 158) (.t 156)))⟩, false)]
theorem c96d11_w {P : Program} {O : Orc} {S0 : Mem} {rd : Bool} {e : Env} {S : Mem} {d : List Nat} {Q : Kont} : W P O S0 rd (.draw c96d11 []) e S d Q = wFl O c96d11w e S (normK Q d) := W_draw' (by kernel_rfl) (by kernel_rfl)
attribute [go_sem] c96d11_w c96d11w
def c96l12 : ICode :=
  .block 5 (.seq (.block 6 (.loop [1, 0, 4, 13, 12] c96l8))
   (.live [1, 0, 4, 12, 13] (.seq (.block 8 (.loop [1, 0, 4, 12, 13] c96l10))
   (.live [13, 1, 0, 4, 12] (.seq (.seq (.region [⟨(some 142), none, (.op (.mv (.t 12)))⟩,
    ⟨(some 143), none, (.op (.mv (.t 13)))⟩,
    ⟨(some 144), none, (.op (.bin .int false .gtr (.t 142) (.t 143)))⟩])
   (.live [13, 1, 0, 4, 12, 144] (.cond (.t 144) (.exit 4)
   (.skip))))
   (.live [1, 0, 4, 13, 12] (.seq (.draw c96d11 [])
   (.live [1, 0, 4, 13, 12] (.seq (.region [⟨(some 159), none, (.op (.mv (.t 12)))⟩,
    ⟨(some 160), none, (.op (.bin .int true .add (.t 159) (.c (.i .i64 1))))⟩,
    ⟨(some 12), none, (.op (.mv (.t 160)))⟩])
   (.live [1, 0, 4, 12, 13] (.region [⟨(some 161), none, (.op (.mv (.t 13)))⟩,
    ⟨(some 162), none, (.op (.bin .int true .sub (.t 161) (.c (.i .i64 1))))⟩,
    ⟨(some 13), none, (.op (.mv (.t 162)))⟩])))))))))))
def c96d13 : List Stage :=
  [⟨[(⟨(some 163), none, (.op (.mv (.t 0)))⟩, 0), (⟨(some 164), none, (.op (.mv (.t 13)))⟩, 0), (⟨(some 165), none, (.op (.mv (.t 0)))⟩, 1), (⟨(some 166), none, (.op (.mv (.t 1)))⟩, 1), (⟨(some 167), none, (.op (.mv (.t 0)))⟩, 0), (⟨(some 168), none, (.op (.mv (.t 1)))⟩, 0), (⟨(some 169), none, (.op (.iaddr none 14 (.t 167) (.t 168)))⟩, 0), (⟨(some 170), none, (.op (.load (some 14) (.t 169)))⟩, 0), (⟨(some 171), none, (.op (.mv (.t 0)))⟩, 0), (⟨(some 172), none, (.op (.mv (.t 13)))⟩, 0), (⟨(some 173), none, (.op (.iaddr none 14 (.t 171) (.t 172)))⟩, 0), (⟨(some 174), none, (.op (.load (some 14) (.t 173)))⟩, 0), (⟨(some 175), none, (.op (.iaddr none 14 (.t 163) (.t 164)))⟩, 0)], none, some ⟨none, none, (.op (.store 14 (.t 175) (.t 170)))⟩⟩,
    ⟨[(⟨(some 176), none, (.op (.iaddr none 14 (.t 165) (.t 166)))⟩, 1)], none, some ⟨none, none, (.op (.store 14 (.t 176) (.t 174)))⟩⟩,
    ⟨[], none, none⟩]
def c96d13w : List (ROp × Bool) :=
  [(⟨(some 163), none, (.op (.mv (.t 0)))⟩, false), (⟨(some 164), none, (.op (.mv (.t 13)))⟩, false), (⟨(some 165), none, (.op (.mv (.t 0)))⟩, false), (⟨(some 166), none, (.op (.mv (.t 1)))⟩, false), (⟨(some 167), none, (.op (.mv (.t 0)))⟩, false), (⟨(some 168), none, (.op (.mv (.t 1)))⟩, false), (⟨(some 169), none, (.op (.iaddr none 14 (.t 167) (.t 168)))⟩, false), (⟨(some 170), none, (.op (.load (some 14) (.t 169)))⟩, false), (⟨(some 171), none, (.op (.mv (.t 0)))⟩, false), (⟨(some 172), none, (.op (.mv (.t 13)))⟩, false), (⟨(some 173), none, (.op (.iaddr none 14 (.t 171) (.t 172)))⟩, false), (⟨(some 174), none, (.op (.load (some 14) (.t 173)))⟩, false), (⟨(some 175), none, (.op (.iaddr none 14 (.t 163) (.t 164)))⟩, false), (⟨none, none, (.op (.store 14 (.t 175) (.t 170)))⟩, false), (⟨(some 176), none, (.op (.iaddr none 14 (.t 165) (.t 166)))⟩, false), (⟨none, none, (.op (.store 14 (.t 176) (.t 174)))⟩, false)]
theorem c96d13_w {P : Program} {O : Orc} {S0 : Mem} {rd : Bool} {e : Env} {S : Mem} {d : List Nat} {Q : Kont} : W P O S0 rd (.draw c96d13 []) e S d Q = wFl O c96d13w e S (normK Q d) := W_draw' (by kernel_rfl) (by kernel_rfl)
attribute [go_sem] c96d13_w c96d13w
def c96 : IFunc := ⟨5, [.tmp 10, .tmp 11],
  .seq (.region [⟨(some 10), none, (.op (.mv (.c (.i .i64 0))))⟩,
    ⟨(some 11), none, (.op (.mv (.c (.b false))))⟩])
   (.live [1, 0, 4, 2, 3] (.seq (.draw c96d0 [])
   (.live [1, 0, 4, 2] (.seq (.region [⟨(some 28), none, (.op (.mv (.t 1)))⟩,
    ⟨(some 29), none, (.op (.bin .int true .add (.t 28) (.c (.i .i64 1))))⟩,
    ⟨(some 30), none, (.op (.mv (.t 2)))⟩,
    ⟨(some 31), none, (.op (.bin .int true .sub (.t 30) (.c (.i .i64 1))))⟩,
    ⟨(some 12), none, (.op (.mv (.t 29)))⟩,
    ⟨(some 13), none, (.op (.mv (.t 31)))⟩])
   (.live [1, 0, 4, 13, 12] (.seq (.block 0 (.loop [1, 0, 4, 13, 12] c96l2))
   (.live [1, 0, 4, 12, 13] (.seq (.block 2 (.loop [1, 0, 4, 12, 13] c96l4))
   (.live [13, 1, 0, 4, 12] (.seq (.seq (.region [⟨(some 69), none, (.op (.mv (.t 12)))⟩,
    ⟨(some 70), none, (.op (.mv (.t 13)))⟩,
    ⟨(some 71), none, (.op (.bin .int false .gtr (.t 69) (.t 70)))⟩])
   (.live [13, 1, 0, 4, 12, 71] (.cond (.t 71) (.seq (.draw c96d5 [])
   (.live [13] (.seq (.region [⟨(some 86), none, (.op (.mv (.t 13)))⟩,
    ⟨(some 10), none, (.op (.mv (.t 86)))⟩,
    ⟨(some 11), none, (.op (.mv (.c (.b true))))⟩])
   (.ret))))
   (.skip))))
   (.live [1, 0, 4, 13, 12] (.seq (.draw c96d6 [])
   (.live [1, 0, 4, 13, 12] (.seq (.region [⟨(some 101), none, (.op (.mv (.t 12)))⟩,
    ⟨(some 102), none, (.op (.bin .int true .add (.t 101) (.c (.i .i64 1))))⟩,
    ⟨(some 12), none, (.op (.mv (.t 102)))⟩])
   (.live [1, 0, 4, 12, 13] (.seq (.region [⟨(some 103), none, (.op (.mv (.t 13)))⟩,
    ⟨(some 104), none, (.op (.bin .int true .sub (.t 103) (.c (.i .i64 1))))⟩,
    ⟨(some 13), none, (.op (.mv (.t 104)))⟩])
   (.live [1, 0, 4, 13, 12] (.seq (.block 4 (.loop [1, 0, 4, 13, 12] c96l12))
   (.live [13, 1, 0] (.seq (.draw c96d13 [])
   (.live [13] (.seq (.region [⟨(some 177), none, (.op (.mv (.t 13)))⟩,
    ⟨(some 10), none, (.op (.mv (.t 177)))⟩,
    ⟨(some 11), none, (.op (.mv (.c (.b false))))⟩])
   (.ret))))))))))))))))))))))),
  []⟩


/- math/bits.Len32 -/

def c97 : IFunc := ⟨1, [.tmp 2],
  .seq (.region [⟨(some 2), none, (.op (.mv (.c (.i .i64 0))))⟩])
   (.live [0, 2] (.seq (.seq (.region [⟨(some 3), none, (.op (.mv (.t 0)))⟩,
    ⟨(some 4), none, (.op (.bin .int true .geq (.t 3) (.c (.i .u32 65536))))⟩])
   (.live [0, 2, 4] (.cond (.t 4) (.seq (.region [⟨(some 5), none, (.op (.mv (.t 0)))⟩,
    ⟨(some 6), none, (.op (.bin .int true .shr (.t 5) (.c (.i .u64 16))))⟩,
    ⟨(some 0), none, (.op (.mv (.t 6)))⟩])
   (.region [⟨(some 2), none, (.op (.mv (.c (.i .i64 16))))⟩]))
   (.skip))))
   (.live [2, 0] (.seq (.seq (.region [⟨(some 7), none, (.op (.mv (.t 0)))⟩,
    ⟨(some 8), none, (.op (.bin .int true .geq (.t 7) (.c (.i .u32 256))))⟩])
   (.live [2, 0, 8] (.cond (.t 8) (.seq (.region [⟨(some 9), none, (.op (.mv (.t 0)))⟩,
    ⟨(some 10), none, (.op (.bin .int true .shr (.t 9) (.c (.i .u64 8))))⟩,
    ⟨(some 0), none, (.op (.mv (.t 10)))⟩])
   (.live [0, 2] (.region [⟨(some 11), none, (.op (.mv (.t 2)))⟩,
    ⟨(some 12), none, (.op (.bin .int true .add (.t 11) (.c (.i .i64 8))))⟩,
    ⟨(some 2), none, (.op (.mv (.t 12)))⟩])))
   (.skip))))
   (.live [0, 2] (.seq (.region [⟨(some 13), none, (.op (.mv (.t 2)))⟩,
    ⟨(some 14), none, (.op (.mv (.t 0)))⟩,
    ⟨(some 15), none, (.op (.toInt .u8 (.t 14)))⟩,
    ⟨(some 16), none, (.op (.ixs (.c (.s [0, 1, 2, 2, 3, 3, 3, 3, 4, 4, 4, 4, 4, 4, 4, 4, 5, 5, 5, 5, 5, 5, 5, 5, 5, 5, 5, 5, 5, 5, 5, 5, 6, 6, 6, 6, 6, 6, 6, 6, 6, 6, 6, 6, 6, 6, 6, 6, 6, 6, 6, 6, 6, 6, 6, 6, 6, 6, 6, 6, 6, 6, 6, 6, 7, 7, 7, 7, 7, 7, 7, 7, 7, 7, 7, 7, 7, 7, 7, 7, 7, 7, 7, 7, 7, 7, 7, 7, 7, 7, 7, 7, 7, 7, 7, 7, 7, 7, 7, 7, 7, 7, 7, 7, 7, 7, 7, 7, 7, 7, 7, 7, 7, 7, 7, 7, 7, 7, 7, 7, 7, 7, 7, 7, 7, 7, 7, 7, 8, 8, 8, 8, 8, 8, 8, 8, 8, 8, 8, 8, 8, 8, 8, 8, 8, 8, 8, 8, 8, 8, 8, 8, 8, 8, 8, 8, 8, 8, 8, 8, 8, 8, 8, 8, 8, 8, 8, 8, 8, 8, 8, 8, 8, 8, 8, 8, 8, 8, 8, 8, 8, 8, 8, 8, 8, 8, 8, 8, 8, 8, 8, 8, 8, 8, 8, 8, 8, 8, 8, 8, 8, 8, 8, 8, 8, 8, 8, 8, 8, 8, 8, 8, 8, 8, 8, 8, 8, 8, 8, 8, 8, 8, 8, 8, 8, 8, 8, 8, 8, 8, 8, 8, 8, 8, 8, 8, 8, 8, 8, 8, 8, 8, 8, 8, 8, 8, 8, 8, 8, 8, 8, 8, 8, 8, 8, 8])) (.t 15)))⟩,
    ⟨(some 17), none, (.op (.toInt .i64 (.t 16)))⟩,
    ⟨(some 18), none, (.op (.bin .int false .add (.t 13) (.t 17)))⟩,
    ⟨(some 2), none, (.op (.mv (.t 18)))⟩])
   (.ret))))))),
  []⟩


/- math/bits.Len64 -/

def c98 : IFunc := ⟨1, [.tmp 2],
  .seq (.region [⟨(some 2), none, (.op (.mv (.c (.i .i64 0))))⟩])
   (.live [0, 2] (.seq (.seq (.region [⟨(some 3), none, (.op (.mv (.t 0)))⟩,
    ⟨(some 4), none, (.op (.bin .int true .geq (.t 3) (.c (.i .u64 4294967296))))⟩])
   (.live [0, 2, 4] (.cond (.t 4) (.seq (.region [⟨(some 5), none, (.op (.mv (.t 0)))⟩,
    ⟨(some 6), none, (.op (.bin .int true .shr (.t 5) (.c (.i .u64 32))))⟩,
    ⟨(some 0), none, (.op (.mv (.t 6)))⟩])
   (.region [⟨(some 2), none, (.op (.mv (.c (.i .i64 32))))⟩]))
   (.skip))))
   (.live [2, 0] (.seq (.seq (.region [⟨(some 7), none, (.op (.mv (.t 0)))⟩,
    ⟨(some 8), none, (.op (.bin .int true .geq (.t 7) (.c (.i .u64 65536))))⟩])
   (.live [2, 0, 8] (.cond (.t 8) (.seq (.region [⟨(some 9), none, (.op (.mv (.t 0)))⟩,
    ⟨(some 10), none, (.op (.bin .int true .shr (.t 9) (.c (.i .u64 16))))⟩,
    ⟨(some 0), none, (.op (.mv (.t 10)))⟩])
   (.live [0, 2] (.region [⟨(some 11), none, (.op (.mv (.t 2)))⟩,
    ⟨(some 12), none, (.op (.bin .int true .add (.t 11) (.c (.i .i64 16))))⟩,
    ⟨(some 2), none, (.op (.mv (.t 12)))⟩])))
   (.skip))))
   (.live [2, 0] (.seq (.seq (.region [⟨(some 13), none, (.op (.mv (.t 0)))⟩,
    ⟨(some 14), none, (.op (.bin .int true .geq (.t 13) (.c (.i .u64 256))))⟩])
   (.live [2, 0, 14] (.cond (.t 14) (.seq (.region [⟨(some 15), none, (.op (.mv (.t 0)))⟩,
    ⟨(some 16), none, (.op (.bin .int true .shr (.t 15) (.c (.i .u64 8))))⟩,
    ⟨(some 0), none, (.op (.mv (.t 16)))⟩])
   (.live [0, 2] (.region [⟨(some 17), none, (.op (.mv (.t 2)))⟩,
    ⟨(some 18), none, (.op (.bin .int true .add (.t 17) (.c (.i .i64 8))))⟩,
    ⟨(some 2), none, (.op (.mv (.t 18)))⟩])))
   (.skip))))
   (.live [0, 2] (.seq (.region [⟨(some 19), none, (.op (.mv (.t 2)))⟩,
    ⟨(some 20), none, (.op (.mv (.t 0)))⟩,
    ⟨(some 21), none, (.op (.toInt .u8 (.t 20)))⟩,
    ⟨(some 22), none, (.op (.ixs (.c (.s [0, 1, 2, 2, 3, 3, 3, 3, 4, 4, 4, 4, 4, 4, 4, 4, 5, 5, 5, 5, 5, 5, 5, 5, 5, 5, 5, 5, 5, 5, 5, 5, 6, 6, 6, 6, 6, 6, 6, 6, 6, 6, 6, 6, 6, 6, 6, 6, 6, 6, 6, 6, 6, 6, 6, 6, 6, 6, 6, 6, 6, 6, 6, 6, 7, 7, 7, 7, 7, 7, 7, 7, 7, 7, 7, 7, 7, 7, 7, 7, 7, 7, 7, 7, 7, 7, 7, 7, 7, 7, 7, 7, 7, 7, 7, 7, 7, 7, 7, 7, 7, 7, 7, 7, 7, 7, 7, 7, 7, 7, 7, 7, 7, 7, 7, 7, 7, 7, 7, 7, 7, 7, 7, 7, 7, 7, 7, 7, 8, 8, 8, 8, 8, 8, 8, 8, 8, 8, 8, 8, 8, 8, 8, 8, 8, 8, 8, 8, 8, 8, 8, 8, 8, 8, 8, 8, 8, 8, 8, 8, 8, 8, 8, 8, 8, 8, 8, 8, 8, 8, 8, 8, 8, 8, 8, 8, 8, 8, 8, 8, 8, 8, 8, 8, 8, 8, 8, 8, 8, 8, 8, 8, 8, 8, 8, 8, 8, 8, 8, 8, 8, 8, 8, 8, 8, 8, 8, 8, 8, 8, 8, 8, 8, 8, 8, 8, 8, 8, 8, 8, 8, 8, 8, 8, 8, 8, 8, 8, 8, 8, 8, 8, 8, 8, 8, 8, 8, 8, 8, 8, 8, 8, 8, 8, 8, 8, 8, 8, 8, 8, 8, 8, 8, 8, 8, 8])) (.t 21)))⟩,
    ⟨(some 23), none, (.op (.toInt .i64 (.t 22)))⟩,
    ⟨(some 24), none, (.op (.bin .int false .add (.t 19) (.t 23)))⟩,
    ⟨(some 2), none, (.op (.mv (.t 24)))⟩])
   (.ret))))))))),
  []⟩


/- floodgate/addr.Cut -/

def c99 : IFunc := ⟨2, [.cell 4 (some 5)],
  .seq (.region [⟨(some 2), none, (.op (.box (.t 0)))⟩,
    ⟨(some 4), none, (.op (.fresh [(.i .u8 0), (.i .u8 0), (.i .u8 0), (.i .u8 0), (.i .i64 0)]))⟩])
   (.live [4, 1, 2] (.seq (.region [⟨(some 5), none, (.op (.load (some 4) (.t 2)))⟩,
    ⟨(some 6), none, (.call 61 [(.t 5)])⟩,
    ⟨(some 7), none, (.op (.mv (.t 1)))⟩,
    ⟨(some 8), none, (.call 109 [(.t 7)])⟩,
    ⟨(some 9), none, (.op (.bin .int false .and (.t 6) (.t 8)))⟩,
    ⟨(some 10), none, (.call 70 [(.t 9)])⟩,
    ⟨(some 11), none, (.op (.mv (.t 1)))⟩,
    ⟨(some 12), none, (.op (.mm false [(.t 11), (.c (.i .i64 32))]))⟩,
    ⟨(some 13), none, (.op (.mm true [(.c (.i .i64 0)), (.t 12)]))⟩,
    ⟨(some 14), none, (.op (.build [(.i .u8 0), (.i .u8 0), (.i .u8 0), (.i .u8 0), (.i .i64 0)] [(0, 4, (.t 10)), (4, 1, (.t 13))]))⟩,
    ⟨none, none, (.op (.store 5 (.t 4) (.t 14)))⟩])
   (.ret))),
  []⟩


/- slices.IndexFunc[[]uint64,uint64] -/
def c100l0 : ICode :=
  .seq (.region [⟨(some 9), none, (.op (.bin .int false .lss (.t 8) (.t 7)))⟩])
   (.live [0, 1, 7, 8, 9] (.seq (.cond (.t 9) (.skip)
   (.exit 0))
   (.live [0, 1, 7, 8] (.seq (.block 1 (.seq (.region [⟨(some 10), none, (.op (.mv (.t 8)))⟩,
    ⟨(some 5), none, (.op (.mv (.t 10)))⟩])
   (.live [5, 0, 1, 7, 8] (.seq (.region [⟨(some 11), none, (.op (.mv (.t 1)))⟩,
    ⟨(some 12), none, (.op (.mv (.t 0)))⟩,
    ⟨(some 13), none, (.op (.mv (.t 5)))⟩,
    ⟨(some 14), none, (.op (.iaddr none 1 (.t 12) (.t 13)))⟩,
    ⟨(some 15), none, (.op (.load none (.t 14)))⟩,
    ⟨(some 16), none, (.callv (.t 11) [(.t 15)])⟩])
   (.live [5, 0, 1, 7, 8, 16] (.cond (.t 16) (.seq (.region [⟨(some 17), none, (.op (.mv (.t 5)))⟩,
    ⟨(some 4), none, (.op (.mv (.t 17)))⟩])
   (.ret))
   (.skip)))))))
   (.live [0, 1, 7, 8] (.region [⟨(some 18), none, (.op (.bin .int true .add (.t 8) (.c (.i .i64 1))))⟩,
    ⟨(some 8), none, (.op (.mv (.t 18)))⟩]))))))
def c100 : IFunc := ⟨2, [.tmp 4],
  .seq (.region [⟨(some 4), none, (.op (.mv (.c (.i .i64 0))))⟩])
   (.live [0, 1] (.seq (.seq (.region [⟨(some 6), none, (.op (.mv (.t 0)))⟩,
    ⟨(some 7), none, (.op (.len .slice (.t 6)))⟩,
    ⟨(some 8), none, (.op (.mv (.c (.i .i64 0))))⟩])
   (.live [0, 1, 7, 8] (.block 0 (.loop [0, 1, 7, 8] c100l0))))
   (.live [] (.seq (.region [⟨(some 4), none, (.op (.mv (.c (.i .i64 (-1)))))⟩])
   (.ret))))),
  []⟩


/- floodgate/floodgateref04.bounded -/

def c101 : IFunc := ⟨1, [.tmp 2],
  .seq (.region [⟨(some 2), none, (.op (.mv (.c (.i .i64 0))))⟩])
   (.live [0] (.seq (.seq (.region [⟨(some 3), none, (.op (.mv (.t 0)))⟩,
    ⟨(some 4), none, (.op (.bin .int true .lss (.t 3) (.c (.i .i64 0))))⟩])
   (.live [0, 4] (.cond (.t 4) (.seq (.region [⟨(some 2), none, (.op (.mv (.c (.i .i64 0))))⟩])
   (.ret))
   (.skip))))
   (.live [0] (.seq (.seq (.region [⟨(some 5), none, (.op (.mv (.t 0)))⟩,
    ⟨(some 6), none, (.op (.bin .int true .gtr (.t 5) (.c (.i .i64 32))))⟩])
   (.live [0, 6] (.cond (.t 6) (.seq (.region [⟨(some 2), none, (.op (.mv (.c (.i .i64 32))))⟩])
   (.ret))
   (.skip))))
   (.live [0] (.seq (.region [⟨(some 7), none, (.op (.mv (.t 0)))⟩,
    ⟨(some 2), none, (.op (.mv (.t 7)))⟩])
   (.ret))))))),
  []⟩


/- floodgate/floodgateref04.Cut -/
def c102l0 : ICode :=
  .seq (.seq (.region [⟨(some 14), none, (.op (.mv (.t 7)))⟩,
    ⟨(some 15), none, (.op (.bin .int true .lss (.t 14) (.c (.i .i64 32))))⟩])
   (.live [4, 6, 7, 5, 15] (.cond (.t 15) (.skip)
   (.exit 0))))
   (.live [4, 6, 7, 5] (.seq (.block 1 (.region [⟨(some 18), none, (.op (.mv (.t 5)))⟩,
    ⟨(some 19), none, (.op (.bin .int true .quo (.t 18) (.c (.i .u32 2))))⟩,
    ⟨(some 5), none, (.op (.mv (.t 19)))⟩]))
   (.live [4, 6, 5, 7] (.region [⟨(some 16), none, (.op (.mv (.t 7)))⟩,
    ⟨(some 17), none, (.op (.bin .int true .add (.t 16) (.c (.i .i64 1))))⟩,
    ⟨(some 7), none, (.op (.mv (.t 17)))⟩]))))
def c102l1 : ICode :=
  .seq (.seq (.region [⟨(some 21), none, (.op (.mv (.t 8)))⟩,
    ⟨(some 22), none, (.op (.bin .int true .lss (.t 21) (.c (.i .i64 32))))⟩])
   (.live [4, 6, 8, 5, 22] (.cond (.t 22) (.skip)
   (.exit 2))))
   (.live [4, 6, 8, 5] (.seq (.block 3 (.region [⟨(some 25), none, (.op (.mv (.t 5)))⟩,
    ⟨(some 26), none, (.op (.bin .int true .mul (.t 25) (.c (.i .u32 2))))⟩,
    ⟨(some 5), none, (.op (.mv (.t 26)))⟩]))
   (.live [4, 6, 5, 8] (.region [⟨(some 23), none, (.op (.mv (.t 8)))⟩,
    ⟨(some 24), none, (.op (.bin .int true .add (.t 23) (.c (.i .i64 1))))⟩,
    ⟨(some 8), none, (.op (.mv (.t 24)))⟩]))))
def c102 : IFunc := ⟨2, [.cell 4 (some 5)],
  .seq (.region [⟨(some 2), none, (.op (.box (.t 0)))⟩,
    ⟨(some 4), none, (.op (.fresh [(.i .u8 0), (.i .u8 0), (.i .u8 0), (.i .u8 0), (.i .i64 0)]))⟩])
   (.live [4, 1, 2] (.seq (.region [⟨(some 9), none, (.op (.load (some 4) (.t 2)))⟩,
    ⟨(some 10), none, (.call 64 [(.t 9)])⟩,
    ⟨(some 5), none, (.op (.mv (.t 10)))⟩])
   (.live [4, 5, 1] (.seq (.region [⟨(some 11), none, (.op (.mv (.t 1)))⟩,
    ⟨(some 12), none, (.call 101 [(.t 11)])⟩,
    ⟨(some 6), none, (.op (.mv (.t 12)))⟩])
   (.live [4, 6, 5] (.seq (.seq (.region [⟨(some 13), none, (.op (.mv (.t 6)))⟩,
    ⟨(some 7), none, (.op (.mv (.t 13)))⟩])
   (.live [4, 6, 7, 5] (.block 0 (.loop [4, 6, 7, 5] c102l0))))
   (.live [4, 6, 5] (.seq (.seq (.region [⟨(some 20), none, (.op (.mv (.t 6)))⟩,
    ⟨(some 8), none, (.op (.mv (.t 20)))⟩])
   (.live [4, 6, 8, 5] (.block 2 (.loop [4, 6, 8, 5] c102l1))))
   (.live [4, 6, 5] (.seq (.region [⟨(some 27), none, (.op (.mv (.t 5)))⟩,
    ⟨(some 28), none, (.call 72 [(.t 27)])⟩,
    ⟨(some 29), none, (.op (.mv (.t 6)))⟩,
    ⟨(some 30), none, (.op (.build [(.i .u8 0), (.i .u8 0), (.i .u8 0), (.i .u8 0), (.i .i64 0)] [(0, 4, (.t 28)), (4, 1, (.t 29))]))⟩,
    ⟨none, none, (.op (.store 5 (.t 4) (.t 30)))⟩])
   (.ret))))))))))),
  []⟩


/- floodgate/sat.Log -/

def c103 : IFunc := ⟨1, [.tmp 2],
  .seq (.region [⟨(some 2), none, (.op (.mv (.c (.i .i64 0))))⟩])
   (.live [0] (.seq (.region [⟨(some 3), none, (.op (.mv (.t 0)))⟩,
    ⟨(some 4), none, (.call 98 [(.t 3)])⟩,
    ⟨(some 2), none, (.op (.mv (.t 4)))⟩])
   (.ret))),
  []⟩


/- slices.siftDownCmpFunc[floodgate/api.Entry] -/
def c104d0 : List Stage :=
  [⟨[(⟨(some 19), none, (.op (.mv (.t 11)))⟩, 0), (⟨(some 20), none, (.op (.bin .int true .add (.t 19) (.c (.i .i64 1))))⟩, 0), (⟨(some 21), none, (.op (.mv (.t 2)))⟩, 0), (⟨(some 22), none, (.op (.bin .int false .lss (.t 20) (.t 21)))⟩, 0), (⟨(some 23), none, (.op (.mv (.t 22)))⟩, 0), (⟨(some 24), some (23, true), (.op (.mv (.t 4)))⟩, 0), (⟨(some 25), some (23, true), (.op (.mv (.t 0)))⟩, 0), (⟨(some 26), some (23, true), (.op (.mv (.t 3)))⟩, 0), (⟨(some 27), some (23, true), (.op (.mv (.t 11)))⟩, 0), (⟨(some 28), some (23, true), (.op (.bin .int false .add (.t 26) (.t 27)))⟩, 0), (⟨(some 29), some (23, true), (.op (.iaddr none 14 (.t 25) (.t 28)))⟩, 0), (⟨(some 30), some (23, true), (.op (.load (some 14) (.t 29)))⟩, 0), (⟨(some 31), some (23, true), (.op (.mv (.t 0)))⟩, 0), (⟨(some 32), some (23, true), (.op (.mv (.t 3)))⟩, 0), (⟨(some 33), some (23, true), (.op (.mv (.t 11)))⟩, 0), (⟨(some 34), some (23, true), (.op (.bin .int false .add (.t 32) (.t 33)))⟩, 0), (⟨(some 35), some (23, true), (.op (.bin .int true .add (.t 34) (.c (.i .i64 1))))⟩, 0), (⟨(some 36), some (23, true), (.op (.iaddr none 14 (.t 31) (.t 35)))⟩, 0), (⟨(some 37), some (23, true), (.op (.load (some 14) (.t 36)))⟩, 0)], none, some ⟨(some 38), some (23, true), (.callv (.t 24) [(.t 30), (.t 37)])⟩⟩,
    ⟨[(⟨(some 39), some (23, true), (.op (.bin .int true .lss (.t 38) (.c (.i .i64 0))))⟩, 1), (⟨(some 40), none, (.op (.pick (.t 23) (.t 39) (.c (.b false))))⟩, 1)], none, none⟩]
def c104d0w : List (ROp × Bool) :=
  [(⟨(some 19), none, (.op (.mv (.t 11)))⟩, false), (⟨(some 20), none, (.op (.bin .int true .add (.t 19) (.c (.i .i64 1))))⟩, false), (⟨(some 21), none, (.op (.mv (.t 2)))⟩, false), (⟨(some 22), none, (.op (.bin .int false .lss (.t 20) (.t 21)))⟩, false), (⟨(some 23), none, (.op (.mv (.t 22)))⟩, false), (⟨(some 24), some (23, true), (.op (.mv (.t 4)))⟩, false), (⟨(some 25), some (23, true), (.op (.mv (.t 0)))⟩, false), (⟨(some 26), some (23, true), (.op (.mv (.t 3)))⟩, false), (⟨(some 27), some (23, true), (.op (.mv (.t 11)))⟩, false), (⟨(some 28), some (23, true), (.op (.bin .int false .add (.t 26) (.t 27)))⟩, false), (⟨(some 29), some (23, true), (.op (.iaddr none 14 (.t 25) (.t 28)))⟩, false), (⟨(some 30), some (23, true), (.op (.load (some 14) (.t 29)))⟩, false), (⟨(some 31), some (23, true), (.op (.mv (.t 0)))⟩, false), (⟨(some 32), some (23, true), (.op (.mv (.t 3)))⟩, false), (⟨(some 33), some (23, true), (.op (.mv (.t 11)))⟩, false), (⟨(some 34), some (23, true), (.op (.bin .int false .add (.t 32) (.t 33)))⟩, false), (⟨(some 35), some (23, true), (.op (.bin .int true .add (.t 34) (.c (.i .i64 1))))⟩, false), (⟨(some 36), some (23, true), (.op (.iaddr none 14 (.t 31) (.t 35)))⟩, false), (⟨(some 37), some (23, true), (.op (.load (some 14) (.t 36)))⟩, false), (⟨(some 38), some (23, true), (.callv (.t 24) [(.t 30), (.t 37)])⟩, false), (⟨(some 39), some (23, true), (.op (.bin .int true .lss (.t 38) (.c (.i .i64 0))))⟩, false), (⟨(some 40), none, (.op (.pick (.t 23) (.t 39) (.c (.b false))))⟩, false)]
theorem c104d0_w {P : Program} {O : Orc} {S0 : Mem} {rd : Bool} {e : Env} {S : Mem} {d : List Nat} {Q : Kont} : W P O S0 rd (.draw c104d0 []) e S d Q = wFl O c104d0w e S (normK Q d) := W_draw' (by kernel_rfl) (by kernel_rfl)
attribute [go_sem] c104d0_w c104d0w
def c104d1 : List Stage :=
  [⟨[(⟨(some 43), none, (.op (.mv (.t 4)))⟩, 0), (⟨(some 44), none, (.op (.mv (.t 0)))⟩, 0), (⟨(some 45), none, (.op (.mv (.t 3)))⟩, 0), (⟨(some 46), none, (.op (.mv (.t 10)))⟩, 0), (⟨(some 47), none, (.op (.bin .int false .add (.t 45) (.t 46)))⟩, 0), (⟨(some 48), none, (.op (.iaddr none 14 (.t 44) (.t 47)))⟩, 0), (⟨(some 49), none, (.op (.load (some 14) (.t 48)))⟩, 0), (⟨(some 50), none, (.op (.mv (.t 0)))⟩, 0), (⟨(some 51), none, (.op (.mv (.t 3)))⟩, 0), (⟨(some 52), none, (.op (.mv (.t 11)))⟩, 0), (⟨(some 53), none, (.op (.bin .int false .add (.t 51) (.t 52)))⟩, 0), (⟨(some 54), none, (.op (.iaddr none 14 (.t 50) (.t 53)))⟩, 0), (⟨(some 55), none, (.op (.load (some 14) (.t 54)))⟩, 0)], none, some ⟨(some 56), none, (.callv (.t 43) [(.t 49), (.t 55)])⟩⟩,
    ⟨[(⟨(some 57), none, (.op (.bin .int true .lss (.t 56) (.c (.i .i64 0))))⟩, 1), (⟨(some 58), none, (.op (.un .not (.t 57)))⟩, 1)], none, none⟩]
def c104d1w : List (ROp × Bool) :=
  [(⟨(some 43), none, (.op (.mv (.t 4)))⟩, false), (⟨(some 44), none, (.op (.mv (.t 0)))⟩, false), (⟨(some 45), none, (.op (.mv (.t 3)))⟩, false), (⟨(some 46), none, (.op (.mv (.t 10)))⟩, false), (⟨(some 47), none, (.op (.bin .int false .add (.t 45) (.t 46)))⟩, false), (⟨(some 48), none, (.op (.iaddr none 14 (.t 44) (.t 47)))⟩, false), (⟨(some 49), none, (.op (.load (some 14) (.t 48)))⟩, false), (⟨(some 50), none, (.op (.mv (.t 0)))⟩, false), (⟨(some 51), none, (.op (.mv (.t 3)))⟩, false), (⟨(some 52), none, (.op (.mv (.t 11)))⟩, false), (⟨(some 53), none, (.op (.bin .int false .add (.t 51) (.t 52)))⟩, false), (⟨(some 54), none, (.op (.iaddr none 14 (.t 50) (.t 53)))⟩, false), (⟨(some 55), none, (.op (.load (some 14) (.t 54)))⟩, false), (⟨(some 56), none, (.callv (.t 43) [(.t 49), (.t 55)])⟩, false), (⟨(some 57), none, (.op (.bin .int true .lss (.t 56) (.c (.i .i64 0))))⟩, false), (⟨(some 58), none, (.op (.un .not (.t 57)))⟩, false)]
theorem c104d1_w {P : Program} {O : Orc} {S0 : Mem} {rd : Bool} {e : Env} {S : Mem} {d : List Nat} {Q : Kont} : W P O S0 rd (.draw c104d1 []) e S d Q = wFl O c104d1w e S (normK Q d) := W_draw' (by kernel_rfl) (by kernel_rfl)
attribute [go_sem] c104d1_w c104d1w
def c104d2 : List Stage :=
  [⟨[(⟨(some 59), none, (.op (.mv (.t 0)))⟩, 0), (⟨(some 60), none, (.op (.mv (.t 3)))⟩, 0), (⟨(some 61), none, (.op (.mv (.t 10)))⟩, 0), (⟨(some 62), none, (.op (.bin .int false .add (.t 60) (.t 61)))⟩, 0), (⟨(some 63), none, (.op (.mv (.t 0)))⟩, 1), (⟨(some 64), none, (.op (.mv (.t 3)))⟩, 1), (⟨(some 65), none, (.op (.mv (.t 11)))⟩, 1), (⟨(some 66), none, (.op (.bin .int false .add (.t 64) (.t 65)))⟩, 1), (⟨(some 67), none, (.op (.mv (.t 0)))⟩, 0), (⟨(some 68), none, (.op (.mv (.t 3)))⟩, 0), (⟨(some 69), none, (.op (.mv (.t 11)))⟩, 0), (⟨(some 70), none, (.op (.bin .int false .add (.t 68) (.t 69)))⟩, 0), (⟨(some 71), none, (.op (.iaddr none 14 (.t 67) (.t 70)))⟩, 0), (⟨(some 72), none, (.op (.load (some 14) (.t 71)))⟩, 0), (⟨(some 73), none, (.op (.mv (.t 0)))⟩, 0), (⟨(some 74), none, (.op (.mv (.t 3)))⟩, 0), (⟨(some 75), none, (.op (.mv (.t 10)))⟩, 0), (⟨(some 76), none, (.op (.bin .int false .add (.t 74) (.t 75)))⟩, 0), (⟨(some 77), none, (.op (.iaddr none 14 (.t 73) (.t 76)))⟩, 0), (⟨(some 78), none, (.op (.load (some 14) (.t 77)))⟩, 0), (⟨(some 79), none, (.op (.iaddr none 14 (.t 59) (.t 62)))⟩, 0)], none, some ⟨none, none, (.op (.store 14 (.t 79) (.t 72)))⟩⟩,
    ⟨[(⟨(some 80), none, (.op (.iaddr none 14 (.t 63) (.t 66)))⟩, 1)], none, some ⟨none, none, (.op (.store 14 (.t 80) (.t 78)))⟩⟩,
    ⟨[], none, none⟩]
def c104d2w : List (ROp × Bool) :=
  [(⟨(some 59), none, (.op (.mv (.t 0)))⟩, false), (⟨(some 60), none, (.op (.mv (.t 3)))⟩, false), (⟨(some 61), none, (.op (.mv (.t 10)))⟩, false), (⟨(some 62), none, (.op (.bin .int false .add (.t 60) (.t 61)))⟩, false), (⟨(some 63), none, (.op (.mv (.t 0)))⟩, false), (⟨(some 64), none, (.op (.mv (.t 3)))⟩, false), (⟨(some 65), none, (.op (.mv (.t 11)))⟩, false), (⟨(some 66), none, (.op (.bin .int false .add (.t 64) (.t 65)))⟩, false), (⟨(some 67), none, (.op (.mv (.t 0)))⟩, false), (⟨(some 68), none, (.op (.mv (.t 3)))⟩, false), (⟨(some 69), none, (.op (.mv (.t 11)))⟩, false), (⟨(some 70), none, (.op (.bin .int false .add (.t 68) (.t 69)))⟩, false), (⟨(some 71), none, (.op (.iaddr none 14 (.t 67) (.t 70)))⟩, false), (⟨(some 72), none, (.op (.load (some 14) (.t 71)))⟩, false), (⟨(some 73), none, (.op (.mv (.t 0)))⟩, false), (⟨(some 74), none, (.op (.mv (.t 3)))⟩, false), (⟨(some 75), none, (.op (.mv (.t 10)))⟩, false), (⟨(some 76), none, (.op (.bin .int false .add (.t 74) (.t 75)))⟩, false), (⟨(some 77), none, (.op (.iaddr none 14 (.t 73) (.t 76)))⟩, false), (⟨(some 78), none, (.op (.load (some 14) (.t 77)))⟩, false), (⟨(some 79), none, (.op (.iaddr none 14 (.t 59) (.t 62)))⟩, false), (⟨none, none, (.op (.store 14 (.t 79) (.t 72)))⟩, false), (⟨(some 80), none, (.op (.iaddr none 14 (.t 63) (.t 66)))⟩, false), (⟨none, none, (.op (.store 14 (.t 80) (.t 78)))⟩, false)]
theorem c104d2_w {P : Program} {O : Orc} {S0 : Mem} {rd : Bool} {e : Env} {S : Mem} {d : List Nat} {Q : Kont} : W P O S0 rd (.draw c104d2 []) e S d Q = wFl O c104d2w e S (normK Q d) := W_draw' (by kernel_rfl) (by kernel_rfl)
attribute [go_sem] c104d2_w c104d2w
def c104l3 : ICode :=
  .block 1 (.seq (.region [⟨(some 13), none, (.op (.mv (.t 10)))⟩,
    ⟨(some 14), none, (.op (.bin .int true .mul (.c (.i .i64 2)) (.t 13)))⟩,
    ⟨(some 15), none, (.op (.bin .int true .add (.t 14) (.c (.i .i64 1))))⟩,
    ⟨(some 11), none, (.op (.mv (.t 15)))⟩])
   (.live [0, 3, 4, 2, 10, 11] (.seq (.seq (.region [⟨(some 16), none, (.op (.mv (.t 11)))⟩,
    ⟨(some 17), none, (.op (.mv (.t 2)))⟩,
    ⟨(some 18), none, (.op (.bin .int false .geq (.t 16) (.t 17)))⟩])
   (.live [0, 3, 4, 2, 10, 11, 18] (.cond (.t 18) (.exit 0)
   (.skip))))
   (.live [0, 3, 4, 2, 10, 11] (.seq (.seq (.draw c104d0 [])
   (.live [0, 3, 4, 2, 10, 11, 40] (.cond (.t 40) (.region [⟨(some 41), none, (.op (.mv (.t 11)))⟩,
    ⟨(some 42), none, (.op (.bin .int true .add (.t 41) (.c (.i .i64 1))))⟩,
    ⟨(some 11), none, (.op (.mv (.t 42)))⟩])
   (.skip))))
   (.live [0, 3, 4, 2, 11, 10] (.seq (.seq (.draw c104d1 [])
   (.live [0, 3, 4, 2, 11, 10, 58] (.cond (.t 58) (.ret)
   (.skip))))
   (.live [0, 3, 4, 2, 11, 10] (.seq (.draw c104d2 [])
   (.live [0, 3, 4, 2, 11] (.region [⟨(some 81), none, (.op (.mv (.t 11)))⟩,
    ⟨(some 10), none, (.op (.mv (.t 81)))⟩])))))))))))
def c104 : IFunc := ⟨5, [],
  .seq (.region [⟨(some 12), none, (.op (.mv (.t 1)))⟩,
    ⟨(some 10), none, (.op (.mv (.t 12)))⟩])
   (.live [0, 3, 4, 2, 10] (.block 0 (.loop [0, 3, 4, 2, 10] c104l3))),
  []⟩


/- slices.nextPowerOfTwo -/

def c105 : IFunc := ⟨1, [.tmp 2],
  .seq (.region [⟨(some 2), none, (.op (.mv (.c (.i .u64 0))))⟩])
   (.live [0] (.seq (.region [⟨(some 3), none, (.op (.mv (.t 0)))⟩,
    ⟨(some 4), none, (.op (.toInt .u64 (.t 3)))⟩,
    ⟨(some 5), none, (.call 79 [(.t 4)])⟩,
    ⟨(some 6), none, (.op (.bin .int true .shl (.c (.i .u64 1)) (.t 5)))⟩,
    ⟨(some 2), none, (.op (.mv (.t 6)))⟩])
   (.ret))),
  []⟩


/- (*slices.xorshift).Next -/
def c106d0 : List Stage :=
  [⟨[(⟨(some 3), none, (.op (.mv (.t 0)))⟩, 0), (⟨(some 4), none, (.op (.nilck (.t 3)))⟩, 0), (⟨(some 5), none, (.op (.load none (.t 4)))⟩, 0), (⟨(some 6), none, (.op (.mv (.t 0)))⟩, 0), (⟨(some 7), none, (.op (.nilck (.t 6)))⟩, 0), (⟨(some 8), none, (.op (.load none (.t 7)))⟩, 0), (⟨(some 9), none, (.op (.bin .int true .shl (.t 8) (.c (.i .u64 13))))⟩, 0), (⟨(some 10), none, (.op (.bin .int false .xor (.t 5) (.t 9)))⟩, 0), (⟨(some 11), none, (.op (.nilck (.t 3)))⟩, 0)], none, some ⟨none, none, (.op (.store 1 (.t 11) (.t 10)))⟩⟩,
    ⟨[], none, none⟩]
def c106d0w : List (ROp × Bool) :=
  [(⟨(some 3), none, (.op (.mv (.t 0)))⟩, false), (⟨(some 4), none, (.op (.nilck (.t 3)))⟩, false), (⟨(some 5), none, (.op (.load none (.t 4)))⟩, false), (⟨(some 6), none, (.op (.mv (.t 0)))⟩, false), (⟨(some 7), none, (.op (.nilck (.t 6)))⟩, false), (⟨(some 8), none, (.op (.load none (.t 7)))⟩, false), (⟨(some 9), none, (.op (.bin .int true .shl (.t 8) (.c (.i .u64 13))))⟩, false), (⟨(some 10), none, (.op (.bin .int false .xor (.t 5) (.t 9)))⟩, false), (⟨(some 11), none, (.op (.nilck (.t 3)))⟩, false), (⟨none, none, (.op (.store 1 (.t 11) (.t 10)))⟩, false)]
theorem c106d0_w {P : Program} {O : Orc} {S0 : Mem} {rd : Bool} {e : Env} {S : Mem} {d : List Nat} {Q : Kont} : W P O S0 rd (.draw c106d0 []) e S d Q = wFl O c106d0w e S (normK Q d) := W_draw' (by kernel_rfl) (by kernel_rfl)
attribute [go_sem] c106d0_w c106d0w
def c106d1 : List Stage :=
  [⟨[(⟨(some 12), none, (.op (.mv (.t 0)))⟩, 0), (⟨(some 13), none, (.op (.nilck (.t 12)))⟩, 0), (⟨(some 14), none, (.op (.load none (.t 13)))⟩, 0), (⟨(some 15), none, (.op (.mv (.t 0)))⟩, 0), (⟨(some 16), none, (.op (.nilck (.t 15)))⟩, 0), (⟨(some 17), none, (.op (.load none (.t 16)))⟩, 0), (⟨(some 18), none, (.op (.bin .int true .shr (.t 17) (.c (.i .u64 7))))⟩, 0), (⟨(some 19), none, (.op (.bin .int false .xor (.t 14) (.t 18)))⟩, 0), (⟨(some 20), none, (.op (.nilck (.t 12)))⟩, 0)], none, some ⟨none, none, (.op (.store 1 (.t 20) (.t 19)))⟩⟩,
    ⟨[], none, none⟩]
def c106d1w : List (ROp × Bool) :=
  [(⟨(some 12), none, (.op (.mv (.t 0)))⟩, false), (⟨(some 13), none, (.op (.nilck (.t 12)))⟩, false), (⟨(some 14), none, (.op (.load none (.t 13)))⟩, false), (⟨(some 15), none, (.op (.mv (.t 0)))⟩, false), (⟨(some 16), none, (.op (.nilck (.t 15)))⟩, false), (⟨(some 17), none, (.op (.load none (.t 16)))⟩, false), (⟨(some 18), none, (.op (.bin .int true .shr (.t 17) (.c (.i .u64 7))))⟩, false), (⟨(some 19), none, (.op (.bin .int false .xor (.t 14) (.t 18)))⟩, false), (⟨(some 20), none, (.op (.nilck (.t 12)))⟩, false), (⟨none, none, (.op (.store 1 (.t 20) (.t 19)))⟩, false)]
theorem c106d1_w {P : Program} {O : Orc} {S0 : Mem} {rd : Bool} {e : Env} {S : Mem} {d : List Nat} {Q : Kont} : W P O S0 rd (.draw c106d1 []) e S d Q = wFl O c106d1w e S (normK Q d) := W_draw' (by kernel_rfl) (by kernel_rfl)
attribute [go_sem] c106d1_w c106d1w
def c106d2 : List Stage :=
  [⟨[(⟨(some 21), none, (.op (.mv (.t 0)))⟩, 0), (⟨(some 22), none, (.op (.nilck (.t 21)))⟩, 0), (⟨(some 23), none, (.op (.load none (.t 22)))⟩, 0), (⟨(some 24), none, (.op (.mv (.t 0)))⟩, 0), (⟨(some 25), none, (.op (.nilck (.t 24)))⟩, 0), (⟨(some 26), none, (.op (.load none (.t 25)))⟩, 0), (⟨(some 27), none, (.op (.bin .int true .shl (.t 26) (.c (.i .u64 17))))⟩, 0), (⟨(some 28), none, (.op (.bin .int false .xor (.t 23) (.t 27)))⟩, 0), (⟨(some 29), none, (.op (.nilck (.t 21)))⟩, 0)], none, some ⟨none, none, (.op (.store 1 (.t 29) (.t 28)))⟩⟩,
    ⟨[], none, none⟩]
def c106d2w : List (ROp × Bool) :=
  [(⟨(some 21), none, (.op (.mv (.t 0)))⟩, false), (⟨(some 22), none, (.op (.nilck (.t 21)))⟩, false), (⟨(some 23), none, (.op (.load none (.t 22)))⟩, false), (⟨(some 24), none, (.op (.mv (.t 0)))⟩, false), (⟨(some 25), none, (.op (.nilck (.t 24)))⟩, false), (⟨(some 26), none, (.op (.load none (.t 25)))⟩, false), (⟨(some 27), none, (.op (.bin .int true .shl (.t 26) (.c (.i .u64 17))))⟩, false), (⟨(some 28), none, (.op (.bin .int false .xor (.t 23) (.t 27)))⟩, false), (⟨(some 29), none, (.op (.nilck (.t 21)))⟩, false), (⟨none, none, (.op (.store 1 (.t 29) (.t 28)))⟩, false)]
theorem c106d2_w {P : Program} {O : Orc} {S0 : Mem} {rd : Bool} {e : Env} {S : Mem} {d : List Nat} {Q : Kont} : W P O S0 rd (.draw c106d2 []) e S d Q = wFl O c106d2w e S (normK Q d) := W_draw' (by kernel_rfl) (by kernel_rfl)
attribute [go_sem] c106d2_w c106d2w
def c106 : IFunc := ⟨1, [.tmp 2],
  .seq (.region [⟨(some 2), none, (.op (.mv (.c (.i .u64 0))))⟩])
   (.live [0] (.seq (.draw c106d0 [])
   (.live [0] (.seq (.draw c106d1 [])
   (.live [0] (.seq (.draw c106d2 [])
   (.live [0] (.seq (.region [⟨(some 30), none, (.op (.mv (.t 0)))⟩,
    ⟨(some 31), none, (.op (.nilck (.t 30)))⟩,
    ⟨(some 32), none, (.op (.load none (.t 31)))⟩,
    ⟨(some 2), none, (.op (.mv (.t 32)))⟩])
   (.ret))))))))),
  []⟩


/- slices.medianAdjacentCmpFunc[floodgate/api.Entry] -/

def c107 : IFunc := ⟨4, [.tmp 8],
  .seq (.region [⟨(some 8), none, (.op (.mv (.c (.i .i64 0))))⟩])
   (.live [3, 2, 1, 0] (.seq (.region [⟨(some 9), none, (.op (.mv (.t 0)))⟩,
    ⟨(some 10), none, (.op (.mv (.t 1)))⟩,
    ⟨(some 11), none, (.op (.bin .int true .sub (.t 10) (.c (.i .i64 1))))⟩,
    ⟨(some 12), none, (.op (.mv (.t 1)))⟩,
    ⟨(some 13), none, (.op (.mv (.t 1)))⟩,
    ⟨(some 14), none, (.op (.bin .int true .add (.t 13) (.c (.i .i64 1))))⟩,
    ⟨(some 15), none, (.op (.mv (.t 2)))⟩,
    ⟨(some 16), none, (.op (.mv (.t 3)))⟩,
    ⟨(some 17), none, (.call 108 [(.t 9), (.t 11), (.t 12), (.t 14), (.t 15), (.t 16)])⟩,
    ⟨(some 8), none, (.op (.mv (.t 17)))⟩])
   (.ret))),
  []⟩


/- slices.medianCmpFunc[floodgate/api.Entry] -/

def c108 : IFunc := ⟨6, [.tmp 12],
  .seq (.region [⟨(some 12), none, (.op (.mv (.c (.i .i64 0))))⟩])
   (.live [5, 4, 0, 3, 2, 1] (.seq (.region [⟨(some 14), none, (.op (.mv (.t 0)))⟩,
    ⟨(some 15), none, (.op (.mv (.t 1)))⟩,
    ⟨(some 16), none, (.op (.mv (.t 2)))⟩,
    ⟨(some 17), none, (.op (.mv (.t 4)))⟩,
    ⟨(some 18), none, (.op (.mv (.t 5)))⟩,
    ⟨(some 19), none, (.call 110 [(.t 14), (.t 15), (.t 16), (.t 17), (.t 18)])⟩,
    ⟨(some 13), none, (.op (.mv (.t 19)))⟩,
    ⟨(some 20), none, (.op (.ext (.t 13) 0))⟩,
    ⟨(some 21), none, (.op (.ext (.t 13) 1))⟩,
    ⟨(some 1), none, (.op (.mv (.t 20)))⟩,
    ⟨(some 2), none, (.op (.mv (.t 21)))⟩])
   (.live [5, 4, 1, 0, 3, 2] (.seq (.region [⟨(some 23), none, (.op (.mv (.t 0)))⟩,
    ⟨(some 24), none, (.op (.mv (.t 2)))⟩,
    ⟨(some 25), none, (.op (.mv (.t 3)))⟩,
    ⟨(some 26), none, (.op (.mv (.t 4)))⟩,
    ⟨(some 27), none, (.op (.mv (.t 5)))⟩,
    ⟨(some 28), none, (.call 110 [(.t 23), (.t 24), (.t 25), (.t 26), (.t 27)])⟩,
    ⟨(some 22), none, (.op (.mv (.t 28)))⟩,
    ⟨(some 29), none, (.op (.ext (.t 22) 0))⟩,
    ⟨(some 30), none, (.op (.ext (.t 22) 1))⟩,
    ⟨(some 2), none, (.op (.mv (.t 29)))⟩,
    ⟨(some 3), none, (.op (.mv (.t 30)))⟩])
   (.live [5, 4, 2, 1, 0] (.seq (.region [⟨(some 32), none, (.op (.mv (.t 0)))⟩,
    ⟨(some 33), none, (.op (.mv (.t 1)))⟩,
    ⟨(some 34), none, (.op (.mv (.t 2)))⟩,
    ⟨(some 35), none, (.op (.mv (.t 4)))⟩,
    ⟨(some 36), none, (.op (.mv (.t 5)))⟩,
    ⟨(some 37), none, (.call 110 [(.t 32), (.t 33), (.t 34), (.t 35), (.t 36)])⟩,
    ⟨(some 31), none, (.op (.mv (.t 37)))⟩,
    ⟨(some 38), none, (.op (.ext (.t 31) 0))⟩,
    ⟨(some 39), none, (.op (.ext (.t 31) 1))⟩,
    ⟨(some 1), none, (.op (.mv (.t 38)))⟩,
    ⟨(some 2), none, (.op (.mv (.t 39)))⟩])
   (.live [2] (.seq (.region [⟨(some 40), none, (.op (.mv (.t 2)))⟩,
    ⟨(some 12), none, (.op (.mv (.t 40)))⟩])
   (.ret))))))))),
  []⟩


/- floodgate/addr.mask -/

def c109 : IFunc := ⟨1, [.tmp 2],
  .seq (.region [⟨(some 2), none, (.op (.mv (.c (.i .u32 0))))⟩])
   (.live [0] (.seq (.region [⟨(some 3), none, (.op (.mv (.t 0)))⟩,
    ⟨(some 4), none, (.op (.mm false [(.t 3), (.c (.i .i64 32))]))⟩,
    ⟨(some 5), none, (.op (.mm true [(.c (.i .i64 0)), (.t 4)]))⟩,
    ⟨(some 6), none, (.op (.bin .int true .sub (.c (.i .i64 32)) (.t 5)))⟩,
    ⟨(some 7), none, (.op (.bin .int true .shl (.c (.i .u32 4294967295)) (.t 6)))⟩,
    ⟨(some 2), none, (.op (.mv (.t 7)))⟩])
   (.ret))),
  []⟩


/- slices.order2CmpFunc[floodgate/api.Entry] -/
def c110d0 : List Stage :=
  [⟨[(⟨(some 12), none, (.op (.mv (.t 4)))⟩, 0), (⟨(some 13), none, (.op (.mv (.t 0)))⟩, 0), (⟨(some 14), none, (.op (.mv (.t 2)))⟩, 0), (⟨(some 15), none, (.op (.iaddr none 14 (.t 13) (.t 14)))⟩, 0), (⟨(some 16), none, (.op (.load (some 14) (.t 15)))⟩, 0), (⟨(some 17), none, (.op (.mv (.t 0)))⟩, 0), (⟨(some 18), none, (.op (.mv (.t 1)))⟩, 0), (⟨(some 19), none, (.op (.iaddr none 14 (.t 17) (.t 18)))⟩, 0), (⟨(some 20), none, (.op (.load (some 14) (.t 19)))⟩, 0)], none, some ⟨(some 21), none, (.callv (.t 12) [(.t 16), (.t 20)])⟩⟩,
    ⟨[(⟨(some 22), none, (.op (.bin .int true .lss (.t 21) (.c (.i .i64 0))))⟩, 1)], none, none⟩]
def c110d0w : List (ROp × Bool) :=
  [(⟨(some 12), none, (.op (.mv (.t 4)))⟩, false), (⟨(some 13), none, (.op (.mv (.t 0)))⟩, false), (⟨(some 14), none, (.op (.mv (.t 2)))⟩, false), (⟨(some 15), none, (.op (.iaddr none 14 (.t 13) (.t 14)))⟩, false), (⟨(some 16), none, (.op (.load (some 14) (.t 15)))⟩, false), (⟨(some 17), none, (.op (.mv (.t 0)))⟩, false), (⟨(some 18), none, (.op (.mv (.t 1)))⟩, false), (⟨(some 19), none, (.op (.iaddr none 14 (.t 17) (.t 18)))⟩, false), (⟨(some 20), none, (.op (.load (some 14) (.t 19)))⟩, false), (⟨(some 21), none, (.callv (.t 12) [(.t 16), (.t 20)])⟩, false), (⟨(some 22), none, (.op (.bin .int true .lss (.t 21) (.c (.i .i64 0))))⟩, false)]
theorem c110d0_w {P : Program} {O : Orc} {S0 : Mem} {rd : Bool} {e : Env} {S : Mem} {d : List Nat} {Q : Kont} : W P O S0 rd (.draw c110d0 []) e S d Q = wFl O c110d0w e S (normK Q d) := W_draw' (by kernel_rfl) (by kernel_rfl)
attribute [go_sem] c110d0_w c110d0w
def c110 : IFunc := ⟨5, [.tmp 10, .tmp 11],
  .seq (.region [⟨(some 10), none, (.op (.mv (.c (.i .i64 0))))⟩,
    ⟨(some 11), none, (.op (.mv (.c (.i .i64 0))))⟩])
   (.live [1, 2, 3, 4, 0] (.seq (.seq (.draw c110d0 [])
   (.live [1, 2, 3, 22] (.cond (.t 22) (.seq (.region [⟨(some 23), none, (.op (.mv (.t 3)))⟩,
    ⟨(some 24), none, (.op (.nilck (.t 23)))⟩,
    ⟨(some 25), none, (.op (.load none (.t 24)))⟩,
    ⟨(some 26), none, (.op (.bin .int true .add (.t 25) (.c (.i .i64 1))))⟩,
    ⟨(some 27), none, (.op (.nilck (.t 23)))⟩,
    ⟨none, none, (.op (.store 1 (.t 27) (.t 26)))⟩])
   (.live [1, 2] (.seq (.region [⟨(some 28), none, (.op (.mv (.t 2)))⟩,
    ⟨(some 29), none, (.op (.mv (.t 1)))⟩,
    ⟨(some 10), none, (.op (.mv (.t 28)))⟩,
    ⟨(some 11), none, (.op (.mv (.t 29)))⟩])
   (.ret))))
   (.skip))))
   (.live [2, 1] (.seq (.region [⟨(some 30), none, (.op (.mv (.t 1)))⟩,
    ⟨(some 31), none, (.op (.mv (.t 2)))⟩,
    ⟨(some 10), none, (.op (.mv (.t 30)))⟩,
    ⟨(some 11), none, (.op (.mv (.t 31)))⟩])
   (.ret))))),
  []⟩


set_option maxRecDepth 1000000
theorem f93 : compFunc Try.prog 93 = some (stripF c93) := by kernel_rfl
theorem f94 : compFunc Try.prog 94 = some (stripF c94) := by kernel_rfl
theorem f95 : compFunc Try.prog 95 = some (stripF c95) := by kernel_rfl
theorem f96 : compFunc Try.prog 96 = some (stripF c96) := by kernel_rfl
theorem f97 : compFunc Try.prog 97 = some (stripF c97) := by kernel_rfl
theorem f98 : compFunc Try.prog 98 = some (stripF c98) := by kernel_rfl
theorem f99 : compFunc Try.prog 99 = some (stripF c99) := by kernel_rfl
theorem f100 : compFunc Try.prog 100 = some (stripF c100) := by kernel_rfl
theorem f101 : compFunc Try.prog 101 = some (stripF c101) := by kernel_rfl
theorem f102 : compFunc Try.prog 102 = some (stripF c102) := by kernel_rfl
theorem f103 : compFunc Try.prog 103 = some (stripF c103) := by kernel_rfl
theorem f104 : compFunc Try.prog 104 = some (stripF c104) := by kernel_rfl
theorem f105 : compFunc Try.prog 105 = some (stripF c105) := by kernel_rfl
theorem f106 : compFunc Try.prog 106 = some (stripF c106) := by kernel_rfl
theorem f107 : compFunc Try.prog 107 = some (stripF c107) := by kernel_rfl
theorem f108 : compFunc Try.prog 108 = some (stripF c108) := by kernel_rfl
theorem f109 : compFunc Try.prog 109 = some (stripF c109) := by kernel_rfl
theorem f110 : compFunc Try.prog 110 = some (stripF c110) := by kernel_rfl
end Go.Proofs.Ytapgkaecamljbaa
