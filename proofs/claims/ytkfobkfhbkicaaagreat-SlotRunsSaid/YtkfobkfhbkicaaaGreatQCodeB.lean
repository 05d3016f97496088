/- Proved here: the code of the functions, written out, is what the compiler makes of the program. No condition. -/
import Derived.Test.YtkfobkfhbkicaaaGreatMc
import Derived.Test.YtkfobkfhbkicaaaGreatRows
set_option linter.unusedSimpArgs false
set_option linter.unusedVariables false
namespace Go.Proofs.YtkfobkfhbkicaaaGreat
open Go.RowKit
def c74:IFunc:=⟨2,[.tmp 4,.tmp 5],
 .seq (.region [(rO 4 (.mv (cI 0))),
  (rO 5 (.mv (cI 0)))])
  (.live [1,0] (.seq (.region [rM 9 0,
  rC 10 97 [(.t 9)],
  rM 8 10,
  rX 11 8 0,
  rX 12 8 1,
  rM 6 11,
  rM 7 12])
  (.live [1,6,7] (.seq (.seq (.region [rM 13 7,
  (rO 14 (.bin .int true .neq (.t 13) (cI 0))),
  rM 15 14,
  ⟨(some 16),some (15,false),(.op (.mv (.t 1)))⟩,
  ⟨(some 17),some (15,false),(.op (.bin .int true .lss (.t 16) (cI 0)))⟩,
  (rO 18 (.pick (.t 15) (cB true) (.t 17))),
  rM 19 18,
  ⟨(some 20),some (19,false),(.op (.mv (.t 1)))⟩,
  ⟨(some 21),some (19,false),(.op (.mv (.t 6)))⟩,
  ⟨(some 22),some (19,false),(.op (.bin .int false .geq (.t 20) (.t 21)))⟩,
  (rO 23 (.pick (.t 19) (cB true) (.t 22)))])
  (.live [1,23] (.cond (.t 23) (.seq (.region [(rO 4 (.mv (cI 0))),
  (rO 5 (.mv (cI 91)))])
  (.ret))
  (.skip))))
  (.live [1] (.seq (.region [rM 24 1,
  (rO 25 (.bin .int true .mul (cI 16) (.t 24))),
  (rO 26 (.bin .int true .add (cI 32) (.t 25))),
  rM 4 26,
  (rO 5 (.mv (cI 0)))])
  (.ret))))))),
 []⟩
def c75l0:ICode :=
 .seq (.region [(rO 25 (.bin .int false .lss (.t 24) (.t 23)))])
  (.live [22,23,24,3,25] (.seq (.cond (.t 25) (.skip)
  (.exit 0))
  (.live [22,23,24,3] (.seq (.block 1 (.seq (.region [(rO 26 (.iaddr none 14 (.t 22) (.t 24))),
  rK 27 14 26,
  (rO 5 (.fresh [(.i .i64 0),(.i .u8 0),(.i .u8 0),(.i .u8 0),(.i .u8 0),(.i .i64 0),(.i .u64 0),(.i .u64 0),(.i .u64 0),(.i .u64 0),(.i .u64 0),(.i .u64 0),(.i .u64 0),(.i .u64 0)])),
  rS 14 5 27])
  (.live [22,23,24,5,3] (.seq (.seq (.region [rF 28 13 5,
  rL 29 28,
  (rO 30 (.bin .int true .gtr (.t 29) (.c (.i .u64 281474976710656))))])
  (.live [22,23,24,5,3,30] (.cond (.t 30) (.seq (.region [(rO 2 (.mv (cB false)))])
  (.ret))
  (.skip))))
  (.live [22,23,24,5,3] (.region [rM 31 3,
  rF 32 0 5,
  rK 33 13 32,
  (rO 34 (.bslice [(.i .i64 0),(.i .u8 0),(.i .u8 0),(.i .u8 0),(.i .u8 0),(.i .i64 0),(.i .u64 0),(.i .u64 0),(.i .u64 0),(.i .u64 0),(.i .u64 0),(.i .u64 0),(.i .u64 0)] 1 [(0,13,(.t 33))])),
  (rO 35 (.app 13 80 (.t 31) (.t 34))),
  rM 3 35]))))))
  (.live [22,23,3,24] (.region [(rO 36 (.bin .int true .add (.t 24) (cI 1))),
  rM 24 36]))))))
def c75:IFunc:=⟨1,[.tmp 2],
 .seq (.region [(rO 1 (.box (.t 0))),
  (rO 2 (.mv (cB false)))])
  (.live [1] (.seq (.seq (.region [rF 6 0 1,
  rL 7 6,
  (rO 8 (.bin .int true .lss (.t 7) (.c (.i .u64 1)))),
  rM 9 8,
  ⟨(some 10),some (9,false),(.op (.faddr 0 (.t 1)))⟩,
  ⟨(some 11),some (9,false),(.op (.load none (.t 10)))⟩,
  ⟨(some 12),some (9,false),(.op (.bin .int true .gtr (.t 11) (.c (.i .u64 281474976710656))))⟩,
  (rO 13 (.pick (.t 9) (cB true) (.t 12))),
  rM 14 13,
  ⟨(some 15),some (14,false),(.op (.faddr 1 (.t 1)))⟩,
  ⟨(some 16),some (14,false),(.op (.load none (.t 15)))⟩,
  ⟨(some 17),some (14,false),(.op (.len .slice (.t 16)))⟩,
  ⟨(some 18),some (14,false),(.op (.bin .int true .gtr (.t 17) (cI 8)))⟩,
  (rO 19 (.pick (.t 14) (cB true) (.t 18)))])
  (.live [1,19] (.cond (.t 19) (.seq (.region [(rO 2 (.mv (cB false)))])
  (.ret))
  (.skip))))
  (.live [1] (.seq (.region [(rO 20 (.bslice [(.i .i64 0),(.i .u8 0),(.i .u8 0),(.i .u8 0),(.i .u8 0),(.i .i64 0),(.i .u64 0),(.i .u64 0),(.i .u64 0),(.i .u64 0),(.i .u64 0),(.i .u64 0),(.i .u64 0)] 0 [])),
  rM 3 20])
  (.live [3,1] (.seq (.seq (.region [rF 21 1 1,
  rL 22 21,
  (rO 23 (.len .slice (.t 22))),
  (rO 24 (.mv (cI 0)))])
  (.live [22,23,24,3] (.block 0 (.loop [22,23,24,3] c75l0))))
  (.live [3] (.seq (.region [rM 37 3,
  rC 38 98 [(.t 37)],
  (rO 39 (.bin .int true .eql (.t 38) (cI 0))),
  rM 2 39])
  (.ret))))))))),
 []⟩
def c76d0:List Stage :=
 [⟨[(⟨(some 7),none,(.op (.faddr 0 (.t 1)))⟩,1),(⟨(some 8),none,(.op (.load none (.t 7)))⟩,1),(⟨(some 9),none,(.op (.toInt .u64 (.t 8)))⟩,1),(⟨(some 10),none,(.op (.faddr 1 (.t 1)))⟩,0),(⟨(some 11),none,(.op (.faddr 0 (.t 10)))⟩,0),(⟨(some 12),none,(.op (.load (some 4) (.t 11)))⟩,0),(⟨(some 15),none,(.op (.faddr 1 (.t 1)))⟩,1),(⟨(some 16),none,(.op (.faddr 4 (.t 15)))⟩,1),(⟨(some 17),none,(.op (.load none (.t 16)))⟩,1),(⟨(some 18),none,(.op (.toInt .u64 (.t 17)))⟩,1)],none,some ⟨(some 13),none,(.call 100 [(.t 12)])⟩⟩,
  ⟨[(⟨(some 14),none,(.op (.toInt .u64 (.t 13)))⟩,1)],none,some ⟨(some 19),none,(.op (.bslice [(.i .u64 0)] 3 [(0,1,(.t 9)),(1,1,(.t 14)),(2,1,(.t 18))]))⟩⟩,
  ⟨[(⟨(some 3),none,(.op (.mv (.t 19)))⟩,2)],none,none⟩]
def c76d0w:List (ROp × Bool) :=
 [(rF 7 0 1,false),(rL 8 7,false),((rO 9 (.toInt .u64 (.t 8))),false),(rF 10 1 1,false),(rF 11 0 10,false),(rK 12 4 11,false),(rF 15 1 1,false),(rF 16 4 15,false),(rL 17 16,false),((rO 18 (.toInt .u64 (.t 17))),false),(rC 13 100 [(.t 12)],true),((rO 14 (.toInt .u64 (.t 13))),false),((rO 19 (.bslice [(.i .u64 0)] 3 [(0,1,(.t 9)),(1,1,(.t 14)),(2,1,(.t 18))])),false),(rM 3 19,false)]
theorem c76d0_w {P:Program} {O:Orc} {S0:Mem} {rd:Bool} {e:Env} {S:Mem} {d:List Nat} {Q:Kont}:W P O S0 rd (.draw c76d0 []) e S d Q=wFl O c76d0w e S (normK Q d):=W_draw' (by kernel_rfl) (by kernel_rfl)
attribute [go_sem] c76d0_w c76d0w
def c76:IFunc:=⟨1,[.tmp 2],
 .seq (.region [(rO 1 (.box (.t 0))),
  (rO 2 (.mv (.c .sn)))])
  (.live [1] (.seq (.seq (.region [rK 4 13 1,
  rC 5 99 [(.t 4)],
  (rO 6 (.un .not (.t 5)))])
  (.live [1,6] (.cond (.t 6) (.seq (.region [(rO 2 (.mv (.c .sn)))])
  (.ret))
  (.skip))))
  (.live [1] (.seq (.draw c76d0 [])
  (.live [1,3] (.seq (.region [rM 20 3,
  rF 21 6 1,
  rL 22 21,
  rF 23 7 1,
  rL 24 23,
  rF 25 8 1,
  rL 26 25,
  rF 27 9 1,
  rL 28 27,
  rF 29 10 1,
  rL 30 29,
  rF 31 11 1,
  rL 32 31,
  rF 33 12 1,
  rL 34 33,
  (rO 35 (.bslice [(.i .u64 0)] 7 [(0,1,(.t 22)),(1,1,(.t 24)),(2,1,(.t 26)),(3,1,(.t 28)),(4,1,(.t 30)),(5,1,(.t 32)),(6,1,(.t 34))])),
  (rO 36 (.app 1 8 (.t 20) (.t 35))),
  rM 2 36])
  (.ret))))))),
 []⟩
def c77:IFunc:=⟨1,[.tmp 2],
 .seq (.region [(rO 2 (.mv (.c .sn)))])
  (.live [0] (.seq (.seq (.region [rM 3 0,
  (rO 4 (.bin .int true .lss (.t 3) (.c (.i .u64 128))))])
  (.live [0,4] (.cond (.t 4) (.seq (.region [rM 5 0,
  (rO 6 (.toInt .u8 (.t 5))),
  (rO 7 (.bslice [(.i .u8 0)] 1 [(0,1,(.t 6))])),
  rM 2 7])
  (.ret))
  (.skip))))
  (.live [0] (.seq (.region [rM 8 0,
  (rO 9 (.bin .int true .rem (.t 8) (.c (.i .u64 128)))),
  (rO 10 (.bin .int true .add (.c (.i .u64 128)) (.t 9))),
  (rO 11 (.toInt .u8 (.t 10))),
  (rO 12 (.bslice [(.i .u8 0)] 1 [(0,1,(.t 11))])),
  rM 13 0,
  (rO 14 (.bin .int true .quo (.t 13) (.c (.i .u64 128)))),
  rC 15 77 [(.t 14)],
  (rO 16 (.app 1 1 (.t 12) (.t 15))),
  rM 2 16])
  (.ret))))),
 []⟩
def c78d0:List Stage :=
 [⟨[(⟨(some 6),none,(.op (.faddr 0 (.t 1)))⟩,1),(⟨(some 7),none,(.op (.load none (.t 6)))⟩,1),(⟨(some 8),none,(.op (.toInt .u64 (.t 7)))⟩,1),(⟨(some 9),none,(.op (.faddr 1 (.t 1)))⟩,0),(⟨(some 10),none,(.op (.faddr 0 (.t 9)))⟩,0),(⟨(some 11),none,(.op (.load (some 4) (.t 10)))⟩,0),(⟨(some 14),none,(.op (.faddr 1 (.t 1)))⟩,1),(⟨(some 15),none,(.op (.faddr 4 (.t 14)))⟩,1),(⟨(some 16),none,(.op (.load none (.t 15)))⟩,1),(⟨(some 17),none,(.op (.toInt .u64 (.t 16)))⟩,1),(⟨(some 18),none,(.op (.faddr 6 (.t 1)))⟩,1),(⟨(some 19),none,(.op (.load none (.t 18)))⟩,1),(⟨(some 20),none,(.op (.faddr 7 (.t 1)))⟩,1),(⟨(some 21),none,(.op (.load none (.t 20)))⟩,1),(⟨(some 22),none,(.op (.faddr 8 (.t 1)))⟩,1),(⟨(some 23),none,(.op (.load none (.t 22)))⟩,1),(⟨(some 24),none,(.op (.faddr 9 (.t 1)))⟩,1),(⟨(some 25),none,(.op (.load none (.t 24)))⟩,1),(⟨(some 26),none,(.op (.faddr 10 (.t 1)))⟩,1),(⟨(some 27),none,(.op (.load none (.t 26)))⟩,1),(⟨(some 28),none,(.op (.faddr 11 (.t 1)))⟩,1),(⟨(some 29),none,(.op (.load none (.t 28)))⟩,1),(⟨(some 30),none,(.op (.faddr 12 (.t 1)))⟩,1),(⟨(some 31),none,(.op (.load none (.t 30)))⟩,1)],none,some ⟨(some 12),none,(.call 101 [(.t 11)])⟩⟩,
  ⟨[(⟨(some 13),none,(.op (.toInt .u64 (.t 12)))⟩,1)],none,some ⟨(some 32),none,(.op (.bslice [(.i .u64 0)] 10 [(0,1,(.t 8)),(1,1,(.t 13)),(2,1,(.t 17)),(3,1,(.t 19)),(4,1,(.t 21)),(5,1,(.t 23)),(6,1,(.t 25)),(7,1,(.t 27)),(8,1,(.t 29)),(9,1,(.t 31))]))⟩⟩,
  ⟨[(⟨(some 2),none,(.op (.mv (.t 32)))⟩,2)],none,none⟩]
def c78d0w:List (ROp × Bool) :=
 [(rF 6 0 1,false),(rL 7 6,false),((rO 8 (.toInt .u64 (.t 7))),false),(rF 9 1 1,false),(rF 10 0 9,false),(rK 11 4 10,false),(rF 14 1 1,false),(rF 15 4 14,false),(rL 16 15,false),((rO 17 (.toInt .u64 (.t 16))),false),(rF 18 6 1,false),(rL 19 18,false),(rF 20 7 1,false),(rL 21 20,false),(rF 22 8 1,false),(rL 23 22,false),(rF 24 9 1,false),(rL 25 24,false),(rF 26 10 1,false),(rL 27 26,false),(rF 28 11 1,false),(rL 29 28,false),(rF 30 12 1,false),(rL 31 30,false),(rC 12 101 [(.t 11)],true),((rO 13 (.toInt .u64 (.t 12))),false),((rO 32 (.bslice [(.i .u64 0)] 10 [(0,1,(.t 8)),(1,1,(.t 13)),(2,1,(.t 17)),(3,1,(.t 19)),(4,1,(.t 21)),(5,1,(.t 23)),(6,1,(.t 25)),(7,1,(.t 27)),(8,1,(.t 29)),(9,1,(.t 31))])),false),(rM 2 32,false)]
theorem c78d0_w {P:Program} {O:Orc} {S0:Mem} {rd:Bool} {e:Env} {S:Mem} {d:List Nat} {Q:Kont}:W P O S0 rd (.draw c78d0 []) e S d Q=wFl O c78d0w e S (normK Q d):=W_draw' (by kernel_rfl) (by kernel_rfl)
attribute [go_sem] c78d0_w c78d0w
def c78:IFunc:=⟨1,[.tmp 2],
 .seq (.region [(rO 1 (.box (.t 0))),
  (rO 2 (.mv (.c .sn)))])
  (.live [1] (.seq (.seq (.region [rK 3 13 1,
  rC 4 95 [(.t 3)],
  (rO 5 (.un .not (.t 4)))])
  (.live [1,5] (.cond (.t 5) (.seq (.region [(rO 2 (.mv (.c .sn)))])
  (.ret))
  (.skip))))
  (.live [1] (.seq (.draw c78d0 [])
  (.ret))))),
 []⟩
def c79:IFunc:=⟨2,[.tmp 4],
 .seq (.region [(rO 4 (.mv (.c .sn)))])
  (.live [0,1] (.seq (.seq (.region [rM 5 1,
  (rO 6 (.bin .int true .lss (.t 5) (cI 0)))])
  (.live [0,1,6] (.cond (.t 6) (.region [(rO 7 (.bad)),
  ⟨none,none,(.op (.bad))⟩])
  (.skip))))
  (.live [0,1] (.seq (.seq (.region [rM 8 1,
  rM 9 0,
  (rO 10 (.cap (.t 9))),
  rM 11 0,
  (rO 12 (.len .slice (.t 11))),
  (rO 13 (.bin .int false .sub (.t 10) (.t 12))),
  (rO 14 (.bin .int false .sub (.t 8) (.t 13))),
  rM 1 14])
  (.live [0,1] (.seq (.region [rM 15 1,
  (rO 16 (.bin .int true .gtr (.t 15) (cI 0)))])
  (.live [0,1,16] (.cond (.t 16) (.region [rM 17 0,
  rM 18 0,
  (rO 19 (.cap (.t 18))),
  (rO 20 (.slice 1 (.t 17) none (some (.t 19)) none)),
  rM 21 1,
  (rO 22 (.appz [(.i .u8 0)] 1 (.t 20) (.t 21))),
  rM 23 0,
  (rO 24 (.len .slice (.t 23))),
  (rO 25 (.slice 1 (.t 22) none (some (.t 24)) none)),
  rM 0 25])
  (.skip))))))
  (.live [0] (.seq (.region [rM 26 0,
  rM 4 26])
  (.ret))))))),
 []⟩
def c80l0:ICode :=
 .seq (.seq (.region [rM 5 0,
  (rO 6 (.bin .int true .geq (.t 5) (.c (.i .u64 128))))])
  (.live [0,3,6] (.cond (.t 6) (.skip)
  (.exit 0))))
  (.live [0,3] (.block 1 (.seq (.region [rM 7 3,
  rM 8 0,
  (rO 9 (.toInt .u8 (.t 8))),
  (rO 10 (.bin .int true .or (.t 9) (.c (.i .u8 128)))),
  (rO 11 (.bslice [(.i .u8 0)] 1 [(0,1,(.t 10))])),
  (rO 12 (.app 1 1 (.t 7) (.t 11))),
  rM 3 12])
  (.live [3,0] (.region [rM 13 0,
  (rO 14 (.bin .int true .shr (.t 13) (.c (.i .u64 7)))),
  rM 0 14])))))
def c80:IFunc:=⟨1,[.tmp 2],
 .seq (.region [(rO 2 (.mv (.c .sn)))])
  (.live [0] (.seq (.region [(rO 4 (.mks [(.i .u8 0)] 1 (cI 0) (cI 10))),
  rM 3 4])
  (.live [0,3] (.seq (.block 0 (.loop [0,3] c80l0))
  (.live [0,3] (.seq (.region [rM 15 3,
  rM 16 0,
  (rO 17 (.toInt .u8 (.t 16))),
  (rO 18 (.bslice [(.i .u8 0)] 1 [(0,1,(.t 17))])),
  (rO 19 (.app 1 1 (.t 15) (.t 18))),
  rM 2 19])
  (.ret))))))),
 []⟩
def c81:IFunc:=⟨1,[.tmp 2],
 .seq (.region [(rO 2 (.mv (.c .sn)))])
  (.live [0] (.seq (.region [rM 3 0,
  (rO 4 (.bin .int true .shr (.t 3) (.c (.i .u64 24)))),
  (rO 5 (.toInt .u8 (.t 4))),
  rM 6 0,
  (rO 7 (.bin .int true .shr (.t 6) (.c (.i .u64 16)))),
  (rO 8 (.toInt .u8 (.t 7))),
  rM 9 0,
  (rO 10 (.bin .int true .shr (.t 9) (.c (.i .u64 8)))),
  (rO 11 (.toInt .u8 (.t 10))),
  rM 12 0,
  (rO 13 (.toInt .u8 (.t 12))),
  (rO 14 (.bslice [(.i .u8 0)] 4 [(0,1,(.t 5)),(1,1,(.t 8)),(2,1,(.t 11)),(3,1,(.t 13))])),
  rM 2 14])
  (.ret))),
 []⟩
def c82l0:ICode :=
 .seq (.region [(rO 9 (.bin .int false .lss (.t 8) (.t 7)))])
  (.live [6,7,8,3,9] (.seq (.cond (.t 9) (.skip)
  (.exit 0))
  (.live [6,7,8,3] (.seq (.block 1 (.seq (.region [(rO 10 (.iaddr none 1 (.t 6) (.t 8))),
  rL 11 10,
  rM 5 11])
  (.live [6,7,8,5,3] (.region [rM 12 3,
  rM 13 5,
  rC 14 102 [(.t 12),(.t 13)],
  rM 3 14]))))
  (.live [6,7,3,8] (.region [(rO 15 (.bin .int true .add (.t 8) (cI 1))),
  rM 8 15]))))))
def c82:IFunc:=⟨1,[.tmp 2],
 .seq (.region [(rO 2 (.mv (.c (.i .u32 0))))])
  (.live [0] (.seq (.region [(rO 3 (.mv (.c (.i .u32 0))))])
  (.live [3,0] (.seq (.seq (.region [rM 6 0,
  (rO 7 (.len .slice (.t 6))),
  (rO 8 (.mv (cI 0)))])
  (.live [6,7,8,3] (.block 0 (.loop [6,7,8,3] c82l0))))
  (.live [3] (.seq (.region [rM 16 3,
  rM 2 16])
  (.ret))))))),
 []⟩
def c83:IFunc:=⟨1,[.tmp 2],
 .seq (.region [(rO 1 (.box (.t 0))),
  (rO 2 (.mv (.c .nf)))])
  (.live [1] (.seq (.region [(rO 3 (.mkf (.func 103) [] [(.t 1)])),
  rM 2 3])
  (.ret))),
 []⟩
def c84l0:ICode :=
 .seq (.seq (.region [rM 6 4,
  rM 7 0,
  (rO 8 (.len .slice (.t 7))),
  (rO 9 (.bin .int true .mul (cI 8) (.t 8))),
  (rO 10 (.bin .int false .lss (.t 6) (.t 9)))])
  (.live [0,4,3,10] (.cond (.t 10) (.skip)
  (.exit 0))))
  (.live [0,4,3] (.seq (.block 1 (.seq (.region [rM 13 3,
  (rO 14 (.bin .int true .geq (.t 13) (.c (.i .u64 2147483648)))),
  rM 5 14])
  (.live [0,4,3,5] (.seq (.seq (.region [rM 15 0,
  rM 16 4,
  rC 17 104 [(.t 15),(.t 16)]])
  (.live [0,4,3,5,17] (.cond (.t 17) (.region [rM 18 5,
  (rO 19 (.un .not (.t 18))),
  rM 5 19])
  (.skip))))
  (.live [0,4,5,3] (.seq (.region [rM 20 3,
  (rO 21 (.bin .int true .mul (.t 20) (.c (.i .u64 2)))),
  (rO 22 (.bin .int true .rem (.t 21) (.c (.i .u64 4294967296)))),
  rM 3 22])
  (.live [0,4,3,5] (.seq (.region [rM 23 5])
  (.live [0,4,3,23] (.cond (.t 23) (.region [rM 24 3,
  rC 25 105 [(.t 24),(.c (.i .u64 79764919))],
  rM 3 25])
  (.skip)))))))))))
  (.live [0,3,4] (.region [rM 11 4,
  (rO 12 (.bin .int true .add (.t 11) (cI 1))),
  rM 4 12]))))
def c84:IFunc:=⟨1,[.tmp 2],
 .seq (.region [(rO 2 (.mv (.c (.i .u32 0))))])
  (.live [0] (.seq (.region [(rO 3 (.mv (.c (.i .u64 4294967295))))])
  (.live [0,3] (.seq (.seq (.region [(rO 4 (.mv (cI 0)))])
  (.live [0,4,3] (.block 0 (.loop [0,4,3] c84l0))))
  (.live [3] (.seq (.region [rM 26 3,
  (rO 27 (.bin .int true .sub (.c (.i .u64 4294967295)) (.t 26))),
  (rO 28 (.toInt .u32 (.t 27))),
  rM 2 28])
  (.ret))))))),
 []⟩
def c85l0:ICode :=
 .seq (.region [(rO 9 (.bin .int false .lss (.t 8) (.t 7)))])
  (.live [6,7,8,3,9] (.seq (.cond (.t 9) (.skip)
  (.exit 0))
  (.live [6,7,8,3] (.seq (.block 1 (.seq (.region [(rO 10 (.iaddr none 1 (.t 6) (.t 8))),
  rL 11 10,
  rM 5 11])
  (.live [6,7,8,5,3] (.region [rM 12 3,
  (rO 13 (.bin .int true .shl (.t 12) (.c (.i .u64 8)))),
  rM 14 5,
  (rO 15 (.toInt .u64 (.t 14))),
  (rO 16 (.bin .int false .or (.t 13) (.t 15))),
  rM 3 16]))))
  (.live [6,7,3,8] (.region [(rO 17 (.bin .int true .add (.t 8) (cI 1))),
  rM 8 17]))))))
def c85:IFunc:=⟨1,[.tmp 2],
 .seq (.region [(rO 2 (.mv (.c (.i .u64 0))))])
  (.live [0] (.seq (.region [(rO 3 (.mv (.c (.i .u64 0))))])
  (.live [3,0] (.seq (.seq (.region [rM 6 0,
  (rO 7 (.len .slice (.t 6))),
  (rO 8 (.mv (cI 0)))])
  (.live [6,7,8,3] (.block 0 (.loop [6,7,8,3] c85l0))))
  (.live [3] (.seq (.region [rM 18 3,
  rM 2 18])
  (.ret))))))),
 []⟩
def c86d0:List Stage :=
 [⟨[(⟨(some 8),none,(.op (.mv (.t 4)))⟩,0),(⟨(some 9),none,(.op (.bin .int true .lss (.t 8) (.c (.i .i64 0))))⟩,0),(⟨(some 10),none,(.op (.mv (.t 9)))⟩,0),(⟨(some 11),some (10,false),(.op (.mv (.t 0)))⟩,0),(⟨(some 12),some (10,false),(.op (.mv (.t 4)))⟩,0),(⟨(some 13),some (10,false),(.op (.slice 1 (.t 11) none (some (.t 12)) none))⟩,0),(⟨(some 17),some (10,false),(.op (.mv (.t 0)))⟩,3),(⟨(some 18),some (10,false),(.op (.mv (.t 4)))⟩,3),(⟨(some 19),some (10,false),(.op (.slice 1 (.t 17) (some (.t 18)) none none))⟩,3)],none,some ⟨(some 14),some (10,false),(.op (.bslice [.sn] 1 [(0,1,(.t 13))]))⟩⟩,
  ⟨[],none,some ⟨(some 15),some (10,false),(.call 82 [(.t 14)])⟩⟩,
  ⟨[],none,some ⟨(some 16),some (10,false),(.call 81 [(.t 15)])⟩⟩,
  ⟨[],none,some ⟨(some 20),some (10,false),(.call 106 [(.t 16),(.t 19)])⟩⟩,
  ⟨[(⟨(some 21),some (10,false),(.op (.un .not (.t 20)))⟩,4),(⟨(some 22),none,(.op (.pick (.t 10) (.c (.b true)) (.t 21)))⟩,4)],none,none⟩]
def c86d0w:List (ROp × Bool) :=
 [(rM 8 4,false),((rO 9 (.bin .int true .lss (.t 8) (cI 0))),false),(rM 10 9,false),(⟨(some 11),some (10,false),(.op (.mv (.t 0)))⟩,false),(⟨(some 12),some (10,false),(.op (.mv (.t 4)))⟩,false),(⟨(some 13),some (10,false),(.op (.slice 1 (.t 11) none (some (.t 12)) none))⟩,false),(⟨(some 17),some (10,false),(.op (.mv (.t 0)))⟩,false),(⟨(some 18),some (10,false),(.op (.mv (.t 4)))⟩,false),(⟨(some 19),some (10,false),(.op (.slice 1 (.t 17) (some (.t 18)) none none))⟩,false),(⟨(some 14),some (10,false),(.op (.bslice [.sn] 1 [(0,1,(.t 13))]))⟩,true),(⟨(some 15),some (10,false),(.call 82 [(.t 14)])⟩,true),(⟨(some 16),some (10,false),(.call 81 [(.t 15)])⟩,true),(⟨(some 20),some (10,false),(.call 106 [(.t 16),(.t 19)])⟩,false),(⟨(some 21),some (10,false),(.op (.un .not (.t 20)))⟩,false),((rO 22 (.pick (.t 10) (cB true) (.t 21))),false)]
theorem c86d0_w {P:Program} {O:Orc} {S0:Mem} {rd:Bool} {e:Env} {S:Mem} {d:List Nat} {Q:Kont}:W P O S0 rd (.draw c86d0 []) e S d Q=wFl O c86d0w e S (normK Q d):=W_draw' (by kernel_rfl) (by kernel_rfl)
attribute [go_sem] c86d0_w c86d0w
def c86:IFunc:=⟨1,[.tmp 2,.tmp 3],
 .seq (.region [(rO 2 (.mv (.c .sn))),
  (rO 3 (.mv (cB false)))])
  (.live [0] (.seq (.region [rM 5 0,
  (rO 6 (.len .slice (.t 5))),
  (rO 7 (.bin .int true .sub (.t 6) (cI 4))),
  rM 4 7])
  (.live [4,0] (.seq (.seq (.draw c86d0 [])
  (.live [4,0,22] (.cond (.t 22) (.seq (.region [(rO 2 (.mv (.c .sn))),
  (rO 3 (.mv (cB false)))])
  (.ret))
  (.skip))))
  (.live [4,0] (.seq (.region [rM 23 0,
  rM 24 4,
  (rO 25 (.slice 1 (.t 23) none (some (.t 24)) none)),
  rC 26 107 [(.t 25)],
  rM 2 26,
  (rO 3 (.mv (cB true)))])
  (.ret))))))),
 []⟩
def c87:IFunc:=⟨2,[.tmp 4],
 .seq (.region [(rO 4 (.mv (cB false)))])
  (.live [1,0] (.seq (.region [rM 5 0,
  rM 6 1,
  rC 7 108 [(.t 5),(.t 6)],
  (rO 8 (.bin .int true .geq (.t 7) (cI 0))),
  rM 4 8])
  (.ret))),
 []⟩
def c88:IFunc:=⟨1,[.tmp 2],
 .seq (.region [(rO 2 (.mv (cB false)))])
  (.live [0] (.seq (.region [rM 3 0,
  (rO 4 (.bin .int true .neq (.t 3) (.c (.i .u8 0)))),
  rM 2 4])
  (.ret))),
 []⟩
def c89l0:ICode :=
 .seq (.region [(rO 16 (.bin .int false .lss (.t 15) (.t 14)))])
  (.live [13,14,15,5,16] (.seq (.cond (.t 16) (.skip)
  (.exit 0))
  (.live [13,14,15,5] (.seq (.block 1 (.seq (.region [rM 17 15,
  (rO 18 (.iaddr none 1 (.t 13) (.t 15))),
  rL 19 18,
  rM 6 17,
  rM 7 19])
  (.live [13,14,15,6,7,5] (.seq (.region [rM 20 7,
  (rO 21 (.bin .int true .and (.t 20) (.c (.i .u8 127)))),
  (rO 22 (.toInt .u64 (.t 21))),
  rM 8 22])
  (.live [13,14,15,6,7,8,5] (.seq (.seq (.region [rM 23 8,
  rM 24 6,
  (rO 25 (.bin .int true .mul (cI 7) (.t 24))),
  (rO 26 (.bin .int false .shl (.t 23) (.t 25))),
  rM 27 6,
  (rO 28 (.bin .int true .mul (cI 7) (.t 27))),
  (rO 29 (.bin .int false .shr (.t 26) (.t 28))),
  rM 30 8,
  (rO 31 (.bin .int false .neq (.t 29) (.t 30)))])
  (.live [13,14,15,6,7,8,5,31] (.cond (.t 31) (.exit 0)
  (.skip))))
  (.live [13,14,15,6,7,8,5] (.seq (.region [rM 32 5,
  rM 33 8,
  rM 34 6,
  (rO 35 (.bin .int true .mul (cI 7) (.t 34))),
  (rO 36 (.bin .int false .shl (.t 33) (.t 35))),
  (rO 37 (.bin .int false .or (.t 32) (.t 36))),
  rM 5 37])
  (.live [13,14,5,15,6,7] (.seq (.seq (.region [rM 38 7,
  (rO 39 (.bin .int true .and (.t 38) (.c (.i .u8 128)))),
  (rO 40 (.bin .int true .neq (.t 39) (.c (.i .u8 0))))])
  (.live [13,14,5,15,6,40] (.cond (.t 40) (.exit 1)
  (.skip))))
  (.live [6,5] (.seq (.seq (.region [rM 41 5,
  rC 42 109 [(.t 41)],
  rM 43 6,
  (rO 44 (.bin .int true .add (.t 43) (cI 1))),
  (rO 45 (.bin .int false .neq (.t 42) (.t 44)))])
  (.live [6,5,45] (.cond (.t 45) (.exit 0)
  (.skip))))
  (.live [6,5] (.seq (.region [rM 46 5,
  rM 47 6,
  (rO 48 (.bin .int true .add (.t 47) (cI 1))),
  rM 2 46,
  rM 3 48,
  (rO 4 (.mv (cI 0)))])
  (.ret)))))))))))))))
  (.live [13,14,5,15] (.region [(rO 49 (.bin .int true .add (.t 15) (cI 1))),
  rM 15 49]))))))
def c89:IFunc:=⟨1,[.tmp 2,.tmp 3,.tmp 4],
 .seq (.region [(rO 2 (.mv (.c (.i .u64 0)))),
  (rO 3 (.mv (cI 0))),
  (rO 4 (.mv (cI 0)))])
  (.live [0] (.seq (.region [(rO 5 (.mv (.c (.i .u64 0))))])
  (.live [5,0] (.seq (.seq (.region [rM 9 0,
  rM 10 0,
  (rO 11 (.len .slice (.t 10))),
  (rO 12 (.mm false [(.t 11),(cI 10)])),
  (rO 13 (.slice 1 (.t 9) none (some (.t 12)) none)),
  (rO 14 (.len .slice (.t 13))),
  (rO 15 (.mv (cI 0)))])
  (.live [13,14,15,5] (.block 0 (.loop [13,14,15,5] c89l0))))
  (.live [] (.seq (.region [(rO 2 (.mv (.c (.i .u64 0)))),
  (rO 3 (.mv (cI 0))),
  (rO 4 (.mv (cI 21)))])
  (.ret))))))),
 []⟩
def c90:IFunc:=⟨1,[.tmp 2,.tmp 3],
 .seq (.region [(rO 2 (.mv (cI 0))),
  (rO 3 (.mv (cB false)))])
  (.live [0] (.seq (.seq (.region [rM 4 0,
  (rO 5 (.bin .int true .gtr (.t 4) (.c (.i .u64 9223372036854775807))))])
  (.live [0,5] (.cond (.t 5) (.seq (.region [(rO 2 (.mv (cI 0))),
  (rO 3 (.mv (cB false)))])
  (.ret))
  (.skip))))
  (.live [0] (.seq (.region [rM 6 0,
  (rO 7 (.toInt .i64 (.t 6))),
  rM 2 7,
  (rO 3 (.mv (cB true)))])
  (.ret))))),
 []⟩
def c91d0:List Stage :=
 [⟨[(⟨(some 41),none,(.op (.faddr 1 (.t 6)))⟩,1),(⟨(some 42),none,(.op (.load none (.t 41)))⟩,1),(⟨(some 43),none,(.op (.load (some 13) (.t 8)))⟩,0),(⟨(some 44),none,(.op (.mv (.t 7)))⟩,0),(⟨(some 45),none,(.op (.iaddr none 1 (.t 44) (.c (.i .i64 10))))⟩,0),(⟨(some 46),none,(.op (.load none (.t 45)))⟩,0),(⟨(some 47),none,(.op (.build [(.i .i64 0),(.i .u8 0),(.i .u8 0),(.i .u8 0),(.i .u8 0),(.i .i64 0),(.i .u64 0),(.i .u64 0),(.i .u64 0),(.i .u64 0),(.i .u64 0),(.i .u64 0),(.i .u64 0),(.i .u64 0)] [(0,13,(.t 43)),(13,1,(.t 46))]))⟩,0)],none,some ⟨(some 48),none,(.op (.bslice [(.i .i64 0),(.i .u8 0),(.i .u8 0),(.i .u8 0),(.i .u8 0),(.i .i64 0),(.i .u64 0),(.i .u64 0),(.i .u64 0),(.i .u64 0),(.i .u64 0),(.i .u64 0),(.i .u64 0),(.i .u64 0)] 1 [(0,14,(.t 47))]))⟩⟩,
  ⟨[],none,some ⟨(some 49),none,(.op (.app 14 88 (.t 42) (.t 48)))⟩⟩,
  ⟨[(⟨(some 50),none,(.op (.faddr 1 (.t 6)))⟩,2)],none,some ⟨none,none,(.op (.store 1 (.t 50) (.t 49)))⟩⟩,
  ⟨[],none,none⟩]
def c91d0w:List (ROp × Bool) :=
 [(rF 41 1 6,false),(rL 42 41,false),(rK 43 13 8,false),(rM 44 7,false),((rO 45 (.iaddr none 1 (.t 44) (cI 10))),false),(rL 46 45,false),((rO 47 (.build [(.i .i64 0),(.i .u8 0),(.i .u8 0),(.i .u8 0),(.i .u8 0),(.i .i64 0),(.i .u64 0),(.i .u64 0),(.i .u64 0),(.i .u64 0),(.i .u64 0),(.i .u64 0),(.i .u64 0),(.i .u64 0)] [(0,13,(.t 43)),(13,1,(.t 46))])),false),((rO 48 (.bslice [(.i .i64 0),(.i .u8 0),(.i .u8 0),(.i .u8 0),(.i .u8 0),(.i .i64 0),(.i .u64 0),(.i .u64 0),(.i .u64 0),(.i .u64 0),(.i .u64 0),(.i .u64 0),(.i .u64 0),(.i .u64 0)] 1 [(0,14,(.t 47))])),true),((rO 49 (.app 14 88 (.t 42) (.t 48))),false),(rF 50 1 6,false),(rS 1 50 49,false)]
theorem c91d0_w {P:Program} {O:Orc} {S0:Mem} {rd:Bool} {e:Env} {S:Mem} {d:List Nat} {Q:Kont}:W P O S0 rd (.draw c91d0 []) e S d Q=wFl O c91d0w e S (normK Q d):=W_draw' (by kernel_rfl) (by kernel_rfl)
attribute [go_sem] c91d0_w c91d0w
def c91ra0:ICode :=
 .region [rM 7 31]
def c91rb0:ICode :=
 .block 1 (.seq (.region [rM 33 7,
  (rO 34 (.slice 1 (.t 33) none (some (cI 10)) none)),
  rC 35 112 [(.t 34)],
  rM 32 35,
  rX 36 32 0,
  rX 37 32 1,
  (rO 8 (.fresh [(.i .i64 0),(.i .u8 0),(.i .u8 0),(.i .u8 0),(.i .u8 0),(.i .i64 0),(.i .u64 0),(.i .u64 0),(.i .u64 0),(.i .u64 0),(.i .u64 0),(.i .u64 0),(.i .u64 0)])),
  rS 13 8 36,
  rM 9 37])
  (.live [2,3,8,7,6,9] (.seq (.seq (.region [rM 38 9,
  (rO 39 (.bin .int true .neq (.t 38) (cI 0)))])
  (.live [2,3,8,7,6,39] (.cond (.t 39) (.seq (.region [(rO 40 (.build [(.i .u64 0),.sn] [])),
  rS 2 2 40,
  ⟨none,none,(.op (.store 1 (.t 3) (cI 131)))⟩])
  (.ret))
  (.skip))))
  (.live [8,7,6] (.draw c91d0 [])))))
def c91:IFunc:=⟨1,[.cell 2 (some 2),.cell 3 none],
 .seq (.region [(rO 2 (.fresh [(.i .u64 0),.sn])),
  (rO 3 (.fresh [(.i .i64 0)]))])
  (.live [2,3,31,33,34,35,32,36,37,9,38,39,40,41,8,7,44,45,43,46,47,42,48,50,49,0] (.seq (.region [rM 11 0,
  rC 12 110 [(.t 11)],
  rM 10 12,
  rX 13 10 0,
  rX 14 10 1,
  rM 4 13,
  rM 5 14])
  (.live [2,3,31,33,34,35,32,36,37,9,38,39,40,41,8,7,44,45,43,46,47,42,48,50,49,4,5] (.seq (.seq (.region [rM 15 5,
  (rO 16 (.bin .int true .neq (.t 15) (cI 0))),
  rM 17 16,
  ⟨(some 18),some (17,false),(.op (.mv (.t 4)))⟩,
  ⟨(some 19),some (17,false),(.op (.len .slice (.t 18)))⟩,
  ⟨(some 20),some (17,false),(.op (.bin .int true .rem (.t 19) (cI 11)))⟩,
  ⟨(some 21),some (17,false),(.op (.bin .int true .neq (.t 20) (cI 1)))⟩,
  (rO 22 (.pick (.t 17) (cB true) (.t 21)))])
  (.live [2,3,31,33,34,35,32,36,37,9,38,39,40,41,8,7,44,45,43,46,47,42,48,50,49,4,22] (.cond (.t 22) (.seq (.region [(rO 23 (.build [(.i .u64 0),.sn] [])),
  rS 2 2 23,
  ⟨none,none,(.op (.store 1 (.t 3) (cI 131)))⟩])
  (.ret))
  (.skip))))
  (.live [2,3,31,33,34,35,32,36,37,9,38,39,40,41,8,7,44,45,43,46,47,42,48,50,49,4] (.seq (.region [rM 24 4,
  (rO 25 (.iaddr none 1 (.t 24) (cI 0))),
  rL 26 25,
  (rO 27 (.build [(.i .u64 0),.sn] [(0,1,(.t 26))])),
  (rO 6 (.fresh [(.i .u64 0),.sn])),
  rS 2 6 27])
  (.live [2,3,6,31,33,34,35,32,36,37,9,38,39,40,41,8,7,44,45,43,46,47,42,48,50,49,4] (.seq (.seq (.region [rM 28 4,
  (rO 29 (.slice 1 (.t 28) (some (cI 1)) none none)),
  rC 30 111 [(.t 29),(cI 11)]])
  (.live [2,3,6,31,33,34,35,32,36,37,9,38,39,40,41,8,7,44,45,43,46,47,42,48,50,49,30] (.block 0 (.rf (.t 30) 91 [true,true,true,true,false,true,false] [31,7,33,34,35,32,32,8,36,37,9,38,39,2,40,3,6,41,8,7,44,45,43,46,47,42,48,6,50,49]))))
  (.live [2,3,6] (.seq (.seq (.region [rK 51 2 6,
  rC 52 46 [(.t 51)],
  (rO 53 (.un .not (.t 52)))])
  (.live [2,3,6,53] (.cond (.t 53) (.seq (.region [(rO 54 (.build [(.i .u64 0),.sn] [])),
  rS 2 2 54,
  ⟨none,none,(.op (.store 1 (.t 3) (cI 131)))⟩])
  (.ret))
  (.skip))))
  (.live [2,3,6] (.seq (.region [rK 55 2 6,
  rS 2 2 55,
  ⟨none,none,(.op (.store 1 (.t 3) (cI 0)))⟩])
  (.ret))))))))))))),
 [([true,true,true,true,false,true,false],[31],c91ra0,c91rb0)]⟩
def c92l0:ICode :=
 .seq (.seq (.region [rM 10 5,
  rM 11 0,
  (rO 12 (.len .slice (.t 11))),
  (rO 13 (.bin .int false .lss (.t 10) (.t 12)))])
  (.live [0,5,4,13] (.cond (.t 13) (.skip)
  (.exit 0))))
  (.live [0,5,4] (.block 1 (.seq (.region [rM 15 0,
  rM 16 5,
  (rO 17 (.slice 1 (.t 15) (some (.t 16)) none none)),
  rC 18 66 [(.t 17)],
  rM 14 18,
  rX 19 14 0,
  rX 20 14 1,
  rX 21 14 2,
  rM 6 19,
  rM 7 20,
  rM 8 21])
  (.live [0,7,5,6,4,8] (.seq (.seq (.region [rM 22 8,
  (rO 23 (.bin .int true .neq (.t 22) (cI 0))),
  rM 24 23,
  ⟨(some 25),some (24,false),(.op (.mv (.t 4)))⟩,
  ⟨(some 26),some (24,false),(.op (.len .slice (.t 25)))⟩,
  ⟨(some 27),some (24,false),(.op (.bin .int true .eql (.t 26) (cI 128)))⟩,
  (rO 28 (.pick (.t 24) (cB true) (.t 27)))])
  (.live [0,7,5,6,4,28] (.cond (.t 28) (.seq (.region [(rO 2 (.mv (.c .sn))),
  (rO 3 (.mv (cI 21)))])
  (.ret))
  (.skip))))
  (.live [0,7,5,6,4] (.seq (.region [rM 29 4,
  rM 30 6,
  (rO 31 (.bslice [(.i .u64 0)] 1 [(0,1,(.t 30))])),
  (rO 32 (.app 1 8 (.t 29) (.t 31))),
  rM 4 32])
  (.live [0,4,7,5] (.region [rM 33 5,
  rM 34 7,
  (rO 35 (.bin .int false .add (.t 33) (.t 34))),
  rM 5 35])))))))))
def c92:IFunc:=⟨1,[.tmp 2,.tmp 3],
 .seq (.region [(rO 2 (.mv (.c .sn))),
  (rO 3 (.mv (cI 0)))])
  (.live [0] (.seq (.region [(rO 9 (.bslice [(.i .u64 0)] 0 [])),
  rM 4 9])
  (.live [0,4] (.seq (.region [(rO 5 (.mv (cI 0)))])
  (.live [0,5,4] (.seq (.block 0 (.loop [0,5,4] c92l0))
  (.live [4] (.seq (.region [rM 36 4,
  rM 2 36,
  (rO 3 (.mv (cI 0)))])
  (.ret))))))))),
 []⟩
def c93d0:List Stage :=
 [⟨[(⟨(some 32),none,(.op (.mv (.t 0)))⟩,0),(⟨(some 33),none,(.op (.iaddr none 1 (.t 32) (.c (.i .i64 1))))⟩,0),(⟨(some 34),none,(.op (.load none (.t 33)))⟩,0),(⟨(some 35),none,(.op (.toInt .u32 (.t 34)))⟩,0),(⟨(some 37),none,(.op (.mv (.t 0)))⟩,1),(⟨(some 38),none,(.op (.iaddr none 1 (.t 37) (.c (.i .i64 2))))⟩,1),(⟨(some 39),none,(.op (.load none (.t 38)))⟩,1),(⟨(some 40),none,(.op (.toInt .i64 (.t 39)))⟩,1)],none,some ⟨(some 36),none,(.call 113 [(.t 35)])⟩⟩,
  ⟨[(⟨(some 41),none,(.op (.build [(.i .u8 0),(.i .u8 0),(.i .u8 0),(.i .u8 0),(.i .i64 0)] [(0,4,(.t 36)),(4,1,(.t 40))]))⟩,1),(⟨(some 42),none,(.op (.faddr 1 (.t 4)))⟩,1)],none,some ⟨none,none,(.op (.store 5 (.t 42) (.t 41)))⟩⟩,
  ⟨[],none,none⟩]
def c93d0w:List (ROp × Bool) :=
 [(rM 32 0,false),((rO 33 (.iaddr none 1 (.t 32) (cI 1))),false),(rL 34 33,false),((rO 35 (.toInt .u32 (.t 34))),false),(rM 37 0,false),((rO 38 (.iaddr none 1 (.t 37) (cI 2))),false),(rL 39 38,false),((rO 40 (.toInt .i64 (.t 39))),false),(rC 36 113 [(.t 35)],true),((rO 41 (.build [(.i .u8 0),(.i .u8 0),(.i .u8 0),(.i .u8 0),(.i .i64 0)] [(0,4,(.t 36)),(4,1,(.t 40))])),false),(rF 42 1 4,false),(rS 5 42 41,false)]
theorem c93d0_w {P:Program} {O:Orc} {S0:Mem} {rd:Bool} {e:Env} {S:Mem} {d:List Nat} {Q:Kont}:W P O S0 rd (.draw c93d0 []) e S d Q=wFl O c93d0w e S (normK Q d):=W_draw' (by kernel_rfl) (by kernel_rfl)
attribute [go_sem] c93d0_w c93d0w
def c93:IFunc:=⟨1,[.cell 2 (some 13),.tmp 3],
 .seq (.region [(rO 2 (.fresh [(.i .i64 0),(.i .u8 0),(.i .u8 0),(.i .u8 0),(.i .u8 0),(.i .i64 0),(.i .u64 0),(.i .u64 0),(.i .u64 0),(.i .u64 0),(.i .u64 0),(.i .u64 0),(.i .u64 0)])),
  (rO 3 (.mv (cI 0)))])
  (.live [2,0] (.seq (.seq (.region [rM 5 0,
  (rO 6 (.len .slice (.t 5))),
  (rO 7 (.bin .int true .neq (.t 6) (cI 10))),
  rM 8 7,
  ⟨(some 9),some (8,false),(.op (.mv (.t 0)))⟩,
  ⟨(some 10),some (8,false),(.op (.iaddr none 1 (.t 9) (cI 0)))⟩,
  ⟨(some 11),some (8,false),(.op (.load none (.t 10)))⟩,
  ⟨(some 12),some (8,false),(.op (.bin .int true .gtr (.t 11) (.c (.i .u64 255))))⟩,
  (rO 13 (.pick (.t 8) (cB true) (.t 12))),
  rM 14 13,
  ⟨(some 15),some (14,false),(.op (.mv (.t 0)))⟩,
  ⟨(some 16),some (14,false),(.op (.iaddr none 1 (.t 15) (cI 1)))⟩,
  ⟨(some 17),some (14,false),(.op (.load none (.t 16)))⟩,
  ⟨(some 18),some (14,false),(.op (.bin .int true .gtr (.t 17) (.c (.i .u64 4294967295))))⟩,
  (rO 19 (.pick (.t 14) (cB true) (.t 18))),
  rM 20 19,
  ⟨(some 21),some (20,false),(.op (.mv (.t 0)))⟩,
  ⟨(some 22),some (20,false),(.op (.iaddr none 1 (.t 21) (cI 2)))⟩,
  ⟨(some 23),some (20,false),(.op (.load none (.t 22)))⟩,
  ⟨(some 24),some (20,false),(.op (.bin .int true .gtr (.t 23) (.c (.i .u64 32))))⟩,
  (rO 25 (.pick (.t 20) (cB true) (.t 24)))])
  (.live [2,0,25] (.cond (.t 25) (.seq (.region [(rO 26 (.build [(.i .i64 0),(.i .u8 0),(.i .u8 0),(.i .u8 0),(.i .u8 0),(.i .i64 0),(.i .u64 0),(.i .u64 0),(.i .u64 0),(.i .u64 0),(.i .u64 0),(.i .u64 0),(.i .u64 0)] [])),
  rS 13 2 26,
  (rO 3 (.mv (cI 111)))])
  (.ret))
  (.skip))))
  (.live [2,0] (.seq (.region [rM 27 0,
  (rO 28 (.iaddr none 1 (.t 27) (cI 0))),
  rL 29 28,
  (rO 30 (.toInt .i64 (.t 29))),
  (rO 31 (.build [(.i .i64 0),(.i .u8 0),(.i .u8 0),(.i .u8 0),(.i .u8 0),(.i .i64 0),(.i .u64 0),(.i .u64 0),(.i .u64 0),(.i .u64 0),(.i .u64 0),(.i .u64 0),(.i .u64 0)] [(0,1,(.t 30))])),
  (rO 4 (.fresh [(.i .i64 0),(.i .u8 0),(.i .u8 0),(.i .u8 0),(.i .u8 0),(.i .i64 0),(.i .u64 0),(.i .u64 0),(.i .u64 0),(.i .u64 0),(.i .u64 0),(.i .u64 0),(.i .u64 0)])),
  rS 13 4 31])
  (.live [2,4,0] (.seq (.draw c93d0 [])
  (.live [2,4,0] (.seq (.region [rM 43 0,
  (rO 44 (.iaddr none 1 (.t 43) (cI 3))),
  rL 45 44,
  rF 46 6 4,
  rS 1 46 45])
  (.live [2,4,0] (.seq (.region [rM 47 0,
  (rO 48 (.iaddr none 1 (.t 47) (cI 4))),
  rL 49 48,
  rF 50 7 4,
  rS 1 50 49])
  (.live [2,4,0] (.seq (.region [rM 51 0,
  (rO 52 (.iaddr none 1 (.t 51) (cI 5))),
  rL 53 52,
  rF 54 8 4,
  rS 1 54 53])
  (.live [2,4,0] (.seq (.region [rM 55 0,
  (rO 56 (.iaddr none 1 (.t 55) (cI 6))),
  rL 57 56,
  rF 58 9 4,
  rS 1 58 57])
  (.live [2,4,0] (.seq (.region [rM 59 0,
  (rO 60 (.iaddr none 1 (.t 59) (cI 7))),
  rL 61 60,
  rF 62 10 4,
  rS 1 62 61])
  (.live [2,4,0] (.seq (.region [rM 63 0,
  (rO 64 (.iaddr none 1 (.t 63) (cI 8))),
  rL 65 64,
  rF 66 11 4,
  rS 1 66 65])
  (.live [2,4,0] (.seq (.region [rM 67 0,
  (rO 68 (.iaddr none 1 (.t 67) (cI 9))),
  rL 69 68,
  rF 70 12 4,
  rS 1 70 69])
  (.live [2,4] (.seq (.seq (.region [rK 71 13 4,
  rC 72 99 [(.t 71)],
  (rO 73 (.un .not (.t 72)))])
  (.live [2,4,73] (.cond (.t 73) (.seq (.region [(rO 74 (.build [(.i .i64 0),(.i .u8 0),(.i .u8 0),(.i .u8 0),(.i .u8 0),(.i .i64 0),(.i .u64 0),(.i .u64 0),(.i .u64 0),(.i .u64 0),(.i .u64 0),(.i .u64 0),(.i .u64 0)] [])),
  rS 13 2 74,
  (rO 3 (.mv (cI 111)))])
  (.ret))
  (.skip))))
  (.live [2,4] (.seq (.region [rK 75 13 4,
  rS 13 2 75,
  (rO 3 (.mv (cI 0)))])
  (.ret))))))))))))))))))))))))),
 []⟩
def c94:IFunc:=⟨1,[.tmp 2,.tmp 3],
 .seq (.region [(rO 2 (.mv (cI 0))),
  (rO 3 (.mv (cI 0)))])
  (.live [0] (.seq (.seq (.region [rM 4 0,
  (rO 5 (.bin .int true .lss (.t 4) (cI 64))),
  rM 6 5,
  ⟨(some 7),some (6,false),(.op (.mv (.t 0)))⟩,
  ⟨(some 8),some (6,false),(.op (.bin .int true .gtr (.t 7) (cI 512)))⟩,
  (rO 9 (.pick (.t 6) (cB true) (.t 8)))])
  (.live [0,9] (.cond (.t 9) (.seq (.region [(rO 2 (.mv (cI 0))),
  (rO 3 (.mv (cI 91)))])
  (.ret))
  (.skip))))
  (.live [0] (.seq (.region [rM 10 0,
  (rO 11 (.bin .int true .sub (.t 10) (cI 32))),
  (rO 12 (.bin .int true .quo (.t 11) (cI 16))),
  rM 2 12,
  (rO 3 (.mv (cI 0)))])
  (.ret))))),
 []⟩
def c95:IFunc:=⟨1,[.tmp 2],
 .seq (.region [(rO 1 (.box (.t 0))),
  (rO 2 (.mv (cB false)))])
  (.live [1] (.seq (.region [(rO 3 (.mv (.c (.f (.func 114) [] []))))])
  (.live [3,1] (.seq (.region [(rO 4 (.mv (.c (.f (.func 115) [] []))))])
  (.live [4,3,1] (.seq (.region [rF 6 11 1,
  rL 7 6,
  rF 8 12 1,
  rL 9 8,
  (rO 10 (.bslice [(.i .u64 0)] 2 [(0,1,(.t 7)),(1,1,(.t 9))])),
  rM 5 10])
  (.live [4,5,3,1] (.seq (.block 0 (.seq (.region [rF 12 0 1,
  rL 13 12,
  (rO 14 (.bin .int true .lss (.t 13) (cI 1))),
  rM 15 14,
  ⟨(some 16),some (15,false),(.op (.faddr 0 (.t 1)))⟩,
  ⟨(some 17),some (15,false),(.op (.load none (.t 16)))⟩,
  ⟨(some 18),some (15,false),(.op (.bin .int true .gtr (.t 17) (cI 255)))⟩,
  (rO 19 (.pick (.t 15) (cB true) (.t 18))),
  rM 20 19,
  ⟨(some 21),some (20,false),(.op (.faddr 1 (.t 1)))⟩,
  ⟨(some 22),some (20,false),(.op (.load (some 5) (.t 21)))⟩,
  ⟨(some 23),some (20,false),(.call 116 [(.t 22)])⟩,
  ⟨(some 24),some (20,false),(.op (.un .not (.t 23)))⟩,
  (rO 25 (.pick (.t 20) (cB true) (.t 24))),
  rM 11 25])
  (.live [4,5,3,1,11] (.cond (.t 11) (.seq (.region [(rO 2 (.mv (cB false)))])
  (.ret))
  (.seq (.region [rM 27 5,
  rF 28 6 1,
  rL 29 28,
  rF 30 7 1,
  rL 31 30,
  rF 32 8 1,
  rL 33 32,
  rF 34 9 1,
  rL 35 34,
  rF 36 10 1,
  rL 37 36,
  (rO 38 (.bslice [(.i .u64 0)] 5 [(0,1,(.t 29)),(1,1,(.t 31)),(2,1,(.t 33)),(3,1,(.t 35)),(4,1,(.t 37))])),
  (rO 39 (.app 1 8 (.t 27) (.t 38))),
  rM 40 3,
  rC 41 117 [(.t 39),(.t 40)],
  rM 26 41])
  (.live [4,5,26] (.cond (.t 26) (.seq (.region [(rO 2 (.mv (cB false)))])
  (.ret))
  (.skip))))))))
  (.live [4,5] (.seq (.region [rM 42 5,
  rM 43 4,
  rC 44 117 [(.t 42),(.t 43)],
  (rO 45 (.un .not (.t 44))),
  rM 2 45])
  (.ret))))))))))),
 []⟩
def c96l0:ICode :=
 .seq (.region [(rO 9 (.bin .int false .lss (.t 8) (.t 7)))])
  (.live [0,1,7,8,9] (.seq (.cond (.t 9) (.skip)
  (.exit 0))
  (.live [0,1,7,8] (.seq (.block 1 (.seq (.region [rM 10 8,
  rM 5 10])
  (.live [5,0,1,7,8] (.seq (.region [rM 11 1,
  rM 12 0,
  rM 13 5,
  (rO 14 (.iaddr none 14 (.t 12) (.t 13))),
  rK 15 14 14,
  ⟨(some 16),none,(.callv (.t 11) [(.t 15)])⟩])
  (.live [5,0,1,7,8,16] (.cond (.t 16) (.seq (.region [rM 17 5,
  rM 4 17])
  (.ret))
  (.skip)))))))
  (.live [0,1,7,8] (.region [(rO 18 (.bin .int true .add (.t 8) (cI 1))),
  rM 8 18]))))))
def c96:IFunc:=⟨2,[.tmp 4],
 .seq (.region [(rO 4 (.mv (cI 0)))])
  (.live [0,1] (.seq (.seq (.region [rM 6 0,
  (rO 7 (.len .slice (.t 6))),
  (rO 8 (.mv (cI 0)))])
  (.live [0,1,7,8] (.block 0 (.loop [0,1,7,8] c96l0))))
  (.live [] (.seq (.region [(rO 4 (.mv (.c (.i .i64 (-1)))))])
  (.ret))))),
 []⟩
def c97l0:ICode :=
 .seq (.seq (.region [rM 11 4,
  (rO 12 (.bin .int true .add (.t 11) (cI 1))),
  (rO 13 (.bin .int true .mul (cI 16) (.t 12))),
  (rO 14 (.bin .int true .add (cI 32) (.t 13))),
  rM 15 0,
  (rO 16 (.bin .int false .leq (.t 14) (.t 15)))])
  (.live [0,4,16] (.cond (.t 16) (.skip)
  (.exit 0))))
  (.live [0,4] (.block 1 (.region [rM 17 4,
  (rO 18 (.bin .int true .add (.t 17) (cI 1))),
  rM 4 18])))
def c97:IFunc:=⟨1,[.tmp 2,.tmp 3],
 .seq (.region [(rO 2 (.mv (cI 0))),
  (rO 3 (.mv (cI 0)))])
  (.live [0] (.seq (.seq (.region [rM 5 0,
  (rO 6 (.bin .int true .lss (.t 5) (cI 64))),
  rM 7 6,
  ⟨(some 8),some (7,false),(.op (.mv (.t 0)))⟩,
  ⟨(some 9),some (7,false),(.op (.bin .int true .gtr (.t 8) (cI 512)))⟩,
  (rO 10 (.pick (.t 7) (cB true) (.t 9)))])
  (.live [0,10] (.cond (.t 10) (.seq (.region [(rO 2 (.mv (cI 0))),
  (rO 3 (.mv (cI 91)))])
  (.ret))
  (.skip))))
  (.live [0] (.seq (.region [(rO 4 (.mv (cI 0)))])
  (.live [0,4] (.seq (.block 0 (.loop [0,4] c97l0))
  (.live [4] (.seq (.region [rM 19 4,
  rM 2 19,
  (rO 3 (.mv (cI 0)))])
  (.ret))))))))),
 []⟩
def c98d0:List Stage :=
 [⟨[(⟨(some 26),none,(.op (.mv (.t 0)))⟩,0),(⟨(some 27),none,(.op (.mv (.t 4)))⟩,0),(⟨(some 28),none,(.op (.iaddr none 13 (.t 26) (.t 27)))⟩,0),(⟨(some 29),none,(.op (.faddr 0 (.t 28)))⟩,0),(⟨(some 30),none,(.op (.load none (.t 29)))⟩,0),(⟨(some 31),none,(.op (.mv (.t 0)))⟩,0),(⟨(some 32),none,(.op (.mv (.t 3)))⟩,0),(⟨(some 33),none,(.op (.iaddr none 13 (.t 31) (.t 32)))⟩,0),(⟨(some 34),none,(.op (.faddr 0 (.t 33)))⟩,0),(⟨(some 35),none,(.op (.load none (.t 34)))⟩,0),(⟨(some 36),none,(.op (.bin .int false .geq (.t 30) (.t 35)))⟩,0),(⟨(some 37),none,(.op (.mv (.t 36)))⟩,0),(⟨(some 38),some (37,false),(.op (.mv (.t 0)))⟩,0),(⟨(some 39),some (37,false),(.op (.mv (.t 4)))⟩,0),(⟨(some 40),some (37,false),(.op (.iaddr none 13 (.t 38) (.t 39)))⟩,0),(⟨(some 41),some (37,false),(.op (.faddr 1 (.t 40)))⟩,0),(⟨(some 42),some (37,false),(.op (.load (some 5) (.t 41)))⟩,0),(⟨(some 43),some (37,false),(.op (.mv (.t 0)))⟩,0),(⟨(some 44),some (37,false),(.op (.mv (.t 3)))⟩,0),(⟨(some 45),some (37,false),(.op (.iaddr none 13 (.t 43) (.t 44)))⟩,0),(⟨(some 46),some (37,false),(.op (.faddr 1 (.t 45)))⟩,0),(⟨(some 47),some (37,false),(.op (.load (some 5) (.t 46)))⟩,0),(⟨(some 48),some (37,false),(.op (.eqag false [.int,.int,.int,.int,.int] (.t 42) (.t 47)))⟩,0),(⟨(some 49),none,(.op (.pick (.t 37) (.c (.b true)) (.t 48)))⟩,0)],none,none⟩]
def c98d0w:List (ROp × Bool) :=
 [(rM 26 0,false),(rM 27 4,false),((rO 28 (.iaddr none 13 (.t 26) (.t 27))),false),(rF 29 0 28,false),(rL 30 29,false),(rM 31 0,false),(rM 32 3,false),((rO 33 (.iaddr none 13 (.t 31) (.t 32))),false),(rF 34 0 33,false),(rL 35 34,false),((rO 36 (.bin .int false .geq (.t 30) (.t 35))),false),(rM 37 36,false),(⟨(some 38),some (37,false),(.op (.mv (.t 0)))⟩,false),(⟨(some 39),some (37,false),(.op (.mv (.t 4)))⟩,false),(⟨(some 40),some (37,false),(.op (.iaddr none 13 (.t 38) (.t 39)))⟩,false),(⟨(some 41),some (37,false),(.op (.faddr 1 (.t 40)))⟩,false),(⟨(some 42),some (37,false),(.op (.load (some 5) (.t 41)))⟩,false),(⟨(some 43),some (37,false),(.op (.mv (.t 0)))⟩,false),(⟨(some 44),some (37,false),(.op (.mv (.t 3)))⟩,false),(⟨(some 45),some (37,false),(.op (.iaddr none 13 (.t 43) (.t 44)))⟩,false),(⟨(some 46),some (37,false),(.op (.faddr 1 (.t 45)))⟩,false),(⟨(some 47),some (37,false),(.op (.load (some 5) (.t 46)))⟩,false),(⟨(some 48),some (37,false),(.op (.eqag false [.int,.int,.int,.int,.int] (.t 42) (.t 47)))⟩,false),((rO 49 (.pick (.t 37) (cB true) (.t 48))),false)]
theorem c98d0_w {P:Program} {O:Orc} {S0:Mem} {rd:Bool} {e:Env} {S:Mem} {d:List Nat} {Q:Kont}:W P O S0 rd (.draw c98d0 []) e S d Q=wFl O c98d0w e S (normK Q d):=W_draw' (by kernel_rfl) (by kernel_rfl)
attribute [go_sem] c98d0_w c98d0w
def c98l1:ICode :=
 .seq (.region [(rO 24 (.bin .int false .lss (.t 23) (.t 22)))])
  (.live [0,3,9,10,22,23,24] (.seq (.cond (.t 24) (.skip)
  (.exit 2))
  (.live [0,3,9,10,22,23] (.seq (.block 3 (.seq (.region [rM 25 23,
  rM 4 25])
  (.live [0,3,9,10,22,23,4] (.seq (.draw c98d0 [])
  (.live [0,3,9,10,22,23,49] (.cond (.t 49) (.seq (.region [(rO 2 (.mv (cI 111)))])
  (.ret))
  (.skip)))))))
  (.live [0,3,9,10,22,23] (.region [(rO 50 (.bin .int true .add (.t 23) (cI 1))),
  rM 23 50]))))))
def c98l2:ICode :=
 .seq (.region [(rO 11 (.bin .int false .lss (.t 10) (.t 9)))])
  (.live [0,9,10,11] (.seq (.cond (.t 11) (.skip)
  (.exit 0))
  (.live [0,9,10] (.seq (.block 1 (.seq (.region [rM 12 10,
  rM 3 12])
  (.live [0,3,9,10] (.seq (.seq (.region [rM 13 0,
  rM 14 3,
  (rO 15 (.iaddr none 13 (.t 13) (.t 14))),
  rK 16 13 15,
  rC 17 99 [(.t 16)],
  (rO 18 (.un .not (.t 17)))])
  (.live [0,3,9,10,18] (.cond (.t 18) (.seq (.region [(rO 2 (.mv (cI 111)))])
  (.ret))
  (.skip))))
  (.live [0,3,9,10] (.seq (.region [rM 19 0,
  rM 20 3,
  (rO 21 (.slice 13 (.t 19) none (some (.t 20)) none)),
  (rO 22 (.len .slice (.t 21))),
  (rO 23 (.mv (cI 0)))])
  (.live [0,3,9,10,22,23] (.block 2 (.loop [0,3,9,10,22,23] c98l1)))))))))
  (.live [0,9,10] (.region [(rO 51 (.bin .int true .add (.t 10) (cI 1))),
  rM 10 51]))))))
def c98:IFunc:=⟨1,[.tmp 2],
 .seq (.region [(rO 2 (.mv (cI 0)))])
  (.live [0] (.seq (.seq (.region [rM 5 0,
  (rO 6 (.len .slice (.t 5))),
  (rO 7 (.bin .int true .gtr (.t 6) (cI 8)))])
  (.live [0,7] (.cond (.t 7) (.seq (.region [(rO 2 (.mv (cI 111)))])
  (.ret))
  (.skip))))
  (.live [0] (.seq (.seq (.region [rM 8 0,
  (rO 9 (.len .slice (.t 8))),
  (rO 10 (.mv (cI 0)))])
  (.live [0,9,10] (.block 0 (.loop [0,9,10] c98l2))))
  (.live [] (.seq (.region [(rO 2 (.mv (cI 0)))])
  (.ret))))))),
 []⟩
def c99l0:ICode :=
 .seq (.region [(rO 35 (.bin .int true .lss (.t 34) (cI 7)))])
  (.live [33,1,34,35] (.seq (.cond (.t 35) (.skip)
  (.exit 0))
  (.live [33,1,34] (.seq (.block 1 (.seq (.region [(rO 36 (.ixa 7 1 none (.t 33) (.t 34))),
  rM 4 36])
  (.live [33,1,34,4] (.seq (.region [rM 37 4,
  (rO 38 (.bin .int true .gtr (.t 37) (.c (.i .u64 281474976710656))))])
  (.live [33,1,34,38] (.cond (.t 38) (.seq (.region [(rO 2 (.mv (cB false)))])
  (.ret))
  (.skip)))))))
  (.live [33,1,34] (.region [(rO 39 (.bin .int true .add (.t 34) (cI 1))),
  rM 34 39]))))))
def c99:IFunc:=⟨1,[.tmp 2],
 .seq (.region [(rO 1 (.box (.t 0))),
  (rO 2 (.mv (cB false)))])
  (.live [1] (.seq (.seq (.region [rF 5 0 1,
  rL 6 5,
  (rO 7 (.bin .int true .lss (.t 6) (cI 1))),
  rM 8 7,
  ⟨(some 9),some (8,false),(.op (.faddr 0 (.t 1)))⟩,
  ⟨(some 10),some (8,false),(.op (.load none (.t 9)))⟩,
  ⟨(some 11),some (8,false),(.op (.bin .int true .gtr (.t 10) (cI 255)))⟩,
  (rO 12 (.pick (.t 8) (cB true) (.t 11))),
  rM 13 12,
  ⟨(some 14),some (13,false),(.op (.faddr 1 (.t 1)))⟩,
  ⟨(some 15),some (13,false),(.op (.load (some 5) (.t 14)))⟩,
  ⟨(some 16),some (13,false),(.call 118 [(.t 15)])⟩,
  ⟨(some 17),some (13,false),(.op (.un .not (.t 16)))⟩,
  (rO 18 (.pick (.t 13) (cB true) (.t 17)))])
  (.live [1,18] (.cond (.t 18) (.seq (.region [(rO 2 (.mv (cB false)))])
  (.ret))
  (.skip))))
  (.live [1] (.seq (.seq (.region [rF 19 6 1,
  rL 20 19,
  rF 21 7 1,
  rL 22 21,
  rF 23 8 1,
  rL 24 23,
  rF 25 9 1,
  rL 26 25,
  rF 27 10 1,
  rL 28 27,
  rF 29 11 1,
  rL 30 29,
  rF 31 12 1,
  rL 32 31,
  (rO 33 (.build [(.i .u64 0),(.i .u64 0),(.i .u64 0),(.i .u64 0),(.i .u64 0),(.i .u64 0),(.i .u64 0)] [(0,1,(.t 20)),(1,1,(.t 22)),(2,1,(.t 24)),(3,1,(.t 26)),(4,1,(.t 28)),(5,1,(.t 30)),(6,1,(.t 32))])),
  (rO 34 (.mv (cI 0)))])
  (.live [33,1,34] (.block 0 (.loop [33,1,34] c99l0))))
  (.live [1] (.seq (.region [rF 40 11 1,
  rL 41 40,
  (rO 42 (.bin .int true .geq (.t 41) (.c (.i .u64 1500)))),
  rM 43 42,
  ⟨(some 44),some (43,true),(.op (.faddr 12 (.t 1)))⟩,
  ⟨(some 45),some (43,true),(.op (.load none (.t 44)))⟩,
  ⟨(some 46),some (43,true),(.op (.bin .int true .geq (.t 45) (.c (.i .u64 1500))))⟩,
  (rO 47 (.pick (.t 43) (.t 46) (cB false))),
  rM 2 47])
  (.ret))))))),
 []⟩
def c100:IFunc:=⟨1,[.tmp 2],
 .seq (.region [(rO 1 (.box (.t 0))),
  (rO 2 (.mv (.c (.i .u32 0))))])
  (.live [1] (.seq (.region [(rO 3 (.iaddr (some 4) 1 (.t 1) (cI 0))),
  rL 4 3,
  (rO 5 (.toInt .u32 (.t 4))),
  (rO 6 (.bin .int true .mul (.t 5) (.c (.i .u32 16777216)))),
  (rO 7 (.iaddr (some 4) 1 (.t 1) (cI 1))),
  rL 8 7,
  (rO 9 (.toInt .u32 (.t 8))),
  (rO 10 (.bin .int true .mul (.t 9) (.c (.i .u32 65536)))),
  (rO 11 (.bin .int false .add (.t 6) (.t 10))),
  (rO 12 (.iaddr (some 4) 1 (.t 1) (cI 2))),
  rL 13 12,
  (rO 14 (.toInt .u32 (.t 13))),
  (rO 15 (.bin .int true .mul (.t 14) (.c (.i .u32 256)))),
  (rO 16 (.bin .int false .add (.t 11) (.t 15))),
  (rO 17 (.iaddr (some 4) 1 (.t 1) (cI 3))),
  rL 18 17,
  (rO 19 (.toInt .u32 (.t 18))),
  (rO 20 (.bin .int false .add (.t 16) (.t 19))),
  rM 2 20])
  (.ret))),
 []⟩
def c101l0:ICode :=
 .seq (.region [(rO 8 (.bin .int true .lss (.t 7) (cI 4)))])
  (.live [6,7,3,8] (.seq (.cond (.t 8) (.skip)
  (.exit 0))
  (.live [6,7,3] (.seq (.block 1 (.seq (.region [(rO 9 (.ixa 4 1 none (.t 6) (.t 7))),
  rM 5 9])
  (.live [6,7,5,3] (.region [rM 10 3,
  (rO 11 (.bin .int true .shl (.t 10) (.c (.i .u64 8)))),
  rM 12 5,
  (rO 13 (.toInt .u32 (.t 12))),
  (rO 14 (.bin .int false .or (.t 11) (.t 13))),
  rM 3 14]))))
  (.live [6,3,7] (.region [(rO 15 (.bin .int true .add (.t 7) (cI 1))),
  rM 7 15]))))))
def c101:IFunc:=⟨1,[.tmp 2],
 .seq (.region [(rO 1 (.box (.t 0))),
  (rO 2 (.mv (.c (.i .u32 0))))])
  (.live [1] (.seq (.region [(rO 3 (.mv (.c (.i .u32 0))))])
  (.live [3,1] (.seq (.seq (.region [rK 6 4 1,
  (rO 7 (.mv (cI 0)))])
  (.live [6,7,3] (.block 0 (.loop [6,7,3] c101l0))))
  (.live [3] (.seq (.region [rM 16 3,
  rM 2 16])
  (.ret))))))),
 []⟩
def c102l0:ICode :=
 .seq (.region [(rO 13 (.bin .int false .lss (.t 12) (.t 11)))])
  (.live [10,11,12,5,13] (.seq (.cond (.t 13) (.skip)
  (.exit 0))
  (.live [10,11,12,5] (.seq (.block 1 (.seq (.region [(rO 14 (.iaddr none 1 (.t 10) (.t 12))),
  rL 15 14,
  rM 7 15])
  (.live [10,11,12,7,5] (.region [rM 16 5,
  rM 17 7,
  rC 18 119 [(.t 16),(.t 17)],
  rM 5 18]))))
  (.live [10,11,5,12] (.region [(rO 19 (.bin .int true .add (.t 12) (cI 1))),
  rM 12 19]))))))
def c102:IFunc:=⟨2,[.tmp 4],
 .seq (.region [(rO 4 (.mv (.c (.i .u32 0))))])
  (.live [1,0] (.seq (.region [rM 8 0,
  (rO 9 (.un .xor (.t 8))),
  rM 5 9])
  (.live [5,1] (.seq (.seq (.region [rM 10 1,
  (rO 11 (.len .slice (.t 10))),
  (rO 12 (.mv (cI 0)))])
  (.live [10,11,12,5] (.block 0 (.loop [10,11,12,5] c102l0))))
  (.live [5] (.seq (.region [rM 20 5,
  (rO 21 (.un .xor (.t 20))),
  rM 4 21])
  (.ret))))))),
 []⟩
def c103l0:ICode :=
 .seq (.seq (.region [rM 7 3,
  (rO 8 (.bin .int true .geq (.t 7) (cI 0)))])
  (.live [1,0,3,8] (.cond (.t 8) (.skip)
  (.exit 0))))
  (.live [1,0,3] (.seq (.block 1 (.seq (.region [rM 11 0,
  rM 12 3,
  rL 13 1,
  rM 14 3,
  (rO 15 (.iaddr none 1 (.t 13) (.t 14))),
  rL 16 15,
  ⟨(some 17),none,(.callv (.t 11) [(.t 12),(.t 16)])⟩,
  (rO 18 (.un .not (.t 17)))])
  (.live [1,0,3,18] (.cond (.t 18) (.ret)
  (.skip)))))
  (.live [1,0,3] (.region [rM 9 3,
  (rO 10 (.bin .int true .sub (.t 9) (cI 1))),
  rM 3 10]))))
def c103:IFunc:=⟨2,[],
 .seq (.region [rL 4 1,
  (rO 5 (.len .slice (.t 4))),
  (rO 6 (.bin .int true .sub (.t 5) (cI 1))),
  rM 3 6])
  (.live [1,0,3] (.block 0 (.loop [1,0,3] c103l0))),
 []⟩
def c104:IFunc:=⟨2,[.tmp 4],
 .seq (.region [(rO 4 (.mv (cB false)))])
  (.live [1,0] (.seq (.region [rM 5 0,
  rM 6 1,
  (rO 7 (.bin .int true .quo (.t 6) (cI 8))),
  (rO 8 (.iaddr none 1 (.t 5) (.t 7))),
  rL 9 8,
  rM 10 1,
  (rO 11 (.bin .int true .rem (.t 10) (cI 8))),
  (rO 12 (.bin .int true .sub (cI 7) (.t 11))),
  (rO 13 (.bin .int false .shr (.t 9) (.t 12))),
  (rO 14 (.bin .int true .rem (.t 13) (.c (.i .u8 2)))),
  (rO 15 (.bin .int true .eql (.t 14) (.c (.i .u8 1)))),
  rM 4 15])
  (.ret))),
 []⟩
def c105l0:ICode :=
 .seq (.seq (.region [rM 8 7,
  (rO 9 (.bin .int true .lss (.t 8) (cI 32)))])
  (.live [7,6,1,0,5,9] (.cond (.t 9) (.skip)
  (.exit 0))))
  (.live [7,6,1,0,5] (.seq (.block 1 (.seq (.seq (.region [rM 12 0,
  (rO 13 (.bin .int true .rem (.t 12) (.c (.i .u64 2)))),
  rM 14 1,
  (rO 15 (.bin .int true .rem (.t 14) (.c (.i .u64 2)))),
  (rO 16 (.bin .int false .neq (.t 13) (.t 15)))])
  (.live [7,6,1,0,5,16] (.cond (.t 16) (.region [rM 17 5,
  rM 18 6,
  (rO 19 (.bin .int false .add (.t 17) (.t 18))),
  rM 5 19])
  (.skip))))
  (.live [5,7,6,1,0] (.seq (.region [rM 20 0,
  (rO 21 (.bin .int true .quo (.t 20) (.c (.i .u64 2)))),
  rM 0 21])
  (.live [0,5,7,6,1] (.seq (.region [rM 22 1,
  (rO 23 (.bin .int true .quo (.t 22) (.c (.i .u64 2)))),
  rM 1 23])
  (.live [1,0,5,7,6] (.region [rM 24 6,
  (rO 25 (.bin .int true .mul (.t 24) (.c (.i .u64 2)))),
  rM 6 25]))))))))
  (.live [6,1,0,5,7] (.region [rM 10 7,
  (rO 11 (.bin .int true .add (.t 10) (cI 1))),
  rM 7 11]))))
def c105:IFunc:=⟨2,[.tmp 4],
 .seq (.region [(rO 4 (.mv (.c (.i .u64 0))))])
  (.live [1,0] (.seq (.region [(rO 5 (.mv (.c (.i .u64 0))))])
  (.live [1,0,5] (.seq (.region [(rO 6 (.mv (.c (.i .u64 1))))])
  (.live [6,1,0,5] (.seq (.seq (.region [(rO 7 (.mv (cI 0)))])
  (.live [7,6,1,0,5] (.block 0 (.loop [7,6,1,0,5] c105l0))))
  (.live [5] (.seq (.region [rM 26 5,
  rM 4 26])
  (.ret))))))))),
 []⟩
def c106d0:List Stage :=
 [⟨[(⟨(some 16),none,(.op (.mv (.t 0)))⟩,0),(⟨(some 17),none,(.op (.mv (.t 5)))⟩,0),(⟨(some 18),none,(.op (.iaddr none 1 (.t 16) (.t 17)))⟩,0),(⟨(some 19),none,(.op (.load none (.t 18)))⟩,0),(⟨(some 20),none,(.op (.mv (.t 1)))⟩,0),(⟨(some 21),none,(.op (.mv (.t 5)))⟩,0),(⟨(some 22),none,(.op (.iaddr none 1 (.t 20) (.t 21)))⟩,0),(⟨(some 23),none,(.op (.load none (.t 22)))⟩,0),(⟨(some 24),none,(.op (.bin .int false .neq (.t 19) (.t 23)))⟩,0)],none,none⟩]
def c106d0w:List (ROp × Bool) :=
 [(rM 16 0,false),(rM 17 5,false),((rO 18 (.iaddr none 1 (.t 16) (.t 17))),false),(rL 19 18,false),(rM 20 1,false),(rM 21 5,false),((rO 22 (.iaddr none 1 (.t 20) (.t 21))),false),(rL 23 22,false),((rO 24 (.bin .int false .neq (.t 19) (.t 23))),false)]
theorem c106d0_w {P:Program} {O:Orc} {S0:Mem} {rd:Bool} {e:Env} {S:Mem} {d:List Nat} {Q:Kont}:W P O S0 rd (.draw c106d0 []) e S d Q=wFl O c106d0w e S (normK Q d):=W_draw' (by kernel_rfl) (by kernel_rfl)
attribute [go_sem] c106d0_w c106d0w
def c106l1:ICode :=
 .seq (.region [(rO 14 (.bin .int false .lss (.t 13) (.t 12)))])
  (.live [0,1,12,13,14] (.seq (.cond (.t 14) (.skip)
  (.exit 0))
  (.live [0,1,12,13] (.seq (.block 1 (.seq (.region [rM 15 13,
  rM 5 15])
  (.live [0,1,12,13,5] (.seq (.draw c106d0 [])
  (.live [0,1,12,13,24] (.cond (.t 24) (.seq (.region [(rO 4 (.mv (cB false)))])
  (.ret))
  (.skip)))))))
  (.live [0,1,12,13] (.region [(rO 25 (.bin .int true .add (.t 13) (cI 1))),
  rM 13 25]))))))
def c106:IFunc:=⟨2,[.tmp 4],
 .seq (.region [(rO 4 (.mv (cB false)))])
  (.live [0,1] (.seq (.seq (.region [rM 6 0,
  (rO 7 (.len .slice (.t 6))),
  rM 8 1,
  (rO 9 (.len .slice (.t 8))),
  (rO 10 (.bin .int false .neq (.t 7) (.t 9)))])
  (.live [0,1,10] (.cond (.t 10) (.seq (.region [(rO 4 (.mv (cB false)))])
  (.ret))
  (.skip))))
  (.live [0,1] (.seq (.seq (.region [rM 11 0,
  (rO 12 (.len .slice (.t 11))),
  (rO 13 (.mv (cI 0)))])
  (.live [0,1,12,13] (.block 0 (.loop [0,1,12,13] c106l1))))
  (.live [] (.seq (.region [(rO 4 (.mv (cB true)))])
  (.ret))))))),
 []⟩
def c107:IFunc:=⟨1,[.tmp 2],
 .seq (.region [(rO 2 (.mv (.c .sn)))])
  (.live [0] (.seq (.seq (.region [rM 3 0,
  (rO 4 (.bin .slice true .eql (.t 3) (.c .sn)))])
  (.live [0,4] (.cond (.t 4) (.seq (.region [(rO 2 (.mv (.c .sn)))])
  (.ret))
  (.skip))))
  (.live [0] (.seq (.region [(rO 5 (.bslice [(.i .u8 0)] 0 [])),
  rM 6 0,
  (rO 7 (.app 1 1 (.t 5) (.t 6))),
  rM 2 7])
  (.ret))))),
 []⟩
def c108l0:ICode :=
 .seq (.region [(rO 9 (.bin .int false .lss (.t 8) (.t 7)))])
  (.live [0,1,7,8,9] (.seq (.cond (.t 9) (.skip)
  (.exit 0))
  (.live [0,1,7,8] (.seq (.block 1 (.seq (.region [rM 10 8,
  rM 5 10])
  (.live [5,0,1,7,8] (.seq (.region [rM 11 1,
  rM 12 0,
  rM 13 5,
  (rO 14 (.iaddr none 1 (.t 12) (.t 13))),
  rL 15 14,
  ⟨(some 16),none,(.callv (.t 11) [(.t 15)])⟩])
  (.live [5,0,1,7,8,16] (.cond (.t 16) (.seq (.region [rM 17 5,
  rM 4 17])
  (.ret))
  (.skip)))))))
  (.live [0,1,7,8] (.region [(rO 18 (.bin .int true .add (.t 8) (cI 1))),
  rM 8 18]))))))
def c108:IFunc:=⟨2,[.tmp 4],
 .seq (.region [(rO 4 (.mv (cI 0)))])
  (.live [0,1] (.seq (.seq (.region [rM 6 0,
  (rO 7 (.len .slice (.t 6))),
  (rO 8 (.mv (cI 0)))])
  (.live [0,1,7,8] (.block 0 (.loop [0,1,7,8] c108l0))))
  (.live [] (.seq (.region [(rO 4 (.mv (.c (.i .i64 (-1)))))])
  (.ret))))),
 []⟩
def c109:IFunc:=⟨1,[.tmp 2],
 .seq (.region [(rO 2 (.mv (cI 0)))])
  (.live [0] (.seq (.region [rM 3 0,
  rC 4 120 [(.t 3)],
  (rO 5 (.bin .int true .add (.t 4) (cI 7))),
  (rO 6 (.bin .int true .sub (.t 5) (cI 1))),
  (rO 7 (.bin .int true .quo (.t 6) (cI 7))),
  (rO 8 (.mm true [(cI 1),(.t 7)])),
  rM 2 8])
  (.ret))),
 []⟩
def c110l0:ICode :=
 .seq (.seq (.region [rM 8 0,
  (rO 9 (.len .slice (.t 8))),
  (rO 10 (.bin .int true .gtr (.t 9) (cI 0)))])
  (.live [0,4,10] (.cond (.t 10) (.skip)
  (.exit 0))))
  (.live [0,4] (.block 1 (.seq (.region [rM 12 0,
  rC 13 89 [(.t 12)],
  rM 11 13,
  rX 14 11 0,
  rX 15 11 1,
  rX 16 11 2,
  rM 5 14,
  rM 6 15,
  rM 7 16])
  (.live [6,0,5,4,7] (.seq (.seq (.region [rM 17 7,
  (rO 18 (.bin .int true .neq (.t 17) (cI 0))),
  rM 19 18,
  ⟨(some 20),some (19,false),(.op (.mv (.t 4)))⟩,
  ⟨(some 21),some (19,false),(.op (.len .slice (.t 20)))⟩,
  ⟨(some 22),some (19,false),(.op (.bin .int true .geq (.t 21) (cI 128)))⟩,
  (rO 23 (.pick (.t 19) (cB true) (.t 22)))])
  (.live [6,0,5,4,23] (.cond (.t 23) (.seq (.region [(rO 2 (.mv (.c .sn))),
  (rO 3 (.mv (cI 21)))])
  (.ret))
  (.skip))))
  (.live [6,0,5,4] (.seq (.region [rM 24 4,
  rM 25 5,
  (rO 26 (.bslice [(.i .u64 0)] 1 [(0,1,(.t 25))])),
  (rO 27 (.app 1 8 (.t 24) (.t 26))),
  rM 4 27])
  (.live [4,6,0] (.region [rM 28 0,
  rM 29 6,
  (rO 30 (.slice 1 (.t 28) (some (.t 29)) none none)),
  rM 0 30])))))))))
def c110:IFunc:=⟨1,[.tmp 2,.tmp 3],
 .seq (.region [(rO 2 (.mv (.c .sn))),
  (rO 3 (.mv (cI 0)))])
  (.live [0] (.seq (.region [(rO 4 (.mv (.c .sn)))])
  (.live [0,4] (.seq (.block 0 (.loop [0,4] c110l0))
  (.live [4] (.seq (.region [rM 31 4,
  rM 2 31,
  (rO 3 (.mv (cI 0)))])
  (.ret))))))),
 []⟩
def c111:IFunc:=⟨2,[.tmp 4],
 .seq (.region [(rO 2 (.box (.t 0))),
  (rO 3 (.box (.t 1))),
  (rO 4 (.mv (.c .nf)))])
  (.live [2,3] (.seq (.seq (.region [rL 5 3,
  (rO 6 (.bin .int true .lss (.t 5) (cI 1)))])
  (.live [2,3,6] (.cond (.t 6) (.region [(rO 7 (.bad)),
  ⟨none,none,(.op (.bad))⟩])
  (.skip))))
  (.live [2,3] (.seq (.region [(rO 8 (.mkf (.func 121) [] [(.t 2),(.t 3)])),
  rM 4 8])
  (.ret))))),
 []⟩
def c112d0:List Stage :=
 [⟨[(⟨(some 33),none,(.op (.mv (.t 4)))⟩,1),(⟨(some 34),none,(.op (.mv (.t 0)))⟩,0),(⟨(some 35),none,(.op (.iaddr none 1 (.t 34) (.c (.i .i64 1))))⟩,0),(⟨(some 36),none,(.op (.load none (.t 35)))⟩,0),(⟨(some 37),none,(.op (.toInt .u32 (.t 36)))⟩,0),(⟨(some 39),none,(.op (.mv (.t 6)))⟩,1),(⟨(some 41),none,(.op (.mv (.t 0)))⟩,1),(⟨(some 42),none,(.op (.iaddr none 1 (.t 41) (.c (.i .i64 3))))⟩,1),(⟨(some 43),none,(.op (.load none (.t 42)))⟩,1),(⟨(some 44),none,(.op (.mv (.t 0)))⟩,1),(⟨(some 45),none,(.op (.iaddr none 1 (.t 44) (.c (.i .i64 4))))⟩,1),(⟨(some 46),none,(.op (.load none (.t 45)))⟩,1),(⟨(some 47),none,(.op (.mv (.t 0)))⟩,1),(⟨(some 48),none,(.op (.iaddr none 1 (.t 47) (.c (.i .i64 5))))⟩,1),(⟨(some 49),none,(.op (.load none (.t 48)))⟩,1),(⟨(some 50),none,(.op (.mv (.t 0)))⟩,1),(⟨(some 51),none,(.op (.iaddr none 1 (.t 50) (.c (.i .i64 6))))⟩,1),(⟨(some 52),none,(.op (.load none (.t 51)))⟩,1),(⟨(some 53),none,(.op (.mv (.t 0)))⟩,1),(⟨(some 54),none,(.op (.iaddr none 1 (.t 53) (.c (.i .i64 7))))⟩,1),(⟨(some 55),none,(.op (.load none (.t 54)))⟩,1),(⟨(some 56),none,(.op (.mv (.t 0)))⟩,1),(⟨(some 57),none,(.op (.iaddr none 1 (.t 56) (.c (.i .i64 8))))⟩,1),(⟨(some 58),none,(.op (.load none (.t 57)))⟩,1),(⟨(some 59),none,(.op (.mv (.t 0)))⟩,1),(⟨(some 60),none,(.op (.iaddr none 1 (.t 59) (.c (.i .i64 9))))⟩,1),(⟨(some 61),none,(.op (.load none (.t 60)))⟩,1)],none,some ⟨(some 38),none,(.call 122 [(.t 37)])⟩⟩,
  ⟨[(⟨(some 40),none,(.op (.build [(.i .u8 0),(.i .u8 0),(.i .u8 0),(.i .u8 0),(.i .i64 0)] [(0,4,(.t 38)),(4,1,(.t 39))]))⟩,1),(⟨(some 62),none,(.op (.build [(.i .i64 0),(.i .u8 0),(.i .u8 0),(.i .u8 0),(.i .u8 0),(.i .i64 0),(.i .u64 0),(.i .u64 0),(.i .u64 0),(.i .u64 0),(.i .u64 0),(.i .u64 0),(.i .u64 0)] [(0,1,(.t 33)),(1,5,(.t 40)),(6,1,(.t 43)),(7,1,(.t 46)),(8,1,(.t 49)),(9,1,(.t 52)),(10,1,(.t 55)),(11,1,(.t 58)),(12,1,(.t 61))]))⟩,1)],some ⟨(some 8),none,(.op (.fresh [(.i .i64 0),(.i .u8 0),(.i .u8 0),(.i .u8 0),(.i .u8 0),(.i .i64 0),(.i .u64 0),(.i .u64 0),(.i .u64 0),(.i .u64 0),(.i .u64 0),(.i .u64 0),(.i .u64 0)]))⟩,some ⟨none,none,(.op (.store 13 (.t 8) (.t 62)))⟩⟩,
  ⟨[],none,none⟩]
def c112d0w:List (ROp × Bool) :=
 [(rM 33 4,false),(rM 34 0,false),((rO 35 (.iaddr none 1 (.t 34) (cI 1))),false),(rL 36 35,false),((rO 37 (.toInt .u32 (.t 36))),false),(rM 39 6,false),(rM 41 0,false),((rO 42 (.iaddr none 1 (.t 41) (cI 3))),false),(rL 43 42,false),(rM 44 0,false),((rO 45 (.iaddr none 1 (.t 44) (cI 4))),false),(rL 46 45,false),(rM 47 0,false),((rO 48 (.iaddr none 1 (.t 47) (cI 5))),false),(rL 49 48,false),(rM 50 0,false),((rO 51 (.iaddr none 1 (.t 50) (cI 6))),false),(rL 52 51,false),(rM 53 0,false),((rO 54 (.iaddr none 1 (.t 53) (cI 7))),false),(rL 55 54,false),(rM 56 0,false),((rO 57 (.iaddr none 1 (.t 56) (cI 8))),false),(rL 58 57,false),(rM 59 0,false),((rO 60 (.iaddr none 1 (.t 59) (cI 9))),false),(rL 61 60,false),(rC 38 122 [(.t 37)],true),((rO 40 (.build [(.i .u8 0),(.i .u8 0),(.i .u8 0),(.i .u8 0),(.i .i64 0)] [(0,4,(.t 38)),(4,1,(.t 39))])),false),((rO 62 (.build [(.i .i64 0),(.i .u8 0),(.i .u8 0),(.i .u8 0),(.i .u8 0),(.i .i64 0),(.i .u64 0),(.i .u64 0),(.i .u64 0),(.i .u64 0),(.i .u64 0),(.i .u64 0),(.i .u64 0)] [(0,1,(.t 33)),(1,5,(.t 40)),(6,1,(.t 43)),(7,1,(.t 46)),(8,1,(.t 49)),(9,1,(.t 52)),(10,1,(.t 55)),(11,1,(.t 58)),(12,1,(.t 61))])),false),((rO 8 (.fresh [(.i .i64 0),(.i .u8 0),(.i .u8 0),(.i .u8 0),(.i .u8 0),(.i .i64 0),(.i .u64 0),(.i .u64 0),(.i .u64 0),(.i .u64 0),(.i .u64 0),(.i .u64 0),(.i .u64 0)])),true),(rS 13 8 62,false)]
theorem c112d0_w {P:Program} {O:Orc} {S0:Mem} {rd:Bool} {e:Env} {S:Mem} {d:List Nat} {Q:Kont}:W P O S0 rd (.draw c112d0 []) e S d Q=wFl O c112d0w e S (normK Q d):=W_draw' (by kernel_rfl) (by kernel_rfl)
attribute [go_sem] c112d0_w c112d0w
def c112:IFunc:=⟨1,[.cell 2 (some 13),.tmp 3],
 .seq (.region [(rO 2 (.fresh [(.i .i64 0),(.i .u8 0),(.i .u8 0),(.i .u8 0),(.i .u8 0),(.i .i64 0),(.i .u64 0),(.i .u64 0),(.i .u64 0),(.i .u64 0),(.i .u64 0),(.i .u64 0),(.i .u64 0)])),
  (rO 3 (.mv (cI 0)))])
  (.live [2,0] (.seq (.seq (.region [rM 9 0,
  (rO 10 (.len .slice (.t 9))),
  (rO 11 (.bin .int true .neq (.t 10) (cI 10))),
  rM 12 11,
  ⟨(some 13),some (12,false),(.op (.mv (.t 0)))⟩,
  ⟨(some 14),some (12,false),(.op (.iaddr none 1 (.t 13) (cI 1)))⟩,
  ⟨(some 15),some (12,false),(.op (.load none (.t 14)))⟩,
  ⟨(some 16),some (12,false),(.op (.bin .int true .gtr (.t 15) (.c (.i .u64 4294967295))))⟩,
  (rO 17 (.pick (.t 12) (cB true) (.t 16)))])
  (.live [2,0,17] (.cond (.t 17) (.seq (.region [(rO 18 (.build [(.i .i64 0),(.i .u8 0),(.i .u8 0),(.i .u8 0),(.i .u8 0),(.i .i64 0),(.i .u64 0),(.i .u64 0),(.i .u64 0),(.i .u64 0),(.i .u64 0),(.i .u64 0),(.i .u64 0)] [])),
  rS 13 2 18,
  (rO 3 (.mv (cI 111)))])
  (.ret))
  (.skip))))
  (.live [2,0] (.seq (.region [rM 20 0,
  (rO 21 (.iaddr none 1 (.t 20) (cI 0))),
  rL 22 21,
  rC 23 90 [(.t 22)],
  rM 19 23,
  rX 24 19 0,
  rX 25 19 1,
  rM 4 24,
  rM 5 25])
  (.live [2,5,4,0] (.seq (.region [rM 27 0,
  (rO 28 (.iaddr none 1 (.t 27) (cI 2))),
  rL 29 28,
  rC 30 90 [(.t 29)],
  rM 26 30,
  rX 31 26 0,
  rX 32 26 1,
  rM 6 31,
  rM 7 32])
  (.live [2,7,5,4,6,0] (.seq (.draw c112d0 [])
  (.live [2,8,7,5] (.seq (.seq (.region [rM 63 5,
  (rO 64 (.un .not (.t 63))),
  rM 65 64,
  ⟨(some 66),some (65,false),(.op (.mv (.t 7)))⟩,
  ⟨(some 67),some (65,false),(.op (.un .not (.t 66)))⟩,
  (rO 68 (.pick (.t 65) (cB true) (.t 67))),
  rM 69 68,
  ⟨(some 70),some (69,false),(.op (.load (some 13) (.t 8)))⟩,
  ⟨(some 71),some (69,false),(.call 95 [(.t 70)])⟩,
  ⟨(some 72),some (69,false),(.op (.un .not (.t 71)))⟩,
  (rO 73 (.pick (.t 69) (cB true) (.t 72)))])
  (.live [2,8,73] (.cond (.t 73) (.seq (.region [(rO 74 (.build [(.i .i64 0),(.i .u8 0),(.i .u8 0),(.i .u8 0),(.i .u8 0),(.i .i64 0),(.i .u64 0),(.i .u64 0),(.i .u64 0),(.i .u64 0),(.i .u64 0),(.i .u64 0),(.i .u64 0)] [])),
  rS 13 2 74,
  (rO 3 (.mv (cI 111)))])
  (.ret))
  (.skip))))
  (.live [2,8] (.seq (.region [rK 75 13 8,
  rS 13 2 75,
  (rO 3 (.mv (cI 0)))])
  (.ret))))))))))))),
 []⟩
def c113:IFunc:=⟨1,[.cell 2 (some 4)],
 .seq (.region [(rO 2 (.fresh [(.i .u8 0),(.i .u8 0),(.i .u8 0),(.i .u8 0)]))])
  (.live [2,0] (.seq (.region [rM 3 0,
  (rO 4 (.bin .int true .quo (.t 3) (.c (.i .u32 16777216)))),
  (rO 5 (.toInt .u8 (.t 4))),
  rM 6 0,
  (rO 7 (.bin .int true .quo (.t 6) (.c (.i .u32 65536)))),
  (rO 8 (.bin .int true .rem (.t 7) (.c (.i .u32 256)))),
  (rO 9 (.toInt .u8 (.t 8))),
  rM 10 0,
  (rO 11 (.bin .int true .quo (.t 10) (.c (.i .u32 256)))),
  (rO 12 (.bin .int true .rem (.t 11) (.c (.i .u32 256)))),
  (rO 13 (.toInt .u8 (.t 12))),
  rM 14 0,
  (rO 15 (.bin .int true .rem (.t 14) (.c (.i .u32 256)))),
  (rO 16 (.toInt .u8 (.t 15))),
  (rO 17 (.build [(.i .u8 0),(.i .u8 0),(.i .u8 0),(.i .u8 0)] [(0,1,(.t 5)),(1,1,(.t 9)),(2,1,(.t 13)),(3,1,(.t 16))])),
  rS 4 2 17])
  (.ret))),
 []⟩
def c114:IFunc:=⟨1,[.tmp 2],
 .seq (.region [(rO 2 (.mv (cB false)))])
  (.live [0] (.seq (.region [rM 3 0,
  (rO 4 (.bin .int true .gtr (.t 3) (.c (.i .u64 281474976710656)))),
  rM 2 4])
  (.ret))),
 []⟩
def c115:IFunc:=⟨1,[.tmp 2],
 .seq (.region [(rO 2 (.mv (cB false)))])
  (.live [0] (.seq (.region [rM 3 0,
  (rO 4 (.bin .int true .lss (.t 3) (.c (.i .u64 1500)))),
  rM 2 4])
  (.ret))),
 []⟩
def c116d0:List Stage :=
 [⟨[(⟨(some 3),none,(.op (.faddr 4 (.t 1)))⟩,0),(⟨(some 4),none,(.op (.load none (.t 3)))⟩,0),(⟨(some 5),none,(.op (.bin .int true .geq (.t 4) (.c (.i .i64 0))))⟩,0),(⟨(some 6),none,(.op (.mv (.t 5)))⟩,0),(⟨(some 7),some (6,true),(.op (.faddr 4 (.t 1)))⟩,0),(⟨(some 8),some (6,true),(.op (.load none (.t 7)))⟩,0),(⟨(some 9),some (6,true),(.op (.bin .int true .leq (.t 8) (.c (.i .i64 32))))⟩,0),(⟨(some 10),none,(.op (.pick (.t 6) (.t 9) (.c (.b false))))⟩,0),(⟨(some 11),none,(.op (.mv (.t 10)))⟩,0),(⟨(some 12),some (11,true),(.op (.faddr 0 (.t 1)))⟩,0),(⟨(some 13),some (11,true),(.op (.load (some 4) (.t 12)))⟩,0),(⟨(some 14),some (11,true),(.op (.faddr 4 (.t 1)))⟩,0),(⟨(some 15),some (11,true),(.op (.load none (.t 14)))⟩,0),(⟨(some 17),some (11,true),(.op (.load (some 5) (.t 1)))⟩,1)],none,some ⟨(some 16),some (11,true),(.call 123 [(.t 13),(.t 15)])⟩⟩,
  ⟨[(⟨(some 18),some (11,true),(.op (.eqag false [.int,.int,.int,.int,.int] (.t 16) (.t 17)))⟩,1),(⟨(some 19),none,(.op (.pick (.t 11) (.t 18) (.c (.b false))))⟩,1),(⟨(some 2),none,(.op (.mv (.t 19)))⟩,1)],none,none⟩]
def c116d0w:List (ROp × Bool) :=
 [(rF 3 4 1,false),(rL 4 3,false),((rO 5 (.bin .int true .geq (.t 4) (cI 0))),false),(rM 6 5,false),(⟨(some 7),some (6,true),(.op (.faddr 4 (.t 1)))⟩,false),(⟨(some 8),some (6,true),(.op (.load none (.t 7)))⟩,false),(⟨(some 9),some (6,true),(.op (.bin .int true .leq (.t 8) (cI 32)))⟩,false),((rO 10 (.pick (.t 6) (.t 9) (cB false))),false),(rM 11 10,false),(⟨(some 12),some (11,true),(.op (.faddr 0 (.t 1)))⟩,false),(⟨(some 13),some (11,true),(.op (.load (some 4) (.t 12)))⟩,false),(⟨(some 14),some (11,true),(.op (.faddr 4 (.t 1)))⟩,false),(⟨(some 15),some (11,true),(.op (.load none (.t 14)))⟩,false),(⟨(some 17),some (11,true),(.op (.load (some 5) (.t 1)))⟩,false),(⟨(some 16),some (11,true),(.call 123 [(.t 13),(.t 15)])⟩,true),(⟨(some 18),some (11,true),(.op (.eqag false [.int,.int,.int,.int,.int] (.t 16) (.t 17)))⟩,false),((rO 19 (.pick (.t 11) (.t 18) (cB false))),false),(rM 2 19,false)]
theorem c116d0_w {P:Program} {O:Orc} {S0:Mem} {rd:Bool} {e:Env} {S:Mem} {d:List Nat} {Q:Kont}:W P O S0 rd (.draw c116d0 []) e S d Q=wFl O c116d0w e S (normK Q d):=W_draw' (by kernel_rfl) (by kernel_rfl)
attribute [go_sem] c116d0_w c116d0w
def c116:IFunc:=⟨1,[.tmp 2],
 .seq (.region [(rO 1 (.box (.t 0))),
  (rO 2 (.mv (cB false)))])
  (.live [1] (.seq (.draw c116d0 [])
  (.ret))),
 []⟩
def c117:IFunc:=⟨2,[.tmp 4],
 .seq (.region [(rO 4 (.mv (cB false)))])
  (.live [1,0] (.seq (.region [rM 5 0,
  rM 6 1,
  rC 7 124 [(.t 5),(.t 6)],
  (rO 8 (.bin .int true .geq (.t 7) (cI 0))),
  rM 4 8])
  (.ret))),
 []⟩
def c118d0:List Stage :=
 [⟨[(⟨(some 3),none,(.op (.faddr 4 (.t 1)))⟩,0),(⟨(some 4),none,(.op (.load none (.t 3)))⟩,0),(⟨(some 6),none,(.op (.faddr 4 (.t 1)))⟩,1),(⟨(some 7),none,(.op (.load none (.t 6)))⟩,1)],none,some ⟨(some 5),none,(.call 125 [(.t 4)])⟩⟩,
  ⟨[(⟨(some 8),none,(.op (.bin .int false .eql (.t 5) (.t 7)))⟩,1),(⟨(some 9),none,(.op (.mv (.t 8)))⟩,1),(⟨(some 10),some (9,true),(.op (.faddr 0 (.t 1)))⟩,1),(⟨(some 11),some (9,true),(.op (.load (some 4) (.t 10)))⟩,1),(⟨(some 12),some (9,true),(.op (.faddr 4 (.t 1)))⟩,1),(⟨(some 13),some (9,true),(.op (.load none (.t 12)))⟩,1),(⟨(some 15),some (9,true),(.op (.load (some 5) (.t 1)))⟩,2)],none,some ⟨(some 14),some (9,true),(.call 126 [(.t 11),(.t 13)])⟩⟩,
  ⟨[(⟨(some 16),some (9,true),(.op (.eqag false [.int,.int,.int,.int,.int] (.t 14) (.t 15)))⟩,2),(⟨(some 17),none,(.op (.pick (.t 9) (.t 16) (.c (.b false))))⟩,2),(⟨(some 2),none,(.op (.mv (.t 17)))⟩,2)],none,none⟩]
def c118d0w:List (ROp × Bool) :=
 [(rF 3 4 1,false),(rL 4 3,false),(rF 6 4 1,false),(rL 7 6,false),(rC 5 125 [(.t 4)],true),((rO 8 (.bin .int false .eql (.t 5) (.t 7))),false),(rM 9 8,false),(⟨(some 10),some (9,true),(.op (.faddr 0 (.t 1)))⟩,false),(⟨(some 11),some (9,true),(.op (.load (some 4) (.t 10)))⟩,false),(⟨(some 12),some (9,true),(.op (.faddr 4 (.t 1)))⟩,false),(⟨(some 13),some (9,true),(.op (.load none (.t 12)))⟩,false),(⟨(some 15),some (9,true),(.op (.load (some 5) (.t 1)))⟩,false),(⟨(some 14),some (9,true),(.call 126 [(.t 11),(.t 13)])⟩,true),(⟨(some 16),some (9,true),(.op (.eqag false [.int,.int,.int,.int,.int] (.t 14) (.t 15)))⟩,false),((rO 17 (.pick (.t 9) (.t 16) (cB false))),false),(rM 2 17,false)]
theorem c118d0_w {P:Program} {O:Orc} {S0:Mem} {rd:Bool} {e:Env} {S:Mem} {d:List Nat} {Q:Kont}:W P O S0 rd (.draw c118d0 []) e S d Q=wFl O c118d0w e S (normK Q d):=W_draw' (by kernel_rfl) (by kernel_rfl)
attribute [go_sem] c118d0_w c118d0w
def c118:IFunc:=⟨1,[.tmp 2],
 .seq (.region [(rO 1 (.box (.t 0))),
  (rO 2 (.mv (cB false)))])
  (.live [1] (.seq (.draw c118d0 [])
  (.ret))),
 []⟩
def c119k0:ICode :=
 .seq (.skip)
  (.live [5,0] (.seq (.region [rM 12 0,
  (rO 13 (.bin .int true .shr (.t 12) (.c (.i .u64 31)))),
  rM 6 13])
  (.live [5,6,0] (.seq (.region [rM 14 0,
  (rO 15 (.bin .int true .shl (.t 14) (.c (.i .u64 1)))),
  rM 16 6,
  (rO 17 (.bin .int true .mul (.c (.i .u32 79764919)) (.t 16))),
  (rO 18 (.bin .int false .xor (.t 15) (.t 17))),
  rM 0 18])
  (.live [0,5] (.seq (.seq (.region [rM 19 5,
  (rO 20 (.bin .int true .add (.t 19) (cI 1))),
  rM 5 20])
  (.live [5,0] (.seq (.region [rM 21 5,
  (rO 22 (.bin .int true .lss (.t 21) (cI 8)))])
  (.live [5,0,22] (.cond (.t 22) (.goto 0)
  (.skip))))))
  (.live [0] (.seq (.region [rM 23 0,
  rM 4 23])
  (.ret)))))))))
def c119:IFunc:=⟨2,[.tmp 4],
 .seq (.region [(rO 4 (.mv (.c (.i .u32 0))))])
  (.live [1,0] (.scope [5,0] (.seq (.region [rM 7 0,
  rM 8 1,
  (rO 9 (.toInt .u32 (.t 8))),
  (rO 10 (.bin .int true .shl (.t 9) (.c (.i .u64 24)))),
  (rO 11 (.bin .int false .xor (.t 7) (.t 10))),
  rM 0 11])
  (.live [0] (.seq (.region [(rO 5 (.mv (cI 0)))])
  (.live [5,0] (.seq (.skip)
  (.live [5,0] (.seq (.region [rM 12 0,
  (rO 13 (.bin .int true .shr (.t 12) (.c (.i .u64 31)))),
  rM 6 13])
  (.live [5,6,0] (.seq (.region [rM 14 0,
  (rO 15 (.bin .int true .shl (.t 14) (.c (.i .u64 1)))),
  rM 16 6,
  (rO 17 (.bin .int true .mul (.c (.i .u32 79764919)) (.t 16))),
  (rO 18 (.bin .int false .xor (.t 15) (.t 17))),
  rM 0 18])
  (.live [0,5] (.seq (.seq (.region [rM 19 5,
  (rO 20 (.bin .int true .add (.t 19) (cI 1))),
  rM 5 20])
  (.live [5,0] (.seq (.region [rM 21 5,
  (rO 22 (.bin .int true .lss (.t 21) (cI 8)))])
  (.live [5,0,22] (.cond (.t 22) (.goto 0)
  (.skip))))))
  (.live [0] (.seq (.region [rM 23 0,
  rM 4 23])
  (.ret)))))))))))))) 0 c119k0)),
 []⟩
def c120:IFunc:=⟨1,[.tmp 2],
 .seq (.region [(rO 2 (.mv (cI 0)))])
  (.live [0] (.seq (.region [rM 3 0,
  rC 4 127 [(.t 3)],
  rM 2 4])
  (.ret))),
 []⟩
def c121d0:List Stage :=
 [⟨[(⟨(some 13),none,(.op (.load none (.t 2)))⟩,0),(⟨(some 14),none,(.op (.load none (.t 1)))⟩,0),(⟨(some 15),none,(.op (.mv (.t 4)))⟩,0),(⟨(some 16),none,(.op (.slice 1 (.t 14) (some (.t 15)) none none))⟩,0),(⟨(some 17),none,(.op (.len .slice (.t 16)))⟩,0),(⟨(some 18),none,(.op (.mm false [(.t 13),(.t 17)]))⟩,0),(⟨(some 5),none,(.op (.mv (.t 18)))⟩,0)],none,none⟩]
def c121d0w:List (ROp × Bool) :=
 [(rL 13 2,false),(rL 14 1,false),(rM 15 4,false),((rO 16 (.slice 1 (.t 14) (some (.t 15)) none none)),false),((rO 17 (.len .slice (.t 16))),false),((rO 18 (.mm false [(.t 13),(.t 17)])),false),(rM 5 18,false)]
theorem c121d0_w {P:Program} {O:Orc} {S0:Mem} {rd:Bool} {e:Env} {S:Mem} {d:List Nat} {Q:Kont}:W P O S0 rd (.draw c121d0 []) e S d Q=wFl O c121d0w e S (normK Q d):=W_draw' (by kernel_rfl) (by kernel_rfl)
attribute [go_sem] c121d0_w c121d0w
def c121l1:ICode :=
 .seq (.seq (.region [rM 6 4,
  rL 7 1,
  (rO 8 (.len .slice (.t 7))),
  (rO 9 (.bin .int false .lss (.t 6) (.t 8)))])
  (.live [2,1,0,4,9] (.cond (.t 9) (.skip)
  (.exit 0))))
  (.live [2,1,0,4] (.seq (.block 1 (.seq (.draw c121d0 [])
  (.live [2,1,0,4,5] (.seq (.region [rM 19 0,
  rL 20 1,
  rM 21 4,
  rM 22 4,
  rM 23 5,
  (rO 24 (.bin .int false .add (.t 22) (.t 23))),
  rM 25 4,
  rM 26 5,
  (rO 27 (.bin .int false .add (.t 25) (.t 26))),
  (rO 28 (.slice 1 (.t 20) (some (.t 21)) (some (.t 24)) (some (.t 27)))),
  ⟨(some 29),none,(.callv (.t 19) [(.t 28)])⟩,
  (rO 30 (.un .not (.t 29)))])
  (.live [2,1,0,4,30] (.cond (.t 30) (.ret)
  (.skip)))))))
  (.live [2,1,0,4] (.region [rM 10 4,
  rL 11 2,
  (rO 12 (.bin .int false .add (.t 10) (.t 11))),
  rM 4 12]))))
def c121:IFunc:=⟨3,[],
 .seq (.region [(rO 4 (.mv (cI 0)))])
  (.live [2,1,0,4] (.block 0 (.loop [2,1,0,4] c121l1))),
 []⟩
def c122:IFunc:=⟨1,[.cell 2 (some 4)],
 .seq (.region [(rO 2 (.fresh [(.i .u8 0),(.i .u8 0),(.i .u8 0),(.i .u8 0)]))])
  (.live [2,0] (.seq (.region [rM 3 0,
  (rO 4 (.bin .int true .shr (.t 3) (.c (.i .u64 24)))),
  (rO 5 (.toInt .u8 (.t 4))),
  rM 6 0,
  (rO 7 (.bin .int true .shr (.t 6) (.c (.i .u64 16)))),
  (rO 8 (.toInt .u8 (.t 7))),
  rM 9 0,
  (rO 10 (.bin .int true .shr (.t 9) (.c (.i .u64 8)))),
  (rO 11 (.toInt .u8 (.t 10))),
  rM 12 0,
  (rO 13 (.toInt .u8 (.t 12))),
  (rO 14 (.build [(.i .u8 0),(.i .u8 0),(.i .u8 0),(.i .u8 0)] [(0,1,(.t 5)),(1,1,(.t 8)),(2,1,(.t 11)),(3,1,(.t 13))])),
  rS 4 2 14])
  (.ret))),
 []⟩
def c123:IFunc:=⟨2,[.cell 4 (some 5)],
 .seq (.region [(rO 2 (.box (.t 0))),
  (rO 4 (.fresh [(.i .u8 0),(.i .u8 0),(.i .u8 0),(.i .u8 0),(.i .i64 0)]))])
  (.live [4,1,2] (.seq (.region [rK 5 4 2,
  rC 6 101 [(.t 5)],
  rM 7 1,
  rC 8 128 [(.t 7)],
  (rO 9 (.bin .int false .and (.t 6) (.t 8))),
  rC 10 122 [(.t 9)],
  rM 11 1,
  (rO 12 (.mm false [(.t 11),(cI 32)])),
  (rO 13 (.mm true [(cI 0),(.t 12)])),
  (rO 14 (.build [(.i .u8 0),(.i .u8 0),(.i .u8 0),(.i .u8 0),(.i .i64 0)] [(0,4,(.t 10)),(4,1,(.t 13))])),
  rS 5 4 14])
  (.ret))),
 []⟩
def c124l0:ICode :=
 .seq (.region [(rO 9 (.bin .int false .lss (.t 8) (.t 7)))])
  (.live [0,1,7,8,9] (.seq (.cond (.t 9) (.skip)
  (.exit 0))
  (.live [0,1,7,8] (.seq (.block 1 (.seq (.region [rM 10 8,
  rM 5 10])
  (.live [5,0,1,7,8] (.seq (.region [rM 11 1,
  rM 12 0,
  rM 13 5,
  (rO 14 (.iaddr none 1 (.t 12) (.t 13))),
  rL 15 14,
  ⟨(some 16),none,(.callv (.t 11) [(.t 15)])⟩])
  (.live [5,0,1,7,8,16] (.cond (.t 16) (.seq (.region [rM 17 5,
  rM 4 17])
  (.ret))
  (.skip)))))))
  (.live [0,1,7,8] (.region [(rO 18 (.bin .int true .add (.t 8) (cI 1))),
  rM 8 18]))))))
def c124:IFunc:=⟨2,[.tmp 4],
 .seq (.region [(rO 4 (.mv (cI 0)))])
  (.live [0,1] (.seq (.seq (.region [rM 6 0,
  (rO 7 (.len .slice (.t 6))),
  (rO 8 (.mv (cI 0)))])
  (.live [0,1,7,8] (.block 0 (.loop [0,1,7,8] c124l0))))
  (.live [] (.seq (.region [(rO 4 (.mv (.c (.i .i64 (-1)))))])
  (.ret))))),
 []⟩
def c125:IFunc:=⟨1,[.tmp 2],
 .seq (.region [(rO 2 (.mv (cI 0)))])
  (.live [0] (.seq (.seq (.region [rM 3 0,
  (rO 4 (.bin .int true .lss (.t 3) (cI 0)))])
  (.live [0,4] (.cond (.t 4) (.seq (.region [(rO 2 (.mv (cI 0)))])
  (.ret))
  (.skip))))
  (.live [0] (.seq (.seq (.region [rM 5 0,
  (rO 6 (.bin .int true .gtr (.t 5) (cI 32)))])
  (.live [0,6] (.cond (.t 6) (.seq (.region [(rO 2 (.mv (cI 32)))])
  (.ret))
  (.skip))))
  (.live [0] (.seq (.region [rM 7 0,
  rM 2 7])
  (.ret))))))),
 []⟩
def c126l0:ICode :=
 .seq (.seq (.region [rM 14 7,
  (rO 15 (.bin .int true .lss (.t 14) (cI 32)))])
  (.live [4,6,7,5,15] (.cond (.t 15) (.skip)
  (.exit 0))))
  (.live [4,6,7,5] (.seq (.block 1 (.region [rM 18 5,
  (rO 19 (.bin .int true .quo (.t 18) (.c (.i .u32 2)))),
  rM 5 19]))
  (.live [4,6,5,7] (.region [rM 16 7,
  (rO 17 (.bin .int true .add (.t 16) (cI 1))),
  rM 7 17]))))
def c126l1:ICode :=
 .seq (.seq (.region [rM 21 8,
  (rO 22 (.bin .int true .lss (.t 21) (cI 32)))])
  (.live [4,6,8,5,22] (.cond (.t 22) (.skip)
  (.exit 2))))
  (.live [4,6,8,5] (.seq (.block 3 (.region [rM 25 5,
  (rO 26 (.bin .int true .mul (.t 25) (.c (.i .u32 2)))),
  rM 5 26]))
  (.live [4,6,5,8] (.region [rM 23 8,
  (rO 24 (.bin .int true .add (.t 23) (cI 1))),
  rM 8 24]))))
def c126:IFunc:=⟨2,[.cell 4 (some 5)],
 .seq (.region [(rO 2 (.box (.t 0))),
  (rO 4 (.fresh [(.i .u8 0),(.i .u8 0),(.i .u8 0),(.i .u8 0),(.i .i64 0)]))])
  (.live [4,1,2] (.seq (.region [rK 9 4 2,
  rC 10 100 [(.t 9)],
  rM 5 10])
  (.live [4,5,1] (.seq (.region [rM 11 1,
  rC 12 125 [(.t 11)],
  rM 6 12])
  (.live [4,6,5] (.seq (.seq (.region [rM 13 6,
  rM 7 13])
  (.live [4,6,7,5] (.block 0 (.loop [4,6,7,5] c126l0))))
  (.live [4,6,5] (.seq (.seq (.region [rM 20 6,
  rM 8 20])
  (.live [4,6,8,5] (.block 2 (.loop [4,6,8,5] c126l1))))
  (.live [4,6,5] (.seq (.region [rM 27 5,
  rC 28 113 [(.t 27)],
  rM 29 6,
  (rO 30 (.build [(.i .u8 0),(.i .u8 0),(.i .u8 0),(.i .u8 0),(.i .i64 0)] [(0,4,(.t 28)),(4,1,(.t 29))])),
  rS 5 4 30])
  (.ret))))))))))),
 []⟩
def c127:IFunc:=⟨1,[.tmp 2],
 .seq (.region [(rO 2 (.mv (cI 0)))])
  (.live [0,2] (.seq (.seq (.region [rM 3 0,
  (rO 4 (.bin .int true .geq (.t 3) (.c (.i .u64 4294967296))))])
  (.live [0,2,4] (.cond (.t 4) (.seq (.region [rM 5 0,
  (rO 6 (.bin .int true .shr (.t 5) (.c (.i .u64 32)))),
  rM 0 6])
  (.region [(rO 2 (.mv (cI 32)))]))
  (.skip))))
  (.live [2,0] (.seq (.seq (.region [rM 7 0,
  (rO 8 (.bin .int true .geq (.t 7) (.c (.i .u64 65536))))])
  (.live [2,0,8] (.cond (.t 8) (.seq (.region [rM 9 0,
  (rO 10 (.bin .int true .shr (.t 9) (.c (.i .u64 16)))),
  rM 0 10])
  (.live [0,2] (.region [rM 11 2,
  (rO 12 (.bin .int true .add (.t 11) (cI 16))),
  rM 2 12])))
  (.skip))))
  (.live [2,0] (.seq (.seq (.region [rM 13 0,
  (rO 14 (.bin .int true .geq (.t 13) (.c (.i .u64 256))))])
  (.live [2,0,14] (.cond (.t 14) (.seq (.region [rM 15 0,
  (rO 16 (.bin .int true .shr (.t 15) (.c (.i .u64 8)))),
  rM 0 16])
  (.live [0,2] (.region [rM 17 2,
  (rO 18 (.bin .int true .add (.t 17) (cI 8))),
  rM 2 18])))
  (.skip))))
  (.live [0,2] (.seq (.region [rM 19 2,
  rM 20 0,
  (rO 21 (.toInt .u8 (.t 20))),
  (rO 22 (.ixs (.c (.s [0,1,2,2,3,3,3,3,4,4,4,4,4,4,4,4,5,5,5,5,5,5,5,5,5,5,5,5,5,5,5,5,6,6,6,6,6,6,6,6,6,6,6,6,6,6,6,6,6,6,6,6,6,6,6,6,6,6,6,6,6,6,6,6,7,7,7,7,7,7,7,7,7,7,7,7,7,7,7,7,7,7,7,7,7,7,7,7,7,7,7,7,7,7,7,7,7,7,7,7,7,7,7,7,7,7,7,7,7,7,7,7,7,7,7,7,7,7,7,7,7,7,7,7,7,7,7,7,8,8,8,8,8,8,8,8,8,8,8,8,8,8,8,8,8,8,8,8,8,8,8,8,8,8,8,8,8,8,8,8,8,8,8,8,8,8,8,8,8,8,8,8,8,8,8,8,8,8,8,8,8,8,8,8,8,8,8,8,8,8,8,8,8,8,8,8,8,8,8,8,8,8,8,8,8,8,8,8,8,8,8,8,8,8,8,8,8,8,8,8,8,8,8,8,8,8,8,8,8,8,8,8,8,8,8,8,8,8,8,8,8,8,8,8,8,8,8,8,8,8,8,8,8,8,8,8])) (.t 21))),
  (rO 23 (.toInt .i64 (.t 22))),
  (rO 24 (.bin .int false .add (.t 19) (.t 23))),
  rM 2 24])
  (.ret))))))))),
 []⟩
def c128:IFunc:=⟨1,[.tmp 2],
 .seq (.region [(rO 2 (.mv (.c (.i .u32 0))))])
  (.live [0] (.seq (.region [rM 3 0,
  (rO 4 (.mm false [(.t 3),(cI 32)])),
  (rO 5 (.mm true [(cI 0),(.t 4)])),
  (rO 6 (.bin .int true .sub (cI 32) (.t 5))),
  (rO 7 (.bin .int true .shl (.c (.i .u32 4294967295)) (.t 6))),
  rM 2 7])
  (.ret))),
 []⟩
set_option maxRecDepth 1000000
theorem f74:compFunc Tryz.prog 74=some (stripF c74):=by kernel_rfl
theorem f75:compFunc Tryz.prog 75=some (stripF c75):=by kernel_rfl
theorem f76:compFunc Tryz.prog 76=some (stripF c76):=by kernel_rfl
theorem f77:compFunc Tryz.prog 77=some (stripF c77):=by kernel_rfl
theorem f78:compFunc Tryz.prog 78=some (stripF c78):=by kernel_rfl
theorem f79:compFunc Tryz.prog 79=some (stripF c79):=by kernel_rfl
theorem f80:compFunc Tryz.prog 80=some (stripF c80):=by kernel_rfl
theorem f81:compFunc Tryz.prog 81=some (stripF c81):=by kernel_rfl
theorem f82:compFunc Tryz.prog 82=some (stripF c82):=by kernel_rfl
theorem f83:compFunc Tryz.prog 83=some (stripF c83):=by kernel_rfl
theorem f84:compFunc Tryz.prog 84=some (stripF c84):=by kernel_rfl
theorem f85:compFunc Tryz.prog 85=some (stripF c85):=by kernel_rfl
theorem f86:compFunc Tryz.prog 86=some (stripF c86):=by kernel_rfl
theorem f87:compFunc Tryz.prog 87=some (stripF c87):=by kernel_rfl
theorem f88:compFunc Tryz.prog 88=some (stripF c88):=by kernel_rfl
theorem f89:compFunc Tryz.prog 89=some (stripF c89):=by kernel_rfl
theorem f90:compFunc Tryz.prog 90=some (stripF c90):=by kernel_rfl
theorem f91:compFunc Tryz.prog 91=some (stripF c91):=by kernel_rfl
theorem f92:compFunc Tryz.prog 92=some (stripF c92):=by kernel_rfl
theorem f93:compFunc Tryz.prog 93=some (stripF c93):=by kernel_rfl
theorem f94:compFunc Tryz.prog 94=some (stripF c94):=by kernel_rfl
theorem f95:compFunc Tryz.prog 95=some (stripF c95):=by kernel_rfl
theorem f96:compFunc Tryz.prog 96=some (stripF c96):=by kernel_rfl
theorem f97:compFunc Tryz.prog 97=some (stripF c97):=by kernel_rfl
theorem f98:compFunc Tryz.prog 98=some (stripF c98):=by kernel_rfl
theorem f99:compFunc Tryz.prog 99=some (stripF c99):=by kernel_rfl
theorem f100:compFunc Tryz.prog 100=some (stripF c100):=by kernel_rfl
theorem f101:compFunc Tryz.prog 101=some (stripF c101):=by kernel_rfl
theorem f102:compFunc Tryz.prog 102=some (stripF c102):=by kernel_rfl
theorem f103:compFunc Tryz.prog 103=some (stripF c103):=by kernel_rfl
theorem f104:compFunc Tryz.prog 104=some (stripF c104):=by kernel_rfl
theorem f105:compFunc Tryz.prog 105=some (stripF c105):=by kernel_rfl
theorem f106:compFunc Tryz.prog 106=some (stripF c106):=by kernel_rfl
theorem f107:compFunc Tryz.prog 107=some (stripF c107):=by kernel_rfl
theorem f108:compFunc Tryz.prog 108=some (stripF c108):=by kernel_rfl
theorem f109:compFunc Tryz.prog 109=some (stripF c109):=by kernel_rfl
theorem f110:compFunc Tryz.prog 110=some (stripF c110):=by kernel_rfl
theorem f111:compFunc Tryz.prog 111=some (stripF c111):=by kernel_rfl
theorem f112:compFunc Tryz.prog 112=some (stripF c112):=by kernel_rfl
theorem f113:compFunc Tryz.prog 113=some (stripF c113):=by kernel_rfl
theorem f114:compFunc Tryz.prog 114=some (stripF c114):=by kernel_rfl
theorem f115:compFunc Tryz.prog 115=some (stripF c115):=by kernel_rfl
theorem f116:compFunc Tryz.prog 116=some (stripF c116):=by kernel_rfl
theorem f117:compFunc Tryz.prog 117=some (stripF c117):=by kernel_rfl
theorem f118:compFunc Tryz.prog 118=some (stripF c118):=by kernel_rfl
theorem f119:compFunc Tryz.prog 119=some (stripF c119):=by kernel_rfl
theorem f120:compFunc Tryz.prog 120=some (stripF c120):=by kernel_rfl
theorem f121:compFunc Tryz.prog 121=some (stripF c121):=by kernel_rfl
theorem f122:compFunc Tryz.prog 122=some (stripF c122):=by kernel_rfl
theorem f123:compFunc Tryz.prog 123=some (stripF c123):=by kernel_rfl
theorem f124:compFunc Tryz.prog 124=some (stripF c124):=by kernel_rfl
theorem f125:compFunc Tryz.prog 125=some (stripF c125):=by kernel_rfl
theorem f126:compFunc Tryz.prog 126=some (stripF c126):=by kernel_rfl
theorem f127:compFunc Tryz.prog 127=some (stripF c127):=by kernel_rfl
theorem f128:compFunc Tryz.prog 128=some (stripF c128):=by kernel_rfl
end Go.Proofs.YtkfobkfhbkicaaaGreat
