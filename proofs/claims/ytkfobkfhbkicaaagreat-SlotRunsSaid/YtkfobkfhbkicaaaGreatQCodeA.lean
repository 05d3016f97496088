/- Proved here: the code of the functions, written out, is what the compiler makes of the program. No condition. -/
import Derived.Test.YtkfobkfhbkicaaaGreatMc
import Derived.Test.YtkfobkfhbkicaaaGreatRows
set_option linter.unusedSimpArgs false
set_option linter.unusedVariables false
namespace Go.Proofs.YtkfobkfhbkicaaaGreat
open Go.RowKit
def c3l0:ICode :=
 .seq (.region [(rO 31 (.bin .int false .lss (.t 30) (.t 29)))])
  (.live [6,5,28,29,30,31] (.seq (.cond (.t 31) (.skip)
  (.exit 0))
  (.live [6,5,28,29,30] (.seq (.block 1 (.seq (.region [(rO 32 (.iaddr none 73 (.t 28) (.t 30))),
  rK 33 73 32,
  (rO 8 (.fresh [(.i .i64 0),(.i .i64 0),(.i .u64 0),(.i .u32 0),(.i .u64 0),(.i .i64 0),(.i .u64 0),.sn,(.i .u8 0),(.i .u8 0),(.i .u8 0),(.i .u8 0),(.i .u8 0),(.i .u8 0),(.i .u8 0),(.i .u8 0),(.i .u8 0),(.i .u8 0),(.i .u8 0),(.i .u8 0),(.i .u8 0),(.i .u8 0),(.i .u8 0),(.i .u8 0),(.i .u8 0),(.i .u8 0),(.i .u8 0),(.i .u8 0),(.i .u8 0),(.i .u8 0),(.i .u8 0),(.i .u8 0),(.i .u8 0),(.i .u8 0),(.i .u8 0),(.i .u8 0),(.i .u8 0),(.i .u8 0),(.i .u8 0),(.i .u8 0),(.i .u8 0),(.i .u8 0),(.i .u8 0),(.i .u8 0),(.i .u8 0),(.i .u8 0),(.i .u8 0),(.i .u8 0),(.i .u8 0),(.i .u8 0),(.i .u8 0),(.i .u8 0),(.i .u8 0),(.i .u8 0),(.i .u8 0),(.i .u8 0),(.i .u8 0),(.i .u8 0),(.i .u8 0),(.i .u8 0),(.i .u8 0),(.i .u8 0),(.i .u8 0),(.i .u8 0),(.i .u8 0),(.i .u8 0),(.i .u8 0),(.i .u8 0),(.i .u8 0),(.i .u8 0),(.i .u8 0),(.i .u8 0),.sn])),
  rS 73 8 33])
  (.live [6,5,28,29,30,8] (.seq (.seq (.region [rF 34 2 8,
  rK 35 6 34,
  rC 36 8 [(.t 35)]])
  (.live [6,5,28,29,30,8,36] (.cond (.t 36) (.seq (.region [(rO 4 (.mv (cB true)))])
  (.ret))
  (.skip))))
  (.live [6,5,28,29,30,8] (.seq (.region [(rO 9 (.mv (cI 0))),
  (rO 10 (.mv (cI 0)))])
  (.live [6,5,28,29,30,8,10,9] (.seq (.seq (.region [rF 37 0 8,
  rL 38 37])
  (.live [6,5,28,29,30,8,10,9,38] (.block 2 (.seq (.region [(rO 40 (.bin .int true .eql (.t 38) (cI 0))),
  rM 39 40])
  (.live [6,5,28,29,30,8,10,9,38,39] (.cond (.t 39) (.seq (.region [rM 41 5,
  rF 42 2 8,
  rK 43 6 42,
  rC 44 9 [(.t 41),(.t 43)],
  rM 9 44])
  (.live [6,5,28,29,30,9,8] (.region [rK 46 5 6,
  rF 47 2 8,
  rK 48 6 47,
  rC 49 10 [(.t 46),(.t 48)],
  rM 45 49,
  rX 50 45 0,
  rX 51 45 1,
  rS 5 6 50,
  rM 10 51])))
  (.seq (.region [(rO 53 (.bin .int true .eql (.t 38) (cI 1))),
  rM 52 53])
  (.live [6,5,28,29,30,8,10,9,38,52] (.cond (.t 52) (.seq (.region [rM 54 5,
  rF 55 1 8,
  rL 56 55,
  rF 57 8 8,
  rK 58 64 57,
  rC 59 11 [(.t 54),(.t 56),(.t 58)],
  rM 9 59])
  (.live [6,5,28,29,30,9,8] (.region [rK 61 5 6,
  rF 62 1 8,
  rL 63 62,
  rF 64 8 8,
  rK 65 64 64,
  rC 66 12 [(.t 61),(.t 63),(.t 65)],
  rM 60 66,
  rX 67 60 0,
  rX 68 60 1,
  rS 5 6 67,
  rM 10 68])))
  (.seq (.region [(rO 70 (.bin .int true .eql (.t 38) (cI 2))),
  rM 69 70])
  (.live [6,5,28,29,30,10,9,8,38,69] (.cond (.t 69) (.seq (.region [rM 71 5,
  rF 72 1 8,
  rL 73 72,
  rC 74 13 [(.t 71),(.t 73)]])
  (.live [6,5,28,29,30,10,9,8] (.region [rK 75 5 6,
  rF 76 1 8,
  rL 77 76,
  rC 78 14 [(.t 75),(.t 77)],
  rS 5 6 78])))
  (.seq (.region [(rO 80 (.bin .int true .eql (.t 38) (cI 3))),
  rM 79 80])
  (.live [6,5,28,29,30,10,9,8,79] (.cond (.t 79) (.seq (.region [rM 81 5,
  (rO 82 (.bslice [(.b false)] 0 [])),
  rF 83 72 8,
  rL 84 83,
  (rO 85 (.app 1 1 (.t 82) (.t 84))),
  rC 86 15 [(.t 81),(.t 85)]])
  (.live [6,5,28,29,30,10,9,8] (.region [rK 87 5 6,
  rF 88 72 8,
  rL 89 88,
  rC 90 16 [(.t 87),(.t 89)],
  rS 5 6 90])))
  (.skip))))))))))))))))
  (.live [6,5,28,29,30,10,9] (.seq (.region [rM 92 5,
  rC 93 17 [(.t 92)],
  rM 91 93,
  rX 94 91 0,
  rX 95 91 1,
  (rO 11 (.fresh [(.i .u64 0),(.i .u32 0),(.i .u64 0),(.i .i64 0),(.i .u64 0),.sn])),
  rS 6 11 94,
  rM 12 95])
  (.live [6,5,28,29,30,12,11,10,9] (.seq (.region [rK 97 5 6,
  rC 98 18 [(.t 97)],
  rM 96 98,
  rX 99 96 0,
  rX 100 96 1,
  (rO 13 (.fresh [(.i .u64 0),(.i .u32 0),(.i .u64 0),(.i .i64 0),(.i .u64 0),.sn])),
  rS 6 13 99,
  rM 14 100])
  (.live [6,5,28,29,30,14,12,13,11,10,9] (.seq (.region [rM 101 9,
  rM 102 10,
  (rO 103 (.bin .int false .neq (.t 101) (.t 102))),
  rM 104 103,
  ⟨(some 105),some (104,false),(.op (.load (some 6) (.t 11)))⟩,
  ⟨(some 106),some (104,false),(.op (.load (some 6) (.t 13)))⟩,
  ⟨(some 107),some (104,false),(.call 19 [(.t 105),(.t 106)])⟩,
  ⟨(some 108),some (104,false),(.op (.un .not (.t 107)))⟩,
  (rO 109 (.pick (.t 104) (cB true) (.t 108))),
  rM 110 109,
  ⟨(some 111),some (110,false),(.op (.mv (.t 12)))⟩,
  ⟨(some 112),some (110,false),(.op (.mv (.t 14)))⟩,
  ⟨(some 113),some (110,false),(.op (.bin .bool false .neq (.t 111) (.t 112)))⟩,
  (rO 114 (.pick (.t 110) (cB true) (.t 113)))])
  (.live [6,5,28,29,30,114] (.cond (.t 114) (.seq (.region [(rO 4 (.mv (cB false)))])
  (.ret))
  (.skip)))))))))))))))))
  (.live [6,5,28,29,30] (.region [(rO 115 (.bin .int true .add (.t 30) (cI 1))),
  rM 30 115]))))))
def c3:IFunc:=⟨2,[.tmp 4],
 .seq (.region [(rO 4 (.mv (cB false)))])
  (.live [1,0] (.seq (.seq (.region [rC 15 5 [],
  (rO 16 (.un .not (.t 15)))])
  (.live [1,0,16] (.cond (.t 16) (.seq (.region [(rO 4 (.mv (cB false)))])
  (.ret))
  (.skip))))
  (.live [1,0] (.seq (.seq (.region [rM 17 0,
  (rO 18 (.bin .int true .gtr (.t 17) (cI 140))),
  rM 19 18,
  ⟨(some 20),some (19,false),(.op (.mv (.t 1)))⟩,
  ⟨(some 21),some (19,false),(.op (.len .slice (.t 20)))⟩,
  ⟨(some 22),some (19,false),(.op (.bin .int true .gtr (.t 21) (cI 30)))⟩,
  (rO 23 (.pick (.t 19) (cB true) (.t 22)))])
  (.live [1,0,23] (.cond (.t 23) (.seq (.region [(rO 4 (.mv (cB true)))])
  (.ret))
  (.skip))))
  (.live [1,0] (.seq (.region [rM 24 0,
  rC 25 6 [(.t 24)],
  rM 5 25])
  (.live [5,1,0] (.seq (.region [rM 26 0,
  rC 27 7 [(.t 26)],
  (rO 6 (.fresh [.sn,.sn,(.b false),(.i .i64 0),(.b false)])),
  rS 5 6 27])
  (.live [6,5,1] (.seq (.seq (.region [rM 28 1,
  (rO 29 (.len .slice (.t 28))),
  (rO 30 (.mv (cI 0)))])
  (.live [6,5,28,29,30] (.block 0 (.loop [6,5,28,29,30] c3l0))))
  (.live [] (.seq (.region [(rO 4 (.mv (cB true)))])
  (.ret))))))))))))),
 []⟩
def c5d0:List Stage :=
 [⟨[(⟨(some 39),none,(.op (.mv (.t 3)))⟩,0),(⟨(some 40),none,(.op (.mv (.t 39)))⟩,0),(⟨(some 41),some (40,true),(.op (.load (some 6) (.t 2)))⟩,1)],none,some ⟨(some 42),some (40,true),(.call 26 [(.c (.i .u64 2))])⟩⟩,
  ⟨[],none,some ⟨(some 43),some (40,true),(.call 21 [(.t 41),(.t 42)])⟩⟩,
  ⟨[(⟨(some 44),none,(.op (.pick (.t 40) (.t 43) (.c (.b false))))⟩,2),(⟨(some 45),none,(.op (.mv (.t 44)))⟩,2),(⟨(some 46),some (45,true),(.op (.mv (.t 4)))⟩,2),(⟨(some 47),some (45,true),(.op (.bin .int true .eql (.t 46) (.c (.i .i64 72))))⟩,2),(⟨(some 48),none,(.op (.pick (.t 45) (.t 47) (.c (.b false))))⟩,2),(⟨(some 49),none,(.op (.mv (.t 48)))⟩,2),(⟨(some 50),some (49,true),(.op (.mv (.t 6)))⟩,2),(⟨(some 51),none,(.op (.pick (.t 49) (.t 50) (.c (.b false))))⟩,2),(⟨(some 52),none,(.op (.mv (.t 51)))⟩,2),(⟨(some 53),some (52,true),(.op (.load (some 6) (.t 5)))⟩,3)],none,some ⟨(some 54),some (52,true),(.call 26 [(.c (.i .u64 2))])⟩⟩,
  ⟨[],none,some ⟨(some 55),some (52,true),(.call 21 [(.t 53),(.t 54)])⟩⟩,
  ⟨[(⟨(some 56),none,(.op (.pick (.t 52) (.t 55) (.c (.b false))))⟩,4),(⟨(some 0),none,(.op (.mv (.t 56)))⟩,4)],none,none⟩]
def c5d0w:List (ROp × Bool) :=
 [(rM 39 3,false),(rM 40 39,false),(⟨(some 41),some (40,true),(.op (.load (some 6) (.t 2)))⟩,false),(⟨(some 42),some (40,true),(.call 26 [(.c (.i .u64 2))])⟩,true),(⟨(some 43),some (40,true),(.call 21 [(.t 41),(.t 42)])⟩,false),((rO 44 (.pick (.t 40) (.t 43) (cB false))),false),(rM 45 44,false),(⟨(some 46),some (45,true),(.op (.mv (.t 4)))⟩,false),(⟨(some 47),some (45,true),(.op (.bin .int true .eql (.t 46) (cI 72)))⟩,false),((rO 48 (.pick (.t 45) (.t 47) (cB false))),false),(rM 49 48,false),(⟨(some 50),some (49,true),(.op (.mv (.t 6)))⟩,false),((rO 51 (.pick (.t 49) (.t 50) (cB false))),false),(rM 52 51,false),(⟨(some 53),some (52,true),(.op (.load (some 6) (.t 5)))⟩,false),(⟨(some 54),some (52,true),(.call 26 [(.c (.i .u64 2))])⟩,true),(⟨(some 55),some (52,true),(.call 21 [(.t 53),(.t 54)])⟩,false),((rO 56 (.pick (.t 52) (.t 55) (cB false))),false),(rM 0 56,false)]
theorem c5d0_w {P:Program} {O:Orc} {S0:Mem} {rd:Bool} {e:Env} {S:Mem} {d:List Nat} {Q:Kont}:W P O S0 rd (.draw c5d0 []) e S d Q=wFl O c5d0w e S (normK Q d):=W_draw' (by kernel_rfl) (by kernel_rfl)
attribute [go_sem] c5d0_w c5d0w
def c5:IFunc:=⟨0,[.tmp 0],
 .seq (.region [(rO 0 (.mv (cB false)))])
  (.live [] (.seq (.region [rC 7 6 [(cI 64)],
  rM 1 7])
  (.live [1] (.seq (.seq (.region [rM 8 1,
  (rO 9 (.bin .ptr true .eql (.t 8) (.c .pn))),
  rM 10 9,
  ⟨(some 11),some (10,false),(.op (.mv (.t 1)))⟩,
  ⟨(some 12),some (10,false),(.call 26 [(.c (.i .u64 1))])⟩,
  ⟨(some 13),some (10,false),(.call 9 [(.t 11),(.t 12)])⟩,
  ⟨(some 14),some (10,false),(.op (.bin .int true .neq (.t 13) (cI 0)))⟩,
  (rO 15 (.pick (.t 10) (cB true) (.t 14))),
  rM 16 15,
  ⟨(some 17),some (16,false),(.op (.mv (.t 1)))⟩,
  ⟨(some 18),some (16,false),(.call 26 [(.c (.i .u64 2))])⟩,
  ⟨(some 19),some (16,false),(.call 9 [(.t 17),(.t 18)])⟩,
  ⟨(some 20),some (16,false),(.op (.bin .int true .neq (.t 19) (cI 0)))⟩,
  (rO 21 (.pick (.t 16) (cB true) (.t 20)))])
  (.live [1,21] (.cond (.t 21) (.seq (.region [(rO 0 (.mv (cB false)))])
  (.ret))
  (.skip))))
  (.live [1] (.seq (.region [rM 23 1,
  rC 24 17 [(.t 23)],
  rM 22 24,
  rX 25 22 0,
  rX 26 22 1,
  (rO 2 (.fresh [(.i .u64 0),(.i .u32 0),(.i .u64 0),(.i .i64 0),(.i .u64 0),.sn])),
  rS 6 2 25,
  rM 3 26])
  (.live [3,2,1] (.seq (.region [rM 27 1,
  rC 28 13 [(.t 27),(cI 0)]])
  (.live [3,2,1] (.seq (.region [rM 29 1,
  rC 30 26 [(.c (.i .u64 3))],
  rC 31 9 [(.t 29),(.t 30)],
  rM 4 31])
  (.live [3,2,4,1] (.seq (.region [rM 32 1,
  rC 33 15 [(.t 32),(.c .sn)]])
  (.live [3,2,4,1] (.seq (.region [rM 35 1,
  rC 36 17 [(.t 35)],
  rM 34 36,
  rX 37 34 0,
  rX 38 34 1,
  (rO 5 (.fresh [(.i .u64 0),(.i .u32 0),(.i .u64 0),(.i .i64 0),(.i .u64 0),.sn])),
  rS 6 5 37,
  rM 6 38])
  (.live [3,2,4,6,5] (.seq (.draw c5d0 [])
  (.ret))))))))))))))))),
 []⟩
def c6:IFunc:=⟨1,[.tmp 2],
 .seq (.region [(rO 2 (.mv (.c .pn)))])
  (.live [0] (.seq (.region [rM 3 0,
  (rO 4 (.mm false [(.t 3),(cI 512)])),
  (rO 5 (.mm true [(cI 0),(.t 4)])),
  (rO 6 (.mks z64 64 (.t 5) (.t 5))),
  (rO 7 (.build [.sn,.sn,(.i .i64 0),(.b false)] [(0,1,(.t 6)),(2,1,(.c (.i .i64 (-1))))])),
  (rO 8 (.box (.t 7))),
  rM 2 8])
  (.ret))),
 []⟩
def c7l0:ICode :=
 .seq (.seq (.region [rM 6 4,
  rM 7 0,
  (rO 8 (.bin .int false .lss (.t 6) (.t 7))),
  rM 9 8,
  ⟨(some 10),some (9,true),(.op (.mv (.t 4)))⟩,
  ⟨(some 11),some (9,true),(.op (.bin .int true .lss (.t 10) (cI 512)))⟩,
  (rO 12 (.pick (.t 9) (.t 11) (cB false)))])
  (.live [3,2,0,4,12] (.cond (.t 12) (.skip)
  (.exit 0))))
  (.live [3,2,0,4] (.seq (.block 1 (.region [rF 15 0 3,
  rL 16 15,
  (rO 17 (.build z64 [])),
  (rO 18 (.bslice z64 1 [(0,64,(.t 17))])),
  (rO 19 (.app 64 64 (.t 16) (.t 18))),
  rF 20 0 3,
  rS 1 20 19]))
  (.live [3,2,0,4] (.region [rM 13 4,
  (rO 14 (.bin .int true .add (.t 13) (cI 1))),
  rM 4 14]))))
def c7:IFunc:=⟨1,[.cell 2 (some 5)],
 .seq (.region [(rO 2 (.fresh [.sn,.sn,(.b false),(.i .i64 0),(.b false)]))])
  (.live [2,0] (.seq (.region [(rO 5 (.build [.sn,.sn,(.b false),(.i .i64 0),(.b false)] [])),
  (rO 3 (.fresh [.sn,.sn,(.b false),(.i .i64 0),(.b false)])),
  rS 5 3 5])
  (.live [3,2,0] (.seq (.seq (.region [(rO 4 (.mv (cI 0)))])
  (.live [3,2,0,4] (.block 0 (.loop [3,2,0,4] c7l0))))
  (.live [2,3] (.seq (.region [rK 21 5 3,
  rS 5 2 21])
  (.ret))))))),
 []⟩
def c8:IFunc:=⟨1,[.tmp 2],
 .seq (.region [(rO 1 (.box (.t 0))),
  (rO 2 (.mv (cB false)))])
  (.live [1] (.seq (.region [rF 3 4 1,
  rF 4 1 3,
  rL 5 4,
  (rO 6 (.len .slice (.t 5))),
  (rO 7 (.bin .int true .gtr (.t 6) (cI 30))),
  rM 2 7])
  (.ret))),
 []⟩
def c9l0:ICode :=
 .seq (.region [(rO 34 (.bin .int false .lss (.t 33) (.t 32)))])
  (.live [8,0,31,32,33,34] (.seq (.cond (.t 34) (.skip)
  (.exit 0))
  (.live [8,0,31,32,33] (.seq (.block 1 (.seq (.region [rM 35 33,
  (rO 36 (.iaddr none 64 (.t 31) (.t 33))),
  rK 37 64 36,
  (rO 10 (.fresh z64)),
  rM 9 35,
  rS 64 10 37])
  (.live [8,0,31,32,33,10,9] (.seq (.region [rM 38 0,
  rM 39 8,
  rM 40 9,
  (rO 41 (.bin .int false .add (.t 39) (.t 40))),
  rK 42 64 10,
  rC 43 11 [(.t 38),(.t 41),(.t 42)],
  rM 11 43])
  (.live [11,8,0,31,32,33] (.seq (.region [rM 44 11,
  (rO 45 (.bin .int true .neq (.t 44) (cI 0)))])
  (.live [11,8,0,31,32,33,45] (.cond (.t 45) (.seq (.region [rM 46 11,
  rM 4 46])
  (.ret))
  (.skip)))))))))
  (.live [8,0,31,32,33] (.region [(rO 47 (.bin .int true .add (.t 33) (cI 1))),
  rM 33 47]))))))
def c9:IFunc:=⟨2,[.tmp 4],
 .seq (.region [(rO 3 (.box (.t 1))),
  (rO 4 (.mv (cI 0)))])
  (.live [0,3] (.seq (.region [rM 13 0,
  rK 14 6 3,
  rC 15 27 [(.t 13),(.t 14)],
  rM 12 15,
  rX 16 12 0,
  rX 17 12 1,
  (rO 5 (.fresh [(.i .u64 0),(.i .u32 0),.sn])),
  rS 3 5 16,
  rM 6 17])
  (.live [6,0,3,5] (.seq (.seq (.region [rM 18 6,
  (rO 19 (.bin .int true .neq (.t 18) (cI 0)))])
  (.live [6,0,3,5,19] (.cond (.t 19) (.seq (.region [rM 20 6,
  rM 4 20])
  (.ret))
  (.skip))))
  (.live [0,3,5] (.seq (.region [rK 22 3 5,
  rC 23 28 [(.t 22)],
  rM 21 23,
  rX 24 21 0,
  rX 25 21 1,
  rM 7 24,
  rM 6 25])
  (.live [0,7,3,6] (.seq (.seq (.region [rM 26 6,
  (rO 27 (.bin .int true .neq (.t 26) (cI 0)))])
  (.live [0,7,3,27] (.cond (.t 27) (.seq (.region [(rO 4 (.mv (cI 141)))])
  (.ret))
  (.skip))))
  (.live [0,7,3] (.seq (.region [rF 28 0 3,
  rL 29 28,
  rC 30 29 [(.t 29)],
  rM 8 30])
  (.live [8,0,7] (.seq (.seq (.region [rM 31 7,
  (rO 32 (.len .slice (.t 31))),
  (rO 33 (.mv (cI 0)))])
  (.live [8,0,31,32,33] (.block 0 (.loop [8,0,31,32,33] c9l0))))
  (.live [0] (.seq (.region [rM 48 0,
  rC 49 30 [(.t 48)],
  rM 4 49])
  (.ret))))))))))))))),
 []⟩
def c10d0:List Stage :=
 [⟨[(⟨(some 39),none,(.op (.load (some 5) (.t 2)))⟩,1),(⟨(some 40),none,(.op (.faddr 0 (.t 3)))⟩,0),(⟨(some 41),none,(.op (.load none (.t 40)))⟩,0),(⟨(some 43),none,(.op (.mv (.t 10)))⟩,1),(⟨(some 45),none,(.op (.load (some 64) (.t 11)))⟩,1)],none,some ⟨(some 42),none,(.call 32 [(.t 41)])⟩⟩,
  ⟨[(⟨(some 44),none,(.op (.bin .int false .add (.t 42) (.t 43)))⟩,1)],none,some ⟨(some 46),none,(.call 12 [(.t 39),(.t 44),(.t 45)])⟩⟩,
  ⟨[(⟨(some 38),none,(.op (.mv (.t 46)))⟩,2),(⟨(some 47),none,(.op (.ext (.t 38) 0))⟩,2),(⟨(some 48),none,(.op (.ext (.t 38) 1))⟩,3)],some ⟨(some 12),none,(.op (.fresh [.sn,.sn,(.b false),(.i .i64 0),(.b false)]))⟩,some ⟨none,none,(.op (.store 5 (.t 12) (.t 47)))⟩⟩,
  ⟨[(⟨(some 13),none,(.op (.mv (.t 48)))⟩,3)],none,none⟩]
def c10d0w:List (ROp × Bool) :=
 [(rK 39 5 2,false),(rF 40 0 3,false),(rL 41 40,false),(rM 43 10,false),(rK 45 64 11,false),(rC 42 32 [(.t 41)],true),((rO 44 (.bin .int false .add (.t 42) (.t 43))),false),(rC 46 12 [(.t 39),(.t 44),(.t 45)],false),(rM 38 46,false),(rX 47 38 0,false),(rX 48 38 1,false),((rO 12 (.fresh [.sn,.sn,(.b false),(.i .i64 0),(.b false)])),true),(rS 5 12 47,false),(rM 13 48,false)]
theorem c10d0_w {P:Program} {O:Orc} {S0:Mem} {rd:Bool} {e:Env} {S:Mem} {d:List Nat} {Q:Kont}:W P O S0 rd (.draw c10d0 []) e S d Q=wFl O c10d0w e S (normK Q d):=W_draw' (by kernel_rfl) (by kernel_rfl)
attribute [go_sem] c10d0_w c10d0w
def c10l1:ICode :=
 .seq (.region [(rO 34 (.bin .int false .lss (.t 33) (.t 32)))])
  (.live [4,2,3,31,32,33,34] (.seq (.cond (.t 34) (.skip)
  (.exit 0))
  (.live [4,2,3,31,32,33] (.seq (.block 1 (.seq (.region [rM 35 33,
  (rO 36 (.iaddr none 64 (.t 31) (.t 33))),
  rK 37 64 36,
  (rO 11 (.fresh z64)),
  rM 10 35,
  rS 64 11 37])
  (.live [4,2,3,31,32,33,10,11] (.seq (.draw c10d0 [])
  (.live [4,13,2,3,31,32,33,12] (.seq (.region [rK 49 5 12,
  rS 5 2 49])
  (.live [4,13,2,3,31,32,33] (.seq (.region [rM 50 13,
  (rO 51 (.bin .int true .neq (.t 50) (cI 0)))])
  (.live [4,13,2,3,31,32,33,51] (.cond (.t 51) (.seq (.region [rK 52 5 2,
  rM 53 13,
  rS 5 4 52,
  rM 5 53])
  (.ret))
  (.skip)))))))))))
  (.live [4,2,3,31,32,33] (.region [(rO 54 (.bin .int true .add (.t 33) (cI 1))),
  rM 33 54]))))))
def c10:IFunc:=⟨2,[.cell 4 (some 5),.tmp 5],
 .seq (.region [(rO 2 (.box (.t 0))),
  (rO 3 (.box (.t 1))),
  (rO 4 (.fresh [.sn,.sn,(.b false),(.i .i64 0),(.b false)])),
  (rO 5 (.mv (cI 0)))])
  (.live [4,2,3] (.seq (.region [rF 15 0 2,
  rL 16 15,
  (rO 17 (.len .slice (.t 16))),
  rK 18 6 3,
  rC 19 22 [(.t 17),(.t 18)],
  rM 14 19,
  rX 20 14 0,
  rX 21 14 1,
  (rO 6 (.fresh [(.i .u64 0),(.i .u32 0),.sn])),
  rS 3 6 20,
  rM 7 21])
  (.live [4,7,2,3,6] (.seq (.seq (.region [rM 22 7,
  (rO 23 (.bin .int true .neq (.t 22) (cI 0)))])
  (.live [4,7,2,3,6,23] (.cond (.t 23) (.seq (.region [rK 24 5 2,
  rM 25 7,
  rS 5 4 24,
  rM 5 25])
  (.ret))
  (.skip))))
  (.live [4,2,3,6] (.seq (.region [rK 27 3 6,
  rC 28 31 [(.t 27)],
  rM 26 28,
  rX 29 26 0,
  rX 30 26 1,
  rM 8 29,
  rM 9 30])
  (.live [4,2,3,8] (.seq (.seq (.region [rM 31 8,
  (rO 32 (.len .slice (.t 31))),
  (rO 33 (.mv (cI 0)))])
  (.live [4,2,3,31,32,33] (.block 0 (.loop [4,2,3,31,32,33] c10l1))))
  (.live [4,2] (.seq (.region [rK 55 5 2,
  rC 56 33 [(.t 55)],
  rX 57 56 0,
  rX 58 56 1,
  rS 5 4 57,
  rM 5 58])
  (.ret))))))))))),
 []⟩
def c11d0:List Stage :=
 [⟨[(⟨(some 16),none,(.op (.mv (.t 0)))⟩,2),(⟨(some 17),none,(.op (.mv (.t 0)))⟩,1),(⟨(some 18),none,(.op (.nilck (.t 17)))⟩,1),(⟨(some 19),none,(.op (.faddr 1 (.t 18)))⟩,1),(⟨(some 20),none,(.op (.load none (.t 19)))⟩,1),(⟨(some 21),none,(.op (.mv (.t 1)))⟩,0),(⟨(some 22),none,(.op (.load (some 64) (.t 5)))⟩,0),(⟨(some 23),none,(.op (.build [(.i .i64 0),(.i .u8 0),(.i .u8 0),(.i .u8 0),(.i .u8 0),(.i .u8 0),(.i .u8 0),(.i .u8 0),(.i .u8 0),(.i .u8 0),(.i .u8 0),(.i .u8 0),(.i .u8 0),(.i .u8 0),(.i .u8 0),(.i .u8 0),(.i .u8 0),(.i .u8 0),(.i .u8 0),(.i .u8 0),(.i .u8 0),(.i .u8 0),(.i .u8 0),(.i .u8 0),(.i .u8 0),(.i .u8 0),(.i .u8 0),(.i .u8 0),(.i .u8 0),(.i .u8 0),(.i .u8 0),(.i .u8 0),(.i .u8 0),(.i .u8 0),(.i .u8 0),(.i .u8 0),(.i .u8 0),(.i .u8 0),(.i .u8 0),(.i .u8 0),(.i .u8 0),(.i .u8 0),(.i .u8 0),(.i .u8 0),(.i .u8 0),(.i .u8 0),(.i .u8 0),(.i .u8 0),(.i .u8 0),(.i .u8 0),(.i .u8 0),(.i .u8 0),(.i .u8 0),(.i .u8 0),(.i .u8 0),(.i .u8 0),(.i .u8 0),(.i .u8 0),(.i .u8 0),(.i .u8 0),(.i .u8 0),(.i .u8 0),(.i .u8 0),(.i .u8 0),(.i .u8 0)] [(0,1,(.t 21)),(1,64,(.t 22))]))⟩,0)],none,some ⟨(some 24),none,(.op (.bslice [(.i .i64 0),(.i .u8 0),(.i .u8 0),(.i .u8 0),(.i .u8 0),(.i .u8 0),(.i .u8 0),(.i .u8 0),(.i .u8 0),(.i .u8 0),(.i .u8 0),(.i .u8 0),(.i .u8 0),(.i .u8 0),(.i .u8 0),(.i .u8 0),(.i .u8 0),(.i .u8 0),(.i .u8 0),(.i .u8 0),(.i .u8 0),(.i .u8 0),(.i .u8 0),(.i .u8 0),(.i .u8 0),(.i .u8 0),(.i .u8 0),(.i .u8 0),(.i .u8 0),(.i .u8 0),(.i .u8 0),(.i .u8 0),(.i .u8 0),(.i .u8 0),(.i .u8 0),(.i .u8 0),(.i .u8 0),(.i .u8 0),(.i .u8 0),(.i .u8 0),(.i .u8 0),(.i .u8 0),(.i .u8 0),(.i .u8 0),(.i .u8 0),(.i .u8 0),(.i .u8 0),(.i .u8 0),(.i .u8 0),(.i .u8 0),(.i .u8 0),(.i .u8 0),(.i .u8 0),(.i .u8 0),(.i .u8 0),(.i .u8 0),(.i .u8 0),(.i .u8 0),(.i .u8 0),(.i .u8 0),(.i .u8 0),(.i .u8 0),(.i .u8 0),(.i .u8 0),(.i .u8 0)] 1 [(0,65,(.t 23))]))⟩⟩,
  ⟨[],none,some ⟨(some 25),none,(.op (.app 65 72 (.t 20) (.t 24)))⟩⟩,
  ⟨[(⟨(some 26),none,(.op (.nilck (.t 16)))⟩,2),(⟨(some 27),none,(.op (.faddr 1 (.t 26)))⟩,2)],none,some ⟨none,none,(.op (.store 1 (.t 27) (.t 25)))⟩⟩,
  ⟨[],none,none⟩]
def c11d0w:List (ROp × Bool) :=
 [(rM 16 0,false),(rM 17 0,false),((rO 18 (.nilck (.t 17))),false),(rF 19 1 18,false),(rL 20 19,false),(rM 21 1,false),(rK 22 64 5,false),((rO 23 (.build [(.i .i64 0),(.i .u8 0),(.i .u8 0),(.i .u8 0),(.i .u8 0),(.i .u8 0),(.i .u8 0),(.i .u8 0),(.i .u8 0),(.i .u8 0),(.i .u8 0),(.i .u8 0),(.i .u8 0),(.i .u8 0),(.i .u8 0),(.i .u8 0),(.i .u8 0),(.i .u8 0),(.i .u8 0),(.i .u8 0),(.i .u8 0),(.i .u8 0),(.i .u8 0),(.i .u8 0),(.i .u8 0),(.i .u8 0),(.i .u8 0),(.i .u8 0),(.i .u8 0),(.i .u8 0),(.i .u8 0),(.i .u8 0),(.i .u8 0),(.i .u8 0),(.i .u8 0),(.i .u8 0),(.i .u8 0),(.i .u8 0),(.i .u8 0),(.i .u8 0),(.i .u8 0),(.i .u8 0),(.i .u8 0),(.i .u8 0),(.i .u8 0),(.i .u8 0),(.i .u8 0),(.i .u8 0),(.i .u8 0),(.i .u8 0),(.i .u8 0),(.i .u8 0),(.i .u8 0),(.i .u8 0),(.i .u8 0),(.i .u8 0),(.i .u8 0),(.i .u8 0),(.i .u8 0),(.i .u8 0),(.i .u8 0),(.i .u8 0),(.i .u8 0),(.i .u8 0),(.i .u8 0)] [(0,1,(.t 21)),(1,64,(.t 22))])),false),((rO 24 (.bslice [(.i .i64 0),(.i .u8 0),(.i .u8 0),(.i .u8 0),(.i .u8 0),(.i .u8 0),(.i .u8 0),(.i .u8 0),(.i .u8 0),(.i .u8 0),(.i .u8 0),(.i .u8 0),(.i .u8 0),(.i .u8 0),(.i .u8 0),(.i .u8 0),(.i .u8 0),(.i .u8 0),(.i .u8 0),(.i .u8 0),(.i .u8 0),(.i .u8 0),(.i .u8 0),(.i .u8 0),(.i .u8 0),(.i .u8 0),(.i .u8 0),(.i .u8 0),(.i .u8 0),(.i .u8 0),(.i .u8 0),(.i .u8 0),(.i .u8 0),(.i .u8 0),(.i .u8 0),(.i .u8 0),(.i .u8 0),(.i .u8 0),(.i .u8 0),(.i .u8 0),(.i .u8 0),(.i .u8 0),(.i .u8 0),(.i .u8 0),(.i .u8 0),(.i .u8 0),(.i .u8 0),(.i .u8 0),(.i .u8 0),(.i .u8 0),(.i .u8 0),(.i .u8 0),(.i .u8 0),(.i .u8 0),(.i .u8 0),(.i .u8 0),(.i .u8 0),(.i .u8 0),(.i .u8 0),(.i .u8 0),(.i .u8 0),(.i .u8 0),(.i .u8 0),(.i .u8 0),(.i .u8 0)] 1 [(0,65,(.t 23))])),true),((rO 25 (.app 65 72 (.t 20) (.t 24))),false),((rO 26 (.nilck (.t 16))),false),(rF 27 1 26,false),(rS 1 27 25,false)]
theorem c11d0_w {P:Program} {O:Orc} {S0:Mem} {rd:Bool} {e:Env} {S:Mem} {d:List Nat} {Q:Kont}:W P O S0 rd (.draw c11d0 []) e S d Q=wFl O c11d0w e S (normK Q d):=W_draw' (by kernel_rfl) (by kernel_rfl)
attribute [go_sem] c11d0_w c11d0w
def c11:IFunc:=⟨3,[.tmp 6],
 .seq (.region [(rO 5 (.box (.t 2))),
  (rO 6 (.mv (cI 0)))])
  (.live [0,1,5] (.seq (.seq (.region [rM 8 0,
  rM 9 1,
  rC 10 34 [(.t 8),(.t 9)],
  (rO 11 (.un .not (.t 10)))])
  (.live [0,1,5,11] (.cond (.t 11) (.seq (.region [(rO 6 (.mv (cI 71)))])
  (.ret))
  (.skip))))
  (.live [0,1,5] (.seq (.region [rM 12 0,
  rC 13 35 [(.t 12)],
  rM 7 13])
  (.live [7,0,1,5] (.seq (.seq (.region [rM 14 7,
  (rO 15 (.bin .int true .eql (.t 14) (cI 0)))])
  (.live [7,0,1,5,15] (.cond (.t 15) (.draw c11d0 [])
  (.skip))))
  (.live [7] (.seq (.region [rM 28 7,
  rM 6 28])
  (.ret))))))))),
 []⟩
def c12:IFunc:=⟨3,[.cell 6 (some 5),.tmp 7],
 .seq (.region [(rO 3 (.box (.t 0))),
  (rO 5 (.box (.t 2))),
  (rO 6 (.fresh [.sn,.sn,(.b false),(.i .i64 0),(.b false)])),
  (rO 7 (.mv (cI 0)))])
  (.live [6,3,5,1] (.seq (.seq (.region [rM 10 1,
  (rO 11 (.bin .int true .lss (.t 10) (cI 0))),
  rM 12 11,
  ⟨(some 13),some (12,false),(.op (.mv (.t 1)))⟩,
  ⟨(some 14),some (12,false),(.op (.faddr 0 (.t 3)))⟩,
  ⟨(some 15),some (12,false),(.op (.load none (.t 14)))⟩,
  ⟨(some 16),some (12,false),(.op (.len .slice (.t 15)))⟩,
  ⟨(some 17),some (12,false),(.op (.bin .int false .geq (.t 13) (.t 16)))⟩,
  (rO 18 (.pick (.t 12) (cB true) (.t 17)))])
  (.live [6,3,5,1,18] (.cond (.t 18) (.seq (.region [rK 19 5 3,
  rS 5 6 19,
  (rO 7 (.mv (cI 71)))])
  (.ret))
  (.skip))))
  (.live [6,3,5,1] (.seq (.region [rK 21 5 3,
  rC 22 36 [(.t 21)],
  rM 20 22,
  rX 23 20 0,
  rX 24 20 1,
  rS 5 3 23,
  rM 8 24])
  (.live [6,8,3,5,1] (.seq (.seq (.region [rM 25 8,
  (rO 26 (.bin .int true .eql (.t 25) (cI 0)))])
  (.live [6,8,3,5,1,26] (.cond (.t 26) (.seq (.region [(rO 27 (.bslice [(.i .i64 0),(.i .u8 0),(.i .u8 0),(.i .u8 0),(.i .u8 0),(.i .u8 0),(.i .u8 0),(.i .u8 0),(.i .u8 0),(.i .u8 0),(.i .u8 0),(.i .u8 0),(.i .u8 0),(.i .u8 0),(.i .u8 0),(.i .u8 0),(.i .u8 0),(.i .u8 0),(.i .u8 0),(.i .u8 0),(.i .u8 0),(.i .u8 0),(.i .u8 0),(.i .u8 0),(.i .u8 0),(.i .u8 0),(.i .u8 0),(.i .u8 0),(.i .u8 0),(.i .u8 0),(.i .u8 0),(.i .u8 0),(.i .u8 0),(.i .u8 0),(.i .u8 0),(.i .u8 0),(.i .u8 0),(.i .u8 0),(.i .u8 0),(.i .u8 0),(.i .u8 0),(.i .u8 0),(.i .u8 0),(.i .u8 0),(.i .u8 0),(.i .u8 0),(.i .u8 0),(.i .u8 0),(.i .u8 0),(.i .u8 0),(.i .u8 0),(.i .u8 0),(.i .u8 0),(.i .u8 0),(.i .u8 0),(.i .u8 0),(.i .u8 0),(.i .u8 0),(.i .u8 0),(.i .u8 0),(.i .u8 0),(.i .u8 0),(.i .u8 0),(.i .u8 0),(.i .u8 0)] 0 [])),
  rF 28 1 3,
  rL 29 28,
  (rO 30 (.app 65 72 (.t 27) (.t 29))),
  rM 9 30])
  (.live [6,8,3,5,1,9] (.region [rM 31 9,
  rM 32 1,
  rK 33 64 5,
  (rO 34 (.build [(.i .i64 0),(.i .u8 0),(.i .u8 0),(.i .u8 0),(.i .u8 0),(.i .u8 0),(.i .u8 0),(.i .u8 0),(.i .u8 0),(.i .u8 0),(.i .u8 0),(.i .u8 0),(.i .u8 0),(.i .u8 0),(.i .u8 0),(.i .u8 0),(.i .u8 0),(.i .u8 0),(.i .u8 0),(.i .u8 0),(.i .u8 0),(.i .u8 0),(.i .u8 0),(.i .u8 0),(.i .u8 0),(.i .u8 0),(.i .u8 0),(.i .u8 0),(.i .u8 0),(.i .u8 0),(.i .u8 0),(.i .u8 0),(.i .u8 0),(.i .u8 0),(.i .u8 0),(.i .u8 0),(.i .u8 0),(.i .u8 0),(.i .u8 0),(.i .u8 0),(.i .u8 0),(.i .u8 0),(.i .u8 0),(.i .u8 0),(.i .u8 0),(.i .u8 0),(.i .u8 0),(.i .u8 0),(.i .u8 0),(.i .u8 0),(.i .u8 0),(.i .u8 0),(.i .u8 0),(.i .u8 0),(.i .u8 0),(.i .u8 0),(.i .u8 0),(.i .u8 0),(.i .u8 0),(.i .u8 0),(.i .u8 0),(.i .u8 0),(.i .u8 0),(.i .u8 0),(.i .u8 0)] [(0,1,(.t 32)),(1,64,(.t 33))])),
  (rO 35 (.bslice [(.i .i64 0),(.i .u8 0),(.i .u8 0),(.i .u8 0),(.i .u8 0),(.i .u8 0),(.i .u8 0),(.i .u8 0),(.i .u8 0),(.i .u8 0),(.i .u8 0),(.i .u8 0),(.i .u8 0),(.i .u8 0),(.i .u8 0),(.i .u8 0),(.i .u8 0),(.i .u8 0),(.i .u8 0),(.i .u8 0),(.i .u8 0),(.i .u8 0),(.i .u8 0),(.i .u8 0),(.i .u8 0),(.i .u8 0),(.i .u8 0),(.i .u8 0),(.i .u8 0),(.i .u8 0),(.i .u8 0),(.i .u8 0),(.i .u8 0),(.i .u8 0),(.i .u8 0),(.i .u8 0),(.i .u8 0),(.i .u8 0),(.i .u8 0),(.i .u8 0),(.i .u8 0),(.i .u8 0),(.i .u8 0),(.i .u8 0),(.i .u8 0),(.i .u8 0),(.i .u8 0),(.i .u8 0),(.i .u8 0),(.i .u8 0),(.i .u8 0),(.i .u8 0),(.i .u8 0),(.i .u8 0),(.i .u8 0),(.i .u8 0),(.i .u8 0),(.i .u8 0),(.i .u8 0),(.i .u8 0),(.i .u8 0),(.i .u8 0),(.i .u8 0),(.i .u8 0),(.i .u8 0)] 1 [(0,65,(.t 34))])),
  (rO 36 (.app 65 72 (.t 31) (.t 35))),
  rF 37 1 3,
  rS 1 37 36])))
  (.skip))))
  (.live [6,8,3] (.seq (.region [rK 38 5 3,
  rM 39 8,
  rS 5 6 38,
  rM 7 39])
  (.ret))))))))),
 []⟩
def c13:IFunc:=⟨2,[],
 .region [rM 4 0,
  rM 5 1,
  (rO 6 (.mm true [(.t 5),(.c (.i .i64 (-1)))])),
  (rO 7 (.nilck (.t 4))),
  rF 8 2 7,
  rS 1 8 6],
 []⟩
def c14:IFunc:=⟨2,[.cell 4 (some 5)],
 .seq (.region [(rO 2 (.box (.t 0))),
  (rO 4 (.fresh [.sn,.sn,(.b false),(.i .i64 0),(.b false)]))])
  (.live [4,2,1] (.seq (.region [rM 5 1,
  (rO 6 (.bin .int true .geq (.t 5) (cI 0))),
  rF 7 2 2,
  rS 1 7 6])
  (.live [4,2,1] (.seq (.region [rM 8 1,
  rF 9 3 2,
  rS 1 9 8])
  (.live [4,2] (.seq (.region [rK 10 5 2,
  rS 5 4 10])
  (.ret))))))),
 []⟩
def c15:IFunc:=⟨2,[],
 .seq (.region [(rO 3 (.box (.t 1)))])
  (.live [0,3] (.seq (.region [rM 4 0,
  (rO 5 (.mkf (.func 38) [] [(.t 3)])),
  rC 6 37 [(.t 4),(.t 5)]])
  (.live [0] (.region [rM 7 0,
  rM 8 0,
  (rO 9 (.nilck (.t 7))),
  rF 10 2 9,
  ⟨none,none,(.op (.store 1 (.t 10) (.c (.i .i64 (-1)))))⟩,
  (rO 11 (.nilck (.t 8))),
  rF 12 3 11,
  ⟨none,none,(.op (.store 1 (.t 12) (cB false)))⟩])))),
 []⟩
def c16:IFunc:=⟨2,[.cell 4 (some 5)],
 .seq (.region [(rO 2 (.box (.t 0))),
  (rO 4 (.fresh [.sn,.sn,(.b false),(.i .i64 0),(.b false)]))])
  (.live [4,2,1] (.seq (.region [rK 5 5 2,
  rM 6 1,
  rC 7 39 [(.t 5),(.t 6)],
  rS 5 2 7])
  (.live [4,2] (.seq (.region [rF 8 0 2,
  rL 9 8,
  (rO 10 (.build [.sn,.sn,(.b false),(.i .i64 0),(.b false)] [(0,1,(.t 9))])),
  rS 5 4 10])
  (.ret))))),
 []⟩
def c17l0:ICode :=
 .seq (.region [(rO 10 (.bin .int true .lss (.t 9) (.c (.i .u64 2))))])
  (.live [4,0,2,9,5,10] (.seq (.cond (.t 10) (.skip)
  (.exit 0))
  (.live [4,0,2,9,5] (.seq (.block 1 (.seq (.region [rM 11 9,
  rM 6 11])
  (.live [4,0,2,9,5,6] (.seq (.region [rM 13 0,
  rM 14 6,
  rC 15 29 [(.t 14)],
  rC 16 40 [(.t 13),(.t 15)],
  rM 12 16,
  rX 17 12 0,
  rX 18 12 1,
  (rO 7 (.fresh [(.i .u64 0),(.i .u32 0),(.i .u64 0),(.i .i64 0),(.i .u64 0),.sn])),
  rS 6 7 17,
  rM 8 18])
  (.live [4,0,2,9,7,5,8] (.seq (.region [rM 19 8,
  rM 20 19,
  ⟨(some 21),some (20,true),(.op (.faddr 0 (.t 7)))⟩,
  ⟨(some 22),some (20,true),(.op (.load none (.t 21)))⟩,
  ⟨(some 23),some (20,true),(.op (.faddr 0 (.t 4)))⟩,
  ⟨(some 24),some (20,true),(.op (.load none (.t 23)))⟩,
  ⟨(some 25),some (20,true),(.op (.bin .int false .gtr (.t 22) (.t 24)))⟩,
  (rO 26 (.pick (.t 20) (.t 25) (cB false)))])
  (.live [4,0,2,9,7,5,26] (.cond (.t 26) (.region [rK 27 6 7,
  rS 6 4 27,
  (rO 5 (.mv (cB true)))])
  (.skip)))))))))
  (.live [4,0,2,5,9] (.region [(rO 28 (.bin .int true .add (.t 9) (.c (.i .u64 1)))),
  rM 9 28]))))))
def c17:IFunc:=⟨1,[.cell 2 (some 6),.tmp 3],
 .seq (.region [(rO 2 (.fresh [(.i .u64 0),(.i .u32 0),(.i .u64 0),(.i .i64 0),(.i .u64 0),.sn])),
  (rO 3 (.mv (cB false)))])
  (.live [0,2] (.seq (.region [(rO 4 (.fresh [(.i .u64 0),(.i .u32 0),(.i .u64 0),(.i .i64 0),(.i .u64 0),.sn]))])
  (.live [4,0,2] (.seq (.region [(rO 5 (.mv (cB false)))])
  (.live [4,0,2,5] (.seq (.seq (.region [(rO 9 (.mv (.c (.i .u64 0))))])
  (.live [4,0,2,9,5] (.block 0 (.loop [4,0,2,9,5] c17l0))))
  (.live [2,5,4] (.seq (.region [rK 29 6 4,
  rM 30 5,
  rS 6 2 29,
  rM 3 30])
  (.ret))))))))),
 []⟩
def c18:IFunc:=⟨1,[.cell 2 (some 6),.tmp 3],
 .seq (.region [(rO 1 (.box (.t 0))),
  (rO 2 (.fresh [(.i .u64 0),(.i .u32 0),(.i .u64 0),(.i .i64 0),(.i .u64 0),.sn])),
  (rO 3 (.mv (cB false)))])
  (.live [2,1] (.seq (.region [rK 9 5 1,
  rC 10 41 [(.t 9),(.c (.i .u64 0))],
  rM 8 10,
  rX 11 8 0,
  rX 12 8 1,
  (rO 4 (.fresh [(.i .u64 0),(.i .u32 0),(.i .u64 0),(.i .i64 0),(.i .u64 0),.sn])),
  rS 6 4 11,
  rM 5 12])
  (.live [2,4,5,1] (.seq (.region [rK 14 5 1,
  rC 15 41 [(.t 14),(.c (.i .u64 1))],
  rM 13 15,
  rX 16 13 0,
  rX 17 13 1,
  (rO 6 (.fresh [(.i .u64 0),(.i .u32 0),(.i .u64 0),(.i .i64 0),(.i .u64 0),.sn])),
  rS 6 6 16,
  rM 7 17])
  (.live [2,4,6,7,5] (.seq (.seq (.region [rM 18 5,
  rM 19 18,
  ⟨(some 20),some (19,true),(.op (.mv (.t 7)))⟩,
  ⟨(some 21),some (19,true),(.op (.un .not (.t 20)))⟩,
  ⟨(some 22),some (19,true),(.op (.mv (.t 21)))⟩,
  ⟨(some 23),some (22,false),(.op (.faddr 0 (.t 4)))⟩,
  ⟨(some 24),some (22,false),(.op (.load none (.t 23)))⟩,
  ⟨(some 25),some (22,false),(.op (.faddr 0 (.t 6)))⟩,
  ⟨(some 26),some (22,false),(.op (.load none (.t 25)))⟩,
  ⟨(some 27),some (22,false),(.op (.bin .int false .gtr (.t 24) (.t 26)))⟩,
  ⟨(some 28),some (19,true),(.op (.pick (.t 22) (cB true) (.t 27)))⟩,
  (rO 29 (.pick (.t 19) (.t 28) (cB false)))])
  (.live [2,4,6,7,29] (.cond (.t 29) (.seq (.region [rK 30 6 4,
  rS 6 2 30,
  (rO 3 (.mv (cB true)))])
  (.ret))
  (.skip))))
  (.live [2,6,7] (.seq (.seq (.region [rM 31 7])
  (.live [2,6,31] (.cond (.t 31) (.seq (.region [rK 32 6 6,
  rS 6 2 32,
  (rO 3 (.mv (cB true)))])
  (.ret))
  (.skip))))
  (.live [2] (.seq (.region [(rO 33 (.build [(.i .u64 0),(.i .u32 0),(.i .u64 0),(.i .i64 0),(.i .u64 0),.sn] [])),
  rS 6 2 33,
  (rO 3 (.mv (cB false)))])
  (.ret))))))))))),
 []⟩
def c19:IFunc:=⟨2,[.tmp 4],
 .seq (.region [(rO 2 (.box (.t 0))),
  (rO 3 (.box (.t 1))),
  (rO 4 (.mv (cB false)))])
  (.live [3,2] (.seq (.region [rF 5 0 2,
  rL 6 5,
  rF 7 0 3,
  rL 8 7,
  (rO 9 (.bin .int false .eql (.t 6) (.t 8))),
  rM 10 9,
  ⟨(some 11),some (10,true),(.op (.faddr 1 (.t 2)))⟩,
  ⟨(some 12),some (10,true),(.op (.load none (.t 11)))⟩,
  ⟨(some 13),some (10,true),(.op (.faddr 1 (.t 3)))⟩,
  ⟨(some 14),some (10,true),(.op (.load none (.t 13)))⟩,
  ⟨(some 15),some (10,true),(.op (.bin .int false .eql (.t 12) (.t 14)))⟩,
  (rO 16 (.pick (.t 10) (.t 15) (cB false))),
  rM 17 16,
  ⟨(some 18),some (17,true),(.op (.faddr 2 (.t 2)))⟩,
  ⟨(some 19),some (17,true),(.op (.load none (.t 18)))⟩,
  ⟨(some 20),some (17,true),(.op (.faddr 2 (.t 3)))⟩,
  ⟨(some 21),some (17,true),(.op (.load none (.t 20)))⟩,
  ⟨(some 22),some (17,true),(.op (.bin .int false .eql (.t 19) (.t 21)))⟩,
  (rO 23 (.pick (.t 17) (.t 22) (cB false))),
  rM 24 23,
  ⟨(some 25),some (24,true),(.op (.faddr 3 (.t 2)))⟩,
  ⟨(some 26),some (24,true),(.op (.load none (.t 25)))⟩,
  ⟨(some 27),some (24,true),(.op (.faddr 3 (.t 3)))⟩,
  ⟨(some 28),some (24,true),(.op (.load none (.t 27)))⟩,
  ⟨(some 29),some (24,true),(.op (.bin .int false .eql (.t 26) (.t 28)))⟩,
  (rO 30 (.pick (.t 24) (.t 29) (cB false))),
  rM 31 30,
  ⟨(some 32),some (31,true),(.op (.faddr 4 (.t 2)))⟩,
  ⟨(some 33),some (31,true),(.op (.load (some 2) (.t 32)))⟩,
  ⟨(some 34),some (31,true),(.op (.faddr 4 (.t 3)))⟩,
  ⟨(some 35),some (31,true),(.op (.load (some 2) (.t 34)))⟩,
  ⟨(some 36),some (31,true),(.call 42 [(.t 33),(.t 35)])⟩,
  (rO 37 (.pick (.t 31) (.t 36) (cB false))),
  rM 4 37])
  (.ret))),
 []⟩
def c20d0:List Stage :=
 [⟨[(⟨(some 8),none,(.op (.mv (.t 0)))⟩,0),(⟨(some 10),none,(.op (.faddr 3 (.t 3)))⟩,1),(⟨(some 11),none,(.op (.load none (.t 10)))⟩,1)],none,some ⟨(some 9),none,(.call 44 [(.t 8)])⟩⟩,
  ⟨[],none,some ⟨(some 12),none,(.call 43 [(.t 9),(.t 11)])⟩⟩,
  ⟨[(⟨(some 7),none,(.op (.mv (.t 12)))⟩,2),(⟨(some 13),none,(.op (.ext (.t 7) 0))⟩,2),(⟨(some 14),none,(.op (.ext (.t 7) 1))⟩,2),(⟨(some 5),none,(.op (.mv (.t 13)))⟩,2),(⟨(some 6),none,(.op (.mv (.t 14)))⟩,2)],none,none⟩]
def c20d0w:List (ROp × Bool) :=
 [(rM 8 0,false),(rF 10 3 3,false),(rL 11 10,false),(rC 9 44 [(.t 8)],true),(rC 12 43 [(.t 9),(.t 11)],false),(rM 7 12,false),(rX 13 7 0,false),(rX 14 7 1,false),(rM 5 13,false),(rM 6 14,false)]
theorem c20d0_w {P:Program} {O:Orc} {S0:Mem} {rd:Bool} {e:Env} {S:Mem} {d:List Nat} {Q:Kont}:W P O S0 rd (.draw c20d0 []) e S d Q=wFl O c20d0w e S (normK Q d):=W_draw' (by kernel_rfl) (by kernel_rfl)
attribute [go_sem] c20d0_w c20d0w
def c20:IFunc:=⟨2,[.tmp 4],
 .seq (.region [(rO 3 (.box (.t 1))),
  (rO 4 (.mv (cB false)))])
  (.live [3,0] (.seq (.draw c20d0 [])
  (.live [3,6] (.seq (.region [rM 15 6,
  (rO 16 (.bin .int true .eql (.t 15) (cI 0))),
  rM 17 16,
  ⟨(some 18),some (17,true),(.op (.faddr 0 (.t 3)))⟩,
  ⟨(some 19),some (17,true),(.op (.load none (.t 18)))⟩,
  ⟨(some 20),some (17,true),(.call 45 [(.t 19)])⟩,
  (rO 21 (.pick (.t 17) (.t 20) (cB false))),
  rM 22 21,
  ⟨(some 23),some (22,true),(.op (.faddr 2 (.t 3)))⟩,
  ⟨(some 24),some (22,true),(.op (.load none (.t 23)))⟩,
  ⟨(some 25),some (22,true),(.call 45 [(.t 24)])⟩,
  (rO 26 (.pick (.t 22) (.t 25) (cB false))),
  rM 27 26,
  ⟨(some 28),some (27,true),(.op (.faddr 1 (.t 3)))⟩,
  ⟨(some 29),some (27,true),(.op (.load none (.t 28)))⟩,
  ⟨(some 30),some (27,true),(.op (.bin .int true .leq (.t 29) (.c (.i .u32 2147483648))))⟩,
  (rO 31 (.pick (.t 27) (.t 30) (cB false))),
  rM 32 31,
  ⟨(some 33),some (32,true),(.op (.faddr 4 (.t 3)))⟩,
  ⟨(some 34),some (32,true),(.op (.load (some 2) (.t 33)))⟩,
  ⟨(some 35),some (32,true),(.call 46 [(.t 34)])⟩,
  (rO 36 (.pick (.t 32) (.t 35) (cB false))),
  rM 4 36])
  (.ret))))),
 []⟩
def c21:IFunc:=⟨2,[.tmp 4],
 .seq (.region [(rO 2 (.box (.t 0))),
  (rO 3 (.box (.t 1))),
  (rO 4 (.mv (cB false)))])
  (.live [3,2] (.seq (.region [rF 5 0 2,
  rL 6 5,
  rF 7 0 3,
  rL 8 7,
  (rO 9 (.bin .int false .eql (.t 6) (.t 8))),
  rM 10 9,
  ⟨(some 11),some (10,true),(.op (.faddr 1 (.t 2)))⟩,
  ⟨(some 12),some (10,true),(.op (.load none (.t 11)))⟩,
  ⟨(some 13),some (10,true),(.op (.faddr 1 (.t 3)))⟩,
  ⟨(some 14),some (10,true),(.op (.load none (.t 13)))⟩,
  ⟨(some 15),some (10,true),(.op (.bin .int false .eql (.t 12) (.t 14)))⟩,
  (rO 16 (.pick (.t 10) (.t 15) (cB false))),
  rM 17 16,
  ⟨(some 18),some (17,true),(.op (.faddr 2 (.t 2)))⟩,
  ⟨(some 19),some (17,true),(.op (.load none (.t 18)))⟩,
  ⟨(some 20),some (17,true),(.op (.faddr 2 (.t 3)))⟩,
  ⟨(some 21),some (17,true),(.op (.load none (.t 20)))⟩,
  ⟨(some 22),some (17,true),(.op (.bin .int false .eql (.t 19) (.t 21)))⟩,
  (rO 23 (.pick (.t 17) (.t 22) (cB false))),
  rM 24 23,
  ⟨(some 25),some (24,true),(.op (.faddr 3 (.t 2)))⟩,
  ⟨(some 26),some (24,true),(.op (.load none (.t 25)))⟩,
  ⟨(some 27),some (24,true),(.op (.faddr 3 (.t 3)))⟩,
  ⟨(some 28),some (24,true),(.op (.load none (.t 27)))⟩,
  ⟨(some 29),some (24,true),(.op (.bin .int false .eql (.t 26) (.t 28)))⟩,
  (rO 30 (.pick (.t 24) (.t 29) (cB false))),
  rM 31 30,
  ⟨(some 32),some (31,true),(.op (.faddr 4 (.t 2)))⟩,
  ⟨(some 33),some (31,true),(.op (.load (some 2) (.t 32)))⟩,
  ⟨(some 34),some (31,true),(.op (.faddr 4 (.t 3)))⟩,
  ⟨(some 35),some (31,true),(.op (.load (some 2) (.t 34)))⟩,
  ⟨(some 36),some (31,true),(.call 47 [(.t 33),(.t 35)])⟩,
  (rO 37 (.pick (.t 31) (.t 36) (cB false))),
  rM 4 37])
  (.ret))),
 []⟩
def c22d0:List Stage :=
 [⟨[(⟨(some 27),none,(.op (.faddr 0 (.t 3)))⟩,1),(⟨(some 28),none,(.op (.load none (.t 27)))⟩,1),(⟨(some 29),none,(.op (.faddr 1 (.t 3)))⟩,1),(⟨(some 30),none,(.op (.load none (.t 29)))⟩,1),(⟨(some 31),none,(.op (.mv (.t 8)))⟩,0),(⟨(some 32),none,(.op (.mv (.t 6)))⟩,0)],none,some ⟨(some 33),none,(.op (.app 1 1 (.t 31) (.t 32)))⟩⟩,
  ⟨[(⟨(some 34),none,(.op (.build [(.i .u64 0),(.i .u32 0),.sn] [(0,1,(.t 28)),(1,1,(.t 30)),(2,1,(.t 33))]))⟩,1)],none,some ⟨none,none,(.op (.store 3 (.t 4) (.t 34)))⟩⟩,
  ⟨[(⟨(some 5),none,(.op (.mv (.c (.i .i64 0))))⟩,2)],none,none⟩]
theorem c22d0_e {P:Program} {O:Orc} {S0:Mem} {rd:Bool} {e:Env} {S:Mem} {d:List Nat} {Q:Kont}:W P O S0 rd (.draw c22d0 []) e S d Q=drawK (evDraw O c22d0 [] e S) (normK Q d):=W_drawE (by kernel_rfl)
attribute [go_sem] c22d0_e
def c22:IFunc:=⟨2,[.cell 4 (some 3),.tmp 5],
 .seq (.region [(rO 3 (.box (.t 1))),
  (rO 4 (.fresh [(.i .u64 0),(.i .u32 0),.sn])),
  (rO 5 (.mv (cI 0)))])
  (.live [4,3,0] (.seq (.seq (.region [rM 9 0,
  rK 10 6 3,
  rC 11 48 [(.t 9),(.t 10)],
  (rO 12 (.un .not (.t 11)))])
  (.live [4,3,12] (.cond (.t 12) (.seq (.region [(rO 13 (.build [(.i .u64 0),(.i .u32 0),.sn] [])),
  rS 3 4 13,
  (rO 5 (.mv (cI 141)))])
  (.ret))
  (.skip))))
  (.live [4,3] (.seq (.region [rF 15 4 3,
  rK 16 2 15,
  rC 17 49 [(.t 16)],
  rM 14 17,
  rX 18 14 0,
  rX 19 14 1,
  rM 6 18,
  rM 7 19])
  (.live [4,3,6] (.seq (.region [rF 20 2 3,
  rL 21 20,
  rF 22 3 3,
  rL 23 22,
  (rO 24 (.toInt .u64 (.t 23))),
  (rO 25 (.bslice [(.i .u64 0)] 2 [(0,1,(.t 21)),(1,1,(.t 24))])),
  rC 26 50 [(.t 25)],
  rM 8 26])
  (.live [4,3,8,6] (.seq (.draw c22d0 [])
  (.ret))))))))),
 []⟩
def c23l0:ICode :=
 .seq (.region [(rO 22 (.bin .int false .lss (.t 21) (.t 20)))])
  (.live [6,1,7,19,4,20,21,22] (.seq (.cond (.t 22) (.skip)
  (.exit 0))
  (.live [6,1,7,19,4,20,21] (.seq (.block 1 (.seq (.region [(rO 23 (.iaddr none 65 (.t 19) (.t 21))),
  rK 24 65 23,
  (rO 9 (.fresh [(.i .i64 0),(.i .u8 0),(.i .u8 0),(.i .u8 0),(.i .u8 0),(.i .u8 0),(.i .u8 0),(.i .u8 0),(.i .u8 0),(.i .u8 0),(.i .u8 0),(.i .u8 0),(.i .u8 0),(.i .u8 0),(.i .u8 0),(.i .u8 0),(.i .u8 0),(.i .u8 0),(.i .u8 0),(.i .u8 0),(.i .u8 0),(.i .u8 0),(.i .u8 0),(.i .u8 0),(.i .u8 0),(.i .u8 0),(.i .u8 0),(.i .u8 0),(.i .u8 0),(.i .u8 0),(.i .u8 0),(.i .u8 0),(.i .u8 0),(.i .u8 0),(.i .u8 0),(.i .u8 0),(.i .u8 0),(.i .u8 0),(.i .u8 0),(.i .u8 0),(.i .u8 0),(.i .u8 0),(.i .u8 0),(.i .u8 0),(.i .u8 0),(.i .u8 0),(.i .u8 0),(.i .u8 0),(.i .u8 0),(.i .u8 0),(.i .u8 0),(.i .u8 0),(.i .u8 0),(.i .u8 0),(.i .u8 0),(.i .u8 0),(.i .u8 0),(.i .u8 0),(.i .u8 0),(.i .u8 0),(.i .u8 0),(.i .u8 0),(.i .u8 0),(.i .u8 0),(.i .u8 0)])),
  rS 65 9 24])
  (.live [6,1,7,19,4,20,21,9] (.seq (.region [rM 25 7,
  (rO 26 (.bin .int true .eql (.t 25) (cI 0))),
  rM 27 26,
  ⟨(some 28),some (27,true),(.op (.faddr 0 (.t 9)))⟩,
  ⟨(some 29),some (27,true),(.op (.load none (.t 28)))⟩,
  ⟨(some 30),some (27,true),(.op (.mv (.t 1)))⟩,
  ⟨(some 31),some (27,true),(.op (.bin .int false .eql (.t 29) (.t 30)))⟩,
  (rO 32 (.pick (.t 27) (.t 31) (cB false)))])
  (.live [6,1,7,19,4,20,21,9,32] (.cond (.t 32) (.region [rF 33 1 9,
  rK 34 64 33,
  rS 64 6 34])
  (.skip)))))))
  (.live [6,1,7,19,4,20,21] (.region [(rO 35 (.bin .int true .add (.t 21) (cI 1))),
  rM 21 35]))))))
def c23:IFunc:=⟨2,[.cell 4 (some 64),.tmp 5],
 .seq (.region [(rO 4 (.fresh z64)),
  (rO 5 (.mv (cI 0)))])
  (.live [1,4,0] (.seq (.region [rM 11 0,
  rM 12 1,
  rC 13 51 [(.t 11),(.t 12)],
  rM 10 13,
  rX 14 10 0,
  rX 15 10 1,
  (rO 6 (.fresh z64)),
  rS 64 6 14,
  rM 7 15])
  (.live [6,1,7,4,0] (.seq (.seq (.region [rM 16 0,
  (rO 17 (.nilck (.t 16))),
  rF 18 1 17,
  rL 19 18,
  (rO 20 (.len .slice (.t 19))),
  (rO 21 (.mv (cI 0)))])
  (.live [6,1,7,19,4,20,21] (.block 0 (.loop [6,1,7,19,4,20,21] c23l0))))
  (.live [4,7,6] (.seq (.region [rK 36 64 6,
  rM 37 7,
  rS 64 4 36,
  rM 5 37])
  (.ret))))))),
 []⟩
def c24l0:ICode :=
 .seq (.region [(rO 21 (.bin .int false .lss (.t 20) (.t 19)))])
  (.live [18,2,0,19,20,5,21] (.seq (.cond (.t 21) (.skip)
  (.exit 0))
  (.live [18,2,0,19,20,5] (.seq (.block 1 (.seq (.region [(rO 22 (.iaddr none 64 (.t 18) (.t 20))),
  rK 23 64 22,
  (rO 7 (.fresh z64)),
  rS 64 7 23])
  (.live [18,2,0,19,20,7,5] (.region [rM 24 5,
  (rO 25 (.sla 64 1 (.t 7) none none none)),
  (rO 26 (.app 1 1 (.t 24) (.t 25))),
  rM 5 26]))))
  (.live [18,2,0,19,5,20] (.region [(rO 27 (.bin .int true .add (.t 20) (cI 1))),
  rM 20 27]))))))
def c24d1:List Stage :=
 [⟨[(⟨(some 32),none,(.op (.mv (.t 5)))⟩,0),(⟨(some 33),none,(.op (.iaddr none 1 (.t 32) (.c (.i .i64 0))))⟩,0),(⟨(some 34),none,(.op (.load none (.t 33)))⟩,0),(⟨(some 35),none,(.op (.toInt .i64 (.t 34)))⟩,0),(⟨(some 36),none,(.op (.bin .int true .mul (.c (.i .i64 256)) (.t 35)))⟩,0),(⟨(some 37),none,(.op (.mv (.t 5)))⟩,0),(⟨(some 38),none,(.op (.iaddr none 1 (.t 37) (.c (.i .i64 1))))⟩,0),(⟨(some 39),none,(.op (.load none (.t 38)))⟩,0),(⟨(some 40),none,(.op (.toInt .i64 (.t 39)))⟩,0),(⟨(some 41),none,(.op (.bin .int false .add (.t 36) (.t 40)))⟩,0),(⟨(some 8),none,(.op (.mv (.t 41)))⟩,0)],none,none⟩]
def c24d1w:List (ROp × Bool) :=
 [(rM 32 5,false),((rO 33 (.iaddr none 1 (.t 32) (cI 0))),false),(rL 34 33,false),((rO 35 (.toInt .i64 (.t 34))),false),((rO 36 (.bin .int true .mul (cI 256) (.t 35))),false),(rM 37 5,false),((rO 38 (.iaddr none 1 (.t 37) (cI 1))),false),(rL 39 38,false),((rO 40 (.toInt .i64 (.t 39))),false),((rO 41 (.bin .int false .add (.t 36) (.t 40))),false),(rM 8 41,false)]
theorem c24d1_w {P:Program} {O:Orc} {S0:Mem} {rd:Bool} {e:Env} {S:Mem} {d:List Nat} {Q:Kont}:W P O S0 rd (.draw c24d1 []) e S d Q=wFl O c24d1w e S (normK Q d):=W_draw' (by kernel_rfl) (by kernel_rfl)
attribute [go_sem] c24d1_w c24d1w
def c24l2:ICode :=
 .seq (.region [(rO 64 (.bin .int false .lss (.t 63) (.t 62)))])
  (.live [10,61,2,9,0,5,62,63,64] (.seq (.cond (.t 64) (.skip)
  (.exit 2))
  (.live [10,61,2,9,0,5,62,63] (.seq (.block 3 (.seq (.region [(rO 65 (.iaddr none 1 (.t 61) (.t 63))),
  rL 66 65,
  rM 12 66])
  (.live [10,61,2,9,0,5,62,63,12] (.region [rF 67 0 10,
  rL 68 67,
  (rO 69 (.bin .int true .mul (.t 68) (.c (.i .u64 256)))),
  rM 70 12,
  (rO 71 (.toInt .u64 (.t 70))),
  (rO 72 (.bin .int false .add (.t 69) (.t 71))),
  rF 73 0 10,
  rS 1 73 72]))))
  (.live [10,61,2,9,0,5,62,63] (.region [(rO 74 (.bin .int true .add (.t 63) (cI 1))),
  rM 63 74]))))))
def c24l3:ICode :=
 .seq (.region [(rO 79 (.bin .int false .lss (.t 78) (.t 77)))])
  (.live [10,76,2,9,0,77,78,79] (.seq (.cond (.t 79) (.skip)
  (.exit 4))
  (.live [10,76,2,9,0,77,78] (.seq (.block 5 (.seq (.region [(rO 80 (.iaddr none 1 (.t 76) (.t 78))),
  rL 81 80,
  rM 14 81])
  (.live [10,76,2,9,0,77,78,14] (.region [rF 82 1 10,
  rL 83 82,
  (rO 84 (.bin .int true .mul (.t 83) (.c (.i .u32 256)))),
  rM 85 14,
  (rO 86 (.toInt .u32 (.t 85))),
  (rO 87 (.bin .int false .add (.t 84) (.t 86))),
  rF 88 1 10,
  rS 1 88 87]))))
  (.live [10,76,2,9,0,77,78] (.region [(rO 89 (.bin .int true .add (.t 78) (cI 1))),
  rM 78 89]))))))
def c24:IFunc:=⟨1,[.cell 2 (some 3),.tmp 3,.tmp 4],
 .seq (.region [(rO 2 (.fresh [(.i .u64 0),(.i .u32 0),.sn])),
  (rO 3 (.mv (cI 0))),
  (rO 4 (.mv (cB false)))])
  (.live [2,0] (.seq (.region [(rO 17 (.bslice [(.i .u8 0)] 0 [])),
  rM 5 17])
  (.live [2,0,5] (.seq (.seq (.region [rM 18 0,
  (rO 19 (.len .slice (.t 18))),
  (rO 20 (.mv (cI 0)))])
  (.live [18,2,0,19,20,5] (.block 0 (.loop [18,2,0,19,20,5] c24l0))))
  (.live [2,0,5] (.seq (.seq (.region [rM 28 5,
  (rO 29 (.len .slice (.t 28))),
  (rO 30 (.bin .int true .lss (.t 29) (cI 64)))])
  (.live [2,0,5,30] (.cond (.t 30) (.seq (.region [(rO 31 (.build [(.i .u64 0),(.i .u32 0),.sn] [])),
  rS 3 2 31,
  (rO 3 (.mv (cI 0))),
  (rO 4 (.mv (cB false)))])
  (.ret))
  (.skip))))
  (.live [2,0,5] (.seq (.draw c24d1 [])
  (.live [2,0,5,8] (.seq (.region [rM 42 8,
  rC 43 52 [(.t 42)],
  rM 9 43])
  (.live [2,9,0,5,8] (.seq (.seq (.region [rM 44 9,
  (rO 45 (.bin .int true .eql (.t 44) (cI 0))),
  rM 46 45,
  ⟨(some 47),some (46,false),(.op (.mv (.t 9)))⟩,
  ⟨(some 48),some (46,false),(.op (.mv (.t 0)))⟩,
  ⟨(some 49),some (46,false),(.op (.len .slice (.t 48)))⟩,
  ⟨(some 50),some (46,false),(.op (.bin .int false .gtr (.t 47) (.t 49)))⟩,
  (rO 51 (.pick (.t 46) (cB true) (.t 50)))])
  (.live [2,9,0,5,8,51] (.cond (.t 51) (.seq (.region [(rO 52 (.build [(.i .u64 0),(.i .u32 0),.sn] [])),
  rS 3 2 52,
  (rO 3 (.mv (cI 0))),
  (rO 4 (.mv (cB false)))])
  (.ret))
  (.skip))))
  (.live [2,9,0,5,8] (.seq (.region [(rO 53 (.bslice [(.i .u8 0)] 0 [])),
  rM 54 5,
  rM 55 8,
  (rO 56 (.bin .int true .add (cI 14) (.t 55))),
  (rO 57 (.slice 1 (.t 54) (some (cI 14)) (some (.t 56)) none)),
  (rO 58 (.app 1 1 (.t 53) (.t 57))),
  (rO 59 (.build [(.i .u64 0),(.i .u32 0),.sn] [(2,1,(.t 58))])),
  (rO 10 (.fresh [(.i .u64 0),(.i .u32 0),.sn])),
  rS 3 10 59])
  (.live [10,2,9,0,5] (.seq (.seq (.region [rM 60 5,
  (rO 61 (.slice 1 (.t 60) (some (cI 2)) (some (cI 10)) none)),
  (rO 62 (.len .slice (.t 61))),
  (rO 63 (.mv (cI 0)))])
  (.live [10,61,2,9,0,5,62,63] (.block 2 (.loop [10,61,2,9,0,5,62,63] c24l2))))
  (.live [10,2,9,0,5] (.seq (.seq (.region [rM 75 5,
  (rO 76 (.slice 1 (.t 75) (some (cI 10)) (some (cI 14)) none)),
  (rO 77 (.len .slice (.t 76))),
  (rO 78 (.mv (cI 0)))])
  (.live [10,76,2,9,0,77,78] (.block 4 (.loop [10,76,2,9,0,77,78] c24l3))))
  (.live [2,9,10,0] (.seq (.region [rK 91 3 10,
  rC 92 31 [(.t 91)],
  rM 90 92,
  rX 93 90 0,
  rX 94 90 1,
  rM 15 93,
  rM 16 94])
  (.live [2,9,10,0,15,16] (.seq (.seq (.region [rM 95 16,
  (rO 96 (.bin .int true .neq (.t 95) (cI 0))),
  rM 97 96,
  ⟨(some 98),some (97,false),(.op (.mv (.t 15)))⟩,
  ⟨(some 99),some (97,false),(.op (.mv (.t 0)))⟩,
  ⟨(some 100),some (97,false),(.op (.mv (.t 9)))⟩,
  ⟨(some 101),some (97,false),(.op (.slice 64 (.t 99) none (some (.t 100)) none))⟩,
  ⟨(some 102),some (97,false),(.call 53 [(.t 98),(.t 101)])⟩,
  ⟨(some 103),some (97,false),(.op (.un .not (.t 102)))⟩,
  (rO 104 (.pick (.t 97) (cB true) (.t 103)))])
  (.live [2,9,10,104] (.cond (.t 104) (.seq (.region [(rO 105 (.build [(.i .u64 0),(.i .u32 0),.sn] [])),
  rS 3 2 105,
  (rO 3 (.mv (cI 0))),
  (rO 4 (.mv (cB false)))])
  (.ret))
  (.skip))))
  (.live [2,9,10] (.seq (.region [rK 106 3 10,
  rM 107 9,
  rS 3 2 106,
  rM 3 107,
  (rO 4 (.mv (cB true)))])
  (.ret))))))))))))))))))))))))),
 []⟩
def c26:IFunc:=⟨1,[.cell 2 (some 6)],
 .seq (.region [(rO 2 (.fresh [(.i .u64 0),(.i .u32 0),(.i .u64 0),(.i .i64 0),(.i .u64 0),.sn]))])
  (.live [2,0] (.seq (.region [rM 3 0,
  (rO 4 (.build [(.i .u64 0),.sn] [(0,1,(.c (.i .u64 1)))])),
  (rO 5 (.build [(.i .u64 0),(.i .u32 0),(.i .u64 0),(.i .i64 0),(.i .u64 0),.sn] [(0,1,(.t 3)),(1,1,(.c (.i .u32 1))),(2,1,(.c (.i .u64 1))),(4,2,(.t 4))])),
  rS 6 2 5])
  (.ret))),
 []⟩
def c27d0:List Stage :=
 [⟨[(⟨(some 22),none,(.op (.faddr 0 (.t 3)))⟩,4),(⟨(some 23),none,(.op (.load none (.t 22)))⟩,4),(⟨(some 24),none,(.op (.faddr 1 (.t 3)))⟩,4),(⟨(some 25),none,(.op (.load none (.t 24)))⟩,4),(⟨(some 26),none,(.op (.faddr 2 (.t 3)))⟩,0),(⟨(some 27),none,(.op (.load none (.t 26)))⟩,0),(⟨(some 28),none,(.op (.faddr 3 (.t 3)))⟩,0),(⟨(some 29),none,(.op (.load none (.t 28)))⟩,0),(⟨(some 30),none,(.op (.toInt .u64 (.t 29)))⟩,0),(⟨(some 33),none,(.op (.mv (.t 6)))⟩,2)],none,some ⟨(some 31),none,(.op (.bslice [(.i .u64 0)] 2 [(0,1,(.t 27)),(1,1,(.t 30))]))⟩⟩,
  ⟨[],none,some ⟨(some 32),none,(.call 56 [(.t 31)])⟩⟩,
  ⟨[],none,some ⟨(some 34),none,(.op (.bslice [.sn] 2 [(0,1,(.t 32)),(1,1,(.t 33))]))⟩⟩,
  ⟨[],none,some ⟨(some 35),none,(.call 55 [(.t 34)])⟩⟩,
  ⟨[(⟨(some 36),none,(.op (.build [(.i .u64 0),(.i .u32 0),.sn] [(0,1,(.t 23)),(1,1,(.t 25)),(2,1,(.t 35))]))⟩,4)],none,some ⟨none,none,(.op (.store 3 (.t 4) (.t 36)))⟩⟩,
  ⟨[(⟨(some 5),none,(.op (.mv (.c (.i .i64 0))))⟩,5)],none,none⟩]
def c27d0w:List (ROp × Bool) :=
 [(rF 22 0 3,false),(rL 23 22,false),(rF 24 1 3,false),(rL 25 24,false),(rF 26 2 3,false),(rL 27 26,false),(rF 28 3 3,false),(rL 29 28,false),((rO 30 (.toInt .u64 (.t 29))),false),(rM 33 6,false),((rO 31 (.bslice [(.i .u64 0)] 2 [(0,1,(.t 27)),(1,1,(.t 30))])),true),(rC 32 56 [(.t 31)],true),((rO 34 (.bslice [.sn] 2 [(0,1,(.t 32)),(1,1,(.t 33))])),true),(rC 35 55 [(.t 34)],true),((rO 36 (.build [(.i .u64 0),(.i .u32 0),.sn] [(0,1,(.t 23)),(1,1,(.t 25)),(2,1,(.t 35))])),false),(rS 3 4 36,false),((rO 5 (.mv (cI 0))),false)]
theorem c27d0_w {P:Program} {O:Orc} {S0:Mem} {rd:Bool} {e:Env} {S:Mem} {d:List Nat} {Q:Kont}:W P O S0 rd (.draw c27d0 []) e S d Q=wFl O c27d0w e S (normK Q d):=W_draw' (by kernel_rfl) (by kernel_rfl)
attribute [go_sem] c27d0_w c27d0w
def c27:IFunc:=⟨2,[.cell 4 (some 3),.tmp 5],
 .seq (.region [(rO 3 (.box (.t 1))),
  (rO 4 (.fresh [(.i .u64 0),(.i .u32 0),.sn])),
  (rO 5 (.mv (cI 0)))])
  (.live [4,3,0] (.seq (.seq (.region [rM 8 0,
  rK 9 6 3,
  rC 10 20 [(.t 8),(.t 9)],
  (rO 11 (.un .not (.t 10)))])
  (.live [4,3,11] (.cond (.t 11) (.seq (.region [(rO 12 (.build [(.i .u64 0),(.i .u32 0),.sn] [])),
  rS 3 4 12,
  (rO 5 (.mv (cI 141)))])
  (.ret))
  (.skip))))
  (.live [4,3] (.seq (.region [rF 14 4 3,
  rK 15 2 14,
  rC 16 54 [(.t 15)],
  rM 13 16,
  rX 17 13 0,
  rX 18 13 1,
  rM 6 17,
  rM 7 18])
  (.live [4,3,6,7] (.seq (.seq (.region [rM 19 7,
  (rO 20 (.bin .int true .neq (.t 19) (cI 0)))])
  (.live [4,3,6,20] (.cond (.t 20) (.seq (.region [(rO 21 (.build [(.i .u64 0),(.i .u32 0),.sn] [])),
  rS 3 4 21,
  (rO 5 (.mv (cI 141)))])
  (.ret))
  (.skip))))
  (.live [4,3,6] (.seq (.draw c27d0 [])
  (.ret))))))))),
 []⟩
def c28d0:List Stage :=
 [⟨[(⟨(some 19),none,(.op (.faddr 2 (.t 1)))⟩,0),(⟨(some 20),none,(.op (.load none (.t 19)))⟩,0),(⟨(some 21),none,(.op (.len .slice (.t 20)))⟩,0),(⟨(some 22),none,(.op (.toInt .u64 (.t 21)))⟩,0),(⟨(some 24),none,(.op (.faddr 0 (.t 1)))⟩,1),(⟨(some 25),none,(.op (.load none (.t 24)))⟩,1),(⟨(some 27),none,(.op (.faddr 1 (.t 1)))⟩,2),(⟨(some 28),none,(.op (.load none (.t 27)))⟩,2),(⟨(some 29),none,(.op (.toInt .u64 (.t 28)))⟩,2),(⟨(some 31),none,(.op (.faddr 2 (.t 1)))⟩,3),(⟨(some 32),none,(.op (.load none (.t 31)))⟩,3)],none,some ⟨(some 23),none,(.call 59 [(.t 22),(.c (.i .i64 2))])⟩⟩,
  ⟨[],none,some ⟨(some 26),none,(.call 59 [(.t 25),(.c (.i .i64 8))])⟩⟩,
  ⟨[],none,some ⟨(some 30),none,(.call 59 [(.t 29),(.c (.i .i64 4))])⟩⟩,
  ⟨[],none,some ⟨(some 33),none,(.op (.bslice [.sn] 4 [(0,1,(.t 23)),(1,1,(.t 26)),(2,1,(.t 30)),(3,1,(.t 32))]))⟩⟩,
  ⟨[],none,some ⟨(some 34),none,(.call 55 [(.t 33)])⟩⟩,
  ⟨[],none,some ⟨(some 35),none,(.call 58 [(.t 34)])⟩⟩,
  ⟨[(⟨(some 5),none,(.op (.mv (.t 35)))⟩,6)],none,none⟩]
def c28d0w:List (ROp × Bool) :=
 [(rF 19 2 1,false),(rL 20 19,false),((rO 21 (.len .slice (.t 20))),false),((rO 22 (.toInt .u64 (.t 21))),false),(rF 24 0 1,false),(rL 25 24,false),(rF 27 1 1,false),(rL 28 27,false),((rO 29 (.toInt .u64 (.t 28))),false),(rF 31 2 1,false),(rL 32 31,false),(rC 23 59 [(.t 22),(cI 2)],true),(rC 26 59 [(.t 25),(cI 8)],true),(rC 30 59 [(.t 29),(cI 4)],true),((rO 33 (.bslice [.sn] 4 [(0,1,(.t 23)),(1,1,(.t 26)),(2,1,(.t 30)),(3,1,(.t 32))])),false),(rC 34 55 [(.t 33)],false),(rC 35 58 [(.t 34)],false),(rM 5 35,false)]
theorem c28d0_w {P:Program} {O:Orc} {S0:Mem} {rd:Bool} {e:Env} {S:Mem} {d:List Nat} {Q:Kont}:W P O S0 rd (.draw c28d0 []) e S d Q=wFl O c28d0w e S (normK Q d):=W_draw' (by kernel_rfl) (by kernel_rfl)
attribute [go_sem] c28d0_w c28d0w
def c28d1:List Stage :=
 [⟨[(⟨(some 43),none,(.op (.mv (.t 6)))⟩,0),(⟨(some 44),none,(.op (.mv (.t 7)))⟩,0),(⟨(some 45),none,(.op (.iaddr none 64 (.t 43) (.t 44)))⟩,0),(⟨(some 46),none,(.op (.sla 64 1 (.t 45) none none none))⟩,0),(⟨(some 47),none,(.op (.mv (.t 5)))⟩,0),(⟨(some 48),none,(.op (.mv (.t 7)))⟩,0),(⟨(some 49),none,(.op (.bin .int true .mul (.t 48) (.c (.i .i64 64))))⟩,0),(⟨(some 50),none,(.op (.slice 1 (.t 47) (some (.t 49)) none none))⟩,0)],none,some ⟨(some 51),none,(.op (.copy 1 (.t 46) (.t 50)))⟩⟩,
  ⟨[],none,none⟩]
def c28d1w:List (ROp × Bool) :=
 [(rM 43 6,false),(rM 44 7,false),((rO 45 (.iaddr none 64 (.t 43) (.t 44))),false),((rO 46 (.sla 64 1 (.t 45) none none none)),false),(rM 47 5,false),(rM 48 7,false),((rO 49 (.bin .int true .mul (.t 48) (cI 64))),false),((rO 50 (.slice 1 (.t 47) (some (.t 49)) none none)),false),((rO 51 (.copy 1 (.t 46) (.t 50))),false)]
theorem c28d1_w {P:Program} {O:Orc} {S0:Mem} {rd:Bool} {e:Env} {S:Mem} {d:List Nat} {Q:Kont}:W P O S0 rd (.draw c28d1 []) e S d Q=wFl O c28d1w e S (normK Q d):=W_draw' (by kernel_rfl) (by kernel_rfl)
attribute [go_sem] c28d1_w c28d1w
def c28l2:ICode :=
 .seq (.region [(rO 41 (.bin .int false .lss (.t 40) (.t 39)))])
  (.live [6,5,39,40,41] (.seq (.cond (.t 41) (.skip)
  (.exit 0))
  (.live [6,5,39,40] (.seq (.block 1 (.seq (.region [rM 42 40,
  rM 7 42])
  (.live [6,5,39,40,7] (.draw c28d1 []))))
  (.live [6,5,39,40] (.region [(rO 52 (.bin .int true .add (.t 40) (cI 1))),
  rM 40 52]))))))
def c28:IFunc:=⟨1,[.tmp 2,.tmp 3],
 .seq (.region [(rO 1 (.box (.t 0))),
  (rO 2 (.mv (.c .sn))),
  (rO 3 (.mv (cI 0)))])
  (.live [1] (.seq (.region [rF 8 2 1,
  rL 9 8,
  (rO 10 (.len .slice (.t 9))),
  rC 11 57 [(.t 10)],
  rM 4 11])
  (.live [4,1] (.seq (.seq (.region [rM 12 4,
  (rO 13 (.bin .int true .eql (.t 12) (cI 0))),
  rM 14 13,
  ⟨(some 15),some (14,false),(.op (.faddr 0 (.t 1)))⟩,
  ⟨(some 16),some (14,false),(.op (.load none (.t 15)))⟩,
  ⟨(some 17),some (14,false),(.op (.bin .int true .eql (.t 16) (.c (.i .u64 0))))⟩,
  (rO 18 (.pick (.t 14) (cB true) (.t 17)))])
  (.live [4,1,18] (.cond (.t 18) (.seq (.region [(rO 2 (.mv (.c .sn))),
  (rO 3 (.mv (cI 81)))])
  (.ret))
  (.skip))))
  (.live [4,1] (.seq (.draw c28d0 [])
  (.live [5,4] (.seq (.region [rM 36 4,
  (rO 37 (.mks z64 64 (.t 36) (.t 36))),
  rM 6 37])
  (.live [6,5] (.seq (.seq (.region [rM 38 6,
  (rO 39 (.len .slice (.t 38))),
  (rO 40 (.mv (cI 0)))])
  (.live [6,5,39,40] (.block 0 (.loop [6,5,39,40] c28l2))))
  (.live [6] (.seq (.region [rM 53 6,
  rM 2 53,
  (rO 3 (.mv (cI 0)))])
  (.ret))))))))))))),
 []⟩
def c29:IFunc:=⟨1,[.tmp 2],
 .seq (.region [(rO 2 (.mv (cI 0)))])
  (.live [0] (.seq (.region [rM 3 0,
  (rO 4 (.bin .int true .rem (.t 3) (.c (.i .u64 2)))),
  (rO 5 (.toInt .i64 (.t 4))),
  (rO 6 (.bin .int true .mul (.t 5) (cI 16))),
  rM 2 6])
  (.ret))),
 []⟩
def c30:IFunc:=⟨1,[.tmp 2],
 .seq (.region [(rO 2 (.mv (cI 0)))])
  (.live [0] (.seq (.region [rM 4 0,
  rC 5 35 [(.t 4)],
  rM 3 5])
  (.live [3,0] (.seq (.seq (.region [rM 6 3,
  (rO 7 (.bin .int true .eql (.t 6) (cI 0)))])
  (.live [3,0,7] (.cond (.t 7) (.region [rM 8 0,
  ⟨(some 9),none,(.call 37 [(.t 8),(.c (.f (.func 60) [] []))])⟩])
  (.skip))))
  (.live [3] (.seq (.region [rM 10 3,
  rM 2 10])
  (.ret))))))),
 []⟩
def c31d0:List Stage :=
 [⟨[(⟨(some 17),none,(.op (.faddr 2 (.t 1)))⟩,0),(⟨(some 18),none,(.op (.load none (.t 17)))⟩,0),(⟨(some 19),none,(.op (.len .slice (.t 18)))⟩,0),(⟨(some 20),none,(.op (.toInt .u64 (.t 19)))⟩,0),(⟨(some 22),none,(.op (.faddr 0 (.t 1)))⟩,1),(⟨(some 23),none,(.op (.load none (.t 22)))⟩,1),(⟨(some 26),none,(.op (.faddr 1 (.t 1)))⟩,3),(⟨(some 27),none,(.op (.load none (.t 26)))⟩,3),(⟨(some 28),none,(.op (.toInt .u64 (.t 27)))⟩,3)],none,some ⟨(some 21),none,(.call 61 [(.t 20),(.c (.i .i64 2))])⟩⟩,
  ⟨[],none,some ⟨(some 24),none,(.call 61 [(.t 23),(.c (.i .i64 8))])⟩⟩,
  ⟨[],none,some ⟨(some 25),none,(.op (.app 1 1 (.t 21) (.t 24)))⟩⟩,
  ⟨[],none,some ⟨(some 29),none,(.call 61 [(.t 28),(.c (.i .i64 4))])⟩⟩,
  ⟨[],none,some ⟨(some 30),none,(.op (.app 1 1 (.t 25) (.t 29)))⟩⟩,
  ⟨[(⟨(some 4),none,(.op (.mv (.t 30)))⟩,5)],none,none⟩]
theorem c31d0_e {P:Program} {O:Orc} {S0:Mem} {rd:Bool} {e:Env} {S:Mem} {d:List Nat} {Q:Kont}:W P O S0 rd (.draw c31d0 []) e S d Q=drawK (evDraw O c31d0 [] e S) (normK Q d):=W_drawE (by kernel_rfl)
attribute [go_sem] c31d0_e
def c31l1:ICode :=
 .seq (.region [(rO 40 (.bin .int false .lss (.t 39) (.t 38)))])
  (.live [37,38,39,5,40] (.seq (.cond (.t 40) (.skip)
  (.exit 0))
  (.live [37,38,39,5] (.seq (.block 1 (.seq (.region [rM 41 39,
  (rO 42 (.iaddr none 1 (.t 37) (.t 39))),
  rL 43 42,
  rM 6 41,
  rM 7 43])
  (.live [37,38,39,7,6,5] (.seq (.seq (.region [rM 44 6,
  (rO 45 (.bin .int true .rem (.t 44) (cI 64))),
  (rO 46 (.bin .int true .eql (.t 45) (cI 0)))])
  (.live [37,38,39,7,6,5,46] (.cond (.t 46) (.region [rM 47 5,
  (rO 48 (.build z64 [])),
  (rO 49 (.bslice z64 1 [(0,64,(.t 48))])),
  (rO 50 (.app 64 64 (.t 47) (.t 49))),
  rM 5 50])
  (.skip))))
  (.live [37,38,5,39,7,6] (.region [rM 51 5,
  rM 52 5,
  (rO 53 (.len .slice (.t 52))),
  (rO 54 (.bin .int true .sub (.t 53) (cI 1))),
  rM 55 6,
  (rO 56 (.bin .int true .rem (.t 55) (cI 64))),
  rM 57 7,
  (rO 58 (.iaddr none 64 (.t 51) (.t 54))),
  (rO 59 (.iaddr (some 64) 1 (.t 58) (.t 56))),
  rS 1 59 57]))))))
  (.live [37,38,5,39] (.region [(rO 60 (.bin .int true .add (.t 39) (cI 1))),
  rM 39 60]))))))
def c31:IFunc:=⟨1,[.tmp 2,.tmp 3],
 .seq (.region [(rO 1 (.box (.t 0))),
  (rO 2 (.mv (.c .sn))),
  (rO 3 (.mv (cI 0)))])
  (.live [1] (.seq (.seq (.region [rF 8 2 1,
  rL 9 8,
  (rO 10 (.len .slice (.t 9))),
  (rO 11 (.bin .int true .gtr (.t 10) (cI 700))),
  rM 12 11,
  ⟨(some 13),some (12,false),(.op (.faddr 0 (.t 1)))⟩,
  ⟨(some 14),some (12,false),(.op (.load none (.t 13)))⟩,
  ⟨(some 15),some (12,false),(.op (.bin .int true .eql (.t 14) (.c (.i .u64 0))))⟩,
  (rO 16 (.pick (.t 12) (cB true) (.t 15)))])
  (.live [1,16] (.cond (.t 16) (.seq (.region [(rO 2 (.mv (.c .sn))),
  (rO 3 (.mv (cI 81)))])
  (.ret))
  (.skip))))
  (.live [1] (.seq (.draw c31d0 [])
  (.live [1,4] (.seq (.region [rM 31 4,
  rF 32 2 1,
  rL 33 32,
  (rO 34 (.app 1 1 (.t 31) (.t 33))),
  rC 35 62 [(.t 34)],
  rM 4 35])
  (.live [4] (.seq (.region [(rO 36 (.bslice z64 0 [])),
  rM 5 36])
  (.live [5,4] (.seq (.seq (.region [rM 37 4,
  (rO 38 (.len .slice (.t 37))),
  (rO 39 (.mv (cI 0)))])
  (.live [37,38,39,5] (.block 0 (.loop [37,38,39,5] c31l1))))
  (.live [5] (.seq (.region [rM 61 5,
  rM 2 61,
  (rO 3 (.mv (cI 0)))])
  (.ret))))))))))))),
 []⟩
def c32:IFunc:=⟨1,[.tmp 2],
 .seq (.region [(rO 2 (.mv (cI 0)))])
  (.live [0] (.seq (.seq (.region [rM 3 0,
  (rO 4 (.bin .int true .rem (.t 3) (.c (.i .u64 2)))),
  (rO 5 (.bin .int true .eql (.t 4) (.c (.i .u64 0))))])
  (.live [5] (.cond (.t 5) (.seq (.region [(rO 2 (.mv (cI 0)))])
  (.ret))
  (.skip))))
  (.live [] (.seq (.region [(rO 2 (.mv (cI 16)))])
  (.ret))))),
 []⟩
def c33l0:ICode :=
 .seq (.region [(rO 20 (.bin .int false .lss (.t 19) (.t 18)))])
  (.live [2,1,18,19,5,20] (.seq (.cond (.t 20) (.skip)
  (.exit 0))
  (.live [2,1,18,19,5] (.seq (.block 1 (.region [rM 21 5,
  (rO 22 (.bslice [(.b false)] 1 [(0,1,(cB true))])),
  (rO 23 (.app 1 1 (.t 21) (.t 22))),
  rM 5 23]))
  (.live [2,1,18,5,19] (.region [(rO 24 (.bin .int true .add (.t 19) (cI 1))),
  rM 19 24]))))))
def c33:IFunc:=⟨1,[.cell 2 (some 5),.tmp 3],
 .seq (.region [(rO 1 (.box (.t 0))),
  (rO 2 (.fresh [.sn,.sn,(.b false),(.i .i64 0),(.b false)])),
  (rO 3 (.mv (cI 0)))])
  (.live [2,1] (.seq (.region [rK 7 5 1,
  rC 8 36 [(.t 7)],
  rM 6 8,
  rX 9 6 0,
  rX 10 6 1,
  rS 5 1 9,
  rM 4 10])
  (.live [2,4,1] (.seq (.seq (.region [rM 11 4,
  (rO 12 (.bin .int true .neq (.t 11) (cI 0)))])
  (.live [2,4,1,12] (.cond (.t 12) (.seq (.region [rK 13 5 1,
  rM 14 4,
  rS 5 2 13,
  rM 3 14])
  (.ret))
  (.skip))))
  (.live [2,1] (.seq (.region [(rO 15 (.bslice [(.b false)] 0 [])),
  rM 5 15])
  (.live [2,1,5] (.seq (.seq (.region [rF 16 1 1,
  rL 17 16,
  (rO 18 (.len .slice (.t 17))),
  (rO 19 (.mv (cI 0)))])
  (.live [2,1,18,19,5] (.block 0 (.loop [2,1,18,19,5] c33l0))))
  (.live [2,5,1] (.seq (.region [rK 25 5 1,
  rM 26 5,
  rC 27 39 [(.t 25),(.t 26)],
  rS 5 2 27,
  (rO 3 (.mv (cI 0)))])
  (.ret))))))))))),
 []⟩
def c34:IFunc:=⟨2,[.tmp 4],
 .seq (.region [(rO 4 (.mv (cB false)))])
  (.live [0,1] (.seq (.region [rM 5 1,
  (rO 6 (.bin .int true .geq (.t 5) (cI 0))),
  rM 7 6,
  ⟨(some 8),some (7,true),(.op (.mv (.t 1)))⟩,
  ⟨(some 9),some (7,true),(.op (.mv (.t 0)))⟩,
  ⟨(some 10),some (7,true),(.op (.nilck (.t 9)))⟩,
  ⟨(some 11),some (7,true),(.op (.faddr 0 (.t 10)))⟩,
  ⟨(some 12),some (7,true),(.op (.load none (.t 11)))⟩,
  ⟨(some 13),some (7,true),(.op (.len .slice (.t 12)))⟩,
  ⟨(some 14),some (7,true),(.op (.bin .int false .lss (.t 8) (.t 13)))⟩,
  (rO 15 (.pick (.t 7) (.t 14) (cB false))),
  rM 4 15])
  (.ret))),
 []⟩
def c35:IFunc:=⟨1,[.tmp 2],
 .seq (.region [(rO 2 (.mv (cI 0)))])
  (.live [0] (.seq (.block 0 (.seq (.region [rM 4 0,
  (rO 5 (.nilck (.t 4))),
  rF 6 3 5,
  rL 7 6,
  rM 3 7])
  (.live [0,3] (.cond (.t 3) (.skip)
  (.seq (.region [rM 9 0,
  (rO 10 (.nilck (.t 9))),
  rF 11 2 10,
  rL 12 11,
  (rO 13 (.bin .int true .eql (.t 12) (.c (.i .i64 (-1))))),
  rM 8 13])
  (.live [0,8] (.cond (.t 8) (.seq (.region [(rO 2 (.mv (cI 0)))])
  (.ret))
  (.seq (.region [rM 15 0,
  (rO 16 (.nilck (.t 15))),
  rF 17 2 16,
  rL 18 17,
  (rO 19 (.bin .int true .gtr (.t 18) (cI 0))),
  rM 14 19])
  (.live [0,14] (.cond (.t 14) (.seq (.region [rM 20 0,
  (rO 21 (.nilck (.t 20))),
  rF 22 2 21,
  rL 23 22,
  (rO 24 (.bin .int true .sub (.t 23) (cI 1))),
  (rO 25 (.nilck (.t 20))),
  rF 26 2 25,
  rS 1 26 24])
  (.live [] (.seq (.region [(rO 2 (.mv (cI 0)))])
  (.ret))))
  (.skip)))))))))))
  (.live [0] (.seq (.region [rM 27 0,
  (rO 28 (.nilck (.t 27))),
  rF 29 3 28,
  ⟨none,none,(.op (.store 1 (.t 29) (cB true)))⟩])
  (.live [] (.seq (.region [(rO 2 (.mv (cI 72)))])
  (.ret))))))),
 []⟩
def c36:IFunc:=⟨1,[.cell 2 (some 5),.tmp 3],
 .seq (.region [(rO 1 (.box (.t 0))),
  (rO 2 (.fresh [.sn,.sn,(.b false),(.i .i64 0),(.b false)])),
  (rO 3 (.mv (cI 0)))])
  (.live [2,1] (.seq (.seq (.region [rF 4 4 1,
  rL 5 4,
  rM 6 5,
  ⟨(some 7),some (6,false),(.op (.faddr 2 (.t 1)))⟩,
  ⟨(some 8),some (6,false),(.op (.load none (.t 7)))⟩,
  ⟨(some 9),some (6,false),(.op (.mv (.t 8)))⟩,
  ⟨(some 10),some (9,true),(.op (.faddr 3 (.t 1)))⟩,
  ⟨(some 11),some (9,true),(.op (.load none (.t 10)))⟩,
  ⟨(some 12),some (9,true),(.op (.bin .int true .eql (.t 11) (cI 0)))⟩,
  ⟨(some 13),some (6,false),(.op (.pick (.t 9) (.t 12) (cB false)))⟩,
  (rO 14 (.pick (.t 6) (cB true) (.t 13)))])
  (.live [2,1,14] (.cond (.t 14) (.seq (.region [rF 15 4 1,
  ⟨none,none,(.op (.store 1 (.t 15) (cB true)))⟩])
  (.live [2,1] (.seq (.region [rK 16 5 1,
  rS 5 2 16,
  (rO 3 (.mv (cI 72)))])
  (.ret))))
  (.skip))))
  (.live [2,1] (.seq (.seq (.region [rF 17 2 1,
  rL 18 17])
  (.live [2,1,18] (.cond (.t 18) (.region [rF 19 3 1,
  rL 20 19,
  (rO 21 (.bin .int true .sub (.t 20) (cI 1))),
  rF 22 3 1,
  rS 1 22 21])
  (.skip))))
  (.live [2,1] (.seq (.region [rK 23 5 1,
  rS 5 2 23,
  (rO 3 (.mv (cI 0)))])
  (.ret))))))),
 []⟩
def c37d0:List Stage :=
 [⟨[(⟨(some 19),none,(.op (.mv (.t 0)))⟩,0),(⟨(some 20),none,(.op (.nilck (.t 19)))⟩,0),(⟨(some 21),none,(.op (.faddr 0 (.t 20)))⟩,0),(⟨(some 22),none,(.op (.load none (.t 21)))⟩,0),(⟨(some 23),none,(.op (.faddr 0 (.t 5)))⟩,0),(⟨(some 24),none,(.op (.load none (.t 23)))⟩,0),(⟨(some 25),none,(.op (.faddr 1 (.t 5)))⟩,0),(⟨(some 26),none,(.op (.load (some 64) (.t 25)))⟩,0),(⟨(some 27),none,(.op (.iaddr none 64 (.t 22) (.t 24)))⟩,0)],none,some ⟨none,none,(.op (.store 64 (.t 27) (.t 26)))⟩⟩,
  ⟨[],none,none⟩]
def c37d0w:List (ROp × Bool) :=
 [(rM 19 0,false),((rO 20 (.nilck (.t 19))),false),(rF 21 0 20,false),(rL 22 21,false),(rF 23 0 5,false),(rL 24 23,false),(rF 25 1 5,false),(rK 26 64 25,false),((rO 27 (.iaddr none 64 (.t 22) (.t 24))),false),(rS 64 27 26,false)]
theorem c37d0_w {P:Program} {O:Orc} {S0:Mem} {rd:Bool} {e:Env} {S:Mem} {d:List Nat} {Q:Kont}:W P O S0 rd (.draw c37d0 []) e S d Q=wFl O c37d0w e S (normK Q d):=W_draw' (by kernel_rfl) (by kernel_rfl)
attribute [go_sem] c37d0_w c37d0w
def c37l1:ICode :=
 .seq (.region [(rO 12 (.bin .int false .lss (.t 11) (.t 10)))])
  (.live [0,1,9,10,11,12] (.seq (.cond (.t 12) (.skip)
  (.exit 0))
  (.live [0,1,9,10,11] (.seq (.block 1 (.seq (.region [rM 13 11,
  (rO 14 (.iaddr none 65 (.t 9) (.t 11))),
  rK 15 65 14,
  (rO 5 (.fresh [(.i .i64 0),(.i .u8 0),(.i .u8 0),(.i .u8 0),(.i .u8 0),(.i .u8 0),(.i .u8 0),(.i .u8 0),(.i .u8 0),(.i .u8 0),(.i .u8 0),(.i .u8 0),(.i .u8 0),(.i .u8 0),(.i .u8 0),(.i .u8 0),(.i .u8 0),(.i .u8 0),(.i .u8 0),(.i .u8 0),(.i .u8 0),(.i .u8 0),(.i .u8 0),(.i .u8 0),(.i .u8 0),(.i .u8 0),(.i .u8 0),(.i .u8 0),(.i .u8 0),(.i .u8 0),(.i .u8 0),(.i .u8 0),(.i .u8 0),(.i .u8 0),(.i .u8 0),(.i .u8 0),(.i .u8 0),(.i .u8 0),(.i .u8 0),(.i .u8 0),(.i .u8 0),(.i .u8 0),(.i .u8 0),(.i .u8 0),(.i .u8 0),(.i .u8 0),(.i .u8 0),(.i .u8 0),(.i .u8 0),(.i .u8 0),(.i .u8 0),(.i .u8 0),(.i .u8 0),(.i .u8 0),(.i .u8 0),(.i .u8 0),(.i .u8 0),(.i .u8 0),(.i .u8 0),(.i .u8 0),(.i .u8 0),(.i .u8 0),(.i .u8 0),(.i .u8 0),(.i .u8 0)])),
  rM 4 13,
  rS 65 5 15])
  (.live [0,1,9,10,11,5,4] (.seq (.region [rM 16 1,
  rM 17 4,
  ⟨(some 18),none,(.callv (.t 16) [(.t 17)])⟩])
  (.live [0,1,9,10,11,5,18] (.cond (.t 18) (.draw c37d0 [])
  (.skip)))))))
  (.live [0,1,9,10,11] (.region [(rO 28 (.bin .int true .add (.t 11) (cI 1))),
  rM 11 28]))))))
def c37:IFunc:=⟨2,[],
 .seq (.seq (.region [rM 6 0,
  (rO 7 (.nilck (.t 6))),
  rF 8 1 7,
  rL 9 8,
  (rO 10 (.len .slice (.t 9))),
  (rO 11 (.mv (cI 0)))])
  (.live [0,1,9,10,11] (.block 0 (.loop [0,1,9,10,11] c37l1))))
  (.live [0] (.region [rM 29 0,
  (rO 30 (.nilck (.t 29))),
  rF 31 1 30,
  ⟨none,none,(.op (.store 1 (.t 31) (.c .sn)))⟩])),
 []⟩
def c38:IFunc:=⟨2,[.tmp 3],
 .seq (.region [(rO 3 (.mv (cB false)))])
  (.live [0,1] (.seq (.region [rM 4 0,
  rL 5 1,
  (rO 6 (.len .slice (.t 5))),
  (rO 7 (.bin .int false .lss (.t 4) (.t 6))),
  rM 8 7,
  ⟨(some 9),some (8,true),(.op (.load none (.t 1)))⟩,
  ⟨(some 10),some (8,true),(.op (.mv (.t 0)))⟩,
  ⟨(some 11),some (8,true),(.op (.iaddr none 1 (.t 9) (.t 10)))⟩,
  ⟨(some 12),some (8,true),(.op (.load none (.t 11)))⟩,
  (rO 13 (.pick (.t 8) (.t 12) (cB false))),
  rM 3 13])
  (.ret))),
 []⟩
def c39l0:ICode :=
 .seq (.region [(rO 16 (.bin .int false .lss (.t 15) (.t 14)))])
  (.live [5,1,13,4,2,14,15,16] (.seq (.cond (.t 16) (.skip)
  (.exit 0))
  (.live [5,1,13,4,2,14,15] (.seq (.block 1 (.seq (.region [rM 17 15,
  (rO 18 (.iaddr none 65 (.t 13) (.t 15))),
  rK 19 65 18,
  (rO 7 (.fresh [(.i .i64 0),(.i .u8 0),(.i .u8 0),(.i .u8 0),(.i .u8 0),(.i .u8 0),(.i .u8 0),(.i .u8 0),(.i .u8 0),(.i .u8 0),(.i .u8 0),(.i .u8 0),(.i .u8 0),(.i .u8 0),(.i .u8 0),(.i .u8 0),(.i .u8 0),(.i .u8 0),(.i .u8 0),(.i .u8 0),(.i .u8 0),(.i .u8 0),(.i .u8 0),(.i .u8 0),(.i .u8 0),(.i .u8 0),(.i .u8 0),(.i .u8 0),(.i .u8 0),(.i .u8 0),(.i .u8 0),(.i .u8 0),(.i .u8 0),(.i .u8 0),(.i .u8 0),(.i .u8 0),(.i .u8 0),(.i .u8 0),(.i .u8 0),(.i .u8 0),(.i .u8 0),(.i .u8 0),(.i .u8 0),(.i .u8 0),(.i .u8 0),(.i .u8 0),(.i .u8 0),(.i .u8 0),(.i .u8 0),(.i .u8 0),(.i .u8 0),(.i .u8 0),(.i .u8 0),(.i .u8 0),(.i .u8 0),(.i .u8 0),(.i .u8 0),(.i .u8 0),(.i .u8 0),(.i .u8 0),(.i .u8 0),(.i .u8 0),(.i .u8 0),(.i .u8 0),(.i .u8 0)])),
  rM 6 17,
  rS 65 7 19])
  (.live [5,1,13,4,2,14,15,7,6] (.seq (.region [rM 20 6,
  rM 21 1,
  (rO 22 (.len .slice (.t 21))),
  (rO 23 (.bin .int false .lss (.t 20) (.t 22))),
  rM 24 23,
  ⟨(some 25),some (24,true),(.op (.mv (.t 1)))⟩,
  ⟨(some 26),some (24,true),(.op (.mv (.t 6)))⟩,
  ⟨(some 27),some (24,true),(.op (.iaddr none 1 (.t 25) (.t 26)))⟩,
  ⟨(some 28),some (24,true),(.op (.load none (.t 27)))⟩,
  (rO 29 (.pick (.t 24) (.t 28) (cB false)))])
  (.live [5,1,13,4,2,14,15,7,29] (.cond (.t 29) (.region [rM 30 5,
  rF 31 0 7,
  rL 32 31,
  rF 33 1 7,
  rK 34 64 33,
  (rO 35 (.iaddr none 64 (.t 30) (.t 32))),
  rS 64 35 34])
  (.skip)))))))
  (.live [5,1,13,4,2,14,15] (.region [(rO 36 (.bin .int true .add (.t 15) (cI 1))),
  rM 15 36]))))))
def c39:IFunc:=⟨2,[.cell 4 (some 5)],
 .seq (.region [(rO 2 (.box (.t 0))),
  (rO 4 (.fresh [.sn,.sn,(.b false),(.i .i64 0),(.b false)]))])
  (.live [1,4,2] (.seq (.region [(rO 8 (.bslice z64 0 [])),
  rF 9 0 2,
  rL 10 9,
  (rO 11 (.app 64 64 (.t 8) (.t 10))),
  rM 5 11])
  (.live [5,1,4,2] (.seq (.seq (.region [rF 12 1 2,
  rL 13 12,
  (rO 14 (.len .slice (.t 13))),
  (rO 15 (.mv (cI 0)))])
  (.live [5,1,13,4,2,14,15] (.block 0 (.loop [5,1,13,4,2,14,15] c39l0))))
  (.live [4,2,5] (.seq (.region [rM 37 5,
  rF 38 0 2,
  rS 1 38 37])
  (.live [4,2] (.seq (.region [rF 39 1 2,
  ⟨none,none,(.op (.store 1 (.t 39) (.c .sn)))⟩])
  (.live [4,2] (.seq (.region [rK 40 5 2,
  rS 5 4 40])
  (.ret))))))))))),
 []⟩
def c40l0:ICode :=
 .seq (.region [(rO 14 (.bin .int true .lss (.t 13) (cI 16)))])
  (.live [4,1,0,13,6,14] (.seq (.cond (.t 14) (.skip)
  (.exit 0))
  (.live [4,1,0,13,6] (.seq (.block 1 (.seq (.region [rM 15 13,
  rM 7 15])
  (.live [4,1,0,13,6,7] (.seq (.region [rM 17 0,
  rM 18 1,
  rM 19 7,
  (rO 20 (.bin .int false .add (.t 18) (.t 19))),
  rC 21 23 [(.t 17),(.t 20)],
  rM 16 21,
  rX 22 16 0,
  rX 23 16 1,
  (rO 8 (.fresh z64)),
  rS 64 8 22,
  rM 9 23])
  (.live [4,1,0,13,8,6,9] (.seq (.seq (.region [rM 24 9,
  (rO 25 (.bin .int true .neq (.t 24) (cI 0)))])
  (.live [4,1,0,13,8,6,25] (.cond (.t 25) (.seq (.region [(rO 26 (.build [(.i .u64 0),(.i .u32 0),(.i .u64 0),(.i .i64 0),(.i .u64 0),.sn] [])),
  rS 6 4 26,
  (rO 5 (.mv (cB false)))])
  (.ret))
  (.skip))))
  (.live [4,1,0,13,8,6] (.region [rM 27 6,
  rK 28 64 8,
  (rO 29 (.bslice z64 1 [(0,64,(.t 28))])),
  (rO 30 (.app 64 64 (.t 27) (.t 29))),
  rM 6 30]))))))))
  (.live [4,1,0,6,13] (.region [(rO 31 (.bin .int true .add (.t 13) (cI 1))),
  rM 13 31]))))))
def c40:IFunc:=⟨2,[.cell 4 (some 6),.tmp 5],
 .seq (.region [(rO 4 (.fresh [(.i .u64 0),(.i .u32 0),(.i .u64 0),(.i .i64 0),(.i .u64 0),.sn])),
  (rO 5 (.mv (cB false)))])
  (.live [4,1,0] (.seq (.region [(rO 6 (.mv (.c .sn)))])
  (.live [4,1,0,6] (.seq (.seq (.region [(rO 13 (.mv (cI 0)))])
  (.live [4,1,0,13,6] (.block 0 (.loop [4,1,0,13,6] c40l0))))
  (.live [4,0,1,6] (.seq (.region [rM 33 6,
  rC 34 63 [(.t 33)],
  rM 32 34,
  rX 35 32 0,
  rX 36 32 1,
  rX 37 32 2,
  (rO 10 (.fresh [(.i .u64 0),(.i .u32 0),.sn])),
  rS 3 10 35,
  rM 11 36,
  rM 12 37])
  (.live [4,10,0,1,12] (.seq (.seq (.region [rM 38 12,
  (rO 39 (.un .not (.t 38))),
  rM 40 39,
  ⟨(some 41),some (40,false),(.op (.faddr 0 (.t 10)))⟩,
  ⟨(some 42),some (40,false),(.op (.load none (.t 41)))⟩,
  ⟨(some 43),some (40,false),(.call 29 [(.t 42)])⟩,
  ⟨(some 44),some (40,false),(.op (.mv (.t 1)))⟩,
  ⟨(some 45),some (40,false),(.op (.bin .int false .neq (.t 43) (.t 44)))⟩,
  (rO 46 (.pick (.t 40) (cB true) (.t 45)))])
  (.live [4,10,0,46] (.cond (.t 46) (.seq (.region [(rO 47 (.build [(.i .u64 0),(.i .u32 0),(.i .u64 0),(.i .i64 0),(.i .u64 0),.sn] [])),
  rS 6 4 47,
  (rO 5 (.mv (cB false)))])
  (.ret))
  (.skip))))
  (.live [4,10,0] (.seq (.region [rM 48 0,
  rK 49 3 10,
  rC 50 64 [(.t 48),(.t 49)],
  rX 51 50 0,
  rX 52 50 1,
  rS 6 4 51,
  rM 5 52])
  (.ret))))))))))),
 []⟩
def c41d0:List Stage :=
 [⟨[(⟨(some 28),none,(.op (.load (some 5) (.t 2)))⟩,1),(⟨(some 29),none,(.op (.mv (.t 1)))⟩,0),(⟨(some 31),none,(.op (.mv (.t 7)))⟩,1)],none,some ⟨(some 30),none,(.call 32 [(.t 29)])⟩⟩,
  ⟨[(⟨(some 32),none,(.op (.bin .int false .add (.t 30) (.t 31)))⟩,1)],none,some ⟨(some 33),none,(.call 65 [(.t 28),(.t 32)])⟩⟩,
  ⟨[(⟨(some 27),none,(.op (.mv (.t 33)))⟩,2),(⟨(some 34),none,(.op (.ext (.t 27) 0))⟩,2),(⟨(some 35),none,(.op (.ext (.t 27) 1))⟩,3)],some ⟨(some 8),none,(.op (.fresh [(.i .u8 0),(.i .u8 0),(.i .u8 0),(.i .u8 0),(.i .u8 0),(.i .u8 0),(.i .u8 0),(.i .u8 0),(.i .u8 0),(.i .u8 0),(.i .u8 0),(.i .u8 0),(.i .u8 0),(.i .u8 0),(.i .u8 0),(.i .u8 0),(.i .u8 0),(.i .u8 0),(.i .u8 0),(.i .u8 0),(.i .u8 0),(.i .u8 0),(.i .u8 0),(.i .u8 0),(.i .u8 0),(.i .u8 0),(.i .u8 0),(.i .u8 0),(.i .u8 0),(.i .u8 0),(.i .u8 0),(.i .u8 0),(.i .u8 0),(.i .u8 0),(.i .u8 0),(.i .u8 0),(.i .u8 0),(.i .u8 0),(.i .u8 0),(.i .u8 0),(.i .u8 0),(.i .u8 0),(.i .u8 0),(.i .u8 0),(.i .u8 0),(.i .u8 0),(.i .u8 0),(.i .u8 0),(.i .u8 0),(.i .u8 0),(.i .u8 0),(.i .u8 0),(.i .u8 0),(.i .u8 0),(.i .u8 0),(.i .u8 0),(.i .u8 0),(.i .u8 0),(.i .u8 0),(.i .u8 0),(.i .u8 0),(.i .u8 0),(.i .u8 0),(.i .u8 0)]))⟩,some ⟨none,none,(.op (.store 64 (.t 8) (.t 34)))⟩⟩,
  ⟨[(⟨(some 9),none,(.op (.mv (.t 35)))⟩,3)],none,none⟩]
def c41d0w:List (ROp × Bool) :=
 [(rK 28 5 2,false),(rM 29 1,false),(rM 31 7,false),(rC 30 32 [(.t 29)],true),((rO 32 (.bin .int false .add (.t 30) (.t 31))),false),(rC 33 65 [(.t 28),(.t 32)],false),(rM 27 33,false),(rX 34 27 0,false),(rX 35 27 1,false),((rO 8 (.fresh z64)),true),(rS 64 8 34,false),(rM 9 35,false)]
theorem c41d0_w {P:Program} {O:Orc} {S0:Mem} {rd:Bool} {e:Env} {S:Mem} {d:List Nat} {Q:Kont}:W P O S0 rd (.draw c41d0 []) e S d Q=wFl O c41d0w e S (normK Q d):=W_draw' (by kernel_rfl) (by kernel_rfl)
attribute [go_sem] c41d0_w c41d0w
def c41l1:ICode :=
 .seq (.seq (.region [rM 23 7,
  (rO 24 (.bin .int true .lss (.t 23) (cI 16)))])
  (.live [4,2,1,7,6,24] (.cond (.t 24) (.skip)
  (.exit 0))))
  (.live [4,2,1,7,6] (.seq (.block 1 (.seq (.draw c41d0 [])
  (.live [4,2,1,7,8,6,9] (.seq (.seq (.region [rM 36 9,
  (rO 37 (.bin .int true .neq (.t 36) (cI 0)))])
  (.live [4,2,1,7,8,6,37] (.cond (.t 37) (.seq (.region [(rO 38 (.build [(.i .u64 0),(.i .u32 0),(.i .u64 0),(.i .i64 0),(.i .u64 0),.sn] [])),
  rS 6 4 38,
  (rO 5 (.mv (cB false)))])
  (.ret))
  (.skip))))
  (.live [4,2,1,7,8,6] (.region [rM 39 6,
  rK 40 64 8,
  (rO 41 (.bslice z64 1 [(0,64,(.t 40))])),
  (rO 42 (.app 64 64 (.t 39) (.t 41))),
  rM 6 42]))))))
  (.live [4,2,1,6,7] (.region [rM 25 7,
  (rO 26 (.bin .int true .add (.t 25) (cI 1))),
  rM 7 26]))))
def c41d2:List Stage :=
 [⟨[(⟨(some 105),none,(.op (.load (some 6) (.t 21)))⟩,1),(⟨(some 106),none,(.op (.mv (.t 20)))⟩,0),(⟨(some 107),none,(.op (.bin .int true .eql (.t 106) (.c (.i .i64 0))))⟩,0),(⟨(some 108),none,(.op (.mv (.t 107)))⟩,0),(⟨(some 109),some (108,true),(.op (.faddr 0 (.t 2)))⟩,0),(⟨(some 110),some (108,true),(.op (.load none (.t 109)))⟩,0),(⟨(some 111),some (108,true),(.op (.len .slice (.t 110)))⟩,0),(⟨(some 112),some (108,true),(.op (.load (some 6) (.t 21)))⟩,0)],none,some ⟨(some 113),some (108,true),(.call 48 [(.t 111),(.t 112)])⟩⟩,
  ⟨[(⟨(some 114),none,(.op (.pick (.t 108) (.t 113) (.c (.b false))))⟩,2)],none,some ⟨none,none,(.op (.store 6 (.t 4) (.t 105)))⟩⟩,
  ⟨[(⟨(some 5),none,(.op (.mv (.t 114)))⟩,2)],none,none⟩]
def c41d2w:List (ROp × Bool) :=
 [(rK 105 6 21,false),(rM 106 20,false),((rO 107 (.bin .int true .eql (.t 106) (cI 0))),false),(rM 108 107,false),(⟨(some 109),some (108,true),(.op (.faddr 0 (.t 2)))⟩,false),(⟨(some 110),some (108,true),(.op (.load none (.t 109)))⟩,false),(⟨(some 111),some (108,true),(.op (.len .slice (.t 110)))⟩,false),(⟨(some 112),some (108,true),(.op (.load (some 6) (.t 21)))⟩,false),(⟨(some 113),some (108,true),(.call 48 [(.t 111),(.t 112)])⟩,true),((rO 114 (.pick (.t 108) (.t 113) (cB false))),false),(rS 6 4 105,false),(rM 5 114,false)]
theorem c41d2_w {P:Program} {O:Orc} {S0:Mem} {rd:Bool} {e:Env} {S:Mem} {d:List Nat} {Q:Kont}:W P O S0 rd (.draw c41d2 []) e S d Q=wFl O c41d2w e S (normK Q d):=W_draw' (by kernel_rfl) (by kernel_rfl)
attribute [go_sem] c41d2_w c41d2w
def c41:IFunc:=⟨2,[.cell 4 (some 6),.tmp 5],
 .seq (.region [(rO 2 (.box (.t 0))),
  (rO 4 (.fresh [(.i .u64 0),(.i .u32 0),(.i .u64 0),(.i .i64 0),(.i .u64 0),.sn])),
  (rO 5 (.mv (cB false)))])
  (.live [4,2,1] (.seq (.region [(rO 22 (.bslice z64 0 [])),
  rM 6 22])
  (.live [4,2,1,6] (.seq (.seq (.region [(rO 7 (.mv (cI 0)))])
  (.live [4,2,1,7,6] (.block 0 (.loop [4,2,1,7,6] c41l1))))
  (.live [4,2,1,6] (.seq (.region [rM 44 6,
  rC 45 24 [(.t 44)],
  rM 43 45,
  rX 46 43 0,
  rX 47 43 1,
  rX 48 43 2,
  (rO 10 (.fresh [(.i .u64 0),(.i .u32 0),.sn])),
  rS 3 10 46,
  rM 11 47,
  rM 12 48])
  (.live [4,2,10,1,12] (.seq (.seq (.region [rM 49 12,
  (rO 50 (.un .not (.t 49))),
  rM 51 50,
  ⟨(some 52),some (51,false),(.op (.faddr 0 (.t 10)))⟩,
  ⟨(some 53),some (51,false),(.op (.load none (.t 52)))⟩,
  ⟨(some 54),some (51,false),(.op (.bin .int true .rem (.t 53) (.c (.i .u64 2))))⟩,
  ⟨(some 55),some (51,false),(.op (.mv (.t 1)))⟩,
  ⟨(some 56),some (51,false),(.op (.bin .int true .rem (.t 55) (.c (.i .u64 2))))⟩,
  ⟨(some 57),some (51,false),(.op (.bin .int false .neq (.t 54) (.t 56)))⟩,
  (rO 58 (.pick (.t 51) (cB true) (.t 57)))])
  (.live [4,2,10,58] (.cond (.t 58) (.seq (.region [(rO 59 (.build [(.i .u64 0),(.i .u32 0),(.i .u64 0),(.i .i64 0),(.i .u64 0),.sn] [])),
  rS 6 4 59,
  (rO 5 (.mv (cB false)))])
  (.ret))
  (.skip))))
  (.live [4,2,10] (.seq (.region [rF 61 2 10,
  rL 62 61,
  rC 63 66 [(.t 62)],
  rM 60 63,
  rX 64 60 0,
  rX 65 60 1,
  rX 66 60 2,
  rM 13 64,
  rM 14 65,
  rM 15 66])
  (.live [4,2,13,10,14,15] (.seq (.seq (.region [rM 67 15,
  (rO 68 (.bin .int true .neq (.t 67) (cI 0)))])
  (.live [4,2,13,10,14,68] (.cond (.t 68) (.seq (.region [(rO 69 (.build [(.i .u64 0),(.i .u32 0),(.i .u64 0),(.i .i64 0),(.i .u64 0),.sn] [])),
  rS 6 4 69,
  (rO 5 (.mv (cB false)))])
  (.ret))
  (.skip))))
  (.live [4,2,13,10,14] (.seq (.region [rF 71 2 10,
  rL 72 71,
  rM 73 14,
  (rO 74 (.slice 1 (.t 72) (some (.t 73)) none none)),
  rC 75 66 [(.t 74)],
  rM 70 75,
  rX 76 70 0,
  rX 77 70 1,
  rX 78 70 2,
  rM 16 76,
  rM 17 77,
  rM 18 78])
  (.live [4,2,16,13,10,17,14,18] (.seq (.seq (.region [rM 79 18,
  (rO 80 (.bin .int true .neq (.t 79) (cI 0))),
  rM 81 80,
  ⟨(some 82),some (81,false),(.op (.mv (.t 16)))⟩,
  ⟨(some 83),some (81,false),(.op (.bin .int true .gtr (.t 82) (.c (.i .u64 1000))))⟩,
  (rO 84 (.pick (.t 81) (cB true) (.t 83)))])
  (.live [4,2,16,13,10,17,14,84] (.cond (.t 84) (.seq (.region [(rO 85 (.build [(.i .u64 0),(.i .u32 0),(.i .u64 0),(.i .i64 0),(.i .u64 0),.sn] [])),
  rS 6 4 85,
  (rO 5 (.mv (cB false)))])
  (.ret))
  (.skip))))
  (.live [4,2,16,13,10,17,14] (.seq (.region [rF 87 2 10,
  rL 88 87,
  rM 89 14,
  rM 90 17,
  (rO 91 (.bin .int false .add (.t 89) (.t 90))),
  (rO 92 (.slice 1 (.t 88) (some (.t 91)) none none)),
  rC 93 67 [(.t 92)],
  rM 86 93,
  rX 94 86 0,
  rX 95 86 1,
  (rO 19 (.fresh [(.i .u64 0),.sn])),
  rS 2 19 94,
  rM 20 95])
  (.live [4,20,2,19,16,13,10] (.seq (.region [rF 96 0 10,
  rL 97 96,
  rF 98 1 10,
  rL 99 98,
  rM 100 13,
  rM 101 16,
  (rO 102 (.toInt .i64 (.t 101))),
  rK 103 2 19,
  (rO 104 (.build [(.i .u64 0),(.i .u32 0),(.i .u64 0),(.i .i64 0),(.i .u64 0),.sn] [(0,1,(.t 97)),(1,1,(.t 99)),(2,1,(.t 100)),(3,1,(.t 102)),(4,2,(.t 103))])),
  (rO 21 (.fresh [(.i .u64 0),(.i .u32 0),(.i .u64 0),(.i .i64 0),(.i .u64 0),.sn])),
  rS 6 21 104])
  (.live [4,20,2,21] (.seq (.draw c41d2 [])
  (.ret))))))))))))))))))))))),
 []⟩
def c42d0:List Stage :=
 [⟨[(⟨(some 26),none,(.op (.faddr 1 (.t 2)))⟩,0),(⟨(some 27),none,(.op (.load none (.t 26)))⟩,0),(⟨(some 28),none,(.op (.mv (.t 5)))⟩,0),(⟨(some 29),none,(.op (.iaddr none 14 (.t 27) (.t 28)))⟩,0),(⟨(some 30),none,(.op (.load (some 14) (.t 29)))⟩,0),(⟨(some 31),none,(.op (.faddr 1 (.t 3)))⟩,0),(⟨(some 32),none,(.op (.load none (.t 31)))⟩,0),(⟨(some 33),none,(.op (.mv (.t 5)))⟩,0),(⟨(some 34),none,(.op (.iaddr none 14 (.t 32) (.t 33)))⟩,0),(⟨(some 35),none,(.op (.load (some 14) (.t 34)))⟩,0),(⟨(some 36),none,(.op (.eqag true [.int,.int,.int,.int,.int,.int,.int,.int,.int,.int,.int,.int,.int,.int] (.t 30) (.t 35)))⟩,0)],none,none⟩]
def c42d0w:List (ROp × Bool) :=
 [(rF 26 1 2,false),(rL 27 26,false),(rM 28 5,false),((rO 29 (.iaddr none 14 (.t 27) (.t 28))),false),(rK 30 14 29,false),(rF 31 1 3,false),(rL 32 31,false),(rM 33 5,false),((rO 34 (.iaddr none 14 (.t 32) (.t 33))),false),(rK 35 14 34,false),((rO 36 (.eqag true [.int,.int,.int,.int,.int,.int,.int,.int,.int,.int,.int,.int,.int,.int] (.t 30) (.t 35))),false)]
theorem c42d0_w {P:Program} {O:Orc} {S0:Mem} {rd:Bool} {e:Env} {S:Mem} {d:List Nat} {Q:Kont}:W P O S0 rd (.draw c42d0 []) e S d Q=wFl O c42d0w e S (normK Q d):=W_draw' (by kernel_rfl) (by kernel_rfl)
attribute [go_sem] c42d0_w c42d0w
def c42l1:ICode :=
 .seq (.region [(rO 24 (.bin .int false .lss (.t 23) (.t 22)))])
  (.live [2,3,22,23,24] (.seq (.cond (.t 24) (.skip)
  (.exit 0))
  (.live [2,3,22,23] (.seq (.block 1 (.seq (.region [rM 25 23,
  rM 5 25])
  (.live [2,3,22,23,5] (.seq (.draw c42d0 [])
  (.live [2,3,22,23,36] (.cond (.t 36) (.seq (.region [(rO 4 (.mv (cB false)))])
  (.ret))
  (.skip)))))))
  (.live [2,3,22,23] (.region [(rO 37 (.bin .int true .add (.t 23) (cI 1))),
  rM 23 37]))))))
def c42:IFunc:=⟨2,[.tmp 4],
 .seq (.region [(rO 2 (.box (.t 0))),
  (rO 3 (.box (.t 1))),
  (rO 4 (.mv (cB false)))])
  (.live [2,3] (.seq (.seq (.region [rF 6 0 2,
  rL 7 6,
  rF 8 0 3,
  rL 9 8,
  (rO 10 (.bin .int false .neq (.t 7) (.t 9))),
  rM 11 10,
  ⟨(some 12),some (11,false),(.op (.faddr 1 (.t 2)))⟩,
  ⟨(some 13),some (11,false),(.op (.load none (.t 12)))⟩,
  ⟨(some 14),some (11,false),(.op (.len .slice (.t 13)))⟩,
  ⟨(some 15),some (11,false),(.op (.faddr 1 (.t 3)))⟩,
  ⟨(some 16),some (11,false),(.op (.load none (.t 15)))⟩,
  ⟨(some 17),some (11,false),(.op (.len .slice (.t 16)))⟩,
  ⟨(some 18),some (11,false),(.op (.bin .int false .neq (.t 14) (.t 17)))⟩,
  (rO 19 (.pick (.t 11) (cB true) (.t 18)))])
  (.live [2,3,19] (.cond (.t 19) (.seq (.region [(rO 4 (.mv (cB false)))])
  (.ret))
  (.skip))))
  (.live [2,3] (.seq (.seq (.region [rF 20 1 2,
  rL 21 20,
  (rO 22 (.len .slice (.t 21))),
  (rO 23 (.mv (cI 0)))])
  (.live [2,3,22,23] (.block 0 (.loop [2,3,22,23] c42l1))))
  (.live [] (.seq (.region [(rO 4 (.mv (cB true)))])
  (.ret))))))),
 []⟩
def c43:IFunc:=⟨2,[.tmp 4,.tmp 5],
 .seq (.region [(rO 4 (.mv (cI 0))),
  (rO 5 (.mv (cI 0)))])
  (.live [1,0] (.seq (.seq (.region [rM 9 0,
  rM 10 1,
  (rO 11 (.bslice [(.i .i64 0)] 1 [(0,1,(.t 10))])),
  rC 12 68 [(.t 9),(.t 11)],
  rM 8 12,
  rX 13 8 0,
  rX 14 8 1,
  rM 6 13,
  rM 7 14])
  (.live [7,1] (.seq (.region [rM 15 7,
  (rO 16 (.bin .int true .neq (.t 15) (cI 0)))])
  (.live [7,1,16] (.cond (.t 16) (.seq (.region [rM 17 7,
  (rO 4 (.mv (cI 0))),
  rM 5 17])
  (.ret))
  (.skip))))))
  (.live [1] (.seq (.region [rM 18 1,
  (rO 19 (.bin .int true .mul (.t 18) (cI 16))),
  (rO 20 (.bin .int true .add (cI 32) (.t 19))),
  rM 4 20,
  (rO 5 (.mv (cI 0)))])
  (.ret))))),
 []⟩
def c44:IFunc:=⟨1,[.tmp 2],
 .seq (.region [(rO 2 (.mv (cI 0)))])
  (.live [0] (.seq (.region [rM 3 0,
  (rO 4 (.nilck (.t 3))),
  rF 5 0 4,
  rL 6 5,
  (rO 7 (.len .slice (.t 6))),
  rM 2 7])
  (.ret))),
 []⟩
def c45:IFunc:=⟨1,[.tmp 2],
 .seq (.region [(rO 2 (.mv (cB false)))])
  (.live [0] (.seq (.region [rM 3 0,
  (rO 4 (.bin .int true .geq (.t 3) (.c (.i .u64 1)))),
  rM 5 4,
  ⟨(some 6),some (5,true),(.op (.mv (.t 0)))⟩,
  ⟨(some 7),some (5,true),(.op (.bin .int true .leq (.t 6) (.c (.i .u64 281474976710656))))⟩,
  (rO 8 (.pick (.t 5) (.t 7) (cB false))),
  rM 2 8])
  (.ret))),
 []⟩
def c46:IFunc:=⟨1,[.tmp 2],
 .seq (.region [(rO 1 (.box (.t 0))),
  (rO 2 (.mv (cB false)))])
  (.live [1] (.seq (.seq (.region [rF 3 0 1,
  rL 4 3,
  (rO 5 (.bin .int true .lss (.t 4) (.c (.i .u64 1)))),
  rM 6 5,
  ⟨(some 7),some (6,false),(.op (.faddr 0 (.t 1)))⟩,
  ⟨(some 8),some (6,false),(.op (.load none (.t 7)))⟩,
  ⟨(some 9),some (6,false),(.op (.bin .int true .gtr (.t 8) (.c (.i .u64 281474976710656))))⟩,
  (rO 10 (.pick (.t 6) (cB true) (.t 9))),
  rM 11 10,
  ⟨(some 12),some (11,false),(.op (.faddr 1 (.t 1)))⟩,
  ⟨(some 13),some (11,false),(.op (.load none (.t 12)))⟩,
  ⟨(some 14),some (11,false),(.op (.len .slice (.t 13)))⟩,
  ⟨(some 15),some (11,false),(.op (.bin .int true .gtr (.t 14) (cI 8)))⟩,
  (rO 16 (.pick (.t 11) (cB true) (.t 15))),
  rM 17 16,
  ⟨(some 18),some (17,false),(.op (.faddr 1 (.t 1)))⟩,
  ⟨(some 19),some (17,false),(.op (.load none (.t 18)))⟩,
  ⟨(some 20),some (17,false),(.call 70 [(.t 19)])⟩,
  ⟨(some 21),some (17,false),(.call 69 [(.t 20)])⟩,
  ⟨(some 22),some (17,false),(.op (.bin .int true .neq (.t 21) (cI 0)))⟩,
  (rO 23 (.pick (.t 17) (cB true) (.t 22)))])
  (.live [1,23] (.cond (.t 23) (.seq (.region [(rO 2 (.mv (cB false)))])
  (.ret))
  (.skip))))
  (.live [1] (.seq (.region [rF 24 1 1,
  rL 25 24,
  ⟨(some 26),none,(.call 71 [(.t 25),(.c (.f (.func 72) [] []))])⟩,
  (rO 27 (.un .not (.t 26))),
  rM 2 27])
  (.ret))))),
 []⟩
def c47:IFunc:=⟨2,[.tmp 4],
 .seq (.region [(rO 2 (.box (.t 0))),
  (rO 3 (.box (.t 1))),
  (rO 4 (.mv (cB false)))])
  (.live [3,2] (.seq (.region [rF 5 0 2,
  rL 6 5,
  rF 7 0 3,
  rL 8 7,
  (rO 9 (.bin .int false .eql (.t 6) (.t 8))),
  rM 10 9,
  ⟨(some 11),some (10,true),(.op (.faddr 1 (.t 2)))⟩,
  ⟨(some 12),some (10,true),(.op (.load none (.t 11)))⟩,
  ⟨(some 13),some (10,true),(.op (.faddr 1 (.t 3)))⟩,
  ⟨(some 14),some (10,true),(.op (.load none (.t 13)))⟩,
  ⟨(some 15),some (10,true),(.call 73 [(.t 12),(.t 14)])⟩,
  (rO 16 (.pick (.t 10) (.t 15) (cB false))),
  rM 4 16])
  (.ret))),
 []⟩
def c48:IFunc:=⟨2,[.tmp 4],
 .seq (.region [(rO 3 (.box (.t 1))),
  (rO 4 (.mv (cB false)))])
  (.live [3,0] (.seq (.region [rM 8 0,
  rF 9 3 3,
  rL 10 9,
  rC 11 74 [(.t 8),(.t 10)],
  rM 7 11,
  rX 12 7 0,
  rX 13 7 1,
  rM 5 12,
  rM 6 13])
  (.live [3,6] (.seq (.seq (.region [rM 14 6,
  (rO 15 (.bin .int true .neq (.t 14) (cI 0))),
  rM 16 15,
  ⟨(some 17),some (16,false),(.op (.faddr 0 (.t 3)))⟩,
  ⟨(some 18),some (16,false),(.op (.load none (.t 17)))⟩,
  ⟨(some 19),some (16,false),(.op (.bin .int true .lss (.t 18) (.c (.i .u64 1))))⟩,
  (rO 20 (.pick (.t 16) (cB true) (.t 19))),
  rM 21 20,
  ⟨(some 22),some (21,false),(.op (.faddr 0 (.t 3)))⟩,
  ⟨(some 23),some (21,false),(.op (.load none (.t 22)))⟩,
  ⟨(some 24),some (21,false),(.op (.bin .int true .gtr (.t 23) (.c (.i .u64 281474976710656))))⟩,
  (rO 25 (.pick (.t 21) (cB true) (.t 24))),
  rM 26 25,
  ⟨(some 27),some (26,false),(.op (.faddr 2 (.t 3)))⟩,
  ⟨(some 28),some (26,false),(.op (.load none (.t 27)))⟩,
  ⟨(some 29),some (26,false),(.op (.bin .int true .lss (.t 28) (.c (.i .u64 1))))⟩,
  (rO 30 (.pick (.t 26) (cB true) (.t 29))),
  rM 31 30,
  ⟨(some 32),some (31,false),(.op (.faddr 2 (.t 3)))⟩,
  ⟨(some 33),some (31,false),(.op (.load none (.t 32)))⟩,
  ⟨(some 34),some (31,false),(.op (.bin .int true .gtr (.t 33) (.c (.i .u64 281474976710656))))⟩,
  (rO 35 (.pick (.t 31) (cB true) (.t 34)))])
  (.live [3,35] (.cond (.t 35) (.seq (.region [(rO 4 (.mv (cB false)))])
  (.ret))
  (.skip))))
  (.live [3] (.seq (.region [rF 36 1 3,
  rL 37 36,
  (rO 38 (.bin .int true .leq (.t 37) (.c (.i .u32 2147483648)))),
  rM 39 38,
  ⟨(some 40),some (39,true),(.op (.faddr 4 (.t 3)))⟩,
  ⟨(some 41),some (39,true),(.op (.load (some 2) (.t 40)))⟩,
  ⟨(some 42),some (39,true),(.call 75 [(.t 41)])⟩,
  (rO 43 (.pick (.t 39) (.t 42) (cB false))),
  rM 4 43])
  (.ret))))))),
 []⟩
def c49l0:ICode :=
 .seq (.region [(rO 17 (.bin .int false .lss (.t 16) (.t 15)))])
  (.live [14,15,16,4,17] (.seq (.cond (.t 17) (.skip)
  (.exit 0))
  (.live [14,15,16,4] (.seq (.block 1 (.seq (.region [(rO 18 (.iaddr none 14 (.t 14) (.t 16))),
  rK 19 14 18,
  (rO 6 (.fresh [(.i .i64 0),(.i .u8 0),(.i .u8 0),(.i .u8 0),(.i .u8 0),(.i .i64 0),(.i .u64 0),(.i .u64 0),(.i .u64 0),(.i .u64 0),(.i .u64 0),(.i .u64 0),(.i .u64 0),(.i .u64 0)])),
  rS 14 6 19])
  (.live [14,15,16,6,4] (.seq (.region [rM 20 4,
  rF 21 0 6,
  rK 22 13 21,
  rC 23 76 [(.t 22)],
  (rO 24 (.app 1 8 (.t 20) (.t 23))),
  rM 4 24])
  (.live [14,15,16,6,4] (.region [rM 25 4,
  rF 26 13 6,
  rL 27 26,
  (rO 28 (.bslice [(.i .u64 0)] 1 [(0,1,(.t 27))])),
  (rO 29 (.app 1 8 (.t 25) (.t 28))),
  rM 4 29]))))))
  (.live [14,15,4,16] (.region [(rO 30 (.bin .int true .add (.t 16) (cI 1))),
  rM 16 30]))))))
def c49:IFunc:=⟨1,[.tmp 2,.tmp 3],
 .seq (.region [(rO 1 (.box (.t 0))),
  (rO 2 (.mv (.c .sn))),
  (rO 3 (.mv (cI 0)))])
  (.live [1] (.seq (.seq (.region [rK 7 2 1,
  rC 8 75 [(.t 7)],
  (rO 9 (.un .not (.t 8)))])
  (.live [1,9] (.cond (.t 9) (.seq (.region [(rO 2 (.mv (.c .sn))),
  (rO 3 (.mv (cI 131)))])
  (.ret))
  (.skip))))
  (.live [1] (.seq (.region [rF 10 0 1,
  rL 11 10,
  (rO 12 (.bslice [(.i .u64 0)] 1 [(0,1,(.t 11))])),
  rM 4 12])
  (.live [4,1] (.seq (.seq (.region [rF 13 1 1,
  rL 14 13,
  (rO 15 (.len .slice (.t 14))),
  (rO 16 (.mv (cI 0)))])
  (.live [14,15,16,4] (.block 0 (.loop [14,15,16,4] c49l0))))
  (.live [4] (.seq (.region [rM 31 4,
  rC 32 50 [(.t 31)],
  rM 2 32,
  (rO 3 (.mv (cI 0)))])
  (.ret))))))))),
 []⟩
def c50l0:ICode :=
 .seq (.region [(rO 10 (.bin .int false .lss (.t 9) (.t 8)))])
  (.live [7,8,9,3,10] (.seq (.cond (.t 10) (.skip)
  (.exit 0))
  (.live [7,8,9,3] (.seq (.block 1 (.seq (.region [(rO 11 (.iaddr none 1 (.t 7) (.t 9))),
  rL 12 11,
  rM 5 12])
  (.live [7,8,9,5,3] (.region [rM 13 3,
  rM 14 5,
  rC 15 77 [(.t 14)],
  (rO 16 (.app 1 1 (.t 13) (.t 15))),
  rM 3 16]))))
  (.live [7,8,3,9] (.region [(rO 17 (.bin .int true .add (.t 9) (cI 1))),
  rM 9 17]))))))
def c50:IFunc:=⟨1,[.tmp 2],
 .seq (.region [(rO 2 (.mv (.c .sn)))])
  (.live [0] (.seq (.region [(rO 6 (.bslice [(.i .u8 0)] 0 [])),
  rM 3 6])
  (.live [3,0] (.seq (.seq (.region [rM 7 0,
  (rO 8 (.len .slice (.t 7))),
  (rO 9 (.mv (cI 0)))])
  (.live [7,8,9,3] (.block 0 (.loop [7,8,9,3] c50l0))))
  (.live [3] (.seq (.region [rM 18 3,
  rM 2 18])
  (.ret))))))),
 []⟩
def c51:IFunc:=⟨2,[.cell 4 (some 64),.tmp 5],
 .seq (.region [(rO 4 (.fresh z64)),
  (rO 5 (.mv (cI 0)))])
  (.live [4,1,0] (.seq (.seq (.region [rM 6 0,
  rM 7 1,
  rC 8 34 [(.t 6),(.t 7)],
  (rO 9 (.un .not (.t 8)))])
  (.live [4,1,0,9] (.cond (.t 9) (.seq (.region [(rO 10 (.build z64 [])),
  rS 64 4 10,
  (rO 5 (.mv (cI 71)))])
  (.ret))
  (.skip))))
  (.live [4,1,0] (.seq (.region [rM 11 0,
  (rO 12 (.nilck (.t 11))),
  rF 13 0 12,
  rL 14 13,
  rM 15 1,
  (rO 16 (.iaddr none 64 (.t 14) (.t 15))),
  rK 17 64 16,
  rS 64 4 17,
  (rO 5 (.mv (cI 0)))])
  (.ret))))),
 []⟩
def c52l0:ICode :=
 .seq (.seq (.region [rM 10 3,
  (rO 11 (.bin .int true .mul (cI 64) (.t 10))),
  rM 12 0,
  (rO 13 (.bin .int true .add (.t 12) (cI 18))),
  (rO 14 (.bin .int false .lss (.t 11) (.t 13)))])
  (.live [0,3,14] (.cond (.t 14) (.skip)
  (.exit 0))))
  (.live [0,3] (.block 1 (.region [rM 15 3,
  (rO 16 (.bin .int true .add (.t 15) (cI 1))),
  rM 3 16])))
def c52:IFunc:=⟨1,[.tmp 2],
 .seq (.region [(rO 2 (.mv (cI 0)))])
  (.live [0] (.seq (.seq (.region [rM 4 0,
  (rO 5 (.bin .int true .lss (.t 4) (cI 0))),
  rM 6 5,
  ⟨(some 7),some (6,false),(.op (.mv (.t 0)))⟩,
  ⟨(some 8),some (6,false),(.op (.bin .int true .gtr (.t 7) (cI 700)))⟩,
  (rO 9 (.pick (.t 6) (cB true) (.t 8)))])
  (.live [0,9] (.cond (.t 9) (.seq (.region [(rO 2 (.mv (cI 0)))])
  (.ret))
  (.skip))))
  (.live [0] (.seq (.region [(rO 3 (.mv (cI 0)))])
  (.live [0,3] (.seq (.block 0 (.loop [0,3] c52l0))
  (.live [3] (.seq (.region [rM 17 3,
  rM 2 17])
  (.ret))))))))),
 []⟩
def c53d0:List Stage :=
 [⟨[(⟨(some 16),none,(.op (.mv (.t 0)))⟩,0),(⟨(some 17),none,(.op (.mv (.t 5)))⟩,0),(⟨(some 18),none,(.op (.iaddr none 64 (.t 16) (.t 17)))⟩,0),(⟨(some 19),none,(.op (.load (some 64) (.t 18)))⟩,0),(⟨(some 20),none,(.op (.mv (.t 1)))⟩,0),(⟨(some 21),none,(.op (.mv (.t 5)))⟩,0),(⟨(some 22),none,(.op (.iaddr none 64 (.t 20) (.t 21)))⟩,0),(⟨(some 23),none,(.op (.load (some 64) (.t 22)))⟩,0),(⟨(some 24),none,(.op (.eqag true [.int,.int,.int,.int,.int,.int,.int,.int,.int,.int,.int,.int,.int,.int,.int,.int,.int,.int,.int,.int,.int,.int,.int,.int,.int,.int,.int,.int,.int,.int,.int,.int,.int,.int,.int,.int,.int,.int,.int,.int,.int,.int,.int,.int,.int,.int,.int,.int,.int,.int,.int,.int,.int,.int,.int,.int,.int,.int,.int,.int,.int,.int,.int,.int] (.t 19) (.t 23)))⟩,0)],none,none⟩]
def c53d0w:List (ROp × Bool) :=
 [(rM 16 0,false),(rM 17 5,false),((rO 18 (.iaddr none 64 (.t 16) (.t 17))),false),(rK 19 64 18,false),(rM 20 1,false),(rM 21 5,false),((rO 22 (.iaddr none 64 (.t 20) (.t 21))),false),(rK 23 64 22,false),((rO 24 (.eqag true [.int,.int,.int,.int,.int,.int,.int,.int,.int,.int,.int,.int,.int,.int,.int,.int,.int,.int,.int,.int,.int,.int,.int,.int,.int,.int,.int,.int,.int,.int,.int,.int,.int,.int,.int,.int,.int,.int,.int,.int,.int,.int,.int,.int,.int,.int,.int,.int,.int,.int,.int,.int,.int,.int,.int,.int,.int,.int,.int,.int,.int,.int,.int,.int] (.t 19) (.t 23))),false)]
theorem c53d0_w {P:Program} {O:Orc} {S0:Mem} {rd:Bool} {e:Env} {S:Mem} {d:List Nat} {Q:Kont}:W P O S0 rd (.draw c53d0 []) e S d Q=wFl O c53d0w e S (normK Q d):=W_draw' (by kernel_rfl) (by kernel_rfl)
attribute [go_sem] c53d0_w c53d0w
def c53l1:ICode :=
 .seq (.region [(rO 14 (.bin .int false .lss (.t 13) (.t 12)))])
  (.live [0,1,12,13,14] (.seq (.cond (.t 14) (.skip)
  (.exit 0))
  (.live [0,1,12,13] (.seq (.block 1 (.seq (.region [rM 15 13,
  rM 5 15])
  (.live [0,1,12,13,5] (.seq (.draw c53d0 [])
  (.live [0,1,12,13,24] (.cond (.t 24) (.seq (.region [(rO 4 (.mv (cB false)))])
  (.ret))
  (.skip)))))))
  (.live [0,1,12,13] (.region [(rO 25 (.bin .int true .add (.t 13) (cI 1))),
  rM 13 25]))))))
def c53:IFunc:=⟨2,[.tmp 4],
 .seq (.region [(rO 4 (.mv (cB false)))])
  (.live [0,1] (.seq (.seq (.region [rM 6 0,
  (rO 7 (.len .slice (.t 6))),
  rM 8 1,
  (rO 9 (.len .slice (.t 8))),
  (rO 10 (.bin .int false .neq (.t 7) (.t 9)))])
  (.live [0,1,10] (.cond (.t 10) (.seq (.region [(rO 4 (.mv (cB false)))])
  (.ret))
  (.skip))))
  (.live [0,1] (.seq (.seq (.region [rM 11 0,
  (rO 12 (.len .slice (.t 11))),
  (rO 13 (.mv (cI 0)))])
  (.live [0,1,12,13] (.block 0 (.loop [0,1,12,13] c53l1))))
  (.live [] (.seq (.region [(rO 4 (.mv (cB true)))])
  (.ret))))))),
 []⟩
def c54d0:List Stage :=
 [⟨[(⟨(some 20),none,(.op (.mv (.t 4)))⟩,1),(⟨(some 21),none,(.op (.faddr 0 (.t 6)))⟩,0),(⟨(some 22),none,(.op (.load (some 13) (.t 21)))⟩,0),(⟨(some 25),none,(.op (.faddr 13 (.t 6)))⟩,2),(⟨(some 26),none,(.op (.load none (.t 25)))⟩,2)],none,some ⟨(some 23),none,(.call 78 [(.t 22)])⟩⟩,
  ⟨[],none,some ⟨(some 24),none,(.op (.app 1 8 (.t 20) (.t 23)))⟩⟩,
  ⟨[],some ⟨(some 27),none,(.op (.bslice [(.i .u64 0)] 1 [(0,1,(.t 26))]))⟩,some ⟨(some 28),none,(.op (.app 1 8 (.t 24) (.t 27)))⟩⟩,
  ⟨[(⟨(some 4),none,(.op (.mv (.t 28)))⟩,3)],none,none⟩]
theorem c54d0_e {P:Program} {O:Orc} {S0:Mem} {rd:Bool} {e:Env} {S:Mem} {d:List Nat} {Q:Kont}:W P O S0 rd (.draw c54d0 [4]) e S d Q=drawK (evDraw O c54d0 [4] e S) (normK Q d):=W_drawE (by kernel_rfl)
attribute [go_sem] c54d0_e
def c54l1:ICode :=
 .seq (.region [(rO 17 (.bin .int false .lss (.t 16) (.t 15)))])
  (.live [14,15,16,4,17] (.seq (.cond (.t 17) (.skip)
  (.exit 0))
  (.live [14,15,16,4] (.seq (.block 1 (.seq (.region [(rO 18 (.iaddr none 14 (.t 14) (.t 16))),
  rK 19 14 18,
  (rO 6 (.fresh [(.i .i64 0),(.i .u8 0),(.i .u8 0),(.i .u8 0),(.i .u8 0),(.i .i64 0),(.i .u64 0),(.i .u64 0),(.i .u64 0),(.i .u64 0),(.i .u64 0),(.i .u64 0),(.i .u64 0),(.i .u64 0)])),
  rS 14 6 19])
  (.live [14,15,16,6,4] (.draw c54d0 [4]))))
  (.live [14,15,4,16] (.region [(rO 29 (.bin .int true .add (.t 16) (cI 1))),
  rM 16 29]))))))
def c54:IFunc:=⟨1,[.tmp 2,.tmp 3],
 .seq (.region [(rO 1 (.box (.t 0))),
  (rO 2 (.mv (.c .sn))),
  (rO 3 (.mv (cI 0)))])
  (.live [1] (.seq (.seq (.region [rK 7 2 1,
  rC 8 46 [(.t 7)],
  (rO 9 (.un .not (.t 8)))])
  (.live [1,9] (.cond (.t 9) (.seq (.region [(rO 2 (.mv (.c .sn))),
  (rO 3 (.mv (cI 131)))])
  (.ret))
  (.skip))))
  (.live [1] (.seq (.region [rF 10 0 1,
  rL 11 10,
  (rO 12 (.bslice [(.i .u64 0)] 1 [(0,1,(.t 11))])),
  rM 4 12])
  (.live [4,1] (.seq (.seq (.region [rF 13 1 1,
  rL 14 13,
  (rO 15 (.len .slice (.t 14))),
  (rO 16 (.mv (cI 0)))])
  (.live [14,15,16,4] (.block 0 (.loop [14,15,16,4] c54l1))))
  (.live [4] (.seq (.region [rM 30 4,
  rC 31 56 [(.t 30)],
  rM 2 31,
  (rO 3 (.mv (cI 0)))])
  (.ret))))))))),
 []⟩
def c55l0:ICode :=
 .seq (.region [(rO 12 (.bin .int false .lss (.t 11) (.t 10)))])
  (.live [9,0,10,11,3,12] (.seq (.cond (.t 12) (.skip)
  (.exit 0))
  (.live [9,0,10,11,3] (.seq (.block 1 (.seq (.region [(rO 13 (.iaddr none 1 (.t 9) (.t 11))),
  rL 14 13,
  rM 5 14])
  (.live [9,0,10,11,5,3] (.seq (.region [rM 15 3,
  rM 16 5,
  (rO 17 (.len .slice (.t 16))),
  (rO 18 (.bin .int false .add (.t 15) (.t 17))),
  rM 3 18])
  (.live [9,0,10,3,11] (.seq (.region [rM 19 3,
  (rO 20 (.bin .int true .lss (.t 19) (cI 0)))])
  (.live [9,0,10,3,11,20] (.cond (.t 20) (.region [(rO 21 (.bad)),
  ⟨none,none,(.op (.bad))⟩])
  (.skip)))))))))
  (.live [9,0,10,3,11] (.region [(rO 22 (.bin .int true .add (.t 11) (cI 1))),
  rM 11 22]))))))
def c55l1:ICode :=
 .seq (.region [(rO 28 (.bin .int false .lss (.t 27) (.t 26)))])
  (.live [25,26,27,6,28] (.seq (.cond (.t 28) (.skip)
  (.exit 2))
  (.live [25,26,27,6] (.seq (.block 3 (.seq (.region [(rO 29 (.iaddr none 1 (.t 25) (.t 27))),
  rL 30 29,
  rM 8 30])
  (.live [25,26,27,8,6] (.region [rM 31 6,
  rM 32 8,
  (rO 33 (.app 1 1 (.t 31) (.t 32))),
  rM 6 33]))))
  (.live [25,26,6,27] (.region [(rO 34 (.bin .int true .add (.t 27) (cI 1))),
  rM 27 34]))))))
def c55:IFunc:=⟨1,[.tmp 2],
 .seq (.region [(rO 2 (.mv (.c .sn)))])
  (.live [0] (.seq (.region [(rO 3 (.mv (cI 0)))])
  (.live [0,3] (.seq (.seq (.region [rM 9 0,
  (rO 10 (.len .slice (.t 9))),
  (rO 11 (.mv (cI 0)))])
  (.live [9,0,10,11,3] (.block 0 (.loop [9,0,10,11,3] c55l0))))
  (.live [0,3] (.seq (.region [rM 23 3,
  rC 24 79 [(.c .sn),(.t 23)],
  rM 6 24])
  (.live [6,0] (.seq (.seq (.region [rM 25 0,
  (rO 26 (.len .slice (.t 25))),
  (rO 27 (.mv (cI 0)))])
  (.live [25,26,27,6] (.block 2 (.loop [25,26,27,6] c55l1))))
  (.live [6] (.seq (.region [rM 35 6,
  rM 2 35])
  (.ret))))))))))),
 []⟩
def c56l0:ICode :=
 .seq (.region [(rO 9 (.bin .int false .lss (.t 8) (.t 7)))])
  (.live [6,7,8,3,9] (.seq (.cond (.t 9) (.skip)
  (.exit 0))
  (.live [6,7,8,3] (.seq (.block 1 (.seq (.region [(rO 10 (.iaddr none 1 (.t 6) (.t 8))),
  rL 11 10,
  rM 5 11])
  (.live [6,7,8,5,3] (.region [rM 12 3,
  rM 13 5,
  rC 14 80 [(.t 13)],
  (rO 15 (.app 1 1 (.t 12) (.t 14))),
  rM 3 15]))))
  (.live [6,7,3,8] (.region [(rO 16 (.bin .int true .add (.t 8) (cI 1))),
  rM 8 16]))))))
def c56:IFunc:=⟨1,[.tmp 2],
 .seq (.region [(rO 2 (.mv (.c .sn)))])
  (.live [0] (.seq (.region [(rO 3 (.mv (.c .sn)))])
  (.live [3,0] (.seq (.seq (.region [rM 6 0,
  (rO 7 (.len .slice (.t 6))),
  (rO 8 (.mv (cI 0)))])
  (.live [6,7,8,3] (.block 0 (.loop [6,7,8,3] c56l0))))
  (.live [3] (.seq (.region [rM 17 3,
  rM 2 17])
  (.ret))))))),
 []⟩
def c57:IFunc:=⟨1,[.tmp 2],
 .seq (.region [(rO 2 (.mv (cI 0)))])
  (.live [0] (.seq (.seq (.region [rM 3 0,
  (rO 4 (.bin .int true .lss (.t 3) (cI 0))),
  rM 5 4,
  ⟨(some 6),some (5,false),(.op (.mv (.t 0)))⟩,
  ⟨(some 7),some (5,false),(.op (.bin .int true .gtr (.t 6) (cI 700)))⟩,
  (rO 8 (.pick (.t 5) (cB true) (.t 7)))])
  (.live [0,8] (.cond (.t 8) (.seq (.region [(rO 2 (.mv (cI 0)))])
  (.ret))
  (.skip))))
  (.live [0] (.seq (.region [rM 9 0,
  (rO 10 (.bin .int true .add (cI 14) (.t 9))),
  (rO 11 (.bin .int true .add (.t 10) (cI 4))),
  (rO 12 (.bin .int true .add (.t 11) (cI 64))),
  (rO 13 (.bin .int true .sub (.t 12) (cI 1))),
  (rO 14 (.bin .int true .quo (.t 13) (cI 64))),
  rM 2 14])
  (.ret))))),
 []⟩
def c58:IFunc:=⟨1,[.tmp 2],
 .seq (.region [(rO 2 (.mv (.c .sn)))])
  (.live [0] (.seq (.region [rM 3 0,
  rM 4 0,
  (rO 5 (.bslice [.sn] 1 [(0,1,(.t 4))])),
  rC 6 82 [(.t 5)],
  rC 7 81 [(.t 6)],
  (rO 8 (.bslice [.sn] 2 [(0,1,(.t 3)),(1,1,(.t 7))])),
  rC 9 55 [(.t 8)],
  rM 2 9])
  (.ret))),
 []⟩
def c59ra0:ICode :=
 .region [rM 6 11]
def c59rb0:ICode :=
 .block 1 (.seq (.region [rL 13 5,
  rM 14 6,
  rL 15 2,
  (rO 16 (.toInt .u8 (.t 15))),
  (rO 17 (.iaddr none 1 (.t 13) (.t 14))),
  rS 1 17 16])
  (.live [2] (.region [rL 18 2,
  (rO 19 (.bin .int true .shr (.t 18) (.c (.i .u64 8)))),
  rS 1 2 19])))
def c59:IFunc:=⟨2,[.tmp 4],
 .seq (.region [(rO 2 (.box (.t 0))),
  (rO 4 (.mv (.c .sn)))])
  (.live [11,6,15,13,14,17,16,18,2,19,1] (.seq (.region [rM 7 1,
  (rO 8 (.mks [(.i .u8 0)] 1 (.t 7) (.t 7))),
  (rO 5 (.fresh [.sn])),
  rS 1 5 8])
  (.live [5,11,6,15,13,14,17,16,18,2,19] (.seq (.seq (.region [rL 9 5,
  rC 10 83 [(.t 9)]])
  (.live [5,11,6,15,13,14,17,16,18,2,19,10] (.block 0 (.rf (.t 10) 59 [true,true,false,true,false] [11,5,6,2,15,13,14,17,16,2,18,2,19]))))
  (.live [5] (.seq (.region [rL 20 5,
  rM 4 20])
  (.ret))))))),
 [([true,true,false,true,false],[11,12],c59ra0,c59rb0)]⟩
def c60:IFunc:=⟨1,[.tmp 2],
 .seq (.region [(rO 2 (.mv (cB false)))])
  (.live [] (.seq (.region [(rO 2 (.mv (cB true)))])
  (.ret))),
 []⟩
def c61:IFunc:=⟨2,[.tmp 4],
 .seq (.region [(rO 4 (.mv (.c .sn)))])
  (.live [0,1] (.seq (.seq (.region [rM 5 1,
  (rO 6 (.bin .int true .eql (.t 5) (cI 0)))])
  (.live [0,1,6] (.cond (.t 6) (.seq (.region [(rO 7 (.bslice [(.i .u8 0)] 0 [])),
  rM 4 7])
  (.ret))
  (.skip))))
  (.live [0,1] (.seq (.region [rM 8 0,
  (rO 9 (.bin .int true .quo (.t 8) (.c (.i .u64 256)))),
  rM 10 1,
  (rO 11 (.bin .int true .sub (.t 10) (cI 1))),
  rC 12 61 [(.t 9),(.t 11)],
  rM 13 0,
  (rO 14 (.bin .int true .rem (.t 13) (.c (.i .u64 256)))),
  (rO 15 (.toInt .u8 (.t 14))),
  (rO 16 (.bslice [(.i .u8 0)] 1 [(0,1,(.t 15))])),
  (rO 17 (.app 1 1 (.t 12) (.t 16))),
  rM 4 17])
  (.ret))))),
 []⟩
def c62:IFunc:=⟨1,[.tmp 2],
 .seq (.region [(rO 2 (.mv (.c .sn)))])
  (.live [0] (.seq (.region [rM 5 0,
  rC 6 84 [(.t 5)],
  rM 3 6])
  (.live [3,0] (.seq (.region [(rO 7 (.bslice [(.i .u8 0)] 0 [])),
  rM 8 0,
  (rO 9 (.app 1 1 (.t 7) (.t 8))),
  rM 4 9])
  (.live [3,4] (.seq (.region [rM 10 4,
  rM 11 3,
  (rO 12 (.bin .int true .quo (.t 11) (.c (.i .u32 16777216)))),
  (rO 13 (.toInt .u8 (.t 12))),
  rM 14 3,
  (rO 15 (.bin .int true .quo (.t 14) (.c (.i .u32 65536)))),
  (rO 16 (.bin .int true .rem (.t 15) (.c (.i .u32 256)))),
  (rO 17 (.toInt .u8 (.t 16))),
  rM 18 3,
  (rO 19 (.bin .int true .quo (.t 18) (.c (.i .u32 256)))),
  (rO 20 (.bin .int true .rem (.t 19) (.c (.i .u32 256)))),
  (rO 21 (.toInt .u8 (.t 20))),
  rM 22 3,
  (rO 23 (.bin .int true .rem (.t 22) (.c (.i .u32 256)))),
  (rO 24 (.toInt .u8 (.t 23))),
  (rO 25 (.bslice [(.i .u8 0)] 4 [(0,1,(.t 13)),(1,1,(.t 17)),(2,1,(.t 21)),(3,1,(.t 24))])),
  (rO 26 (.app 1 1 (.t 10) (.t 25))),
  rM 2 26])
  (.ret))))))),
 []⟩
def c63l0:ICode :=
 .seq (.region [(rO 40 (.bin .int false .lss (.t 39) (.t 38)))])
  (.live [37,2,6,5,38,39,7,40] (.seq (.cond (.t 40) (.skip)
  (.exit 0))
  (.live [37,2,6,5,38,39,7] (.seq (.block 1 (.seq (.region [(rO 41 (.iaddr none 64 (.t 37) (.t 39))),
  rK 42 64 41,
  (rO 9 (.fresh z64)),
  rS 64 9 42])
  (.live [37,2,6,5,38,39,9,7] (.region [rM 43 7,
  (rO 44 (.sla 64 1 (.t 9) none none none)),
  (rO 45 (.app 1 1 (.t 43) (.t 44))),
  rM 7 45]))))
  (.live [37,2,6,5,38,7,39] (.region [(rO 46 (.bin .int true .add (.t 39) (cI 1))),
  rM 39 46]))))))
def c63d1:List Stage :=
 [⟨[(⟨(some 67),none,(.op (.mv (.t 11)))⟩,0),(⟨(some 68),none,(.op (.slice 1 (.t 67) (some (.c (.i .i64 2))) (some (.c (.i .i64 10))) none))⟩,0),(⟨(some 70),none,(.op (.mv (.t 11)))⟩,1),(⟨(some 71),none,(.op (.slice 1 (.t 70) (some (.c (.i .i64 10))) (some (.c (.i .i64 14))) none))⟩,1),(⟨(some 74),none,(.op (.mv (.t 11)))⟩,2),(⟨(some 75),none,(.op (.slice 1 (.t 74) (some (.c (.i .i64 14))) none none))⟩,2)],none,some ⟨(some 69),none,(.call 85 [(.t 68)])⟩⟩,
  ⟨[],none,some ⟨(some 72),none,(.call 85 [(.t 71)])⟩⟩,
  ⟨[(⟨(some 73),none,(.op (.toInt .u32 (.t 72)))⟩,2),(⟨(some 76),none,(.op (.build [(.i .u64 0),(.i .u32 0),.sn] [(0,1,(.t 69)),(1,1,(.t 73)),(2,1,(.t 75))]))⟩,2)],some ⟨(some 14),none,(.op (.fresh [(.i .u64 0),(.i .u32 0),.sn]))⟩,some ⟨none,none,(.op (.store 3 (.t 14) (.t 76)))⟩⟩,
  ⟨[],none,none⟩]
def c63d1w:List (ROp × Bool) :=
 [(rM 67 11,false),((rO 68 (.slice 1 (.t 67) (some (cI 2)) (some (cI 10)) none)),false),(rM 70 11,false),((rO 71 (.slice 1 (.t 70) (some (cI 10)) (some (cI 14)) none)),false),(rM 74 11,false),((rO 75 (.slice 1 (.t 74) (some (cI 14)) none none)),false),(rC 69 85 [(.t 68)],true),(rC 72 85 [(.t 71)],true),((rO 73 (.toInt .u32 (.t 72))),false),((rO 76 (.build [(.i .u64 0),(.i .u32 0),.sn] [(0,1,(.t 69)),(1,1,(.t 73)),(2,1,(.t 75))])),false),((rO 14 (.fresh [(.i .u64 0),(.i .u32 0),.sn])),true),(rS 3 14 76,false)]
theorem c63d1_w {P:Program} {O:Orc} {S0:Mem} {rd:Bool} {e:Env} {S:Mem} {d:List Nat} {Q:Kont}:W P O S0 rd (.draw c63d1 []) e S d Q=wFl O c63d1w e S (normK Q d):=W_draw' (by kernel_rfl) (by kernel_rfl)
attribute [go_sem] c63d1_w c63d1w
def c63:IFunc:=⟨1,[.cell 2 (some 3),.tmp 3,.tmp 4],
 .seq (.region [(rO 2 (.fresh [(.i .u64 0),(.i .u32 0),.sn])),
  (rO 3 (.mv (cI 0))),
  (rO 4 (.mv (cB false)))])
  (.live [2,0] (.seq (.seq (.region [rM 15 0,
  (rO 16 (.len .slice (.t 15))),
  (rO 17 (.bin .int true .eql (.t 16) (cI 0)))])
  (.live [2,0,17] (.cond (.t 17) (.seq (.region [(rO 18 (.build [(.i .u64 0),(.i .u32 0),.sn] [])),
  rS 3 2 18,
  (rO 3 (.mv (cI 0))),
  (rO 4 (.mv (cB false)))])
  (.ret))
  (.skip))))
  (.live [2,0] (.seq (.region [rM 19 0,
  (rO 20 (.iaddr none 64 (.t 19) (cI 0))),
  (rO 21 (.sla 64 1 (.t 20) none (some (cI 2)) none)),
  rC 22 85 [(.t 21)],
  (rO 23 (.toInt .i64 (.t 22))),
  rM 5 23])
  (.live [2,5,0] (.seq (.region [rM 24 5,
  rC 25 57 [(.t 24)],
  rM 6 25])
  (.live [2,6,5,0] (.seq (.seq (.region [rM 26 6,
  (rO 27 (.bin .int true .eql (.t 26) (cI 0))),
  rM 28 27,
  ⟨(some 29),some (28,false),(.op (.mv (.t 6)))⟩,
  ⟨(some 30),some (28,false),(.op (.mv (.t 0)))⟩,
  ⟨(some 31),some (28,false),(.op (.len .slice (.t 30)))⟩,
  ⟨(some 32),some (28,false),(.op (.bin .int false .gtr (.t 29) (.t 31)))⟩,
  (rO 33 (.pick (.t 28) (cB true) (.t 32)))])
  (.live [2,6,5,0,33] (.cond (.t 33) (.seq (.region [(rO 34 (.build [(.i .u64 0),(.i .u32 0),.sn] [])),
  rS 3 2 34,
  (rO 3 (.mv (cI 0))),
  (rO 4 (.mv (cB false)))])
  (.ret))
  (.skip))))
  (.live [2,6,5,0] (.seq (.region [(rO 7 (.mv (.c .sn)))])
  (.live [2,6,5,7,0] (.seq (.seq (.region [rM 35 0,
  rM 36 6,
  (rO 37 (.slice 64 (.t 35) none (some (.t 36)) none)),
  (rO 38 (.len .slice (.t 37))),
  (rO 39 (.mv (cI 0)))])
  (.live [37,2,6,5,38,39,7] (.block 0 (.loop [37,2,6,5,38,39,7] c63l0))))
  (.live [2,6,7,5] (.seq (.region [rM 47 5,
  (rO 48 (.bin .int true .add (cI 14) (.t 47))),
  (rO 49 (.bin .int true .add (.t 48) (cI 4))),
  rM 10 49])
  (.live [2,6,10,7] (.seq (.region [rM 51 7,
  rM 52 10,
  (rO 53 (.slice 1 (.t 51) none (some (.t 52)) none)),
  rC 54 86 [(.t 53)],
  rM 50 54,
  rX 55 50 0,
  rX 56 50 1,
  rM 11 55,
  rM 12 56])
  (.live [2,6,11,12,10,7] (.seq (.region [rM 57 7,
  rM 58 10,
  (rO 59 (.slice 1 (.t 57) (some (.t 58)) none none)),
  ⟨(some 60),none,(.call 87 [(.t 59),(.c (.f (.func 88) [] []))])⟩,
  rM 13 60])
  (.live [2,6,11,13,12] (.seq (.seq (.region [rM 61 12,
  (rO 62 (.un .not (.t 61))),
  rM 63 62,
  ⟨(some 64),some (63,false),(.op (.mv (.t 13)))⟩,
  (rO 65 (.pick (.t 63) (cB true) (.t 64)))])
  (.live [2,6,11,65] (.cond (.t 65) (.seq (.region [(rO 66 (.build [(.i .u64 0),(.i .u32 0),.sn] [])),
  rS 3 2 66,
  (rO 3 (.mv (cI 0))),
  (rO 4 (.mv (cB false)))])
  (.ret))
  (.skip))))
  (.live [2,6,11] (.seq (.draw c63d1 [])
  (.live [2,6,14] (.seq (.seq (.region [rF 77 0 14,
  rL 78 77,
  (rO 79 (.bin .int true .eql (.t 78) (.c (.i .u64 0))))])
  (.live [2,6,14,79] (.cond (.t 79) (.seq (.region [(rO 80 (.build [(.i .u64 0),(.i .u32 0),.sn] [])),
  rS 3 2 80,
  (rO 3 (.mv (cI 0))),
  (rO 4 (.mv (cB false)))])
  (.ret))
  (.skip))))
  (.live [2,6,14] (.seq (.region [rK 81 3 14,
  rM 82 6,
  rS 3 2 81,
  rM 3 82,
  (rO 4 (.mv (cB true)))])
  (.ret))))))))))))))))))))))))))),
 []⟩
def c64d0:List Stage :=
 [⟨[(⟨(some 60),none,(.op (.load (some 6) (.t 14)))⟩,1),(⟨(some 61),none,(.op (.mv (.t 12)))⟩,0),(⟨(some 62),none,(.op (.mv (.t 61)))⟩,0),(⟨(some 63),some (62,true),(.op (.mv (.t 8)))⟩,0),(⟨(some 64),some (62,true),(.op (.bin .int true .eql (.t 63) (.c (.i .i64 0))))⟩,0),(⟨(some 65),none,(.op (.pick (.t 62) (.t 64) (.c (.b false))))⟩,0),(⟨(some 66),none,(.op (.mv (.t 65)))⟩,0),(⟨(some 67),some (66,true),(.op (.mv (.t 0)))⟩,0),(⟨(some 68),some (66,true),(.op (.load (some 6) (.t 14)))⟩,0)],none,some ⟨(some 69),some (66,true),(.call 20 [(.t 67),(.t 68)])⟩⟩,
  ⟨[(⟨(some 70),none,(.op (.pick (.t 66) (.t 69) (.c (.b false))))⟩,2)],none,some ⟨none,none,(.op (.store 6 (.t 4) (.t 60)))⟩⟩,
  ⟨[(⟨(some 5),none,(.op (.mv (.t 70)))⟩,2)],none,none⟩]
def c64d0w:List (ROp × Bool) :=
 [(rK 60 6 14,false),(rM 61 12,false),(rM 62 61,false),(⟨(some 63),some (62,true),(.op (.mv (.t 8)))⟩,false),(⟨(some 64),some (62,true),(.op (.bin .int true .eql (.t 63) (cI 0)))⟩,false),((rO 65 (.pick (.t 62) (.t 64) (cB false))),false),(rM 66 65,false),(⟨(some 67),some (66,true),(.op (.mv (.t 0)))⟩,false),(⟨(some 68),some (66,true),(.op (.load (some 6) (.t 14)))⟩,false),(⟨(some 69),some (66,true),(.call 20 [(.t 67),(.t 68)])⟩,true),((rO 70 (.pick (.t 66) (.t 69) (cB false))),false),(rS 6 4 60,false),(rM 5 70,false)]
theorem c64d0_w {P:Program} {O:Orc} {S0:Mem} {rd:Bool} {e:Env} {S:Mem} {d:List Nat} {Q:Kont}:W P O S0 rd (.draw c64d0 []) e S d Q=wFl O c64d0w e S (normK Q d):=W_draw' (by kernel_rfl) (by kernel_rfl)
attribute [go_sem] c64d0_w c64d0w
def c64:IFunc:=⟨2,[.cell 4 (some 6),.tmp 5],
 .seq (.region [(rO 3 (.box (.t 1))),
  (rO 4 (.fresh [(.i .u64 0),(.i .u32 0),(.i .u64 0),(.i .i64 0),(.i .u64 0),.sn])),
  (rO 5 (.mv (cB false)))])
  (.live [4,0,3] (.seq (.region [rF 16 2 3,
  rL 17 16,
  rC 18 89 [(.t 17)],
  rM 15 18,
  rX 19 15 0,
  rX 20 15 1,
  rX 21 15 2,
  rM 6 19,
  rM 7 20,
  rM 8 21])
  (.live [4,0,6,3,7,8] (.seq (.seq (.region [rM 22 8,
  (rO 23 (.bin .int true .neq (.t 22) (cI 0)))])
  (.live [4,0,6,3,7,23] (.cond (.t 23) (.seq (.region [(rO 24 (.build [(.i .u64 0),(.i .u32 0),(.i .u64 0),(.i .i64 0),(.i .u64 0),.sn] [])),
  rS 6 4 24,
  (rO 5 (.mv (cB false)))])
  (.ret))
  (.skip))))
  (.live [4,0,6,3,7] (.seq (.region [rF 26 2 3,
  rL 27 26,
  rM 28 7,
  (rO 29 (.slice 1 (.t 27) (some (.t 28)) none none)),
  rC 30 89 [(.t 29)],
  rM 25 30,
  rX 31 25 0,
  rX 32 25 1,
  rX 33 25 2,
  rM 9 31,
  rM 10 32,
  rM 8 33])
  (.live [4,0,6,3,10,7,9,8] (.seq (.seq (.region [rM 34 8,
  (rO 35 (.bin .int true .neq (.t 34) (cI 0)))])
  (.live [4,0,6,3,10,7,9,35] (.cond (.t 35) (.seq (.region [(rO 36 (.build [(.i .u64 0),(.i .u32 0),(.i .u64 0),(.i .i64 0),(.i .u64 0),.sn] [])),
  rS 6 4 36,
  (rO 5 (.mv (cB false)))])
  (.ret))
  (.skip))))
  (.live [4,0,6,3,10,7,9] (.seq (.region [rM 38 9,
  rC 39 90 [(.t 38)],
  rM 37 39,
  rX 40 37 0,
  rX 41 37 1,
  rM 11 40,
  rM 12 41])
  (.live [4,12,0,11,6,3,10,7] (.seq (.region [rF 43 2 3,
  rL 44 43,
  rM 45 7,
  rM 46 10,
  (rO 47 (.bin .int false .add (.t 45) (.t 46))),
  (rO 48 (.slice 1 (.t 44) (some (.t 47)) none none)),
  rC 49 91 [(.t 48)],
  rM 42 49,
  rX 50 42 0,
  rX 51 42 1,
  (rO 13 (.fresh [(.i .u64 0),.sn])),
  rS 2 13 50,
  rM 8 51])
  (.live [4,12,8,0,13,11,6,3] (.seq (.region [rF 52 0 3,
  rL 53 52,
  rF 54 1 3,
  rL 55 54,
  rM 56 6,
  rM 57 11,
  rK 58 2 13,
  (rO 59 (.build [(.i .u64 0),(.i .u32 0),(.i .u64 0),(.i .i64 0),(.i .u64 0),.sn] [(0,1,(.t 53)),(1,1,(.t 55)),(2,1,(.t 56)),(3,1,(.t 57)),(4,2,(.t 58))])),
  (rO 14 (.fresh [(.i .u64 0),(.i .u32 0),(.i .u64 0),(.i .i64 0),(.i .u64 0),.sn])),
  rS 6 14 59])
  (.live [4,12,8,0,14] (.seq (.draw c64d0 [])
  (.ret))))))))))))))))),
 []⟩
def c65l0:ICode :=
 .seq (.seq (.region [rM 21 6,
  (rO 22 (.bin .int true .geq (.t 21) (cI 0)))])
  (.live [4,6,2,1,22] (.cond (.t 22) (.skip)
  (.exit 0))))
  (.live [4,6,2,1] (.seq (.block 1 (.seq (.region [rF 25 1 2,
  rL 26 25,
  rM 27 6,
  (rO 28 (.iaddr none 65 (.t 26) (.t 27))),
  rF 29 0 28,
  rL 30 29,
  rM 31 1,
  (rO 32 (.bin .int false .eql (.t 30) (.t 31)))])
  (.live [4,6,2,1,32] (.cond (.t 32) (.seq (.region [rF 33 1 2,
  rL 34 33,
  rM 35 6,
  (rO 36 (.iaddr none 65 (.t 34) (.t 35))),
  rF 37 1 36,
  rK 38 64 37,
  rS 64 4 38,
  (rO 5 (.mv (cI 0)))])
  (.ret))
  (.skip)))))
  (.live [4,2,1,6] (.region [rM 23 6,
  (rO 24 (.bin .int true .sub (.t 23) (cI 1))),
  rM 6 24]))))
def c65:IFunc:=⟨2,[.cell 4 (some 64),.tmp 5],
 .seq (.region [(rO 2 (.box (.t 0))),
  (rO 4 (.fresh z64)),
  (rO 5 (.mv (cI 0)))])
  (.live [4,2,1] (.seq (.seq (.region [rM 7 1,
  (rO 8 (.bin .int true .lss (.t 7) (cI 0))),
  rM 9 8,
  ⟨(some 10),some (9,false),(.op (.mv (.t 1)))⟩,
  ⟨(some 11),some (9,false),(.op (.faddr 0 (.t 2)))⟩,
  ⟨(some 12),some (9,false),(.op (.load none (.t 11)))⟩,
  ⟨(some 13),some (9,false),(.op (.len .slice (.t 12)))⟩,
  ⟨(some 14),some (9,false),(.op (.bin .int false .geq (.t 10) (.t 13)))⟩,
  (rO 15 (.pick (.t 9) (cB true) (.t 14)))])
  (.live [4,2,1,15] (.cond (.t 15) (.seq (.region [(rO 16 (.build z64 [])),
  rS 64 4 16,
  (rO 5 (.mv (cI 71)))])
  (.ret))
  (.skip))))
  (.live [4,2,1] (.seq (.seq (.region [rF 17 1 2,
  rL 18 17,
  (rO 19 (.len .slice (.t 18))),
  (rO 20 (.bin .int true .sub (.t 19) (cI 1))),
  rM 6 20])
  (.live [4,6,2,1] (.block 0 (.loop [4,6,2,1] c65l0))))
  (.live [4,1,2] (.seq (.region [rF 39 0 2,
  rL 40 39,
  rM 41 1,
  (rO 42 (.iaddr none 64 (.t 40) (.t 41))),
  rK 43 64 42,
  rS 64 4 43,
  (rO 5 (.mv (cI 0)))])
  (.ret))))))),
 []⟩
def c66l0:ICode :=
 .seq (.seq (.region [rM 24 7,
  (rO 25 (.bin .int true .geq (.t 24) (cI 0)))])
  (.live [0,5,7,6,25] (.cond (.t 25) (.skip)
  (.exit 2))))
  (.live [0,5,7,6] (.seq (.block 3 (.region [rM 28 6,
  (rO 29 (.bin .int true .mul (.t 28) (.c (.i .u64 128)))),
  rM 30 0,
  rM 31 7,
  (rO 32 (.iaddr none 1 (.t 30) (.t 31))),
  rL 33 32,
  (rO 34 (.bin .int true .rem (.t 33) (.c (.i .u8 128)))),
  (rO 35 (.toInt .u64 (.t 34))),
  (rO 36 (.bin .int false .add (.t 29) (.t 35))),
  rM 6 36]))
  (.live [0,5,6,7] (.region [rM 26 7,
  (rO 27 (.bin .int true .sub (.t 26) (cI 1))),
  rM 7 27]))))
def c66d1:List Stage :=
 [⟨[(⟨(some 37),none,(.op (.mv (.t 6)))⟩,0),(⟨(some 40),none,(.op (.mv (.t 0)))⟩,1),(⟨(some 41),none,(.op (.mv (.t 5)))⟩,1),(⟨(some 42),none,(.op (.bin .int true .add (.t 41) (.c (.i .i64 1))))⟩,1),(⟨(some 43),none,(.op (.slice 1 (.t 40) none (some (.t 42)) none))⟩,1),(⟨(some 44),none,(.op (.toStr (.t 43)))⟩,1)],none,some ⟨(some 38),none,(.call 77 [(.t 37)])⟩⟩,
  ⟨[(⟨(some 39),none,(.op (.toStr (.t 38)))⟩,1),(⟨(some 45),none,(.op (.bin .str false .neq (.t 39) (.t 44)))⟩,1)],none,none⟩]
def c66d1w:List (ROp × Bool) :=
 [(rM 37 6,false),(rM 40 0,false),(rM 41 5,false),((rO 42 (.bin .int true .add (.t 41) (cI 1))),false),((rO 43 (.slice 1 (.t 40) none (some (.t 42)) none)),false),((rO 44 (.toStr (.t 43))),false),(rC 38 77 [(.t 37)],true),((rO 39 (.toStr (.t 38))),false),((rO 45 (.bin .str false .neq (.t 39) (.t 44))),false)]
theorem c66d1_w {P:Program} {O:Orc} {S0:Mem} {rd:Bool} {e:Env} {S:Mem} {d:List Nat} {Q:Kont}:W P O S0 rd (.draw c66d1 []) e S d Q=wFl O c66d1w e S (normK Q d):=W_draw' (by kernel_rfl) (by kernel_rfl)
attribute [go_sem] c66d1_w c66d1w
def c66l2:ICode :=
 .seq (.seq (.region [rM 8 5,
  rM 9 0,
  (rO 10 (.len .slice (.t 9))),
  (rO 11 (.bin .int false .lss (.t 8) (.t 10))),
  rM 12 11,
  ⟨(some 13),some (12,true),(.op (.mv (.t 5)))⟩,
  ⟨(some 14),some (12,true),(.op (.bin .int true .lss (.t 13) (cI 10)))⟩,
  (rO 15 (.pick (.t 12) (.t 14) (cB false)))])
  (.live [0,5,15] (.cond (.t 15) (.skip)
  (.exit 0))))
  (.live [0,5] (.seq (.block 1 (.seq (.seq (.region [rM 18 0,
  rM 19 5,
  (rO 20 (.iaddr none 1 (.t 18) (.t 19))),
  rL 21 20,
  (rO 22 (.bin .int true .geq (.t 21) (.c (.i .u8 128))))])
  (.live [0,5,22] (.cond (.t 22) (.exit 1)
  (.skip))))
  (.live [0,5] (.seq (.region [(rO 6 (.mv (.c (.i .u64 0))))])
  (.live [0,5,6] (.seq (.seq (.region [rM 23 5,
  rM 7 23])
  (.live [0,5,7,6] (.block 2 (.loop [0,5,7,6] c66l0))))
  (.live [5,6,0] (.seq (.seq (.draw c66d1 [])
  (.live [5,6,45] (.cond (.t 45) (.seq (.region [(rO 2 (.mv (.c (.i .u64 0)))),
  (rO 3 (.mv (cI 0))),
  (rO 4 (.mv (cI 21)))])
  (.ret))
  (.skip))))
  (.live [5,6] (.seq (.region [rM 46 6,
  rM 47 5,
  (rO 48 (.bin .int true .add (.t 47) (cI 1))),
  rM 2 46,
  rM 3 48,
  (rO 4 (.mv (cI 0)))])
  (.ret)))))))))))
  (.live [0,5] (.region [rM 16 5,
  (rO 17 (.bin .int true .add (.t 16) (cI 1))),
  rM 5 17]))))
def c66:IFunc:=⟨1,[.tmp 2,.tmp 3,.tmp 4],
 .seq (.region [(rO 2 (.mv (.c (.i .u64 0)))),
  (rO 3 (.mv (cI 0))),
  (rO 4 (.mv (cI 0)))])
  (.live [0] (.seq (.seq (.region [(rO 5 (.mv (cI 0)))])
  (.live [0,5] (.block 0 (.loop [0,5] c66l2))))
  (.live [] (.seq (.region [(rO 2 (.mv (.c (.i .u64 0)))),
  (rO 3 (.mv (cI 0))),
  (rO 4 (.mv (cI 21)))])
  (.ret))))),
 []⟩
def c67d0:List Stage :=
 [⟨[(⟨(some 46),none,(.op (.faddr 1 (.t 6)))⟩,1),(⟨(some 47),none,(.op (.load none (.t 46)))⟩,1),(⟨(some 48),none,(.op (.load (some 13) (.t 8)))⟩,0),(⟨(some 49),none,(.op (.mv (.t 4)))⟩,0),(⟨(some 50),none,(.op (.mv (.t 7)))⟩,0),(⟨(some 51),none,(.op (.bin .int true .add (.t 50) (.c (.i .i64 10))))⟩,0),(⟨(some 52),none,(.op (.iaddr none 1 (.t 49) (.t 51)))⟩,0),(⟨(some 53),none,(.op (.load none (.t 52)))⟩,0),(⟨(some 54),none,(.op (.build [(.i .i64 0),(.i .u8 0),(.i .u8 0),(.i .u8 0),(.i .u8 0),(.i .i64 0),(.i .u64 0),(.i .u64 0),(.i .u64 0),(.i .u64 0),(.i .u64 0),(.i .u64 0),(.i .u64 0),(.i .u64 0)] [(0,13,(.t 48)),(13,1,(.t 53))]))⟩,0)],none,some ⟨(some 55),none,(.op (.bslice [(.i .i64 0),(.i .u8 0),(.i .u8 0),(.i .u8 0),(.i .u8 0),(.i .i64 0),(.i .u64 0),(.i .u64 0),(.i .u64 0),(.i .u64 0),(.i .u64 0),(.i .u64 0),(.i .u64 0),(.i .u64 0)] 1 [(0,14,(.t 54))]))⟩⟩,
  ⟨[],none,some ⟨(some 56),none,(.op (.app 14 88 (.t 47) (.t 55)))⟩⟩,
  ⟨[(⟨(some 57),none,(.op (.faddr 1 (.t 6)))⟩,2)],none,some ⟨none,none,(.op (.store 1 (.t 57) (.t 56)))⟩⟩,
  ⟨[],none,none⟩]
def c67d0w:List (ROp × Bool) :=
 [(rF 46 1 6,false),(rL 47 46,false),(rK 48 13 8,false),(rM 49 4,false),(rM 50 7,false),((rO 51 (.bin .int true .add (.t 50) (cI 10))),false),((rO 52 (.iaddr none 1 (.t 49) (.t 51))),false),(rL 53 52,false),((rO 54 (.build [(.i .i64 0),(.i .u8 0),(.i .u8 0),(.i .u8 0),(.i .u8 0),(.i .i64 0),(.i .u64 0),(.i .u64 0),(.i .u64 0),(.i .u64 0),(.i .u64 0),(.i .u64 0),(.i .u64 0),(.i .u64 0)] [(0,13,(.t 48)),(13,1,(.t 53))])),false),((rO 55 (.bslice [(.i .i64 0),(.i .u8 0),(.i .u8 0),(.i .u8 0),(.i .u8 0),(.i .i64 0),(.i .u64 0),(.i .u64 0),(.i .u64 0),(.i .u64 0),(.i .u64 0),(.i .u64 0),(.i .u64 0),(.i .u64 0)] 1 [(0,14,(.t 54))])),true),((rO 56 (.app 14 88 (.t 47) (.t 55))),false),(rF 57 1 6,false),(rS 1 57 56,false)]
theorem c67d0_w {P:Program} {O:Orc} {S0:Mem} {rd:Bool} {e:Env} {S:Mem} {d:List Nat} {Q:Kont}:W P O S0 rd (.draw c67d0 []) e S d Q=wFl O c67d0w e S (normK Q d):=W_draw' (by kernel_rfl) (by kernel_rfl)
attribute [go_sem] c67d0_w c67d0w
def c67l1:ICode :=
 .seq (.seq (.region [rM 27 7,
  (rO 28 (.bin .int true .add (.t 27) (cI 11))),
  rM 29 4,
  (rO 30 (.len .slice (.t 29))),
  (rO 31 (.bin .int false .leq (.t 28) (.t 30)))])
  (.live [2,4,6,7,31] (.cond (.t 31) (.skip)
  (.exit 0))))
  (.live [2,4,6,7] (.seq (.block 1 (.seq (.region [rM 35 4,
  rM 36 7,
  rM 37 7,
  (rO 38 (.bin .int true .add (.t 37) (cI 10))),
  (rO 39 (.slice 1 (.t 35) (some (.t 36)) (some (.t 38)) none)),
  rC 40 93 [(.t 39)],
  rM 34 40,
  rX 41 34 0,
  rX 42 34 1,
  (rO 8 (.fresh [(.i .i64 0),(.i .u8 0),(.i .u8 0),(.i .u8 0),(.i .u8 0),(.i .i64 0),(.i .u64 0),(.i .u64 0),(.i .u64 0),(.i .u64 0),(.i .u64 0),(.i .u64 0),(.i .u64 0)])),
  rS 13 8 41,
  rM 9 42])
  (.live [2,4,6,7,8,9] (.seq (.seq (.region [rM 43 9,
  (rO 44 (.bin .int true .neq (.t 43) (cI 0)))])
  (.live [2,4,6,7,8,44] (.cond (.t 44) (.seq (.region [(rO 45 (.build [(.i .u64 0),.sn] [])),
  rS 2 2 45,
  (rO 3 (.mv (cI 131)))])
  (.ret))
  (.skip))))
  (.live [2,4,6,7,8] (.draw c67d0 []))))))
  (.live [2,4,6,7] (.region [rM 32 7,
  (rO 33 (.bin .int true .add (.t 32) (cI 11))),
  rM 7 33]))))
def c67:IFunc:=⟨1,[.cell 2 (some 2),.tmp 3],
 .seq (.region [(rO 2 (.fresh [(.i .u64 0),.sn])),
  (rO 3 (.mv (cI 0)))])
  (.live [2,0] (.seq (.region [rM 11 0,
  rC 12 92 [(.t 11)],
  rM 10 12,
  rX 13 10 0,
  rX 14 10 1,
  rM 4 13,
  rM 5 14])
  (.live [2,4,5] (.seq (.seq (.region [rM 15 5,
  (rO 16 (.bin .int true .neq (.t 15) (cI 0))),
  rM 17 16,
  ⟨(some 18),some (17,false),(.op (.mv (.t 4)))⟩,
  ⟨(some 19),some (17,false),(.op (.len .slice (.t 18)))⟩,
  ⟨(some 20),some (17,false),(.op (.bin .int true .eql (.t 19) (cI 0)))⟩,
  (rO 21 (.pick (.t 17) (cB true) (.t 20)))])
  (.live [2,4,21] (.cond (.t 21) (.seq (.region [(rO 22 (.build [(.i .u64 0),.sn] [])),
  rS 2 2 22,
  (rO 3 (.mv (cI 131)))])
  (.ret))
  (.skip))))
  (.live [2,4] (.seq (.region [rM 23 4,
  (rO 24 (.iaddr none 1 (.t 23) (cI 0))),
  rL 25 24,
  (rO 26 (.build [(.i .u64 0),.sn] [(0,1,(.t 25))])),
  (rO 6 (.fresh [(.i .u64 0),.sn])),
  rS 2 6 26])
  (.live [2,4,6] (.seq (.region [(rO 7 (.mv (cI 1)))])
  (.live [2,4,6,7] (.seq (.block 0 (.loop [2,4,6,7] c67l1))
  (.live [2,6,4,7] (.seq (.seq (.region [rM 58 7,
  rM 59 4,
  (rO 60 (.len .slice (.t 59))),
  (rO 61 (.bin .int false .neq (.t 58) (.t 60))),
  rM 62 61,
  ⟨(some 63),some (62,false),(.op (.load (some 2) (.t 6)))⟩,
  ⟨(some 64),some (62,false),(.call 75 [(.t 63)])⟩,
  ⟨(some 65),some (62,false),(.op (.un .not (.t 64)))⟩,
  (rO 66 (.pick (.t 62) (cB true) (.t 65)))])
  (.live [2,6,66] (.cond (.t 66) (.seq (.region [(rO 67 (.build [(.i .u64 0),.sn] [])),
  rS 2 2 67,
  (rO 3 (.mv (cI 131)))])
  (.ret))
  (.skip))))
  (.live [2,6] (.seq (.region [rK 68 2 6,
  rS 2 2 68,
  (rO 3 (.mv (cI 0)))])
  (.ret))))))))))))))),
 []⟩
def c68l0:ICode :=
 .seq (.region [(rO 18 (.bin .int false .lss (.t 17) (.t 16)))])
  (.live [6,15,16,17,7,18] (.seq (.cond (.t 18) (.skip)
  (.exit 0))
  (.live [6,15,16,17,7] (.seq (.block 1 (.seq (.region [(rO 19 (.iaddr none 1 (.t 15) (.t 17))),
  rL 20 19,
  rM 9 20])
  (.live [6,15,16,17,7,9] (.seq (.region [rM 21 9,
  (rO 22 (.bin .int true .lss (.t 21) (cI 0))),
  rM 23 22,
  ⟨(some 24),some (23,false),(.op (.mv (.t 9)))⟩,
  ⟨(some 25),some (23,false),(.op (.mv (.t 6)))⟩,
  ⟨(some 26),some (23,false),(.op (.bin .int false .geq (.t 24) (.t 25)))⟩,
  (rO 27 (.pick (.t 23) (cB true) (.t 26)))])
  (.live [6,15,16,17,7,27] (.cond (.t 27) (.region [(rO 7 (.mv (cI 91)))])
  (.skip)))))))
  (.live [6,15,16,7,17] (.region [(rO 28 (.bin .int true .add (.t 17) (cI 1))),
  rM 17 28]))))))
def c68:IFunc:=⟨2,[.tmp 4,.tmp 5],
 .seq (.region [(rO 4 (.mv (cI 0))),
  (rO 5 (.mv (cI 0)))])
  (.live [1,0] (.seq (.region [rM 11 0,
  rC 12 94 [(.t 11)],
  rM 10 12,
  rX 13 10 0,
  rX 14 10 1,
  rM 6 13,
  rM 7 14])
  (.live [6,7,1] (.seq (.seq (.region [rM 15 1,
  (rO 16 (.len .slice (.t 15))),
  (rO 17 (.mv (cI 0)))])
  (.live [6,15,16,17,7] (.block 0 (.loop [6,15,16,17,7] c68l0))))
  (.live [7,6] (.seq (.region [rM 29 6,
  rM 30 7,
  rM 4 29,
  rM 5 30])
  (.ret))))))),
 []⟩
def c69d0:List Stage :=
 [⟨[(⟨(some 17),none,(.op (.mv (.t 3)))⟩,0),(⟨(some 18),none,(.op (.faddr 1 (.t 5)))⟩,0),(⟨(some 19),none,(.op (.load (some 5) (.t 18)))⟩,0),(⟨(some 20),none,(.op (.mlook true [.int,.int,.int,.int,.int] (.i .i64 0) false (.t 17) (.t 19)))⟩,1),(⟨(some 21),none,(.op (.bin .int true .add (.t 20) (.c (.i .i64 1))))⟩,1)],none,some ⟨(some 22),none,(.op (.mentry true [.int,.int,.int,.int,.int] (.i .i64 0) (.t 17) (.t 19)))⟩⟩,
  ⟨[(⟨(some 23),none,(.op (.ext (.t 22) 1))⟩,1)],none,some ⟨none,none,(.op (.mstore (.t 17) (.t 23) (.t 21)))⟩⟩,
  ⟨[],none,none⟩]
theorem c69d0_e {P:Program} {O:Orc} {S0:Mem} {rd:Bool} {e:Env} {S:Mem} {d:List Nat} {Q:Kont}:W P O S0 rd (.draw c69d0 []) e S d Q=drawK (evDraw O c69d0 [] e S) (normK Q d):=W_drawE (by kernel_rfl)
attribute [go_sem] c69d0_e
def c69d1:List Stage :=
 [⟨[(⟨(some 24),none,(.op (.load (some 13) (.t 5)))⟩,0)],none,some ⟨(some 25),none,(.call 95 [(.t 24)])⟩⟩,
  ⟨[(⟨(some 26),none,(.op (.un .not (.t 25)))⟩,1),(⟨(some 27),none,(.op (.mv (.t 26)))⟩,1),(⟨(some 28),some (27,false),(.op (.mv (.t 3)))⟩,1),(⟨(some 29),some (27,false),(.op (.faddr 1 (.t 5)))⟩,1),(⟨(some 30),some (27,false),(.op (.load (some 5) (.t 29)))⟩,1),(⟨(some 31),some (27,false),(.op (.mlook true [.int,.int,.int,.int,.int] (.i .i64 0) false (.t 28) (.t 30)))⟩,1),(⟨(some 32),some (27,false),(.op (.bin .int true .gtr (.t 31) (.c (.i .i64 1))))⟩,1),(⟨(some 33),none,(.op (.pick (.t 27) (.c (.b true)) (.t 32)))⟩,1),(⟨(some 34),none,(.op (.mv (.t 33)))⟩,1),(⟨(some 35),some (34,false),(.op (.mv (.t 4)))⟩,1),(⟨(some 36),some (34,false),(.op (.bin .int true .gtr (.t 35) (.c (.i .i64 0))))⟩,1),(⟨(some 37),some (34,false),(.op (.mv (.t 36)))⟩,1),(⟨(some 38),some (37,true),(.op (.faddr 0 (.t 5)))⟩,1),(⟨(some 39),some (37,true),(.op (.load none (.t 38)))⟩,1),(⟨(some 40),some (37,true),(.op (.mv (.t 0)))⟩,1),(⟨(some 41),some (37,true),(.op (.mv (.t 4)))⟩,1),(⟨(some 42),some (37,true),(.op (.bin .int true .sub (.t 41) (.c (.i .i64 1))))⟩,1),(⟨(some 43),some (37,true),(.op (.iaddr none 13 (.t 40) (.t 42)))⟩,1),(⟨(some 44),some (37,true),(.op (.faddr 0 (.t 43)))⟩,1),(⟨(some 45),some (37,true),(.op (.load none (.t 44)))⟩,1),(⟨(some 46),some (37,true),(.op (.bin .int false .leq (.t 39) (.t 45)))⟩,1),(⟨(some 47),some (34,false),(.op (.pick (.t 37) (.t 46) (.c (.b false))))⟩,1),(⟨(some 48),none,(.op (.pick (.t 34) (.c (.b true)) (.t 47)))⟩,1)],none,none⟩]
def c69d1w:List (ROp × Bool) :=
 [(rK 24 13 5,false),(rC 25 95 [(.t 24)],false),((rO 26 (.un .not (.t 25))),false),(rM 27 26,false),(⟨(some 28),some (27,false),(.op (.mv (.t 3)))⟩,false),(⟨(some 29),some (27,false),(.op (.faddr 1 (.t 5)))⟩,false),(⟨(some 30),some (27,false),(.op (.load (some 5) (.t 29)))⟩,false),(⟨(some 31),some (27,false),(.op (.mlook true [.int,.int,.int,.int,.int] (.i .i64 0) false (.t 28) (.t 30)))⟩,false),(⟨(some 32),some (27,false),(.op (.bin .int true .gtr (.t 31) (cI 1)))⟩,false),((rO 33 (.pick (.t 27) (cB true) (.t 32))),false),(rM 34 33,false),(⟨(some 35),some (34,false),(.op (.mv (.t 4)))⟩,false),(⟨(some 36),some (34,false),(.op (.bin .int true .gtr (.t 35) (cI 0)))⟩,false),(⟨(some 37),some (34,false),(.op (.mv (.t 36)))⟩,false),(⟨(some 38),some (37,true),(.op (.faddr 0 (.t 5)))⟩,false),(⟨(some 39),some (37,true),(.op (.load none (.t 38)))⟩,false),(⟨(some 40),some (37,true),(.op (.mv (.t 0)))⟩,false),(⟨(some 41),some (37,true),(.op (.mv (.t 4)))⟩,false),(⟨(some 42),some (37,true),(.op (.bin .int true .sub (.t 41) (cI 1)))⟩,false),(⟨(some 43),some (37,true),(.op (.iaddr none 13 (.t 40) (.t 42)))⟩,false),(⟨(some 44),some (37,true),(.op (.faddr 0 (.t 43)))⟩,false),(⟨(some 45),some (37,true),(.op (.load none (.t 44)))⟩,false),(⟨(some 46),some (37,true),(.op (.bin .int false .leq (.t 39) (.t 45)))⟩,false),(⟨(some 47),some (34,false),(.op (.pick (.t 37) (.t 46) (cB false)))⟩,false),((rO 48 (.pick (.t 34) (cB true) (.t 47))),false)]
theorem c69d1_w {P:Program} {O:Orc} {S0:Mem} {rd:Bool} {e:Env} {S:Mem} {d:List Nat} {Q:Kont}:W P O S0 rd (.draw c69d1 []) e S d Q=wFl O c69d1w e S (normK Q d):=W_draw' (by kernel_rfl) (by kernel_rfl)
attribute [go_sem] c69d1_w c69d1w
def c69l2:ICode :=
 .seq (.region [(rO 13 (.bin .int false .lss (.t 12) (.t 11)))])
  (.live [3,0,10,11,12,13] (.seq (.cond (.t 13) (.skip)
  (.exit 0))
  (.live [3,0,10,11,12] (.seq (.block 1 (.seq (.region [rM 14 12,
  (rO 15 (.iaddr none 13 (.t 10) (.t 12))),
  rK 16 13 15,
  (rO 5 (.fresh [(.i .i64 0),(.i .u8 0),(.i .u8 0),(.i .u8 0),(.i .u8 0),(.i .i64 0),(.i .u64 0),(.i .u64 0),(.i .u64 0),(.i .u64 0),(.i .u64 0),(.i .u64 0),(.i .u64 0)])),
  rM 4 14,
  rS 13 5 16])
  (.live [3,0,10,11,12,5,4] (.seq (.draw c69d0 [])
  (.live [3,0,10,11,12,5,4] (.seq (.draw c69d1 [])
  (.live [3,0,10,11,12,48] (.cond (.t 48) (.seq (.region [(rO 2 (.mv (cI 111)))])
  (.ret))
  (.skip)))))))))
  (.live [3,0,10,11,12] (.region [(rO 49 (.bin .int true .add (.t 12) (cI 1))),
  rM 12 49]))))))
def c69:IFunc:=⟨1,[.tmp 2],
 .seq (.region [(rO 2 (.mv (cI 0)))])
  (.live [0] (.seq (.seq (.region [rM 6 0,
  (rO 7 (.len .slice (.t 6))),
  (rO 8 (.bin .int true .gtr (.t 7) (cI 8)))])
  (.live [0,8] (.cond (.t 8) (.seq (.region [(rO 2 (.mv (cI 111)))])
  (.ret))
  (.skip))))
  (.live [0] (.seq (.region [(rO 9 (.mkmap none)),
  rM 3 9])
  (.live [3,0] (.seq (.seq (.region [rM 10 0,
  (rO 11 (.len .slice (.t 10))),
  (rO 12 (.mv (cI 0)))])
  (.live [3,0,10,11,12] (.block 0 (.loop [3,0,10,11,12] c69l2))))
  (.live [] (.seq (.region [(rO 2 (.mv (cI 0)))])
  (.ret))))))))),
 []⟩
def c70l0:ICode :=
 .seq (.region [(rO 9 (.bin .int false .lss (.t 8) (.t 7)))])
  (.live [6,7,8,3,9] (.seq (.cond (.t 9) (.skip)
  (.exit 0))
  (.live [6,7,8,3] (.seq (.block 1 (.seq (.region [(rO 10 (.iaddr none 14 (.t 6) (.t 8))),
  rK 11 14 10,
  (rO 5 (.fresh [(.i .i64 0),(.i .u8 0),(.i .u8 0),(.i .u8 0),(.i .u8 0),(.i .i64 0),(.i .u64 0),(.i .u64 0),(.i .u64 0),(.i .u64 0),(.i .u64 0),(.i .u64 0),(.i .u64 0),(.i .u64 0)])),
  rS 14 5 11])
  (.live [6,7,8,5,3] (.region [rM 12 3,
  rF 13 0 5,
  rK 14 13 13,
  (rO 15 (.bslice [(.i .i64 0),(.i .u8 0),(.i .u8 0),(.i .u8 0),(.i .u8 0),(.i .i64 0),(.i .u64 0),(.i .u64 0),(.i .u64 0),(.i .u64 0),(.i .u64 0),(.i .u64 0),(.i .u64 0)] 1 [(0,13,(.t 14))])),
  (rO 16 (.app 13 80 (.t 12) (.t 15))),
  rM 3 16]))))
  (.live [6,7,3,8] (.region [(rO 17 (.bin .int true .add (.t 8) (cI 1))),
  rM 8 17]))))))
def c70:IFunc:=⟨1,[.tmp 2],
 .seq (.region [(rO 2 (.mv (.c .sn)))])
  (.live [0] (.seq (.region [(rO 3 (.mv (.c .sn)))])
  (.live [3,0] (.seq (.seq (.region [rM 6 0,
  (rO 7 (.len .slice (.t 6))),
  (rO 8 (.mv (cI 0)))])
  (.live [6,7,8,3] (.block 0 (.loop [6,7,8,3] c70l0))))
  (.live [3] (.seq (.region [rM 18 3,
  rM 2 18])
  (.ret))))))),
 []⟩
def c71:IFunc:=⟨2,[.tmp 4],
 .seq (.region [(rO 4 (.mv (cB false)))])
  (.live [1,0] (.seq (.region [rM 5 0,
  rM 6 1,
  rC 7 96 [(.t 5),(.t 6)],
  (rO 8 (.bin .int true .geq (.t 7) (cI 0))),
  rM 4 8])
  (.ret))),
 []⟩
def c72:IFunc:=⟨1,[.tmp 2],
 .seq (.region [(rO 1 (.box (.t 0))),
  (rO 2 (.mv (cB false)))])
  (.live [1] (.seq (.region [rF 3 13 1,
  rL 4 3,
  (rO 5 (.bin .int true .gtr (.t 4) (.c (.i .u64 281474976710656)))),
  rM 2 5])
  (.ret))),
 []⟩
def c73d0:List Stage :=
 [⟨[(⟨(some 16),none,(.op (.mv (.t 0)))⟩,0),(⟨(some 17),none,(.op (.mv (.t 5)))⟩,0),(⟨(some 18),none,(.op (.iaddr none 14 (.t 16) (.t 17)))⟩,0),(⟨(some 19),none,(.op (.load (some 14) (.t 18)))⟩,0),(⟨(some 20),none,(.op (.mv (.t 1)))⟩,0),(⟨(some 21),none,(.op (.mv (.t 5)))⟩,0),(⟨(some 22),none,(.op (.iaddr none 14 (.t 20) (.t 21)))⟩,0),(⟨(some 23),none,(.op (.load (some 14) (.t 22)))⟩,0),(⟨(some 24),none,(.op (.eqag true [.int,.int,.int,.int,.int,.int,.int,.int,.int,.int,.int,.int,.int,.int] (.t 19) (.t 23)))⟩,0)],none,none⟩]
def c73d0w:List (ROp × Bool) :=
 [(rM 16 0,false),(rM 17 5,false),((rO 18 (.iaddr none 14 (.t 16) (.t 17))),false),(rK 19 14 18,false),(rM 20 1,false),(rM 21 5,false),((rO 22 (.iaddr none 14 (.t 20) (.t 21))),false),(rK 23 14 22,false),((rO 24 (.eqag true [.int,.int,.int,.int,.int,.int,.int,.int,.int,.int,.int,.int,.int,.int] (.t 19) (.t 23))),false)]
theorem c73d0_w {P:Program} {O:Orc} {S0:Mem} {rd:Bool} {e:Env} {S:Mem} {d:List Nat} {Q:Kont}:W P O S0 rd (.draw c73d0 []) e S d Q=wFl O c73d0w e S (normK Q d):=W_draw' (by kernel_rfl) (by kernel_rfl)
attribute [go_sem] c73d0_w c73d0w
def c73l1:ICode :=
 .seq (.region [(rO 14 (.bin .int false .lss (.t 13) (.t 12)))])
  (.live [0,1,12,13,14] (.seq (.cond (.t 14) (.skip)
  (.exit 0))
  (.live [0,1,12,13] (.seq (.block 1 (.seq (.region [rM 15 13,
  rM 5 15])
  (.live [0,1,12,13,5] (.seq (.draw c73d0 [])
  (.live [0,1,12,13,24] (.cond (.t 24) (.seq (.region [(rO 4 (.mv (cB false)))])
  (.ret))
  (.skip)))))))
  (.live [0,1,12,13] (.region [(rO 25 (.bin .int true .add (.t 13) (cI 1))),
  rM 13 25]))))))
def c73:IFunc:=⟨2,[.tmp 4],
 .seq (.region [(rO 4 (.mv (cB false)))])
  (.live [0,1] (.seq (.seq (.region [rM 6 0,
  (rO 7 (.len .slice (.t 6))),
  rM 8 1,
  (rO 9 (.len .slice (.t 8))),
  (rO 10 (.bin .int false .neq (.t 7) (.t 9)))])
  (.live [0,1,10] (.cond (.t 10) (.seq (.region [(rO 4 (.mv (cB false)))])
  (.ret))
  (.skip))))
  (.live [0,1] (.seq (.seq (.region [rM 11 0,
  (rO 12 (.len .slice (.t 11))),
  (rO 13 (.mv (cI 0)))])
  (.live [0,1,12,13] (.block 0 (.loop [0,1,12,13] c73l1))))
  (.live [] (.seq (.region [(rO 4 (.mv (cB true)))])
  (.ret))))))),
 []⟩
set_option maxRecDepth 1000000
theorem f3:compFunc Tryz.prog 3=some (stripF c3):=by kernel_rfl
theorem f5:compFunc Tryz.prog 5=some (stripF c5):=by kernel_rfl
theorem f6:compFunc Tryz.prog 6=some (stripF c6):=by kernel_rfl
theorem f7:compFunc Tryz.prog 7=some (stripF c7):=by kernel_rfl
theorem f8:compFunc Tryz.prog 8=some (stripF c8):=by kernel_rfl
theorem f9:compFunc Tryz.prog 9=some (stripF c9):=by kernel_rfl
theorem f10:compFunc Tryz.prog 10=some (stripF c10):=by kernel_rfl
theorem f11:compFunc Tryz.prog 11=some (stripF c11):=by kernel_rfl
theorem f12:compFunc Tryz.prog 12=some (stripF c12):=by kernel_rfl
theorem f13:compFunc Tryz.prog 13=some (stripF c13):=by kernel_rfl
theorem f14:compFunc Tryz.prog 14=some (stripF c14):=by kernel_rfl
theorem f15:compFunc Tryz.prog 15=some (stripF c15):=by kernel_rfl
theorem f16:compFunc Tryz.prog 16=some (stripF c16):=by kernel_rfl
theorem f17:compFunc Tryz.prog 17=some (stripF c17):=by kernel_rfl
theorem f18:compFunc Tryz.prog 18=some (stripF c18):=by kernel_rfl
theorem f19:compFunc Tryz.prog 19=some (stripF c19):=by kernel_rfl
theorem f20:compFunc Tryz.prog 20=some (stripF c20):=by kernel_rfl
theorem f21:compFunc Tryz.prog 21=some (stripF c21):=by kernel_rfl
theorem f22:compFunc Tryz.prog 22=some (stripF c22):=by kernel_rfl
theorem f23:compFunc Tryz.prog 23=some (stripF c23):=by kernel_rfl
theorem f24:compFunc Tryz.prog 24=some (stripF c24):=by kernel_rfl
theorem f26:compFunc Tryz.prog 26=some (stripF c26):=by kernel_rfl
theorem f27:compFunc Tryz.prog 27=some (stripF c27):=by kernel_rfl
theorem f28:compFunc Tryz.prog 28=some (stripF c28):=by kernel_rfl
theorem f29:compFunc Tryz.prog 29=some (stripF c29):=by kernel_rfl
theorem f30:compFunc Tryz.prog 30=some (stripF c30):=by kernel_rfl
theorem f31:compFunc Tryz.prog 31=some (stripF c31):=by kernel_rfl
theorem f32:compFunc Tryz.prog 32=some (stripF c32):=by kernel_rfl
theorem f33:compFunc Tryz.prog 33=some (stripF c33):=by kernel_rfl
theorem f34:compFunc Tryz.prog 34=some (stripF c34):=by kernel_rfl
theorem f35:compFunc Tryz.prog 35=some (stripF c35):=by kernel_rfl
theorem f36:compFunc Tryz.prog 36=some (stripF c36):=by kernel_rfl
theorem f37:compFunc Tryz.prog 37=some (stripF c37):=by kernel_rfl
theorem f38:compFunc Tryz.prog 38=some (stripF c38):=by kernel_rfl
theorem f39:compFunc Tryz.prog 39=some (stripF c39):=by kernel_rfl
theorem f40:compFunc Tryz.prog 40=some (stripF c40):=by kernel_rfl
theorem f41:compFunc Tryz.prog 41=some (stripF c41):=by kernel_rfl
theorem f42:compFunc Tryz.prog 42=some (stripF c42):=by kernel_rfl
theorem f43:compFunc Tryz.prog 43=some (stripF c43):=by kernel_rfl
theorem f44:compFunc Tryz.prog 44=some (stripF c44):=by kernel_rfl
theorem f45:compFunc Tryz.prog 45=some (stripF c45):=by kernel_rfl
theorem f46:compFunc Tryz.prog 46=some (stripF c46):=by kernel_rfl
theorem f47:compFunc Tryz.prog 47=some (stripF c47):=by kernel_rfl
theorem f48:compFunc Tryz.prog 48=some (stripF c48):=by kernel_rfl
theorem f49:compFunc Tryz.prog 49=some (stripF c49):=by kernel_rfl
theorem f50:compFunc Tryz.prog 50=some (stripF c50):=by kernel_rfl
theorem f51:compFunc Tryz.prog 51=some (stripF c51):=by kernel_rfl
theorem f52:compFunc Tryz.prog 52=some (stripF c52):=by kernel_rfl
theorem f53:compFunc Tryz.prog 53=some (stripF c53):=by kernel_rfl
theorem f54:compFunc Tryz.prog 54=some (stripF c54):=by kernel_rfl
theorem f55:compFunc Tryz.prog 55=some (stripF c55):=by kernel_rfl
theorem f56:compFunc Tryz.prog 56=some (stripF c56):=by kernel_rfl
theorem f57:compFunc Tryz.prog 57=some (stripF c57):=by kernel_rfl
theorem f58:compFunc Tryz.prog 58=some (stripF c58):=by kernel_rfl
theorem f59:compFunc Tryz.prog 59=some (stripF c59):=by kernel_rfl
theorem f60:compFunc Tryz.prog 60=some (stripF c60):=by kernel_rfl
theorem f61:compFunc Tryz.prog 61=some (stripF c61):=by kernel_rfl
theorem f62:compFunc Tryz.prog 62=some (stripF c62):=by kernel_rfl
theorem f63:compFunc Tryz.prog 63=some (stripF c63):=by kernel_rfl
theorem f64:compFunc Tryz.prog 64=some (stripF c64):=by kernel_rfl
theorem f65:compFunc Tryz.prog 65=some (stripF c65):=by kernel_rfl
theorem f66:compFunc Tryz.prog 66=some (stripF c66):=by kernel_rfl
theorem f67:compFunc Tryz.prog 67=some (stripF c67):=by kernel_rfl
theorem f68:compFunc Tryz.prog 68=some (stripF c68):=by kernel_rfl
theorem f69:compFunc Tryz.prog 69=some (stripF c69):=by kernel_rfl
theorem f70:compFunc Tryz.prog 70=some (stripF c70):=by kernel_rfl
theorem f71:compFunc Tryz.prog 71=some (stripF c71):=by kernel_rfl
theorem f72:compFunc Tryz.prog 72=some (stripF c72):=by kernel_rfl
theorem f73:compFunc Tryz.prog 73=some (stripF c73):=by kernel_rfl
end Go.Proofs.YtkfobkfhbkicaaaGreat
