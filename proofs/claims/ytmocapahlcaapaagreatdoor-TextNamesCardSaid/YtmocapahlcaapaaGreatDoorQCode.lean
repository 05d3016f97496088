/- Proved here: the code of the functions, written out, is what the compiler makes of the program. No condition. -/
import Derived.Test.YtmocapahlcaapaaGreatDoorQCodeA
namespace Go.Proofs.YtmocapahlcaapaaGreatDoor
open Go.RowKit
set_option maxRecDepth 1000000
theorem mixed : Tryz.prog.follows .mixedOrders = true := by kernel_rfl
def tabL : List (Nat × IFunc) := [(5, c5), (10, c10), (11, c11), (13, c13), (16, c16), (18, c18), (24, c24), (25, c25), (26, c26), (27, c27), (33, c33), (34, c34), (35, c35), (36, c36), (37, c37), (38, c38), (39, c39), (42, c42), (43, c43), (44, c44), (45, c45), (46, c46), (47, c47), (55, c55), (56, c56), (57, c57), (58, c58), (59, c59), (60, c60), (61, c61), (62, c62), (65, c65), (66, c66), (67, c67), (68, c68), (69, c69), (70, c70), (71, c71), (72, c72), (74, c74), (75, c75), (76, c76), (82, c82), (83, c83), (94, c94), (95, c95), (96, c96), (97, c97), (98, c98), (99, c99), (100, c100), (101, c101), (102, c102), (103, c103), (115, c115), (123, c123), (124, c124), (125, c125), (126, c126), (127, c127), (128, c128), (139, c139), (143, c143), (146, c146), (147, c147), (148, c148), (149, c149)]
def tab (f : FuncId) : Option IFunc := look tabL f
theorem tab_ok : ∀ f F, tab f = some F → compFunc Tryz.prog f = some (stripF F) := look_ok tabL (by
  intro p hp
  simp only [tabL, List.mem_cons, List.not_mem_nil, or_false] at hp
  rcases hp with rfl | rfl | rfl | rfl | rfl | rfl | rfl | rfl | rfl | rfl | rfl | rfl | rfl | rfl | rfl | rfl | rfl | rfl | rfl | rfl | rfl | rfl | rfl | rfl | rfl | rfl | rfl | rfl | rfl | rfl | rfl | rfl | rfl | rfl | rfl | rfl | rfl | rfl | rfl | rfl | rfl | rfl | rfl | rfl | rfl | rfl | rfl | rfl | rfl | rfl | rfl | rfl | rfl | rfl | rfl | rfl | rfl | rfl | rfl | rfl | rfl | rfl | rfl | rfl | rfl | rfl | rfl
  · exact f5
  · exact f10
  · exact f11
  · exact f13
  · exact f16
  · exact f18
  · exact f24
  · exact f25
  · exact f26
  · exact f27
  · exact f33
  · exact f34
  · exact f35
  · exact f36
  · exact f37
  · exact f38
  · exact f39
  · exact f42
  · exact f43
  · exact f44
  · exact f45
  · exact f46
  · exact f47
  · exact f55
  · exact f56
  · exact f57
  · exact f58
  · exact f59
  · exact f60
  · exact f61
  · exact f62
  · exact f65
  · exact f66
  · exact f67
  · exact f68
  · exact f69
  · exact f70
  · exact f71
  · exact f72
  · exact f74
  · exact f75
  · exact f76
  · exact f82
  · exact f83
  · exact f94
  · exact f95
  · exact f96
  · exact f97
  · exact f98
  · exact f99
  · exact f100
  · exact f101
  · exact f102
  · exact f103
  · exact f115
  · exact f123
  · exact f124
  · exact f125
  · exact f126
  · exact f127
  · exact f128
  · exact f139
  · exact f143
  · exact f146
  · exact f147
  · exact f148
  · exact f149)
end Go.Proofs.YtmocapahlcaapaaGreatDoor
