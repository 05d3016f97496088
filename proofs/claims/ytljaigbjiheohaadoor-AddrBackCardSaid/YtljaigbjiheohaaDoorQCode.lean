/- Proved here: the code of the functions, written out, is what the compiler makes of the program. No condition. -/
import Derived.Test.YtljaigbjiheohaaDoorQCodeA
namespace Go.Proofs.YtljaigbjiheohaaDoor
open Go.RowKit
set_option maxRecDepth 1000000
theorem mixed : Tryd.prog.follows .mixedOrders = true := by kernel_rfl
def tabL : List (Nat × IFunc) := [(8, c8), (10, c10), (11, c11), (13, c13), (17, c17), (18, c18), (20, c20), (24, c24), (26, c26), (28, c28), (30, c30), (32, c32), (34, c34), (35, c35), (37, c37), (38, c38), (40, c40), (41, c41), (42, c42), (43, c43), (44, c44), (45, c45), (46, c46), (47, c47), (48, c48), (49, c49), (50, c50), (51, c51), (52, c52), (54, c54), (55, c55), (56, c56), (57, c57), (58, c58), (59, c59), (60, c60), (61, c61), (62, c62), (64, c64), (68, c68), (69, c69), (70, c70), (71, c71), (72, c72), (73, c73), (74, c74), (75, c75), (76, c76), (77, c77), (78, c78), (79, c79), (80, c80)]
def tab (f : FuncId) : Option IFunc := look tabL f
theorem tab_ok : ∀ f F, tab f = some F → compFunc Tryd.prog f = some (stripF F) := look_ok tabL (by
  intro p hp
  simp only [tabL, List.mem_cons, List.not_mem_nil, or_false] at hp
  rcases hp with rfl | rfl | rfl | rfl | rfl | rfl | rfl | rfl | rfl | rfl | rfl | rfl | rfl | rfl | rfl | rfl | rfl | rfl | rfl | rfl | rfl | rfl | rfl | rfl | rfl | rfl | rfl | rfl | rfl | rfl | rfl | rfl | rfl | rfl | rfl | rfl | rfl | rfl | rfl | rfl | rfl | rfl | rfl | rfl | rfl | rfl | rfl | rfl | rfl | rfl | rfl | rfl
  · exact f8
  · exact f10
  · exact f11
  · exact f13
  · exact f17
  · exact f18
  · exact f20
  · exact f24
  · exact f26
  · exact f28
  · exact f30
  · exact f32
  · exact f34
  · exact f35
  · exact f37
  · exact f38
  · exact f40
  · exact f41
  · exact f42
  · exact f43
  · exact f44
  · exact f45
  · exact f46
  · exact f47
  · exact f48
  · exact f49
  · exact f50
  · exact f51
  · exact f52
  · exact f54
  · exact f55
  · exact f56
  · exact f57
  · exact f58
  · exact f59
  · exact f60
  · exact f61
  · exact f62
  · exact f64
  · exact f68
  · exact f69
  · exact f70
  · exact f71
  · exact f72
  · exact f73
  · exact f74
  · exact f75
  · exact f76
  · exact f77
  · exact f78
  · exact f79
  · exact f80)
end Go.Proofs.YtljaigbjiheohaaDoor
