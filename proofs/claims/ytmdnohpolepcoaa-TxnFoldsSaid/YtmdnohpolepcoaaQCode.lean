/- Proved here: the code of the functions, written out, is what the compiler makes of the program. No condition. -/
import Derived.Test.YtmdnohpolepcoaaQCodeA
namespace Go.Proofs.Ytmdnohpolepcoaa
open Go.RowKit
set_option maxRecDepth 1000000
theorem mixed : Try.prog.follows .mixedOrders = true := by kernel_rfl
def tabL : List (Nat × IFunc) := [(4, c4), (6, c6), (7, c7), (8, c8), (9, c9), (10, c10), (11, c11), (12, c12), (13, c13), (15, c15), (17, c17), (18, c18), (19, c19), (20, c20), (21, c21), (22, c22), (23, c23), (24, c24), (25, c25), (26, c26), (29, c29), (30, c30), (31, c31), (32, c32), (33, c33), (34, c34), (35, c35), (36, c36), (37, c37), (38, c38), (39, c39), (40, c40), (41, c41), (42, c42), (43, c43), (44, c44), (46, c46), (47, c47), (51, c51), (52, c52), (53, c53), (54, c54), (55, c55), (56, c56), (57, c57), (58, c58), (59, c59), (60, c60), (62, c62), (74, c74), (75, c75), (76, c76), (77, c77), (78, c78), (79, c79), (80, c80), (94, c94), (95, c95)]
def tab (f : FuncId) : Option IFunc := look tabL f
theorem tab_ok : ∀ f F, tab f = some F → compFunc Try.prog f = some (stripF F) := look_ok tabL (by
  intro p hp
  simp only [tabL, List.mem_cons, List.not_mem_nil, or_false] at hp
  rcases hp with rfl | rfl | rfl | rfl | rfl | rfl | rfl | rfl | rfl | rfl | rfl | rfl | rfl | rfl | rfl | rfl | rfl | rfl | rfl | rfl | rfl | rfl | rfl | rfl | rfl | rfl | rfl | rfl | rfl | rfl | rfl | rfl | rfl | rfl | rfl | rfl | rfl | rfl | rfl | rfl | rfl | rfl | rfl | rfl | rfl | rfl | rfl | rfl | rfl | rfl | rfl | rfl | rfl | rfl | rfl | rfl | rfl | rfl
  · exact f4
  · exact f6
  · exact f7
  · exact f8
  · exact f9
  · exact f10
  · exact f11
  · exact f12
  · exact f13
  · exact f15
  · exact f17
  · exact f18
  · exact f19
  · exact f20
  · exact f21
  · exact f22
  · exact f23
  · exact f24
  · exact f25
  · exact f26
  · exact f29
  · exact f30
  · exact f31
  · exact f32
  · exact f33
  · exact f34
  · exact f35
  · exact f36
  · exact f37
  · exact f38
  · exact f39
  · exact f40
  · exact f41
  · exact f42
  · exact f43
  · exact f44
  · exact f46
  · exact f47
  · exact f51
  · exact f52
  · exact f53
  · exact f54
  · exact f55
  · exact f56
  · exact f57
  · exact f58
  · exact f59
  · exact f60
  · exact f62
  · exact f74
  · exact f75
  · exact f76
  · exact f77
  · exact f78
  · exact f79
  · exact f80
  · exact f94
  · exact f95)
end Go.Proofs.Ytmdnohpolepcoaa
