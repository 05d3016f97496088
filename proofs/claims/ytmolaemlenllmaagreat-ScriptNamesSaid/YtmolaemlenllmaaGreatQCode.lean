/- Proved here: the code of the functions, written out, is what the compiler makes of the program. No condition. -/
import Derived.Test.YtmolaemlenllmaaGreatQCodeA
namespace Go.Proofs.YtmolaemlenllmaaGreat
open Go.RowKit
set_option maxRecDepth 1000000
theorem mixed : Tryz.prog.follows .mixedOrders = true := by kernel_rfl
def tabL : List (Nat × IFunc) := [(3, c3), (7, c7), (8, c8), (9, c9), (10, c10), (12, c12), (15, c15), (17, c17), (20, c20), (21, c21), (22, c22), (23, c23), (24, c24), (25, c25), (26, c26), (27, c27), (32, c32), (33, c33), (34, c34), (35, c35), (39, c39), (40, c40), (41, c41), (42, c42), (45, c45), (47, c47), (51, c51), (58, c58), (59, c59), (60, c60), (65, c65), (66, c66), (67, c67), (68, c68), (69, c69), (70, c70), (71, c71), (79, c79), (92, c92), (104, c104), (106, c106), (107, c107), (108, c108), (109, c109), (110, c110), (124, c124), (138, c138), (139, c139), (148, c148), (149, c149), (150, c150), (161, c161), (168, c168), (170, c170), (171, c171), (172, c172), (180, c180), (194, c194), (195, c195), (196, c196), (200, c200), (201, c201), (202, c202), (213, c213), (214, c214), (215, c215), (217, c217), (218, c218), (219, c219), (220, c220), (234, c234), (235, c235), (236, c236), (245, c245), (246, c246), (247, c247), (258, c258), (269, c269), (270, c270), (292, c292)]
def tab (f : FuncId) : Option IFunc := look tabL f
theorem tab_ok : ∀ f F, tab f = some F → compFunc Tryz.prog f = some (stripF F) := look_ok tabL (by
  intro p hp
  simp only [tabL, List.mem_cons, List.not_mem_nil, or_false] at hp
  rcases hp with rfl | rfl | rfl | rfl | rfl | rfl | rfl | rfl | rfl | rfl | rfl | rfl | rfl | rfl | rfl | rfl | rfl | rfl | rfl | rfl | rfl | rfl | rfl | rfl | rfl | rfl | rfl | rfl | rfl | rfl | rfl | rfl | rfl | rfl | rfl | rfl | rfl | rfl | rfl | rfl | rfl | rfl | rfl | rfl | rfl | rfl | rfl | rfl | rfl | rfl | rfl | rfl | rfl | rfl | rfl | rfl | rfl | rfl | rfl | rfl | rfl | rfl | rfl | rfl | rfl | rfl | rfl | rfl | rfl | rfl | rfl | rfl | rfl | rfl | rfl | rfl | rfl | rfl | rfl | rfl
  · exact f3
  · exact f7
  · exact f8
  · exact f9
  · exact f10
  · exact f12
  · exact f15
  · exact f17
  · exact f20
  · exact f21
  · exact f22
  · exact f23
  · exact f24
  · exact f25
  · exact f26
  · exact f27
  · exact f32
  · exact f33
  · exact f34
  · exact f35
  · exact f39
  · exact f40
  · exact f41
  · exact f42
  · exact f45
  · exact f47
  · exact f51
  · exact f58
  · exact f59
  · exact f60
  · exact f65
  · exact f66
  · exact f67
  · exact f68
  · exact f69
  · exact f70
  · exact f71
  · exact f79
  · exact f92
  · exact f104
  · exact f106
  · exact f107
  · exact f108
  · exact f109
  · exact f110
  · exact f124
  · exact f138
  · exact f139
  · exact f148
  · exact f149
  · exact f150
  · exact f161
  · exact f168
  · exact f170
  · exact f171
  · exact f172
  · exact f180
  · exact f194
  · exact f195
  · exact f196
  · exact f200
  · exact f201
  · exact f202
  · exact f213
  · exact f214
  · exact f215
  · exact f217
  · exact f218
  · exact f219
  · exact f220
  · exact f234
  · exact f235
  · exact f236
  · exact f245
  · exact f246
  · exact f247
  · exact f258
  · exact f269
  · exact f270
  · exact f292)
end Go.Proofs.YtmolaemlenllmaaGreat
