/- Proved here: the code of the functions, written out, is what the compiler makes of the program. No condition. -/
import Derived.Test.YtapgkaecamljbaaQCodeA
namespace Go.Proofs.Ytapgkaecamljbaa
open Go.RowKit
set_option maxRecDepth 1000000
theorem mixed : Try.prog.follows .mixedOrders = true := by kernel_rfl
def tabL : List (Nat × IFunc) := [(6, c6), (11, c11), (12, c12), (13, c13), (16, c16), (17, c17), (19, c19), (22, c22), (26, c26), (27, c27), (28, c28), (29, c29), (30, c30), (33, c33), (34, c34), (35, c35), (36, c36), (37, c37), (38, c38), (41, c41), (43, c43), (49, c49), (50, c50), (51, c51), (52, c52), (53, c53), (54, c54), (55, c55), (56, c56), (59, c59), (60, c60), (61, c61), (62, c62), (66, c66), (70, c70), (73, c73), (74, c74), (75, c75), (76, c76), (77, c77), (78, c78), (79, c79), (80, c80), (81, c81), (82, c82), (83, c83), (84, c84), (87, c87), (88, c88), (89, c89), (98, c98), (99, c99), (100, c100), (109, c109)]
def tab (f : FuncId) : Option IFunc := look tabL f
theorem tab_ok : ∀ f F, tab f = some F → compFunc Try.prog f = some (stripF F) := look_ok tabL (by
  intro p hp
  simp only [tabL, List.mem_cons, List.not_mem_nil, or_false] at hp
  rcases hp with rfl | rfl | rfl | rfl | rfl | rfl | rfl | rfl | rfl | rfl | rfl | rfl | rfl | rfl | rfl | rfl | rfl | rfl | rfl | rfl | rfl | rfl | rfl | rfl | rfl | rfl | rfl | rfl | rfl | rfl | rfl | rfl | rfl | rfl | rfl | rfl | rfl | rfl | rfl | rfl | rfl | rfl | rfl | rfl | rfl | rfl | rfl | rfl | rfl | rfl | rfl | rfl | rfl | rfl
  · exact f6
  · exact f11
  · exact f12
  · exact f13
  · exact f16
  · exact f17
  · exact f19
  · exact f22
  · exact f26
  · exact f27
  · exact f28
  · exact f29
  · exact f30
  · exact f33
  · exact f34
  · exact f35
  · exact f36
  · exact f37
  · exact f38
  · exact f41
  · exact f43
  · exact f49
  · exact f50
  · exact f51
  · exact f52
  · exact f53
  · exact f54
  · exact f55
  · exact f56
  · exact f59
  · exact f60
  · exact f61
  · exact f62
  · exact f66
  · exact f70
  · exact f73
  · exact f74
  · exact f75
  · exact f76
  · exact f77
  · exact f78
  · exact f79
  · exact f80
  · exact f81
  · exact f82
  · exact f83
  · exact f84
  · exact f87
  · exact f88
  · exact f89
  · exact f98
  · exact f99
  · exact f100
  · exact f109)
end Go.Proofs.Ytapgkaecamljbaa
