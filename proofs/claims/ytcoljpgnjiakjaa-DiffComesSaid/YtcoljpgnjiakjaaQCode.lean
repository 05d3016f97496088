/- Proved here: the code of the functions, written out, is what the compiler makes of the program. No condition. -/
import Derived.Test.YtcoljpgnjiakjaaQCodeA
namespace Go.Proofs.Ytcoljpgnjiakjaa
open Go.RowKit
set_option maxRecDepth 1000000
theorem mixed : Try.prog.follows .mixedOrders = true := by kernel_rfl
def tabL : List (Nat × IFunc) := [(6, c6), (8, c8), (9, c9), (10, c10), (11, c11), (12, c12), (15, c15), (17, c17), (18, c18), (19, c19), (20, c20), (21, c21), (22, c22), (23, c23), (24, c24), (25, c25), (26, c26), (30, c30), (31, c31), (33, c33), (34, c34), (35, c35), (36, c36), (37, c37), (38, c38), (39, c39), (40, c40)]
def tab (f : FuncId) : Option IFunc := look tabL f
theorem tab_ok : ∀ f F, tab f = some F → compFunc Try.prog f = some (stripF F) := look_ok tabL (by
  intro p hp
  simp only [tabL, List.mem_cons, List.not_mem_nil, or_false] at hp
  rcases hp with rfl | rfl | rfl | rfl | rfl | rfl | rfl | rfl | rfl | rfl | rfl | rfl | rfl | rfl | rfl | rfl | rfl | rfl | rfl | rfl | rfl | rfl | rfl | rfl | rfl | rfl | rfl
  · exact f6
  · exact f8
  · exact f9
  · exact f10
  · exact f11
  · exact f12
  · exact f15
  · exact f17
  · exact f18
  · exact f19
  · exact f20
  · exact f21
  · exact f22
  · exact f23
  · exact f24
  · exact f25
  · exact f26
  · exact f30
  · exact f31
  · exact f33
  · exact f34
  · exact f35
  · exact f36
  · exact f37
  · exact f38
  · exact f39
  · exact f40)
end Go.Proofs.Ytcoljpgnjiakjaa
