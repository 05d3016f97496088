/- Proved here: the law's own check of its module answers true. No condition. -/
import Derived.Test.YtljaigbjiheohaaDoorCode
import Derived.Test.YtljaigbjiheohaaDoorEvW
import Derived.Test.YtljaigbjiheohaaDoorShelf
namespace Go.Proofs.YtljaigbjiheohaaDoor
open Go.RowKit
set_option maxRecDepth 1000000 in
theorem joinOK : SpecOK Tryd.prog 38 joinS := joinS_ok (by kernel_rfl) fun bk o c xs sep w h1 h2 h3 h4 h5 => Tryd.strings_Join bk o c xs sep w h1 h2 h3 h4 h5
def specs : List (FuncId × Spec) := [(38, joinS)]
theorem specs_ok : ∀ p ∈ specs, SpecOK Tryd.prog p.1 p.2 := by
  intro p hp
  simp only [specs, List.mem_cons, List.not_mem_nil, or_false] at hp
  subst hp; exact joinOK
set_option maxRecDepth 1000000 in
theorem aliveRuns : isTrue ((evMix specs tab 100000 100).fn 10 [] []) = true := by kernel_rfl
theorem alive (w : World) : Calls Tryd.prog 10 #[] w fun e w' => e = .returned (.bool true) ∧ Below w.heap.size w w' := calls_of_mix mixed specs_ok tab_ok aliveRuns w
#print axioms alive
end Go.Proofs.YtljaigbjiheohaaDoor
