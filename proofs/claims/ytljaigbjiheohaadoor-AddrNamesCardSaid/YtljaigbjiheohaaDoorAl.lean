/- Proved here: the chapter's example of addresses, and what AddrNames asks: by the kernel's evaluation. No condition. -/
import Derived.Test.YtljaigbjiheohaaDoorCode
import Derived.Test.YtljaigbjiheohaaDoorNm
namespace Go.Proofs.YtljaigbjiheohaaDoor
open Go.RowKit
set_option maxRecDepth 1000000
def specs : List (FuncId × Spec) := [(38, joinS)]
theorem specs_ok : ∀ p ∈ specs, SpecOK Tryd.prog p.1 p.2 := by
  intro p hp
  simp only [specs, List.mem_cons, List.not_mem_nil, or_false] at hp
  subst hp; exact joinOK
theorem aliveRuns : isTrue ((evMix specs tab 100000 100).fn 10 [] []) = true := by kernel_rfl
theorem alive (w : World) (hd : Door w.heap.size w) : Calls Tryd.prog 10 #[] w fun e w' => e = .returned (.bool true) ∧ Below w.heap.size w w' := calls_of_mix mixed specs_ok tab_ok aliveRuns w hd
theorem namesRuns : isTrue ((evMix specs tab 100000 100).fn 9 [] []) = true := by kernel_rfl
theorem names_calls (w : World) (hd : Door w.heap.size w) : Calls Tryd.prog 9 #[] w fun e w' => e = .returned (.bool true) ∧ Below w.heap.size w w' := calls_of_mix mixed specs_ok tab_ok namesRuns w hd
end Go.Proofs.YtljaigbjiheohaaDoor
