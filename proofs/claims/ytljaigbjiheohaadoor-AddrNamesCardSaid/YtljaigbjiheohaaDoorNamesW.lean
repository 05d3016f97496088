/- Proved here: the call of AddrNames. No condition. -/
import Derived.Test.YtljaigbjiheohaaDoorAl
import Derived.Test.YtljaigbjiheohaaDoorDr
namespace Go.Proofs.YtljaigbjiheohaaDoor
open Go.RowKit
theorem walkAddrNames (W : World) (hd : Door W.heap.size W) : Calls Tryd.prog 9 #[] W fun e w' => e = .returned (.bool true) ∧ Below W.heap.size W w' := names_calls W hd
end Go.Proofs.YtljaigbjiheohaaDoor
