/- Proved here: strings.Join, strconv.Itoa, strconv.Atoi by the kit's contracts. No condition. -/
import Derived.Test.YtljaigbjiheohaaDoorEvW
import Derived.Test.YtljaigbjiheohaaDoorEvYj
import Derived.Test.YtljaigbjiheohaaDoorShelf
namespace Go.Proofs.YtljaigbjiheohaaDoor
open Go.RowKit
set_option linter.unusedVariables false
set_option maxRecDepth 1000000

theorem joinOK : SpecOK Tryd.prog 38 joinS := joinS_ok (by kernel_rfl) fun bk o c xs sep w h1 h2 h3 h4 h5 => Any.strings_Join Tryd.lays156 Tryd.Builder_Extra_156 bk o c xs sep w h1 h2 h3 h4 h5
theorem itoaOK : SpecOK Tryd.prog 37 itoaS := itoa_ok (by kernel_rfl) fun n w h0 h1 hF => (Any.strconv_Itoa Tryd.laysM171 n h0 h1 w hF.1).mono fun e w' ⟨he, k, os, hw⟩ => ⟨he, by rw [hw]; exact Lib.below_grow _ _ (Nat.le_refl _) k os⟩
theorem bytes_below {w w' : World} {t : TypeId} (h : w' = w ∨ ∃ u, w' = Lib.bytesWorld w t u) : Below w.heap.size w w' := by
  rcases h with rfl | ⟨u, rfl⟩
  · exact Below.refl _ _
  · exact Lib.bytesWorld_below _ _ _
theorem atoiOK : SpecOK Tryd.prog 41 (atoiS (Tryd.laysC172_ren.t 168)) := atoi_ok (by kernel_rfl)
  (fun s v w h1 h2 => (Any.strconv_Atoi_ok Tryd.laysC172 s h1 v h2 w).mono fun e w' ⟨he, hw⟩ => ⟨he, bytes_below hw⟩)
  (fun s w h1 h2 hF => by
    obtain ⟨tp, p, hv⟩ := hF.2.1
    exact (Any.strconv_Atoi_syntax_var Tryd.laysC172 s h1 h2 tp p w hv).mono fun e w' ⟨N, he, _, _, hb⟩ => ⟨_, he, hb⟩)
  (fun s w h1 h2 hF => by
    obtain ⟨tp, p, hv⟩ := hF.2.2
    exact (Any.strconv_Atoi_range_var Tryd.laysC172 s h1 h2 tp p w hv).mono fun e w' ⟨N, he, _, _, hb⟩ => ⟨_, he, hb⟩)
end Go.Proofs.YtljaigbjiheohaaDoor
