/- ScriptTells is proved: whatever comes in, the law returns true and writes nothing that was there. No condition.
   The frame of this text follows the kit's proof-skeleton program; the walk is this session's. -/
import Derived.Test.YtmolaemlenllmaaGreatMd
import Derived.WalkKit
import Derived.ProofKit
import Derived.OpenShut
import Derived.ShutString
import Derived.ChangeOld
import Derived.Below
import Derived.HandedShaped
namespace Go.Proofs.YtmolaemlenllmaaGreat.scriptTells
open Go.ChangeShapes Go.WideShapes Go.ChangeAt Go.RowKit
open Go.ChangeMaps (open_string shut_string)
set_option linter.unusedVariables false

theorem j1 : (Rows.scriptTellsRow.inPlace == Tryz.pinned.checked.prog.inPlace 4) = true := by kernel_rfl
theorem j2 : (Rows.scriptTellsRow.unfollowed == Tryz.pinned.checked.prog.unfollowed 4) = true := by kernel_rfl
theorem j3 : (Rows.scriptTellsRow.recurses == Tryz.pinned.checked.prog.recurses 4) = true := by kernel_rfl
theorem j4 : (Rows.scriptTellsRow.named == Tryz.pinned.checked.prog.varsNamed 4) = true := by kernel_rfl
theorem j5 : laidOutB Tryz.pinned.checked.prog = true := by kernel_rfl
theorem j6 : mapsRowed Tryz.pinned.checked.prog = true := by kernel_rfl
theorem closed : joinedFacts Tryz.pinned.checked.prog 4 Tryz.f4 Rows.scriptTellsSpec Rows.scriptTellsRow = true := by
  unfold joinedFacts
  rw [j1, j2, j3, j4, j5, j6]
  kernel_rfl
theorem hNamed : Tryz.pinned.checked.prog.funcNamed Rows.scriptTellsRow.func = some 4 := by kernel_rfl
theorem hInst : Tryz.f4.isInstance Tryz.pinned.checked.prog Rows.scriptTellsRow.origin Rows.scriptTellsRow.targs := of_decide_eq_true (by kernel_rfl)
theorem hWrap : Tryz.f4.isWrapper Tryz.pinned.checked.prog Rows.scriptTellsRow.wrapper Rows.scriptTellsRow.mainSum := by
  unfold Func.isWrapper; first | (rw [if_pos (by decide +kernel)]; kernel_rfl) | (rw [if_neg (by decide +kernel)]; exact ⟨rfl, rfl⟩)
theorem over : Rows.scriptTellsRow.holds Tryz.pinned (OpenSpec.ofChange Rows.scriptTellsSpec) :=
  OpenClaim.holds_of_wide 4 Tryz.f4 rfl rfl rfl rfl rfl rfl rfl ⟨rfl, rfl, rfl, rfl, rfl⟩ rfl rfl rfl rfl rfl hNamed Tryz.func4 closed hInst hWrap
    (fun os started H enc _ => lifted os started H enc)

/-- ████ THE STATEMENT ████ -/
theorem proved : Rows.ScriptTellsSaid := over
#print axioms proved
end Go.Proofs.YtmolaemlenllmaaGreat.scriptTells
