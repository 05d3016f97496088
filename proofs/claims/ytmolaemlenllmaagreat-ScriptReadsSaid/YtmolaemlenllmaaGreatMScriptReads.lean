/- ScriptReads is proved: whatever comes in, the law returns true and writes nothing that was there. No condition.
   The frame of this text follows the kit's proof-skeleton program; the walk is this session's. -/
import Derived.Test.YtmolaemlenllmaaGreatMe
import Derived.WalkKit
import Derived.ProofKit
import Derived.OpenShut
import Derived.ShutString
import Derived.ChangeOld
import Derived.Below
namespace Go.Proofs.YtmolaemlenllmaaGreat.scriptReads
open Go.ChangeShapes Go.WideShapes Go.ChangeAt Go.RowKit
open Go.ChangeMaps (open_string shut_string)
set_option linter.unusedVariables false

theorem j1 : (Rows.scriptReadsRow.inPlace == Tryz.pinned.checked.prog.inPlace 5) = true := by kernel_rfl
theorem j2 : (Rows.scriptReadsRow.unfollowed == Tryz.pinned.checked.prog.unfollowed 5) = true := by kernel_rfl
theorem j3 : (Rows.scriptReadsRow.recurses == Tryz.pinned.checked.prog.recurses 5) = true := by kernel_rfl
theorem j4 : (Rows.scriptReadsRow.named == Tryz.pinned.checked.prog.varsNamed 5) = true := by kernel_rfl
theorem j5 : laidOutB Tryz.pinned.checked.prog = true := by kernel_rfl
theorem j6 : mapsRowed Tryz.pinned.checked.prog = true := by kernel_rfl
theorem closed : joinedFacts Tryz.pinned.checked.prog 5 Tryz.f5 Rows.scriptReadsSpec Rows.scriptReadsRow = true := by
  unfold joinedFacts
  rw [j1, j2, j3, j4, j5, j6]
  kernel_rfl
theorem hNamed : Tryz.pinned.checked.prog.funcNamed Rows.scriptReadsRow.func = some 5 := by kernel_rfl
theorem hInst : Tryz.f5.isInstance Tryz.pinned.checked.prog Rows.scriptReadsRow.origin Rows.scriptReadsRow.targs := of_decide_eq_true (by kernel_rfl)
theorem hWrap : Tryz.f5.isWrapper Tryz.pinned.checked.prog Rows.scriptReadsRow.wrapper Rows.scriptReadsRow.mainSum := by
  unfold Func.isWrapper; first | (rw [if_pos (by decide +kernel)]; kernel_rfl) | (rw [if_neg (by decide +kernel)]; exact ⟨rfl, rfl⟩)
theorem over : Rows.scriptReadsRow.holds Tryz.pinned (OpenSpec.ofChange Rows.scriptReadsSpec) :=
  OpenClaim.holds_of_wide 5 Tryz.f5 rfl rfl rfl rfl rfl rfl rfl ⟨rfl, rfl, rfl, rfl, rfl⟩ rfl rfl rfl rfl rfl hNamed Tryz.func5 closed hInst hWrap
    (fun os started H enc _ => lifted os started H enc)

/-- ████ THE STATEMENT ████ -/
theorem proved : Rows.ScriptReadsSaid := over
#print axioms proved
end Go.Proofs.YtmolaemlenllmaaGreat.scriptReads
