/- Proved here: what is asked of the world in which a law's call begins: what the variables of strconv hold. No condition. -/
import Derived.WalkKit
import Derived.Lib.SmallJoins
import Derived.Lib.ItoaNum
import Derived.Stop.LaidErr
import Derived.Test.YtljaigbjiheohaaDoorProg
namespace Go.Proofs.YtljaigbjiheohaaDoor
open Go.RowKit
set_option linter.unusedVariables false

/-- What is known of the first world's own blocks, and of all worlds in which they are as they were. -/
def Facts (w : World) : Prop := Lib.TabIs Tryd.prog w "internal/strconv.uint64pow10" .u64 Lib.pow10Tab ∧ (∃ tp p, w.var? Tryd.prog "strconv.ErrSyntax" = some #[.iface tp p]) ∧ (∃ tp p, w.var? Tryd.prog "strconv.ErrRange" = some #[.iface tp p])
def Door (n : Nat) (w : World) : Prop := ∀ w', Below n w w' → Facts w'
theorem Door.later {n : Nat} {w w' : World} (h : Door n w) (hb : Below n w w') (hn : n ≤ w'.heap.size) : Door w'.heap.size w' := fun w'' hb' => h w'' (hb.trans (hb'.mono hn))
theorem Facts.door {w : World} (h : Facts w) : Door w.heap.size w := by
  intro w' hb
  obtain ⟨h1, ⟨t2, p2, h2⟩, ⟨t3, p3, h3⟩⟩ := h
  obtain ⟨g1, e1⟩ : ∃ g, Tryd.prog.globalNamed "internal/strconv.uint64pow10" = some g := Option.isSome_iff_exists.1 (by kernel_rfl)
  obtain ⟨g2, e2⟩ : ∃ g, Tryd.prog.globalNamed "strconv.ErrSyntax" = some g := Option.isSome_iff_exists.1 (by kernel_rfl)
  obtain ⟨g3, e3⟩ : ∃ g, Tryd.prog.globalNamed "strconv.ErrRange" = some g := Option.isSome_iff_exists.1 (by kernel_rfl)
  exact ⟨Joins.tab_stays e1 h1 hb (Nat.le_refl _), ⟨t2, p2, Joins.var_stays e2 h2 hb (Nat.le_refl _)⟩, ⟨t3, p3, Joins.var_stays e3 h3 hb (Nat.le_refl _)⟩⟩
end Go.Proofs.YtljaigbjiheohaaDoor
