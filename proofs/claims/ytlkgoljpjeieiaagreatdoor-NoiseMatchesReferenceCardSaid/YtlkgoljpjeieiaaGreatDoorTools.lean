/-
  The tactics and laws that the walks use, in one place.
-/
import Derived.Test.YtlkgoljpjeieiaaGreatDoorWrap
import Derived.Test.YtlkgoljpjeieiaaGreatDoorMap
import Derived.Test.YtlkgoljpjeieiaaGreatDoorChecked
import Derived.Deep.QuietTactic
import Derived.BigQuiet
import Derived.StillTailTactics
import Derived.Deep.OwnRows
import Derived.Laws.Tables
import Derived.Deep.DeepCutAuto
import Derived.Deep.RegionHeld3
import Derived.Defers
import Derived.IntWalk
import Derived.Laws.Pointers
import Derived.Laws.StructEq
import Derived.Shelf.SlSortCmp.QuietGrown
import Derived.StillTactics
import Derived.WalkSpells
set_option linter.unusedVariables false
set_option linter.unusedSimpArgs false
namespace Go.Proofs.YtlkgoljpjeieiaaGreatDoor
end Go.Proofs.YtlkgoljpjeieiaaGreatDoor
