/-
  The tactics and laws that the walks use, in one place.
-/
import Derived.Test.YtkomgidcgepknaaGreatDoorWrap
import Derived.Test.YtkomgidcgepknaaGreatDoorMap
import Derived.Test.YtkomgidcgepknaaGreatDoorChecked
import Derived.Deep.QuietTactic
import Derived.BigQuiet
import Derived.StillTailTactics
import Derived.Deep.OwnRows
import Derived.Laws.Tables
import Derived.Deep.DeepCutAuto
import Derived.Deep.RegionHeld3
import Derived.Defers
import Derived.IntWalk
import Derived.Laws.Pointers
import Derived.Laws.StructEq
import Derived.Shelf.SlSortCmp.QuietGrown
import Derived.StillTactics
import Derived.WalkSpells
set_option linter.unusedVariables false
set_option linter.unusedSimpArgs false
namespace Go.Proofs.YtkomgidcgepknaaGreatDoor
end Go.Proofs.YtkomgidcgepknaaGreatDoor
