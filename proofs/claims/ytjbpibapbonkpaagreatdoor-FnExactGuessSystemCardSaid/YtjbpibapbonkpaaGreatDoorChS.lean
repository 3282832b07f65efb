/-
  slices.Chunk over bytes, whole chunks alone; splitBlocks.
  splitBlocks: bytes as blocks.
-/
import Derived.RangeFuncBox
import Derived.RangeFuncLeaves
import Derived.Shelf.Abstract
import Derived.WalkKit
import Derived.OwnWalkIn
import Derived.TacticsInMore
import Derived.LoopNIn
import Derived.LoopIn
import Derived.Maps.AppendAt
import Derived.RegionIn
import Derived.BigRegionIn
import Derived.Test.YtjbpibapbonkpaaGreatDoorChA
import Derived.Deep.RegionWith
namespace Go.Proofs.YtjbpibapbonkpaaGreatDoor
open Go Go.RowKit Go.Shelf lib
set_option linter.unusedVariables false
set_option maxRecDepth 100000
attribute [local go_sem] Oper.semAt_some
end Go.Proofs.YtjbpibapbonkpaaGreatDoor
namespace Go.Proofs.YtjbpibapbonkpaaGreatDoor
open Go Go.RowKit Go.Shelf lib
set_option linter.unusedVariables false
set_option maxRecDepth 100000
attribute [local go_sem] Oper.semAt_some
end Go.Proofs.YtjbpibapbonkpaaGreatDoor
