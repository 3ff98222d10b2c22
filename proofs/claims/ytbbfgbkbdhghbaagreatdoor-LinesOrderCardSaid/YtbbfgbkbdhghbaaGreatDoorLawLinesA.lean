/-
  What LinesOrder's row needs: the law and the reading of its arguments.
-/
import Derived.Test.YtbbfgbkbdhghbaaGreatDoorLawLines2
import Derived.Test.YtbbfgbkbdhghbaaGreatDoorLinesOpen
namespace Go.Proofs.YtbbfgbkbdhghbaaGreatDoor
end Go.Proofs.YtbbfgbkbdhghbaaGreatDoor
