/-
  The Builder's contracts at this translation, out of ToLower's laying.
-/
import Derived.Test.YtmcoloapiiakbaaGreatDoorShelf
namespace Go.Proofs.YtmcoloapiiakbaaGreatDoor.SB
theorem lays240 : Go.Proofs.Lays.n240 Tryz.prog Tryz.lays159_ren := { Tryz.lays159 with }
theorem lays166 : Go.Proofs.Lays.n166 Tryz.prog Tryz.lays159_ren := { Tryz.lays159 with }
theorem lays167 : Go.Proofs.Lays.n167 Tryz.prog Tryz.lays159_ren := { Tryz.lays159 with }
theorem lays168 : Go.Proofs.Lays.n168 Tryz.prog Tryz.lays159_ren := { Tryz.lays159 with }
theorem lays169 : Go.Proofs.Lays.n169 Tryz.prog Tryz.lays159_ren := { Tryz.lays159 with }
end Go.Proofs.YtmcoloapiiakbaaGreatDoor.SB
