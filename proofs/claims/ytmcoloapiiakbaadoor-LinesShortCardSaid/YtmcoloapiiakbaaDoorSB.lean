/-
  The Builder's contracts at this translation, out of ToLower's laying.
-/
import Derived.Test.YtmcoloapiiakbaaDoorShelf
namespace Go.Proofs.YtmcoloapiiakbaaDoor.SB
theorem lays240 : Go.Proofs.Lays.n240 Tryd.prog Tryd.lays159_ren := { Tryd.lays159 with }
theorem lays166 : Go.Proofs.Lays.n166 Tryd.prog Tryd.lays159_ren := { Tryd.lays159 with }
theorem lays167 : Go.Proofs.Lays.n167 Tryd.prog Tryd.lays159_ren := { Tryd.lays159 with }
theorem lays168 : Go.Proofs.Lays.n168 Tryd.prog Tryd.lays159_ren := { Tryd.lays159 with }
theorem lays169 : Go.Proofs.Lays.n169 Tryd.prog Tryd.lays159_ren := { Tryd.lays159 with }
end Go.Proofs.YtmcoloapiiakbaaDoor.SB
