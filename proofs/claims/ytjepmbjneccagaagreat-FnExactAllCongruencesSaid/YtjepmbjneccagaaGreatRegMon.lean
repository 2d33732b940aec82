/- 'IsRegularMonoid', on both sides. No condition. -/
import Derived.Test.YtjepmbjneccagaaGreatSpecF
namespace Go.Proofs.YtjepmbjneccagaaGreat
open Go.RowKit
noncomputable def RIsRegularMonoid (ms : List Mp) : Bool × Int := if moC ms [] = 0 then ((elsOf ms).all (regB (elsOf ms)), 0) else (false, moC ms [])
theorem see_nil (w : World) : SeeMaps w none [] := fun h => absurd rfl h
end Go.Proofs.YtjepmbjneccagaaGreat
