/- ModelKnown's card holds. -/
import Derived.Test.YthdaccndnfgeeaaGreatDoorCardMK
import Derived.Test.YthdaccndnfgeeaaGreatDoorRunMK
namespace Go.Proofs.YthdaccndnfgeeaaGreatDoor.modelKnown
open Go
theorem walk : Walk := fun W hG => by
  obtain ⟨h', hr⟩ := CM.isB_some CM.run_mk
  exact CM.law_true CM.mo hG ((CM.tab2_ok CM.frcF_ok).sum _ _) hr
theorem card_holds : Rows.ModelKnownCardSaid := card_of walk
end Go.Proofs.YthdaccndnfgeeaaGreatDoor.modelKnown
