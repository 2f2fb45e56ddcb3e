/- ModelKnown, run. -/
import Derived.Test.YthdaccndnfgeeaaGreatDoorSumS
namespace Go.Proofs.YthdaccndnfgeeaaGreatDoor.CM
open Go
noncomputable def isB (r : Res) : Bool := match r with | some (.bool b, _) => b | _ => false
theorem isB_some {r : Res} (h : isB r = true) : ∃ h', r = some (.bool true, h') := by
  unfold isB at h
  split at h
  · rename_i b h'
    subst h; exact ⟨h', rfl⟩
  · cases h
theorem run_mk : isB (runF Tryz.prog GL (tabS (tab2 frcF)) 1000000000 9 [] h0) = true := by kernel_rfl
end Go.Proofs.YthdaccndnfgeeaaGreatDoor.CM
