/- The pass, run with free numbers. -/
import Derived.Test.YthdaccndnfgeeaaGreatDoorSha
import Derived.Test.YthdaccndnfgeeaaGreatDoorSumR
import Derived.Test.YthdaccndnfgeeaaGreatDoorGlob
namespace Go.Proofs.YthdaccndnfgeeaaGreatDoor.CM
open Go
noncomputable def S0 : FuncId → List V → Hp → Option Res := fun _ _ _ => none
theorem pass_run (w f : Nat → Nat) (r o c : Nat) : (runF Tryz.prog GL S0 100000 440 [.agg (intsV .u32 ((List.range 8).map w)), .ro r o c (intsV .u8 ((List.range 64).map f)) 1] h0).map Prod.fst = some (.agg (intsV .u32 (passG asIs ((List.range 8).map w) ((List.range 64).map f)))) := by kernel_rfl
end Go.Proofs.YthdaccndnfgeeaaGreatDoor.CM
