/- A key's block, run with free bytes. -/
import Derived.Test.YthdaccndnfgeeaaGreatDoorSum
import Derived.Test.YthdaccndnfgeeaaGreatDoorShaS
namespace Go.Proofs.YthdaccndnfgeeaaGreatDoor.CM
open Go
/-- The lengths of keys that are shown. -/
def padLens : List Nat := [2, 3, 32]
def padGoal (n : Nat) : Prop := ∀ (f : Nat → Nat) (w r o c : Nat), (runF Tryz.prog GL (tabS (tab1 asIs)) 100000 389 [.ro r o c (intsV .u8 ((List.range n).map f)) 1, .int .u8 (.ofNat w)] h0).map Prod.fst = some (.agg (intsV .u8 (padG asIs ((List.range n).map f) w)))
theorem pad2 : padGoal 2 := fun f w r o c => by kernel_rfl
theorem pad3 : padGoal 3 := fun f w r o c => by kernel_rfl
theorem pad32 : padGoal 32 := fun f w r o c => by kernel_rfl
theorem pad_runs : ∀ n ∈ padLens, padGoal n := by
  intro n hn
  simp only [padLens, List.mem_cons, List.not_mem_nil, or_false] at hn
  rcases hn with rfl | rfl | rfl
  · exact pad2
  · exact pad3
  · exact pad32
end Go.Proofs.YthdaccndnfgeeaaGreatDoor.CM
