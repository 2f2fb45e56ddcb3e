/- SHA-256 of bytes of some lengths, run with free bytes. -/
import Derived.Test.YthdaccndnfgeeaaGreatDoorSum
import Derived.Test.YthdaccndnfgeeaaGreatDoorShaS
namespace Go.Proofs.YthdaccndnfgeeaaGreatDoor.CM
open Go
/-- The lengths that are shown. -/
def sumLens : List Nat := [80, 81, 82, 83, 84, 96, 102]
def sumGoal (n : Nat) : Prop := ∀ (f : Nat → Nat) (r o c : Nat), (runF Tryz.prog GL (tabS (tab1 asIs)) 100000 390 [.ro r o c (intsV .u8 ((List.range n).map f)) 1] h0).map Prod.fst = some (.agg (intsV .u8 (sumG asIs ((List.range n).map f))))
theorem sum80 : sumGoal 80 := fun f r o c => by kernel_rfl
theorem sum81 : sumGoal 81 := fun f r o c => by kernel_rfl
theorem sum82 : sumGoal 82 := fun f r o c => by kernel_rfl
theorem sum83 : sumGoal 83 := fun f r o c => by kernel_rfl
theorem sum84 : sumGoal 84 := fun f r o c => by kernel_rfl
theorem sum96 : sumGoal 96 := fun f r o c => by kernel_rfl
theorem sum102 : sumGoal 102 := fun f r o c => by kernel_rfl
theorem sum_runs : ∀ n ∈ sumLens, sumGoal n := by
  intro n hn
  simp only [sumLens, List.mem_cons, List.not_mem_nil, or_false] at hn
  rcases hn with rfl | rfl | rfl | rfl | rfl | rfl | rfl
  · exact sum80
  · exact sum81
  · exact sum82
  · exact sum83
  · exact sum84
  · exact sum96
  · exact sum102
end Go.Proofs.YthdaccndnfgeeaaGreatDoor.CM
