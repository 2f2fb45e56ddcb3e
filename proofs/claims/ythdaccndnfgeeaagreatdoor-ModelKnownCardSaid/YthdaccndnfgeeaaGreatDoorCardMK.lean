/- The tied card of ModelKnown. -/
import Derived.Test.YthdaccndnfgeeaaGreatDoorRowMK
namespace Go.Proofs.YthdaccndnfgeeaaGreatDoor.modelKnown
open Go
theorem plain (f : FuncId) (fn : Func) (hf : Tryz.pinned.checked.prog.funcNamed "casemate/casematelaw31.ModelKnown" = some f) (hfn : Tryz.pinned.checked.prog.funcs[f]? = some fn) :
    true = Tryz.pinned.checked.prog.looks [] ∧ ∀ (j : Nat) t, fn.params[j]? = some t → Tryz.pinned.checked.prog.wantsStandIn t = false := by
  obtain rfl : f = 9 := Option.some.inj ((show Tryz.prog.funcNamed "casemate/casematelaw31.ModelKnown" = some 9 by kernel_rfl).symm.trans hf) |>.symm
  obtain rfl : fn = Tryz.f9 := (Option.some.inj (Tryz.func9.symm.trans hfn)).symm
  refine ⟨by kernel_rfl, fun j t ht => ?_⟩
  rw [Tryz.params9] at ht
  simp at ht
theorem wf : Rows.modelKnownRow.wfByText (OpenSpec.ofChange Rows.modelKnownSpec) = true := by kernel_rfl
theorem mains : Tryz.pinned.checked.prog.mainIs = some (true, "670c579a88a8253a3267ce09e7df95df8eaebfa2e493d8bbe6980d2f88c33fa2".toList) := by kernel_rfl
theorem goes : false = Rows.modelKnownRow.goesBy Tryz.pinned.checked.prog := by kernel_rfl
theorem card_of (hw : Walk) : Rows.ModelKnownCardSaid :=
  Claim7.holds_tied_plain_at .later [] _ _ _ _ (said hw) (fun _ h => by cases h) wf (fun _ h => by cases h) modelKnown_row_tie rfl ⟨rfl, rfl⟩ mains rfl plain goes
end Go.Proofs.YthdaccndnfgeeaaGreatDoor.modelKnown
