/- More operations: reckoning, choice, closures. No program in sight. -/
import Derived.Test.YthdaccndnfgeeaaGreatDoorEvE
namespace Go.Proofs.YthdaccndnfgeeaaGreatDoor.CM
open Go
section
variable {P : Program} {ρ : Vl} {B : Nat} {w0 w : World} {h h' : Hp} {n : Nat} {rg : Rg} {a : Act} {call : Cl} {o : Oper} {v : V}
theorem ex_un (H : RH B w0 ρ h w) (R : RR ρ n rg a) {op : UnOp} {T : TypeId} {x : Operand} (hop : o.op = .unOp op T x) (he : exR P call rg o h = some (v, h')) : vcOp P o a w (PV B w0 ρ v h') := by
  refine vc_pure (by rw [hop]; rfl) (by simp [hop]) (by simp [hop]) (by simp [hop]) ?_
  have e : semR (evA a) o = un op (evA a x) := by simp only [semR, hop, execOp]; rfl
  rw [e]
  simp only [exR, exO, hop] at he
  obtain ⟨u, hu, he⟩ := with1_some he
  obtain ⟨hr, rfl⟩ := pV_some he
  have R1 := opV_sound R hu
  unfold unV at hr
  split at hr
  · cases hr; exact (un_not R1).pv H
  · cases hr; exact (un_neg R1).pv H
  · cases hr
theorem ex_pk (H : RH B w0 ρ h w) (R : RR ρ n rg a) {c x y : Operand} (hop : o.op = .pick c x y) (he : exR P call rg o h = some (v, h')) : vcOp P o a w (PV B w0 ρ v h') := by
  refine vc_pure (by rw [hop]; rfl) (by simp [hop]) (by simp [hop]) (by simp [hop]) ?_
  have e : semR (evA a) o = pk (evA a c) (evA a x) (evA a y) := by simp only [semR, hop, execOp]; rfl
  rw [e]
  simp only [exR, exO, hop] at he
  obtain ⟨u, hu, he⟩ := with1_some he
  obtain ⟨hr, rfl⟩ := pV_some he
  have R1 := opV_sound R hu
  cases u
  case bool b =>
    cases b with
    | true => exact (pk_t R1 (opV_sound R hr)).pv H
    | false => exact (pk_f R1 (opV_sound R hr)).pv H
  all_goals cases hr
theorem ex_mkf (H : RH B w0 ρ h w) (R : RR ρ n rg a) {fn : Fn} {first cap : Array Operand} (hop : o.op = .makeFunc fn first cap) (he : exR P call rg o h = some (v, h')) : vcOp P o a w (PV B w0 ρ v h') := by
  refine vc_pure (by rw [hop]; rfl) (by simp [hop]) (by simp [hop]) (by simp [hop]) ?_
  have e : semR (evA a) o = mkf fn ⟨mapV (evA a) first.toList⟩ ⟨mapV (evA a) cap.toList⟩ := by simp only [semR, hop]; rfl
  rw [e]
  simp only [exR, exO, hop] at he
  generalize first.toList = fl at he ⊢
  cases fl with
  | cons x r => cases fn <;> cases he
  | nil =>
    cases fn with
    | func f =>
      have he : (match opVs rg cap.toList with | some l => some (.fn f l, h) | none => none) = some (v, h') := he
      split at he
      · rename_i l hl
        obtain ⟨rfl, rfl⟩ := some_pair he
        exact (mkf_sound (opVs_sound R hl)).pv H
      · cases he
    | _ => cases he
theorem bI2_some {f : IntKind → Int → Int → Option V} {y : V} {k : IntKind} {i : Int} (e : bI2 y f k i = some v) : ∃ j, y = .int k j ∧ f k i j = some v := by
  cases y with
  | int k' j =>
    have e2 : Bool.rec none (f k i j) (kbeq k k') = some v := e
    clear e
    cases hb : kbeq k k' with
    | false => rw [hb] at e2; cases e2
    | true => rw [hb] at e2; cases kbeq_eq hb; exact ⟨j, rfl, e2⟩
  | _ => cases e
theorem bI1_some {f : IntKind → Int → Int → Option V} {x y : V} (e : bI1 x f y = some v) : ∃ k i j, x = .int k i ∧ y = .int k j ∧ f k i j = some v := by
  cases x
  case int k i => obtain ⟨j, rfl, h⟩ := bI2_some (y := y) (f := f) e; exact ⟨k, i, j, rfl, rfl, h⟩
  all_goals cases e
theorem bS_some {f : IntKind → Int → Int → Option V} {x y : V} (e : bS f x y = some v) : ∃ k i k' j, x = .int k i ∧ y = .int k' j ∧ 0 ≤ j ∧ f k i j = some v := by
  cases x with
  | int k i =>
    have e1 : bS2 f k i y = some v := e
    clear e
    cases y with
    | int k' j =>
      have e2 : Bool.rec (f k i j) none (ltI j (.ofNat 0)) = some v := e1
      clear e1
      cases hb : ltI j (.ofNat 0) with
      | false => rw [hb] at e2; refine ⟨k, i, k', j, rfl, rfl, ?_, e2⟩; rw [ltI_eq] at hb; simpa using hb
      | true => rw [hb] at e2; cases e2
    | _ => cases e1
  | _ => cases e
end
end Go.Proofs.YthdaccndnfgeeaaGreatDoor.CM
