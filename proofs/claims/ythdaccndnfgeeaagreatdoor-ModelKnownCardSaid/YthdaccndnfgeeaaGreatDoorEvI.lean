/- Calls of closures, and conversions. No program in sight. -/
import Derived.Test.YthdaccndnfgeeaaGreatDoorEvG
namespace Go.Proofs.YthdaccndnfgeeaaGreatDoor.CM
open Go
section
variable {P : Program} {ρ : Vl} {B : Nat} {w0 w : World} {h h' : Hp} {n : Nat} {rg : Rg} {a : Act} {call : Cl} {o : Oper} {v : V}
theorem withs_some {r : Option (List V)} {k : List V → Res} {x : V × Hp} (e : withs r k = some x) : ∃ u, r = some u ∧ k u = some x := by
  cases r with
  | none => cases e
  | some u => exact ⟨u, rfl, e⟩
theorem ex_bin (H : RH B w0 ρ h w) (R : RR ρ n rg a) {op : BinOp} {T T' : TypeId} {x y : Operand} (hop : o.op = .binOp op T x y T') (hne : op ≠ .eql ∧ op ≠ .neq) (he : exR P call rg o h = some (v, h')) : vcOp P o a w (PV B w0 ρ v h') := by
  refine vc_pure (by rw [hop]; rfl) (by simp [hop]) (by simp [hop]) (by simp [hop]) ?_
  simp only [exR, exO, hop] at he
  obtain ⟨u, t, hu, ht, he⟩ := with2_some he
  obtain ⟨hr, rfl⟩ := pV_some he
  have R1 := opV_sound R hu
  have R2 := opV_sound R ht
  have e : ∃ cx cy, ∀ K, Pu P (bin op T cx cy (evA a x) (evA a y)) K → Pu P (semR (evA a) o) K := by
    refine ⟨false, false, fun K hK => ?_⟩
    have g : ∀ (X Y : Operand), (do eqGuard op T X Y (evA a x) (evA a y); binOp op T (evA a x) (evA a y) : Sem Value) = (binOp op T (evA a x) (evA a y)) := fun X Y => by
      unfold eqGuard; cases op <;> first | rfl | exact absurd rfl hne.1 | exact absurd rfl hne.2
    have e1 : semR (evA a) o = (do pure (.value (← (do eqGuard op T x y (evA a x) (evA a y); binOp op T (evA a x) (evA a y))))) := by simp only [semR, hop, execOp]
    rw [e1, g]
    unfold bin at hK
    rw [g] at hK
    exact hK
  obtain ⟨cx, cy, e⟩ := e
  exact e _ ((binV_int hne R1 R2 hr).pv H)
theorem ex_callV (hc : CallOk P rg.g B w0 call) (H : RH B w0 ρ h w) (R : RR ρ n rg a) {f : Operand} {args : Array Operand} {ts : Array TypeId} (hop : o.op = .call { callee := .value f, args, argTypes := ts }) (he : exR P call rg o h = some (v, h')) : vcOp P o a w (PV B w0 ρ v h') := by
  simp only [exR, exO, hop] at he
  have he : sCallV f args.toList call rg h = some (v, h') := he
  obtain ⟨u, hu, he⟩ := with1_some he
  obtain ⟨l, hl, he⟩ := withs_some he
  have R1 := opV_sound R hu
  have R2 := opVs_sound R hl
  cases u with
  | fn g cap =>
    have he : call g (appL l cap) h = some (v, h') := he
    rw [appL_eq] at he
    generalize hx : evA a f = x at R1
    cases R1 with
    | fn _ _ cs hcs =>
      have hF := hc g (l ++ cap) h v h' he ρ w _ R.gl H (R2.app hcs)
      have e : (mapV (evA a) args.toList ++ cs).toArray = (⟨mapV (evA a) args.toList⟩ : Array Value) ++ cs.toArray := by simp
      rw [e] at hF
      unfold vcOp vcOpR
      simp only [hop]
      split
      · rename_i q hq; cases hq
      · rename_i q hq; cases hq
      · rename_i f' args' ts' hq
        cases hq
        have : evA a (.func f') = .func (.func f') #[] #[] := rfl
        rw [this] at hx; cases hx
        simpa using hF
      · have e2 : semR (evA a) o = cv (evA a f) ⟨mapV (evA a) args.toList⟩ := by simp only [semR, hop]; rfl
        rw [show pureOp (.call { callee := .value f, args, argTypes := ts }) = false from rfl, show readOp (.call { callee := .value f, args, argTypes := ts }) = false from rfl]
        simp only [Bool.false_eq_true, if_false]
        rw [e2, hx]
        exact cv_sound hF
  | _ => cases he
end
end Go.Proofs.YthdaccndnfgeeaaGreatDoor.CM
