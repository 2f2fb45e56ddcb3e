/- More operations: the evaluator's and the model's. No program in sight. -/
import Derived.Test.YthdaccndnfgeeaaGreatDoorEvD
namespace Go.Proofs.YthdaccndnfgeeaaGreatDoor.CM
open Go
section
variable {P : Program} {ρ : Vl} {B : Nat} {w0 w : World} {h h' : Hp} {n : Nat} {rg : Rg} {a : Act} {call : Cl} {o : Oper} {v : V}
theorem ex_al (H : RH B w0 ρ h w) {T : TypeId} (hop : o.op = .alloc T) (he : exR P call rg o h = some (v, h')) : vcOp P o a w (PV B w0 ρ v h') := by
  refine vc_loud (by rw [hop]; rfl) (by rw [hop]; rfl) (by simp [hop]) ?_
  have e : semR (evA a) o = al T := by simp only [semR, hop, execOp]; rfl
  rw [e]
  simp only [exR, exO, hop] at he
  obtain ⟨u, hu, he⟩ := with1_some he
  obtain ⟨rfl, rfl⟩ := some_pair he
  exact al_sound H T hu
theorem ex_bx (H : RH B w0 ρ h w) (R : RR ρ n rg a) {T : TypeId} {x : Operand} (hop : o.op = .box T x) (he : exR P call rg o h = some (v, h')) : vcOp P o a w (PV B w0 ρ v h') := by
  refine vc_loud (by rw [hop]; rfl) (by rw [hop]; rfl) (by simp [hop]) ?_
  have e : semR (evA a) o = bx T (evA a x) := by simp only [semR, hop, execOp]; rfl
  rw [e]
  simp only [exR, exO, hop] at he
  obtain ⟨u, hu, he⟩ := with1_some he
  unfold boxK at he
  split at he
  · rename_i hn
    obtain ⟨rfl, rfl⟩ := some_pair he
    exact bx_sound H T (opV_sound R hu) hn
  · cases he
theorem ex_nc (H : RH B w0 ρ h w) (R : RR ρ n rg a) {x : Operand} (hop : o.op = .nilCheck x) (he : exR P call rg o h = some (v, h')) : vcOp P o a w (PV B w0 ρ v h') := by
  refine vc_pure (by rw [hop]; rfl) (by simp [hop]) (by simp [hop]) (by simp [hop]) ?_
  have e : semR (evA a) o = nc (evA a x) := by simp only [semR, hop, execOp]; rfl
  rw [e]
  simp only [exR, exO, hop] at he
  obtain ⟨u, hu, he⟩ := with1_some he
  have R1 := opV_sound R hu
  cases u
  case ptr b q => obtain ⟨rfl, rfl⟩ := some_pair he; exact (nc_ptr R1).pv H
  case fn f l => obtain ⟨rfl, rfl⟩ := some_pair he; exact (nc_fn R1).pv H
  case rp r q l => obtain ⟨rfl, rfl⟩ := some_pair he; exact (nc_rp R1).pv H
  all_goals cases he
theorem ex_ext (H : RH B w0 ρ h w) (R : RR ρ n rg a) {x : Operand} {i : Nat} (hop : o.op = .extract x i) (he : exR P call rg o h = some (v, h')) : vcOp P o a w (PV B w0 ρ v h') := by
  refine vc_pure (by rw [hop]; rfl) (by simp [hop]) (by simp [hop]) (by simp [hop]) ?_
  have e : semR (evA a) o = ext (evA a x) i := by simp only [semR, hop, execOp]; rfl
  rw [e]
  simp only [exR, exO, hop] at he
  obtain ⟨u, hu, he⟩ := with1_some he
  have R1 := opV_sound R hu
  cases u
  case tup l => obtain ⟨h1, rfl⟩ := pV_some he; exact (ext_sound R1 h1).pv H
  all_goals cases he
theorem ex_fld (H : RH B w0 ρ h w) (R : RR ρ n rg a) {T : TypeId} {x : Operand} {f : Nat} (hop : o.op = .field T x f) (he : exR P call rg o h = some (v, h')) : vcOp P o a w (PV B w0 ρ v h') := by
  refine vc_pure (by rw [hop]; rfl) (by simp [hop]) (by simp [hop]) (by simp [hop]) ?_
  have e : semR (evA a) o = fld T (evA a x) f := by simp only [semR, hop, execOp]; rfl
  rw [e]
  simp only [exR, exO, hop] at he
  obtain ⟨u, hu, he⟩ := with1_some he
  have R1 := opV_sound R hu
  cases u
  case agg l =>
    cases hs : fsh P T f with
    | none => rw [hs] at he; cases he
    | some s =>
      obtain ⟨q, ag, k⟩ := s
      rw [hs] at he
      cases ag with
      | true => obtain ⟨rfl, rfl⟩ := some_pair he; exact (fld_agg hs R1).pv H
      | false => obtain ⟨h1, rfl⟩ := pV_some he; exact (fld_one hs R1 h1).pv H
  all_goals cases he
theorem ixGo_some {b : Bp} {q m z j : Nat} (e : ixGo b q m z j h = some (v, h')) : Nat.blt j m = true ∧ v = .ptr b (Nat.add q (Nat.mul j z)) ∧ h' = h := by
  unfold ixGo at e
  cases hb : Nat.ble (Nat.succ j) m with
  | false => rw [hb] at e; cases e
  | true => rw [hb] at e; obtain ⟨rfl, rfl⟩ := some_pair e; exact ⟨hb, rfl, rfl⟩
theorem ixRp_some {r q m z j : Nat} {l : List V} (e : ixRp r q l m z j h = some (v, h')) : Nat.blt j m = true ∧ v = .rp r (Nat.add q (Nat.mul j z)) (dropN (Nat.mul j z) l) ∧ h' = h := by
  unfold ixRp at e
  cases hb : Nat.ble (Nat.succ j) m with
  | false => rw [hb] at e; cases e
  | true => rw [hb] at e; obtain ⟨rfl, rfl⟩ := some_pair e; exact ⟨hb, rfl, rfl⟩
theorem ixRo_some {r q z z' j : Nat} {es : List V} (e : ixRo r q es z' z j h = some (v, h')) : z' = z ∧ ∃ u, nth? es j = some u ∧ v = .rp r (Nat.add q (Nat.mul j z)) (celV u) ∧ h' = h := by
  unfold ixRo at e
  split at e
  · rename_i hz
    split at e
    · rename_i u hu
      obtain ⟨rfl, rfl⟩ := some_pair e
      exact ⟨(Nat.eq_of_beq_eq_true hz).symm, u, hu, rfl, rfl⟩
    · cases e
  · cases e
theorem ex_ixa (H : RH B w0 ρ h w) (R : RR ρ n rg a) {T : TypeId} {x i : Operand} (hop : o.op = .indexAddr T x i) (he : exR P call rg o h = some (v, h')) : vcOp P o a w (PV B w0 ρ v h') := by
  refine vc_pure (by rw [hop]; rfl) (by simp [hop]) (by simp [hop]) (by simp [hop]) ?_
  have e : semR (evA a) o = ixa T (evA a x) (evA a i) := by simp only [semR, hop, execOp]; rfl
  rw [e]
  simp only [exR, exO, hop] at he
  unfold sIxa at he
  cases hs : ixi P T with
  | none => rw [hs] at he; cases he
  | some s =>
    obtain ⟨m, z⟩ := s
    rw [hs] at he
    cases m with
    | some m =>
      obtain ⟨u, t, hu, ht, he⟩ := with2_some he
      obtain ⟨k, j, rfl, he⟩ := asNat_some he
      have R1 := opV_sound R hu
      have R2 := opV_sound R ht
      generalize evA a i = y at R2 ⊢
      cases R2
      cases u
      case ptr b q => obtain ⟨h1, rfl, rfl⟩ := ixGo_some he; exact (ixa_ptr hs h1 R1).pv H
      case rp r q l => obtain ⟨h1, rfl, rfl⟩ := ixRp_some he; exact (ixa_rp hs h1 R1).pv H
      all_goals cases he
    | none =>
      obtain ⟨u, t, hu, ht, he⟩ := with2_some he
      obtain ⟨k, j, rfl, he⟩ := asNat_some he
      have R1 := opV_sound R hu
      have R2 := opV_sound R ht
      generalize evA a i = y at R2 ⊢
      cases R2
      cases u
      case sl b q m c => obtain ⟨h1, rfl, rfl⟩ := ixGo_some he; exact (ixa_sl hs h1 R1).pv H
      case sg b q m c => obtain ⟨h1, rfl, rfl⟩ := ixGo_some he; exact (ixa_sg hs h1 R1).pv H
      case ro r q c es z' => obtain ⟨rfl, u, h1, rfl, rfl⟩ := ixRo_some he; exact (ixa_ro hs h1 R1).pv H
      all_goals cases he
end
end Go.Proofs.YthdaccndnfgeeaaGreatDoor.CM
